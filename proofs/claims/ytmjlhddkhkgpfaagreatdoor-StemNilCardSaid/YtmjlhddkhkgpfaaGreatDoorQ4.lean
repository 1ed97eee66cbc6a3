/- Contracts of layer 6 (fact) and its reference: Apply of the reference; where a key stands. (Merged and shortened by program: SPool2 SPool3 SPool4 SRef4 MLaw4a SLaw4 Rep4 Rep5 Rep6 SRead MFact SFact SKey SRec SFact2 MLeaf MBerger MHead MDeed MPlay MPlay2 MPlay3 MPlay4 MRises MCuts MPage MJour MJour2 SJour SJour2 SScan SScan2 Rep7 SPut11 SLoad SLaw12 SChip MLaw12 SScan3 SFact3 SFact4.) -/
import Derived.Test.YtmjlhddkhkgpfaaGreatDoorQ3
set_option linter.unusedVariables false
set_option linter.unusedSimpArgs false
set_option maxRecDepth 20000
open Go.IntKind (i64 u64 u32 u8)
namespace Go.Den
theorem ChipRep.lt {w:World} {p:Nat} {c:Chip} {L:Loc} {G:Nat->Prop} (h:ChipRep w p c L G):∀ x,x∈p :: L.bb :: L.locs->x<w.heap.size:=by
 intro x hx
 simp only [List.mem_cons] at hx
 rcases hx with rfl | rfl | hx
 .exact (Array.getElem?_eq_some_iff.1 h.head).1
 .exact OwnAt.blk h.bad rfl
 .obtain ⟨j,hj,e⟩:=List.getElem_of_mem hx
  obtain ⟨vs0,_,hv0⟩:=h.rows
  obtain ⟨l,cap,hl,_,hbi⟩:=hv0 j (by rw [<- h.len];exact hj)
  rw [List.getElem?_eq_getElem hj,e] at hl
  cases hl
  exact OwnAt.blk hbi rfl
theorem write_half {w:World} {M:PLoc} {P:Pool} {c:Chip} {L:Loc} {G:Nat->Prop} (h:PC w M P c L G) {i:Nat} (hi:i<c.nb) {kind:UInt8} {era:Nat} (hera:era<4294967296) {R:Value->World->Prop}
  (hR:∀ w' L',Upd (PF M L) w w'->SameLoc L L'->PC w' M (writeHead P c i kind era).1 (writeHead P c i kind era).2.1 L' G->R (.int .i64 ((writeHead P c i kind era).2.2:Nat)) w') :
  ∃ x11:Int,World.cell? w ⟨M.q,0+2,none⟩= some (Value.int .u64 x11)/\
  storeP w ⟨M.q,0+2,none⟩ [Value.int .u64 (u64.wrap (x11+1))] fun w9 =>
  ∀ w10:World,Drew w9 w10->
  ∃ S2:World->Prop,S2 w10/\
  ∃ p4:Option Addr,(∀ u3,S2 u3->World.cell? u3 ⟨M.q,0,none⟩= some (Value.pointer p4))/\
  ∃ x12:Int,(∀ u4,S2 u4->World.cell? u4 ⟨M.q,0+2,none⟩= some (Value.int .u64 x12))/\
  CallsR prog K.nand_Chip_Geo #[Value.pointer p4] w10 fun v7 w11 =>
  ∃ x13:Int,∃ x14:Int,∃ x15:Int,∃ x16:Int,v7=Value.agg #[Value.int .i64 x13,Value.int .i64 x14,Value.int .i64 x15,Value.int .i64 x16]/\S2 w11/\
  CallsR prog K.pool_PutHead #[Value.int .i64 x15,Value.agg #[Value.int .u8 (kind.toNat:Int),Value.int .u32 (era:Int),Value.int .u64 x12]] w11 fun v8 w12 =>
  ∃ (a3:Option Addr) (l3 c3:Nat),∃ x17:Int,v8=Value.tuple #[Value.slice a3 l3 c3,Value.int .i64 x17]/\S2 w12/\
  ∃ p5:Option Addr,World.cell? w12 ⟨M.q,0,none⟩= some (Value.pointer p5)/\
  CallsR prog K.nand_Chip_Program #[Value.pointer p5,Value.int .i64 (i:Int),Value.int .i64 0,Value.slice a3 l3 c3] w12 fun v9 w13 =>
  ∃ x18:Int,v9=Value.int .i64 x18/\
  CallsR prog K.pool_Pool_look #[Value.pointer (some ⟨M.q,0,none⟩),Value.int .i64 (i:Int)] w13 fun v10 w14=>v10=Value.tuple #[]/\R (Value.int .i64 x18) w14:=by
 refine ⟨_,cell_of h.head rfl,store_of h.head (by simp) fun W9 hput=>?_⟩
 have hq:u64.wrap ((P.last:Int)+1)=((P.raise.last:Nat):Int):=by
  rw [wu64_mod];rfl
 have hlast:P.raise.last<18446744073709551616:=Nat.mod_lt _ (by omega)
 have h9:PC W9 M P.raise c L G:=h.rehead (Put.upd1 hput) (last:=P.raise.last) (turn:=P.turn) h.turn (by
  have:=hput.get
  rw [this,hq];rfl)
 intro W10 hd10
 have h10:=h9.ext hd10.upd
 have hu10:Upd (·=M.q) w W10:=(Put.upd1 hput).then hd10.upd
 refine ⟨fun u=>Ext W10 u,Upd.refl _ _,_,fun u hu=>cell_of (h10.ext hu).head rfl,_,fun u hu=>cell_of (h10.ext hu).head rfl,?_⟩
 refine (nand_Geo_spec h10.chip).mono ?_
 rintro _ W11 ⟨rfl,he11⟩
 refine ⟨_,_,_,_,rfl,he11,?_⟩
 refine (pool_PutHead_spec (c.sz:Nat) ⟨kind,era,P.raise.last⟩ ⟨hera,hlast⟩ W11).mono ?_
 rintro _ W12 ⟨he12,a3,c3,rfl,hb3,hf3,_⟩
 have e12:=he11.trans he12
 have h12:=h10.ext e12
 have h11:=h10.ext he11
 refine ⟨_,_,_,_,rfl,e12,_,cell_of h12.head rfl,?_⟩
 refine (nand_Program_spec h12.chip (i:Int) 0 (cp:=c3) hb3 (fun p hp hm=>?_)).mono ?_
 .have h1:=hf3 p hp
  have h2:=h11.chip.lt p.block (by
   simp only [List.mem_cons] at hm ⊢
   rcases hm with hm | hm
   .exact .inl hm
   .exact .inr (.inr hm))
  omega
 rintro _ W13 ⟨hu13,L',hs13,h13,rfl⟩
 have hpc13:PC W13 M P.raise _ L' G:=h12.rechip hu13 h13 hs13 (Chip.program_geo _ _ _ _) (fun x hx=>(h.apart x hx).2)
 refine ⟨_,rfl,?_⟩
 refine (pool_look_spec hpc13 (by rw [(Chip.program_geo c (i:Int) 0 _).1];exact hi)).mono ?_
 rintro _ W14 ⟨rfl,hu14,h14⟩
 refine ⟨rfl,hR W14 L' ?_ hs13 h14⟩
 refine (((hu10.mono fun x _ hx=>.inl hx).then e12).trans (hu13.mono fun x _ hx=>.inr (.inr hx))).trans (hu14.mono fun x _ hx=>.inr (.inl hx))
theorem pool_try_spec {w:World} {M:PLoc} {P:Pool} {c:Chip} {L:Loc} {G:Nat->Prop} (h:PC w M P c L G) {i:Nat} (hi:i<c.nb) {kind:UInt8} {era:Nat} (hera:era<4294967296) :
  CallsR prog K.pool_Pool_try #[.pointer (some ⟨M.q,0,none⟩),.int .i64 i,bv kind,.int .u32 era] w fun v w'=>v= .int .i64 ((tryBlk P c i kind era).2.2:Nat)/\Upd (PF M L) w w'/\∃ L',SameLoc L L'/\PC w' M (tryBlk P c i kind era).1 (tryBlk P c i kind era).2.1 L' G:=by
 apply pool_Pool_try.sh
 simp only [pool_Pool_try.body,nilC_some',add_lit]
 refine ⟨_,_,_,cell_of h.head rfl,?_⟩
 refine h.idx hi fun hr=>?_
 have hc:=RowAt.cell hr (i:=0) (v:=.int .i64 (P.blk i).what) rfl
 obtain ⟨b,o,hab,hc⟩:=hc
 cases hab
 refine ⟨_,hc,br_eq (fun h1=>?_) fun h1=>?_⟩
 .have ht:tryBlk P c i kind era=if (c.erase i).2≠0 then (P.relook (c.erase i).1 i,(c.erase i).1,(c.erase i).2) else writeHead (P.relook (c.erase i).1 i) (c.erase i).1 i kind era:=by
   unfold tryBlk;rw [if_pos (by omega)]
  rw [ht]
  refine ⟨_,cell_of h.head rfl,?_⟩
  refine (nand_Erase_spec h.chip (i:Int)).mono ?_
  rintro _ w1 ⟨hu1,L1,hs1,hc1,rfl⟩
  have hg:=Chip.erase_geo c (i:Int)
  have hp1:PC w1 M P _ L1 G:=h.rechip hu1 hc1 hs1 hg (fun x hx=>(h.apart x hx).2)
  refine ⟨_,rfl,?_⟩
  refine (pool_look_spec hp1 (by rw [hg.1];exact hi)).mono ?_
  rintro _ w2 ⟨rfl,hu2,hp2⟩
  refine ⟨rfl,?_⟩
  have hu12:Upd (PF M L) w w2:=(hu1.mono fun x _ hx=>.inr (.inr hx)).trans (hu2.mono fun x _ hx=>.inr (.inl hx))
  refine br_ne (fun hne=>?_) fun heq=>?_
  .rw [if_pos (by omega)]
   exact ⟨by trivial,hu12,L1,hs1,hp2⟩
  .rw [if_neg (by omega)]
   refine write_half (kind:=kind) hp2 (by rw [hg.1];exact hi) hera (R:=fun v w'=>v= .int .i64 ((writeHead (P.relook (c.erase i).1 i) (c.erase i).1 i kind era).2.2:Nat)/\Upd (PF M L) w w'/\∃ L',SameLoc L L'/\PC w' M (writeHead (P.relook (c.erase i).1 i) (c.erase i).1 i kind era).1 (writeHead (P.relook (c.erase i).1 i) (c.erase i).1 i kind era).2.1 L' G) fun w' L' hu' hs' hp'=>⟨by trivial,hu12.trans (by rw [PF.same hs1] at hu';exact hu'),L',hs1.trans hs',hp'⟩
 .have ht:tryBlk P c i kind era=writeHead P c i kind era:=by unfold tryBlk;rw [if_neg (by omega)]
  rw [ht]
  exact write_half (kind:=kind) h hi hera (R:=fun v w'=>v= .int .i64 ((writeHead P c i kind era).2.2:Nat)/\Upd (PF M L) w w'/\∃ L',SameLoc L L'/\PC w' M (writeHead P c i kind era).1 (writeHead P c i kind era).2.1 L' G) fun w' L' hu' hs' hp'=>⟨by trivial,hu',L',hs',hp'⟩
theorem SameLoc.symm {A B:Loc} (h:SameLoc A B):SameLoc B A:=by
 obtain ⟨a,b,c,d,e⟩:=h
 exact ⟨a.symm,b.symm,c.symm,d.symm,e.symm⟩
theorem tryBlk_geo (P:Pool) (c:Chip) (i:Nat) (kind:UInt8) (era:Nat):c.SameGeo (tryBlk P c i kind era).2.1:=by
 unfold tryBlk writeHead
 split
 .split
  .exact Chip.erase_geo _ _
  .exact (Chip.erase_geo _ _).trans (Chip.program_geo _ _ _ _)
 .exact Chip.program_geo _ _ _ _
theorem pool_Take_spec {w:World} {M:PLoc} {P:Pool} {c:Chip} {L:Loc} {G:Nat->Prop} (h:PC w M P c L G) {kind:UInt8} {era:Nat} (hera:era<4294967296) :
  CallsR prog K.pool_Pool_Take #[.pointer (some ⟨M.q,0,none⟩),bv kind,.int .u32 era] w fun v w' =>
   v= .tuple #[.int .i64 ((takePool P c kind era).block:Nat),.int .i64 ((takePool P c kind era).err:Nat)]/\Upd (PF M L) w w'/\∃ L',SameLoc L L'/\PC w' M (takePool P c kind era).pool (takePool P c kind era).chip L' G:=by
 apply pool_Pool_Take.sh
 unfold pool_Pool_Take.body
 refine (pool_off_spec h).mono ?_
 rintro _ _ ⟨rfl,rfl⟩
 rename_i w
 refine ⟨_,rfl,?_⟩
 simp only [br_false,nilC_some',add_lit]
 have hno:(kind.toNat<1\/kind.toNat > 3\/era<1)->takePool P c kind era=⟨P,c,0,2⟩:=fun hc=>by unfold takePool;rw [if_pos hc]
 refine ⟨fun u=>u=w/\¬ (kind.toNat<1\/kind.toNat > 3\/era<1),?_,?_⟩
 .refine br_dec (fun h1=>?_) fun h1=>br_dec (fun h2=>?_) fun h2=>br_dec (fun h3=>?_) fun h3=>⟨by trivial,by omega⟩
  .rw [hno (by omega)];exact ⟨by trivial,Upd.refl _ _,L,SameLoc.refl _,h⟩
  .rw [hno (by omega)];exact ⟨by trivial,Upd.refl _ _,L,SameLoc.refl _,h⟩
  .rw [hno (by omega)];exact ⟨by trivial,Upd.refl _ _,L,SameLoc.refl _,h⟩
 rintro w2 ⟨rfl,hcond⟩
 refine (pool_alive_spec h).mono ?_
 rintro _ w3 ⟨rfl,he3⟩
 refine ⟨_,rfl,br_ne (fun hne=>?_) fun heq=>?_⟩
 .have:takePool P c kind era=⟨P,c,0,c.ask 0 0⟩:=by unfold takePool;rw [if_neg hcond,if_pos (by omega)]
  rw [this]
  exact ⟨by trivial,Upd.ext he3,L,SameLoc.refl _,h.ext he3⟩
 have ht:takePool P c kind era=takeGo kind era P c (List.range c.nb):=by unfold takePool;rw [if_neg hcond,if_neg (by omega)]
 rw [ht]
 have h3:=h.ext he3
 have hnb1:=h.chip.ok.nb1
 have hnb2:=h.chip.ok.nb2
 refine ⟨_,_,_,cell_of h3.head rfl,?_⟩
 refine ⟨fun x u=>∃ (k:Nat) (P':Pool) (c':Chip) (L':Loc),x=k/\k<=c.nb/\Upd (PF M L) w2 u/\SameLoc L L'/\c.SameGeo c'/\PC u M P' c' L' G/\takeGo kind era P c (List.range c.nb)=takeGo kind era P' c' ((List.range c.nb).drop k),
  fun x _=>(c.nb - x).toNat,⟨0,P,c,L,rfl,by omega,Upd.ext he3,SameLoc.refl _,.refl _,h3,by simp⟩,?_⟩
 rintro x u ⟨k,P',c',L',rfl,hk,hu,hsl,hg,hp,htg⟩
 refine br_dec (fun hlt=>?_) fun hge=>?_
 .have hk':k<c.nb:=by omega
  have hturn:=hp.turn
  rw [hg.1] at hturn
  have hdrop:(List.range c.nb).drop k=k :: (List.range c.nb).drop (k+1):=by
   rw [List.drop_eq_getElem_cons (by simpa using hk')];simp
  have hmod:(P'.turn+k) % c.nb<c.nb:=Nat.mod_lt _ (by omega)
  have e1:i64.wrap ((k:Int)+1)=((k+1:Nat):Int):=w64 (by omega) (by omega)
  have e2:i64.wrap ((P'.turn:Int)+(k:Int))=((P'.turn+k:Nat):Int):=w64 (by omega) (by omega)
  have hnext:∀ {u':World} {P2:Pool} {c2:Chip} {L2:Loc},Upd (PF M L) w2 u'->SameLoc L L2->c.SameGeo c2->PC u' M P2 c2 L2 G->takeGo kind era P c (List.range c.nb)=takeGo kind era P2 c2 ((List.range c.nb).drop (k+1))->
    (∃ (k':Nat) (P':Pool) (c':Chip) (L':Loc),i64.wrap ((k:Int)+1)=k'/\k'<=c.nb/\Upd (PF M L) w2 u'/\SameLoc L L'/\c.SameGeo c'/\PC u' M P' c' L' G/\takeGo kind era P c (List.range c.nb)=takeGo kind era P' c' ((List.range c.nb).drop k'))/\
     ((c.nb:Int) - i64.wrap ((k:Int)+1)).toNat<((c.nb:Int) - (k:Int)).toNat:=by
   intro u' P2 c2 L2 a1 a2 a3 a4 a5
   rw [e1]
   exact ⟨⟨k+1,P2,c2,L2,rfl,hk',a1,a2,a3,a4,a5⟩,by omega⟩
  refine ⟨_,cell_of hp.head rfl,by omega,_,cell_of hp.head rfl,?_⟩
  rw [e2,tmod_nat]
  rw [hdrop] at htg
  refine (nand_Bad_spec hp.chip _).mono ?_
  rintro _ _ ⟨rfl,rfl⟩
  rename_i u
  have hd0:decide ((0:Int)<=(((P'.turn+k) % c.nb:Nat):Int))=true:=decide_eq_true (by omega)
  refine ⟨_,rfl,?_⟩
  rw [hd0,Bool.true_and,Int.toNat_natCast]
  refine br_intro (fun hb=>?_) fun hb=>?_
  .refine hnext hu hsl hg hp ?_
   rw [htg,takeGo,if_pos (.inl (by rw [hg.1];exact hb))]
  refine ⟨_,_,_,cell_of hp.head rfl,?_⟩
  refine hp.idx (by rw [hg.1];exact hmod) fun hr=>?_
  obtain ⟨b',o',hab,hc⟩:=RowAt.cell hr (i:=0) (v:=.int .i64 (P'.blk ((P'.turn+k) % c.nb)).what) rfl
  cases hab
  refine ⟨_,hc,br_eq (fun h2=>?_) fun h2=>?_⟩
  .refine hnext hu hsl hg hp ?_
   rw [htg,takeGo,if_pos (.inr (by rw [hg.1];omega))]
  have hcnd:¬ (c'.isBad ((P'.turn+k) % c'.nb)=true\/(P'.blk ((P'.turn+k) % c'.nb)).what=2):=by
   rw [hg.1,hb];simp;omega
  rw [takeGo,if_neg hcnd,hg.1] at htg
  refine (pool_try_spec hp (by rw [hg.1];exact hmod) hera).mono ?_
  rintro _ u' ⟨rfl,hu',L2,hs2,hp2⟩
  rw [PF.same hsl] at hu'
  have hg2:=hg.trans (tryBlk_geo P' c' ((P'.turn+k) % c.nb) kind era)
  refine ⟨_,rfl,br_eq (fun h0=>?_) fun h0=>?_⟩
  .rw [if_pos (by omega)] at htg
   refine store_of hp2.head (by simp) fun w7 hput=>?_
   have e3:i64.wrap ((((P'.turn+k) % c.nb:Nat):Int)+1)=(((P'.turn+k) % c.nb+1:Nat):Int):=w64 (by omega) (by omega)
   have h7:=hp2.rehead (Put.upd1 hput) (last:=(tryBlk P' c' ((P'.turn+k) % c.nb) kind era).1.last) (turn:=(P'.turn+k) % c.nb+1) (by rw [hg2.1];exact hmod) (by
    have:=hput.get
    rw [this,e3];rfl)
   rw [htg]
   exact ⟨by trivial,(hu.trans hu').trans ((Put.upd1 hput).mono fun x _ hx=>.inl hx),L2,hsl.trans hs2,h7⟩
  rw [if_neg (by omega)] at htg
  refine br_eq (fun h10=>?_) fun h10=>?_
  .rw [if_pos (by omega)] at htg
   rw [htg,h10]
   exact ⟨by trivial,hu.trans hu',L2,hsl.trans hs2,hp2⟩
  .rw [if_neg (by omega)] at htg
   exact hnext (hu.trans hu') (hsl.trans hs2) hg2 hp2 htg
 .have:k=c.nb:=by omega
  subst this
  rw [List.drop_of_length_le (by simp)] at htg
  rw [htg]
  exact ⟨by trivial,hu,L',hsl,hp⟩
theorem pool_Chip_spec {w:World} {M:PLoc} {P:Pool} {c:Chip} {L:Loc} {G:Nat->Prop} (h:PC w M P c L G) :
  CallsR prog K.pool_Pool_Chip #[.pointer (some ⟨M.q,0,none⟩)] w fun v w'=>v= .pointer (some ⟨M.p,0,none⟩)/\w'=w:=by
 apply pool_Pool_Chip.sh
 unfold pool_Pool_Chip.body
 refine (pool_off_spec h).mono ?_
 rintro _ _ ⟨rfl,rfl⟩
 refine ⟨_,rfl,?_⟩
 simp only [br_false,nilC_some',add_lit]
 exact ⟨_,cell_of h.head rfl,by trivial,by trivial⟩
theorem pool_Blanks_spec {w:World} {M:PLoc} {P:Pool} {c:Chip} {L:Loc} {G:Nat->Prop} (h:PC w M P c L G) :
  CallsR prog K.pool_Pool_Blanks #[.pointer (some ⟨M.q,0,none⟩)] w fun v w'=>v= .int .i64 (blanksPool P c:Nat)/\Ext w w':=by
 apply pool_Pool_Blanks.sh
 unfold pool_Pool_Blanks.body
 refine (pool_off_spec h).mono ?_
 rintro _ _ ⟨rfl,rfl⟩
 rename_i w
 refine ⟨_,rfl,?_⟩
 simp only [br_false,nilC_some',add_lit]
 have hnb2:=h.chip.ok.nb2
 refine ⟨_,_,_,cell_of h.head rfl,?_⟩
 refine ⟨fun x y u=>∃ i:Nat,y=i/\i<=c.nb/\Ext w u/\x=(((List.range i).filter fun i=>decide ((P.blk i).what≠2) && !c.isBad i).length:Nat),fun _ y _=>(c.nb - y).toNat,⟨0,rfl,by omega,Upd.refl _ _,rfl⟩,?_⟩
 rintro x y u ⟨i,rfl,hi,hu,rfl⟩
 have hpu:=h.ext hu
 refine br_dec (fun hlt=>?_) fun hge=>?_
 .have hi':i<c.nb:=by omega
  have e1:i64.wrap ((i:Int)+1)=((i+1:Nat):Int):=w64 (by omega) (by omega)
  have hle:((List.range i).filter fun i=>decide ((P.blk i).what≠2) && !c.isBad i).length<=i:=Nat.le_trans (List.length_filter_le _ _) (by simp)
  refine hpu.idx hi' fun hr=>?_
  refine ⟨(P.blk i).what,(P.blk i).head.kind.toNat,(P.blk i).head.era,(P.blk i).head.seq,RowAt.cells hr,fun B w3 hn3=>?_⟩
  refine store_of hn3.get (by simp) fun w4 hput4=>?_
  have hB:B=u.heap.size:=hn3.num
  have e4:Ext w w4:=Put.upd (hu.trans hn3.upd) hput4 (.inl (by have:=hu.size;omega))
  have hg4:=hput4.get
  have hp4:=h.ext e4
  refine ⟨(P.blk i).what,?_,?_⟩
  .refine cell_of hg4 ?_
   rw [splice_all _ _ (by simp)];rfl
  have hrs:∀ b:Bool,(decide ((P.blk i).what≠2) && !c.isBad i)=b->(((List.range (i+1)).filter fun i=>decide ((P.blk i).what≠2) && !c.isBad i).length:Nat)=((List.range i).filter fun i=>decide ((P.blk i).what≠2) && !c.isBad i).length+if b then 1 else 0:=by
   intro b hb
   rw [List.range_succ,List.filter_append,List.length_append]
   simp only [List.filter_cons,hb,List.filter_nil]
   cases b<;>rfl
  refine br_ne (fun hne=>?_) fun heq=>?_
  .refine ⟨_,cell_of hp4.head rfl,?_⟩
   refine (nand_Bad_spec hp4.chip _).mono ?_
   rintro _ _ ⟨rfl,rfl⟩
   rename_i w4
   have hd0:decide ((0:Int)<=((i:Nat):Int))=true:=decide_eq_true (by omega)
   have hd1:decide ((P.blk i).what≠2)=true:=decide_eq_true (by omega)
   refine ⟨_,rfl,?_⟩
   rw [hd0,Bool.true_and,Int.toNat_natCast,e1]
   refine br_intro (fun hb=>?_) fun hb=>?_
   .have:=hrs true (by rw [hd1,hb];rfl)
    refine ⟨⟨i+1,rfl,hi',e4,?_⟩,meas hi'⟩
    rw [this,w64 (by omega) (by omega)]
    simp
   .have:=hrs false (by rw [hd1,hb];rfl)
    refine ⟨⟨i+1,rfl,hi',e4,?_⟩,meas hi'⟩
    rw [this]
    simp
  .rw [e1]
   have hd1:decide ((P.blk i).what≠2)=false:=decide_eq_false (by omega)
   have:=hrs false (by rw [hd1];rfl)
   refine ⟨⟨i+1,rfl,hi',e4,?_⟩,meas hi'⟩
   rw [this]
   simp
 .have:i=c.nb:=by omega
  subst this
  exact ⟨by trivial,hu⟩
theorem zerosL_flat {α:Type} (f:α->List Value) (b:α) (n:Nat):zerosL (f b) n=(List.replicate n b).flatMap f:=by
 induction n with
 | zero=>rfl
 | succ n ih=>simp [zerosL,List.replicate_succ] at ih ⊢;try exact ih
theorem pool_Scan_spec {w:World} {p:Nat} {c:Chip} {L:Loc} {G:Nat->Prop} (h:ChipRep w p c L G) (hG:∀ x,G x->x<w.heap.size) :
  CallsR prog K.pool_Scan #[.pointer (some ⟨p,0,none⟩)] w fun v w'=>Ext w w'/\
   if c.dead then v= .tuple #[.pointer none,.int .i64 10]
   else ∃ q pb,v= .tuple #[.pointer (some ⟨q,0,none⟩),.int .i64 0]/\w.heap.size<=q/\w.heap.size<=pb/\q<w'.heap.size/\pb<w'.heap.size/\PC w' ⟨q,pb,c.nb,p⟩ (scanPool c) c L G:=by
 have hok:=h.ok
 have hnb1:=hok.nb1
 have hnb2:=hok.nb2
 apply pool_Scan.sh
 refine ⟨fun u=>Ext w u,?_,?_⟩
 .simp only [Option.isNone_some,br_false]
  refine (nand_Geo_spec h).mono ?_
  rintro _ w1 ⟨rfl,he1⟩
  exact ⟨_,_,_,_,rfl,br_eq (fun h=>by omega) fun _=>he1⟩
 intro w2 he2
 have h2:=h.ext he2
 refine (nand_Read_spec h2 0 0).mono ?_
 rintro v w3 ⟨he3,hv⟩
 have e3:=he2.trans he3
 rw [ask00 hok] at hv
 rcases Bool.eq_false_or_eq_true c.dead with hd | hd
 .rw [hd] at hv
  simp only [if_true,if_neg (show ¬ (10=0) by omega)] at hv
  subst hv
  refine ⟨_,_,_,_,rfl,br_ne (fun _=>⟨e3,?_⟩) fun h=>by omega⟩
  rw [if_pos hd]
  rfl
 rw [hd] at hv
 simp only [Bool.false_eq_true,if_false,if_true] at hv
 obtain ⟨a,cp,rfl,_⟩:=hv
 refine ⟨_,_,_,_,rfl,br_ne (fun h=>by omega) fun _=>?_⟩
 have h3:=h.ext e3
 refine (nand_Geo_spec h3).mono ?_
 rintro _ w4 ⟨rfl,he4⟩
 have e4:=e3.trans he4
 refine ⟨_,_,_,_,rfl,?_⟩
 refine ⟨by omega,by omega,by omega,by omega,rfl,fun pb w5 hn5 q w6 hn6=>?_⟩
 have e6:=(e4.trans hn5.upd).trans hn6.upd
 have h6:=h.ext e6
 have hpb:pb=w4.heap.size:=hn5.num
 have hq:q=w5.heap.size:=hn6.num
 have hs4:=e4.size
 have hs5:=hn5.size
 have hs6:=hn6.size
 simp only [Int.toNat_natCast] at hn5 hn6 ⊢
 have hz:zerosL [Value.int .i64 0,Value.int .u8 0,Value.int .u32 0,Value.int .u64 0] c.nb=(List.replicate c.nb Blk.zero).flatMap Blk.vals:=zerosL_flat Blk.vals Blk.zero c.nb
 rw [hz] at hn5
 have hpc6:PC w6 ⟨q,pb,c.nb,p⟩ (scanGo c 0) c L G:=by
  refine ⟨h6,hn6.get,?_,Nat.zero_le _,fun x hx=>?_,by show q≠pb;omega⟩
  .have:=OwnAt.new (n:=c.nb) (size:=4) hn5 (by simp [Blk.vals])
   exact OwnAt.ext this hn6.upd
  .have hxw:w.heap.size<=x:=by
    rcases hx with hx | hx
    .have:x=q:=hx
     omega
    .have:x=pb:=hx
     omega
   exact ⟨fun hm=>by have:=h.lt x hm;omega,fun hg=>by have:=hG x hg;omega⟩
 simp only [add_lit]
 refine ⟨_,_,_,cell_of hn6.get rfl,?_⟩
 refine ⟨fun x u=>∃ i:Nat,x=i/\i<=c.nb/\Upd (fun x=>x=q\/x=pb) w6 u/\PC u ⟨q,pb,c.nb,p⟩ (scanGo c i) c L G,fun x _=>(c.nb - x).toNat,⟨0,rfl,by omega,Upd.refl _ _,hpc6⟩,?_⟩
 rintro x u ⟨i,rfl,hi,hu,hp⟩
 have hfin:∀ {u':World},Upd (fun x=>x=q\/x=pb) w6 u'->Ext w u':=fun hu'=>Upd.beyond e6 hu' (fun x hx=>by rcases hx with rfl | rfl<;>omega)
 refine br_dec (fun hlt=>?_) fun hge=>?_
 .have hi':i<c.nb:=by omega
  have e1:i64.wrap ((i:Int)+1)=((i+1:Nat):Int):=w64 (by omega) (by omega)
  refine (pool_look_spec hp hi').mono ?_
  rintro _ w8 ⟨rfl,hu8,hp8⟩
  have hu08:Upd (fun x=>x=q\/x=pb) w6 w8:=hu.trans (hu8.mono fun x _ hx=>.inr hx)
  refine ⟨rfl,_,_,_,cell_of hp8.head rfl,hp8.idx hi' fun hr=>?_⟩
  simp only [add_lit]
  generalize hP8:(scanGo c i).relook c i=P8 at *
  have hc1:=RowAt.cells (RowAt.drop hr 1)
  refine ⟨(P8.blk i).head.kind.toNat,(P8.blk i).head.era,(P8.blk i).head.seq,hc1,fun B w9 hn9=>?_⟩
  rw [head_zero] at hn9
  refine head_put (h:=(P8.blk i).head) hn9.get rfl fun w10 hput10=>?_
  have hB:B=w8.heap.size:=hn9.num
  have hs8:=hu08.size
  have hu10:Upd (fun x=>x=q\/x=pb) w6 w10:=Put.upd (hu08.then hn9.upd) hput10 (.inl (by omega))
  intro w11 hd11
  have hu11:=hu10.then hd11.upd
  have e811:Ext w8 w11:=(Put.upd hn9.upd hput10 (.inl (by omega))).trans hd11.upd
  have hp11:=hp8.ext e811
  have hg11:=Ext.get hd11.upd hput10.get
  have hgo:scanGo c (i+1)=if (P8.blk i).head.seq > (scanGo c i).last\/((P8.blk i).head.seq=(scanGo c i).last/\(P8.blk i).head.seq > 0) then { P8 with last:=(P8.blk i).head.seq,turn:=i+1 } else P8:=by
   rw [scanGo,hP8]
  have hl8:P8.last=(scanGo c i).last:=by rw [<- hP8];rfl
  have hset:((P8.blk i).head.seq > (scanGo c i).last\/((P8.blk i).head.seq=(scanGo c i).last/\(P8.blk i).head.seq > 0))->
    storeP w11 ⟨q,0+2,none⟩ [Value.int .u64 ((P8.blk i).head.seq:Nat)] fun w12 =>
    storeP w12 ⟨q,0+3,none⟩ [Value.int .i64 (i64.wrap ((i:Int)+1))] fun w13 =>
     (∃ i':Nat,i64.wrap ((i:Int)+1)=i'/\i'<=c.nb/\Upd (fun x=>x=q\/x=pb) w6 w13/\PC w13 ⟨q,pb,c.nb,p⟩ (scanGo c i') c L G)/\((c.nb:Int) - i64.wrap ((i:Int)+1)).toNat<((c.nb:Int) - (i:Int)).toNat:=by
   intro hcnd
   refine store_of hp11.head (by simp) fun W12 hput12=>?_
   refine store_of hput12.get (by simp [splice]) fun W13 hput13=>?_
   rw [e1]
   have hq2:=(Put.upd1 hput12).trans (Put.upd1 hput13)
   refine ⟨⟨i+1,rfl,hi',hu11.trans (hq2.mono fun x _ hx=>.inl hx),?_⟩,meas hi'⟩
   rw [hgo,if_pos hcnd]
   refine hp11.rehead hq2 (last:=(P8.blk i).head.seq) (turn:=i+1) hi' ?_
   have:=hput13.get
   rw [this,e1];rfl
  have hkeep:¬ ((P8.blk i).head.seq > (scanGo c i).last\/((P8.blk i).head.seq=(scanGo c i).last/\(P8.blk i).head.seq > 0))->
    (∃ i':Nat,i64.wrap ((i:Int)+1)=i'/\i'<=c.nb/\Upd (fun x=>x=q\/x=pb) w6 w11/\PC w11 ⟨q,pb,c.nb,p⟩ (scanGo c i') c L G)/\((c.nb:Int) - i64.wrap ((i:Int)+1)).toNat<((c.nb:Int) - (i:Int)).toNat:=by
   intro hcnd
   rw [e1]
   refine ⟨⟨i+1,rfl,hi',hu11,?_⟩,meas hi'⟩
   rw [hgo,if_neg hcnd]
   exact hp11
  have hcq:World.cell? w11 ⟨q,0+2,none⟩= some (.int .u64 ((scanGo c i).last:Nat)):=by rw [<- hl8];exact cell_of hp11.head rfl
  refine ⟨fun v=>v=w11,rfl,_,fun v hv=>hv ▸ cell_of hg11 rfl,_,fun v hv=>hv ▸ hcq,br_dec (fun h1=>?_) fun h1=>?_⟩
  .exact ⟨_,cell_of hg11 rfl,hset (.inl (by omega))⟩
  refine ⟨_,fun v hv=>hv ▸ cell_of hg11 rfl,_,fun v hv=>hv ▸ hcq,br_eq (fun h2=>?_) fun h2=>hkeep (by omega)⟩
  refine ⟨_,fun v hv=>hv ▸ cell_of hg11 rfl,br_dec (fun h3=>?_) fun h3=>hkeep (by omega)⟩
  exact ⟨_,cell_of hg11 rfl,hset (.inr (by omega))⟩
 .have:i=c.nb:=by omega
  subst this
  have hsu:=hu.size
  refine ⟨hfin hu,?_⟩
  rw [if_neg (by rw [hd];simp)]
  exact ⟨q,pb,rfl,by omega,by omega,by omega,by omega,hp⟩
def pref {α:Type} (lt:α->α->Bool) (l:List α) (i:Nat):List α:=(l.take i).foldl (fun acc x=>sink lt x acc) []
theorem sink_length {α:Type} (lt:α->α->Bool) (x:α) (l:List α):(sink lt x l).length=l.length+1:=by
 induction l with
 | nil=>rfl
 | cons y l ih=>unfold sink;split<;>simp [ih]
theorem pref_succ {α:Type} (lt:α->α->Bool) (l:List α) (i:Nat) (hi:i<l.length):pref lt l (i+1)=sink lt l[i] (pref lt l i):=by
 unfold pref
 rw [List.take_succ_eq_append_getElem hi,List.foldl_append]
 rfl
theorem pref_length {α:Type} (lt:α->α->Bool) (l:List α) (i:Nat) (hi:i<=l.length):(pref lt l i).length=i:=by
 induction i with
 | zero=>simp [pref]
 | succ i ih=>rw [pref_succ lt l i hi,sink_length,ih (by omega)]
theorem pref_all {α:Type} (lt:α->α->Bool) (l:List α):(pref lt l l.length).reverse=isort lt l:=by simp [pref,isort]
theorem sink_mem {α:Type} (lt:α->α->Bool) (x y:α) (l:List α):y∈sink lt x l ↔ y=x\/y∈l:=by
 induction l with
 | nil=>simp [sink]
 | cons z l ih =>
  unfold sink
  split
  .simp [ih];constructor
   .rintro (h | h | h)
    .exact .inr (.inl h)
    .exact .inl h
    .exact .inr (.inr h)
   .rintro (h | h | h)
    .exact .inr (.inl h)
    .exact .inl h
    .exact .inr (.inr h)
  .simp
theorem isort_mem {α:Type} (lt:α->α->Bool) (y:α) (l:List α):y∈isort lt l ↔ y∈l:=by
 unfold isort
 rw [List.mem_reverse]
 have:∀ (acc:List α),y∈l.foldl (fun acc x=>sink lt x acc) acc ↔ y∈acc\/y∈l:=by
  induction l with
  | nil=>intro acc;simp
  | cons x l ih =>
   intro acc
   rw [List.foldl_cons,ih,sink_mem]
   simp only [List.mem_cons]
   constructor
   .rintro ((h | h) | h)
    .exact .inr (.inl h)
    .exact .inl h
    .exact .inr (.inr h)
   .rintro (h | h | h)
    .exact .inl (.inr h)
    .exact .inl (.inl h)
    .exact .inr h
 rw [this];simp
theorem isort_length {α:Type} (lt:α->α->Bool) (l:List α):(isort lt l).length=l.length:=by
 rw [<- pref_all,List.length_reverse,pref_length lt l _ (Nat.le_refl _)]
abbrev takenV (t:Taken):Value:=.agg #[.int .i64 t.block,bv t.head.kind,.int .u32 t.head.era,.int .u64 t.head.seq,.bool t.bad]
theorem pool_Taken_1_spec (a b:Taken) (ha:a.block<1000000) (hb:b.block<1000000) (w:World) :
  CallsR prog K.pool_Pool_Taken_1 #[takenV a,takenV b] w fun v w'=>∃ x:Int,v= .int .i64 x/\decide (x<0)=takenLt a b/\Ext w w':=by
 apply pool_Pool_Taken_1.sh
 intro B1 w1 hn1 B2' w2 hn2
 have e2:=hn1.upd.trans hn2.upd
 have h1:=Ext.get hn2.upd hn1.get
 have h2:=hn2.get
 simp only [add_lit]
 refine ⟨_,cell_of h1 rfl,_,cell_of h2 rfl,br_dec (fun hlt=>⟨_,rfl,?_,e2⟩) fun hge=>⟨_,cell_of h1 rfl,_,cell_of h2 rfl,br_dec (fun hgt=>⟨_,rfl,?_,e2⟩) fun hle=>⟨_,cell_of h1 rfl,_,cell_of h2 rfl,_,rfl,?_,e2⟩⟩⟩
 .have q:decide (a.head.seq<b.head.seq)=true:=decide_eq_true (by omega)
  simp [takenLt,q]
 .have q:decide (a.head.seq<b.head.seq)=false:=decide_eq_false (by omega)
  have q2:decide (a.head.seq=b.head.seq)=false:=decide_eq_false (by omega)
  simp [takenLt,q,q2]
 .have q:decide (a.head.seq<b.head.seq)=false:=decide_eq_false (by omega)
  have q2:decide (a.head.seq=b.head.seq)=true:=decide_eq_true (by omega)
  rw [w64 (by omega) (by omega)]
  simp only [takenLt,q,q2,Bool.false_or,Bool.true_and]
  exact decide_eq_decide.2 (by omega)
theorem swap_list {α:Type} (A R:List α) (x y:α):((A ++ y :: x :: R).set (A.length+1) y).set A.length x=A ++ x :: y :: R:=by
 rw [List.set_append_right _ _ (by omega),List.set_append_right _ _ (by omega)]
 simp
theorem own_set {α:Type} {f:α->List Value} {k:Nat} (hf:∀ x,(f x).length=k) {w:World} {b cap:Nat} {e:TypeId} {l:List α} (h:OwnAt w (some ⟨b,0,none⟩) l.length cap e k (l.flatMap f)) {i:Nat} (hi:i<l.length) (x:α) {K:World->Prop}
  (hk:∀ w',Upd (·=b) w w'->OwnAt w' (some ⟨b,0,none⟩) (l.set i x).length cap e k ((l.set i x).flatMap f)->K w'):storeP w ⟨b,i * k,none⟩ (f x) K:=by
 refine own_store h (by rw [flat_len hf,hf,<- Nat.succ_mul];exact Nat.mul_le_mul_right _ hi) fun w' hu ho=>hk w' hu ?_
 rw [hf,flat_set hf l hi x] at ho
 rw [List.length_set]
 exact ho
theorem insertionSort_spec {w:World} {a:Option Addr} {l:List Taken} {cap cp:Nat} (h:OwnAt w a l.length cap T.api_Taken 5 (l.flatMap Taken.vals)) (hb:∀ t∈l,t.block<1000000) (hl:l.length<1000) :
  CallsR prog K.slices_insertionSortCmpFunc_api_Taken #[.slice a l.length cp,.int .i64 0,.int .i64 l.length,.func (.func K.pool_Pool_Taken_1) #[] #[]] w fun v w'=>v= .tuple #[]/\Upd (fun b=>a=some ⟨b,0,none⟩) w w'/\OwnAt w' a (isort takenLt l).length cap T.api_Taken 5 ((isort takenLt l).flatMap Taken.vals):=by
 apply slices_insertionSortCmpFunc_api_Taken.sh
 have e01:i64.wrap ((0:Int)+1)=((1:Nat):Int):=by decide
 unfold slices_insertionSortCmpFunc_api_Taken.body
 rw [e01]
 refine ⟨fun x u=>∃ i:Nat,x=i/\1<=i/\(i<=l.length\/i=1)/\Upd (fun b=>a=some ⟨b,0,none⟩) w u/\OwnAt u a ((pref takenLt l i).reverse ++ l.drop i).length cap T.api_Taken 5 (((pref takenLt l i).reverse ++ l.drop i).flatMap Taken.vals),
  fun x _=>(l.length - x).toNat,⟨1,rfl,by omega,.inr rfl,Upd.refl _ _,?_⟩,?_⟩
 .have:(pref takenLt l 1).reverse ++ l.drop 1=l:=by
   cases l with
   | nil=>rfl
   | cons x l=>rfl
  rw [this];exact h
 rintro x u ⟨i,rfl,hi1,hi,hu,ho⟩
 refine br_dec (fun hlt=>?_) fun hge=>?_
 .have hil:i<l.length:=by omega
  have hpl:=pref_length takenLt l i (by omega)
  have hdrop:l.drop i=l[i] :: l.drop (i+1):=List.drop_eq_getElem_cons hil
  have hblk:∀ t,t∈pref takenLt l i->t.block<1000000:=by
   intro t ht
   have:t∈isort takenLt (l.take i):=by unfold isort;exact List.mem_reverse.2 ht
   rw [isort_mem] at this
   exact hb t (List.mem_of_mem_take this)
  have hbi:l[i].block<1000000:=hb _ (List.getElem_mem hil)
  rw [hdrop] at ho
  obtain ⟨B,rfl⟩: ∃ B,a=some ⟨B,0,none⟩:=by
   obtain ⟨_,_,hx⟩:=h
   rcases hx with ⟨_,hx,_⟩| ⟨b,cur,hx,_⟩
   .omega
   .exact ⟨b,hx⟩
  have hF:∀ {u u':World},Upd (·=B) u u'->Upd (fun b=>(some ⟨B,0,none⟩: Option Addr)=some ⟨b,0,none⟩) u u':=fun k=>k.mono fun x _ hx=>by rw [hx]
  have e1:i64.wrap ((i:Int)+1)=((i+1:Nat):Int):=w64 (by omega) (by omega)
  refine ⟨fun x v=>∃ A D:List Taken,x=(A.length:Int)/\pref takenLt l i=D ++ A/\sink takenLt l[i] (pref takenLt l i)=D ++ sink takenLt l[i] A/\Upd (fun b=>(some ⟨B,0,none⟩: Option Addr)=some ⟨b,0,none⟩) w v/\
    OwnAt v (some ⟨B,0,none⟩) (A.reverse ++ l[i] :: (D.reverse ++ l.drop (i+1))).length cap T.api_Taken 5 ((A.reverse ++ l[i] :: (D.reverse ++ l.drop (i+1))).flatMap Taken.vals),fun x _=>x.toNat,⟨pref takenLt l i,[],by rw [hpl],rfl,rfl,hu,ho⟩,?_⟩
  rintro y v ⟨A,D,rfl,hAD,hsk,huv,hov⟩ w3 hd3
  have hlen:∀ X:Taken,(A.reverse ++ X :: (D.reverse ++ l.drop (i+1))).length=l.length:=by
   intro X
   have:D.length+A.length=i:=by rw [<- hpl,hAD,List.length_append]
   simp;omega
  have hend:∀ {v':World},sink takenLt l[i] A=l[i] :: A->Upd (fun b=>(some ⟨B,0,none⟩: Option Addr)=some ⟨b,0,none⟩) w v'->
    OwnAt v' (some ⟨B,0,none⟩) (A.reverse ++ l[i] :: (D.reverse ++ l.drop (i+1))).length cap T.api_Taken 5 ((A.reverse ++ l[i] :: (D.reverse ++ l.drop (i+1))).flatMap Taken.vals)->
    (∃ i':Nat,i64.wrap ((i:Int)+1)=i'/\1<=i'/\(i'<=l.length\/i'=1)/\Upd (fun b=>(some ⟨B,0,none⟩: Option Addr)=some ⟨b,0,none⟩) w v'/\OwnAt v' (some ⟨B,0,none⟩) ((pref takenLt l i').reverse ++ l.drop i').length cap T.api_Taken 5 (((pref takenLt l i').reverse ++ l.drop i').flatMap Taken.vals))/\
     ((l.length:Int) - i64.wrap ((i:Int)+1)).toNat<((l.length:Int) - (i:Int)).toNat:=by
   intro v' hs hu' ho'
   rw [e1]
   refine ⟨⟨i+1,rfl,by omega,.inl hil,hu',?_⟩,meas hil⟩
   have:(pref takenLt l (i+1)).reverse ++ l.drop (i+1)=A.reverse ++ l[i] :: (D.reverse ++ l.drop (i+1)):=by
    rw [pref_succ takenLt l i hil,hsk,hs]
    simp
   rw [this];exact ho'
  have hov3:=OwnAt.ext hov hd3.upd
  have huv3:=huv.then hd3.upd
  refine ⟨fun z=>z=w3,rfl,br_dec (fun hpos=>?_) fun hzero=>?_⟩
  .obtain ⟨y,A',rfl⟩: ∃ y A',A=y :: A':=by
    cases A with
    | nil=>simp at hpos
    | cons y A'=>exact ⟨y,A',rfl⟩
   have hly:=hlen l[i]
   simp only [List.reverse_cons,List.append_assoc,List.singleton_append,List.length_cons] at hov3 hpos hly ⊢
   generalize hR:D.reverse ++ l.drop (i+1)=R at *
   have hA:A'.reverse.length=A'.length:=List.length_reverse
   have hlx:A'.length+1<(A'.reverse ++ y :: l[i] :: R).length:=by simp
   have hgx:(A'.reverse ++ y :: l[i] :: R)[A'.length+1]=l[i]:=by rw [List.getElem_append_right (by omega)];simp
   have hgy:(A'.reverse ++ y :: l[i] :: R)[A'.length]=y:=by rw [List.getElem_append_right (by omega)];simp
   have em:i64.wrap (((A'.length+1:Nat):Int) - 1)=((A'.length:Nat):Int):=by rw [w64 (by omega) (by omega)];omega
   rw [em]
   refine idx_flat (f:=Taken.vals) (l:=A'.reverse ++ y :: l[i] :: R) Taken.vals_length (by omega) hov3.row (by omega) hlx fun b o hab hr=>?_
   cases hab
   rw [hgx] at hr
   refine ⟨l[i].block,l[i].head.kind.toNat,l[i].head.era,l[i].head.seq,l[i].bad,fun z hz=>hz ▸ RowAt.cells hr,?_⟩
   refine idx_flat (f:=Taken.vals) (l:=A'.reverse ++ y :: l[i] :: R) Taken.vals_length (by omega) hov3.row (by omega) (by omega) fun b o hab hr=>?_
   cases hab
   rw [hgy] at hr
   refine ⟨y.block,y.head.kind.toNat,y.head.era,y.head.seq,y.bad,fun z hz=>hz ▸ RowAt.cells hr,?_⟩
   have hby:y.block<1000000:=hblk y (by rw [hAD];simp)
   refine ⟨rfl,?_⟩
   refine (pool_Taken_1_spec l[i] y hbi hby w3).mono ?_
   rintro _ w4 ⟨x11,rfl,hx11,he4⟩
   have hov4:=OwnAt.ext hov3 he4
   have huv4:=huv3.then he4
   refine ⟨_,rfl,?_⟩
   rw [hx11]
   refine br_intro (fun ht=>?_) fun hf=>?_
   .intro w5 hd5
    have hov5:=OwnAt.ext hov4 hd5.upd
    have huv5:=huv4.then hd5.upd
    refine ⟨fun z=>z=w5,rfl,?_⟩
    refine idx_flat (f:=Taken.vals) (l:=A'.reverse ++ y :: l[i] :: R) Taken.vals_length (by omega) hov5.row (by omega) (by omega) fun b o hab hr=>?_
    cases hab
    rw [hgy] at hr
    refine ⟨y.block,y.head.kind.toNat,y.head.era,y.head.seq,y.bad,fun z hz=>hz ▸ RowAt.cells hr,?_⟩
    refine idx_flat (f:=Taken.vals) (l:=A'.reverse ++ y :: l[i] :: R) Taken.vals_length (by omega) hov5.row (by omega) hlx fun b o hab hr=>?_
    cases hab
    rw [hgx] at hr
    refine ⟨l[i].block,l[i].head.kind.toNat,l[i].head.era,l[i].head.seq,l[i].bad,fun z hz=>hz ▸ RowAt.cells hr,?_⟩
    refine idx_flat (f:=Taken.vals) (l:=A'.reverse ++ y :: l[i] :: R) Taken.vals_length (by omega) hov5.row (by omega) hlx fun b o hab _=>?_
    cases hab
    rw [Nat.zero_add]
    refine own_set Taken.vals_length hov5 hlx y fun w6 hu6 ho6=>?_
    refine idx_flat (f:=Taken.vals) Taken.vals_length (by omega) ho6.row (by rw [List.length_set];omega) (by rw [List.length_set];omega) fun b o hab _=>?_
    cases hab
    rw [Nat.zero_add]
    refine own_set Taken.vals_length ho6 (by rw [List.length_set];omega) l[i] fun w7 hu7 ho7=>?_
    have hsw:((A'.reverse ++ y :: l[i] :: R).set (A'.length+1) y).set A'.length l[i]=A'.reverse ++ l[i] :: y :: R:=by
     have:=swap_list A'.reverse R l[i] y
     rw [hA] at this
     exact this
    rw [hsw] at ho7
    refine ⟨⟨A',D ++ [y],rfl,by rw [hAD];simp,?_,(huv5.trans (hF hu6)).trans (hF hu7),?_⟩,by omega⟩
    .rw [hsk]
     have:sink takenLt l[i] (y :: A')=y :: sink takenLt l[i] A':=by rw [sink,if_pos ht]
     rw [this];simp
    .have:A'.reverse ++ l[i] :: ((D ++ [y]).reverse ++ l.drop (i+1))=A'.reverse ++ l[i] :: y :: R:=by rw [<- hR];simp
     rw [this];exact ho7
   .refine hend ?_ huv4 ?_
    .rw [sink,if_neg (by rw [hf];simp)]
    .simp only [List.reverse_cons,List.append_assoc,List.singleton_append]
     exact hov4
  .have:A=[]:=List.eq_nil_of_length_eq_zero (by omega)
   subst this
   exact hend rfl huv3 hov3
 .refine ⟨by trivial,hu,?_⟩
  rcases hi with hi | hi
  .have:i=l.length:=by omega
   subst this
   rw [pref_all,List.drop_length,List.append_nil] at ho
   exact ho
  .subst hi
   have:(pref takenLt l 1).reverse ++ l.drop 1=isort takenLt l:=by
    match l,hge with
    | [],_=>rfl
    | [x],_=>rfl
    | x :: y :: l,hge=>simp at hge;omega
   rw [this] at ho
   exact ho
theorem sortStable_spec {w:World} {a:Option Addr} {l:List Taken} {cap cp:Nat} (h:OwnAt w a l.length cap T.api_Taken 5 (l.flatMap Taken.vals)) (hb:∀ t∈l,t.block<1000000) (hl:l.length<20) :
  CallsR prog K.slices_SortStableFunc_api_Taken #[.slice a l.length cp,.func (.func K.pool_Pool_Taken_1) #[] #[]] w fun v w'=>v= .tuple #[]/\Upd (fun b=>a=some ⟨b,0,none⟩) w w'/\OwnAt w' a (isort takenLt l).length cap T.api_Taken 5 ((isort takenLt l).flatMap Taken.vals):=by
 apply slices_SortStableFunc_api_Taken.sh
 have key:CallsR prog K.slices_stableCmpFunc_api_Taken #[.slice a l.length cp,.int .i64 l.length,.func (.func K.pool_Pool_Taken_1) #[] #[]] w fun v w'=>v= .tuple #[]/\Upd (fun b=>a=some ⟨b,0,none⟩) w w'/\OwnAt w' a (isort takenLt l).length cap T.api_Taken 5 ((isort takenLt l).flatMap Taken.vals):=by
  apply slices_stableCmpFunc_api_Taken.sh
  refine ⟨fun x y u=>x=0/\y=20/\u=w,fun _ _ _=>0,⟨rfl,rfl,rfl⟩,?_⟩
  rintro x y u ⟨rfl,rfl,rfl⟩
  refine br_dec (fun h=>by omega) fun _=>?_
  refine (insertionSort_spec (cp:=cp) h hb (by omega)).mono ?_
  rintro _ w3 ⟨rfl,hu,ho⟩
  refine ⟨rfl,fun x u=>x=20/\u=w3,fun _ _=>0,⟨rfl,rfl⟩,?_⟩
  rintro x v ⟨rfl,rfl⟩
  exact br_dec (fun h=>by omega) fun _=>⟨by trivial,hu,ho⟩
 refine key.mono ?_
 rintro _ w' ⟨rfl,hr⟩
 exact ⟨rfl,by trivial,hr⟩
theorem takenRaw_length (P:Pool) (c:Chip) (n:Nat):(takenRaw P c n).length<=n:=by
 unfold takenRaw
 exact Nat.le_trans (List.length_filterMap_le _ _) (by simp)
theorem takenRaw_succ (P:Pool) (c:Chip) (n:Nat):takenRaw P c (n+1)=takenRaw P c n ++ if (P.blk n).what=2 then [⟨n,(P.blk n).head,c.isBad n⟩] else []:=by
 unfold takenRaw
 rw [List.range_succ,List.filterMap_append]
 congr 1
 simp only [List.filterMap_cons,List.filterMap_nil]
 split<;>simp_all
theorem takenRaw_block {P:Pool} {c:Chip} {n:Nat} {t:Taken} (h:t∈takenRaw P c n):t.block<n:=by
 unfold takenRaw at h
 rw [List.mem_filterMap] at h
 obtain ⟨i,hi,h⟩:=h
 split at h
 .simp at h hi
  rw [<- h];exact hi
 .cases h
theorem pool_Taken_spec {w:World} {M:PLoc} {P:Pool} {c:Chip} {L:Loc} {G:Nat->Prop} (h:PC w M P c L G) (hnb:(takenPool P c).length<20) :
  CallsR prog K.pool_Pool_Taken #[.pointer (some ⟨M.q,0,none⟩)] w fun v w'=>Ext w w'/\∃ a cap,v= .slice a (takenPool P c).length cap/\OwnAt w' a (takenPool P c).length cap T.api_Taken 5 ((takenPool P c).flatMap Taken.vals)/\Fresh w a:=by
 have hnbr:(takenRaw P c c.nb).length<20:=by
  have:=hnb
  unfold takenPool at this
  rwa [isort_length] at this
 have hnb2:=h.chip.ok.nb2
 apply pool_Pool_Taken.sh
 unfold pool_Pool_Taken.body
 refine (pool_off_spec h).mono ?_
 rintro _ _ ⟨rfl,rfl⟩
 rename_i w
 refine ⟨_,rfl,?_⟩
 simp only [br_false,nilC_some',add_lit]
 refine ⟨_,_,_,cell_of h.head rfl,?_⟩
 refine ⟨fun a l cap x u=>∃ i:Nat,x=i/\i<=c.nb/\l=(takenRaw P c i).length/\Ext w u/\OwnAt u a (takenRaw P c i).length cap T.api_Taken 5 ((takenRaw P c i).flatMap Taken.vals)/\Fresh w a,fun _ _ _ x _=>(c.nb - x).toNat,
  ⟨0,rfl,by omega,rfl,Upd.refl _ _,OwnAt.nil _ _ _,Fresh.none _⟩,?_⟩
 rintro a l cap x u ⟨i,rfl,hi,rfl,hu,ho,hf⟩
 have hpu:=h.ext hu
 refine br_dec (fun hlt=>?_) fun hge=>?_
 .have hi':i<c.nb:=by omega
  have e1:i64.wrap ((i:Int)+1)=((i+1:Nat):Int):=w64 (by omega) (by omega)
  have hlen:=takenRaw_length P c i
  have hsucc:=takenRaw_succ P c i
  refine hpu.idx hi' fun hr=>?_
  refine ⟨(P.blk i).what,(P.blk i).head.kind.toNat,(P.blk i).head.era,(P.blk i).head.seq,RowAt.cells hr,fun B w3 hn3=>?_⟩
  refine store_of hn3.get (by simp) fun w4 hput4=>?_
  have hB:B=u.heap.size:=hn3.num
  have hsu:=hu.size
  have e34:Ext u w4:=Put.upd hn3.upd hput4 (.inl (by omega))
  have e4:=hu.trans e34
  have hg4:=hput4.get
  rw [splice_all _ _ (by simp)] at hg4
  have hp4:=h.ext e4
  refine ⟨(P.blk i).what,cell_of hg4 rfl,br_eq (fun h2=>?_) fun h2=>?_⟩
  .rw [if_pos (by omega)] at hsucc
   intro w5 hd5
   have e5:=e4.trans hd5.upd
   have hp5:=h.ext e5
   have hg5:=Ext.get hd5.upd hg4
   have hs3:=hn3.size
   have hs4:=hput4.size
   have hown:∀ b,a=some ⟨b,0,none⟩->w.heap.size<=b/\b<u.heap.size:=fun b hb=>⟨hf _ hb,OwnAt.blk ho hb⟩
   have hqw:M.q<w.heap.size:=(Array.getElem?_eq_some_iff.1 h.head).1
   refine ⟨fun v=>Upd (fun b=>a=some ⟨b,0,none⟩) w5 v,Upd.refl _ _,(P.blk i).head.kind.toNat,(P.blk i).head.era,(P.blk i).head.seq,fun v hv=>?_,_,fun v hv=>cell_of (hv.get hp5.head (fun e=>by have:=hown _ e;omega)) rfl,?_⟩
   .have:=hv.get hg5 (fun e=>by have:=hown _ e;omega)
    exact cellsAt_of (o:=1) this (fun j v hj=>by
     match j,hj with
     | 0,hj=>simpa using hj
     | 1,hj=>simpa using hj
     | 2,hj=>simpa using hj
     | j+3,hj=>simp at hj)
   refine (nand_Bad_spec hp5.chip _).mono ?_
   rintro _ _ ⟨rfl,rfl⟩
   rename_i w5
   have hd0:decide ((0:Int)<=((i:Nat):Int))=true:=decide_eq_true (by omega)
   refine ⟨_,rfl,Upd.refl _ _,?_⟩
   rw [hd0,Bool.true_and,Int.toNat_natCast]
   intro B2 w7 hn7
   refine ⟨Upd.ext hn7.upd,?_⟩
   have ho7:OwnAt w7 a (takenRaw P c i).length cap T.api_Taken 5 ((takenRaw P c i).flatMap Taken.vals):=OwnAt.ext ho ((e34.trans hd5.upd).trans hn7.upd)
   refine append_flat (f:=Taken.vals) Taken.vals_length (x:=⟨i,(P.blk i).head,c.isBad i⟩) ho7 (by simp [Taken.vals]) hn7 rfl (by intro v hv;simp [Taken.vals] at hv;rcases hv with rfl | rfl | rfl | rfl | rfl<;>rfl) rfl (by omega) (by omega) fun a' c' w8 hu8 ho8 hf8=>?_
   rw [<- hsucc] at ho8 ⊢
   have e7:=e5.trans hn7.upd
   refine ⟨(Upd.ext hn7.upd).trans hu8,⟨i+1,e1,hi',rfl,Upd.beyond e7 hu8 (fun x hx=>(hown x hx).1),ho8,?_⟩,by rw [e1];exact meas hi'⟩
   rcases hf8 with rfl | ⟨b,rfl,hb⟩
   .exact hf
   .exact Fresh.some (by have:=e7.size;omega)
  .rw [if_neg (by omega),List.append_nil] at hsucc
   refine ⟨⟨i+1,e1,hi',by rw [hsucc],e4,by rw [hsucc];exact OwnAt.ext ho e34,hf⟩,by rw [e1];exact meas hi'⟩
 .have:i=c.nb:=by omega
  subst this
  have hlen:=takenRaw_length P c c.nb
  refine (sortStable_spec (cp:=cap) ho (fun t ht=>by have:=takenRaw_block ht;omega) (by omega)).mono ?_
  rintro _ w9 ⟨rfl,hu9,ho9⟩
  have e9:Ext w w9:=Upd.beyond hu hu9 (fun x hx=>hf _ hx)
  refine ⟨rfl,e9,a,cap,?_,ho9,hf⟩
  unfold takenPool
  rw [isort_length]
def refHead (c:Chip) (i:Int):Head×Bool:=if c.ask i 0≠0 then (Head.none,false) else ((getHead (c.page i.toNat 0)).1,decide ((getHead (c.page i.toNat 0)).2=0))
def posOf (t:Taken) (l:List Taken):Nat:=(l.takeWhile fun x=>decide (x.head.seq<=t.head.seq)).length
def insAt (t:Taken) (l:List Taken):List Taken:=l.take (posOf t l) ++ [t] ++ l.drop (posOf t l)
def refGo (c:Chip):Nat->List Taken
 | 0=>[]
 | i+1=>if (refHead c i).2 then insAt ⟨i,(refHead c i).1,c.isBad i⟩ (refGo c i) else refGo c i
def refTaken (c:Chip):List Taken:=refGo c c.nb
theorem insAt_length (t:Taken) (l:List Taken):(insAt t l).length=l.length+1:=by
 unfold insAt
 simp
 omega
theorem refGo_length (c:Chip) (i:Nat):(refGo c i).length<=i:=by
 induction i with
 | zero=>simp [refGo]
 | succ i ih =>
  unfold refGo
  split
  .rw [insAt_length];omega
  .omega
theorem takeWhile_at {α:Type} (p:α->Bool):∀ (l:List α) (k:Nat) (hk:k<=l.length),(∀ x∈l.take k,p x=true)->(∀ (h:k<l.length),p l[k]=false)->(l.takeWhile p).length=k
 | [],k,hk,_,_=>by simp at hk;simp [hk]
 | x :: l,0,_,_,h=>by
  have:=h (by simp)
  have:p x=false:=this
  simp [List.takeWhile_cons,this]
 | x :: l,k+1,hk,ha,h=>by
  have hx:p x=true:=ha x (by simp)
  rw [List.takeWhile_cons,if_pos hx,List.length_cons]
  congr 1
  refine takeWhile_at p l k (by simpa using hk) (fun y hy=>ha y (by simp [hy])) (fun hlt=>?_)
  have:=h (by simpa using hlt)
  simpa using this
theorem carrackref04_Head_spec {w:World} {p:Nat} {c:Chip} {L:Loc} {G:Nat->Prop} (h:ChipRep w p c L G) (i:Int) :
  CallsR prog K.carrackref04_Head #[.pointer (some ⟨p,0,none⟩),.int .i64 i] w fun v w'=>Ext w w'/\v= .tuple #[headV (refHead c i).1,.bool (refHead c i).2]:=by
 apply carrackref04_Head.sh
 intro B w1 hn
 have hB:B=w.heap.size:=hn.num
 rw [head_zero] at hn
 have h1:=h.ext hn.upd
 refine (nand_Read_spec h1 i 0).mono ?_
 rintro v w2 ⟨he2,hv⟩
 have e2:=hn.upd.trans he2
 have hg2:=Ext.get he2 hn.get
 split at hv
 .rename_i h0
  obtain ⟨a,cp,rfl,hba,hcp,hfa⟩:=hv
  refine ⟨_,_,_,_,rfl,br_ne (fun h=>by omega) fun _=>?_⟩
  obtain ⟨hd,hb0,hb1,_,hp1⟩:=ask_zero h0
  have hpl:(c.page i.toNat 0).length=c.sz:=page_len h.ok hb1 (by have:=h.ok.np1;omega)
  simp only [tn0] at hba
  have hgh:=carrackref04_GetHead_spec (c:=cp) hba (by omega)
  rw [hpl] at hgh
  refine hgh.mono ?_
  rintro _ w4 ⟨he4,rfl⟩
  have e4:=e2.trans he4
  refine ⟨_,_,_,_,rfl,fun B2 w5 hn5=>?_⟩
  have hB2:B2=w4.heap.size:=hn5.num
  rw [head_zero] at hn5
  have hs4:=e4.size
  have hs12:=hn.size
  have hs1:=he2.size
  have hs3:=he4.size
  refine head_put (h:=(getHead (c.page i.toNat 0)).1) hn5.get rfl fun w6 hput6=>?_
  have hg6:w6.heap[B]?=_:=hput6.upd1.get (Ext.get hn5.upd (Ext.get he4 hg2)) (by omega)
  have e6:Ext w w6:=Put.upd (e4.trans hn5.upd) hput6 (.inl (by omega))
  refine ⟨_,_,_,head_cells hput6.get,head_put hg6 rfl fun w7 hput7=>⟨_,_,_,head_cells hput7.get,Put.upd e6 hput7 (.inl (by omega)),?_⟩⟩
  unfold refHead
  rw [if_neg (by omega)]
  simp only [Value.tuple.injEq]
  congr 4
  rw [Bool.eq_iff_iff]
  simp
 .rename_i h0
  subst hv
  refine ⟨_,_,_,_,rfl,br_ne (fun _=>?_) fun h=>by omega⟩
  refine head_put (h:=Head.none) hg2 rfl fun w3 hput=>⟨_,_,_,head_cells hput.get,Put.upd e2 hput (.inl (by omega)),?_⟩
  unfold refHead
  rw [if_pos h0]
theorem oneCell_taken (t:Taken):∀ v∈t.vals,v.oneCell'=true:=by
 intro v hv
 simp [Taken.vals] at hv
 rcases hv with rfl | rfl | rfl | rfl | rfl<;>rfl
theorem insert_tail {w:World} {p:Nat} {c:Chip} {L:Loc} {G:Nat->Prop} (h:ChipRep w p c L G) {a:Option Addr} {out:List Taken} {cap i j B:Nat} {hd:Head} (ho:OwnAt w a out.length cap T.api_Taken 5 (out.flatMap Taken.vals)) (hl:out.length<=1000) (hj:j<=out.length)
  (hB:w.heap[B]?=some (.cells hd.vals.toArray T.api_Head (0,0))) {Q:Option Addr->Nat->Nat->World->Prop}
  (hk:∀ a' c' w',Ext w w'->OwnAt w' a' (out.take j ++ [Taken.mk i hd (c.isBad i)] ++ out.drop j).length c' T.api_Taken 5 ((out.take j ++ [Taken.mk i hd (c.isBad i)] ++ out.drop j).flatMap Taken.vals)->Fresh w a'->Q a' (out.take j ++ [Taken.mk i hd (c.isBad i)] ++ out.drop j).length c' w') :
  sliceP 5 a out.length cap none (some (j:Int)) none fun a2 l2 c2 =>
    appendP T.api_Taken 5 32 [Value.int .i64 0,Value.int .u8 0,Value.int .u32 0,Value.int .u64 0,Value.bool false] none 0 0 (Value.slice a2 l2 c2) w fun a3 l3 c3 w8 =>
    ∀ w9:World,Drew w8 w9->
    ∃ S2:World->Prop,S2 w9/\
    ∃ x12:Int,∃ x13:Int,∃ x14:Int,(∀ u3,S2 u3->cellsAt u3 ⟨B,0,none⟩ [Value.int .u8 x12,Value.int .u32 x13,Value.int .u64 x14] 0)/\
    CallsR prog K.nand_Chip_Bad #[Value.pointer (some ⟨p,0,none⟩),Value.int .i64 (i:Int)] w9 fun v3 w10 =>
    ∃ b2:Bool,v3=Value.bool b2/\S2 w10/\
    ∀ (B2:Nat) (w11:World),New w10 (.cells #[Value.int .i64 (i:Int),Value.int .u8 x12,Value.int .u32 x13,Value.int .u64 x14,Value.bool b2] T.api_Taken) B2 w11->S2 w11/\
    appendP T.api_Taken 5 32 [Value.int .i64 0,Value.int .u8 0,Value.int .u32 0,Value.int .u64 0,Value.bool false] a3 l3 c3 (Value.slice (some ⟨B2,0,none⟩) 1 1) w11 fun a4 l4 c4 w12=>S2 w12/\
    sliceP 5 a out.length cap (some (j:Int)) none none fun a5 l5 c5 =>
    appendP T.api_Taken 5 32 [Value.int .i64 0,Value.int .u8 0,Value.int .u32 0,Value.int .u64 0,Value.bool false] a4 l4 c4 (Value.slice a5 l5 c5) w12 fun a6 l6 c6 w13=>Q a6 l6 c6 w13:=by
 have hcap:=ho.2.1
 refine slice_to (by omega) (by omega) hcap ?_
 rw [Int.toNat_natCast]
 have hr1:RowAt w a ((out.take j).flatMap Taken.vals):=by rw [<- flat_take Taken.vals_length];exact RowAt.take ho.row _
 refine append_rows (f:=Taken.vals) Taken.vals_length (l:=[]) (xs:=out.take j) (OwnAt.nil _ _ _) hr1 rfl (by simp;omega) (fun x _=>oneCell_taken x) rfl (by simp;omega) (by omega) fun a3 c3 W8 hu8 ho8 hf8=>?_
 have e8:Ext w W8:=hu8.mono (fun x _ hx=>by cases hx)
 have hf8':Fresh w a3:=by
  rcases hf8 with rfl | ⟨b,rfl,hb⟩
  .exact Fresh.none _
  .exact Fresh.some hb
 intro W9 hd9
 have e9:=e8.trans hd9.upd
 have h9:=h.ext e9
 have hg9:=Ext.get e9 hB
 have hBw:B<w.heap.size:=(Array.getElem?_eq_some_iff.1 hB).1
 refine ⟨fun u=>u.heap[B]?=some (.cells hd.vals.toArray T.api_Head (0,0)),hg9,hd.kind.toNat,hd.era,hd.seq,fun u hu=>head_cells hu,?_⟩
 refine (nand_Bad_spec h9 _).mono ?_
 rintro _ _ ⟨rfl,rfl⟩
 rename_i W9
 have hd0:decide ((0:Int)<=((i:Nat):Int))=true:=decide_eq_true (by omega)
 refine ⟨_,rfl,hg9,?_⟩
 rw [hd0,Bool.true_and,Int.toNat_natCast]
 intro B2 W11 hn11
 have hg11:=Ext.get hn11.upd hg9
 refine ⟨hg11,?_⟩
 have ho11:=OwnAt.ext (OwnAt.ext ho8 hd9.upd) hn11.upd
 refine append_flat (f:=Taken.vals) Taken.vals_length (x:=⟨i,hd,c.isBad i⟩) ho11 (by simp [Taken.vals]) hn11 rfl (oneCell_taken _) rfl (by simp;omega) (by omega) fun a4 c4 W12 hu12 ho12 hf12=>?_
 have e11:=e9.trans hn11.upd
 have e12:Ext w W12:=Upd.beyond e11 hu12 (fun x hx=>hf8' _ hx)
 have hf12':Fresh w a4:=by
  rcases hf12 with rfl | ⟨b,rfl,hb⟩
  .exact hf8'
  .exact Fresh.some (by have:=e11.size;omega)
 refine ⟨Ext.get e12 hB,?_⟩
 refine slice_from (by omega) (by omega) hcap ?_
 rw [Int.toNat_natCast]
 have hr2:RowAt W12 (if cap=j then a else a.map (·.add (j * 5))) ((out.drop j).flatMap Taken.vals):=by
  rw [<- flat_drop Taken.vals_length];exact row_from (RowAt.ext ho.row e12) (by rw [flat_len Taken.vals_length]) hcap
 refine append_rows (f:=Taken.vals) Taken.vals_length (xs:=out.drop j) ho12 hr2 rfl (by simp) (fun x _=>oneCell_taken x) rfl (by simp;omega) (by omega) fun a6 c6 W13 hu13 ho13 hf13=>?_
 have e13:Ext w W13:=Upd.beyond e12 hu13 (fun x hx=>hf12' _ hx)
 simp only [List.nil_append] at ho13 ⊢
 refine hk a6 c6 W13 e13 ho13 ?_
 rcases hf13 with rfl | ⟨b,rfl,hb⟩
 .exact hf12'
 .exact Fresh.some (by have:=e12.size;omega)
theorem carrackref04_Taken_spec {w:World} {p:Nat} {c:Chip} {L:Loc} {G:Nat->Prop} (h:ChipRep w p c L G) :
  CallsR prog K.carrackref04_Taken #[.pointer (some ⟨p,0,none⟩)] w fun v w'=>Ext w w'/\∃ a cap,v= .slice a (refTaken c).length cap/\OwnAt w' a (refTaken c).length cap T.api_Taken 5 ((refTaken c).flatMap Taken.vals)/\Fresh w a:=by
 apply carrackref04_Taken.sh
 have hnb:=h.ok.nb2
 refine ⟨fun a l cap x u=>∃ i:Nat,x=i/\i<=c.nb/\l=(refGo c i).length/\Ext w u/\OwnAt u a (refGo c i).length cap T.api_Taken 5 ((refGo c i).flatMap Taken.vals)/\Fresh w a,fun _ _ _ x _=>(c.nb - x).toNat,
  ⟨0,rfl,by omega,rfl,Upd.refl _ _,OwnAt.nil _ _ _,Fresh.none _⟩,?_⟩
 rintro a l cap x u ⟨i,rfl,hi,rfl,hu,ho,hf⟩
 have hlen:=refGo_length c i
 refine (nand_Geo_spec (h.ext hu)).mono ?_
 rintro _ w2 ⟨rfl,he2⟩
 have e2:=hu.trans he2
 refine ⟨_,_,_,_,rfl,br_dec (fun hlt=>?_) fun hge=>?_⟩
 .have hi':i<c.nb:=by omega
  have e1:i64.wrap ((i:Int)+1)=((i+1:Nat):Int):=w64 (by omega) (by omega)
  refine (carrackref04_Head_spec (h.ext e2) (i:Int)).mono ?_
  rintro _ w3 ⟨he3,rfl⟩
  have e3:=e2.trans he3
  refine ⟨_,_,_,_,rfl,fun B w4 hn4=>?_⟩
  rw [head_zero] at hn4
  refine head_put (h:=(refHead c i).1) hn4.get rfl fun w5 hput5=>?_
  have hB:B=w3.heap.size:=hn4.num
  have hs3:=e3.size
  have e5:Ext w w5:=Put.upd (e3.trans hn4.upd) hput5 (.inl (by omega))
  have eu3:Ext u w3:=he2.trans he3
  have hsu3:=eu3.size
  have eu5:Ext u w5:=Put.upd (eu3.trans hn4.upd) hput5 (.inl (by omega))
  have hgo:refGo c (i+1)=if (refHead c i).2 then insAt ⟨i,(refHead c i).1,c.isBad i⟩ (refGo c i) else refGo c i:=by rw [refGo]
  cases hh:(refHead c i).2 with
  | false =>
   simp only [Bool.not_false,br_true]
   rw [hh] at hgo
   simp only [Bool.false_eq_true,if_false] at hgo
   exact ⟨⟨i+1,e1,hi',by rw [hgo],e5,by rw [hgo];exact OwnAt.ext ho eu5,hf⟩,by rw [e1];exact meas hi'⟩
  | true =>
   simp only [Bool.not_true,br_false]
   rw [hh] at hgo
   simp only [if_true] at hgo
   refine ⟨fun y v=>∃ j:Nat,y=j/\j<=(refGo c i).length/\Ext w5 v/\∀ t∈(refGo c i).take j,t.head.seq<=(refHead c i).1.seq,fun y _=>((refGo c i).length - y).toNat,⟨0,rfl,by omega,Upd.refl _ _,fun t ht=>by simp at ht⟩,?_⟩
   rintro y v ⟨j,rfl,hj,hv5,hall⟩ w7 hd7
   have e57:=hv5.trans hd7.upd
   have e7:=e5.trans e57
   have ho7:=OwnAt.ext (OwnAt.ext ho eu5) e57
   have hg7:=Ext.get e57 hput5.get
   have hins:(∀ (hlt:j<(refGo c i).length),decide ((refGo c i)[j].head.seq<=(refHead c i).1.seq)=false)->(refGo c i).take j ++ [⟨i,(refHead c i).1,c.isBad i⟩] ++ (refGo c i).drop j=refGo c (i+1):=by
    intro hstop
    have hpos:posOf ⟨i,(refHead c i).1,c.isBad i⟩ (refGo c i)=j:=takeWhile_at _ _ j hj (fun t ht=>decide_eq_true (hall t ht)) hstop
    rw [hgo]
    unfold insAt
    rw [hpos]
   refine ⟨fun z=>z=w7,rfl,br_dec (fun hlt=>?_) fun hge=>?_⟩
   .have hj':j<(refGo c i).length:=by omega
    refine idx_flat (f:=Taken.vals) Taken.vals_length (by omega) ho7.row rfl hj' fun b o hab hr=>?_
    simp only [add_lit]
    obtain ⟨b',o',hab',hc⟩:=RowAt.cell hr (i:=3) (v:=.int .u64 (refGo c i)[j].head.seq) rfl
    cases hab'
    refine ⟨_,fun z hz=>hz ▸ hc,_,fun z hz=>hz ▸ cell_of hg7 rfl,br_dec (fun hle=>?_) fun hgt=>?_⟩
    .have e2:i64.wrap ((j:Int)+1)=((j+1:Nat):Int):=w64 (by omega) (by omega)
     rw [e2]
     refine ⟨⟨j+1,rfl,hj',e57,fun t ht=>?_⟩,meas hj'⟩
     rw [List.take_succ_eq_append_getElem hj'] at ht
     rcases List.mem_append.1 ht with ht | ht
     .exact hall t ht
     .simp at ht
      subst ht
      omega
    .have hin:=hins (fun _=>decide_eq_false (by omega))
     refine insert_tail (i:=i) (h.ext e7) ho7 (by omega) hj hg7 fun a6 c6 W13 he13 ho13 hf13=>?_
     rw [hin] at ho13 ⊢
     exact ⟨⟨i+1,e1,hi',rfl,e7.trans he13,ho13,Fresh.mono hf13 e7.size⟩,by rw [e1];exact meas hi'⟩
   .have hin:=hins (fun h=>by omega)
    refine insert_tail (i:=i) (h.ext e7) ho7 (by omega) hj hg7 fun a6 c6 W13 he13 ho13 hf13=>?_
    rw [hin] at ho13 ⊢
    exact ⟨⟨i+1,e1,hi',rfl,e7.trans he13,ho13,Fresh.mono hf13 e7.size⟩,by rw [e1];exact meas hi'⟩
 .have:i=c.nb:=by omega
  subst this
  exact ⟨e2,a,cap,rfl,OwnAt.ext ho he2,hf⟩
section
set_option maxRecDepth 100000
def newChip (nb np sz sp:Nat):Chip:=⟨nb,np,sz,sp,List.replicate nb (List.replicate (np * sz) 255),List.replicate nb false,[],0,false,0⟩
end
def CIn (F:Nat->Prop) (A:Nat) (w:World) (p:Nat) (c:Chip):Prop:=∃ L G,ChipRep w p c L G/\(∀ x,x∈p :: L.bb :: L.locs->F x)/\∀ x,G x->A<=x/\x<w.heap.size
def PIn (F:Nat->Prop) (A:Nat) (w:World) (M:PLoc) (P:Pool) (c:Chip):Prop:=∃ L G,PC w M P c L G/\(∀ x,PF M L x->F x)/\∀ x,G x->A<=x/\x<w.heap.size
abbrev Bet (A S:Nat):Nat->Prop:=fun x=>A<=x/\x<S
abbrev CAt (A S:Nat) (w:World) (p:Nat) (c:Chip):Prop:=CIn (Bet A S) A w p c
abbrev PAt (A S:Nat) (w:World) (M:PLoc) (P:Pool) (c:Chip):Prop:=PIn (Bet A S) A w M P c
theorem CIn.ext {F:Nat->Prop} {A:Nat} {w w':World} {p:Nat} {c:Chip} (h:CIn F A w p c) (k:Ext w w'):CIn F A w' p c:=by
 obtain ⟨L,G,hr,hF,hG⟩:=h
 exact ⟨L,G,hr.ext k,hF,fun x hx=>⟨(hG x hx).1,Nat.lt_of_lt_of_le (hG x hx).2 k.size⟩⟩
theorem PIn.chip {F:Nat->Prop} {A:Nat} {w:World} {M:PLoc} {P:Pool} {c:Chip} (h:PIn F A w M P c):CIn F A w M.p c:=by
 obtain ⟨L,G,hr,hF,hG⟩:=h
 exact ⟨L,G,hr.chip,fun x hx=>hF x (.inr (.inr hx)),hG⟩
theorem CIn.ok {F:Nat->Prop} {A:Nat} {w:World} {p:Nat} {c:Chip} (h:CIn F A w p c):c.Ok:=by
 obtain ⟨L,G,hr,hF,hG⟩:=h
 exact hr.ok
theorem CIn.mono {F F':Nat->Prop} {A:Nat} {w:World} {p:Nat} {c:Chip} (h:CIn F A w p c) (hf:∀ x,F x->F' x):CIn F' A w p c:=by
 obtain ⟨L,G,hr,hF,hG⟩:=h
 exact ⟨L,G,hr,fun x hx=>hf x (hF x hx),hG⟩
theorem PIn.mono {F F':Nat->Prop} {A:Nat} {w:World} {M:PLoc} {P:Pool} {c:Chip} (h:PIn F A w M P c) (hf:∀ x,F x->F' x):PIn F' A w M P c:=by
 obtain ⟨L,G,hr,hF,hG⟩:=h
 exact ⟨L,G,hr,fun x hx=>hf x (hF x hx),hG⟩
theorem PAt.chip {A S:Nat} {w:World} {M:PLoc} {P:Pool} {c:Chip} (h:PAt A S w M P c):CAt A S w M.p c:=by
 obtain ⟨L,G,hr,hF,hG⟩:=h
 exact ⟨L,G,hr.chip,fun x hx=>hF x (.inr (.inr hx)),hG⟩
theorem CAt.ok {A S:Nat} {w:World} {p:Nat} {c:Chip} (h:CAt A S w p c):c.Ok:=by
 obtain ⟨L,G,hr,hF,hG⟩:=h
 exact hr.ok
theorem PAt.size {A S:Nat} {w:World} {M:PLoc} {P:Pool} {c:Chip} (h:PAt A S w M P c):M.q<w.heap.size:=by
 obtain ⟨L,G,hr,hF,hG⟩:=h
 exact (Array.getElem?_eq_some_iff.1 hr.head).1
theorem cScanF {F:Nat->Prop} {A:Nat} {w:World} {p:Nat} {c:Chip} (h:CIn F A w p c) :
  CallsR prog K.pool_Scan #[.pointer (some ⟨p,0,none⟩)] w fun v w'=>Ext w w'/\
   if c.dead then v= .tuple #[.pointer none,.int .i64 10]
   else ∃ M:PLoc,M.p=p/\v= .tuple #[.pointer (some ⟨M.q,0,none⟩),.int .i64 0]/\PIn (fun x=>F x\/(w.heap.size<=x/\x<w'.heap.size)) A w' M (scanPool c) c:=by
 obtain ⟨L,G,hr,hF,hG⟩:=h
 refine (pool_Scan_spec hr (fun x hx=>(hG x hx).2)).mono ?_
 rintro v w' ⟨he,hv⟩
 refine ⟨he,?_⟩
 split at hv
 .rename_i hd
  rw [if_pos hd];exact hv
 .rename_i hd
  rw [if_neg hd]
  obtain ⟨q,pb,rfl,hq,hpb,hq',hpb',hp⟩:=hv
  refine ⟨⟨q,pb,c.nb,p⟩,rfl,rfl,L,G,hp,fun x hx=>?_,fun x hx=>⟨(hG x hx).1,Nat.lt_of_lt_of_le (hG x hx).2 he.size⟩⟩
  rcases hx with hx | hx | hx
  .have:x=q:=hx
   exact .inr (by omega)
  .have:x=pb:=hx
   exact .inr (by omega)
  .exact .inl (hF x hx)
theorem cRead {F:Nat->Prop} {A:Nat} {w:World} {p:Nat} {c:Chip} (h:CIn F A w p c) :
  CallsR prog K.nand_Chip_Read #[.pointer (some ⟨p,0,none⟩),.int .i64 0,.int .i64 0] w fun v w'=>Ext w w'/\∃ a l cp,v= .tuple #[.slice a l cp,.int .i64 ((if c.dead then 10 else 0:Nat):Int)]:=by
 obtain ⟨L,G,hr,hF,hG⟩:=h
 refine (nand_Read_spec hr 0 0).mono ?_
 rintro v w' ⟨he,hv⟩
 refine ⟨he,?_⟩
 rw [ask00 hr.ok] at hv
 cases hd:c.dead with
 | true =>
  rw [hd] at hv
  simp only [if_true,if_neg (show ¬ (10=0) by omega)] at hv
  exact ⟨_,_,_,hv⟩
 | false =>
  rw [hd] at hv
  simp only [Bool.false_eq_true,if_false,if_true] at hv
  obtain ⟨a,cp,rfl,_⟩:=hv
  exact ⟨_,_,_,rfl⟩
theorem pBlanks {F:Nat->Prop} {A:Nat} {w:World} {M:PLoc} {P:Pool} {c:Chip} (h:PIn F A w M P c) :
  CallsR prog K.pool_Pool_Blanks #[.pointer (some ⟨M.q,0,none⟩)] w fun v w'=>v= .int .i64 (blanksPool P c:Nat)/\Ext w w':=by
 obtain ⟨L,G,hr,hF,hG⟩:=h
 exact pool_Blanks_spec hr
theorem pChip {F:Nat->Prop} {A:Nat} {w:World} {M:PLoc} {P:Pool} {c:Chip} (h:PIn F A w M P c) :
  CallsR prog K.pool_Pool_Chip #[.pointer (some ⟨M.q,0,none⟩)] w fun v w'=>v= .pointer (some ⟨M.p,0,none⟩)/\w'=w:=by
 obtain ⟨L,G,hr,hF,hG⟩:=h
 exact pool_Chip_spec hr
def TakenAt (w w':World) (v:Value) (l:List Taken):Prop:=∃ a cap,v= .slice a l.length cap/\OwnAt w' a l.length cap T.api_Taken 5 (l.flatMap Taken.vals)/\Fresh w a
theorem pTakenF {F:Nat->Prop} {A:Nat} {w:World} {M:PLoc} {P:Pool} {c:Chip} (h:PIn F A w M P c) (hnb:(takenPool P c).length<20) {l:List Taken} (hl:takenPool P c=l) :
  CallsR prog K.pool_Pool_Taken #[.pointer (some ⟨M.q,0,none⟩)] w fun v w'=>Ext w w'/\TakenAt w w' v l:=by
 subst hl
 obtain ⟨L,G,hr,hF,hG⟩:=h
 exact pool_Taken_spec hr hnb
theorem rTaken {F:Nat->Prop} {A:Nat} {w:World} {p:Nat} {c:Chip} (h:CIn F A w p c) :
  CallsR prog K.carrackref04_Taken #[.pointer (some ⟨p,0,none⟩)] w fun v w'=>Ext w w'/\TakenAt w w' v (refTaken c):=by
 obtain ⟨L,G,hr,hF,hG⟩:=h
 exact carrackref04_Taken_spec hr
theorem new_put {w:World} {cs:Array Value} {T:TypeId} {vs:List Value} {K:Nat->World->Prop} (hl:vs.length=cs.size)
  (hk:∀ B w2,B=w.heap.size->w2.heap.size=w.heap.size+1->Ext w w2->w2.heap[B]?=some (.cells vs.toArray T (0,0))->K B w2) :
  ∀ (B:Nat) (w1:World),New w (.cells cs T) B w1->storeP w1 ⟨B,0,none⟩ vs (fun w2=>K B w2):=by
 intro B w1 hn
 refine store_of hn.get (by simp [hl]) fun w2 hp=>?_
 have hB:B=w.heap.size:=hn.num
 refine hk B w2 hB (by rw [hp.size,hn.size]) (Put.upd hn.upd hp (.inl (by omega))) ?_
 have:=hp.get
 rwa [splice_all _ _ hl.symm] at this
theorem cells_all {w:World} {B:Nat} {vs:List Value} {T:TypeId} {fr:Nat×Nat} (h:w.heap[B]?=some (.cells vs.toArray T fr)):cellsAt w ⟨B,0,none⟩ vs 0 :=
 cellsAt_of (o:=0) h fun j v hj=>by simpa using hj
theorem put_all {w:World} {B:Nat} {cs:Array Value} {vs:List Value} {T:TypeId} {K:World->Prop} (h:w.heap[B]?=some (.cells cs T (0,0))) (hl:vs.length=cs.size)
  (hk:∀ w2,Upd (·=B) w w2->w2.heap.size=w.heap.size->w2.heap[B]?=some (.cells vs.toArray T (0,0))->K w2):storeP w ⟨B,0,none⟩ vs K:=by
 refine store_of h (by simp [hl]) fun w2 hp=>hk w2 hp.upd1 hp.size ?_
 have:=hp.get
 rwa [splice_all _ _ hl.symm] at this
theorem exists_least {Q:Nat->Prop} (h:∃ n,Q n):∃ n,Q n/\∀ m,Q m->n<=m:=by
 obtain ⟨n,hn⟩:=h
 induction n using Nat.strongRecOn with
 | _ n ih =>
  by_cases hx:∃ m,m<n/\Q m
  .obtain ⟨m,h1,h2⟩:=hx
   exact ih m h1 h2
  .exact ⟨n,hn,fun m hm=>Nat.le_of_not_lt fun hlt=>hx ⟨m,hlt,hm⟩⟩
open Classical in
noncomputable def least (Q:Nat->Prop):Nat:=if h:∃ n,Q n then Classical.choose (exists_least h) else 0
theorem least_spec {Q:Nat->Prop} (h:∃ n,Q n):Q (least Q)/\∀ m,Q m->least Q<=m:=by
 unfold least
 rw [dif_pos h]
 exact Classical.choose_spec (exists_least h)
def LJ (J':Nat->World->Prop):World->Prop:=fun u=>∃ n,J' n u
noncomputable def Lμ (J':Nat->World->Prop):World->Nat:=fun u=>least fun n=>J' n u
theorem loop_step {J':Nat->World->Prop} {u:World} (h:LJ J' u):∃ n,J' n u/\∀ m u',m<n->J' m u'->LJ J' u'/\Lμ J' u' < Lμ J' u:=by
 obtain ⟨h1,_⟩:=least_spec (Q:=fun n=>J' n u) h
 refine ⟨_,h1,fun m u' hm hj=>⟨⟨m,hj⟩,?_⟩⟩
 exact Nat.lt_of_le_of_lt ((least_spec (Q:=fun n=>J' n u') ⟨m,hj⟩).2 m hj) hm
theorem u8b (x y:UInt8):((x.toNat:Int) == (y.toNat:Int))=(x == y):=by
 rw [Bool.eq_iff_iff]
 simp only [beq_iff_eq,Int.natCast_inj,UInt8.toNat_inj]
theorem u8i (x:UInt8) (n:Nat) (hn:n<256):(x.toNat:Int)=(n:Int) ↔ x=UInt8.ofNat n:=by
 constructor
 .intro h
  apply UInt8.toNat_inj.1
  simp
  omega
 .rintro rfl
  simp
  omega
section
structure ERep (α:Type) where
 k:Nat
 R:World->(Nat->Prop)->List Value->α->Prop
 pos:1<=k
 len:∀ {w G vs x},R w G vs x->vs.length=k
 one:∀ {w G vs x},R w G vs x->∀ v∈vs,v.oneCell'=true
 upd:∀ {w w' F G vs x},R w G vs x->Upd F w w'->(∀ b,G b->¬ F b)->R w' G vs x
 mono:∀ {w G G' vs x},R w G vs x->(∀ b,G b->G' b)->R w G' vs x
 cells:∀ {w w' G vs x},R w G vs x->CellsLe w w'->R w' G vs x
section
variable {α:Type} (r:ERep α)
def Rows (w:World) (G:Nat->Prop):List Value->List α->Prop
 | vs,[]=>vs=[]
 | vs,x :: l=>∃ u t,vs=u ++ t/\r.R w G u x/\Rows w G t l
variable {r}
theorem Rows.len {w:World} {G:Nat->Prop}:∀ {l:List α} {vs:List Value},Rows r w G vs l->vs.length=l.length * r.k
 | [],vs,h=>by cases h;simp
 | x :: l,vs,⟨u,t,e,hu,ht⟩=>by rw [e,List.length_append,r.len hu,Rows.len ht,List.length_cons,Nat.succ_mul];omega
theorem Rows.one {w:World} {G:Nat->Prop}:∀ {l:List α} {vs:List Value},Rows r w G vs l->∀ v∈vs,v.oneCell'=true
 | [],vs,h=>by cases h;simp
 | x :: l,vs,⟨u,t,e,hu,ht⟩=>by
  intro v hv
  rw [e,List.mem_append] at hv
  rcases hv with hv | hv
  .exact r.one hu v hv
  .exact Rows.one ht v hv
theorem Rows.upd {w w':World} {F G:Nat->Prop} (k:Upd F w w') (hf:∀ b,G b->¬ F b):∀ {l:List α} {vs:List Value},Rows r w G vs l->Rows r w' G vs l
 | [],vs,h=>h
 | x :: l,vs,⟨u,t,e,hu,ht⟩=>⟨u,t,e,r.upd hu k hf,Rows.upd k hf ht⟩
theorem Rows.ext {w w':World} {G:Nat->Prop} {l:List α} {vs:List Value} (h:Rows r w G vs l) (k:Ext w w'):Rows r w' G vs l:=Rows.upd k (fun _ _ hf=>hf) h
theorem Rows.mono {w:World} {G G':Nat->Prop} (hg:∀ b,G b->G' b):∀ {l:List α} {vs:List Value},Rows r w G vs l->Rows r w G' vs l
 | [],vs,h=>h
 | x :: l,vs,⟨u,t,e,hu,ht⟩=>⟨u,t,e,r.mono hu hg,Rows.mono hg ht⟩
theorem Rows.cellsLe {w w':World} {G:Nat->Prop} (k:CellsLe w w'):∀ {l:List α} {vs:List Value},Rows r w G vs l->Rows r w' G vs l
 | [],vs,h=>h
 | x :: l,vs,⟨u,t,e,hu,ht⟩=>⟨u,t,e,r.cells hu k,Rows.cellsLe k ht⟩
theorem Rows.append {w:World} {G:Nat->Prop}:∀ {l m:List α} {vs us:List Value},Rows r w G vs l->Rows r w G us m->Rows r w G (vs ++ us) (l ++ m)
 | [],m,vs,us,h,h2=>by cases h;simpa using h2
 | x :: l,m,vs,us,⟨u,t,e,hu,ht⟩,h2=>⟨u,t ++ us,by rw [e,List.append_assoc],hu,Rows.append ht h2⟩
theorem Rows.single {w:World} {G:Nat->Prop} {vs:List Value} {x:α} (h:r.R w G vs x):Rows r w G vs [x]:=⟨vs,[],by simp,h,rfl⟩
theorem Rows.drop {w:World} {G:Nat->Prop}:∀ {l:List α} {vs:List Value} (i:Nat),Rows r w G vs l->Rows r w G (vs.drop (i * r.k)) (l.drop i)
 | l,vs,0,h=>by simpa using h
 | [],vs,i+1,h=>by cases h;simp;rfl
 | x :: l,vs,i+1,⟨u,t,e,hu,ht⟩=>by
  have hl:=r.len hu
  rw [e,List.drop_succ_cons,Nat.succ_mul,Nat.add_comm,<- List.drop_drop]
  have:(u ++ t).drop r.k=t:=by rw [<- hl];simp
  rw [this]
  exact Rows.drop i ht
theorem Rows.take {w:World} {G:Nat->Prop}:∀ {l:List α} {vs:List Value} (i:Nat),Rows r w G vs l->Rows r w G (vs.take (i * r.k)) (l.take i)
 | l,vs,0,h=>by simp;rfl
 | [],vs,i+1,h=>by cases h;simp;rfl
 | x :: l,vs,i+1,⟨u,t,e,hu,ht⟩=>by
  have hl:=r.len hu
  rw [e,List.take_succ_cons,Nat.succ_mul,Nat.add_comm,List.take_append,hl]
  rw [List.take_of_length_le (by omega)]
  exact ⟨u,_,rfl,hu,by rw [Nat.add_sub_cancel_left];exact Rows.take i ht⟩
theorem Rows.get {w:World} {G:Nat->Prop} {l:List α} {vs:List Value} (h:Rows r w G vs l) {i:Nat} (hi:i<l.length):r.R w G ((vs.drop (i * r.k)).take r.k) l[i]:=by
 have h1:=Rows.drop i h
 rw [List.drop_eq_getElem_cons hi] at h1
 obtain ⟨u,t,e,hu,ht⟩:=h1
 have hl:=r.len hu
 rw [e,<- hl]
 simpa using hu
theorem Rows.set {w:World} {G:Nat->Prop} {l:List α} {vs us:List Value} (h:Rows r w G vs l) {i:Nat} (hi:i<l.length) {x:α} (hx:r.R w G us x):Rows r w G (vs.take (i * r.k) ++ us ++ vs.drop (i * r.k+r.k)) (l.set i x):=by
 rw [List.set_eq_take_append_cons_drop,if_pos hi]
 have e:l.take i ++ x :: l.drop (i+1)=(l.take i ++ [x]) ++ l.drop (i+1):=by simp
 rw [e,<- Nat.succ_mul]
 exact ((Rows.take i h).append (Rows.single hx)).append (Rows.drop (i+1) h)
variable (r)
def SliceAt (w:World) (G:Nat->Prop) (a:Option Addr) (l:List α):Prop:=∃ vs,RowAt w a vs/\Rows r w G vs l/\(l≠[]->∀ p,a=some p->G p.block)
def OwnS (w:World) (G:Nat->Prop) (a:Option Addr) (cap:Nat) (e:TypeId) (l:List α):Prop:=∃ vs,OwnAt w a l.length cap e r.k vs/\Rows r w G vs l
variable {r}
theorem SliceAt.nil (w:World) (G:Nat->Prop) (a:Option Addr):SliceAt r w G a []:=⟨[],RowAt.nil _ _,rfl,fun h=>(h rfl).elim⟩
theorem SliceAt.upd {w w':World} {F G:Nat->Prop} {a:Option Addr} {l:List α} (h:SliceAt r w G a l) (k:Upd F w w') (hf:∀ b,G b->¬ F b):SliceAt r w' G a l:=by
 obtain ⟨vs,h1,h2,h3⟩:=h
 cases l with
 | nil=>exact SliceAt.nil _ _ _
 | cons x l=>exact ⟨vs,RowAt.upd h1 k (fun p hp=>hf _ (h3 (by simp) p hp)),Rows.upd k hf h2,h3⟩
theorem SliceAt.ext {w w':World} {G:Nat->Prop} {a:Option Addr} {l:List α} (h:SliceAt r w G a l) (k:Ext w w'):SliceAt r w' G a l:=SliceAt.upd h k fun _ _ hf=>hf
theorem SliceAt.cellsLe {w w':World} {G:Nat->Prop} {a:Option Addr} {l:List α} (h:SliceAt r w G a l) (k:CellsLe w w'):SliceAt r w' G a l:=by
 obtain ⟨vs,h1,h2,h3⟩:=h
 exact ⟨vs,RowAt.cellsLe h1 k,Rows.cellsLe k h2,h3⟩
theorem SliceAt.mono {w:World} {G G':Nat->Prop} {a:Option Addr} {l:List α} (h:SliceAt r w G a l) (hg:∀ b,G b->G' b):SliceAt r w G' a l:=by
 obtain ⟨vs,h1,h2,h3⟩:=h
 exact ⟨vs,h1,Rows.mono hg h2,fun hn p hp=>hg _ (h3 hn p hp)⟩
theorem SliceAt.take {w:World} {G:Nat->Prop} {a:Option Addr} {l:List α} (h:SliceAt r w G a l) (i:Nat):SliceAt r w G a (l.take i):=by
 obtain ⟨vs,h1,h2,h3⟩:=h
 exact ⟨_,RowAt.take h1 (i * r.k),Rows.take i h2,fun hn=>h3 (fun e=>hn (by rw [e];simp))⟩
theorem SliceAt.drop {w:World} {G:Nat->Prop} {b o:Nat} {l:List α} (h:SliceAt r w G (some ⟨b,o,none⟩) l) (i:Nat):SliceAt r w G (some ⟨b,o+i * r.k,none⟩) (l.drop i):=by
 obtain ⟨vs,h1,h2,h3⟩:=h
 refine ⟨_,RowAt.drop h1 (i * r.k),Rows.drop i h2,fun hn p hp=>?_⟩
 cases hp
 exact h3 (fun e=>hn (by rw [e];simp)) ⟨b,o,none⟩ rfl
theorem SliceAt.blk {w:World} {G:Nat->Prop} {a:Option Addr} {l:List α} (h:SliceAt r w G a l) (hn:l≠[]):∃ b o,a=some ⟨b,o,none⟩/\b<w.heap.size/\G b:=by
 obtain ⟨vs,h1,h2,h3⟩:=h
 have hl:=Rows.len h2
 have:vs≠[]:=List.ne_nil_of_length_pos (by rw [hl];exact Nat.mul_pos (List.length_pos_iff.2 hn) r.pos)
 obtain ⟨b,o,e,hb⟩:=RowAt.blk h1 this
 exact ⟨b,o,e,hb,h3 hn _ e⟩
theorem SliceAt.idx {w:World} {G:Nat->Prop} {a:Option Addr} {l:List α} (h:SliceAt r w G a l) {n i:Nat} (hn:n=l.length) (hi:i<l.length) {K:Addr->Prop}
  (hk:∀ b o vs,a=some ⟨b,o,none⟩->RowAt w (some ⟨b,o+i * r.k,none⟩) vs->r.R w G vs l[i]->G b->K ⟨b,o+i * r.k,none⟩):idxP a n (i:Int) r.k K:=by
 subst hn
 refine ⟨by omega,by omega,?_⟩
 obtain ⟨b,o,rfl,hb,hG⟩:=h.blk (List.ne_nil_of_length_pos (by omega))
 obtain ⟨vs,h1,h2,h3⟩:=h
 simp only [nilC_some',add_lit,Int.toNat_natCast]
 exact hk b o _ rfl (RowAt.take (RowAt.drop h1 (i * r.k)) r.k) (h2.get hi) hG
theorem OwnS.nil (w:World) (G:Nat->Prop) (e:TypeId):OwnS r w G none 0 e []:=⟨[],OwnAt.nil _ _ _,rfl⟩
theorem OwnS.upd {w w':World} {F G:Nat->Prop} {a:Option Addr} {cap:Nat} {e:TypeId} {l:List α} (h:OwnS r w G a cap e l) (k:Upd F w w') (hf:∀ b,G b->¬ F b) (ha:∀ b,a=some ⟨b,0,none⟩->¬ F b):OwnS r w' G a cap e l:=by
 obtain ⟨vs,h1,h2⟩:=h
 exact ⟨vs,OwnAt.upd h1 k ha,Rows.upd k hf h2⟩
theorem OwnS.ext {w w':World} {G:Nat->Prop} {a:Option Addr} {cap:Nat} {e:TypeId} {l:List α} (h:OwnS r w G a cap e l) (k:Ext w w'):OwnS r w' G a cap e l:=OwnS.upd h k (fun _ _ hf=>hf) (fun _ _ hf=>hf)
theorem OwnS.cellsLe {w w':World} {G:Nat->Prop} {a:Option Addr} {cap:Nat} {e:TypeId} {l:List α} (h:OwnS r w G a cap e l) (k:CellsLe w w'):OwnS r w' G a cap e l:=by
 obtain ⟨vs,h1,h2⟩:=h
 exact ⟨vs,h1.cellsLe k,Rows.cellsLe k h2⟩
theorem OwnS.mono {w:World} {G G':Nat->Prop} {a:Option Addr} {cap:Nat} {e:TypeId} {l:List α} (h:OwnS r w G a cap e l) (hg:∀ b,G b->G' b):OwnS r w G' a cap e l:=by
 obtain ⟨vs,h1,h2⟩:=h
 exact ⟨vs,h1,Rows.mono hg h2⟩
theorem OwnS.at_ {w:World} {G:Nat->Prop} {a:Option Addr} {cap:Nat} {e:TypeId} {l:List α} (h:OwnS r w G a cap e l) (hg:∀ p,a=some p->G p.block):SliceAt r w G a l:=by
 obtain ⟨vs,h1,h2⟩:=h
 exact ⟨vs,h1.row,h2,fun _=>hg⟩
theorem OwnS.cap {w:World} {G:Nat->Prop} {a:Option Addr} {cap:Nat} {e:TypeId} {l:List α} (h:OwnS r w G a cap e l):l.length<=cap:=by
 obtain ⟨vs,h1,h2⟩:=h
 exact h1.2.1
theorem OwnS.blk {w:World} {G:Nat->Prop} {a:Option Addr} {cap:Nat} {e:TypeId} {l:List α} (h:OwnS r w G a cap e l) {q:Addr} (hq:a=some q):∃ b,a=some ⟨b,0,none⟩/\b<w.heap.size/\q=⟨b,0,none⟩:=by
 obtain ⟨vs,⟨_,_,hx⟩,h2⟩:=h
 rcases hx with ⟨hx,_⟩| ⟨b,cur,hx,hb,_⟩
 .rw [hx] at hq;cases hq
 .rw [hx] at hq;cases hq;exact ⟨b,hx,(Array.getElem?_eq_some_iff.1 hb).1,rfl⟩
theorem OwnS.push {w0 w1:World} {G:Nat->Prop} {a:Option Addr} {cap n bytes:Nat} {e:TypeId} {l:List α} {z:List Value} (h:OwnS r w1 G a cap e l) {B:Nat} {x:α} {cs:Array Value} (hx:r.R w1 G cs.toList x) (hn:New w0 (.cells cs e) B w1) (hnl:n=l.length)
  (hz:z.length=r.k) (hb:l.length<=1000000000) (hby:bytes<=10000) (hG:∀ b,a=some ⟨b,0,none⟩->¬ G b) {K:Option Addr->Nat->Nat->World->Prop}
  (hk:∀ a' c' w',Upd (fun b=>a=some ⟨b,0,none⟩) w1 w'->OwnS r w' G a' c' e (l ++ [x])->(a'=a\/∃ b,a'=some ⟨b,0,none⟩/\w1.heap.size<=b)->K a' (l ++ [x]).length c' w') :
  appendP e r.k bytes z a n cap (.slice (some ⟨B,0,none⟩) 1 1) w1 K:=by
 subst hnl
 obtain ⟨vs,ho,hr⟩:=h
 have hl:=r.len hx
 have hrow:RowAt w1 (some ⟨B,0,none⟩) cs.toList:=RowAt.of hn.get fun j v hj=>by simpa using hj
 refine append_own ho rfl (read_row hrow (by rw [hl];omega)) (by rw [hl];omega) (r.one hx) hz ?_ (by omega) fun a' c' w' hu ho' hf'=>?_
 .have:(2 * (l.length+1)+192) * bytes<=(2 * (1000000000+1)+192) * 10000:=Nat.mul_le_mul (by omega) hby
  omega
 .have:=hk a' c' w' hu ⟨_,by simpa using ho',Rows.upd hu (fun b hb hb'=>hG b hb' hb) (hr.append (Rows.single hx))⟩ hf'
  simpa using this
theorem OwnS.concat {w1:World} {G:Nat->Prop} {a ax:Option Addr} {cap cx n m bytes:Nat} {e:TypeId} {l xs:List α} {z:List Value} (h:OwnS r w1 G a cap e l) (hx:SliceAt r w1 G ax xs) (hnl:n=l.length) (hm:m=xs.length)
  (hz:z.length=r.k) (hb:l.length+xs.length<=1000000000) (hby:bytes<=10000) (hG:∀ b,a=some ⟨b,0,none⟩->¬ G b) {K:Option Addr->Nat->Nat->World->Prop}
  (hk:∀ a' c' w',Upd (fun b=>a=some ⟨b,0,none⟩) w1 w'->OwnS r w' G a' c' e (l ++ xs)->(a'=a\/∃ b,a'=some ⟨b,0,none⟩/\w1.heap.size<=b)->K a' (l ++ xs).length c' w') :
  appendP e r.k bytes z a n cap (.slice ax m cx) w1 K:=by
 subst hnl;subst hm
 obtain ⟨vs,ho,hr⟩:=h
 obtain ⟨us,hu1,hu2,hu3⟩:=hx
 refine append_own ho rfl (read_row hu1 (by rw [Rows.len hu2])) (by rw [Rows.len hu2]) (Rows.one hu2) hz ?_ (by omega) fun a' c' w' hu ho' hf'=>?_
 .have:(2 * (l.length+xs.length)+192) * bytes<=(2 * 1000000000+192) * 10000:=Nat.mul_le_mul (by omega) hby
  omega
 .have:=hk a' c' w' hu ⟨_,by simpa using ho',Rows.upd hu (fun b hb hb'=>hG b hb' hb) (hr.append hu2)⟩ hf'
  simpa using this
theorem OwnS.store {w:World} {G:Nat->Prop} {b cap:Nat} {e:TypeId} {l:List α} (h:OwnS r w G (some ⟨b,0,none⟩) cap e l) (hG:¬ G b) {i:Nat} (hi:i<l.length) {us:List Value} {x:α} (hx:r.R w G us x) {K:World->Prop}
  (hk:∀ w',Upd (·=b) w w'->OwnS r w' G (some ⟨b,0,none⟩) cap e (l.set i x)->K w'):storeP w ⟨b,i * r.k,none⟩ us K:=by
 obtain ⟨vs,ho,hr⟩:=h
 have hl:=r.len hx
 have hvl:=Rows.len hr
 have hin:i * r.k+r.k<=l.length * r.k:=by
  have:=Nat.mul_le_mul_right r.k (show i+1<=l.length from hi)
  rwa [Nat.succ_mul] at this
 refine own_store ho (by omega) fun w' hu ho'=>hk w' hu ⟨vs.take (i * r.k) ++ us ++ vs.drop (i * r.k+us.length),?_,?_⟩
 .rw [List.length_set];exact ho'
 .have:=Rows.upd hu (fun b' hb hb'=>hG (by subst hb';exact hb)) (hr.set hi hx)
  rw [hl];exact this
end
def flatR {α:Type} (f:α->List Value) (k:Nat) (hk:1<=k) (hl:∀ x,(f x).length=k) (h1:∀ x,∀ v∈f x,v.oneCell'=true):ERep α where
 k:=k
 R:=fun _ _ vs x=>vs=f x
 pos:=hk
 len:=fun h=>by rw [h,hl]
 one:=fun h=>by rw [h];exact h1 _
 upd:=fun h _ _=>h
 mono:=fun h _=>h
 cells:=fun h _=>h
def ERep.pair {α β γ:Type} (r:ERep β) (s:ERep γ) (f:α->β) (g:α->γ):ERep α where
 k:=r.k+s.k
 R:=fun w G vs x=>∃ u v,vs=u ++ v/\r.R w G u (f x)/\s.R w G v (g x)
 pos:=Nat.le_trans r.pos (Nat.le_add_right _ _)
 len:=fun ⟨u,v,e,hu,hv⟩=>by rw [e,List.length_append,r.len hu,s.len hv]
 one:=fun ⟨u,v,e,hu,hv⟩=>by
  rw [e]
  intro z hz
  rcases List.mem_append.1 hz with hz | hz
  .exact r.one hu z hz
  .exact s.one hv z hz
 upd:=fun ⟨u,v,e,hu,hv⟩ k hf=>⟨u,v,e,r.upd hu k hf,s.upd hv k hf⟩
 mono:=fun ⟨u,v,e,hu,hv⟩ hg=>⟨u,v,e,r.mono hu hg,s.mono hv hg⟩
 cells:=fun ⟨u,v,e,hu,hv⟩ k=>⟨u,v,e,r.cells hu k,s.cells hv k⟩
def sliceR {β:Type} (r:ERep β):ERep (List β) where
 k:=1
 R:=fun w G vs x=>∃ a c,vs=[.slice a x.length c]/\x.length<=c/\SliceAt r w G a x
 pos:=Nat.le_refl _
 len:=fun ⟨a,c,e,_⟩=>by rw [e];rfl
 one:=fun ⟨a,c,e,_⟩=>by
  rw [e]
  intro v hv
  simp at hv
  rw [hv];rfl
 upd:=fun ⟨a,c,e,hc,h⟩ k hf=>⟨a,c,e,hc,h.upd k hf⟩
 mono:=fun ⟨a,c,e,hc,h⟩ hg=>⟨a,c,e,hc,h.mono hg⟩
 cells:=fun ⟨a,c,e,hc,h⟩ k=>⟨a,c,e,hc,h.cellsLe k⟩
def bytesR:ERep (List UInt8) where
 k:=1
 R:=fun w G vs x=>∃ a c,vs=[.slice a x.length c]/\x.length<=c/\BytesAt w a x/\(x≠[]->∀ p,a=some p->G p.block)
 pos:=Nat.le_refl _
 len:=fun ⟨a,c,e,_⟩=>by rw [e];rfl
 one:=fun ⟨a,c,e,_⟩=>by
  rw [e]
  intro v hv
  simp at hv
  rw [hv];rfl
 upd:=fun {w w' F G vs x} ⟨a,c,e,hc,hb,hg⟩ k hf=>⟨a,c,e,hc,BytesAt.updM hb k hg hf,hg⟩
 mono:=fun ⟨a,c,e,hc,hb,hg⟩ hh=>⟨a,c,e,hc,hb,fun hn p hp=>hh _ (hg hn p hp)⟩
 cells:=fun ⟨a,c,e,hc,hb,hg⟩ k=>⟨a,c,e,hc,RowAt.cellsLe hb k,hg⟩
end
section
section
variable {α:Type}
def ListAt (r:ERep α) (Q:Nat->Prop) (S:Nat) (w:World) (a:Option Addr) (cap:Nat) (e:TypeId) (l:List α):Prop :=
 ∃ G,OwnS r w G a cap e l/\(∀ x,G x->(S<=x\/Q x)/\x<w.heap.size)/\∀ b,a=some ⟨b,0,none⟩->S<=b/\¬ G b
variable {r:ERep α} {Q:Nat->Prop} {S:Nat}
theorem ListAt.nil (w:World) (e:TypeId):ListAt r Q S w none 0 e []:=⟨NoB,OwnS.nil _ _ _,fun _ h=>h.elim,fun _ h=>by cases h⟩
theorem ListAt.ext {w w':World} {a:Option Addr} {cap:Nat} {e:TypeId} {l:List α} (h:ListAt r Q S w a cap e l) (k:Ext w w'):ListAt r Q S w' a cap e l:=by
 obtain ⟨G,h1,h2,h3⟩:=h
 exact ⟨G,h1.ext k,fun x hx=>⟨(h2 x hx).1,Nat.lt_of_lt_of_le (h2 x hx).2 k.size⟩,h3⟩
theorem ListAt.cellsLe {w w':World} {a:Option Addr} {cap:Nat} {e:TypeId} {l:List α} (h:ListAt r Q S w a cap e l) (k:CellsLe w w'):ListAt r Q S w' a cap e l:=by
 obtain ⟨G,h1,h2,h3⟩:=h
 exact ⟨G,h1.cellsLe k,fun x hx=>⟨(h2 x hx).1,Nat.lt_of_lt_of_le (h2 x hx).2 k.size⟩,h3⟩
theorem ListAt.upd {w w':World} {F:Nat->Prop} {a:Option Addr} {cap:Nat} {e:TypeId} {l:List α} (h:ListAt r Q S w a cap e l) (k:Upd F w w') (hF:∀ x,F x->x<S/\¬ Q x):ListAt r Q S w' a cap e l:=by
 obtain ⟨G,h1,h2,h3⟩:=h
 refine ⟨G,h1.upd k (fun b hb hf=>?_) (fun b hb hf=>?_),fun x hx=>⟨(h2 x hx).1,Nat.lt_of_lt_of_le (h2 x hx).2 k.size⟩,h3⟩
 .have hf':=hF b hf
  rcases (h2 b hb).1 with hq | hq
  .omega
  .exact hf'.2 hq
 .have hf':=hF b hf
  have:=(h3 b hb).1
  omega
theorem ListAt.lt {w:World} {a:Option Addr} {cap:Nat} {e:TypeId} {l:List α} (h:ListAt r Q S w a cap e l) {b:Nat} (hb:a=some ⟨b,0,none⟩):b<w.heap.size:=by
 obtain ⟨G,h1,_⟩:=h
 obtain ⟨b',h2,h3,h4⟩:=h1.blk hb
 cases h4
 exact h3
theorem ListAt.cap {w:World} {a:Option Addr} {cap:Nat} {e:TypeId} {l:List α} (h:ListAt r Q S w a cap e l):l.length<=cap:=by
 obtain ⟨G,h1,_⟩:=h
 exact h1.cap
theorem ListAt.slice {w:World} {a:Option Addr} {cap:Nat} {e:TypeId} {l:List α} (h:ListAt r Q S w a cap e l):∃ G,SliceAt r w G a l/\∀ x,G x->(S<=x\/Q x)/\x<w.heap.size:=by
 obtain ⟨G,h1,h2,h3⟩:=h
 refine ⟨fun x=>G x\/a=some ⟨x,0,none⟩,(h1.mono fun _ hb=>.inl hb).at_ fun p hp=>?_,fun x hx=>?_⟩
 .obtain ⟨b,hb,_,rfl⟩:=h1.blk hp
  exact .inr hb
 .rcases hx with hx | hx
  .exact h2 x hx
  .obtain ⟨b,hb,hlt,e⟩:=h1.blk hx
   cases e
   exact ⟨.inl (h3 _ hx).1,hlt⟩
theorem ListAt.weak {w:World} {Q':Nat->Prop} {S':Nat} {a:Option Addr} {cap:Nat} {e:TypeId} {l:List α} (h:ListAt r Q S w a cap e l) (hS:S'<=S) (hQ:∀ x,Q x->S'<=x\/Q' x):ListAt r Q' S' w a cap e l:=by
 obtain ⟨G,h1,h2,h3⟩:=h
 refine ⟨G,h1,fun x hx=>⟨?_,(h2 x hx).2⟩,fun b hb=>⟨Nat.le_trans hS (h3 b hb).1,(h3 b hb).2⟩⟩
 rcases (h2 x hx).1 with h | h
 .exact .inl (Nat.le_trans hS h)
 .exact hQ x h
theorem ListAt.push {w0 w1:World} {H:Nat->Prop} {a:Option Addr} {cap n bytes:Nat} {e:TypeId} {l:List α} {z:List Value} (h:ListAt r Q S w1 a cap e l) {B:Nat} {x:α} {cs:Array Value} (hx:r.R w1 H cs.toList x) (hH:∀ b,H b->(S<=b\/Q b)/\b<w1.heap.size/\a≠some ⟨b,0,none⟩) (hn:New w0 (.cells cs e) B w1) (hnl:n=l.length)
  (hz:z.length=r.k) (hb:l.length<=1000000000) (hby:bytes<=10000) (hS:S<=w1.heap.size) {K:Option Addr->Nat->Nat->World->Prop}
  (hk:∀ a' c' w',Upd (fun b=>S<=b) w1 w'->ListAt r Q S w' a' c' e (l ++ [x])->K a' (l ++ [x]).length c' w') :
  appendP e r.k bytes z a n cap (.slice (some ⟨B,0,none⟩) 1 1) w1 K:=by
 obtain ⟨G,h1,h2,h3⟩:=h
 have hG:∀ b,G b\/H b->(S<=b\/Q b)/\b<w1.heap.size:=fun b hb=>by
  rcases hb with hb | hb
  .exact h2 b hb
  .exact ⟨(hH b hb).1,(hH b hb).2.1⟩
 have hno:∀ b,a=some ⟨b,0,none⟩->¬ (G b\/H b):=fun b hb hb'=>by
  rcases hb' with hb' | hb'
  .exact (h3 b hb).2 hb'
  .exact (hH b hb').2.2 hb
 refine OwnS.push (G:=fun b=>G b\/H b) (h1.mono fun _ hb=>.inl hb) (r.mono hx fun _ hb=>.inr hb) hn hnl hz hb hby hno fun a' c' w' hu ho hf=>?_
 refine hk a' c' w' (hu.mono fun b _ hb=>(h3 b hb).1) ⟨_,ho,fun b hb=>⟨(hG b hb).1,Nat.lt_of_lt_of_le (hG b hb).2 hu.size⟩,fun b hb=>?_⟩
 rcases hf with hf | ⟨b',hb',hl⟩
 .subst hf;exact ⟨(h3 b hb).1,hno b hb⟩
 .rw [hb'] at hb
  cases hb
  exact ⟨Nat.le_trans hS hl,fun hb=>absurd (hG _ hb).2 (by omega)⟩
theorem ListAt.concat {w1:World} {H:Nat->Prop} {a ax:Option Addr} {cap cx n m bytes:Nat} {e:TypeId} {l xs:List α} {z:List Value} (h:ListAt r Q S w1 a cap e l) (hx:SliceAt r w1 H ax xs) (hH:∀ b,H b->(S<=b\/Q b)/\b<w1.heap.size/\a≠some ⟨b,0,none⟩) (hnl:n=l.length) (hm:m=xs.length)
  (hz:z.length=r.k) (hb:l.length+xs.length<=1000000000) (hby:bytes<=10000) (hS:S<=w1.heap.size) {K:Option Addr->Nat->Nat->World->Prop}
  (hk:∀ a' c' w',Upd (fun b=>S<=b) w1 w'->ListAt r Q S w' a' c' e (l ++ xs)->K a' (l ++ xs).length c' w') :
  appendP e r.k bytes z a n cap (.slice ax m cx) w1 K:=by
 obtain ⟨G,h1,h2,h3⟩:=h
 have hG:∀ b,G b\/H b->(S<=b\/Q b)/\b<w1.heap.size:=fun b hb=>by
  rcases hb with hb | hb
  .exact h2 b hb
  .exact ⟨(hH b hb).1,(hH b hb).2.1⟩
 have hno:∀ b,a=some ⟨b,0,none⟩->¬ (G b\/H b):=fun b hb hb'=>by
  rcases hb' with hb' | hb'
  .exact (h3 b hb).2 hb'
  .exact (hH b hb').2.2 hb
 refine OwnS.concat (G:=fun b=>G b\/H b) (h1.mono fun _ hb=>.inl hb) (hx.mono fun _ hb=>.inr hb) hnl hm hz hb hby hno fun a' c' w' hu ho hf=>?_
 refine hk a' c' w' (hu.mono fun b _ hb=>(h3 b hb).1) ⟨_,ho,fun b hb=>⟨(hG b hb).1,Nat.lt_of_lt_of_le (hG b hb).2 hu.size⟩,fun b hb=>?_⟩
 rcases hf with hf | ⟨b',hb',hl⟩
 .subst hf;exact ⟨(h3 b hb).1,hno b hb⟩
 .rw [hb'] at hb
  cases hb
  exact ⟨Nat.le_trans hS hl,fun hb=>absurd (hG _ hb).2 (by omega)⟩
end
theorem Ext.new {w w':World} {S:Nat} (h:Upd (fun b=>S<=b) w w') (hS:w.heap.size<=S):Ext w w':=h.mono fun x hx hs=>absurd hx (by omega)
theorem Ext.own {w w1 w':World} {S:Nat} (h:Ext w w1) (k:Upd (fun b=>S<=b) w1 w') (hS:w.heap.size<=S):Ext w w':=h.beyond k fun x hx=>Nat.le_trans hS hx
end
abbrev St:=Option (List UInt8)
def takeS (k:Nat):St->Nat×Nat×St
 | some l=>if l.length<k then (0,4,none) else (fromLE (l.take k),0,some (l.drop k))
 | none=>(0,4,none)
def cutS (k:Nat):St->List UInt8×Nat×St
 | some l=>if l.length<k then ([],4,none) else (l.take k,0,some (l.drop k))
 | none=>([],4,none)
def rowS (s:St):List UInt8×Nat×St:=if (takeS 1 s).2.1=0 then cutS (takeS 1 s).1 (takeS 1 s).2.2 else ([],4,none)
def leftS:St->Nat
 | some l=>l.length
 | none=>0
theorem takeS_cases (k:Nat) (s:St):takeS k s=(0,4,none)\/∃ l,s=some l/\k<=l.length/\takeS k s=(fromLE (l.take k),0,some (l.drop k)):=by
 cases s with
 | none=>exact .inl rfl
 | some l =>
  by_cases h:l.length<k
  .exact .inl (by simp [takeS,h])
  .exact .inr ⟨l,rfl,by omega,by simp [takeS,h]⟩
theorem takeS_lt (k:Nat) (s:St):(takeS k s).1<256 ^ k:=by
 rcases takeS_cases k s with h | ⟨l,_,hk,h⟩
 .rw [h];exact Nat.pow_pos (by omega)
 .rw [h]
  have:=fromLE_lt (l.take k)
  simpa [Nat.min_eq_left hk] using this
theorem takeS_err {k:Nat} {s:St} (h:(takeS k s).2.1≠0):takeS k s=(0,4,none):=by
 rcases takeS_cases k s with h' | ⟨l,_,hk,h'⟩
 .exact h'
 .rw [h'] at h;exact absurd rfl h
theorem cutS_cases (k:Nat) (s:St):cutS k s=([],4,none)\/∃ l,s=some l/\k<=l.length/\cutS k s=(l.take k,0,some (l.drop k)):=by
 cases s with
 | none=>exact .inl rfl
 | some l =>
  by_cases h:l.length<k
  .exact .inl (by simp [cutS,h])
  .exact .inr ⟨l,rfl,by omega,by simp [cutS,h]⟩
theorem rowS_err {s:St} (h:(rowS s).2.1≠0):rowS s=([],4,none):=by
 unfold rowS at h ⊢
 split
 .rename_i h0
  rw [if_pos h0] at h
  rcases cutS_cases (takeS 1 s).1 (takeS 1 s).2.2 with h' | ⟨l,_,_,h'⟩
  .exact h'
  .rw [h'] at h;exact absurd rfl h
 .rfl
theorem rowS_len (s:St):(rowS s).1.length<256:=by
 unfold rowS
 split
 .have hlt:=takeS_lt 1 s
  rcases cutS_cases (takeS 1 s).1 (takeS 1 s).2.2 with h' | ⟨l,_,_,h'⟩
  .rw [h'];decide
  .rw [h']
   simp only [List.length_take]
   omega
 .decide
def RdIn (G:Nat->Prop) (w:World) (r:Nat):St->Prop
 | some l=>ReaderIn G w r l false
 | none=>∃ l,ReaderIn G w r l true
theorem ReaderIn.updG {F G:Nat->Prop} {w w':World} {r:Nat} {l:List UInt8} {no:Bool} (h:ReaderIn G w r l no) (k:Upd F w w') (hr:¬ F r) (hG:∀ x,G x->¬ F x):ReaderIn G w' r l no:=by
 obtain ⟨a,c,h1,h2,h3,h4⟩:=h.at_
 exact ⟨a,c,Upd.get k h1 hr,RowAt.upd h2 k fun p hp=>hG _ (h4 p hp),h3,h4⟩
theorem RdIn.upd {F G:Nat->Prop} {w w':World} {r:Nat}:∀ {s:St},RdIn G w r s->Upd F w w'->¬ F r->(∀ x,G x->¬ F x)->RdIn G w' r s
 | some l,h,k,hr,hG=>ReaderIn.updG h k hr hG
 | none,⟨l,h⟩,k,hr,hG=>⟨l,h.updG k hr hG⟩
theorem RdIn.ext {G:Nat->Prop} {w w':World} {r:Nat} {s:St} (h:RdIn G w r s) (k:Ext w w'):RdIn G w' r s:=h.upd k (fun h=>h) fun _ _ h=>h
theorem rdTake {G:Nat->Prop} {w:World} {r k:Nat} {s:St} (hk:isSz k=true) (hG:¬ G r) (h:RdIn G w r s) :
  CallsR prog K.ends_Reader_Take #[.pointer (some ⟨r,0,none⟩),.int .i64 k] w fun v w'=>Upd (·=r) w w'/\v= .tuple #[.int .u64 ((takeS k s).1:Nat),.int .i64 ((takeS k s).2.1:Nat)]/\RdIn G w' r (takeS k s).2.2:=by
 cases s with
 | none =>
  obtain ⟨l,h⟩:=h
  refine (ends_Reader_Take_in r k l true w hk hG h).mono ?_
  rintro v w' ⟨hu,hv⟩
  rw [if_pos (.inl rfl)] at hv
  exact ⟨hu,hv.1,l,hv.2⟩
 | some l =>
  refine (ends_Reader_Take_in r k l false w hk hG h).mono ?_
  rintro v w' ⟨hu,hv⟩
  refine ⟨hu,?_⟩
  unfold takeS
  by_cases hl:l.length<k
  .rw [if_pos (.inr hl)] at hv
   simp only [if_pos hl]
   exact ⟨hv.1,l,hv.2⟩
  .rw [if_neg (by rintro (h | h);cases h;exact hl h)] at hv
   simp only [if_neg hl]
   exact hv
theorem rdLeft {G:Nat->Prop} {w:World} {r:Nat} {s:St} (h:RdIn G w r s) :
  CallsR prog K.ends_Reader_Left #[.pointer (some ⟨r,0,none⟩)] w fun v w'=>v= .int .i64 (leftS s:Nat)/\w'=w:=by
 apply ends_Reader_Left.sh
 unfold ends_Reader_Left.body
 cases s with
 | none =>
  obtain ⟨l,h⟩:=h
  refine (ends_Reader_off_spec r l true w h).mono ?_
  rintro _ _ ⟨rfl,rfl⟩
  obtain ⟨a,c,hr,_⟩:=h.at_
  refine ⟨_,rfl,?_⟩
  simp only [br_false,nilC_some',add_lit,Nat.zero_add]
  exact ⟨true,cell_of hr rfl,by simp [leftS]⟩
 | some l =>
  refine (ends_Reader_off_spec r l false w h).mono ?_
  rintro _ _ ⟨rfl,rfl⟩
  obtain ⟨a,c,hr,_⟩:=ReaderIn.at_ h
  refine ⟨_,rfl,?_⟩
  simp only [br_false,nilC_some',add_lit,Nat.zero_add]
  exact ⟨false,cell_of hr rfl,a,l.length,c,cell_of hr rfl,by simp [leftS]⟩
def RRdIn (G:Nat->Prop) (w:World) (r:Nat):St->Prop
 | some l=>RReaderIn G w r l false/\l.length<=1000000000000
 | none=>∃ l,RReaderIn G w r l true
theorem RReaderIn.updG {F G:Nat->Prop} {w w':World} {r:Nat} {l:List UInt8} {no:Bool} (h:RReaderIn G w r l no) (k:Upd F w w') (hr:¬ F r) (hG:∀ x,G x->¬ F x):RReaderIn G w' r l no:=by
 obtain ⟨a,c,h1,h2,h3,h4⟩:=h.at_
 exact ⟨a,c,Upd.get k h1 hr,RowAt.upd h2 k fun p hp=>hG _ (h4 p hp),h3,h4⟩
theorem RRdIn.upd {F G:Nat->Prop} {w w':World} {r:Nat}:∀ {s:St},RRdIn G w r s->Upd F w w'->¬ F r->(∀ x,G x->¬ F x)->RRdIn G w' r s
 | some l,h,k,hr,hG=>⟨RReaderIn.updG h.1 k hr hG,h.2⟩
 | none,⟨l,h⟩,k,hr,hG=>⟨l,h.updG k hr hG⟩
theorem RRdIn.ext {G:Nat->Prop} {w w':World} {r:Nat} {s:St} (h:RRdIn G w r s) (k:Ext w w'):RRdIn G w' r s:=h.upd k (fun h=>h) fun _ _ h=>h
theorem rrdTake {G:Nat->Prop} {w:World} {r k:Nat} {s:St} (hk:isSz k=true) (hG:¬ G r) (h:RRdIn G w r s) :
  CallsR prog K.carrackref01_Reader_Take #[.pointer (some ⟨r,0,none⟩),.int .i64 k] w fun v w'=>Upd (·=r) w w'/\v= .tuple #[.int .u64 ((takeS k s).1:Nat),.int .i64 ((takeS k s).2.1:Nat)]/\RRdIn G w' r (takeS k s).2.2:=by
 cases s with
 | none =>
  obtain ⟨l,h⟩:=h
  refine (carrackref01_Reader_Take_in r k l true w hk hG h).mono ?_
  rintro v w' ⟨hu,hv⟩
  rw [if_pos (.inl rfl)] at hv
  exact ⟨hu,hv.1,l,hv.2⟩
 | some l =>
  refine (carrackref01_Reader_Take_in r k l false w hk hG h.1).mono ?_
  rintro v w' ⟨hu,hv⟩
  refine ⟨hu,?_⟩
  unfold takeS
  by_cases hl:l.length<k
  .rw [if_pos (.inr hl)] at hv
   simp only [if_pos hl]
   exact ⟨hv.1,l,hv.2⟩
  .rw [if_neg (by rintro (h | h);cases h;exact hl h)] at hv
   simp only [if_neg hl]
   exact ⟨hv.1,hv.2,by have:=h.2;rw [List.length_drop];omega⟩
theorem rrdLeft {G:Nat->Prop} {w:World} {r:Nat} {s:St} (h:RRdIn G w r s) :
  CallsR prog K.carrackref01_Reader_Left #[.pointer (some ⟨r,0,none⟩)] w fun v w'=>v= .int .i64 (leftS s:Nat)/\w'=w:=by
 apply carrackref01_Reader_Left.sh
 unfold carrackref01_Reader_Left.body
 simp only [nilC_some',add_lit,Nat.zero_add]
 cases s with
 | none =>
  obtain ⟨l,h⟩:=h
  obtain ⟨a,c,hr,_⟩:=h.at_
  exact ⟨true,cell_of hr rfl,by simp [leftS]⟩
 | some l =>
  obtain ⟨a,c,hr,_⟩:=h.1.at_
  exact ⟨false,cell_of hr rfl,a,l.length,c,cell_of hr rfl,by simp [leftS]⟩
theorem rowS_some {l:List UInt8} (h1:1<=l.length):rowS (some l)=cutS (l.getD 0 0).toNat (some (l.drop 1)):=by
 have e1:fromLE (l.take 1)=(l.getD 0 0).toNat:=by cases l<;>simp [fromLE]
 have e2:takeS 1 (some l)=((l.getD 0 0).toNat,0,some (l.drop 1)):=by simp [takeS,Nat.not_lt.2 h1,e1]
 unfold rowS
 rw [e2];rfl
theorem rrdRow {G:Nat->Prop} {w:World} {r:Nat} {s:St} (hG:¬ G r) (h:RRdIn G w r s) :
  CallsR prog K.carrackref01_Reader_Row #[.pointer (some ⟨r,0,none⟩)] w fun v w'=>Upd (·=r) w w'/\(∃ a c,v= .tuple #[.slice a (rowS s).1.length c,.int .i64 ((rowS s).2.1:Nat)]/\BytesAt w' a (rowS s).1/\(rowS s).1.length<=c/\∀ p,a=some p->w.heap.size<=p.block/\p.block<w'.heap.size)/\RRdIn G w' r (rowS s).2.2:=by
 apply carrackref01_Reader_Row.sh
 unfold carrackref01_Reader_Row.body
 simp only [nilC_some',add_lit,Nat.zero_add]
 have bad:∀ {u:World} {l:List UInt8} {no:Bool},RReaderIn G u r l no->Ext w u->rowS s=([],4,none)->storeP u ⟨r,1,none⟩ [.bool true] fun w'=>Upd (·=r) w w'/\(∃ a c,Value.tuple #[.slice none 0 0,.int .i64 4]= .tuple #[.slice a (rowS s).1.length c,.int .i64 ((rowS s).2.1:Nat)]/\BytesAt w' a (rowS s).1/\(rowS s).1.length<=c/\∀ p,a=some p->w.heap.size<=p.block/\p.block<w'.heap.size)/\RRdIn G w' r (rowS s).2.2:=by
  intro u l no hr he hrow
  obtain ⟨a,c,h1,h2,h3,h4⟩:=hr.at_
  rw [hrow]
  refine store_of h1 (by simp) fun w' hput=>⟨Upd.trans he.ext hput.upd1,⟨none,0,rfl,BytesAt.nil _ _,Nat.le_refl _,fun _ h=>by cases h⟩,l,⟨a,c,hput.get,?_,h3,h4⟩⟩
  exact RowAt.upd h2 hput.upd1 fun p hp e=>hG (e ▸ h4 p hp)
 cases s with
 | none =>
  obtain ⟨l,h⟩:=h
  refine ⟨fun _=>False,fun w1 hd=>?_,fun _ h=>h.elim⟩
  have hr:=h.updG hd.upd (fun h=>h) (fun _ _ h=>h)
  obtain ⟨a,c,h1,_⟩:=hr.at_
  refine ⟨(·=w1),rfl,true,?_,?_⟩
  .rintro u rfl;exact cell_of h1 rfl
  .exact bad hr hd.upd rfl
 | some l =>
  obtain ⟨hrd,hsz⟩:=h
  refine ⟨fun u=>RReaderIn G u r l false/\Ext w u/\1<=l.length/\(l.getD 0 0).toNat<=l.length - 1,fun w1 hd=>?_,?_⟩
  .have hr:=hrd.updG hd.upd (fun h=>h) (fun _ _ h=>h)
   obtain ⟨a,c,h1,h2,h3,h4⟩:=hr.at_
   refine ⟨(·=w1),rfl,false,?_,?_⟩
   .rintro u rfl;exact cell_of h1 rfl
   .refine ⟨a,l.length,c,?_,br_dec (fun hl=>?_) fun hl=>?_⟩
    .rintro u rfl;exact cell_of h1 rfl
    .refine bad hr hd.upd ?_
     have:takeS 1 (some l)=(0,4,none):=by simp only [takeS];rw [if_pos (by omega)]
     unfold rowS;rw [this];rfl
    .have hl1:1<=l.length:=by omega
     refine ⟨a,l.length,c,?_,a,l.length,c,?_,?_⟩
     .rintro u rfl;exact cell_of h1 rfl
     .rintro u rfl;exact cell_of h1 rfl
     refine idx_byteS (S:=(·=w1)) (l:=l) (i:=0) (a:=a) (by rintro u rfl;exact h2) ⟨_,rfl⟩ (by omega) (by omega) ?_
     have hbx:=(l.getD 0 0).toNat_lt
     have q1:i64.wrap ((l.length:Int) - 1)=(l.length:Int) - 1:=w64 (by omega) (by omega)
     have q2:i64.wrap ((l.getD (Int.toNat 0) 0).toNat:Int)=((l.getD 0 0).toNat:Int):=w64 (by simp only [Int.toNat_zero];omega) (by simp only [Int.toNat_zero];omega)
     simp only [q1,q2]
     refine br_dec (fun hlt=>?_) fun hge=>?_
     .refine bad hr hd.upd ?_
      rw [rowS_some hl1]
      unfold cutS
      simp only []
      rw [if_pos (by rw [List.length_drop];omega)]
     .exact ⟨hr,hd.upd,hl1,by omega⟩
  .rintro w5 ⟨hr,he,hl1,hle⟩
   obtain ⟨a,c,h1,h2,h3,h4⟩:=hr.at_
   have hbx:=(l.getD 0 0).toNat_lt
   have hrow:rowS (some l)=((l.drop 1).take (l.getD 0 0).toNat,0,some (l.drop (1+(l.getD 0 0).toNat))):=by
    rw [rowS_some hl1]
    unfold cutS
    simp only []
    rw [if_neg (by rw [List.length_drop];omega),List.drop_drop]
   refine ⟨a,l.length,c,cell_of h1 rfl,idx_byte h2 (by omega) (by omega) ?_⟩
   have q2:i64.wrap ((l.getD (Int.toNat 0) 0).toNat:Int)=((l.getD 0 0).toNat:Int):=w64 (by simp only [Int.toNat_zero];omega) (by simp only [Int.toNat_zero];omega)
   have q3:i64.wrap ((1:Int)+((l.getD 0 0).toNat:Int))=1+((l.getD 0 0).toNat:Int):=w64 (by omega) (by omega)
   simp only [q2,q3]
   have q4:((1:Int)+((l.getD 0 0).toNat:Int)).toNat=1+(l.getD 0 0).toNat:=by omega
   refine ⟨a,l.length,c,cell_of h1 rfl,slice_bytes_mid h2 (by omega) (by omega) (by omega) h3 (.inl rfl) fun a6 c6 hb6 hc6=>?_⟩
   have em:(l.take ((1:Int)+((l.getD 0 0).toNat:Int)).toNat).drop (Int.toNat 1)=(rowS (some l)).1:=by
    rw [hrow,q4]
    show (l.take (1+(l.getD 0 0).toNat)).drop 1=(l.drop 1).take (l.getD 0 0).toNat
    rw [List.drop_take,Nat.add_sub_cancel_left]
   have hlen:=rowS_len (some l)
   rw [em] at hb6 hc6 ⊢
   refine append_copy hb6 (by omega) fun a7 c7 w6 he6 hb7 hc7 hf7 hn7=>?_
   have g1:=Ext.get he6 h1
   refine ⟨a,l.length,c,cell_of g1 rfl,slice_bytes_from (h2.ext he6) (by omega) (by omega) h3 fun a9 c9 hb9 hc9 ha9 _ _=>?_⟩
   rw [q4] at hb9 hc9 ⊢
   refine store_of g1 (by simp) fun w7 hput=>⟨(he.trans he6).ext.trans hput.upd1,⟨a7,c7,?_,RowAt.upd hb7 hput.upd1 fun p hp e=>?_,hc7,fun p hp=>⟨Nat.le_trans he.size (hf7 p hp),?_⟩⟩,?_⟩
   .rw [hrow];rfl
   .have:=hf7 p hp
    have hr5:r<w5.heap.size:=(Array.getElem?_eq_some_iff.1 h1).1
    omega
   .by_cases hl:(rowS (some l)).1=[]
    .rw [hn7 hl] at hp;cases hp
    .obtain ⟨b,o,hab,hlt⟩:=RowAt.blk hb7 (by simpa using hl)
     rw [hab] at hp;cases hp;rw [hput.size];exact hlt
   .rw [hrow]
    have hne:∀ p,a9=some p->G p.block:=by
     intro p hp
     rcases ha9 with ha9 | ha9
     .exact h4 p (ha9 ▸ hp)
     .rw [ha9] at hp
      cases a with
      | none=>simp at hp
      | some q =>
       simp at hp
       have:=h4 q rfl
       rw [<- hp]
       unfold Addr.add
       split<;>exact this
    exact ⟨⟨a9,c9,hput.get,RowAt.upd hb9 hput.upd1 fun p hp e=>hG (e ▸ hne p hp),hc9,hne⟩,by rw [List.length_drop];omega⟩
end Go.Den
namespace Go.Den
def mayByte (c:UInt8):Bool:=(decide (97<=c.toNat) && decide (c.toNat<=122)) || (decide (48<=c.toNat) && decide (c.toNat<=57)) || decide (c.toNat=46) || decide (c.toNat=45)
def isName (s:List UInt8):Bool:=s.all mayByte && decide (1<=s.length) && decide (s.length<=12) && !(s == [46]) && !(s == [46,46])
structure Key where
 ino:Int
 what:UInt8
 name:ByteArray
 chunk:Int
 deriving DecidableEq
namespace Key
def zero:Key:=⟨0,0,ByteArray.empty,0⟩
def bytes (k:Key):List UInt8:=k.name.data.toList
def vals (k:Key):List Value:=[.int .i64 k.ino,bv k.what,.string k.name,.int .i64 k.chunk]
def may (k:Key):Bool:=decide (1<=k.ino) && decide (k.ino<=65535) &&
 ((decide (k.what.toNat=1) && decide (k.bytes=[]) && decide (k.chunk=0)) || (decide (k.what.toNat=2) && isName k.bytes && decide (k.chunk=0)) || (decide (k.what.toNat=3) && decide (k.bytes=[]) && decide (0<=k.chunk) && decide (k.chunk<8)))
def code (k:Key):List Int:=k.ino :: (k.what.toNat:Int) :: (k.bytes.map (fun b=>(b.toNat:Int)+1) ++ [0,k.chunk])
end Key
abbrev keyV (k:Key):Value:=.agg #[.int .i64 k.ino,bv k.what,.string k.name,.int .i64 k.chunk]
def listLt:List Int->List Int->Bool
 | [],[]=>false
 | [],_ :: _=>true
 | _ :: _,[]=>false
 | x :: xs,y :: ys=>decide (x<y) || (decide (x=y) && listLt xs ys)
theorem listLt_irrefl:∀ l,listLt l l=false
 | []=>rfl
 | x :: l=>by simp [listLt,listLt_irrefl l]
theorem listLt_trans:∀ {a b c},listLt a b=true->listLt b c=true->listLt a c=true
 | [],[],_,h,_=>by cases h
 | [],_ :: _,[],_,h=>by cases h
 | [],_ :: _,_ :: _,_,_=>rfl
 | _ :: _,[],_,h,_=>by cases h
 | _ :: _,_ :: _,[],_,h=>by cases h
 | x :: xs,y :: ys,z :: zs,h,k=>by
  simp only [listLt,Bool.or_eq_true,Bool.and_eq_true,decide_eq_true_eq] at h k ⊢
  rcases h with h | ⟨h1,h2⟩
  .rcases k with k | ⟨k1,k2⟩
   .exact .inl (by omega)
   .exact .inl (by omega)
  .rcases k with k | ⟨k1,k2⟩
   .exact .inl (by omega)
   .exact .inr ⟨by omega,listLt_trans h2 k2⟩
theorem listLt_total:∀ {a b},listLt a b=false->listLt b a=false->a=b
 | [],[],_,_=>rfl
 | [],_ :: _,h,_=>by cases h
 | _ :: _,[],_,h=>by cases h
 | x :: xs,y :: ys,h,k=>by
  simp only [listLt,Bool.or_eq_false_iff,Bool.and_eq_false_iff,decide_eq_false_iff_not] at h k
  have e:x=y:=by omega
  subst e
  have h2:listLt xs ys=false:=by rcases h.2 with h | h;exact absurd rfl h;exact h
  have k2:listLt ys xs=false:=by rcases k.2 with h | h;exact absurd rfl h;exact h
  rw [listLt_total h2 k2]
theorem map_append_inj {f:UInt8->Int} (hf:∀ x y,f x=f y->x=y) (h0:∀ x,f x≠0):∀ {a b:List UInt8} {x y:Int},a.map f ++ [0,x]=b.map f ++ [0,y]->a=b/\x=y
 | [],[],_,_,h=>by simpa using h
 | [],b :: bs,_,_,h=>by simp at h;exact absurd h.1.symm (h0 b)
 | a :: l,[],_,_,h=>by simp at h;exact absurd h.1 (h0 a)
 | a :: l,b :: bs,_,_,h=>by
  simp only [List.map_cons,List.cons_append,List.cons.injEq] at h
  obtain ⟨e1,e2⟩:=map_append_inj hf h0 h.2
  exact ⟨by rw [hf _ _ h.1,e1],e2⟩
theorem Key.code_inj {a b:Key} (h:a.code=b.code):a=b:=by
 obtain ⟨a1,a2,a3,a4⟩:=a
 obtain ⟨b1,b2,b3,b4⟩:=b
 simp only [Key.code,Key.bytes,List.cons.injEq] at h
 obtain ⟨h1,h2,h3⟩:=h
 obtain ⟨e1,e2⟩:=map_append_inj (f:=fun b:UInt8=>(b.toNat:Int)+1) (fun x y h=>UInt8.toNat_inj.1 (by have h':(x.toNat:Int)+1=(y.toNat:Int)+1:=h;omega)) (fun x=>by show (x.toNat:Int)+1≠0;omega) h3
 have e3:a3=b3:=by
  obtain ⟨⟨a3⟩⟩:=a3
  obtain ⟨⟨b3⟩⟩:=b3
  simp only at e1
  rw [e1]
 rw [h1,UInt8.toNat_inj.1 (by omega:a2.toNat=b2.toNat),e3,e2]
def before (a b:Key):Bool:=listLt a.code b.code
theorem before_irrefl (a:Key):before a a=false:=listLt_irrefl _
theorem before_trans {a b c:Key} (h:before a b=true) (k:before b c=true):before a c=true:=listLt_trans h k
theorem before_total {a b:Key} (h:before a b=false) (k:before b a=false):a=b:=Key.code_inj (listLt_total h k)
theorem before_asymm {a b:Key} (h:before a b=true):before b a=false:=by
 cases hb:before b a with
 | false=>rfl
 | true =>
  have:=before_trans h hb
  rw [before_irrefl] at this
  cases this
structure Fact where
 key:Key
 val:List UInt8
 deriving DecidableEq
structure Change where
 key:Key
 val:List UInt8
 gone:Bool
 deriving DecidableEq
def ordered:List Fact->Bool
 | []=>true
 | [_]=>true
 | x :: y :: l=>before x.key y.key && ordered (y :: l)
def Sorted (l:List Fact):Prop:=l.Pairwise fun a b=>before a.key b.key=true
theorem ordered_sorted:∀ {l:List Fact},ordered l=true ↔ Sorted l
 | []=>by simp [ordered,Sorted]
 | [x]=>by simp [ordered,Sorted]
 | x :: y :: l=>by
  unfold ordered
  rw [Bool.and_eq_true,ordered_sorted (l:=y :: l)]
  unfold Sorted
  rw [List.pairwise_cons (a:=x)]
  constructor
  .rintro ⟨h1,h2⟩
   refine ⟨fun z hz=>?_,h2⟩
   rcases List.mem_cons.1 hz with rfl | hz
   .exact h1
   .exact before_trans h1 ((List.pairwise_cons.1 h2).1 z hz)
  .rintro ⟨h1,h2⟩
   exact ⟨h1 y (by simp),h2⟩
def putF (c:Change):List Fact->List Fact
 | []=>if c.gone then [] else [⟨c.key,c.val⟩]
 | x :: l=>if x.key=c.key then (if c.gone then l else ⟨c.key,c.val⟩:: l) else if before c.key x.key then (if c.gone then x :: l else ⟨c.key,c.val⟩:: x :: l) else x :: putF c l
def applyL (l:List Fact) (cs:List Change):List Fact:=cs.foldl (fun l c=>putF c l) l
def applyF (l:List Fact) (cs:List Change):List Fact:=if ordered l then applyL l cs else []
theorem putF_mem {c:Change} {y:Fact}:∀ {l:List Fact},y∈putF c l->y∈l\/(c.gone=false/\y=⟨c.key,c.val⟩)
 | [],h=>by
  unfold putF at h
  split at h
  .cases h
  .rename_i hg
   exact .inr ⟨by simpa using hg,by simpa using h⟩
 | x :: l,h=>by
  unfold putF at h
  split at h
  .split at h
   .exact .inl (by simp [h])
   .rename_i hg
    rcases List.mem_cons.1 h with h | h
    .exact .inr ⟨by simpa using hg,h⟩
    .exact .inl (by simp [h])
  .split at h
   .split at h
    .exact .inl h
    .rename_i hg
     rcases List.mem_cons.1 h with h | h
     .exact .inr ⟨by simpa using hg,h⟩
     .exact .inl h
   .rcases List.mem_cons.1 h with h | h
    .exact .inl (by simp [h])
    .rcases putF_mem h with h | h
     .exact .inl (by simp [h])
     .exact .inr h
theorem putF_sorted {c:Change}:∀ {l:List Fact},Sorted l->Sorted (putF c l)
 | [],h=>by
  unfold putF
  split
  .exact List.Pairwise.nil
  .exact List.pairwise_singleton _ _
 | x :: l,h=>by
  obtain ⟨h1,h2⟩:=List.pairwise_cons.1 h
  unfold putF
  split
  .rename_i he
   split
   .exact h2
   .refine List.pairwise_cons.2 ⟨fun y hy=>?_,h2⟩
    have:=h1 y hy
    rw [he] at this
    exact this
  .rename_i he
   split
   .rename_i hb
    split
    .exact h
    .refine List.pairwise_cons.2 ⟨fun y hy=>?_,h⟩
     rcases List.mem_cons.1 hy with rfl | hy
     .exact hb
     .exact before_trans hb (h1 y hy)
   .rename_i hb
    refine List.pairwise_cons.2 ⟨fun y hy=>?_,putF_sorted h2⟩
    rcases putF_mem hy with hy | ⟨_,rfl⟩
    .exact h1 y hy
    .cases hx:before x.key c.key with
     | true=>rfl
     | false=>exact absurd (before_total hx (by simpa using hb)) he
theorem applyL_sorted:∀ {cs:List Change} {l:List Fact},Sorted l->Sorted (applyL l cs)
 | [],l,h=>h
 | c :: cs,l,h=>applyL_sorted (cs:=cs) (putF_sorted h)
theorem putF_length (c:Change):∀ (l:List Fact),(putF c l).length<=l.length+1
 | []=>by unfold putF;split<;>simp
 | x :: l=>by
  have:=putF_length c l
  unfold putF
  split
  .split<;>simp<;>omega
  .split
   .split<;>simp<;>omega
   .simp;omega
def placeF (l:List Fact) (k:Key):Nat:=(l.takeWhile fun f=>before f.key k).length
theorem placeF_le (l:List Fact) (k:Key):placeF l k<=l.length:=by
 unfold placeF
 induction l with
 | nil=>simp
 | cons x l ih =>
  rw [List.takeWhile_cons]
  split
  .simp;exact ih
  .simp
theorem placeF_cons (x:Fact) (l:List Fact) (k:Key):placeF (x :: l) k=if before x.key k then placeF l k+1 else 0:=by
 unfold placeF
 rw [List.takeWhile_cons]
 split<;>simp
theorem placeF_at:∀ {l:List Fact} {k:Key},Sorted l->∀ (i:Nat) (hi:i<l.length),(before l[i].key k=true ↔ i<placeF l k)
 | x :: l,k,h,i,hi=>by
  obtain ⟨h1,h2⟩:=List.pairwise_cons.1 h
  rw [placeF_cons]
  cases i with
  | zero =>
   simp only [List.getElem_cons_zero]
   split
   .rename_i hb;simp [hb]
   .rename_i hb;simp [hb]
  | succ i =>
   simp only [List.getElem_cons_succ]
   have:=placeF_at h2 i (by simpa using hi) (k:=k)
   split
   .rw [this];omega
   .rename_i hb
    constructor
    .intro hx
     have:=before_trans (h1 _ (List.getElem_mem _)) hx
     rw [this] at hb
     exact absurd rfl hb
    .intro hx;omega
theorem putF_place {c:Change}:∀ {l:List Fact},Sorted l->putF c l=(if hp:placeF l c.key<l.length/\(∀ h:placeF l c.key<l.length,l[placeF l c.key].key=c.key) then
   (if c.gone then l.take (placeF l c.key) ++ l.drop (placeF l c.key+1) else l.set (placeF l c.key) ⟨c.key,c.val⟩)
  else if c.gone then l else l.take (placeF l c.key) ++ [⟨c.key,c.val⟩] ++ l.drop (placeF l c.key))
 | [],h=>by
  unfold putF
  rw [dif_neg (by simp)]
  simp
 | x :: l,h=>by
  obtain ⟨h1,h2⟩:=List.pairwise_cons.1 h
  have hpc:=placeF_cons x l c.key
  unfold putF
  by_cases he:x.key=c.key
  .have hp0:placeF (x :: l) c.key=0:=by rw [hpc,if_neg (by rw [he,before_irrefl];simp)]
   rw [if_pos he,dif_pos (by rw [hp0];exact ⟨by simp,fun _=>by simpa using he⟩),hp0]
   simp
  .rw [if_neg he]
   by_cases hb:before c.key x.key=true
   .have hp0:placeF (x :: l) c.key=0:=by rw [hpc,if_neg (by rw [before_asymm hb];simp)]
    rw [if_pos hb,dif_neg (by rw [hp0];rintro ⟨_,hx⟩;exact he (hx (by simp))),hp0]
    simp
   .rw [if_neg hb]
    have hbx:before x.key c.key=true:=by
     cases hx:before x.key c.key with
     | true=>rfl
     | false=>exact absurd (before_total hx (by simpa using hb)) he
    have hp1:placeF (x :: l) c.key=placeF l c.key+1:=by rw [hpc,if_pos hbx]
    rw [putF_place h2]
    by_cases hcond:placeF l c.key<l.length/\(∀ h:placeF l c.key<l.length,l[placeF l c.key].key=c.key)
    .rw [dif_pos hcond,dif_pos (by rw [hp1];exact ⟨by simpa using hcond.1,fun _=>by simpa using hcond.2 hcond.1⟩),hp1]
     split<;>simp
    .rw [dif_neg hcond,dif_neg (by
      rw [hp1]
      rintro ⟨k1,k2⟩
      exact hcond ⟨by simpa using k1,fun _=>by simpa using k2 k1⟩),hp1]
     split<;>simp
end Go.Den
namespace Go.Den
theorem str_beq (a b:ByteArray):(a.toList == b.toList)=(a.data.toList == b.data.toList):=by
 rw [ByteArray.toList_eq,ByteArray.toList_eq]
theorem path_may_spec (c:UInt8) (w:World):CallsR prog K.path_may #[bv c] w fun v w'=>v= .bool (mayByte c)/\w'=w:=by
 apply path_may.sh
 unfold path_may.body
 have fin:∀ {b:Bool},mayByte c=b->(fun v w'=>v=Value.bool (mayByte c)/\w'=w) (Value.bool b) w:=fun h=>⟨by rw [h],rfl⟩
 have e:∀ {b:Bool},(mayByte c=true ↔ b=true)->mayByte c=b:=fun h=>by rw [Bool.eq_iff_iff];exact h
 have hm:mayByte c=true ↔ (97<=c.toNat/\c.toNat<=122)\/(48<=c.toNat/\c.toNat<=57)\/c.toNat=46\/c.toNat=45:=by
  unfold mayByte
  simp only [Bool.or_eq_true,Bool.and_eq_true,decide_eq_true_eq]
  constructor
  .rintro (((h | h) | h) | h)
   .exact .inl h
   .exact .inr (.inl h)
   .exact .inr (.inr (.inl h))
   .exact .inr (.inr (.inr h))
  .rintro (h | h | h | h)
   .exact .inl (.inl (.inl h))
   .exact .inl (.inl (.inr h))
   .exact .inl (.inr h)
   .exact .inr h
 have yes:(97<=c.toNat/\c.toNat<=122)\/(48<=c.toNat/\c.toNat<=57)\/c.toNat=46\/c.toNat=45->(fun v w'=>v=Value.bool (mayByte c)/\w'=w) (Value.bool true) w:=fun h=>fin (hm.2 h)
 have no:¬ ((97<=c.toNat/\c.toNat<=122)\/(48<=c.toNat/\c.toNat<=57)\/c.toNat=46\/c.toNat=45)->(fun v w'=>v=Value.bool (mayByte c)/\w'=w) (Value.bool false) w:=fun h=>fin (by
  cases hb:mayByte c with
  | false=>rfl
  | true=>exact absurd (hm.1 hb) h)
 have dots:¬ (97<=c.toNat/\c.toNat<=122)->¬ (48<=c.toNat/\c.toNat<=57)->br ((c.toNat:Int) == 46) (br ((c.toNat:Int) == 46) ((fun v w'=>v=Value.bool (mayByte c)/\w'=w) (Value.bool true) w) ((fun v w'=>v=Value.bool (mayByte c)/\w'=w) (Value.bool false) w))
   (br ((c.toNat:Int) == 45) ((fun v w'=>v=Value.bool (mayByte c)/\w'=w) (Value.bool true) w) ((fun v w'=>v=Value.bool (mayByte c)/\w'=w) (Value.bool false) w)):=fun h1 h2 =>
  br_eq (fun h=>br_eq (fun _=>yes (by omega)) fun h'=>absurd h h') fun h=>br_eq (fun h'=>yes (by omega)) fun h'=>no (by omega)
 refine br_dec (fun h1=>br_dec (fun h2=>br_dec (fun _=>yes (by omega)) fun h=>absurd h2 h) fun h2=>br_dec (fun h3=>br_dec (fun h4=>by omega) fun h4=>dots (by omega) (by omega)) fun h3=>by omega) fun h1=>?_
 exact br_dec (fun h3=>br_dec (fun h4=>br_dec (fun _=>yes (by omega)) fun h=>absurd h4 h) fun h4=>dots (by omega) (by omega)) fun h3=>dots (by omega) (by omega)
theorem all_take_succ {α:Type} {l:List α} {i:Nat} (hi:i<l.length) (p:α->Bool):(l.take (i+1)).all p=((l.take i).all p && p l[i]):=by
 rw [List.take_succ_eq_append_getElem hi,List.all_append]
 simp
theorem size_data (s:ByteArray):s.size=s.data.toList.length:=by rw [Array.length_toList];rfl
theorem name_tail {s:ByteArray} (hall:s.data.toList.all mayByte=true) {w w':World} {R:Value->World->Prop} (hR:R (.bool (isName s.data.toList)) w') {p:Prop} [Decidable p] (hp:p ↔ 1<=s.data.toList.length) :
  br (decide p) (br (decide (((s.size:Nat):Int)<=12)) (br (!(s.toList == (⟨#[46]⟩: ByteArray).toList)) (R (Value.bool (!(s.toList == (⟨#[46,46]⟩: ByteArray).toList))) w') (R (Value.bool false) w')) (R (Value.bool false) w')) (R (Value.bool false) w'):=by
 have hn:isName s.data.toList=(decide (1<=s.data.toList.length) && decide (s.data.toList.length<=12) && !(s.data.toList == [46]) && !(s.data.toList == [46,46])):=by
  unfold isName
  rw [hall];rfl
 rw [hn] at hR
 have hsz:=size_data s
 rw [str_beq,str_beq]
 refine br_dec (fun h1=>br_dec (fun h2=>br_intro (fun h3=>?_) fun h3=>?_) fun h2=>?_) fun h1=>?_
 .have h3':(!(s.data.toList == [46]))=true:=h3
  rw [decide_eq_true (hp.1 h1),decide_eq_true (by omega:s.data.toList.length<=12),h3'] at hR
  exact hR
 .have h3':(!(s.data.toList == [46]))=false:=h3
  rw [h3'] at hR
  simpa using hR
 .rw [decide_eq_false (p:=s.data.toList.length<=12) (by omega)] at hR
  simpa using hR
 .rw [decide_eq_false (p:=1<=s.data.toList.length) (fun h=>h1 (hp.2 h))] at hR
  simpa using hR
theorem isName_false {s:List UInt8} (h:s.all mayByte=false):isName s=false:=by
 unfold isName
 rw [h];rfl
theorem all_false {l:List UInt8} {i:Nat} (hi:i<l.length) (h:mayByte l[i]=false):l.all mayByte=false:=by
 rw [List.all_eq_false]
 exact ⟨l[i],List.getElem_mem hi,by rw [h];simp⟩
theorem path_Name_spec (s:ByteArray) (hs:s.size<9223372036854775807) (w:World):CallsR prog K.path_Name #[.string s] w fun v w'=>v= .bool (isName s.data.toList)/\w'=w:=by
 apply path_Name.sh
 unfold path_Name.body
 have hsz:=size_data s
 refine ⟨fun x u=>∃ i:Nat,x=i/\i<=s.data.toList.length/\u=w/\(s.data.toList.take i).all mayByte=true,fun x _=>(s.data.toList.length - x).toNat,⟨0,rfl,by omega,rfl,by simp⟩,?_⟩
 rintro x u ⟨i,rfl,hi,rfl,ha⟩
 refine br_dec (fun hlt=>⟨by omega,?_⟩) fun hge=>?_
 .have hi':i<s.data.toList.length:=by omega
  refine ⟨s.data.toList[i],by simp [hi'],?_⟩
  refine (path_may_spec _ _).mono ?_
  rintro _ _ ⟨rfl,rfl⟩
  refine ⟨_,rfl,br_intro (fun hb=>⟨?_,rfl⟩) fun hb=>?_⟩
  .rw [isName_false (all_false hi' (by simpa using hb))]
  .have e1:i64.wrap ((i:Int)+1)=((i+1:Nat):Int):=w64 (by omega) (by omega)
   rw [e1]
   exact ⟨⟨i+1,rfl,hi',rfl,by rw [all_take_succ hi',ha];simpa using hb⟩,meas hi'⟩
 .have:i=s.data.toList.length:=by omega
  subst this
  rw [List.take_length] at ha
  exact name_tail (w:=u) ha (R:=fun v w'=>v= .bool (isName s.data.toList)/\w'=u) ⟨rfl,rfl⟩ (by omega)
theorem carrackref05_Name_spec (s:ByteArray) (hs:s.size<9223372036854775807) (w:World):CallsR prog K.carrackref05_Name #[.string s] w fun v w'=>v= .bool (isName s.data.toList)/\w'=w:=by
 apply carrackref05_Name.sh
 unfold carrackref05_Name.body
 have hsz:=size_data s
 refine ⟨fun x u=>∃ i:Nat,x=i/\i<=s.data.toList.length/\u=w/\(s.data.toList.take i).all mayByte=true,fun x _=>(s.data.toList.length - x).toNat,⟨0,rfl,by omega,rfl,by simp⟩,?_⟩
 rintro x u ⟨i,rfl,hi,rfl,ha⟩
 refine br_dec (fun hlt=>⟨by omega,?_⟩) fun hge=>?_
 .have hi':i<s.data.toList.length:=by omega
  refine ⟨s.data.toList[i],by simp [hi'],?_⟩
  have e1:i64.wrap ((i:Int)+1)=((i+1:Nat):Int):=w64 (by omega) (by omega)
  rw [e1]
  generalize hc:s.data.toList[i]=c
  have hm:mayByte c=true ↔ (97<=c.toNat/\c.toNat<=122)\/(48<=c.toNat/\c.toNat<=57)\/c.toNat=46\/c.toNat=45:=by
   unfold mayByte
   simp only [Bool.or_eq_true,Bool.and_eq_true,decide_eq_true_eq]
   constructor
   .rintro (((h | h) | h) | h)
    .exact .inl h
    .exact .inr (.inl h)
    .exact .inr (.inr (.inl h))
    .exact .inr (.inr (.inr h))
   .rintro (h | h | h | h)
    .exact .inl (.inl (.inl h))
    .exact .inl (.inl (.inr h))
    .exact .inl (.inr h)
    .exact .inr h
  have yes:(97<=c.toNat/\c.toNat<=122)\/(48<=c.toNat/\c.toNat<=57)\/c.toNat=46\/c.toNat=45->(∃ k:Nat,((i+1:Nat):Int)=k/\k<=s.data.toList.length/\u=u/\(s.data.toList.take k).all mayByte=true)/\((s.data.toList.length:Int) - ((i+1:Nat):Int)).toNat<((s.data.toList.length:Int) - (i:Int)).toNat:=fun h =>
   ⟨⟨i+1,rfl,hi',rfl,by rw [all_take_succ hi',ha,hc,hm.2 h];rfl⟩,meas hi'⟩
  have no:¬ ((97<=c.toNat/\c.toNat<=122)\/(48<=c.toNat/\c.toNat<=57)\/c.toNat=46\/c.toNat=45)->(fun v w'=>v=Value.bool (isName s.data.toList)/\w'=u) (Value.bool false) u:=fun h=>⟨by
   rw [isName_false (all_false hi' (by
    rw [hc]
    cases hb:mayByte c with
    | false=>rfl
    | true=>exact absurd (hm.1 hb) h))],rfl⟩
  have dots:¬ (97<=c.toNat/\c.toNat<=122)->¬ (48<=c.toNat/\c.toNat<=57)->br ((c.toNat:Int) == 46) ((∃ k:Nat,((i+1:Nat):Int)=k/\k<=s.data.toList.length/\u=u/\(s.data.toList.take k).all mayByte=true)/\((s.data.toList.length:Int) - ((i+1:Nat):Int)).toNat<((s.data.toList.length:Int) - (i:Int)).toNat)
    (br (!((c.toNat:Int) == 45)) ((fun v w'=>v=Value.bool (isName s.data.toList)/\w'=u) (Value.bool false) u) ((∃ k:Nat,((i+1:Nat):Int)=k/\k<=s.data.toList.length/\u=u/\(s.data.toList.take k).all mayByte=true)/\((s.data.toList.length:Int) - ((i+1:Nat):Int)).toNat<((s.data.toList.length:Int) - (i:Int)).toNat)):=fun h1 h2 =>
   br_eq (fun h=>yes (by omega)) fun h=>br_intro (fun h'=>no (by have h0:(c.toNat:Int)≠45:=(by simpa using h');omega)) fun h'=>yes (by have h0:(c.toNat:Int)=45:=(by simpa using h');omega)
  exact br_dec (fun h1=>br_dec (fun h2=>yes (by omega)) fun h2=>br_dec (fun h3=>br_dec (fun h4=>by omega) fun h4=>dots (by omega) (by omega)) fun h3=>by omega) fun h1 =>
   br_dec (fun h3=>br_dec (fun h4=>yes (by omega)) fun h4=>dots (by omega) (by omega)) fun h3=>dots (by omega) (by omega)
 .have:i=s.data.toList.length:=by omega
  subst this
  rw [List.take_length] at ha
  exact name_tail (w:=u) ha (R:=fun v w'=>v= .bool (isName s.data.toList)/\w'=u) ⟨rfl,rfl⟩ (by omega)
theorem Key.may_ino {k:Key} (h:¬ (1<=k.ino/\k.ino<=65535)):k.may=false:=by
 unfold Key.may
 by_cases h1:1<=k.ino
 .rw [decide_eq_false (p:=k.ino<=65535) (fun h2=>h ⟨h1,h2⟩)];simp
 .rw [decide_eq_false h1];simp
theorem Key.may_in {k:Key} (h:1<=k.ino/\k.ino<=65535):k.may=((decide (k.what.toNat=1) && decide (k.bytes=[]) && decide (k.chunk=0)) || (decide (k.what.toNat=2) && isName k.bytes && decide (k.chunk=0)) || (decide (k.what.toNat=3) && decide (k.bytes=[]) && decide (0<=k.chunk) && decide (k.chunk<8))):=by
 unfold Key.may
 rw [decide_eq_true h.1,decide_eq_true h.2];rfl
theorem empty_beq (k:Key):(k.name.toList == (⟨#[]⟩: ByteArray).toList)=decide (k.bytes=[]):=by
 rw [str_beq,Bool.eq_iff_iff]
 unfold Key.bytes
 simp
theorem fact_MayKey_spec (k:Key) (hn:k.name.size<9223372036854775807) (w:World):CallsR prog K.fact_MayKey #[keyV k] w fun v w'=>v= .bool k.may/\Ext w w':=by
 apply fact_MayKey.sh
 unfold fact_MayKey.body
 simp only [add_lit,Nat.zero_add]
 intro B1 w1 hn1
 have g:=hn1.get
 have hE:=hn1.upd
 refine ⟨_,cell_of g rfl,br_dec (fun h=>⟨by rw [Key.may_ino (by omega)],hE⟩) fun h1=>⟨_,cell_of g rfl,br_dec (fun h=>⟨by rw [Key.may_ino (by omega)],hE⟩) fun h2=>?_⟩⟩
 rw [Key.may_in ⟨by omega,by omega⟩]
 refine ⟨_,cell_of g rfl,br_eq (fun hw=>?_) fun hw1=>br_eq (fun hw=>?_) fun hw2=>br_eq (fun hw=>?_) fun hw3=>?_⟩
 .refine ⟨_,_,_,_,cellsAt_of (o:=0) g (fun j v hj=>by simpa using hj),_,cell_of g rfl,_,cell_of g rfl,?_,hE⟩
  have e1:k.what.toNat=1:=by omega
  rw [e1,empty_beq]
  simp only [beq_self_eq_true,Bool.true_and,Bool.and_true]
  congr 1
  rw [Bool.eq_iff_iff]
  simp
 .refine ⟨_,cell_of g rfl,?_⟩
  refine (path_Name_spec k.name hn w1).mono ?_
  rintro _ _ ⟨rfl,rfl⟩
  rename_i w1
  have e2:k.what.toNat=2:=by omega
  rw [e2]
  have hb:isName k.bytes=isName k.name.data.toList:=rfl
  rw [hb]
  refine ⟨_,rfl,br_intro (fun h=>⟨_,cell_of g rfl,?_,hE⟩) fun h=>⟨?_,hE⟩⟩
  .rw [h]
   congr 1
   rw [Bool.eq_iff_iff]
   simp
  .rw [h];simp
 .have e3:k.what.toNat=3:=by omega
  rw [e3]
  refine ⟨_,cell_of g rfl,?_⟩
  rw [empty_beq]
  refine br_dec (fun h=>⟨_,cell_of g rfl,br_dec (fun h'=>⟨_,cell_of g rfl,?_,hE⟩) fun h'=>⟨?_,hE⟩⟩) fun h=>⟨?_,hE⟩
  .rw [decide_eq_true h,decide_eq_true (by omega:0<=k.chunk)];simp
  .rw [decide_eq_false (p:=0<=k.chunk) (by omega)];simp
  .rw [decide_eq_false h];simp
 .refine ⟨?_,hE⟩
  rw [decide_eq_false (p:=k.what.toNat=1) (by omega),decide_eq_false (p:=k.what.toNat=2) (by omega),decide_eq_false (p:=k.what.toNat=3) (by omega)]
  simp
theorem carrackref06_MayKey_spec (k:Key) (hn:k.name.size<9223372036854775807) (w:World):CallsR prog K.carrackref06_MayKey #[keyV k] w fun v w'=>v= .bool k.may/\Ext w w':=by
 apply carrackref06_MayKey.sh
 unfold carrackref06_MayKey.body
 simp only [add_lit,Nat.zero_add]
 intro B1 w1 hn1
 have g:=hn1.get
 have hE:=hn1.upd
 refine ⟨_,cell_of g rfl,br_dec (fun h=>⟨by rw [Key.may_ino (by omega)],hE⟩) fun h1=>⟨_,cell_of g rfl,br_dec (fun h=>⟨by rw [Key.may_ino (by omega)],hE⟩) fun h2=>?_⟩⟩
 rw [Key.may_in ⟨by omega,by omega⟩]
 refine ⟨_,cell_of g rfl,br_eq (fun hw=>?_) fun hw1=>br_eq (fun hw=>?_) fun hw2=>br_eq (fun hw=>?_) fun hw3=>?_⟩
 .have e1:k.what.toNat=1:=by omega
  rw [e1]
  refine ⟨_,cell_of g rfl,?_⟩
  rw [empty_beq]
  refine br_dec (fun h=>⟨_,cell_of g rfl,?_,hE⟩) fun h=>⟨?_,hE⟩
  .rw [decide_eq_true h]
   congr 1
   rw [Bool.eq_iff_iff]
   simp
  .rw [decide_eq_false h];simp
 .refine ⟨_,cell_of g rfl,?_⟩
  refine (carrackref05_Name_spec k.name hn w1).mono ?_
  rintro _ _ ⟨rfl,rfl⟩
  rename_i w1
  have e2:k.what.toNat=2:=by omega
  rw [e2]
  have hb:isName k.bytes=isName k.name.data.toList:=rfl
  rw [hb]
  refine ⟨_,rfl,br_intro (fun h=>⟨_,cell_of g rfl,?_,hE⟩) fun h=>⟨?_,hE⟩⟩
  .rw [h]
   congr 1
   rw [Bool.eq_iff_iff]
   simp
  .rw [h];simp
 .have e3:k.what.toNat=3:=by omega
  rw [e3]
  refine ⟨_,cell_of g rfl,?_⟩
  rw [empty_beq]
  refine br_dec (fun h=>⟨_,cell_of g rfl,br_dec (fun h'=>⟨_,cell_of g rfl,?_,hE⟩) fun h'=>⟨?_,hE⟩⟩) fun h=>⟨?_,hE⟩
  .rw [decide_eq_true h,decide_eq_true (by omega:0<=k.chunk)];simp
  .rw [decide_eq_false (p:=0<=k.chunk) (by omega)];simp
  .rw [decide_eq_false h];simp
 .refine ⟨?_,hE⟩
  rw [decide_eq_false (p:=k.what.toNat=1) (by omega),decide_eq_false (p:=k.what.toNat=2) (by omega),decide_eq_false (p:=k.what.toNat=3) (by omega)]
  simp
def finKey (k:Key) (s:St):Key×Nat×St:=if k.may then (k,0,s) else (Key.zero,5,s)
def keyS (s:St):Key×Nat×St :=
 let a:=takeS 2 s
 let b:=takeS 1 a.2.2
 if b.2.1≠0 then (Key.zero,4,none)
 else if b.1=2 then
  let c:=rowS b.2.2
  if c.2.1≠0 then (Key.zero,4,none) else finKey ⟨a.1,UInt8.ofNat b.1,⟨c.1.toArray⟩,0⟩ c.2.2
 else if b.1=3 then
  let c:=takeS 1 b.2.2
  if c.2.1≠0 then (Key.zero,4,none) else finKey ⟨a.1,UInt8.ofNat b.1,ByteArray.empty,c.1⟩ c.2.2
 else finKey ⟨a.1,UInt8.ofNat b.1,ByteArray.empty,0⟩ b.2.2
theorem str_of {w:World} {a:Option Addr} {l:List UInt8} (h:BytesAt w a l) {K:ByteArray->Prop} (hk:K ⟨l.toArray⟩):strOfP w a l.length K:=by
 cases a with
 | none =>
  cases l with
  | nil=>exact hk
  | cons x l =>
   obtain ⟨b,o,e,_⟩:=RowAt.blk h (by simp)
   cases e
 | some q =>
  refine ⟨l,rfl,?_,hk⟩
  cases l with
  | nil=>trivial
  | cons x l =>
   obtain ⟨b,o,e,_⟩:=RowAt.blk h (by simp)
   cases e
   exact h.cells
theorem wu8n {x:Nat} (h:x<256):Value.int .u8 (u8.wrap (x:Int))=bv (UInt8.ofNat x):=by rw [bv_mod,Nat.mod_eq_of_lt h]
abbrev KeyAt (u:World) (B:Nat) (k:Key):Prop:=u.heap[B]?=some (.cells k.vals.toArray T.api_Key (0,0))
theorem key_put {w:World} {B:Nat} {cs:Array Value} {k:Key} {K:World->Prop} (hc:w.heap[B]?=some (.cells cs T.api_Key (0,0))) (hs:cs.size=4) (hk:∀ w',Upd (·=B) w w'->w'.heap.size=w.heap.size->KeyAt w' B k->K w') :
  storeP w ⟨B,0,none⟩ [.int .i64 k.ino,bv k.what,.string k.name,.int .i64 k.chunk] K:=put_all hc (by rw [hs];rfl) hk
theorem key_cells {w:World} {B:Nat} {k:Key} (hc:KeyAt w B k):cellsAt w ⟨B,0,none⟩ [.int .i64 k.ino,bv k.what,.string k.name,.int .i64 k.chunk] 0:=cells_all hc
theorem key_name {w:World} {B:Nat} {k:Key} {n:ByteArray} {K:World->Prop} (hc:KeyAt w B k) (hk:∀ w',Upd (·=B) w w'->KeyAt w' B { k with name:=n }->K w'):storeP w ⟨B,2,none⟩ [.string n] K :=
 store_of hc (by simp [Key.vals]) fun w' hp=>hk w' hp.upd1 hp.get
theorem key_chunk {w:World} {B:Nat} {k:Key} {n:Int} {K:World->Prop} (hc:KeyAt w B k) (hk:∀ w',Upd (·=B) w w'->KeyAt w' B { k with chunk:=n }->K w'):storeP w ⟨B,3,none⟩ [.int .i64 n] K :=
 store_of hc (by simp [Key.vals]) fun w' hp=>hk w' hp.upd1 hp.get
theorem key_out {u:World} {B:Nat} {k k0:Key} {e:Int} {R:Value->World->Prop} (g:KeyAt u B k0) (hR:∀ u',Upd (·=B) u u'->R (.tuple #[keyV k,.int .i64 e]) u') :
  storeP u ⟨B,0,none⟩ [.int .i64 k.ino,bv k.what,.string k.name,.int .i64 k.chunk] fun w'=>∃ x y:Int,∃ n:ByteArray,∃ z:Int,cellsAt w' ⟨B,0,none⟩ [.int .i64 x,.int .u8 y,.string n,.int .i64 z] 0/\R (.tuple #[.agg #[.int .i64 x,.int .u8 y,.string n,.int .i64 z],.int .i64 e]) w' :=
 key_put g rfl fun w' hu _ hg=>⟨_,_,_,_,key_cells hg,hR w' hu⟩
theorem key_fin {f:FuncId} {u:World} {B1 B2:Nat} {k k0:Key} {R:Value->World->Prop} (hB:B1≠B2) (g1:KeyAt u B1 k0) (g2:KeyAt u B2 k) (hm:CallsR prog f #[keyV k] u fun v w'=>v= .bool k.may/\Ext u w')
  (hR:∀ u',Upd (·=B1) u u'->R (.tuple #[keyV (if k.may then k else Key.zero),.int .i64 (if k.may then 0 else 5)]) u') :
  ∃ x y:Int,∃ n:ByteArray,∃ z:Int,cellsAt u ⟨B2,0,none⟩ [.int .i64 x,.int .u8 y,.string n,.int .i64 z] 0/\CallsR prog f #[.agg #[.int .i64 x,.int .u8 y,.string n,.int .i64 z]] u fun v w'=>∃ b:Bool,v= .bool b/\br (!b)
   (storeP w' ⟨B1,0,none⟩ [.int .i64 Key.zero.ino,bv Key.zero.what,.string Key.zero.name,.int .i64 Key.zero.chunk] fun w'=>∃ x y:Int,∃ n:ByteArray,∃ z:Int,cellsAt w' ⟨B1,0,none⟩ [.int .i64 x,.int .u8 y,.string n,.int .i64 z] 0/\R (.tuple #[.agg #[.int .i64 x,.int .u8 y,.string n,.int .i64 z],.int .i64 5]) w')
   (∃ x y:Int,∃ n:ByteArray,∃ z:Int,cellsAt w' ⟨B2,0,none⟩ [.int .i64 x,.int .u8 y,.string n,.int .i64 z] 0/\storeP w' ⟨B1,0,none⟩ [.int .i64 x,.int .u8 y,.string n,.int .i64 z] fun w'=>∃ x y:Int,∃ n:ByteArray,∃ z:Int,cellsAt w' ⟨B1,0,none⟩ [.int .i64 x,.int .u8 y,.string n,.int .i64 z] 0/\R (.tuple #[.agg #[.int .i64 x,.int .u8 y,.string n,.int .i64 z],.int .i64 0]) w'):=by
 refine ⟨_,_,_,_,key_cells g2,hm.mono ?_⟩
 rintro _ w' ⟨rfl,he⟩
 refine ⟨_,rfl,br_intro (fun hb=>?_) fun hb=>?_⟩
 .have hb':k.may=false:=by simpa using hb
  rw [hb'] at hR
  exact key_out (Ext.get he g1) fun u' hu=>hR u' ((Upd.ext he).trans hu)
 .have hb':k.may=true:=by simpa using hb
  rw [hb'] at hR
  exact ⟨_,_,_,_,key_cells (Ext.get he g2),key_out (Ext.get he g1) fun u' hu=>hR u' ((Upd.ext he).trans hu)⟩
theorem empty_small:ByteArray.empty.size<9223372036854775807:=by decide
theorem finKey_is (k:Key) (s:St):finKey k s=(if k.may then k else Key.zero,if k.may then 0 else 5,s):=by unfold finKey;split<;>rfl
theorem finErr (b:Bool):(((if b=true then 0 else 5:Nat):Nat):Int)=if b=true then 0 else 5:=by cases b<;>rfl
theorem carrackref06_GetKey_spec {G:Nat->Prop} {w:World} {r:Nat} {s:St} (hG:¬ G r) (hGs:∀ x,G x->x<w.heap.size) (hrs:r<w.heap.size) (h:RRdIn G w r s) :
  CallsR prog K.carrackref06_GetKey #[.pointer (some ⟨r,0,none⟩)] w fun v w'=>v= .tuple #[keyV (keyS s).1,.int .i64 ((keyS s).2.1:Nat)]/\Upd (·=r) w w'/\RRdIn G w' r (keyS s).2.2:=by
 apply carrackref06_GetKey.sh
 suffices H:∀ R:Value->World->Prop,(∀ v w',v= .tuple #[keyV (keyS s).1,.int .i64 ((keyS s).2.1:Nat)]/\Upd (·=r) w w'/\RRdIn G w' r (keyS s).2.2->R v w')->carrackref06_GetKey.body (some ⟨r,0,none⟩) w R from H _ fun _ _ h=>h
 intro R hR
 unfold carrackref06_GetKey.body
 simp only [add_lit,Nat.zero_add]
 intro B1 w1 hn1
 have hb1:B1=w.heap.size:=hn1.num
 have g1:KeyAt w1 B1 Key.zero:=hn1.get
 have done:∀ {u u':World} {B:Nat} {s':St},Upd (·=r) w u->RRdIn G u r s'->B1<=B->Upd (·=B) u u'->Upd (·=r) w u'/\RRdIn G u' r s':=fun {u u' B s'} h1 h2 hB h3 =>
  ⟨Upd.mono (F:=fun x=>x=r\/x=B) ((h1.mono fun _ _ h=>.inl h).trans (h3.mono fun _ _ h=>.inr h)) fun x hx hor=>by
   rcases hor with h | h
   .exact h
   .omega,
   h2.upd h3 (by omega) fun x hx e=>by have:=hGs x hx;omega⟩
 refine (rrdTake (k:=2) (by decide) hG (h.ext hn1.upd)).mono ?_
 rintro _ w2 ⟨hu2,rfl,hr2⟩
 have u2:Upd (·=r) w w2:=(Upd.ext hn1.upd).trans hu2
 have g2:KeyAt w2 B1 Key.zero:=hu2.get g1 (by omega)
 have hs2:B1<w2.heap.size:=(Array.getElem?_eq_some_iff.1 g2).1
 have a2:=takeS_lt 2 s
 have h256:(256:Nat) ^ 2=65536:=by decide
 have hnone:keyS none=(Key.zero,4,none):=rfl
 refine ⟨_,_,rfl,br_ne (fun hne=>?_) fun _=>?_⟩
 .have hA:takeS 2 s=(0,4,none):=takeS_err (by omega)
  have hkey:keyS s=(Key.zero,4,none):=by unfold keyS;simp only [hA];rfl
  rw [hkey] at hR
  rw [hA] at hr2 ⊢
  exact key_out (k:=Key.zero) g2 fun u' hu=>hR _ _ ⟨rfl,done u2 hr2 (Nat.le_refl _) hu⟩
 refine (rrdTake (k:=1) (by decide) hG hr2).mono ?_
 rintro _ w4 ⟨hu4,rfl,hr4⟩
 have u4:=u2.trans hu4
 have g4:KeyAt w4 B1 Key.zero:=hu4.get g2 (by omega)
 have hs4:=hu4.size
 have a4:=takeS_lt 1 (takeS 2 s).2.2
 generalize ha:takeS 2 s=A at *
 generalize hb:takeS 1 A.2.2=B at *
 have hkey:keyS s=if B.2.1≠0 then (Key.zero,4,none)
   else if B.1=2 then (if (rowS B.2.2).2.1≠0 then (Key.zero,4,none) else finKey ⟨A.1,UInt8.ofNat B.1,⟨(rowS B.2.2).1.toArray⟩,0⟩ (rowS B.2.2).2.2)
   else if B.1=3 then (if (takeS 1 B.2.2).2.1≠0 then (Key.zero,4,none) else finKey ⟨A.1,UInt8.ofNat B.1,ByteArray.empty,(takeS 1 B.2.2).1⟩ (takeS 1 B.2.2).2.2)
   else finKey ⟨A.1,UInt8.ofNat B.1,ByteArray.empty,0⟩ B.2.2:=by
  unfold keyS
  simp only [ha,hb]
 refine ⟨_,_,rfl,br_ne (fun hne=>?_) fun he=>?_⟩
 .have hB:B=(0,4,none):=by rw [<- hb];exact takeS_err (by rw [hb];omega)
  rw [if_pos (by omega)] at hkey;rw [hkey] at hR
  rw [hB] at hr4 ⊢
  exact key_out (k:=Key.zero) g4 fun u' hu=>hR _ _ ⟨rfl,done u4 hr4 (Nat.le_refl _) hu⟩
 rw [if_neg (by omega)] at hkey
 rw [wu8n (by omega),w64n (by omega)]
 refine new_put (vs:=Key.vals ⟨A.1,UInt8.ofNat B.1,ByteArray.empty,0⟩) rfl fun B2 w6 hb2 hs6 he6 g6=>?_
 have u6:=u4.then he6
 have r6:=hr4.ext he6
 have g16:KeyAt w6 B1 Key.zero:=Ext.get he6 g4
 refine br_eq (fun h2=>?_) fun h2=>?_
 .rw [if_pos (by omega)] at hkey
  refine (rrdRow hG r6).mono ?_
  rintro _ w11 ⟨hu11,⟨a,c,rfl,hby,hc,hf⟩,hr11⟩
  have u11:=u6.trans hu11
  have hs11:=hu11.size
  have g11:KeyAt w11 B1 Key.zero:=hu11.get g16 (by omega)
  have g12:KeyAt w11 B2 ⟨A.1,UInt8.ofNat B.1,ByteArray.empty,0⟩:=hu11.get g6 (by omega)
  have hlen:=rowS_len B.2.2
  refine ⟨_,_,_,_,rfl,br_ne (fun hne=>?_) fun he3=>?_⟩
  .have hrow:rowS B.2.2=([],4,none):=rowS_err (by omega)
   rw [if_pos (by omega)] at hkey;rw [hkey] at hR
   rw [hrow] at hr11 ⊢
   exact key_out (k:=Key.zero) g11 fun u' hu=>hR _ _ ⟨rfl,done u11 hr11 (Nat.le_refl _) hu⟩
  .refine str_of hby (key_name g12 fun w12 hu12 g22=>?_)
   have g21:KeyAt w12 B1 Key.zero:=hu12.get g11 (by omega)
   obtain ⟨u12,r12⟩:=done u11 hr11 (by omega) hu12
   rw [if_neg (by omega),finKey_is] at hkey;rw [hkey] at hR;simp only [finErr] at hR
   exact key_fin (by omega) g21 g22 (carrackref06_MayKey_spec _ (by simp [ByteArray.size];omega) _) fun u' hu=>hR _ _ ⟨rfl,done u12 r12 (Nat.le_refl _) hu⟩
 .rw [if_neg (by omega)] at hkey
  refine br_eq (fun h3=>?_) fun h3=>?_
  .rw [if_pos (by omega)] at hkey
   refine (rrdTake (k:=1) (by decide) hG r6).mono ?_
   rintro _ w11 ⟨hu11,rfl,hr11⟩
   have a11:=takeS_lt 1 B.2.2
   have u11:=u6.trans hu11
   have hs11:=hu11.size
   have g11:KeyAt w11 B1 Key.zero:=hu11.get g16 (by omega)
   have g12:KeyAt w11 B2 ⟨A.1,UInt8.ofNat B.1,ByteArray.empty,0⟩:=hu11.get g6 (by omega)
   refine ⟨_,_,rfl,br_ne (fun hne=>?_) fun he3=>?_⟩
   .have hrow:takeS 1 B.2.2=(0,4,none):=takeS_err (by omega)
    rw [if_pos (by omega)] at hkey;rw [hkey] at hR
    rw [hrow] at hr11 ⊢
    exact key_out (k:=Key.zero) g11 fun u' hu=>hR _ _ ⟨rfl,done u11 hr11 (Nat.le_refl _) hu⟩
   .rw [w64n (by omega)]
    refine key_chunk g12 fun w12 hu12 g22=>?_
    have g21:KeyAt w12 B1 Key.zero:=hu12.get g11 (by omega)
    obtain ⟨u12,r12⟩:=done u11 hr11 (by omega) hu12
    rw [if_neg (by omega),finKey_is] at hkey;rw [hkey] at hR;simp only [finErr] at hR
    exact key_fin (by omega) g21 g22 (carrackref06_MayKey_spec _ empty_small _) fun u' hu=>hR _ _ ⟨rfl,done u12 r12 (Nat.le_refl _) hu⟩
  .rw [if_neg (by omega)] at hkey
   rw [finKey_is] at hkey;rw [hkey] at hR;simp only [finErr] at hR
   exact key_fin (by omega) g16 g6 (carrackref06_MayKey_spec _ empty_small _) fun u' hu=>hR _ _ ⟨rfl,done u6 r6 (Nat.le_refl _) hu⟩
theorem row_cell {w:World} {b o:Nat} {vs:List Value} (h:RowAt w (some ⟨b,o,none⟩) vs) {j:Nat} {v:Value} (hj:vs[j]?=some v):w.cell? ⟨b,o+j,none⟩= some v:=by
 obtain ⟨b',o',e,hc⟩:=h.cell hj
 cases e
 exact hc
theorem Key.oneCell (k:Key):∀ v∈k.vals,v.oneCell'=true:=by
 intro v hv
 simp only [Key.vals,List.mem_cons,List.not_mem_nil,or_false] at hv
 rcases hv with rfl | rfl | rfl | rfl<;>rfl
def keyR:ERep Key:=flatR Key.vals 4 (by decide) (fun _=>rfl) Key.oneCell
def boolR:ERep Bool:=flatR (fun b=>[.bool b]) 1 (by decide) (fun _=>rfl) (fun b v hv=>by simp at hv;rw [hv];rfl)
def intR:ERep Int:=flatR (fun x=>[.int .i64 x]) 1 (by decide) (fun _=>rfl) (fun b v hv=>by simp at hv;rw [hv];rfl)
def changeR:ERep Change:=ERep.pair keyR (ERep.pair bytesR boolR (fun x:List UInt8×Bool=>x.1) (fun x=>x.2)) (fun x:Change=>x.key) (fun x=>(x.val,x.gone))
abbrev changeVs (k:Key) (a:Option Addr) (n c:Nat) (b:Bool):List Value:=[.int .i64 k.ino,bv k.what,.string k.name,.int .i64 k.chunk,.slice a n c,.bool b]
theorem changeR_intro {w:World} {G:Nat->Prop} {x:Change} {a:Option Addr} {c:Nat} (hc:x.val.length<=c) (hb:BytesAt w a x.val) (hg:x.val≠[]->∀ p,a=some p->G p.block) :
  changeR.R w G (changeVs x.key a x.val.length c x.gone) x:=⟨x.key.vals,[.slice a x.val.length c,.bool x.gone],rfl,rfl,[.slice a x.val.length c],[.bool x.gone],rfl,⟨a,c,rfl,hc,hb,hg⟩,rfl⟩
theorem changeR_elim {w:World} {G:Nat->Prop} {x:Change} {vs:List Value} (h:changeR.R w G vs x) :
  ∃ a c,vs=changeVs x.key a x.val.length c x.gone/\x.val.length<=c/\BytesAt w a x.val/\(x.val≠[]->∀ p,a=some p->G p.block):=by
 obtain ⟨u,v,rfl,hu,s,t,rfl,⟨a,c,hs,hc,hb,hg⟩,ht⟩:=h
 have hu':u=x.key.vals:=hu
 have ht':t=[.bool x.gone]:=ht
 subst hu';subst ht'
 have hs':s=[.slice a x.val.length c]:=hs
 subst hs'
 exact ⟨a,c,rfl,hc,hb,hg⟩
def Change.zero:Change:=⟨Key.zero,[],false⟩
def oneS (s:St):Change×Nat×St :=
 let a:=takeS 1 s
 if a.2.1≠0 then (Change.zero,4,none)
 else if 1<a.1 then (Change.zero,5,a.2.2)
 else
  let k:=keyS a.2.2
  if k.2.1≠0 then (Change.zero,k.2.1,k.2.2)
  else if a.1=0 then (⟨k.1,[],true⟩,0,k.2.2)
  else
   let v:=rowS k.2.2
   if v.2.1≠0 then (Change.zero,4,none) else if v.1.length=0 then (Change.zero,5,v.2.2) else (⟨k.1,v.1,false⟩,0,v.2.2)
def goS:Nat->St->List Change->List Change×Nat
 | 0,s,acc=>if 0<leftS s then ([],5) else (acc,0)
 | n+1,s,acc=>if (oneS s).2.1≠0 then ([],(oneS s).2.1) else goS n (oneS s).2.2 (acc ++ [(oneS s).1])
def getS (b:List UInt8):List Change×Nat :=
 if (takeS 1 (some b)).2.1≠0 then ([],4) else if (takeS 1 (some b)).1=0 then ([],5) else goS (takeS 1 (some b)).1 (takeS 1 (some b)).2.2 []
def dropS (b:List UInt8):Nat×Nat:=if b.length≠8 then (0,5) else if fromLE b=0 then (0,5) else (fromLE b,0)
def ListOut {α:Type} (r:ERep α) (e:TypeId) (w w':World) (v:Value) (l:List α) (x:Nat):Prop:=∃ a c,v= .tuple #[.slice a l.length c,.int .i64 (x:Nat)]/\ListAt r NoB w.heap.size w' a c e l/\Ext w w'
theorem ListOut.none {α:Type} {r:ERep α} {e:TypeId} {w w':World} {x:Nat} {l:List α} (hl:l=[]) (h:Ext w w'):ListOut r e w w' (.tuple #[.slice .none 0 0,.int .i64 (x:Nat)]) l x:=by
 subst hl;exact ⟨.none,0,rfl,ListAt.nil _ _,h⟩
theorem code_tail (c d:Int):∀ (x y:List UInt8),listLt (x.map (fun b=>(b.toNat:Int)+1) ++ [0,c]) (y.map (fun b=>(b.toNat:Int)+1) ++ [0,d])=(Op.bytesLess x y || (decide (x=y) && decide (c<d)))
 | [],[]=>by simp [listLt,Op.bytesLess]
 | [],b :: ys=>by
  have:(0:Int)<(b.toNat:Int)+1:=by omega
  simp [listLt,Op.bytesLess,this]
 | a :: xs,[]=>by
  have h1:¬ ((a.toNat:Int)+1<0):=by omega
  have h2:¬ ((a.toNat:Int)+1=0):=by omega
  simp [listLt,Op.bytesLess,h1,h2]
 | a :: xs,b :: ys=>by
  have ih:=code_tail c d xs ys
  have h1:decide ((a.toNat:Int)+1<(b.toNat:Int)+1)=decide (a<b):=by
   rw [decide_eq_decide,UInt8.lt_iff_toNat_lt];omega
  have h2:decide ((a.toNat:Int)+1=(b.toNat:Int)+1)=decide (a=b):=by
   rw [decide_eq_decide,<- UInt8.toNat_inj];omega
  simp only [List.map_cons,List.cons_append,listLt,ih,h1,h2,Op.bytesLess,List.cons.injEq]
  by_cases hab:a=b
  .subst hab
   simp
  .simp [hab]
theorem before_eq (a b:Key):before a b=(decide (a.ino<b.ino) || (decide (a.ino=b.ino) && (decide (a.what<b.what) || (decide (a.what=b.what) && (Op.bytesLess a.bytes b.bytes || (decide (a.bytes=b.bytes) && decide (a.chunk<b.chunk))))))):=by
 unfold before Key.code
 simp only [listLt,code_tail]
 have h1:decide ((a.what.toNat:Int)<(b.what.toNat:Int))=decide (a.what<b.what):=by
  rw [decide_eq_decide,UInt8.lt_iff_toNat_lt];omega
 have h2:decide ((a.what.toNat:Int)=(b.what.toNat:Int))=decide (a.what=b.what):=by
  rw [decide_eq_decide,<- UInt8.toNat_inj];omega
 rw [h1,h2]
theorem less_irrefl:∀ x:List UInt8,Op.bytesLess x x=false
 | []=>rfl
 | a :: x=>by simp [Op.bytesLess,less_irrefl x]
def cmpI (x y:Int):Int:=if x<y then -1 else if x > y then 1 else 0
def cmpS (x y:List UInt8):Int:=if Op.bytesLess x y then -1 else if x=y then 0 else 1
def firstOf:List Int->Int
 | []=>0
 | x :: l=>if x≠0 then x else firstOf l
def orderK (a b:Key):Int:=firstOf [cmpI a.ino b.ino,cmpI a.what.toNat b.what.toNat,cmpS a.bytes b.bytes,cmpI a.chunk b.chunk]
theorem orderK_lt (a b:Key):decide (orderK a b<0)=before a b:=by
 rw [before_eq]
 unfold orderK cmpI cmpS
 simp only [firstOf]
 have hw:a.what<b.what ↔ a.what.toNat<b.what.toNat:=UInt8.lt_iff_toNat_lt
 have hw2:a.what=b.what ↔ a.what.toNat=b.what.toNat:=UInt8.toNat_inj.symm
 by_cases h1:a.ino<b.ino
 .simp [h1]
 by_cases h2:a.ino > b.ino
 .have:a.ino≠b.ino:=by omega
  simp [h1,h2,this]
 have h3:a.ino=b.ino:=by omega
 by_cases h4:a.what.toNat<b.what.toNat
 .have h4':(a.what.toNat:Int)<(b.what.toNat:Int):=by omega
  simp [h3,hw,h4,h4']
 by_cases h5:a.what.toNat > b.what.toNat
 .have h5':¬ (a.what.toNat:Int)<(b.what.toNat:Int):=by omega
  have h5'':(b.what.toNat:Int)<(a.what.toNat:Int):=by omega
  have h6:¬ a.what.toNat=b.what.toNat:=by omega
  simp [h3,hw,hw2,h4,h5,h5',h5'',h6]
 have h6:a.what.toNat=b.what.toNat:=by omega
 have h7:a.what=b.what:=hw2.2 h6
 cases hb:Op.bytesLess a.bytes b.bytes with
 | true=>simp [h3,h7,hb]
 | false =>
  by_cases he:a.bytes=b.bytes
  .by_cases hc:a.chunk<b.chunk
   .simp [h3,h7,he,hc,less_irrefl]
   .by_cases hc2:a.chunk > b.chunk
    .simp [h3,h7,he,hc,hc2,less_irrefl]
    .simp [h3,h7,he,hc,hc2,less_irrefl]
  .simp [h3,h7,hb,he]
theorem cmp_int_spec (x y:Int) (w:World):CallsR prog K.cmp_Compare_int #[.int .i64 x,.int .i64 y] w fun v w'=>v= .int .i64 (cmpI x y)/\w'=w:=by
 apply cmp_Compare_int.sh
 unfold cmp_Compare_int.body
 have nan:∀ x:Int,CallsR prog K.cmp_isNaN_int #[.int .i64 x] w fun v w'=>v= .bool false/\w'=w:=fun x=>by
  apply cmp_isNaN_int.sh
  unfold cmp_isNaN_int.body
  exact ⟨by simp,rfl⟩
 refine (nan x).mono ?_
 rintro _ _ ⟨rfl,rfl⟩
 refine ⟨_,rfl,(nan y).mono ?_⟩
 rintro _ _ ⟨rfl,rfl⟩
 refine ⟨_,rfl,?_⟩
 simp only [br_false]
 unfold cmpI
 refine br_dec (fun h=>⟨by rw [if_pos h],by trivial⟩) fun h=>br_dec (fun h2=>⟨by rw [if_neg h,if_pos h2],by trivial⟩) fun h2=>⟨by rw [if_neg h,if_neg h2],by trivial⟩
theorem cmp_u8_spec (x y:UInt8) (w:World):CallsR prog K.cmp_Compare_uint8 #[bv x,bv y] w fun v w'=>v= .int .i64 (cmpI x.toNat y.toNat)/\w'=w:=by
 apply cmp_Compare_uint8.sh
 unfold cmp_Compare_uint8.body
 have nan:∀ x:UInt8,CallsR prog K.cmp_isNaN_uint8 #[bv x] w fun v w'=>v= .bool false/\w'=w:=fun x=>by
  apply cmp_isNaN_uint8.sh
  unfold cmp_isNaN_uint8.body
  exact ⟨by simp,rfl⟩
 refine (nan x).mono ?_
 rintro _ _ ⟨rfl,rfl⟩
 refine ⟨_,rfl,(nan y).mono ?_⟩
 rintro _ _ ⟨rfl,rfl⟩
 refine ⟨_,rfl,?_⟩
 simp only [br_false]
 unfold cmpI
 refine br_dec (fun h=>⟨by rw [if_pos h],by trivial⟩) fun h=>br_dec (fun h2=>⟨by rw [if_neg h,if_pos h2],by trivial⟩) fun h2=>⟨by rw [if_neg h,if_neg h2],by trivial⟩
theorem toList_data (s:ByteArray):s.toList=s.data.toList:=by rw [ByteArray.toList_eq]
theorem cmp_str_spec (x y:ByteArray) (w:World):CallsR prog K.cmp_Compare_string #[.string x,.string y] w fun v w'=>v= .int .i64 (cmpS x.data.toList y.data.toList)/\w'=w:=by
 apply cmp_Compare_string.sh
 unfold cmp_Compare_string.body
 have nan:∀ x:ByteArray,CallsR prog K.cmp_isNaN_string #[.string x] w fun v w'=>v= .bool false/\w'=w:=fun x=>by
  apply cmp_isNaN_string.sh
  unfold cmp_isNaN_string.body
  exact ⟨by simp,rfl⟩
 refine (nan x).mono ?_
 rintro _ _ ⟨rfl,rfl⟩
 refine ⟨_,rfl,(nan y).mono ?_⟩
 rintro _ _ ⟨rfl,rfl⟩
 refine ⟨_,rfl,?_⟩
 simp only [br_false,toList_data]
 unfold cmpS
 refine br_intro (fun h=>⟨by rw [if_pos h],by trivial⟩) fun h=>br_intro (fun h2=>⟨?_,by trivial⟩) fun h2=>⟨?_,by trivial⟩
 .rw [if_neg (by rw [h];decide)]
  have:¬ x.data.toList=y.data.toList:=by intro e;rw [e] at h2;simp at h2
  rw [if_neg this]
 .rw [if_neg (by rw [h];decide)]
  have:x.data.toList=y.data.toList:=by rw [h] at h2;simpa using h2
  rw [if_pos this]
theorem cmp_or_spec {w:World} {b:Nat} {l:List Int} (hr:RowAt w (some ⟨b,0,none⟩) (l.map (Value.int .i64))) (hn:l.length<1000000) (c:Nat):CallsR prog K.cmp_Or_int #[.slice (some ⟨b,0,none⟩) l.length c] w fun v w'=>v= .int .i64 (firstOf l)/\w'=w:=by
 apply cmp_Or_int.sh
 unfold cmp_Or_int.body
 refine ⟨fun x u=>∃ i:Nat,x=i/\i<=l.length/\u=w/\firstOf l=firstOf (l.drop i),fun x _=>((l.length:Int) - x).toNat,⟨0,rfl,by omega,rfl,rfl⟩,?_⟩
 rintro x u ⟨i,rfl,hi,rfl,hf⟩
 refine br_dec (fun hlt=>?_) fun hge=>?_
 .have hi':i<l.length:=by omega
  refine ⟨by omega,by omega,?_⟩
  simp only [nilC_some',add_lit,Nat.zero_add,Nat.mul_one,Int.toNat_natCast]
  have hd:l.drop i=l[i] :: l.drop (i+1):=List.drop_eq_getElem_cons hi'
  have hcell:=row_cell hr (j:=i) (v:=.int .i64 l[i]) (by simp [hi'])
  rw [Nat.zero_add] at hcell
  refine ⟨_,hcell,br_ne (fun h=>⟨?_,by trivial⟩) fun h=>?_⟩
  .rw [hf,hd];simp only [firstOf];rw [if_pos h]
  .rw [w64 (by omega) (by omega)]
   exact ⟨⟨i+1,by omega,hi',by trivial,by rw [hf,hd];simp only [firstOf];rw [if_neg (by simpa using h)]⟩,by omega⟩
 .have:l.drop i=[]:=List.drop_of_length_le (by omega)
  rw [this] at hf
  exact ⟨by rw [hf];rfl,rfl⟩
theorem fact_order_spec (a b:Key) (w:World):CallsR prog K.fact_order #[keyV a,keyV b] w fun v w'=>v= .int .i64 (orderK a b)/\Ext w w':=by
 apply fact_order.sh
 suffices H:∀ R:Value->World->Prop,(∀ v w',v= .int .i64 (orderK a b)/\Ext w w'->R v w')->fact_order.body a.ino a.what.toNat a.name a.chunk b.ino b.what.toNat b.name b.chunk w R from H _ fun _ _ h=>h
 intro R hR
 unfold fact_order.body
 simp only [add_lit,Nat.zero_add]
 intro B1 w1 hn1 B2 w2 hn2 w3 hd3
 have g1:KeyAt w3 B1 a:=Ext.get hd3.upd (Ext.get hn2.upd hn1.get)
 have g2:KeyAt w3 B2 b:=Ext.get hd3.upd hn2.get
 have e3:Ext w w3:=(hn1.upd.trans hn2.upd).trans hd3.upd
 refine ⟨fun u=>Ext w3 u,Upd.refl _ _,_,fun u h=>cell_of (Ext.get h g1) rfl,_,fun u h=>cell_of (Ext.get h g2) rfl,_,fun u h=>cell_of (Ext.get h g1) rfl,_,fun u h=>cell_of (Ext.get h g2) rfl,_,fun u h=>cell_of (Ext.get h g1) rfl,_,fun u h=>cell_of (Ext.get h g2) rfl,_,fun u h=>cell_of (Ext.get h g1) rfl,_,fun u h=>cell_of (Ext.get h g2) rfl,?_⟩
 refine (cmp_int_spec _ _ w3).mono ?_
 rintro _ _ ⟨rfl,rfl⟩
 refine ⟨_,rfl,Upd.refl _ _,(cmp_u8_spec _ _ _).mono ?_⟩
 rintro _ _ ⟨rfl,rfl⟩
 refine ⟨_,rfl,Upd.refl _ _,(cmp_str_spec _ _ _).mono ?_⟩
 rintro _ _ ⟨rfl,rfl⟩
 refine ⟨_,rfl,Upd.refl _ _,(cmp_int_spec _ _ _).mono ?_⟩
 rintro _ _ ⟨rfl,rfl⟩
 refine ⟨_,rfl,Upd.refl _ _,fun B3 w8 hn8=>⟨hn8.upd,?_⟩⟩
 refine (cmp_or_spec (l:=[cmpI a.ino b.ino,cmpI a.what.toNat b.what.toNat,cmpS a.bytes b.bytes,cmpI a.chunk b.chunk]) (RowAt.of hn8.get fun j v hj=>by simpa [Key.bytes] using hj) (by simp) 4).mono ?_
 rintro _ _ ⟨rfl,rfl⟩
 exact ⟨_,rfl,hn8.upd,hR _ _ ⟨rfl,e3.trans hn8.upd⟩⟩
theorem fact_Before_spec (a b:Key) (w:World):CallsR prog K.fact_Before #[keyV a,keyV b] w fun v w'=>v= .bool (before a b)/\Ext w w':=by
 apply fact_Before.sh
 suffices H:∀ R:Value->World->Prop,(∀ v w',v= .bool (before a b)/\Ext w w'->R v w')->fact_Before.body a.ino a.what.toNat a.name a.chunk b.ino b.what.toNat b.name b.chunk w R from H _ fun _ _ h=>h
 intro R hR
 unfold fact_Before.body
 intro B1 w1 hn1 B2 w2 hn2
 have g1:KeyAt w2 B1 a:=Ext.get hn2.upd hn1.get
 have g2:KeyAt w2 B2 b:=hn2.get
 refine ⟨_,_,_,_,key_cells g1,_,_,_,_,key_cells g2,(fact_order_spec a b w2).mono ?_⟩
 rintro _ w3 ⟨rfl,he3⟩
 exact ⟨_,rfl,hR _ _ ⟨by rw [orderK_lt],(hn1.upd.trans hn2.upd).trans he3⟩⟩
def factR:ERep Fact:=ERep.pair keyR bytesR (fun x:Fact=>x.key) (fun x=>x.val)
abbrev factVs (k:Key) (a:Option Addr) (n c:Nat):List Value:=[.int .i64 k.ino,bv k.what,.string k.name,.int .i64 k.chunk,.slice a n c]
theorem factR_intro {w:World} {G:Nat->Prop} {x:Fact} {a:Option Addr} {c:Nat} (hc:x.val.length<=c) (hb:BytesAt w a x.val) (hg:x.val≠[]->∀ p,a=some p->G p.block):factR.R w G (factVs x.key a x.val.length c) x :=
 ⟨x.key.vals,[.slice a x.val.length c],rfl,rfl,a,c,rfl,hc,hb,hg⟩
theorem factR_elim {w:World} {G:Nat->Prop} {x:Fact} {vs:List Value} (h:factR.R w G vs x):∃ a c,vs=factVs x.key a x.val.length c/\x.val.length<=c/\BytesAt w a x.val/\(x.val≠[]->∀ p,a=some p->G p.block):=by
 obtain ⟨u,v,rfl,hu,a,c,hs,hc,hb,hg⟩:=h
 have hu':u=x.key.vals:=hu
 have hs':v=[.slice a x.val.length c]:=hs
 subst hu';subst hs'
 exact ⟨a,c,rfl,hc,hb,hg⟩
theorem ordered_take (l:List Fact) {i:Nat} (hi:i+1<l.length):ordered (l.take (i+2))=(ordered (l.take (i+1)) && before (l[i]'(by omega)).key l[i+1].key):=by
 induction l generalizing i with
 | nil=>simp at hi
 | cons x l ih =>
  cases l with
  | nil=>simp at hi
  | cons y l =>
   cases i with
   | zero=>simp [ordered]
   | succ i =>
    have:=ih (i:=i) (by simpa using hi)
    simp only [List.take_succ_cons,ordered,List.getElem_cons_succ] at this ⊢
    rw [this,Bool.and_assoc]
theorem ordered_small {l:List Fact} (h:l.length<=1):ordered l=true:=by
 match l,h with
 | [],_=>rfl
 | [x],_=>rfl
theorem ordered_false {l:List Fact}:∀ {n:Nat},ordered (l.take n)=false->ordered l=false:=by
 intro n h
 cases ho:ordered l with
 | false=>rfl
 | true =>
  have:=ordered_sorted.1 ho
  have h2:ordered (l.take n)=true:=ordered_sorted.2 (List.Pairwise.sublist (List.take_sublist _ _) this)
  rw [h] at h2;cases h2
theorem fact_isOrdered_spec {w:World} {G:Nat->Prop} {a:Option Addr} {c:Nat} {l:List Fact} (h:SliceAt factR w G a l) (hn:l.length<9000000000000000000) :
  CallsR prog K.fact_isOrdered #[.slice a l.length c] w fun v w'=>v= .bool (ordered l)/\Ext w w':=by
 apply fact_isOrdered.sh
 unfold fact_isOrdered.body
 refine ⟨fun x u=>∃ i:Nat,x=((i+1:Nat):Int)/\(i+1<=l.length\/i=0)/\Ext w u/\ordered (l.take (i+1))=true,fun x _=>((l.length:Int) - x).toNat,⟨0,rfl,.inr rfl,Upd.refl _ _,ordered_small (by rw [List.length_take];omega)⟩,?_⟩
 rintro x u ⟨i,rfl,hi,heu,ho⟩
 refine br_dec (fun hlt=>?_) fun hge=>⟨?_,heu⟩
 .have hi':i+1<l.length:=by omega
  have hi0:i<l.length:=by omega
  intro w2 hd2
  have e2:=heu.trans hd2.upd
  have q1:i64.wrap (((i+1:Nat):Int) - 1)=(i:Int):=by rw [w64 (by omega) (by omega)];omega
  have q2:i64.wrap (((i+1:Nat):Int)+1)=((i+1+1:Nat):Int):=by rw [w64 (by omega) (by omega)];omega
  simp only [q1,q2]
  refine ⟨fun u=>Ext w2 u,Upd.refl _ _,SliceAt.idx (r:=factR) (h.ext e2) rfl hi0 fun b o vs _ hrow hR _=>?_⟩
  obtain ⟨_,_,rfl,_,_,_⟩:=factR_elim hR
  refine ⟨_,_,_,_,fun u1 hu1=>(RowAt.take (hrow.ext hu1) 4).cells,SliceAt.idx (r:=factR) (h.ext e2) rfl hi' fun b o vs _ hrow hR _=>?_⟩
  obtain ⟨_,_,rfl,_,_,_⟩:=factR_elim hR
  refine ⟨_,_,_,_,fun u1 hu1=>(RowAt.take (hrow.ext hu1) 4).cells,(fact_Before_spec l[i].key l[i+1].key w2).mono ?_⟩
  rintro _ w3 ⟨rfl,he3⟩
  have hstep:=ordered_take l hi'
  rw [ho,Bool.true_and] at hstep
  refine ⟨_,rfl,br_intro (fun hb=>⟨?_,e2.trans he3⟩) fun hb=>⟨⟨i+1,rfl,.inl hi',e2.trans he3,by rw [hstep];simpa using hb⟩,by omega⟩⟩
  rw [ordered_false (n:=i+2) (by rw [hstep];simpa using hb)]
 .rw [List.take_of_length_le (by omega)] at ho
  rw [ho]
theorem less_cons_iff (a b:UInt8) (x y:List UInt8):Op.bytesLess (a :: x) (b :: y)=(decide (a<b) || (a == b && Op.bytesLess x y)):=rfl
theorem less_at:∀ {x y:List UInt8} (i:Nat) (hx:i<x.length) (hy:i<y.length),x.take i=y.take i->x[i]≠y[i]->Op.bytesLess x y=decide (x[i]<y[i])
 | a :: x,b :: y,0,_,_,_,hne=>by
  simp only [List.getElem_cons_zero] at hne ⊢
  rw [less_cons_iff]
  simp [hne]
 | a :: x,b :: y,i+1,hx,hy,ht,hne=>by
  simp only [List.take_succ_cons,List.cons.injEq] at ht
  obtain ⟨rfl,ht⟩:=ht
  simp only [List.getElem_cons_succ] at hne ⊢
  rw [less_cons_iff,less_at i (by simpa using hx) (by simpa using hy) ht hne]
  have:¬ a<a:=by rw [UInt8.lt_iff_toNat_lt];omega
  simp [this]
theorem less_pre:∀ {x y:List UInt8} (i:Nat),x.take i=y.take i->(i=x.length\/i=y.length)->i<=x.length->i<=y.length->Op.bytesLess x y=decide (x.length<y.length)/\(x.length=y.length->x=y)
 | [],[],_,_,_,_,_=>⟨rfl,fun _=>rfl⟩
 | [],b :: y,i,_,h,h1,h2=>⟨by simp [Op.bytesLess],fun e=>by simp at e⟩
 | a :: x,[],i,_,h,h1,h2=>⟨by simp [Op.bytesLess],fun e=>by simp at e⟩
 | a :: x,b :: y,0,_,h,_,_=>by simp at h
 | a :: x,b :: y,i+1,ht,h,h1,h2=>by
  simp only [List.take_succ_cons,List.cons.injEq] at ht
  obtain ⟨rfl,ht⟩:=ht
  have ih:=less_pre i ht (by simpa using h) (by simpa using h1) (by simpa using h2)
  rw [less_cons_iff,ih.1]
  have:¬ a<a:=by rw [UInt8.lt_iff_toNat_lt];omega
  exact ⟨by simp [this],fun e=>by rw [ih.2 (by simpa using e)]⟩
theorem carrackref06_order_spec (s t:ByteArray) (hs:s.size<9223372036854775807) (ht:t.size<9223372036854775807) (w:World) :
  CallsR prog K.carrackref06_order #[.string s,.string t] w fun v w'=>Ext w w'/\∃ n:Int,v= .int .i64 n/\(decide (n<0)=Op.bytesLess s.data.toList t.data.toList)/\(n=0 ↔ s.data.toList=t.data.toList):=by
 apply carrackref06_order.sh
 unfold carrackref06_order.body
 have e1:=size_data s
 have e2:=size_data t
 rw [e1,e2]
 generalize s.data.toList=x at *
 generalize t.data.toList=y at *
 refine ⟨fun z u=>∃ i:Nat,z=i/\i<=x.length/\i<=y.length/\Ext w u/\x.take i=y.take i,fun z _=>((x.length:Int) - z).toNat,⟨0,rfl,by omega,by omega,Upd.refl _ _,rfl⟩,?_⟩
 rintro z u ⟨i,rfl,hx,hy,heu,heq⟩
 have fin:(i=x.length\/i=y.length)->(Ext w u/\∃ n:Int,Value.int .i64 (i64.wrap (((x.length:Nat):Int) - ((y.length:Nat):Int)))= .int .i64 n/\(decide (n<0)=Op.bytesLess x y)/\(n=0 ↔ x=y)):=fun h=>by
  obtain ⟨p1,p2⟩:=less_pre i heq h hx hy
  refine ⟨heu,_,rfl,?_,?_⟩
  .rw [w64 (by omega) (by omega),p1,decide_eq_decide];omega
  .rw [w64 (by omega) (by omega)]
   exact ⟨fun e=>p2 (by omega),fun e=>by rw [e];omega⟩
 refine br_dec (fun hlt=>br_dec (fun hlt2=>?_) fun h=>fin (.inr (by omega))) fun h=>fin (.inl (by omega))
 have hx':i<x.length:=by omega
 have hy':i<y.length:=by omega
 intro w2 hd2
 refine ⟨(·=w2),rfl,by omega,x[i],by simp [hx'],by omega,y[i],by simp [hy'],br_ne (fun hne=>?_) fun heq'=>?_⟩
 .intro w3 hd3
  refine ⟨(·=w3),rfl,by omega,x[i],by simp [hx'],by omega,y[i],by simp [hy'],(heu.trans hd2.upd).trans hd3.upd,_,rfl,?_,?_⟩
  .have hne':x[i]≠y[i]:=fun e=>hne (by rw [e])
   rw [less_at i hx' hy' heq hne',w64n (by have:=x[i].toNat_lt;omega),w64n (by have:=y[i].toNat_lt;omega),w64 (by have:=x[i].toNat_lt;have:=y[i].toNat_lt;omega) (by have:=x[i].toNat_lt;have:=y[i].toNat_lt;omega),decide_eq_decide,UInt8.lt_iff_toNat_lt]
   omega
  .rw [w64n (by have:=x[i].toNat_lt;omega),w64n (by have:=y[i].toNat_lt;omega),w64 (by have:=x[i].toNat_lt;have:=y[i].toNat_lt;omega) (by have:=x[i].toNat_lt;have:=y[i].toNat_lt;omega)]
   constructor
   .intro e;exact absurd (by omega) hne
   .rintro rfl;exact absurd rfl hne
 .rw [w64 (by omega) (by omega)]
  have hxy:x[i]=y[i]:=UInt8.toNat_inj.1 (by have:(x[i].toNat:Int)=(y[i].toNat:Int):=heq';omega)
  exact ⟨⟨i+1,rfl,hx',hy',heu.trans hd2.upd,by rw [List.take_succ_eq_append_getElem hx',List.take_succ_eq_append_getElem hy',heq,hxy]⟩,meas hx'⟩
theorem carrackref06_Before_spec (a b:Key) (ha:a.name.size<9223372036854775807) (hb:b.name.size<9223372036854775807) (w:World):CallsR prog K.carrackref06_Before #[keyV a,keyV b] w fun v w'=>v= .bool (before a b)/\Ext w w':=by
 apply carrackref06_Before.sh
 suffices H:∀ R:Value->World->Prop,(∀ v w',v= .bool (before a b)/\Ext w w'->R v w')->carrackref06_Before.body a.ino a.what.toNat a.name a.chunk b.ino b.what.toNat b.name b.chunk w R from H _ fun _ _ h=>h
 intro R hR
 unfold carrackref06_Before.body
 simp only [add_lit,Nat.zero_add]
 intro B1 w1 hn1 B2 w2 hn2
 have g1:KeyAt w2 B1 a:=Ext.get hn2.upd hn1.get
 have g2:KeyAt w2 B2 b:=hn2.get
 have e2:=hn1.upd.trans hn2.upd
 rw [before_eq] at hR
 refine ⟨_,cell_of g1 rfl,_,cell_of g2 rfl,br_ne (fun hne=>⟨_,cell_of g1 rfl,_,cell_of g2 rfl,hR _ _ ⟨?_,e2⟩⟩) fun h1=>?_⟩
 .rw [decide_eq_false (p:=a.ino=b.ino) hne];simp
 rw [decide_eq_false (p:=a.ino<b.ino) (by omega),decide_eq_true (p:=a.ino=b.ino) h1,Bool.false_or,Bool.true_and] at hR
 refine ⟨_,cell_of g1 rfl,_,cell_of g2 rfl,br_ne (fun hne=>⟨_,cell_of g1 rfl,_,cell_of g2 rfl,hR _ _ ⟨?_,e2⟩⟩) fun h2=>?_⟩
 .have hne':a.what≠b.what:=fun e=>hne (by rw [e])
  rw [decide_eq_false (p:=a.what=b.what) hne']
  simp only [Bool.false_and,Bool.or_false]
  congr 1
  rw [decide_eq_decide,UInt8.lt_iff_toNat_lt];omega
 have h2':a.what=b.what:=UInt8.toNat_inj.1 (by have:(a.what.toNat:Int)=(b.what.toNat:Int):=h2;omega)
 rw [decide_eq_false (p:=a.what<b.what) (by rw [UInt8.lt_iff_toNat_lt];omega),decide_eq_true (p:=a.what=b.what) h2',Bool.false_or,Bool.true_and] at hR
 refine ⟨_,cell_of g1 rfl,_,cell_of g2 rfl,(carrackref06_order_spec a.name b.name ha hb w2).mono ?_⟩
 rintro _ w3 ⟨he3,n,rfl,hn1',hn2'⟩
 have hbl:Op.bytesLess a.bytes b.bytes=decide (n<0):=hn1'.symm
 have hbe:n=0 ↔ a.bytes=b.bytes:=hn2'
 refine ⟨_,rfl,br_ne (fun hne=>hR _ _ ⟨?_,e2.trans he3⟩) fun h3=>⟨_,cell_of (Ext.get he3 g1) rfl,_,cell_of (Ext.get he3 g2) rfl,hR _ _ ⟨?_,e2.trans he3⟩⟩⟩
 .rw [hbl,decide_eq_false (p:=a.bytes=b.bytes) (fun e=>hne (hbe.2 e))];simp
 .rw [hbl,decide_eq_true (p:=a.bytes=b.bytes) (hbe.1 h3),decide_eq_false (p:=n<0) (by omega)];simp
def Fact.zero:Fact:=⟨Key.zero,[]⟩
structure Child where
 key:Key
 block:Int
 page:Int
def Child.zero:Child:=⟨Key.zero,0,0⟩
structure Place where
 block:Int
 page:Int
 deriving DecidableEq
structure Point where
 number:Nat
 block:Int
 page:Int
 count:Int
 deriving DecidableEq
def Point.zero:Point:=⟨0,0,0,0⟩
def leafS (k:Key) (s:St):Fact×Nat×St :=
 let v:=rowS s
 if v.2.1≠0 then (Fact.zero,4,none) else if v.1.length=0 then (Fact.zero,5,v.2.2) else (⟨k,v.1⟩,0,v.2.2)
def innerS (k:Key) (s:St):Child×Nat×St :=
 let a:=takeS 1 s
 if a.2.1≠0 then (Child.zero,4,none)
 else
  let b:=takeS 1 a.2.2
  if b.2.1≠0 then (Child.zero,4,none) else (⟨k,a.1,b.1⟩,0,b.2.2)
def aheadL {α:Type} (key:α->Key) (acc:List α) (k:Key):Bool :=
 match acc.getLast? with
 | some y=>before (key y) k
 | none=>true
def listGo {α:Type} (key:α->Key) (one:Key->St->α×Nat×St):Nat->St->List α->List α×Nat
 | 0,s,acc=>if 0<leftS s then ([],5) else (acc,0)
 | n+1,s,acc =>
  let k:=keyS s
  if k.2.1≠0 then ([],k.2.1)
  else
   let x:=one k.1 k.2.2
   if x.2.1≠0 then ([],x.2.1)
   else if aheadL key acc k.1=false then ([],5)
   else listGo key one n x.2.2 (acc ++ [x.1])
def listS {α:Type} (key:α->Key) (one:Key->St->α×Nat×St) (b:List UInt8):List α×Nat :=
 if (takeS 1 (some b)).2.1≠0 then ([],4) else if (takeS 1 (some b)).1=0 then ([],5) else listGo key one (takeS 1 (some b)).1 (takeS 1 (some b)).2.2 []
def getLeaf (b:List UInt8):List Fact×Nat:=listS Fact.key leafS b
def getInner (b:List UInt8):List Child×Nat:=listS Child.key innerS b
theorem listGo_some {α:Type} {key:α->Key} {one:Key->St->α×Nat×St}:∀ {n:Nat} {s:St} {acc:List α},(listGo key one n s acc).2=0->acc.length+n<=(listGo key one n s acc).1.length
 | 0,s,acc,h=>by
  unfold listGo at h ⊢
  split at h
  .cases h
  .rename_i hl;rw [if_neg hl];exact Nat.le_refl _
 | n+1,s,acc,h=>by
  unfold listGo at h ⊢
  simp only at h ⊢
  split at h
  .rename_i hk;exact absurd h hk
  .rename_i hk
   rw [if_neg hk]
   split at h
   .rename_i hx;exact absurd h hx
   .rename_i hx
    rw [if_neg hx]
    split at h
    .cases h
    .rename_i ha
     rw [if_neg ha]
     have:=listGo_some h
     rw [List.length_append,List.length_singleton] at this
     omega
theorem listS_some {α:Type} {key:α->Key} {one:Key->St->α×Nat×St} {b:List UInt8} (h:(listS key one b).2=0):(listS key one b).1≠[]:=by
 unfold listS at h ⊢
 split at h
 .cases h
 .rename_i h1
  rw [if_neg h1]
  split at h
  .cases h
  .rename_i h2
   rw [if_neg h2]
   have:=listGo_some h
   intro e
   rw [e] at this
   simp at this
   omega
def Point.may (p:Point):Bool:=decide (1<=p.number) && decide (0<=p.count) && decide (p.count<=65535) && decide (0<=p.block) && decide (p.block<=255) && decide (0<=p.page) && decide (p.page<=255) &&
 (if p.count=0 then decide (p.page=0) && decide (p.block=0) else decide (p.page≠0))
def getPoint (b:List UInt8):Point×Nat :=
 if b.length<12 then (Point.zero,4)
 else
  let p:Point:=⟨fromLE (b.take 8),(b.getD 8 0).toNat,(b.getD 9 0).toNat,(b.getD 10 0).toNat+256 * (b.getD 11 0).toNat⟩
  if p.may=true/\b.length=12 then (p,0) else (Point.zero,5)
def bit (x:UInt8) (k:Nat):Bool:=x.toBitVec.getLsbD k
theorem bit_nat (x:UInt8) (k:Nat):bit x k=x.toNat.testBit k:=rfl
theorem bit_div (x:UInt8) (k:Nat):(x.toNat / 2 ^ k % 2 == 0)= !bit x k:=by
 rw [bit_nat,Nat.testBit_eq_decide_div_mod_eq]
 have:x.toNat / 2 ^ k % 2=0\/x.toNat / 2 ^ k % 2=1:=by omega
 rcases this with h | h<;>rw [h]<;>rfl
theorem bit_high (x:UInt8) {k:Nat} (h:8<=k):bit x k=false:=by
 unfold bit
 exact BitVec.getLsbD_of_ge _ _ h
theorem bit_ext {x y:UInt8} (h:∀ k,k<8->bit x k=bit y k):x=y:=by
 have:x.toBitVec=y.toBitVec:=BitVec.eq_of_getLsbD_eq fun k hk=>h k hk
 exact UInt8.toBitVec_inj.1 this
theorem zeros8_bits (x:UInt8):zeros8 x=((List.range 8).filter fun k=> !bit x k).length:=by
 unfold zeros8
 congr 2
 funext k
 exact bit_div x k
theorem filter_le {α:Type} {p q:α->Bool}:∀ {l:List α},(∀ a∈l,p a=true->q a=true)->(l.filter p).length<=(l.filter q).length/\((l.filter p).length=(l.filter q).length->∀ a∈l,q a=true->p a=true)
 | [],_=>by simp
 | a :: l,h=>by
  obtain ⟨h1,h2⟩:=filter_le (l:=l) fun b hb=>h b (by simp [hb])
  have ha:=h a (by simp)
  simp only [List.filter_cons]
  cases hp:p a with
  | true =>
   have hq:=ha hp
   simp only [hq,if_true,List.length_cons]
   refine ⟨by omega,fun he b hb hqb=>?_⟩
   rcases List.mem_cons.1 hb with rfl | hb
   .exact hp
   .exact h2 (by omega) b hb hqb
  | false =>
   cases hq:q a with
   | true =>
    simp only [Bool.false_eq_true,if_false,if_true,List.length_cons]
    exact ⟨by omega,fun he=>by omega⟩
   | false =>
    simp only [Bool.false_eq_true,if_false]
    refine ⟨h1,fun he b hb hqb=>?_⟩
    rcases List.mem_cons.1 hb with rfl | hb
    .rw [hq] at hqb;cases hqb
    .exact h2 he b hb hqb
def sub8 (y x:UInt8):Prop:=∀ k,bit y k=true->bit x k=true
theorem sub8_zeros {y x:UInt8} (h:sub8 y x):zeros8 x<=zeros8 y/\(zeros8 x=zeros8 y->x=y):=by
 rw [zeros8_bits,zeros8_bits]
 obtain ⟨h1,h2⟩:=filter_le (p:=fun k=> !bit x k) (q:=fun k=> !bit y k) (l:=List.range 8) (fun k _ hk=>by
  cases hy:bit y k with
  | false=>rfl
  | true=>rw [h k hy] at hk;cases hk)
 refine ⟨h1,fun he=>bit_ext fun k hk=>?_⟩
 have:=h2 he k (by simpa using hk)
 cases hy:bit y k with
 | true=>exact h k hy
 | false =>
  rw [hy] at this
  simpa using this
theorem sub8_le {y x:UInt8} (h:sub8 y x):y.toNat<=x.toNat:=by
 have:y.toNat &&& x.toNat=y.toNat:=by
  apply Nat.eq_of_testBit_eq
  intro k
  rw [Nat.testBit_and]
  have:=h k
  rw [bit_nat,bit_nat] at this
  cases hy:y.toNat.testBit k with
  | false=>rfl
  | true=>rw [this hy];rfl
 rw [<- this]
 exact Nat.and_le_right
theorem sub8_trans {x y z:UInt8} (h:sub8 x y) (k:sub8 y z):sub8 x z:=fun i hi=>k i (h i hi)
theorem bit_mix (m o n:UInt8) {k:Nat} (hk:k<8):bit (mix m o n) k=((bit o k && !bit m k) || (bit n k && bit m k)):=by
 unfold bit mix
 rw [UInt8.toBitVec_or,UInt8.toBitVec_and,UInt8.toBitVec_and,UInt8.toBitVec_not,BitVec.getLsbD_or,BitVec.getLsbD_and,BitVec.getLsbD_and,BitVec.getLsbD_not]
 simp [hk]
theorem bit_255 {k:Nat} (hk:k<8):bit 255 k=true:=by
 match k,hk with
 | 0,_ | 1,_ | 2,_ | 3,_ | 4,_ | 5,_ | 6,_ | 7,_=>rfl
theorem sub8_erase (m o:UInt8):sub8 o (mix m o 255):=by
 intro k hk
 by_cases h8:k<8
 .rw [bit_mix _ _ _ h8,hk,bit_255 h8]
  cases bit m k<;>rfl
 .rw [bit_high _ (by omega)] at hk;cases hk
theorem sub8_write (m n:UInt8):sub8 n (mix m 255 n):=by
 intro k hk
 by_cases h8:k<8
 .rw [bit_mix _ _ _ h8,hk,bit_255 h8]
  cases bit m k<;>rfl
 .rw [bit_high _ (by omega)] at hk;cases hk
theorem mix_full (o n:UInt8):mix 255 o n=n:=by
 apply bit_ext
 intro k hk
 rw [bit_mix _ _ _ hk,bit_255 hk]
 simp
def SubL (Q X:List UInt8):Prop:=Q.length=X.length/\∀ i,i<Q.length->sub8 (Q.getD i 0) (X.getD i 0)
theorem SubL.trans {A B C:List UInt8} (h:SubL A B) (k:SubL B C):SubL A C:=⟨h.1.trans k.1,fun i hi=>sub8_trans (h.2 i hi) (k.2 i (by rw [<- h.1];exact hi))⟩
theorem SubL.cons {y x:UInt8} {ys xs:List UInt8} (h:SubL (y :: ys) (x :: xs)):sub8 y x/\SubL ys xs:=by
 obtain ⟨hl,hb⟩:=h
 refine ⟨hb 0 (by simp),by simpa using hl,fun i hi=>?_⟩
 exact hb (i+1) (by simpa using hi)
theorem SubL.take {A B:List UInt8} (h:SubL A B) (n:Nat):SubL (A.take n) (B.take n):=by
 refine ⟨by simp [h.1],fun i hi=>?_⟩
 have hi':i<A.length/\i<n:=by simp at hi;omega
 have hb:=h.2 i hi'.1
 have hl:=h.1
 simpa [List.getD,List.getElem?_take,hi'.2] using hb
theorem SubL.drop {A B:List UInt8} (h:SubL A B) (n:Nat):SubL (A.drop n) (B.drop n):=by
 refine ⟨by simp [h.1],fun i hi=>?_⟩
 have hb:=h.2 (n+i) (by simp at hi;omega)
 simpa [List.getD] using hb
theorem SubL.nts:∀ {Q X:List UInt8},SubL Q X->noughts X<=noughts Q/\(noughts X=noughts Q->X=Q)
 | [],[],_=>⟨Nat.le_refl _,fun _=>rfl⟩
 | [],_ :: _,h=>by have:=h.1;simp at this
 | _ :: _,[],h=>by have:=h.1;simp at this
 | y :: ys,x :: xs,h=>by
  obtain ⟨h1,h2⟩:=h.cons
  obtain ⟨a1,a2⟩:=sub8_zeros h1
  obtain ⟨b1,b2⟩:=SubL.nts h2
  have e1:noughts (x :: xs)=zeros8 x+noughts xs:=by simp [Go.Den.noughts]
  have e2:noughts (y :: ys)=zeros8 y+noughts ys:=by simp [Go.Den.noughts]
  rw [e1,e2]
  refine ⟨by omega,fun he=>?_⟩
  rw [a2 (by omega),b2 (by omega)]
theorem SubL.fle:∀ {Q X:List UInt8},SubL Q X->fromLE Q<=fromLE X
 | [],[],_=>Nat.le_refl _
 | [],_ :: _,h=>by have:=h.1;simp at this
 | _ :: _,[],h=>by have:=h.1;simp at this
 | y :: ys,x :: xs,h=>by
  obtain ⟨h1,h2⟩:=h.cons
  have a:=sub8_le h1
  have b:=SubL.fle h2
  simp only [Go.Den.fromLE]
  omega
theorem SubL.antisymm {A B:List UInt8} (h:SubL A B) (k:SubL B A):A=B:=by
 have h1:=h.nts
 have h2:=k.nts
 exact (h1.2 (by omega)).symm
def Sound (Q:List UInt8):Prop:=2<=Q.length/\fromLE (Q.take 2)=noughts (Q.drop 2)
def Safe (X:List UInt8):Prop:=∃ Q,Sound Q/\SubL Q X
theorem berger {Q X:List UInt8} (h:SubL Q X) (hq:Sound Q) (hx:Sound X):X=Q:=by
 have h1:=(h.drop 2).nts
 have h2:=(h.take 2).fle
 have e1:=hq.2
 have e2:=hx.2
 have hd:X.drop 2=Q.drop 2:=h1.2 (by omega)
 have hf:fromLE (X.take 2)=fromLE (Q.take 2):=by rw [e1,e2,hd]
 have hl:(X.take 2).length=(Q.take 2).length:=by simp [h.1]
 have ht:X.take 2=Q.take 2:=by
  have a:=leB_fromLE (X.take 2)
  have b:=leB_fromLE (Q.take 2)
  rw [hf,hl,b] at a
  exact a.symm
 rw [<- List.take_append_drop 2 X,ht,hd,List.take_append_drop]
theorem Safe.up {X Y:List UInt8} (h:Safe X) (k:SubL X Y):Safe Y:=by
 obtain ⟨Q,hq,hs⟩:=h
 exact ⟨Q,hq,hs.trans k⟩
theorem Safe.same {X Y:List UInt8} (h:Safe X) (k:SubL X Y) (hy:Sound Y):Y=X:=by
 obtain ⟨Q,hq,hs⟩:=h
 have e:=berger (hs.trans k) hq hy
 subst e
 exact SubL.antisymm hs k
theorem getHead_sound {b:List UInt8} (h:(getHead b).2=0):Sound b:=by
 have hp:(getPage b).2.2=0:=by
  unfold getHead at h
  split at h
  .exact absurd h (by assumption)
  .rename_i hc;exact Classical.byContradiction hc
 unfold getPage at hp
 split at hp
 .cases hp
 .rename_i hs
  split at hp
  .cases hp
  .split at hp
   .cases hp
   .rename_i hn
    have hs':isSize b.length=true:=by simpa using hs
    simp [isSize] at hs'
    exact ⟨by omega,Classical.byContradiction hn⟩
theorem pageOf_sound {size:Nat} {kind:UInt8} {body:List UInt8} (hb:body.length+5<=size) (hs:size<=8000):Sound (pageOf size kind body):=by
 have hl:=pageOf_length size kind body hb
 have hrl:=pageRest_length size kind body hb
 have hn:=noughts_le (pageRest size kind body)
 have h2:=leB_length 2 (noughts (pageRest size kind body))
 have e:(256:Nat) ^ 2=65536:=by decide
 refine ⟨by omega,?_⟩
 unfold pageOf
 rw [List.take_append_of_le_length (by omega),List.take_of_length_le (by omega),List.drop_append_of_le_length (by omega),List.drop_of_length_le (by omega),List.nil_append]
 exact fromLE_leB 2 _ (by omega)
theorem mixL_getD (h:Option Hit) (old new:List UInt8) {i:Nat} (hi:i<old.length):(mixL h old new).getD i 0=mix (maskAt h i) (old.getD i 0) (new.getD i 0):=by
 simp [mixL,List.getD,hi]
theorem mixL_none (old new:List UInt8) (hl:new.length=old.length):mixL none old new=new:=by
 apply List.ext_getElem
 .simp [mixL_length,hl]
 .intro i h1 h2
  simp only [mixL,List.getElem_map,List.getElem_range,maskAt,mix_full]
  simp [List.getD,h2]
theorem mixL_erase (h:Option Hit) (old:List UInt8) (n:Nat) (hn:old.length<=n):SubL old (mixL h old (List.replicate n 255)):=by
 refine ⟨(mixL_length _ _ _).symm,fun i hi=>?_⟩
 rw [mixL_getD _ _ _ hi]
 have:(List.replicate n (255:UInt8)).getD i 0=255:=by simp [List.getD,show i<n by omega]
 rw [this]
 exact sub8_erase _ _
theorem mixL_write (h:Option Hit) (n:Nat) (new:List UInt8) (hl:new.length=n):SubL new (mixL h (List.replicate n 255) new):=by
 refine ⟨by rw [mixL_length];simp [hl],fun i hi=>?_⟩
 rw [mixL_getD _ _ _ (by simp;omega)]
 have:(List.replicate n (255:UInt8)).getD i 0=255:=by simp [List.getD,show i<n by omega]
 rw [this]
 exact sub8_write _ _
theorem isBlank_replicate (n:Nat):isBlank (List.replicate n 255)=true:=by simp [isBlank]
theorem getPage_pageOf {size:Nat} {kind:UInt8} {body:List UInt8} (hs:isSize size=true) (hk1:¬ kind<1) (hk7:¬ kind > 7) (hb:body.length+5<=size):getPage (pageOf size kind body)=(kind,body,0):=by
 have hs':=hs
 simp [isSize] at hs'
 have hlen:=pageOf_length size kind body hb
 have hrl:=pageRest_length size kind body hb
 have hn:=noughts_le (pageRest size kind body)
 have h2:=leB_length 2 (noughts (pageRest size kind body))
 have h3:=leB_length 2 body.length
 have e256:(256:Nat) ^ 2=65536:=by decide
 obtain ⟨n0,n1,hN⟩: ∃ n0 n1,leB (noughts (pageRest size kind body)) 2=[n0,n1]:=⟨_,_,rfl⟩
 obtain ⟨m0,m1,hM⟩: ∃ m0 m1,leB body.length 2=[m0,m1]:=⟨_,_,rfl⟩
 have hp:pageOf size kind body=n0 :: n1 :: kind :: m0 :: m1 :: (body ++ List.replicate (size - 5 - body.length) 255):=by
  unfold pageOf
  rw [hN]
  unfold pageRest
  rw [hM]
  simp
 have hr:pageRest size kind body=kind :: m0 :: m1 :: (body ++ List.replicate (size - 5 - body.length) 255):=by
  unfold pageRest
  rw [hM]
  simp
 have f1:fromLE [n0,n1]=noughts (pageRest size kind body):=by rw [<- hN];exact fromLE_leB 2 _ (by omega)
 have f2:fromLE [m0,m1]=body.length:=by rw [<- hM];exact fromLE_leB 2 _ (by omega)
 have hkb:kind≠255:=fun e=>hk7 (by rw [e];decide)
 have hnb:isBlank (pageOf size kind body)=false:=by
  rw [hp]
  simp [isBlank,hkb]
 unfold getPage
 rw [hlen,if_neg (by rw [hs];simp),if_neg (by rw [hnb];simp)]
 have d2:(pageOf size kind body).drop 2=pageRest size kind body:=by rw [hp,hr];rfl
 have t2:(pageOf size kind body).take 2=[n0,n1]:=by rw [hp];rfl
 have g2:(pageOf size kind body).getD 2 0=kind:=by rw [hp];rfl
 have t3:((pageOf size kind body).drop 3).take 2=[m0,m1]:=by rw [hp];rfl
 rw [d2,t2,f1,if_neg (by simp),g2,t3,f2]
 have d5:(pageOf size kind body).drop (5+body.length)=List.replicate (size - 5 - body.length) 255:=by
  rw [hp,<- List.drop_drop]
  show (body ++ List.replicate (size - 5 - body.length) 255).drop body.length=_
  simp
 have t5:((pageOf size kind body).take (5+body.length)).drop 5=body:=by
  rw [hp,Nat.add_comm]
  show ((n0 :: n1 :: kind :: m0 :: m1 :: (body ++ List.replicate (size - 5 - body.length) 255)).take (body.length+5)).drop 5=body
  simp
 rw [d5,t5,isBlank_replicate,if_neg]
 rintro (h | h | h | h)
 .exact hk1 h
 .exact hk7 h
 .omega
 .cases h
theorem getHead_pageOf {size:Nat} {h:Head} (hs:isSize size=true) (ho:h.Ok) (hm:h.may=true):getHead (pageOf size 1 h.body)=(h,0):=by
 have hbl:=h.body_length
 have hsz:=putHead_size hs
 have hg:=getPage_pageOf (kind:=1) (body:=h.body) hs (by decide) (by decide) (by omega)
 unfold getHead
 rw [hg]
 simp only []
 rw [if_neg (by simp),if_neg (by rw [hbl];simp)]
 have e4:(256:Nat) ^ 4=4294967296:=by decide
 have e8:(256:Nat) ^ 8=18446744073709551616:=by decide
 have h4:=leB_length 4 h.era
 have h8:=leB_length 8 h.seq
 have b0:h.body.getD 0 0=h.kind:=rfl
 have b1:(h.body.drop 1).take 4=leB h.era 4:=by
  show (leB h.era 4 ++ leB h.seq 8).take 4=_
  rw [List.take_append_of_le_length (by omega),List.take_of_length_le (by omega)]
 have b5:(h.body.drop 5).take 8=leB h.seq 8:=by
  show ((leB h.era 4 ++ leB h.seq 8).drop 4).take 8=_
  rw [List.drop_append_of_le_length (by omega),List.drop_of_length_le (by omega),List.nil_append,List.take_of_length_le (by omega)]
 have f1:fromLE (leB h.era 4)=h.era:=fromLE_leB 4 _ (by have:=ho.1;omega)
 have f2:fromLE (leB h.seq 8)=h.seq:=fromLE_leB 8 _ (by have:=ho.2;omega)
 rw [b0,b1,b5,f1,f2]
 have e:(Head.mk h.kind h.era h.seq)=h:=rfl
 rw [e,hm]
 rfl
structure Deed (c c':Chip) (i e:Nat):Prop where
 geo:c.SameGeo c'
 ok:c'.Ok
 blk:∀ j,j≠i->c'.blk j=c.blk j
 bad:∀ j,j≠i->c'.isBad j=c.isBad j
 cases:(e=0/\c'.dead=c.dead/\c'.bad=c.bad)\/(e=9/\c'.dead=c.dead/\c'.isBad i=true)\/(e=10/\c'.dead=true/\c'.bad=c.bad)
 calm:(∀ t∈c.hits,t.fails=false)->e≠9/\(∀ t∈c'.hits,t.fails=false)/\c'.bad=c.bad
 quiet:c.hits=[]->e=0/\c'.hits=[]
theorem strike_same (c:Chip):c.strike.1.nb=c.nb/\c.strike.1.np=c.np/\c.strike.1.sz=c.sz/\c.strike.1.blocks=c.blocks/\c.strike.1.bad=c.bad/\c.strike.1.dead=c.dead/\(∀ t∈c.strike.1.hits,t∈c.hits)/\(∀ t,c.strike.2=some t->t∈c.hits)/\(c.hits=[]->c.strike.2=none/\c.strike.1.hits=[]):=by
 unfold Chip.strike
 split
 .rename_i h
  exact ⟨rfl,rfl,rfl,rfl,rfl,rfl,(fun t ht=>ht),(fun t ht=>by cases ht),fun _=>⟨rfl,h⟩⟩
 .rename_i t r h
  split
  .exact ⟨rfl,rfl,rfl,rfl,rfl,rfl,(fun t ht=>ht),(fun t ht=>by cases ht),fun h'=>by rw [h] at h';cases h'⟩
  .exact ⟨rfl,rfl,rfl,rfl,rfl,rfl,(fun t ht=>by rw [h];simp [ht]),(fun t ht=>by cases ht;rw [h];simp),fun h'=>by rw [h] at h';cases h'⟩
theorem getD_set_ne {α:Type} {l:List α} {i j:Nat} {x d:α} (h:j≠i):(l.set i x).getD j d=l.getD j d:=by
 simp [List.getD,List.getElem?_set_ne (Ne.symm h)]
theorem getD_set_eq {α:Type} {l:List α} {i:Nat} {x d:α} (h:i<l.length):(l.set i x).getD i d=x:=by
 simp [List.getD,h]
def madeBlk (c:Chip) (b off n:Nat) (new:List UInt8):List UInt8:=(c.blk b).take off ++ mixL c.strike.2 (((c.blk b).drop off).take n) new ++ (c.blk b).drop (off+n)
theorem done_deed {c:Chip} (h:c.Ok) {b off n:Nat} (hb:b<c.nb) (ho:off+n<=c.np * c.sz) (new:List UInt8) :
  Deed c (c.done b off n new).1 b (c.done b off n new).2/\(c.done b off n new).1.blk b=madeBlk c b off n new/\(c.done b off n new).1.dead=(if (c.done b off n new).2=10 then true else c.dead):=by
 obtain ⟨s1,s2,s3,s4,s5,s6,s7,s8,s9⟩:=strike_same c
 have hbl:=h.blk_len hb
 have hml:(madeBlk c b off n new).length=c.np * c.sz:=by simp [madeBlk,mixL_length];omega
 have hbb:b<c.blocks.length:=by rw [h.bl];exact hb
 have hbd:b<c.bad.length:=by rw [h.bad];exact hb
 have hdone:c.done b off n new=(c.strike.1.setBlk b (madeBlk c b off n new)).finish b c.strike.2:=rfl
 have hmid:∀ (bad:List Bool) (dead:Bool),bad.length=c.nb->({ c.strike.1.setBlk b (madeBlk c b off n new) with bad:=bad,dead:=dead }:Chip).Ok:=by
  intro bad dead hl
  refine ⟨by show 8<=c.strike.1.nb;rw [s1];exact h.nb1,by show c.strike.1.nb<=64;rw [s1];exact h.nb2,by show 4<=c.strike.1.np;rw [s2];exact h.np1,by show c.strike.1.np<=32;rw [s2];exact h.np2,by show 128<=c.strike.1.sz;rw [s3];exact h.sz1,by show c.strike.1.sz<=256;rw [s3];exact h.sz2,?_,?_,?_⟩
  .show (c.strike.1.blocks.set b _).length=c.strike.1.nb
   rw [List.length_set,s4,s1];exact h.bl
  .intro x hx
   have hx':x∈c.strike.1.blocks.set b (madeBlk c b off n new):=hx
   show x.length=c.strike.1.np * c.strike.1.sz
   rw [s2,s3]
   rw [s4] at hx'
   rcases List.mem_or_eq_of_mem_set hx' with hx' | hx'
   .exact h.bl2 x hx'
   .rw [hx'];exact hml
  .show bad.length=c.strike.1.nb
   rw [s1];exact hl
 have hblk:∀ (bad:List Bool) (dead:Bool) j,({ c.strike.1.setBlk b (madeBlk c b off n new) with bad:=bad,dead:=dead }:Chip).blk j=if j=b then madeBlk c b off n new else c.blk j:=by
  intro bad dead j
  show (c.strike.1.blocks.set b _).getD j []=_
  rw [s4]
  split
  .rename_i e;subst e;exact getD_set_eq hbb
  .rename_i e;exact getD_set_ne e
 rw [hdone]
 cases hh:c.strike.2 with
 | none =>
  have e:(c.strike.1.setBlk b (madeBlk c b off n new)).finish b none=({ c.strike.1.setBlk b (madeBlk c b off n new) with bad:=c.strike.1.bad,dead:=c.strike.1.dead },0):=rfl
  rw [e]
  refine ⟨⟨⟨s1,s2,s3,(c.strike_geo).2.2.2⟩,hmid _ _ (by rw [s5];exact h.bad),fun j hj=>by rw [hblk,if_neg hj],fun j hj=>by show c.strike.1.bad.getD j false=_;rw [s5];rfl,.inl ⟨rfl,s6,s5⟩,fun hc=>⟨by simp,fun t ht=>hc t (s7 t ht),s5⟩,fun hq=>⟨rfl,(s9 hq).2⟩⟩,by rw [hblk,if_pos rfl],?_⟩
  simp only [if_neg (show ¬ (0=10) by omega)]
  exact s6
 | some t =>
  have htm:=s8 t hh
  have hnq:¬ c.hits=[]:=fun hq=>by rw [(s9 hq).1] at hh;cases hh
  cases hf:t.fails with
  | true =>
   have e:(c.strike.1.setBlk b (madeBlk c b off n new)).finish b (some t)=({ c.strike.1.setBlk b (madeBlk c b off n new) with bad:=c.strike.1.bad.set b true,dead:=c.strike.1.dead },9):=by
    simp only [Chip.finish,hf,if_true];rfl
   rw [e]
   refine ⟨⟨⟨s1,s2,s3,(c.strike_geo).2.2.2⟩,hmid _ _ (by rw [List.length_set,s5];exact h.bad),fun j hj=>by rw [hblk,if_neg hj],fun j hj=>?_,.inr (.inl ⟨rfl,s6,?_⟩),fun hc=>?_,fun hq=>absurd hq hnq⟩,by rw [hblk,if_pos rfl],?_⟩
   .show (c.strike.1.bad.set b true).getD j false=_
    rw [s5];exact getD_set_ne hj
   .show (c.strike.1.bad.set b true).getD b false=true
    rw [s5];exact getD_set_eq hbd
   .rw [hc t htm] at hf;cases hf
   .simp only [if_neg (show ¬ (9=10) by omega)];exact s6
  | false =>
   have e:(c.strike.1.setBlk b (madeBlk c b off n new)).finish b (some t)=({ c.strike.1.setBlk b (madeBlk c b off n new) with bad:=c.strike.1.bad,dead:=true },10):=by
    simp only [Chip.finish,hf];rfl
   rw [e]
   refine ⟨⟨⟨s1,s2,s3,(c.strike_geo).2.2.2⟩,hmid _ _ (by rw [s5];exact h.bad),fun j hj=>by rw [hblk,if_neg hj],fun j hj=>by show c.strike.1.bad.getD j false=_;rw [s5];rfl,.inr (.inr ⟨rfl,rfl,s5⟩),fun hc=>⟨by simp,fun t ht=>hc t (s7 t ht),s5⟩,fun hq=>absurd hq hnq⟩,by rw [hblk,if_pos rfl],?_⟩
   simp only [if_true]
def hd (c:Chip) (i:Nat):Head×Nat:=getHead (c.page i 0)
def isHd (c:Chip) (i:Nat):Prop:=(hd c i).2=0
def view (c:Chip) (i:Nat):Blk:=if (hd c i).2=0 then ⟨2,(hd c i).1⟩ else if isBlank (c.blk i) then ⟨0,Head.none⟩ else ⟨1,Head.none⟩
theorem lookAt_view (c:Chip) (i:Nat) (old:Blk):lookAt c i old=if c.dead then old else view c i:=rfl
theorem view_what (c:Chip) (i:Nat):(view c i).what=2 ↔ isHd c i:=by
 unfold view isHd
 split
 .rename_i h;simp [h]
 .rename_i h;split<;>simp [h]
theorem hd_blk {c c':Chip} (hg:c.SameGeo c') {i:Nat} (h:c'.blk i=c.blk i):hd c' i=hd c i:=by
 unfold hd Chip.page
 rw [h,hg.2.2.1]
theorem view_blk {c c':Chip} (hg:c.SameGeo c') {i:Nat} (h:c'.blk i=c.blk i):view c' i=view c i:=by
 unfold view
 rw [hd_blk hg h,h]
structure CI (c:Chip):Prop where
 ok:c.Ok
 safe:∀ i,i<c.nb->Safe (c.page i 0)
 uniq:∀ i j,i<c.nb->j<c.nb->i≠j->isHd c i->isHd c j->(hd c i).1.seq≠(hd c j).1.seq
structure Inv (P:Pool) (c:Chip):Prop where
 ci:CI c
 len:P.blocks.length=c.nb
 known:c.dead=false->∀ i,i<c.nb->P.blk i=view c i
 last:∀ i,i<c.nb->isHd c i->(hd c i).1.seq<=P.last
theorem setBlk_blk {P:Pool} {i j:Nat} {b:Blk} (hi:i<P.blocks.length):(P.setBlk i b).blk j=if j=i then b else P.blk j:=by
 show (P.blocks.set i b).getD j Blk.zero=_
 split
 .rename_i e;subst e;exact getD_set_eq hi
 .rename_i e;exact getD_set_ne e
theorem Inv.deed {P P':Pool} {c c':Chip} {i e:Nat} (h:Inv P c) (hd0:c.dead=false) (hi:i<c.nb) (hde:Deed c c' i e) (hs:Safe (c'.page i 0)) (hbl:P'.blocks=(P.relook c' i).blocks) (hl:P.last<=P'.last)
  (hnew:isHd c' i->(isHd c i/\hd c' i=hd c i)\/(P.last<(hd c' i).1.seq/\(hd c' i).1.seq<=P'.last)):Inv P' c':=by
 have hnb:=hde.geo.1
 have hoth:∀ j,j≠i->hd c' j=hd c j:=fun j hj=>hd_blk hde.geo (hde.blk j hj)
 have hothH:∀ j,j≠i->(isHd c' j ↔ isHd c j):=fun j hj=>by unfold isHd;rw [hoth j hj]
 have hpg:∀ j,j≠i->c'.page j 0=c.page j 0:=fun j hj=>by unfold Chip.page;rw [hde.blk j hj,hde.geo.2.2.1]
 have hil:i<P.blocks.length:=by rw [h.len];exact hi
 refine ⟨⟨hde.ok,fun j hj=>?_,fun j k hj hk hjk h1 h2=>?_⟩,?_,fun hd' j hj=>?_,fun j hj h1=>?_⟩
 .by_cases hji:j=i
  .subst hji;exact hs
  .rw [hpg j hji];exact h.ci.safe j (by rw [<- hnb];exact hj)
 .rw [hnb] at hj hk
  by_cases hji:j=i
  .subst hji
   have hkj:k≠j:=fun e=>hjk e.symm
   have h2':=(hothH k hkj).1 h2
   rw [hoth k hkj]
   rcases hnew h1 with ⟨ho,he⟩| ⟨hlt,_⟩
   .rw [he];exact h.ci.uniq j k hj hk hjk ho h2'
   .have:=h.last k hk h2';omega
  .by_cases hki:k=i
   .subst hki
    have h1':=(hothH j hji).1 h1
    rw [hoth j hji]
    rcases hnew h2 with ⟨ho,he⟩| ⟨hlt,_⟩
    .rw [he];exact h.ci.uniq j k hj hk hjk h1' ho
    .have:=h.last j hj h1';omega
   .rw [hoth j hji,hoth k hki]
    exact h.ci.uniq j k hj hk hjk ((hothH j hji).1 h1) ((hothH k hki).1 h2)
 .rw [hbl,hnb]
  show (P.blocks.set i _).length=_
  rw [List.length_set];exact h.len
 .rw [hnb] at hj
  have:P'.blk j=(P.relook c' i).blk j:=by unfold Pool.blk;rw [hbl]
  rw [this]
  unfold Pool.relook
  rw [setBlk_blk hil,lookAt_view]
  by_cases hji:j=i
  .subst hji
   rw [if_pos rfl,if_neg (by rw [hd'];simp)]
  .rw [if_neg hji,h.known hd0 j hj]
   exact (view_blk hde.geo (hde.blk j hji)).symm
 .rw [hnb] at hj
  by_cases hji:j=i
  .subst hji
   rcases hnew h1 with ⟨ho,he⟩| ⟨_,hle⟩
   .rw [he];have:=h.last j hj ho;omega
   .exact hle
  .rw [hoth j hji]
   have:=h.last j hj ((hothH j hji).1 h1)
   omega
theorem done_zero {c:Chip} {b off n:Nat} {new:List UInt8} (h:(c.done b off n new).2=0):c.strike.2=none:=by
 unfold Chip.done Chip.finish at h
 cases hh:c.strike.2 with
 | none=>rfl
 | some t =>
  rw [hh] at h
  simp only [] at h
  split at h<;>cases h
theorem isBlank_eq {l:List UInt8} (h:isBlank l=true):l=List.replicate l.length 255:=by
 refine List.eq_replicate_iff.2 ⟨rfl,fun b hb=>?_⟩
 simp only [isBlank,List.all_eq_true,beq_iff_eq] at h
 exact h b hb
theorem page0 {c:Chip} (i:Nat):c.page i 0=(c.blk i).take c.sz:=by simp [Chip.page]
theorem erase_done {c:Chip} (h:c.Ok) (hd0:c.dead=false) {i:Nat} (hi:i<c.nb) (hb:c.isBad i=false):c.erase i=c.done i 0 (c.np * c.sz) (List.replicate (c.np * c.sz) 255):=by
 unfold Chip.erase
 have:=h.np1
 have ha:c.ask i 0=0:=ask_ok (k:=0) hd0 hi (by omega)
 rw [if_neg (by omega)]
 simp only [Int.toNat_natCast]
 rw [if_neg (by rw [hb];simp)]
theorem erase_inv {P:Pool} {c:Chip} (h:Inv P c) (hd0:c.dead=false) {i:Nat} (hi:i<c.nb) (hb:c.isBad i=false) :
  Deed c (c.erase i).1 i (c.erase i).2/\Inv (P.relook (c.erase i).1 i) (c.erase i).1/\((c.erase i).2=0->(c.erase i).1.blk i=List.replicate (c.np * c.sz) 255)/\(isHd (c.erase i).1 i->isHd c i/\hd (c.erase i).1 i=hd c i):=by
 rw [erase_done h.ci.ok hd0 hi hb]
 obtain ⟨hde,hbl,hdd⟩:=done_deed h.ci.ok hi (off:=0) (n:=c.np * c.sz) (by omega) (List.replicate (c.np * c.sz) 255)
 have hz:=@done_zero c i 0 (c.np * c.sz) (List.replicate (c.np * c.sz) 255)
 generalize hr:c.done i 0 (c.np * c.sz) (List.replicate (c.np * c.sz) 255)=r at *
 have hlen:=h.ci.ok.blk_len hi
 have hmb:madeBlk c i 0 (c.np * c.sz) (List.replicate (c.np * c.sz) 255)=mixL c.strike.2 (c.blk i) (List.replicate (c.np * c.sz) 255):=by
  unfold madeBlk
  rw [Nat.zero_add,List.drop_zero,List.take_zero,List.nil_append,List.take_of_length_le (show (c.blk i).length<=c.np * c.sz by omega),List.drop_of_length_le (show (c.blk i).length<=c.np * c.sz by omega),List.append_nil]
 rw [hmb] at hbl
 have hsub:SubL (c.blk i) (r.1.blk i):=by rw [hbl];exact mixL_erase _ _ _ (by omega)
 have hsp:SubL (c.page i 0) (r.1.page i 0):=by rw [page0,page0,hde.geo.2.2.1];exact hsub.take _
 have hsafe:=h.ci.safe i hi
 have hkeep:isHd r.1 i->isHd c i/\hd r.1 i=hd c i:=by
  intro hh
  have e:=hsafe.same hsp (getHead_sound hh)
  have:hd r.1 i=hd c i:=by unfold hd;rw [e]
  exact ⟨by unfold isHd;rw [<- this];exact hh,this⟩
 refine ⟨hde,h.deed hd0 hi hde (hsafe.up hsp) rfl (Nat.le_refl _) (fun hh=>.inl (hkeep hh)),fun h0=>?_,hkeep⟩
 rw [hbl,hz h0,mixL_none _ _ (by simp;omega)]
theorem view_zero {c:Chip} {i:Nat} (h:(view c i).what=0):isBlank (c.blk i)=true:=by
 unfold view at h
 split at h
 .cases h
 .split at h
  .assumption
  .cases h
theorem view_one {c:Chip} {i:Nat} (h:(view c i).what≠2) (h1:(view c i).what≠1):(view c i).what=0:=by
 unfold view at h h1 ⊢
 split
 .rename_i hh;rw [if_pos hh] at h;exact absurd rfl h
 .rename_i hh
  rw [if_neg hh] at h1
  split
  .rfl
  .rename_i hb;rw [if_neg hb] at h1;exact absurd rfl h1
theorem write_inv {P:Pool} {c:Chip} (h:Inv P c) (hd0:c.dead=false) {i:Nat} (hi:i<c.nb) (hb:c.isBad i=false) (hbl:isBlank (c.blk i)=true) {kind:UInt8} {era:Nat} (hk1:1<=kind.toNat) (hk3:kind.toNat<=3) (he1:1<=era) (he2:era<4294967296) (hl:P.last+1<18446744073709551616) :
  (writeHead P c i kind era).1.last=P.last+1/\(writeHead P c i kind era).1.turn=P.turn/\Deed c (writeHead P c i kind era).2.1 i (writeHead P c i kind era).2.2/\Inv (writeHead P c i kind era).1 (writeHead P c i kind era).2.1/\
   ((writeHead P c i kind era).2.2=0->hd (writeHead P c i kind era).2.1 i=(⟨kind,era,P.last+1⟩,0)):=by
 have hok:=h.ci.ok
 have hlast:P.raise.last=P.last+1:=Nat.mod_eq_of_lt hl
 have hsz:isSize (c.sz:Int)=true:=by
  have:=hok.sz1
  have:=hok.sz2
  simp [isSize];omega
 have hm:(Head.mk kind era (P.last+1)).may=true:=by
  simp [Head.may];omega
 have hHok:(Head.mk kind era (P.last+1)).Ok:=⟨he2,hl⟩
 have hput:putHead c.sz ⟨kind,era,P.raise.last⟩= (pageOf c.sz 1 (Head.mk kind era (P.last+1)).body,0):=by
  unfold putHead
  rw [hlast,if_neg (by rw [hm,hsz];simp)]
  simp
 have hbody:=(Head.mk kind era (P.last+1)).body_length
 have hpl:(pageOf c.sz 1 (Head.mk kind era (P.last+1)).body).length=c.sz:=pageOf_length _ _ _ (by have:=hok.sz1;omega)
 have hpg:=getHead_pageOf hsz hHok hm
 generalize hpage:pageOf c.sz 1 (Head.mk kind era (P.last+1)).body=pg at *
 have hprog:c.program i 0 pg=c.done i 0 c.sz pg:=by
  have:=hok.np1
  have ha:c.ask i 0=0:=ask_ok (k:=0) hd0 hi (by omega)
  unfold Chip.program
  rw [if_neg (by omega),if_neg (by omega)]
  simp only [Int.toNat_natCast,tn0,Nat.zero_mul,List.drop_zero]
  rw [if_neg (by rw [hb];simp),if_neg (by rw [hbl];simp)]
 have hw:writeHead P c i kind era=(P.raise.relook (c.done i 0 c.sz pg).1 i,(c.done i 0 c.sz pg).1,(c.done i 0 c.sz pg).2):=by
  unfold writeHead
  rw [hput,hprog]
 rw [hw]
 have hfit:c.sz<=c.np * c.sz:=Nat.le_mul_of_pos_left _ (by have:=hok.np1;omega)
 obtain ⟨hde,hblk,hdd⟩:=done_deed hok hi (off:=0) (n:=c.sz) (by omega) pg
 have hz:=@done_zero c i 0 c.sz pg
 generalize hr:c.done i 0 c.sz pg=r at *
 have hlen:=hok.blk_len hi
 have hrep:=isBlank_eq hbl
 have htk:(c.blk i).take c.sz=List.replicate c.sz 255:=by rw [hrep,hlen,List.take_replicate,Nat.min_eq_left hfit]
 have hpage0:r.1.page i 0=mixL c.strike.2 (List.replicate c.sz 255) pg:=by
  rw [page0,hde.geo.2.2.1,hblk]
  unfold madeBlk
  rw [Nat.zero_add,List.drop_zero,htk,List.take_zero,List.nil_append,List.take_append_of_le_length (by simp [mixL_length]),List.take_of_length_le (by simp [mixL_length])]
 have hsub:SubL pg (r.1.page i 0):=by rw [hpage0];exact mixL_write _ _ _ hpl
 have hsound:Sound pg:=by rw [<- hpage];exact pageOf_sound (by have:=hok.sz1;omega) (by have:=hok.sz2;omega)
 have hnew:isHd r.1 i->hd r.1 i=(⟨kind,era,P.last+1⟩,0):=by
  intro hh
  have e:=berger hsub hsound (getHead_sound hh)
  unfold hd
  rw [e];exact hpg
 refine ⟨hlast,rfl,hde,h.deed hd0 hi hde ⟨pg,hsound,hsub⟩ rfl (by show P.last<=P.raise.last;omega) (fun hh=>.inr ?_),fun h0=>?_⟩
 .rw [hnew hh]
  show P.last<P.last+1/\P.last+1<=P.raise.last
  omega
 .have e:r.1.page i 0=pg:=by rw [hpage0,hz h0,mixL_none _ _ (by simp [hpl])]
  unfold hd
  rw [e];exact hpg
theorem Deed.trans {c c1 c2:Chip} {i e:Nat} (h:Deed c c1 i 0) (k:Deed c1 c2 i e):Deed c c2 i e:=by
 obtain ⟨hd1,hb1⟩: c1.dead=c.dead/\c1.bad=c.bad:=by
  rcases h.cases with ⟨_,a,b⟩| ⟨a,_⟩| ⟨a,_⟩
  .exact ⟨a,b⟩
  .cases a
  .cases a
 refine ⟨h.geo.trans k.geo,k.ok,fun j hj=>(k.blk j hj).trans (h.blk j hj),fun j hj=>(k.bad j hj).trans (h.bad j hj),?_,fun hc=>?_,fun hq=>k.quiet (h.quiet hq).2⟩
 .rcases k.cases with ⟨a,b,d⟩| ⟨a,b,d⟩| ⟨a,b,d⟩
  .exact .inl ⟨a,by rw [b,hd1],by rw [d,hb1]⟩
  .exact .inr (.inl ⟨a,by rw [b,hd1],d⟩)
  .exact .inr (.inr ⟨a,b,by rw [d,hb1]⟩)
 .have h1:=h.calm hc
  have k1:=k.calm h1.2.1
  exact ⟨k1.1,k1.2.1,by rw [k1.2.2,hb1]⟩
structure TryR (P:Pool) (c:Chip) (i:Nat) (kind:UInt8) (era:Nat) (P':Pool) (c':Chip) (e:Nat):Prop where
 deed:Deed c c' i e
 inv:Inv P' c'
 lo:P.last<=P'.last
 hi:P'.last<=P.last+1
 turn:P'.turn=P.turn
 ok:e=0->hd c' i=(⟨kind,era,P'.last⟩,0)/\P'.last=P.last+1
theorem try_inv {P:Pool} {c:Chip} (h:Inv P c) (hd0:c.dead=false) {i:Nat} (hi:i<c.nb) (hb:c.isBad i=false) (hw:(P.blk i).what≠2) {kind:UInt8} {era:Nat} (hk1:1<=kind.toNat) (hk3:kind.toNat<=3) (he1:1<=era) (he2:era<4294967296) (hl:P.last+1<18446744073709551616) :
  TryR P c i kind era (tryBlk P c i kind era).1 (tryBlk P c i kind era).2.1 (tryBlk P c i kind era).2.2:=by
 have hkn:=h.known hd0 i hi
 unfold tryBlk
 split
 .rename_i h1
  obtain ⟨hde,hinv,hz,hk⟩:=erase_inv h hd0 hi hb
  split
  .rename_i hne
   exact ⟨hde,hinv,Nat.le_refl _,Nat.le_succ _,rfl,fun h0=>absurd h0 hne⟩
  .rename_i heq
   have h0:(c.erase i).2=0:=Classical.byContradiction heq
   have hdd:(c.erase i).1.dead=c.dead/\(c.erase i).1.bad=c.bad:=by
    rcases hde.cases with ⟨_,a,b⟩| ⟨a,_⟩| ⟨a,_⟩
    .exact ⟨a,b⟩
    .omega
    .omega
   rw [h0] at hde
   have hnb:=hde.geo.1
   obtain ⟨w1,w2,w3,w4,w5⟩:=write_inv (i:=i) hinv (by rw [hdd.1];exact hd0) (by rw [hnb];exact hi) (by unfold Chip.isBad;rw [hdd.2];exact hb) (by rw [hz h0];exact isBlank_replicate _) hk1 hk3 he1 he2 hl
   refine ⟨hde.trans w3,w4,by rw [w1];exact Nat.le_succ _,by rw [w1];exact Nat.le_refl _,w2,fun e=>⟨?_,w1⟩⟩
   rw [w5 e,w1]
 .rename_i h1
  have hbk:isBlank (c.blk i)=true:=by
   rw [hkn] at h1 hw
   exact view_zero (view_one hw h1)
  obtain ⟨w1,w2,w3,w4,w5⟩:=write_inv h hd0 hi hb hbk hk1 hk3 he1 he2 hl
  exact ⟨w3,w4,by rw [w1];exact Nat.le_succ _,by rw [w1];exact Nat.le_refl _,w2,fun e=>⟨by rw [w5 e,w1],w1⟩⟩
theorem isHd_blk {c c':Chip} (hg:c.SameGeo c') {i:Nat} (h:c'.blk i=c.blk i):isHd c' i ↔ isHd c i:=by
 unfold isHd
 rw [hd_blk hg h]
theorem Inv.what {P:Pool} {c:Chip} (h:Inv P c) (hd0:c.dead=false) {i:Nat} (hi:i<c.nb):(P.blk i).what=2 ↔ isHd c i:=by
 rw [h.known hd0 i hi];exact view_what c i
structure TakeP (kind:UInt8) (era:Nat) (ks:List Nat) (P:Pool) (c:Chip) (R:TakeR):Prop where
 inv:Inv R.pool R.chip
 geo:c.SameGeo R.chip
 lo:P.last<=R.pool.last
 hi:R.pool.last<=P.last+ks.length
 turn:P.turn<=c.nb->R.pool.turn<=c.nb
 kept:∀ j,j<c.nb->isHd c j->R.chip.blk j=c.blk j/\R.chip.isBad j=c.isBad j
 bads:∀ j,j<c.nb->c.isBad j=true->R.chip.isBad j=true
 cases:(R.err=0/\R.chip.dead=false/\R.block<c.nb/\¬ isHd c R.block/\R.chip.isBad R.block=false/\hd R.chip R.block=(⟨kind,era,R.pool.last⟩,0)/\P.last<R.pool.last)\/
  (R.err=10/\R.chip.dead=true)\/(R.err=11/\R.chip.dead=false/\∀ k∈ks,R.chip.isBad ((P.turn+k) % c.nb)=true\/isHd R.chip ((P.turn+k) % c.nb))
 calm:(∀ t∈c.hits,t.fails=false)->(∀ t∈R.chip.hits,t.fails=false)/\R.chip.bad=c.bad/\∃ i0,∀ j,j≠i0->R.chip.blk j=c.blk j
 quiet:c.hits=[]->R.chip.hits=[]/\R.err≠10/\(R.err=11->R.chip=c/\R.pool=P)/\(R.err=0->∀ j,j≠R.block->R.chip.blk j=c.blk j/\R.chip.isBad j=c.isBad j)
theorem takeGo_inv {kind:UInt8} {era:Nat} (hk1:1<=kind.toNat) (hk3:kind.toNat<=3) (he1:1<=era) (he2:era<4294967296):∀ (ks:List Nat) {P:Pool} {c:Chip},Inv P c->c.dead=false->P.last+ks.length<18446744073709551616->TakeP kind era ks P c (takeGo kind era P c ks)
 | [],P,c,h,hd0,hl=>by
  rw [takeGo]
  exact ⟨h,.refl _,Nat.le_refl _,by simp,fun h=>h,fun _ _ _=>⟨rfl,rfl⟩,fun _ _ h=>h,.inr (.inr ⟨rfl,hd0,fun k hk=>by simp at hk⟩),fun hc=>⟨hc,rfl,0,fun _ _=>rfl⟩,fun hq=>⟨hq,by simp,fun _=>⟨rfl,rfl⟩,fun h0=>by cases h0⟩⟩
 | k :: ks,P,c,h,hd0,hl=>by
  have hnb:=h.ci.ok.nb1
  have hmod:(P.turn+k) % c.nb<c.nb:=Nat.mod_lt _ (by omega)
  simp only [List.length_cons] at hl
  rw [takeGo]
  by_cases hcnd:c.isBad ((P.turn+k) % c.nb)=true\/(P.blk ((P.turn+k) % c.nb)).what=2
  .rw [if_pos hcnd]
   have r:=takeGo_inv hk1 hk3 he1 he2 ks h hd0 (by omega)
   refine ⟨r.inv,r.geo,r.lo,by have:=r.hi;simp;omega,r.turn,r.kept,r.bads,?_,r.calm,r.quiet⟩
   rcases r.cases with h0 | h10 | ⟨h1,h2,h3⟩
   .exact .inl h0
   .exact .inr (.inl h10)
   .refine .inr (.inr ⟨h1,h2,fun x hx=>?_⟩)
    rcases List.mem_cons.1 hx with rfl | hx
    .rcases hcnd with hb | hw
     .exact .inl (r.bads _ hmod hb)
     .have hh:=(h.what hd0 hmod).1 hw
      exact .inr ((isHd_blk r.geo (r.kept _ hmod hh).1).2 hh)
    .exact h3 x hx
  .rw [if_neg hcnd]
   have hb:c.isBad ((P.turn+k) % c.nb)=false:=by
    cases hb:c.isBad ((P.turn+k) % c.nb) with
    | false=>rfl
    | true=>exact absurd (.inl hb) hcnd
   have hw:(P.blk ((P.turn+k) % c.nb)).what≠2:=fun hw=>hcnd (.inr hw)
   have hnh:¬ isHd c ((P.turn+k) % c.nb):=fun hh=>hw ((h.what hd0 hmod).2 hh)
   have t:=try_inv h hd0 hmod hb hw hk1 hk3 he1 he2 (by omega)
   generalize hi:(P.turn+k) % c.nb=i at *
   generalize hT:tryBlk P c i kind era=T at *
   have hkept:∀ j,isHd c j->T.2.1.blk j=c.blk j/\T.2.1.isBad j=c.isBad j:=fun j hj=>by
    have hji:j≠i:=fun e=>hnh (e ▸ hj)
    exact ⟨t.deed.blk j hji,t.deed.bad j hji⟩
   have hbads:∀ j,c.isBad j=true->T.2.1.isBad j=true:=fun j hj=>by
    have hji:j≠i:=fun e=>by rw [e,hb] at hj;cases hj
    rw [t.deed.bad j hji];exact hj
   by_cases h0:T.2.2=0
   .rw [if_pos h0]
    obtain ⟨hhd,hls⟩:=t.ok h0
    obtain ⟨hdd,hbad⟩: T.2.1.dead=c.dead/\T.2.1.bad=c.bad:=by
     rcases t.deed.cases with ⟨_,a,b⟩| ⟨a,_⟩| ⟨a,_⟩
     .exact ⟨a,b⟩
     .omega
     .omega
    refine ⟨⟨t.inv.ci,t.inv.len,t.inv.known,t.inv.last⟩,t.deed.geo,t.lo,by have:=t.hi;simp;omega,fun _=>by show i+1<=c.nb;omega,fun j _ hj=>hkept j hj,fun j _ hj=>hbads j hj,.inl ⟨rfl,by rw [<- hd0];exact hdd,hmod,hnh,?_,hhd,by show P.last<T.1.last;omega⟩,fun hc=>⟨(t.deed.calm hc).2.1,(t.deed.calm hc).2.2,i,fun j hj=>t.deed.blk j hj⟩,
     fun hq=>⟨(t.deed.quiet hq).2,by simp,(fun h=>by cases h),fun _ j hj=>⟨t.deed.blk j hj,t.deed.bad j hj⟩⟩⟩
    show T.2.1.isBad i=false
    unfold Chip.isBad;rw [hbad];exact hb
   .rw [if_neg h0]
    by_cases h10:T.2.2=10
    .rw [if_pos h10]
     have hdd:T.2.1.dead=true:=by
      rcases t.deed.cases with ⟨a,_⟩| ⟨a,_⟩| ⟨_,a,_⟩
      .omega
      .omega
      .exact a
     refine ⟨t.inv,t.deed.geo,t.lo,by have:=t.hi;simp;omega,fun h=>by show T.1.turn<=c.nb;rw [t.turn];exact h,fun j _ hj=>hkept j hj,fun j _ hj=>hbads j hj,.inr (.inl ⟨rfl,hdd⟩),fun hc=>⟨(t.deed.calm hc).2.1,(t.deed.calm hc).2.2,i,fun j hj=>t.deed.blk j hj⟩,fun hq=>absurd (t.deed.quiet hq).1 h0⟩
    .rw [if_neg h10]
     obtain ⟨h9,hdd,hbi⟩: T.2.2=9/\T.2.1.dead=c.dead/\T.2.1.isBad i=true:=by
      rcases t.deed.cases with ⟨a,_⟩| a | ⟨a,_⟩
      .exact absurd a h0
      .exact a
      .exact absurd a h10
     have r:=takeGo_inv hk1 hk3 he1 he2 ks t.inv (by rw [hdd];exact hd0) (by have:=t.hi;omega)
     have hnbT:T.2.1.nb=c.nb:=t.deed.geo.1
     have hhT:∀ j,isHd c j->isHd T.2.1 j:=fun j hj=>(isHd_blk t.deed.geo (hkept j hj).1).2 hj
     refine ⟨r.inv,t.deed.geo.trans r.geo,Nat.le_trans t.lo r.lo,by have:=r.hi;have:=t.hi;simp;omega,fun h=>by have:=r.turn (by rw [t.turn,hnbT];exact h);rw [hnbT] at this;exact this,fun j hj hh=>?_,fun j hj hh=>r.bads j (by rw [hnbT];exact hj) (hbads j hh),?_,fun hc=>absurd h9 (t.deed.calm hc).1,fun hq=>absurd (t.deed.quiet hq).1 h0⟩
     .obtain ⟨a,b⟩:=r.kept j (by rw [hnbT];exact hj) (hhT j hh)
      exact ⟨a.trans (hkept j hh).1,b.trans (hkept j hh).2⟩
     .rcases r.cases with ⟨a1,a2,a3,a4,a5,a6,a7⟩| a | ⟨a1,a2,a3⟩
      .refine .inl ⟨a1,a2,by rw [<- hnbT];exact a3,fun hh=>a4 (hhT _ hh),a5,a6,by have:=t.lo;omega⟩
      .exact .inr (.inl a)
      .refine .inr (.inr ⟨a1,a2,fun x hx=>?_⟩)
       rcases List.mem_cons.1 hx with rfl | hx
       .rw [hi];exact .inl (r.bads i (by rw [hnbT];exact hmod) hbi)
       .have:=a3 x hx
        rw [t.turn,hnbT] at this
        exact this
theorem takePool_go {P:Pool} {c:Chip} (h:c.Ok) (hd0:c.dead=false) {kind:UInt8} {era:Nat} (hk1:1<=kind.toNat) (hk3:kind.toNat<=3) (he1:1<=era):takePool P c kind era=takeGo kind era P c (List.range c.nb):=by
 unfold takePool
 rw [if_neg (by omega),if_neg (by rw [ask00 h,hd0];simp)]
theorem blank_notHd {c:Chip} (h:c.Ok) {i:Nat} (hi:i<c.nb) (hb:isBlank (c.blk i)=true):¬ isHd c i:=by
 have hlen:=h.blk_len hi
 have hpg:isBlank (c.page i 0)=true:=by
  rw [page0]
  simp only [isBlank,List.all_eq_true] at hb ⊢
  exact fun x hx=>hb x (List.mem_of_mem_take hx)
 have hpl:(c.page i 0).length=c.sz:=page_len h hi (by have:=h.np1;omega)
 have hsz:isSize ((c.page i 0).length:Int)=true:=by
  have:=h.sz1
  have:=h.sz2
  rw [hpl];simp [isSize];omega
 intro hh
 have hg:(getPage (c.page i 0)).2.2=6:=by
  unfold getPage
  rw [if_neg (by rw [hsz];simp),if_pos hpg]
 unfold isHd hd getHead at hh
 rw [if_pos (by omega)] at hh
 omega
theorem sorted_ext {α:Type} {f:α->Nat}:∀ {l m:List α},l.Pairwise (fun a b=>f a<f b)->m.Pairwise (fun a b=>f a<f b)->(∀ x,x∈l ↔ x∈m)->l=m
 | [],[],_,_,_=>rfl
 | [],b :: m,_,_,h=>by have:=(h b).2 (by simp);simp at this
 | a :: l,[],_,_,h=>by have:=(h a).1 (by simp);simp at this
 | a :: l,b :: m,hl,hm,h=>by
  obtain ⟨l1,l2⟩:=List.pairwise_cons.1 hl
  obtain ⟨m1,m2⟩:=List.pairwise_cons.1 hm
  have hab:a=b:=by
   rcases List.mem_cons.1 ((h a).1 (by simp)) with e | ha
   .exact e
   .rcases List.mem_cons.1 ((h b).2 (by simp)) with e | hb
    .exact e.symm
    .have:=l1 b hb;have:=m1 a ha;omega
  subst hab
  rw [sorted_ext l2 m2 fun x=>?_]
  constructor
  .intro hx
   rcases List.mem_cons.1 ((h x).1 (by simp [hx])) with e | hx'
   .have:=l1 x hx;rw [e] at this;omega
   .exact hx'
  .intro hx
   rcases List.mem_cons.1 ((h x).2 (by simp [hx])) with e | hx'
   .have:=m1 x hx;rw [e] at this;omega
   .exact hx'
theorem sink_sorted {x:Taken}:∀ {l:List Taken},l.Pairwise (fun a b=>b.head.seq<a.head.seq)->(∀ y∈l,y.head.seq≠x.head.seq)->(sink takenLt x l).Pairwise (fun a b=>b.head.seq<a.head.seq)
 | [],_,_=>by simp [sink]
 | y :: l,hl,hx=>by
  obtain ⟨l1,l2⟩:=List.pairwise_cons.1 hl
  have hyx:=hx y (by simp)
  unfold sink
  split
  .rename_i hlt
   have hxy:x.head.seq<y.head.seq:=by
    simp [takenLt] at hlt
    omega
   refine List.pairwise_cons.2 ⟨fun z hz=>?_,sink_sorted l2 fun z hz=>hx z (by simp [hz])⟩
   rcases (sink_mem takenLt x z l).1 hz with rfl | hz
   .exact hxy
   .exact l1 z hz
  .rename_i hlt
   have hxy:y.head.seq<x.head.seq:=by
    have:takenLt x y=false:=by simpa using hlt
    simp [takenLt] at this
    omega
   refine List.pairwise_cons.2 ⟨fun z hz=>?_,hl⟩
   rcases List.mem_cons.1 hz with rfl | hz
   .exact hxy
   .have:=l1 z hz;omega
theorem isort_sorted {l:List Taken} (h:l.Pairwise (fun a b=>a.head.seq≠b.head.seq)):(isort takenLt l).Pairwise (fun a b=>a.head.seq<b.head.seq):=by
 unfold isort
 rw [List.pairwise_reverse]
 have key:∀ (l acc:List Taken),acc.Pairwise (fun a b=>b.head.seq<a.head.seq)->l.Pairwise (fun a b=>a.head.seq≠b.head.seq)->(∀ a∈acc,∀ b∈l,a.head.seq≠b.head.seq)->(l.foldl (fun acc x=>sink takenLt x acc) acc).Pairwise (fun a b=>b.head.seq<a.head.seq):=by
  intro l
  induction l with
  | nil=>intro acc ha _ _;exact ha
  | cons x l ih =>
   intro acc ha hl hx
   obtain ⟨l1,l2⟩:=List.pairwise_cons.1 hl
   rw [List.foldl_cons]
   refine ih _ (sink_sorted ha fun y hy=>hx y hy x (by simp)) l2 fun a ha' b hb=>?_
   rcases (sink_mem takenLt x a acc).1 ha' with rfl | ha'
   .exact l1 b hb
   .exact hx a ha' b (by simp [hb])
 exact key l [] List.Pairwise.nil h fun a ha=>by simp at ha
theorem insAt_cons (t y:Taken) (l:List Taken):insAt t (y :: l)=if y.head.seq<=t.head.seq then y :: insAt t l else t :: y :: l:=by
 unfold insAt posOf
 rw [List.takeWhile_cons]
 split<;>rename_i h
 .have:y.head.seq<=t.head.seq:=by simpa using h
  rw [if_pos this];simp
 .have:¬ y.head.seq<=t.head.seq:=by simpa using h
  rw [if_neg this];simp
theorem insAt_mem (t x:Taken):∀ (l:List Taken),x∈insAt t l ↔ x=t\/x∈l
 | []=>by simp [insAt,posOf]
 | y :: l=>by
  rw [insAt_cons]
  split
  .simp only [List.mem_cons,insAt_mem t x l]
   constructor
   .rintro (h | h | h)
    .exact .inr (.inl h)
    .exact .inl h
    .exact .inr (.inr h)
   .rintro (h | h | h)
    .exact .inr (.inl h)
    .exact .inl h
    .exact .inr (.inr h)
  .simp
theorem insAt_sorted {t:Taken}:∀ {l:List Taken},l.Pairwise (fun a b=>a.head.seq<b.head.seq)->(∀ y∈l,y.head.seq≠t.head.seq)->(insAt t l).Pairwise (fun a b=>a.head.seq<b.head.seq)
 | [],_,_=>by simp [insAt,posOf]
 | y :: l,hl,hx=>by
  obtain ⟨l1,l2⟩:=List.pairwise_cons.1 hl
  have hyt:=hx y (by simp)
  rw [insAt_cons]
  split
  .refine List.pairwise_cons.2 ⟨fun z hz=>?_,insAt_sorted l2 fun z hz=>hx z (by simp [hz])⟩
   rcases (insAt_mem t z l).1 hz with rfl | hz
   .omega
   .exact l1 z hz
  .refine List.pairwise_cons.2 ⟨fun z hz=>?_,hl⟩
   rcases List.mem_cons.1 hz with rfl | hz
   .omega
   .have:=l1 z hz;omega
theorem view_pos {c:Chip} {i:Nat} (h:isHd c i):view c i=⟨2,(hd c i).1⟩:=if_pos h
theorem view_neg {c:Chip} {i:Nat} (h:¬ isHd c i):(view c i).head=Head.none:=by
 unfold view
 rw [if_neg (show ¬ (hd c i).2=0 from h)]
 split<;>rfl
def IsTaken (c:Chip) (n:Nat) (t:Taken):Prop:=t.block<n/\isHd c t.block/\t.head=(hd c t.block).1/\t.bad=c.isBad t.block
theorem raw_mem {P:Pool} {c:Chip} (h:Inv P c) (hd0:c.dead=false) {n:Nat} (hn:n<=c.nb) (t:Taken):t∈takenRaw P c n ↔ IsTaken c n t:=by
 unfold takenRaw IsTaken
 rw [List.mem_filterMap]
 constructor
 .rintro ⟨i,hi,e⟩
  have hi':i<n:=by simpa using hi
  split at e
  .rename_i hw
   cases e
   have hh:=(h.what hd0 (by omega)).1 hw
   refine ⟨hi',hh,?_,rfl⟩
   rw [h.known hd0 i (by omega),view_pos hh]
  .cases e
 .rintro ⟨h1,h2,h3,h4⟩
  refine ⟨t.block,by simpa using h1,?_⟩
  rw [if_pos ((h.what hd0 (by omega)).2 h2)]
  obtain ⟨b,hh,bad⟩:=t
  simp only [] at h1 h2 h3 h4 ⊢
  rw [h.known hd0 b (by omega),view_pos h2,h3,h4]
theorem raw_distinct {P:Pool} {c:Chip} (h:Inv P c) (hd0:c.dead=false):∀ n,n<=c.nb->(takenRaw P c n).Pairwise (fun a b=>a.head.seq≠b.head.seq)
 | 0,_=>by simp [takenRaw]
 | n+1,hn=>by
  rw [takenRaw_succ]
  rw [List.pairwise_append]
  refine ⟨raw_distinct h hd0 n (by omega),?_,fun a ha b hb=>?_⟩
  .split<;>simp
  .obtain ⟨a1,a2,a3,_⟩:=(raw_mem h hd0 (by omega) a).1 ha
   have hb':b∈takenRaw P c (n+1):=by rw [takenRaw_succ];exact List.mem_append.2 (.inr hb)
   obtain ⟨b1,b2,b3,_⟩:=(raw_mem h hd0 hn b).1 hb'
   have hbn:b.block=n:=by
    split at hb
    .simp at hb;rw [hb]
    .simp at hb
   rw [a3,b3]
   exact h.ci.uniq _ _ (by omega) (by omega) (by omega) a2 b2
theorem taken_mem {P:Pool} {c:Chip} (h:Inv P c) (hd0:c.dead=false) (t:Taken):t∈takenPool P c ↔ IsTaken c c.nb t:=by
 unfold takenPool
 rw [isort_mem]
 exact raw_mem h hd0 (Nat.le_refl _) t
theorem taken_sorted {P:Pool} {c:Chip} (h:Inv P c) (hd0:c.dead=false):(takenPool P c).Pairwise (fun a b=>a.head.seq<b.head.seq):=isort_sorted (raw_distinct h hd0 _ (Nat.le_refl _))
theorem refHead_eq {c:Chip} (h:c.Ok) (hd0:c.dead=false) {i:Nat} (hi:i<c.nb):refHead c i=((hd c i).1,decide ((hd c i).2=0)):=by
 have:=h.np1
 have ha:c.ask i 0=0:=ask_ok (k:=0) hd0 hi (by omega)
 unfold refHead
 rw [if_neg (by omega)]
 rfl
theorem ref_mem {c:Chip} (h:CI c) (hd0:c.dead=false):∀ n,n<=c.nb->(∀ t,t∈refGo c n ↔ IsTaken c n t)/\(refGo c n).Pairwise (fun a b=>a.head.seq<b.head.seq)
 | 0,_=>⟨fun t=>by simp [refGo,IsTaken],by simp [refGo]⟩
 | n+1,hn=>by
  obtain ⟨h1,h2⟩:=ref_mem h hd0 n (by omega)
  have hr:=refHead_eq h.ok hd0 (i:=n) (by omega)
  rw [refGo,hr]
  simp only [decide_eq_true_eq]
  split
  .rename_i hh
   refine ⟨fun t=>?_,insAt_sorted h2 fun y hy=>?_⟩
   .rw [insAt_mem,h1]
    constructor
    .rintro (rfl | ⟨a,b⟩)
     .exact ⟨Nat.lt_succ_self _,hh,rfl,rfl⟩
     .exact ⟨by omega,b⟩
    .rintro ⟨a,b,d,e⟩
     by_cases hb:t.block=n
     .left
      obtain ⟨tb,th,tbad⟩:=t
      simp only [] at hb d e
      subst hb
      rw [d,e]
     .exact .inr ⟨by omega,b,d,e⟩
   .obtain ⟨a,b,d,_⟩:=(h1 y).1 hy
    rw [d]
    exact h.uniq _ _ (by omega) (by omega) (by omega) b hh
  .rename_i hh
   refine ⟨fun t=>?_,h2⟩
   rw [h1]
   constructor
   .rintro ⟨a,b⟩;exact ⟨by omega,b⟩
   .rintro ⟨a,b,d⟩
    have:t.block≠n:=fun e=>hh (e ▸ b)
    exact ⟨by omega,b,d⟩
theorem taken_ref {P:Pool} {c:Chip} (h:Inv P c) (hd0:c.dead=false):takenPool P c=refTaken c:=by
 obtain ⟨h1,h2⟩:=ref_mem h.ci hd0 c.nb (Nat.le_refl _)
 exact sorted_ext (f:=fun t:Taken=>t.head.seq) (taken_sorted h hd0) h2 fun t=>by rw [taken_mem h hd0];exact (h1 t).symm
theorem scanGo_inv {c:Chip} (h:CI c) (hd0:c.dead=false):∀ n,n<=c.nb->(scanGo c n).blocks.length=c.nb/\(∀ i,i<n->(scanGo c n).blk i=view c i)/\(∀ i,i<n->isHd c i->(hd c i).1.seq<=(scanGo c n).last)/\
  ((scanGo c n).last=0\/∃ i,i<n/\isHd c i/\(scanGo c n).last=(hd c i).1.seq)
 | 0,_=>⟨by simp [scanGo],fun i hi=>by omega,fun i hi=>by omega,.inl rfl⟩
 | n+1,hn=>by
  obtain ⟨h1,h2,h3,h4⟩:=scanGo_inv h hd0 n (by omega)
  have hb:∀ i,i<n+1->((scanGo c n).relook c n).blk i=view c i:=by
   intro i hi
   unfold Pool.relook
   rw [setBlk_blk (by omega),lookAt_view,hd0]
   by_cases e:i=n
   .rw [if_pos e,e];rfl
   .rw [if_neg e];exact h2 i (by omega)
  have hl:((scanGo c n).relook c n).blocks.length=c.nb:=by
   show ((scanGo c n).blocks.set n _).length=_
   rw [List.length_set];exact h1
  have hbn:=hb n (by omega)
  rw [scanGo,hbn]
  have hseq:isHd c n->(view c n).head.seq=(hd c n).1.seq:=fun hh=>by rw [view_pos hh]
  have hseq0:¬ isHd c n->(view c n).head.seq=0:=fun hh=>by rw [view_neg hh];rfl
  split
  .rename_i hc
   have hh:isHd c n:=Classical.byContradiction fun hn'=>by rw [hseq0 hn'] at hc;omega
   refine ⟨hl,hb,fun i hi hi'=>?_,.inr ⟨n,by omega,hh,hseq hh⟩⟩
   show _<=(view c n).head.seq
   rw [hseq hh]
   by_cases e:i=n
   .rw [e];exact Nat.le_refl _
   .have:=h3 i (by omega) hi'
    rw [hseq hh] at hc
    omega
  .rename_i hc
   refine ⟨hl,hb,fun i hi hi'=>?_,?_⟩
   .show _<=(scanGo c n).last
    by_cases e:i=n
    .rw [e] at hi' ⊢
     rw [hseq hi'] at hc
     omega
    .exact h3 i (by omega) hi'
   .rcases h4 with h4 | ⟨i,a,b,d⟩
    .exact .inl h4
    .exact .inr ⟨i,by omega,b,d⟩
theorem scan_inv {c:Chip} (h:CI c) (hd0:c.dead=false):Inv (scanPool c) c/\(∀ m,(∀ i,i<c.nb->isHd c i->(hd c i).1.seq<=m)->(scanPool c).last<=m):=by
 obtain ⟨h1,h2,h3,h4⟩:=scanGo_inv h hd0 c.nb (Nat.le_refl _)
 refine ⟨⟨h,h1,fun _=>h2,h3⟩,fun m hm=>?_⟩
 show (scanGo c c.nb).last<=m
 rcases h4 with h4 | ⟨i,a,b,d⟩
 .omega
 .rw [d];exact hm i a b
theorem blank_page_safe (n:Nat) (hn:128<=n) (hn2:n<=256):Safe (List.replicate n 255):=by
 refine ⟨pageOf n 1 [],pageOf_sound (by simp;omega) (by omega),?_⟩
 have hl:=pageOf_length n 1 [] (by simp;omega)
 refine ⟨by simp [hl],fun i hi=>?_⟩
 have:(List.replicate n (255:UInt8)).getD i 0=255:=by simp [List.getD,show i<n by omega]
 rw [this]
 intro k hk
 by_cases h8:k<8
 .exact bit_255 h8
 .rw [bit_high _ (by omega)] at hk;cases hk
theorem new_ci {nb np sz sp:Nat} (nb1:8<=nb) (nb2:nb<=64) (np1:4<=np) (np2:np<=32) (sz1:128<=sz) (sz2:sz<=256) (c:Chip) (hc:c=⟨nb,np,sz,sp,List.replicate nb (List.replicate (np * sz) 255),List.replicate nb false,[],0,false,0⟩):CI c/\∀ i,i<c.nb->¬ isHd c i:=by
 subst hc
 have hok:Chip.Ok ⟨nb,np,sz,sp,List.replicate nb (List.replicate (np * sz) 255),List.replicate nb false,[],0,false,0⟩:=by
  refine ⟨nb1,nb2,np1,np2,sz1,sz2,by simp,fun b hb=>?_,by simp⟩
  rw [List.eq_of_mem_replicate hb];simp
 have hblk:∀ i,i<nb->Chip.blk ⟨nb,np,sz,sp,List.replicate nb (List.replicate (np * sz) 255),List.replicate nb false,[],0,false,0⟩ i=List.replicate (np * sz) 255:=fun i hi=>by
  simp [Chip.blk,List.getD,hi]
 have hfit:sz<=np * sz:=Nat.le_mul_of_pos_left _ (by omega)
 have hno:∀ i,i<nb->¬ isHd ⟨nb,np,sz,sp,List.replicate nb (List.replicate (np * sz) 255),List.replicate nb false,[],0,false,0⟩ i:=fun i hi=>blank_notHd hok hi (by rw [hblk i hi];exact isBlank_replicate _)
 refine ⟨⟨hok,fun i hi=>?_,fun i j hi _ _ h _=>absurd h (hno i hi)⟩,hno⟩
 rw [page0,hblk i hi]
 show Safe ((List.replicate (np * sz) 255).take sz)
 rw [List.take_replicate,Nat.min_eq_left hfit]
 exact blank_page_safe sz sz1 sz2
theorem program_inv {P:Pool} {c:Chip} (h:Inv P c) {i k:Nat} (hi:i<c.nb) (hk:1<=k) (hkn:k<c.np) (hh:c.dead=false->isHd c i) (b:List UInt8) :
  Inv P (c.program i k b).1/\(c.hits=[]->(c.program i k b).1.hits=[]/\(c.program i k b).1.dead=c.dead):=by
 have hok:=h.ci.ok
 unfold Chip.program
 split
 .exact ⟨h,fun hq=>⟨hq,rfl⟩⟩
 rename_i hask
 have hask0:c.ask i k=0:=Classical.byContradiction hask
 obtain ⟨hd0,_⟩:=ask_zero hask0
 split
 .exact ⟨h,fun hq=>⟨hq,rfl⟩⟩
 rename_i hl
 split
 .exact ⟨h,fun hq=>⟨hq,rfl⟩⟩
 split
 .exact ⟨h,fun hq=>⟨hq,rfl⟩⟩
 simp only [Int.toNat_natCast]
 have hfit:=page_in hkn
 obtain ⟨hde,hblk,hdd⟩:=done_deed hok hi (off:=k * c.sz) (n:=c.sz) hfit b
 generalize hr:c.done i (k * c.sz) c.sz b=r at *
 have hlen:=hok.blk_len hi
 have hks:c.sz<=k * c.sz:=Nat.le_mul_of_pos_left _ hk
 have hp0:r.1.page i 0=c.page i 0:=by
  rw [page0,page0,hde.geo.2.2.1,hblk]
  unfold madeBlk
  rw [List.append_assoc,List.take_append_of_le_length (by simp;omega),List.take_take,Nat.min_eq_left hks]
 have hhd:hd r.1 i=hd c i:=by unfold hd;rw [hp0]
 have hisd:isHd r.1 i:=by unfold isHd;rw [hhd];exact hh hd0
 have hil:i<P.blocks.length:=by rw [h.len];exact hi
 have hinv:=h.deed hd0 hi hde (by rw [hp0];exact h.ci.safe i hi) (P':=P.relook r.1 i) rfl (Nat.le_refl _) (fun _=>.inl ⟨hh hd0,hhd⟩)
 refine ⟨⟨hinv.ci,by rw [h.len];exact hde.geo.1.symm,fun hdr j hj=>?_,hinv.last⟩,fun hq=>⟨(hde.quiet hq).2,?_⟩⟩
 .have:=hinv.known hdr j hj
  rw [<- this]
  unfold Pool.relook
  rw [setBlk_blk hil]
  split
  .rename_i e
   subst e
   rw [lookAt_view,hdr,h.known hd0 j hi,view_pos (hh hd0)]
   show _=view r.1 j
   rw [view_pos hisd,hhd]
  .rfl
 .rw [hdd,if_neg (by have:=(hde.quiet hq).1;omega)]
theorem sub_len {α:Type}:∀ {l m:List α},l.Nodup->(∀ x∈l,x∈m)->l.length<=m.length
 | [],m,_,_=>by simp
 | x :: l,m,hn,hs=>by
  obtain ⟨s,t,rfl⟩:=List.append_of_mem (hs x (by simp))
  obtain ⟨h1,h2⟩:=List.nodup_cons.1 hn
  have:=sub_len (l:=l) (m:=s ++ t) h2 fun y hy=>by
   have hne:y≠x:=fun e=>h1 (e ▸ hy)
   have:=hs y (by simp [hy])
   simp only [List.mem_append,List.mem_cons] at this ⊢
   rcases this with h | h | h
   .exact .inl h
   .exact absurd h hne
   .exact .inr h
  simp at this ⊢
  omega
theorem mul_lt_page {j k sz:Nat} (h:j<k):j * sz+sz<=k * sz:=by
 have:=Nat.mul_le_mul_right sz (show j+1<=k by omega)
 rwa [Nat.succ_mul] at this
theorem page_made {B M:List UInt8} {k j sz:Nat} (hM:M.length=sz) (hB:k * sz+sz<=B.length) :
  ((B.take (k * sz) ++ M ++ B.drop (k * sz+sz)).drop (j * sz)).take sz=if j=k then M else (B.drop (j * sz)).take sz:=by
 apply List.ext_getElem?
 intro x
 rw [List.getElem?_take]
 by_cases hx:x<sz
 .rw [if_pos hx,List.getElem?_drop]
  have hl:(B.take (k * sz)).length=k * sz:=by simp;omega
  rcases Nat.lt_trichotomy j k with h | h | h
  .have:=mul_lt_page (sz:=sz) h
   rw [if_neg (by omega),List.getElem?_append_left (by simp;omega),List.getElem?_append_left (by omega),List.getElem?_take,if_pos (by omega),List.getElem?_take,if_pos hx,List.getElem?_drop]
  .subst h
   rw [if_pos rfl,List.getElem?_append_left (by simp;omega),List.getElem?_append_right (by omega),hl]
   congr 1
   omega
  .have:=mul_lt_page (sz:=sz) h
   rw [if_neg (by omega),List.getElem?_append_right (by simp;omega),List.getElem?_drop,List.getElem?_take,if_pos hx,List.getElem?_drop]
   congr 1
   simp
   omega
 .rw [if_neg hx]
  split
  .rw [List.getElem?_eq_none (by omega)]
  .rw [List.getElem?_take,if_neg hx]
def OpenFrom (c:Chip) (i k:Nat):Prop:=isBlank ((c.blk i).drop (k * c.sz))=true
theorem OpenFrom.mono {c:Chip} {i k m:Nat} (h:OpenFrom c i k) (hkm:k<=m):OpenFrom c i m:=by
 unfold OpenFrom isBlank at *
 obtain ⟨d,rfl⟩:=Nat.exists_eq_add_of_le hkm
 rw [Nat.add_mul,<- List.drop_drop]
 rw [List.all_eq_true] at h ⊢
 exact fun x hx=>h x (List.mem_of_mem_drop hx)
theorem OpenFrom.page {c:Chip} (ho:c.Ok) {i k m:Nat} (hi:i<c.nb) (h:OpenFrom c i k) (hkm:k<=m) (hm:m<c.np):c.page i m=List.replicate c.sz 255:=by
 have h':=h.mono hkm
 have hlen:=ho.blk_len hi
 have hp:=page_in hm
 unfold OpenFrom at h'
 have:=isBlank_eq h'
 unfold Chip.page
 rw [this,List.take_replicate,List.length_drop,hlen]
 congr 1
 omega
theorem OpenFrom.blk {c c':Chip} (hg:c.SameGeo c') {i k:Nat} (h:OpenFrom c i k) (hb:c'.blk i=c.blk i):OpenFrom c' i k:=by
 unfold OpenFrom at *
 rw [hb,hg.2.2.1];exact h
theorem OpenFrom.of_blank {c:Chip} {i k:Nat} (h:isBlank (c.blk i)=true):OpenFrom c i k:=by
 have:OpenFrom c i 0:=by unfold OpenFrom;simpa using h
 exact this.mono (Nat.zero_le _)
structure Wrote (c c':Chip) (i k e:Nat) (pg:List UInt8):Prop where
 deed:Deed c c' i e
 dead:c'.dead=if e=10 then true else c.dead
 sub:SubL pg (c'.page i k)
 ok:e=0->c'.page i k=pg
 other:∀ j,j≠k->c'.page i j=c.page i j
 open_:OpenFrom c' i (k+1)
 hits:c'.hits.length<=c.hits.length
 less:e≠0->c'.hits.length<c.hits.length
theorem strike_hits (c:Chip):c.strike.1.hits.length<=c.hits.length/\(c.strike.2≠none->c.strike.1.hits.length<c.hits.length):=by
 unfold Chip.strike
 split
 .simp
 .rename_i h r he
  split
  .simp
  .simp [he]
theorem finish_hits (c:Chip) (b:Nat) (h:Option Hit):(c.finish b h).1.hits=c.hits/\((c.finish b h).2≠0->h≠none):=by
 unfold Chip.finish
 split
 .simp
 .split<;>simp
theorem done_hits (c:Chip) (b off n:Nat) (new:List UInt8):(c.done b off n new).1.hits.length<=c.hits.length/\((c.done b off n new).2≠0->(c.done b off n new).1.hits.length<c.hits.length):=by
 unfold Chip.done
 obtain ⟨h1,h2⟩:=strike_hits c
 obtain ⟨f1,f2⟩:=finish_hits (c.strike.1.setBlk b ((c.blk b).take off ++ mixL c.strike.2 (((c.blk b).drop off).take n) new ++ (c.blk b).drop (off+n))) b c.strike.2
 rw [f1]
 exact ⟨h1,fun h=>h2 (f2 h)⟩
theorem program_done {c:Chip} (hd0:c.dead=false) {i k:Nat} (hi:i<c.nb) (hk:k<c.np) (hb:c.isBad i=false) (hop:OpenFrom c i k) {pg:List UInt8} (hl:pg.length=c.sz):c.program i k pg=c.done i (k * c.sz) c.sz pg:=by
 have ha:c.ask i k=0:=ask_ok hd0 hi hk
 unfold OpenFrom at hop
 unfold Chip.program
 rw [if_neg (by omega),if_neg (by omega)]
 simp only [Int.toNat_natCast]
 rw [if_neg (by rw [hb];simp),if_neg (by rw [hop];simp)]
theorem program_wrote {c:Chip} (hok:c.Ok) (hd0:c.dead=false) {i k:Nat} (hi:i<c.nb) (hk:k<c.np) (hb:c.isBad i=false) (hop:OpenFrom c i k) {pg:List UInt8} (hl:pg.length=c.sz) :
  Wrote c (c.program i k pg).1 i k (c.program i k pg).2 pg:=by
 rw [program_done hd0 hi hk hb hop hl]
 obtain ⟨hde,hblk,hdd⟩:=done_deed hok hi (off:=k * c.sz) (n:=c.sz) (page_in hk) pg
 have hz:=@done_zero c i (k * c.sz) c.sz pg
 obtain ⟨hh1,hh2⟩:=done_hits c i (k * c.sz) c.sz pg
 generalize hr:c.done i (k * c.sz) c.sz pg=r at *
 have hlen:=hok.blk_len hi
 have hin:=page_in hk
 have hpo:=hop.page hok hi (Nat.le_refl _) hk
 have hold:((c.blk i).drop (k * c.sz)).take c.sz=List.replicate c.sz 255:=hpo
 have hml:(mixL c.strike.2 (List.replicate c.sz 255) pg).length=c.sz:=by simp [mixL_length]
 have hb':r.1.blk i=(c.blk i).take (k * c.sz) ++ mixL c.strike.2 (List.replicate c.sz 255) pg ++ (c.blk i).drop (k * c.sz+c.sz):=by
  rw [hblk]
  unfold madeBlk
  rw [hold]
 have hpg:∀ j,r.1.page i j=if j=k then mixL c.strike.2 (List.replicate c.sz 255) pg else c.page i j:=by
  intro j
  show ((r.1.blk i).drop (j * r.1.sz)).take r.1.sz=_
  rw [hde.geo.2.2.1,hb',page_made hml (by omega)]
  rfl
 refine ⟨hde,hdd,?_,fun h0=>?_,fun j hj=>by rw [hpg,if_neg hj],?_,hh1,hh2⟩
 .rw [hpg,if_pos rfl];exact mixL_write _ _ _ hl
 .rw [hpg,if_pos rfl,hz h0,mixL_none _ _ (by simp [hl])]
 .unfold OpenFrom
  rw [hde.geo.2.2.1,hb',Nat.succ_mul,List.drop_append_of_le_length (by simp;omega),List.drop_of_length_le (by simp;omega),List.nil_append]
  have:=hop.mono (Nat.le_succ k)
  unfold OpenFrom at this
  rwa [Nat.succ_mul] at this
theorem write_open {P:Pool} {c:Chip} (hok:c.Ok) (hd0:c.dead=false) {i:Nat} (hi:i<c.nb) (hb:c.isBad i=false) (hbl:isBlank (c.blk i)=true) (kind:UInt8) (era:Nat) (hp:(putHead c.sz ⟨kind,era,P.raise.last⟩).1.length=c.sz) :
  OpenFrom (writeHead P c i kind era).2.1 i 1/\(writeHead P c i kind era).2.1.hits.length<=c.hits.length:=by
 have hnp:=hok.np1
 have w:=program_wrote hok hd0 hi (k:=0) (by omega) hb (OpenFrom.of_blank hbl) hp
 exact ⟨w.open_,w.hits⟩
theorem putHead_len {c:Chip} (hok:c.Ok) {P:Pool} {kind:UInt8} {era:Nat} (hk1:1<=kind.toNat) (hk3:kind.toNat<=3) (he1:1<=era) (hl:P.last+1<18446744073709551616):(putHead c.sz ⟨kind,era,P.raise.last⟩).1.length=c.sz:=by
 have hlast:P.raise.last=P.last+1:=Nat.mod_eq_of_lt hl
 have hsz:isSize (c.sz:Int)=true:=by
  have:=hok.sz1
  have:=hok.sz2
  simp [isSize];omega
 have hm:(Head.mk kind era (P.last+1)).may=true:=by
  simp [Head.may];omega
 have hput:putHead c.sz ⟨kind,era,P.raise.last⟩= (pageOf c.sz 1 (Head.mk kind era (P.last+1)).body,0):=by
  unfold putHead
  rw [hlast,if_neg (by rw [hm,hsz];simp)]
  simp
 have hbody:=(Head.mk kind era (P.last+1)).body_length
 rw [hput]
 exact pageOf_length _ _ _ (by have:=hok.sz1;omega)
theorem erase_hits {c:Chip} (hok:c.Ok) (hd0:c.dead=false) {i:Nat} (hi:i<c.nb) (hb:c.isBad i=false):(c.erase i).1.hits.length<=c.hits.length:=by
 rw [erase_done hok hd0 hi hb]
 exact (done_hits _ _ _ _ _).1
theorem try_open {P:Pool} {c:Chip} (h:Inv P c) (hd0:c.dead=false) {i:Nat} (hi:i<c.nb) (hb:c.isBad i=false) (hw:(P.blk i).what≠2) {kind:UInt8} {era:Nat} (hk1:1<=kind.toNat) (hk3:kind.toNat<=3) (he1:1<=era) (hl:P.last+1<18446744073709551616) :
  (isHd (tryBlk P c i kind era).2.1 i->OpenFrom (tryBlk P c i kind era).2.1 i 1)/\(tryBlk P c i kind era).2.1.hits.length<=c.hits.length:=by
 have hkn:=h.known hd0 i hi
 have hnh:¬ isHd c i:=fun e=>hw ((h.what hd0 hi).2 e)
 unfold tryBlk
 split
 .rename_i h1
  obtain ⟨hde,hinv,hz,hk⟩:=erase_inv h hd0 hi hb
  have hhe:=erase_hits h.ci.ok hd0 hi hb
  split
  .rename_i hne
   exact ⟨fun e=>absurd (hk e).1 hnh,hhe⟩
  .rename_i heq
   have h0:(c.erase i).2=0:=Classical.byContradiction heq
   have hdd:(c.erase i).1.dead=c.dead/\(c.erase i).1.bad=c.bad:=by
    rcases hde.cases with ⟨_,a,b⟩| ⟨a,_⟩| ⟨a,_⟩
    .exact ⟨a,b⟩
    .omega
    .omega
   have hnb:=hde.geo.1
   have hsz:=hde.geo.2.2.1
   have hh:=putHead_len (c:=(c.erase i).1) (P:=P.relook (c.erase i).1 i) (kind:=kind) (era:=era) hde.ok hk1 hk3 he1 hl
   obtain ⟨w1,w2⟩:=write_open (P:=P.relook (c.erase i).1 i) hde.ok (by rw [hdd.1];exact hd0) (by rw [hnb];exact hi) (by unfold Chip.isBad;rw [hdd.2];exact hb) (by rw [hz h0];exact isBlank_replicate _) kind era hh
   exact ⟨fun _=>w1,Nat.le_trans w2 hhe⟩
 .rename_i h1
  have hbk:isBlank (c.blk i)=true:=by
   rw [hkn] at h1 hw
   exact view_zero (view_one hw h1)
  obtain ⟨w1,w2⟩:=write_open (P:=P) h.ci.ok hd0 hi hb hbk kind era (putHead_len h.ci.ok hk1 hk3 he1 hl)
  exact ⟨fun _=>w1,w2⟩
theorem takeGo_open {kind:UInt8} {era:Nat} (hk1:1<=kind.toNat) (hk3:kind.toNat<=3) (he1:1<=era) (he2:era<4294967296):∀ (ks:List Nat) {P:Pool} {c:Chip},Inv P c->c.dead=false->P.last+ks.length<18446744073709551616->
  (∀ j,j<c.nb->¬ isHd c j->isHd (takeGo kind era P c ks).chip j->OpenFrom (takeGo kind era P c ks).chip j 1)/\(takeGo kind era P c ks).chip.hits.length<=c.hits.length
 | [],P,c,h,hd0,hl=>⟨fun j _ hn hh=>absurd hh hn,Nat.le_refl _⟩
 | k :: ks,P,c,h,hd0,hl=>by
  have hnb:=h.ci.ok.nb1
  have hmod:(P.turn+k) % c.nb<c.nb:=Nat.mod_lt _ (by omega)
  simp only [List.length_cons] at hl
  unfold takeGo
  split
  .exact takeGo_open hk1 hk3 he1 he2 ks h hd0 (by omega)
  .rename_i hno
   have hb:c.isBad ((P.turn+k) % c.nb)=false:=by
    cases hbb:c.isBad ((P.turn+k) % c.nb) with
    | false=>rfl
    | true=>exact absurd (.inl hbb) hno
   have hw:(P.blk ((P.turn+k) % c.nb)).what≠2:=fun e=>hno (.inr e)
   obtain ⟨o1,o2⟩:=try_open h hd0 hmod hb hw hk1 hk3 he1 (by omega)
   have tr:=try_inv h hd0 hmod hb hw hk1 hk3 he1 he2 (by omega)
   generalize hi:(P.turn+k) % c.nb=i at *
   generalize hT:tryBlk P c i kind era=T at *
   have one:∀ j,j<c.nb->¬ isHd c j->isHd T.2.1 j->OpenFrom T.2.1 j 1:=by
    intro j hj hn hh
    by_cases e:j=i
    .subst e;exact o1 hh
    .exact absurd ((isHd_blk tr.deed.geo (tr.deed.blk j e)).1 hh) hn
   split
   .exact ⟨one,o2⟩
   split
   .exact ⟨one,o2⟩
   .rename_i h0 h10
    have hd1:T.2.1.dead=false:=by
     rcases tr.deed.cases with ⟨_,a,_⟩| ⟨_,a,_⟩| ⟨a,_⟩
     .rw [a];exact hd0
     .rw [a];exact hd0
     .exact absurd a h10
    have hhi:=tr.hi
    obtain ⟨r1,r2⟩:=takeGo_open hk1 hk3 he1 he2 ks tr.inv hd1 (by omega)
    have tp:=takeGo_inv hk1 hk3 he1 he2 ks tr.inv hd1 (by omega)
    refine ⟨fun j hj hn hh=>?_,Nat.le_trans r2 o2⟩
    have hj1:j<T.2.1.nb:=by rw [tr.deed.geo.1];exact hj
    by_cases hh1:isHd T.2.1 j
    .exact (one j hj hn hh1).blk tp.geo (tp.kept j hj1 hh1).1
    .exact r1 j hj1 hh1 hh
end Go.Den
namespace Go.Den
structure Turn where
 from_:UInt8
 to:UInt8
 phase:UInt8
 deriving DecidableEq
namespace Turn
def zero:Turn:=⟨0,0,0⟩
def body (t:Turn):List UInt8:=[t.from_,t.to,t.phase]
def vals (t:Turn):List Value:=[bv t.from_,bv t.to,bv t.phase]
def may (t:Turn):Bool:=((t.from_ == 1 && t.to == 2) || (t.from_ == 2 && t.to == 1)) && (t.phase == 1 || t.phase == 2)
end Turn
structure Saying where
 begun:Bool
 done:Bool
 turn:Turn
def Saying.zero:Saying:=⟨false,false,Turn.zero⟩
end Go.Den
namespace Go.Den
theorem cGeo {F:Nat->Prop} {A:Nat} {w:World} {p:Nat} {c:Chip} (h:CIn F A w p c) :
  CallsR prog K.nand_Chip_Geo #[.pointer (some ⟨p,0,none⟩)] w fun v w'=>v= .agg #[.int .i64 c.nb,.int .i64 c.np,.int .i64 c.sz,.int .i64 c.sp]/\Ext w w':=by
 obtain ⟨L,G,hr,_⟩:=h
 exact nand_Geo_spec hr
theorem cReadAt {F:Nat->Prop} {A:Nat} {w:World} {p:Nat} {c:Chip} (h:CIn F A w p c) (block page:Int) :
  CallsR prog K.nand_Chip_Read #[.pointer (some ⟨p,0,none⟩),.int .i64 block,.int .i64 page] w fun v w'=>Ext w w'/\
   if c.ask block page=0 then ∃ a cp,v= .tuple #[.slice a c.sz cp,.int .i64 0]/\BytesAt w' a (c.page block.toNat page.toNat)/\c.sz<=cp/\Fresh w a
   else v= .tuple #[.slice none 0 0,.int .i64 (c.ask block page:Nat)]:=by
 obtain ⟨L,G,hr,_⟩:=h
 exact nand_Read_spec hr block page
theorem cPage {F:Nat->Prop} {A:Nat} {w:World} {p:Nat} {c:Chip} (h:CIn F A w p c) (hd0:c.dead=false) {i k:Nat} (hi:i<c.nb) (hk:k<c.np) :
  CallsR prog K.nand_Chip_Read #[.pointer (some ⟨p,0,none⟩),.int .i64 i,.int .i64 k] w fun v w'=>Ext w w'/\∃ a cp,v= .tuple #[.slice a (c.page i k).length cp,.int .i64 0]/\BytesAt w' a (c.page i k)/\(c.page i k).length<=cp/\Fresh w a:=by
 refine (cReadAt h i k).mono ?_
 rintro v w' ⟨he,hv⟩
 rw [if_pos (ask_ok hd0 hi hk)] at hv
 obtain ⟨a,cp,rfl,hb,hc,hf⟩:=hv
 simp only [Int.toNat_natCast] at hb
 rw [<- page_len h.ok hi hk]
 exact ⟨he,a,cp,rfl,hb,by rw [page_len h.ok hi hk];exact hc,hf⟩
structure PageSay where
 page:Int
 changes:List Change
 drop:Nat
def pageS (n:Int) (b:List UInt8):Option PageSay :=
 if (getPage b).2.2≠0 then none
 else if (getPage b).1=2 then (if (getS (getPage b).2.1).2=0 then some ⟨n,(getS (getPage b).2.1).1,0⟩ else none)
 else if (getPage b).1=3 then (if (dropS (getPage b).2.1).2=0 then some ⟨n,[],(dropS (getPage b).2.1).1⟩ else none)
 else none
theorem getPage_len (b:List UInt8):(getPage b).2.1.length<=b.length:=by
 unfold getPage
 repeat' split
 all_goals simp
 all_goals omega
def PageOut (w w':World) (v:Value) (o:Option PageSay):Prop:=Ext w w'/\∃ (m:Int) (a:Option Addr) (l c d:Nat) (b:Bool),v= .tuple #[.agg #[.int .i64 m,.slice a l c,.int .u64 d],.bool b]/\b=o.isSome/\
 ∀ P,o=some P->m=P.page/\d=P.drop/\l=P.changes.length/\l<=c/\∃ G,SliceAt changeR w' G a P.changes/\∀ x,G x->w.heap.size<=x/\x<w'.heap.size
theorem PageOut.none {w w':World} {o:Option PageSay} (ho:o= .none) (h:Ext w w') {m:Int} {a:Option Addr} {l c d:Nat} {b:Bool} (hb:b=false):PageOut w w' (.tuple #[.agg #[.int .i64 m,.slice a l c,.int .u64 d],.bool b]) o:=by
 subst ho
 exact ⟨h,m,a,l,c,d,b,rfl,hb,fun P hP=>by cases hP⟩
def pagesTo (c:Chip) (i k:Nat):List PageSay:=(List.range k).filterMap fun k:Nat=>if k=0 then none else pageS k (c.page i k)
def pagesS (c:Chip) (i:Nat):List PageSay:=pagesTo c i c.np
theorem ask_none0 {c:Chip} {i j:Int} (h:c.ask i j=0):c.dead=false/\0<=i/\i<c.nb/\0<=j/\j<c.np:=by
 unfold Chip.ask at h
 split at h
 .cases h
 .rename_i hd
  split at h
  .cases h
  .rename_i hx
   refine ⟨by simpa using hd,?_⟩
   omega
theorem kind_is {x:UInt8} {n:Nat} (hn:n<256) (h:(x.toNat:Int)=n):x=UInt8.ofNat n:=by
 apply UInt8.toNat_inj.1
 rw [UInt8.toNat_ofNat']
 omega
structure Part where
 block:Int
 seq:Nat
 pages:List PageSay
def isLog (era:Nat) (t:Taken):Bool:=decide (t.head.kind=1) && decide (t.head.era=era)
def partOf (c:Chip) (t:Taken):Part:=⟨t.block,t.head.seq,pagesS c t.block⟩
def partsL (c:Chip) (era:Nat) (l:List Taken):List Part:=(l.filter (isLog era)).map (partOf c)
def lowP (n:Nat) (l:List PageSay):Nat:=l.foldl (fun n p=>max n p.drop) n
def lowL (l:List Part):Nat:=l.foldl (fun n x=>lowP n x.pages) 0
def BList (S:Nat) (w:World) (a:Option Addr) (cap:Nat) (l:List UInt8):Prop:=OwnAt w a l.length cap T.uint8 1 (l.map bv)/\∀ b,a=some ⟨b,0,none⟩->S<=b
theorem BList.nil (S:Nat) (w:World):BList S w none 0 []:=⟨OwnAt.nil _ _ _,fun _ h=>by cases h⟩
theorem BList.bytes {S:Nat} {w:World} {a:Option Addr} {cap:Nat} {l:List UInt8} (h:BList S w a cap l):BytesAt w a l:=h.1.row
theorem BList.cap {S:Nat} {w:World} {a:Option Addr} {cap:Nat} {l:List UInt8} (h:BList S w a cap l):l.length<=cap:=h.1.2.1
theorem BList.weak {S S':Nat} {w:World} {a:Option Addr} {cap:Nat} {l:List UInt8} (h:BList S w a cap l) (hS:S'<=S):BList S' w a cap l:=⟨h.1,fun b hb=>Nat.le_trans hS (h.2 b hb)⟩
theorem BList.ext {S:Nat} {w w':World} {a:Option Addr} {cap:Nat} {l:List UInt8} (h:BList S w a cap l) (k:Ext w w'):BList S w' a cap l:=⟨h.1.ext k,h.2⟩
theorem BList.lt {S:Nat} {w:World} {a:Option Addr} {cap:Nat} {l:List UInt8} (h:BList S w a cap l) {p:Addr} (hp:a=some p):S<=p.block/\p.block<w.heap.size:=by
 have hb:=h.1.2.2
 rcases hb with ⟨hx,_⟩| ⟨b,cur,hx,hb,_⟩
 .rw [hx] at hp;cases hp
 .have hs:=h.2 b hx
  rw [hx] at hp;cases hp
  exact ⟨hs,(Array.getElem?_eq_some_iff.1 hb).1⟩
theorem BList.new {S:Nat} {w w':World} {B:Nat} {cs:Array Value} (h:New w (.cells cs T.uint8) B w') {l:List UInt8} (hl:cs.toList=l.map bv) (hS:S<=w.heap.size):BList S w' (some ⟨B,0,none⟩) l.length l:=by
 have hsz:cs.size=l.length * 1:=by rw [<- Array.length_toList,hl];simp
 have:=OwnAt.new h (n:=l.length) (size:=1) hsz
 rw [hl] at this
 exact ⟨this,fun b hb=>by cases hb;rw [h.num];exact hS⟩
theorem BList.cat {S:Nat} {w:World} {a ax:Option Addr} {cap n m cx:Nat} {l xs:List UInt8} (h:BList S w a cap l) (hn:n=l.length) (hm:m=xs.length) (hx:BytesAt w ax xs) (hb:l.length+xs.length<=140737488355232) (hS:S<=w.heap.size) {K:Option Addr->Nat->Nat->World->Prop}
  (hk:∀ a' c' w',Upd (fun b=>S<=b) w w'->BList S w' a' c' (l ++ xs)->K a' (l ++ xs).length c' w'):appendP T.uint8 1 1 [Value.int .u8 0] a n cap (.slice ax m cx) w K:=by
 subst hn;subst hm
 refine append_bytes h.1 hx hb fun a' c' w' hu ho hf=>hk a' c' w' (hu.mono fun b _ hb=>h.2 b hb) ⟨ho,fun b hb=>?_⟩
 rcases hf with hf | ⟨b',hb',hl⟩
 .subst hf;exact h.2 b hb
 .rw [hb'] at hb;cases hb;omega
theorem BList.push {S:Nat} {w w1:World} {a:Option Addr} {cap n:Nat} {l:List UInt8} {B:Nat} {x:UInt8} (h:BList S w a cap l) (hn:n=l.length) (hnew:New w (.cells #[bv x] T.uint8) B w1) (hb:l.length+1<=140737488355232) (hS:S<=w.heap.size) {K:Option Addr->Nat->Nat->World->Prop}
  (hk:∀ a' c' w',Upd (fun b=>S<=b) w w'->BList S w' a' c' (l ++ [x])->K a' (l ++ [x]).length c' w'):appendP T.uint8 1 1 [Value.int .u8 0] a n cap (.slice (some ⟨B,0,none⟩) 1 1) w1 K :=
 BList.cat (xs:=[x]) (h.ext hnew.upd) hn rfl (RowAt.of hnew.get fun j v hj=>by simpa using hj) (by simpa using hb) (by have:=hnew.size;omega) fun a' c' w' hu hl=>hk a' c' w' ((Upd.ext hnew.upd).trans hu) hl
theorem BList.catX {G:Nat->Prop} {S:Nat} {w:World} {a ax:Option Addr} {cap n m cx:Nat} {l xs:List UInt8} (h:BList S w a cap l) (hG:∀ b,a=some ⟨b,0,none⟩->¬ G b) (hGs:∀ x,G x->x<w.heap.size) (hn:n=l.length) (hm:m=xs.length) (hx:BytesAt w ax xs) (hb:l.length+xs.length<=140737488355232) (hS:S<=w.heap.size) {K:Option Addr->Nat->Nat->World->Prop}
  (hk:∀ a' c' w',Upd (fun b=>S<=b/\¬ G b) w w'->BList S w' a' c' (l ++ xs)->(∀ b,a'=some ⟨b,0,none⟩->¬ G b)->K a' (l ++ xs).length c' w'):appendP T.uint8 1 1 [Value.int .u8 0] a n cap (.slice ax m cx) w K:=by
 subst hn;subst hm
 refine append_bytes h.1 hx hb fun a' c' w' hu ho hf=>hk a' c' w' (hu.mono fun b _ hb=>⟨h.2 b hb,hG b hb⟩) ⟨ho,fun b hb=>?_⟩ fun b hb hg=>?_
 .rcases hf with hf | ⟨b',hb',hl⟩
  .subst hf;exact h.2 b hb
  .rw [hb'] at hb;cases hb;omega
 .rcases hf with hf | ⟨b',hb',hl⟩
  .subst hf;exact hG b hb hg
  .rw [hb'] at hb;cases hb
   have:=hGs _ hg
   omega
def BytesOut (w w':World) (v:Value) (l:List UInt8) (e:Nat):Prop:=∃ a c,v= .tuple #[.slice a l.length c,.int .i64 (e:Nat)]/\BList w.heap.size w' a c l/\Ext w w'
theorem BytesOut.none {w w':World} {e:Nat} (h:Ext w w'):BytesOut w w' (.tuple #[.slice .none 0 0,.int .i64 (e:Nat)]) [] e:=⟨.none,0,rfl,BList.nil _ _,h⟩
def rowB (b:List UInt8):List UInt8×Nat:=if b.length<=255 then (UInt8.ofNat b.length :: b,0) else ([],3)
def keyB (k:Key):List UInt8:=leB k.ino.toNat 2 ++ [k.what] ++ (if k.what=2 then UInt8.ofNat k.bytes.length :: k.bytes else if k.what=3 then [UInt8.ofNat k.chunk.toNat] else [])
def putKeyB (k:Key):List UInt8×Nat:=if k.may then (keyB k,0) else ([],2)
theorem Key.may_elim {k:Key} (h:k.may=true):1<=k.ino/\k.ino<=65535/\((k.what=1/\k.bytes=[]/\k.chunk=0)\/(k.what=2/\isName k.bytes=true/\k.chunk=0)\/(k.what=3/\k.bytes=[]/\0<=k.chunk/\k.chunk<8)):=by
 unfold Key.may at h
 simp only [Bool.and_eq_true,Bool.or_eq_true,decide_eq_true_eq] at h
 obtain ⟨⟨h1,h2⟩,h3⟩:=h
 refine ⟨h1,h2,?_⟩
 rcases h3 with (⟨⟨h,h'⟩,h''⟩| ⟨⟨h,h'⟩,h''⟩) | ⟨⟨⟨h,h'⟩,h''⟩,h'''⟩
 .exact .inl ⟨UInt8.toNat_inj.1 h,h',h''⟩
 .exact .inr (.inl ⟨UInt8.toNat_inj.1 h,h',h''⟩)
 .exact .inr (.inr ⟨UInt8.toNat_inj.1 h,h',h'',h'''⟩)
theorem isName_len {s:List UInt8} (h:isName s=true):1<=s.length/\s.length<=12:=by
 unfold isName at h
 simp only [Bool.and_eq_true,decide_eq_true_eq] at h
 exact ⟨h.1.1.1.2,h.1.1.2⟩
theorem keyB_len {k:Key} (h:k.may=true):3<=(keyB k).length/\(keyB k).length<=16:=by
 obtain ⟨_,_,h3⟩:=Key.may_elim h
 unfold keyB
 simp only [List.length_append,leB_length,List.length_cons,List.length_nil]
 rcases h3 with ⟨h,_⟩| ⟨h,h',_⟩| ⟨h,_⟩
 .rw [h,if_neg (by decide),if_neg (by decide)];simp
 .have:=isName_len h'
  rw [h,if_pos rfl]
  simp only [List.length_cons]
  omega
 .rw [h,if_neg (by decide),if_pos rfl];simp
def mayF (f:Fact):Bool:=f.key.may && decide (1<=f.val.length) && decide (f.val.length<=255)
def mayC (c:Change):Bool:=c.key.may && (if c.gone then decide (c.val.length=0) else decide (1<=c.val.length) && decide (c.val.length<=255))
def mayL (l:List Change):Bool:=decide (1<=l.length) && decide (l.length<=255) && l.all mayC
def chgB (c:Change):List UInt8:=if c.gone then 0 :: keyB c.key else 1 :: (keyB c.key ++ UInt8.ofNat c.val.length :: c.val)
def bodyB (l:List Change):List UInt8:=UInt8.ofNat l.length :: l.flatMap chgB
def Small (l:List Change):Prop:=∀ x∈l,x.key.name.size<9223372036854775807
theorem chgB_len {x:Change} (h:mayC x=true):(chgB x).length<=300:=by
 unfold mayC at h
 rw [Bool.and_eq_true] at h
 have hk:=keyB_len h.1
 unfold chgB
 split
 .simp;omega
 .rename_i hg
  rw [if_neg hg,Bool.and_eq_true,decide_eq_true_eq,decide_eq_true_eq] at h
  simp;omega
theorem flat_len_le {α:Type} {f:α->List UInt8} {n:Nat}:∀ (l:List α),(∀ x∈l,(f x).length<=n)->(l.flatMap f).length<=l.length * n
 | [],_=>by simp
 | x :: l,h=>by
  rw [List.flatMap_cons,List.length_append,List.length_cons,Nat.succ_mul]
  have:=h x (by simp)
  have:=flat_len_le l fun y hy=>h y (by simp [hy])
  omega
theorem mayL_elim {l:List Change} (h:mayL l=true):1<=l.length/\l.length<=255/\∀ x∈l,mayC x=true:=by
 unfold mayL at h
 simp only [Bool.and_eq_true,decide_eq_true_eq,List.all_eq_true] at h
 exact ⟨h.1.1,h.1.2,h.2⟩
theorem bodyB_len {l:List Change} (h:mayL l=true):(bodyB l).length<=100000:=by
 obtain ⟨h1,h2,h3⟩:=mayL_elim h
 unfold bodyB
 have:=flat_len_le (f:=chgB) l (fun x hx=>chgB_len (h3 x hx))
 simp only [List.length_cons]
 omega
def putPage (size:Int) (kind:UInt8) (body:List UInt8):List UInt8×Nat :=
 if isSize size=false\/kind<1\/kind > 7 then ([],2) else if (body.length:Int) > size - 5 then ([],3) else (pageOf size.toNat kind body,0)
def putL (size:Int) (l:List Change):List UInt8×Nat:=if mayL l then putPage size 2 (bodyB l) else ([],2)
def putDropB (size:Int) (seq:Nat):List UInt8×Nat:=if seq=0 then ([],2) else putPage size 3 (leB seq 8)
structure Still (c:Chip) (nb np sz sp:Nat):Prop where
 nb:c.nb=nb
 np:c.np=np
 sz:c.sz=sz
 sp:c.sp=sp
 hits:c.hits=[]
 since:c.since=0
 dead:c.dead=false
 deeds:c.deeds=0
theorem Still.blk {c:Chip} {nb np sz sp:Nat} (h:Still c nb np sz sp) (i:Nat) (b:List UInt8):Still (c.setBlk i b) nb np sz sp:=⟨h.1,h.2,h.3,h.4,h.5,h.6,h.7,h.8⟩
theorem Still.bad {c:Chip} {nb np sz sp:Nat} (h:Still c nb np sz sp) (b:List Bool):Still { c with bad:=b } nb np sz sp:=⟨h.1,h.2,h.3,h.4,h.5,h.6,h.7,h.8⟩
def IList (S:Nat) (w:World) (a:Option Addr) (cap:Nat) (l:List Int):Prop:=OwnAt w a l.length cap T.int 1 (l.map (Value.int .i64))/\∀ b,a=some ⟨b,0,none⟩->S<=b
theorem IList.nil (S:Nat) (w:World):IList S w none 0 []:=⟨OwnAt.nil _ _ _,fun _ h=>by cases h⟩
theorem IList.ext {S:Nat} {w w':World} {a:Option Addr} {cap:Nat} {l:List Int} (h:IList S w a cap l) (k:Ext w w'):IList S w' a cap l:=⟨h.1.ext k,h.2⟩
theorem IList.upd {S:Nat} {w w':World} {F:Nat->Prop} {a:Option Addr} {cap:Nat} {l:List Int} (h:IList S w a cap l) (k:Upd F w w') (hF:∀ x,F x->x<S):IList S w' a cap l :=
 ⟨h.1.upd k fun b hb hf=>absurd (h.2 b hb) (by have:=hF b hf;omega),h.2⟩
theorem IList.weak {S S':Nat} {w:World} {a:Option Addr} {cap:Nat} {l:List Int} (h:IList S w a cap l) (hS:S'<=S):IList S' w a cap l:=⟨h.1,fun b hb=>Nat.le_trans hS (h.2 b hb)⟩
theorem IList.push {S:Nat} {w w1:World} {a:Option Addr} {cap n:Nat} {l:List Int} {B:Nat} {x:Int} (h:IList S w a cap l) (hn:n=l.length) (hnew:New w (.cells #[.int .i64 x] T.int) B w1) (hb:l.length+1<=17592186044000) (hS:S<=w.heap.size) {K:Option Addr->Nat->Nat->World->Prop}
  (hk:∀ a' c' w',Upd (fun b=>S<=b) w w'->IList S w' a' c' (l ++ [x])->K a' (l ++ [x]).length c' w'):appendP T.int 1 8 [Value.int .i64 0] a n cap (.slice (some ⟨B,0,none⟩) 1 1) w1 K:=by
 subst hn
 have hrow:RowAt w1 (some ⟨B,0,none⟩) [.int .i64 x]:=RowAt.of hnew.get fun j v hj=>by simpa using hj
 refine append_own (h.1.ext hnew.upd) rfl (read_row hrow rfl) rfl (fun v hv=>by simp at hv;rw [hv];rfl) rfl (by omega) (by omega) fun a' c' w' hu ho hf=>?_
 have hs:=hnew.size
 have:=hk a' c' w' ((Upd.ext hnew.upd).trans (hu.mono fun b _ hb=>h.2 b hb)) ⟨by simpa using ho,fun b hb=>by
  rcases hf with hf | ⟨b',hb',hl⟩
  .subst hf;exact h.2 b hb
  .rw [hb'] at hb;cases hb;omega⟩
 simpa using this
theorem CAt.low {A S:Nat} {w:World} {p:Nat} {c:Chip} (h:CAt A S w p c):A<=p/\p<S:=by
 obtain ⟨L,G,hr,hF,_⟩:=h
 exact hF p (by simp)
section
set_option maxRecDepth 100000
def w12:Chip:=newChip 16 8 128 0
def h12:List UInt8×Nat:=putHead 128 ⟨1,1,1⟩
def x12:Chip×Nat:=w12.program 3 0 h12.1
end
theorem IList.pushX {G:Nat->Prop} {S:Nat} {w w1:World} {a:Option Addr} {cap n:Nat} {l:List Int} {B:Nat} {x:Int} (h:IList S w a cap l) (hG:∀ b,a=some ⟨b,0,none⟩->¬ G b) (hGs:∀ x,G x->x<w.heap.size) (hn:n=l.length) (hnew:New w (.cells #[.int .i64 x] T.int) B w1) (hb:l.length+1<=17592186044000) (hS:S<=w.heap.size) {K:Option Addr->Nat->Nat->World->Prop}
  (hk:∀ a' c' w',Upd (fun b=>S<=b/\¬ G b) w w'->IList S w' a' c' (l ++ [x])->(∀ b,a'=some ⟨b,0,none⟩->¬ G b)->K a' (l ++ [x]).length c' w'):appendP T.int 1 8 [Value.int .i64 0] a n cap (.slice (some ⟨B,0,none⟩) 1 1) w1 K:=by
 subst hn
 have hrow:RowAt w1 (some ⟨B,0,none⟩) [.int .i64 x]:=RowAt.of hnew.get fun j v hj=>by simpa using hj
 refine append_own (h.1.ext hnew.upd) rfl (read_row hrow rfl) rfl (fun v hv=>by simp at hv;rw [hv];rfl) rfl (by omega) (by omega) fun a' c' w' hu ho hf=>?_
 have hs:=hnew.size
 have:=hk a' c' w' ((Upd.ext hnew.upd).trans (hu.mono fun b _ hb=>⟨h.2 b hb,hG b hb⟩)) ⟨by simpa using ho,fun b hb=>by
  rcases hf with hf | ⟨b',hb',hl⟩
  .subst hf;exact h.2 b hb
  .rw [hb'] at hb;cases hb;omega⟩ (fun b hb hg=>by
  rcases hf with hf | ⟨b',hb',hl⟩
  .subst hf;exact hG b hb hg
  .rw [hb'] at hb;cases hb;have:=hGs _ hg;omega)
 simpa using this
theorem IList.lt {S:Nat} {w:World} {a:Option Addr} {cap:Nat} {l:List Int} (h:IList S w a cap l) {b:Nat} (hb:a=some ⟨b,0,none⟩):b<w.heap.size:=h.1.blk hb
theorem filter_map_succ {α β:Type} (p:α->Bool) (f:α->β) {l:List α} {i:Nat} (hi:i<l.length):((l.take (i+1)).filter p).map f=((l.take i).filter p).map f ++ if p l[i] then [f l[i]] else []:=by
 rw [List.take_succ_eq_append_getElem hi,List.filter_append,List.map_append]
 congr 1
 rw [List.filter_cons]
 split<;>rfl
theorem filter_map_len {α β:Type} (p:α->Bool) (f:α->β) (l:List α):((l.filter p).map f).length<=l.length:=by
 rw [List.length_map]
 exact List.length_filter_le _ _
theorem Still.ask {c:Chip} {nb np sz sp:Nat} (h:Still c nb np sz sp) (i j:Int):c.ask i j=if i<0\/i≥nb\/j<0\/j≥np then 2 else 0:=by
 unfold Chip.ask
 rw [h.dead,h.nb,h.np];rfl
theorem key_beq (a b:Key):((a.ino == b.ino) && (((a.what.toNat:Int) == (b.what.toNat:Int)) && ((a.name.toList == b.name.toList) && ((a.chunk == b.chunk) && true))))=decide (a=b):=by
 rw [u8b,str_beq,Bool.eq_iff_iff]
 simp only [Bool.and_eq_true,beq_iff_eq,and_true,decide_eq_true_eq]
 constructor
 .rintro ⟨h1,h2,h3,h4⟩
  obtain ⟨a1,a2,⟨⟨a3⟩⟩,a4⟩:=a
  obtain ⟨b1,b2,⟨⟨b3⟩⟩,b4⟩:=b
  simp only at h1 h2 h3 h4
  subst h1;subst h2;subst h3;subst h4;rfl
 .rintro rfl;exact ⟨rfl,rfl,rfl,rfl⟩
def NamesF (l:List Fact):Prop:=∀ f∈l,f.key.name.size<9223372036854775807
def SmallC (l:List Change):Prop:=∀ x∈l,x.key.name.size<9223372036854775807/\x.val.length<=140737488355232
theorem NamesF.put {c:Change} {l:List Fact} (h:NamesF l) (hc:c.key.name.size<9223372036854775807):NamesF (putF c l):=fun f hf=>by
 rcases putF_mem hf with hf | ⟨_,rfl⟩
 .exact h f hf
 .exact hc
theorem applyL_succ (l:List Fact) {cs:List Change} {i:Nat} (hi:i<cs.length):applyL l (cs.take (i+1))=putF cs[i] (applyL l (cs.take i)):=by
 unfold applyL
 rw [List.take_succ_eq_append_getElem hi,List.foldl_append];rfl
theorem applyL_length (l:List Fact) (cs:List Change):∀ i,(applyL l (cs.take i)).length<=l.length+i
 | 0=>by simp [applyL]
 | i+1=>by
  by_cases hi:i<cs.length
  .rw [applyL_succ l hi]
   have:=putF_length cs[i] (applyL l (cs.take i))
   have:=applyL_length l cs i
   omega
  .have:cs.take (i+1)=cs.take i:=by rw [List.take_of_length_le (by omega),List.take_of_length_le (by omega)]
   rw [this]
   have:=applyL_length l cs i
   omega
theorem applyL_names {l:List Fact} {cs:List Change} (h:NamesF l) (hc:SmallC cs):∀ i,NamesF (applyL l (cs.take i))
 | 0=>by simpa [applyL] using h
 | i+1=>by
  by_cases hi:i<cs.length
  .rw [applyL_succ l hi]
   exact (applyL_names h hc i).put (hc _ (List.getElem_mem _)).1
  .have:cs.take (i+1)=cs.take i:=by rw [List.take_of_length_le (by omega),List.take_of_length_le (by omega)]
   rw [this]
   exact applyL_names h hc i
theorem half {lo hi:Nat} (h:lo+hi<9000000000000000000):i64.wrap (Int.fdiv (u64.wrap (i64.wrap ((lo:Int)+(hi:Int)))) (2 ^ (min (Int.toNat (1:Int)) (IntKind.bits .u64))))=(((lo+hi) / 2:Nat):Int):=by
 have e1:i64.wrap ((lo:Int)+(hi:Int))=((lo+hi:Nat):Int):=by rw [w64 (by omega) (by omega)];omega
 have e2:min (Int.toNat (1:Int)) (IntKind.bits .u64)=1:=by decide
 rw [e1,wu64n (by omega),e2]
 have e3:Int.fdiv ((lo+hi:Nat):Int) (2 ^ 1)=(((lo+hi) / 2:Nat):Int):=by
  rw [Int.fdiv_eq_ediv_of_nonneg _ (by decide)];omega
 rw [e3,w64n (by omega)]
theorem sort_Search_spec {n m:Nat} (hm:m<=n) (hn:n<4000000000000000000) {f:Value} {w:World} (hf:∀ u,Ext w u->∀ i,i<n->callT f [.int .i64 i] u fun v u'=>v= .bool (decide (m<=i))/\Ext u u') :
  CallsR prog K.sort_Search #[.int .i64 n,f] w fun v w'=>v= .int .i64 m/\Ext w w':=by
 apply sort_Search.sh
 unfold sort_Search.body
 refine ⟨fun x y u=>∃ lo hi:Nat,x=lo/\y=hi/\lo<=m/\m<=hi/\hi<=n/\Ext w u,fun x y _=>(y - x).toNat,⟨0,n,rfl,rfl,by omega,hm,by omega,Upd.refl _ _⟩,?_⟩
 rintro x y u ⟨lo,hi,rfl,rfl,h1,h2,h3,heu⟩
 refine br_dec (fun hlt=>⟨by decide,?_⟩) fun hge=>⟨by rw [show lo=m by omega],heu⟩
 have hh:=half (lo:=lo) (hi:=hi) (by omega)
 simp only [hh]
 have hmid:(lo+hi) / 2<hi:=by omega
 have hmid2:lo<=(lo+hi) / 2:=by omega
 refine (hf u heu ((lo+hi) / 2) (by omega)).mono ?_
 rintro _ u' ⟨rfl,he'⟩
 have ew:i64.wrap ((((lo+hi) / 2:Nat):Int)+1)=(((lo+hi) / 2+1:Nat):Int):=by rw [w64 (by omega) (by omega)];omega
 refine ⟨_,rfl,br_intro (fun hb=>?_) fun hb=>?_⟩
 .have hb':¬ m<=(lo+hi) / 2:=by simpa using hb
  rw [ew]
  exact ⟨⟨(lo+hi) / 2+1,hi,rfl,rfl,by omega,h2,h3,heu.trans he'⟩,by omega⟩
 .have hb':m<=(lo+hi) / 2:=by simpa using hb
  exact ⟨⟨lo,(lo+hi) / 2,rfl,rfl,h1,hb',by omega,heu.trans he'⟩,by omega⟩
theorem fact_place_spec {w:World} {G:Nat->Prop} {a:Option Addr} {c:Nat} {l:List Fact} {k:Key} (h:SliceAt factR w G a l) (hs:Sorted l) (hn:l.length<4000000000000000000) :
  CallsR prog K.fact_place #[.slice a l.length c,keyV k] w fun v w'=>v= .tuple #[.int .i64 (placeF l k:Nat),.bool (decide (∃ h:placeF l k<l.length,l[placeF l k].key=k))]/\Ext w w':=by
 apply fact_place.sh
 suffices H:∀ R:Value->World->Prop,(∀ v w',v= .tuple #[.int .i64 (placeF l k:Nat),.bool (decide (∃ h:placeF l k<l.length,l[placeF l k].key=k))]/\Ext w w'->R v w')->fact_place.body a l.length c k.ino k.what.toNat k.name k.chunk w R from H _ fun _ _ h=>h
 intro R hR
 unfold fact_place.body
 intro B1 w1 hn1 B2 w2 hn2
 have g1:w2.heap[B1]?=some (.cells #[.slice a l.length c] T.L_api_Fact (0,0)):=Ext.get hn2.upd hn1.get
 have g2:KeyAt w2 B2 k:=hn2.get
 have e2:=hn1.upd.trans hn2.upd
 have hm:=placeF_le l k
 refine ⟨_,_,_,cell_of g1 rfl,(sort_Search_spec hm hn fun u hu i hi=>?_).mono ?_⟩
 .refine ⟨by kernel_rfl,?_⟩
  apply fact_place_1.sh
  unfold fact_place_1.body
  intro w3 hd3
  have e3:=hu.trans hd3.upd
  refine ⟨fun v=>Ext w3 v,Upd.refl _ _,_,_,_,fun v hv=>cell_of (Ext.get (e3.trans hv) g1) rfl,?_⟩
  refine SliceAt.idx (r:=factR) (h.ext (e2.trans e3)) rfl hi fun b o vs _ hrow hR' _=>?_
  obtain ⟨_,_,rfl,_,_,_⟩:=factR_elim hR'
  refine ⟨_,_,_,_,fun v hv=>(RowAt.take (hrow.ext hv) 4).cells,_,_,_,_,fun v hv=>key_cells (Ext.get (e3.trans hv) g2),(fact_Before_spec l[i].key k w3).mono ?_⟩
  rintro _ w4 ⟨rfl,he4⟩
  refine ⟨_,rfl,he4,?_,hd3.upd.trans he4⟩
  congr 1
  have:=placeF_at hs i hi (k:=k)
  rw [Bool.eq_iff_iff]
  simp only [Bool.not_eq_true',decide_eq_true_eq]
  rw [<- Bool.not_eq_true,this]
  omega
 .rintro _ w3 ⟨rfl,he3⟩
  refine ⟨_,rfl,fun w4 hd4=>?_⟩
  have e34:=he3.trans hd4.upd
  refine ⟨fun v=>Ext w4 v,Upd.refl _ _,_,_,_,fun v hv=>cell_of (Ext.get (e34.trans hv) g1) rfl,br_dec (fun hlt=>?_) fun hge=>?_⟩
  .have hlt':placeF l k<l.length:=by omega
   refine ⟨_,_,_,fun v hv=>cell_of (Ext.get (e34.trans hv) g1) rfl,SliceAt.idx (r:=factR) (h.ext (e2.trans e34)) rfl hlt' fun b o vs _ hrow hR' _=>?_⟩
   obtain ⟨_,_,rfl,_,_,_⟩:=factR_elim hR'
   refine ⟨_,_,_,_,fun v hv=>(RowAt.take (hrow.ext hv) 4).cells,_,_,_,_,fun v hv=>key_cells (Ext.get (e34.trans hv) g2),hR _ _ ⟨?_,e2.trans e34⟩⟩
   rw [key_beq]
   have hd:decide (l[placeF l k].key=k)=decide (∃ h:placeF l k<l.length,l[placeF l k].key=k):=by
    rw [decide_eq_decide]
    exact ⟨fun h=>⟨hlt',h⟩,fun ⟨_,h⟩=>h⟩
   rw [hd]
  .refine hR _ _ ⟨?_,e2.trans e34⟩
   rw [decide_eq_false (fun ⟨hx,_⟩=>hge (by omega))]
end Go.Den
