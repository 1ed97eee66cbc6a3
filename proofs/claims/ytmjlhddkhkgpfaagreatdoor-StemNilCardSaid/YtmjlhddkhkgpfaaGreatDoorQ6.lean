/- The reference's tree in memory; has, met. (Merged and shortened by program: SWalk2 SLeaf2 STree SDown SCatch SWalked SLay SPageMap SLog SLog2 SStem MFacts MTell MTell2 MTell3 SLog3 SLog4 SLog5 SLog6 MTell4 MReady SStem2 SStem3 MWrite SStem4 SStem5 MLay2 SStem6 SStem7 SStem8 SStem9 SStem10 MLives19 MEnded SLog7 SLog8 MLaw14 SFacts0 SLog9 SWalk3 SRTree.) -/
import Derived.Test.YtmjlhddkhkgpfaaGreatDoorQ5
import Derived.Tactics
import Derived.Tactics2
import Derived.RecoverIn
import Derived.Laws.Pointers
import Derived.StringKeys
set_option linter.unusedVariables false
set_option linter.unusedSimpArgs false
set_option maxRecDepth 20000
open Go.IntKind (i64 u64 u32 u8)
namespace Go.Den
abbrev Spot:=Point×Nat×Nat
def accP (acc:Option Spot):Point:=match acc with
 | some x=>x.1
 | none=>Point.zero
def accB (acc:Option Spot):Nat:=match acc with
 | some x=>x.2.1
 | none=>0
def accK (acc:Option Spot):Nat:=match acc with
 | some x=>x.2.2
 | none=>0
theorem getPoint_may {b:List UInt8} (h:(getPoint b).2=0):(getPoint b).1.may=true:=by
 unfold getPoint at h ⊢
 split at h
 .cases h
 .rename_i h1
  rw [if_neg h1]
  simp only at h ⊢
  split at h
  .rename_i h2;rw [if_pos h2];exact h2.1
  .cases h
theorem pointAt_number {c:Chip} {b k:Nat} {p:Point} (h:pointAt c b k=some p):1<=p.number:=by
 unfold pointAt at h
 split at h
 .cases h
 .split at h
  .cases h
  .split at h
   .cases h
   .rename_i h3
    cases h
    exact ((Point.may_iff _).1 (getPoint_may (by omega))).1.1
theorem spotsB_succ (c:Chip) (b:Nat) {k:Nat} (hk:1<=k):spotsB c b (k+1)=spotsB c b k ++ (match pointAt c b k with | some p=>[(p,b,k)] | none=>[]):=by
 unfold spotsB
 rw [List.range_succ,List.filterMap_append]
 congr 1
 simp only [List.filterMap_cons,List.filterMap_nil,if_neg (show ¬ k=0 by omega)]
 cases pointAt c b k<;>rfl
theorem fold_step (c:Chip) (b:Nat) {k:Nat} (hk:1<=k) (acc:Option Spot):(spotsB c b (k+1)).foldl newerS acc=match pointAt c b k with
  | some p=>newerS ((spotsB c b k).foldl newerS acc) (p,b,k)
  | none=>(spotsB c b k).foldl newerS acc:=by
 rw [spotsB_succ c b hk,List.foldl_append]
 cases pointAt c b k<;>rfl
theorem flat_step (c:Chip) {L:List Nat} {i:Nat} (hi:i<L.length):((L.take (i+1)).flatMap fun b=>spotsB c b c.np).foldl newerS none=(spotsB c L[i] c.np).foldl newerS (((L.take i).flatMap fun b=>spotsB c b c.np).foldl newerS none):=by
 rw [List.take_succ_eq_append_getElem hi,List.flatMap_append,List.foldl_append]
 simp
def newestR (c:Chip) (era:Nat):Option Spot×Nat:=if askErr c era≠0 then (none,askErr c era) else match newestS c era with
 | some x=>(some x,0)
 | none=>(none,12)
abbrev newestV (r:Option Spot×Nat):Value:=.tuple #[pointV (accP r.1),.int .i64 (accB r.1:Nat),.int .i64 (accK r.1:Nat),.int .i64 (r.2:Nat)]
theorem new_out {u:World} {B:Nat} {p:Point} {cs:Array Value} {x y e:Int} {R:Value->World->Prop} (g:u.heap[B]?=some (.cells cs T.api_Point (0,0))) (hcs:cs.size=4) (hR:∀ u',Upd (·=B) u u'->R (.tuple #[pointV p,.int .i64 x,.int .i64 y,.int .i64 e]) u') :
  storeP u ⟨B,0,none⟩ p.vals fun w6=>∃ x4 x5:Int,∃ x6 x7:Int,cellsAt w6 ⟨B,0,none⟩ [.int .u64 x4,.int .i64 x5,.int .i64 x6,.int .i64 x7] 0/\R (.tuple #[.agg #[.int .u64 x4,.int .i64 x5,.int .i64 x6,.int .i64 x7],.int .i64 x,.int .i64 y,.int .i64 e]) w6 :=
 put_all g (by rw [hcs];rfl) fun w' hu hs g'=>⟨_,_,_,_,cells_all g',hR _ hu⟩
theorem page_small {c:Chip} (h:c.Ok) {i k:Nat} (hi:i<c.nb) (hk:k<c.np):(getPage (c.page i k)).2.1.length<=256:=by
 have:=getPage_len (c.page i k)
 have:=page_len h hi hk
 have:=h.sz2
 omega
theorem blocksI_get {c:Chip} {era:Nat} {i:Nat} (hi:i<(blocksI c era).length):(blocksI c era)[i]=((treeBlocks c era)[i]'(by simpa [blocksI] using hi):Nat):=by
 have h2:i<((treeBlocks c era).map Int.ofNat).length:=hi
 exact List.getElem_map Int.ofNat (h:=h2)
theorem treeBlocks_lt {c:Chip} (h:c.Ok) (hd0:c.dead=false) (era:Nat):∀ b∈treeBlocks c era,b<c.nb:=by
 intro b hb
 obtain ⟨t,ht,rfl⟩:=List.mem_map.1 hb
 exact refTaken_block h hd0 t (List.mem_filter.1 ht).1
theorem treeBlocks_len {c:Chip} (h:c.Ok) (hd0:c.dead=false) (era:Nat):(treeBlocks c era).length<=c.nb:=by
 unfold treeBlocks
 rw [List.length_map]
 exact Nat.le_trans (List.length_filter_le _ _) (refTaken_len h hd0)
theorem askErr_zero {c:Chip} {era:Nat} (h:askErr c era=0):c.dead=false/\era≠0:=by
 unfold askErr at h
 cases hd:c.dead with
 | true=>rw [hd] at h;simp at h
 | false =>
  rw [hd] at h
  simp only [Bool.false_eq_true,if_false] at h
  split at h
  .cases h
  .exact ⟨rfl,by assumption⟩
theorem pointAt_none1 {c:Chip} {b k:Nat} (h:(getPage (c.page b k)).2.2≠0):pointAt c b k=none:=by unfold pointAt;rw [if_pos h]
theorem pointAt_none2 {c:Chip} {b k:Nat} (h:(getPage (c.page b k)).1≠6):pointAt c b k=none:=by
 unfold pointAt;split
 .rfl
 .rfl
theorem pointAt_none3 {c:Chip} {b k:Nat} (h:(getPoint (getPage (c.page b k)).2.1).2≠0):pointAt c b k=none:=by
 unfold pointAt;split
 .rfl
 .split
  .rfl
  .rfl
theorem pointAt_some {c:Chip} {b k:Nat} (h1:(getPage (c.page b k)).2.2=0) (h2:(getPage (c.page b k)).1=6) (h3:(getPoint (getPage (c.page b k)).2.1).2=0):pointAt c b k=some (getPoint (getPage (c.page b k)).2.1).1:=by
 unfold pointAt
 rw [if_neg (by omega),if_neg (by rw [h2];decide),if_neg (by omega)]
theorem walk_Newest_spec {F:Nat->Prop} {A:Nat} {w:World} {p:Nat} {c:Chip} (h:CIn F A w p c) (hnb:Few c) (era:Nat) :
  CallsR prog K.walk_Newest #[.pointer (some ⟨p,0,none⟩),.int .u32 era] w fun v w'=>v=newestV (newestR c era)/\Ext w w':=by
 have hnb64:=h.ok.nb2
 apply walk_Newest.sh
 suffices H:∀ R:Value->World->Prop,(∀ v w',v=newestV (newestR c era)/\Ext w w'->R v w')->walk_Newest.body (some ⟨p,0,none⟩) era w R from H _ fun _ _ h=>h
 intro R hR
 unfold walk_Newest.body
 intro B1 w1 hn1
 have hB1:=hn1.num
 have hs1:=hn1.size
 have g1:w1.heap[B1]?=some (.cells (Point.vals (accP none)).toArray T.api_Point (0,0)):=hn1.get
 refine (walk_Blocks_spec (h.ext hn1.upd) hnb era).mono ?_
 rintro _ w2 ⟨a2,c2,rfl,hl2,he2⟩
 have e2:=hn1.upd.trans he2
 have g2:=Ext.get he2 g1
 have hs2:=he2.size
 unfold newestR at hR
 refine ⟨_,_,_,_,rfl,br_ne (fun hne=>?_) fun he=>?_⟩
 .rw [if_pos (by omega)] at hR
  exact new_out (p:=Point.zero) (x:=0) (y:=0) g2 rfl fun u' hu=>hR _ _ ⟨rfl,e2.beyond hu fun x hx=>by omega⟩
 have he0:askErr c era=0:=by omega
 obtain ⟨hd0,hera⟩:=askErr_zero he0
 rw [if_neg (by omega)] at hR
 have hL:askL c era=blocksI c era:=by unfold askL;rw [if_pos he0]
 rw [hL] at hl2 ⊢
 have hlt:=treeBlocks_lt h.ok hd0 era
 have hlen:=treeBlocks_len h.ok hd0 era
 have hlenI:(blocksI c era).length=(treeBlocks c era).length:=by simp [blocksI]
 have hget:∀ i (hi:i<(treeBlocks c era).length) (hi2:i<(blocksI c era).length),(blocksI c era)[i]=((treeBlocks c era)[i]:Nat):=fun i hi hi2=>blocksI_get hi2
 have hnew:newestS c era=((treeBlocks c era).flatMap fun b=>spotsB c b c.np).foldl newerS none:=rfl
 rw [hnew] at hR
 clear hnew hL
 generalize treeBlocks c era=L at *
 generalize blocksI c era=LI at *
 have hnp:=h.ok.np1
 have hnp2:=h.ok.np2
 refine ⟨fun x6 x7 b1 x8 u=>∃ i:Nat,x8=i/\i<=L.length/\∃ acc:Option Spot,acc=((L.take i).flatMap fun b=>spotsB c b c.np).foldl newerS none/\x6=(accB acc:Nat)/\x7=(accK acc:Nat)/\b1=acc.isSome/\u.heap[B1]?=some (.cells (Point.vals (accP acc)).toArray T.api_Point (0,0))/\Upd (·=B1) w2 u,fun _ _ _ x8 _=>((L.length:Int) - x8).toNat,
  ⟨0,rfl,by omega,none,rfl,rfl,rfl,rfl,g2,Upd.refl _ _⟩,?_⟩
 rintro x6 x7 b1 x8 u ⟨i,rfl,hi,acc,hacc,rfl,rfl,rfl,gu,hu⟩
 have hsu:=hu.size
 have hli:∀ {v:World},Upd (·=B1) w2 v->IList w1.heap.size v a2 c2 LI:=fun hv=>hl2.upd hv fun x hx=>by omega
 have hext:∀ {v:World},Upd (·=B1) w2 v->Ext w v:=fun hv=>e2.beyond hv fun x hx=>by omega
 refine br_dec (fun hlt'=>?_) fun hge=>?_
 .have hi':i<L.length:=by omega
  have ew:i64.wrap ((i:Int)+1)=((i+1:Nat):Int):=w64 (by omega) (by omega)
  simp only [ew]
  have hbi:=hlt _ (List.getElem_mem hi')
  refine idx_flat (k:=1) (f:=fun x:Int=>[Value.int .i64 x]) (fun _=>rfl) (by omega) (l:=LI) (by have:=(hli hu).1.row;simpa [<- List.map_eq_flatMap] using this) rfl (by omega) fun b o hab hr=>⟨_,(by have:=hr.cells;exact this.1),?_⟩
  rw [hget i hi' (by omega)]
  have hfl:=flat_step c hi'
  rw [<- hacc] at hfl
  refine ⟨fun x6 x7 b1 x8 u=>∃ k:Nat,x8=k/\1<=k/\k<=c.np/\∃ ac2:Option Spot,ac2=(spotsB c L[i] k).foldl newerS acc/\x6=(accB ac2:Nat)/\x7=(accK ac2:Nat)/\b1=ac2.isSome/\u.heap[B1]?=some (.cells (Point.vals (accP ac2)).toArray T.api_Point (0,0))/\Upd (·=B1) w2 u,fun _ _ _ x8 _=>((c.np:Int) - x8).toNat,
   ⟨1,rfl,by omega,by omega,acc,rfl,rfl,rfl,rfl,gu,hu⟩,?_⟩
  rintro x10 x11 b2 x12 v ⟨k,rfl,hk1,hk,ac2,hac,rfl,rfl,rfl,gv,hv⟩
  refine (cGeo (h.ext (hext hv))).mono ?_
  rintro _ v1 ⟨rfl,hev1⟩
  have hv1:=hv.then hev1
  have gv1:=Ext.get hev1 gv
  refine ⟨_,_,_,_,rfl,br_dec (fun hkn=>?_) fun hkn=>?_⟩
  .have hk':k<c.np:=by omega
   have ewk:i64.wrap ((k:Int)+1)=((k+1:Nat):Int):=w64 (by omega) (by omega)
   simp only [ewk]
   have hfs:=fold_step c L[i] hk1 acc
   rw [<- hac] at hfs
   refine (cPage (h.ext (hext hv1)) hd0 hbi hk').mono ?_
   rintro _ v2 ⟨hev2,a3,c3,rfl,hb3,hc3,hf3⟩
   refine ⟨_,_,_,_,rfl,(seal_Get_spec hb3 hc3).mono ?_⟩
   rintro _ v3 ⟨hev3,a4,c4,rfl,hb4,hc4⟩
   have hsm:=page_small h.ok hbi hk'
   have hv3:=(hv1.then hev2).then hev3
   have gv3:=Ext.get hev3 (Ext.get hev2 gv1)
   have same:∀ {v':World},Ext v3 v'->pointAt c L[i] k=none->(∃ k':Nat,((k+1:Nat):Int)=k'/\1<=k'/\k'<=c.np/\∃ ac3:Option Spot,ac3=(spotsB c L[i] k').foldl newerS acc/\((accB ac2:Nat):Int)=(accB ac3:Nat)/\((accK ac2:Nat):Int)=(accK ac3:Nat)/\ac2.isSome=ac3.isSome/\v'.heap[B1]?=some (.cells (Point.vals (accP ac3)).toArray T.api_Point (0,0))/\Upd (·=B1) w2 v')/\((c.np:Int) - ((k+1:Nat):Int)).toNat<((c.np:Int) - (k:Int)).toNat:=fun hev' hno=>⟨⟨k+1,rfl,by omega,by omega,ac2,by rw [hfs,hno],rfl,rfl,rfl,Ext.get hev' gv3,hv3.then hev'⟩,meas hk'⟩
   refine ⟨_,_,_,_,_,rfl,br_ne (fun hne=>same (Upd.refl _ _) (pointAt_none1 (by omega))) fun hz=>br_ne (fun hne=>same (Upd.refl _ _) (pointAt_none2 fun e=>hne (by rw [e];rfl))) fun hk6=>?_⟩
   have hp6:(getPage (c.page L[i] k)).1=6:=(u8i _ 6 (by omega)).1 hk6
   refine (point_Get_spec (c:=c4) hb4 (by omega)).mono ?_
   rintro _ v4 ⟨rfl,hev4⟩
   refine ⟨_,_,_,_,_,rfl,new_put (vs:=Point.vals (getPoint (getPage (c.page L[i] k)).2.1).1) rfl fun B2 v5 hb5 hs5 hev5 g5=>br_eq (fun hz0=>?_) fun hne=>same (hev4.trans hev5) (pointAt_none3 (by omega))⟩
   have hsome:=pointAt_some (c:=c) (b:=L[i]) (k:=k) (by omega) hp6 (by omega)
   have ev5:=hev4.trans hev5
   have hv5:=hv3.then ev5
   have gv5:=Ext.get ev5 gv3
   rw [hsome] at hfs
   have hsv3:=hv3.size
   have hev4s:=hev4.size
   have hB2:B1≠B2:=by omega
   have take:∀ {v':World},Ext v5 v'->newerS ac2 ((getPoint (getPage (c.page L[i] k)).2.1).1,L[i],k)=some ((getPoint (getPage (c.page L[i] k)).2.1).1,L[i],k)->∃ x25 x26:Int,∃ x27 x28:Int,cellsAt v' ⟨B2,0,none⟩ [.int .u64 x25,.int .i64 x26,.int .i64 x27,.int .i64 x28] 0/\storeP v' ⟨B1,0,none⟩ [.int .u64 x25,.int .i64 x26,.int .i64 x27,.int .i64 x28] fun w12=>(∃ k':Nat,((k+1:Nat):Int)=k'/\1<=k'/\k'<=c.np/\∃ ac3:Option Spot,ac3=(spotsB c L[i] k').foldl newerS acc/\((L[i]:Nat):Int)=(accB ac3:Nat)/\((k:Nat):Int)=(accK ac3:Nat)/\true=ac3.isSome/\w12.heap[B1]?=some (.cells (Point.vals (accP ac3)).toArray T.api_Point (0,0))/\Upd (·=B1) w2 w12)/\((c.np:Int) - ((k+1:Nat):Int)).toNat<((c.np:Int) - (k:Int)).toNat:=by
    intro v' hev' hnew
    refine ⟨_,_,_,_,cells_all (Ext.get hev' g5),put_all (vs:=Point.vals (getPoint (getPage (c.page L[i] k)).2.1).1) (Ext.get hev' gv5) rfl fun v6 hu6 hs6 g6=>⟨⟨k+1,rfl,by omega,by omega,some ((getPoint (getPage (c.page L[i] k)).2.1).1,L[i],k),?_,rfl,rfl,rfl,g6,(hv5.then hev').trans hu6⟩,meas hk'⟩⟩
    rw [hfs];exact hnew.symm
   cases ac2 with
   | none =>
    simp only [Option.isSome_none,Bool.not_false,br_true]
    exact take (Upd.refl _ _) rfl
   | some y =>
    simp only [Option.isSome_some,Bool.not_true,br_false]
    refine ⟨_,_,_,_,cells_all gv5,_,_,_,_,cells_all g5,(point_Newer_spec y.1 _ v5).mono ?_⟩
    rintro _ v7 ⟨rfl,hev7⟩
    refine ⟨_,rfl,?_⟩
    by_cases hgt:y.1.number > (getPoint (getPage (c.page L[i] k)).2.1).1.number
    .have e1:(!decide (y.1.number > (getPoint (getPage (c.page L[i] k)).2.1).1.number))=false:=by simp [hgt]
     rw [e1]
     simp only [br_false]
     refine ⟨⟨k+1,rfl,by omega,by omega,some y,?_,rfl,rfl,rfl,Ext.get hev7 gv5,hv5.then hev7⟩,meas hk'⟩
     rw [hfs]
     show some y=newerS (some y) _
     unfold newerS
     simp only []
     rw [if_pos hgt]
    .have e1:(!decide (y.1.number > (getPoint (getPage (c.page L[i] k)).2.1).1.number))=true:=by simp [hgt]
     rw [e1]
     simp only [br_true]
     refine take hev7 ?_
     unfold newerS
     simp only []
     rw [if_neg hgt]
  .have hkk:k=c.np:=by omega
   subst hkk
   exact ⟨⟨i+1,rfl,hi',ac2,by rw [hac,hfl],rfl,rfl,rfl,gv1,hv1⟩,meas hi'⟩
 .have hii:i=L.length:=by omega
  subst hii
  rw [List.take_length] at hacc
  rw [<- hacc] at hR
  cases acc with
  | none =>
   simp only [Option.isSome_none,Bool.not_false,br_true]
   exact new_out (p:=Point.zero) (x:=0) (y:=0) (e:=12) gu rfl fun u' hu'=>hR _ _ ⟨rfl,(hext hu).beyond hu' fun x hx=>by omega⟩
  | some y =>
   simp only [Option.isSome_some,Bool.not_true,br_false]
   exact ⟨_,_,_,_,cells_all gu,new_out (p:=y.1) (e:=0) gu rfl fun u' hu'=>hR _ _ ⟨rfl,(hext hu).beyond hu' fun x hx=>by omega⟩⟩
theorem CallsE.mono {P:Program} {f:FuncId} {args:Array Value} {w:World} {R X R' X':Value->World->Prop} (h:CallsE P f args w R X) (hr:∀ v w',R v w'->R' v w') (hx:∀ v w',X v w'->X' v w'):CallsE P f args w R' X' :=
 Calls.mono h fun e w' hh=>by
  rcases hh with ⟨v,e',hv⟩| ⟨v,e',hv⟩
  .exact .inl ⟨v,e',hr _ _ hv⟩
  .exact .inr ⟨v,e',hx _ _ hv⟩
structure TLoc where
 b:Nat
 m:Nat
 p:Nat
 ab:Option Addr
 cb:Nat
 bs:List Int
abbrev TLoc.cells (L:TLoc) (ap:Option Addr) (np cp:Nat) (af:Option Addr) (nf cf:Nat) (d:Nat):List Value:=[.pointer (some ⟨L.p,0,none⟩),.slice L.ab L.bs.length L.cb,.map (some L.m),.slice ap np cp,.slice af nf cf,.int .i64 (d:Nat)]
structure TSep (L:TLoc) (O U:Nat->Prop) (w:World) (ap af:Option Addr) (G:Nat->Prop):Prop where
 ob:O L.b
 om:O L.m
 bm:L.b≠L.m
 op:∀ x,ap=some ⟨x,0,none⟩->O x/\x≠L.b/\x≠L.m
 of_:∀ x,af=some ⟨x,0,none⟩->O x/\x≠L.b/\x≠L.m/\ap≠some ⟨x,0,none⟩
 go:∀ x,G x->U x/\¬ O x
 ou:∀ x,O x->U x
 lt:∀ x,U x->x<w.heap.size
def TreeIn (L:TLoc) (O U:Nat->Prop) (w:World) (t:TreeS):Prop:=∃ ap cp af cf es ck G,
 w.heap[L.b]?=some (.cells (L.cells ap t.pages.length cp af t.facts.length cf t.depth).toArray T.walk_tree (0,0))/\
 OwnAt w ap t.pages.length cp T.api_Place 2 (t.pages.flatMap Place.vals)/\OwnS factR w G af cf T.api_Fact t.facts/\w.heap[L.m]?=some (.map es ck)/\MapIs es t.pages/\TSep L O U w ap af G
theorem TSep.size {L:TLoc} {O U:Nat->Prop} {w w':World} {ap af:Option Addr} {G:Nat->Prop} (h:TSep L O U w ap af G) (hs:w.heap.size<=w'.heap.size):TSep L O U w' ap af G :=
 ⟨h.ob,h.om,h.bm,h.op,h.of_,h.go,h.ou,fun x hx=>Nat.lt_of_lt_of_le (h.lt x hx) hs⟩
theorem TreeIn.lt {L:TLoc} {O U:Nat->Prop} {w:World} {t:TreeS} (h:TreeIn L O U w t):∀ x,U x->x<w.heap.size:=by
 obtain ⟨_,_,_,_,_,_,_,_,_,_,_,_,h6⟩:=h
 exact h6.lt
theorem TreeIn.ou {L:TLoc} {O U:Nat->Prop} {w:World} {t:TreeS} (h:TreeIn L O U w t):∀ x,O x->U x:=by
 obtain ⟨_,_,_,_,_,_,_,_,_,_,_,_,h6⟩:=h
 exact h6.ou
theorem lastAhead_nil {k:Key}:lastAhead [] k=true:=rfl
theorem lastAhead_at {l:List Fact} {k:Key} {i:Nat} (hi:i+1=l.length):lastAhead l k=before (l[i]'(by omega)).key k:=by
 unfold lastAhead
 have:l.getLast?=some (l[i]'(by omega)):=by
  rw [List.getLast?_eq_getElem?,List.getElem?_eq_getElem (by omega)]
  congr 2;omega
 rw [this]
theorem Place.len (p:Place):p.vals.length=2:=rfl
theorem first_fact {w:World} {G:Nat->Prop} {a:Option Addr} {x:Fact} {r:List Fact} (h:SliceAt factR w G a (x :: r)) {n:Nat} (hn:n=(x :: r).length) {K':Addr->Prop} (hk:∀ q,(∀ u,Ext w u->cellsAt u q [.int .i64 x.key.ino,bv x.key.what,.string x.key.name,.int .i64 x.key.chunk] 0)->K' q):idxP a n (0:Int) 5 K':=by
 refine SliceAt.idx (r:=factR) (i:=0) h hn (by simp) fun b o vs ha hrow hR' hG=>?_
 obtain ⟨av,cv,rfl,hcv,hbv,hgv⟩:=factR_elim hR'
 exact hk _ fun u hu=>(RowAt.take (RowAt.ext hrow hu) 4).cells
theorem leafT_none1 {t:TreeS} {l:List Fact×Nat} {d:Nat} (h:l.2≠0):leafT t l d=none:=by unfold leafT;rw [if_pos h]
theorem leafT_none2 {t:TreeS} {l:List Fact×Nat} {d:Nat} (h1:t.depth≠0) (h2:t.depth≠d):leafT t l d=none:=by
 unfold leafT
 split
 .rfl
 .rw [if_pos ⟨h1,h2⟩]
theorem leafT_last {t:TreeS} {l:List Fact×Nat} {d:Nat} {x:Fact} {r:List Fact} (h:l.2=0) (hd:t.depth=0\/t.depth=d) (hx:l.1=x :: r):leafT t l d=if lastAhead t.facts x.key=false then none else some (x.key,{ t with facts:=t.facts ++ (x :: r),depth:=d }):=by
 unfold leafT
 rw [if_neg (by omega),if_neg (by omega)]
 rw [hx]
theorem map_put {w:World} {b:Nat} {es es':Array MapEntry} {ck ck':Nat} (h:w.heap[b]?=some (.map es ck)):Upd (·=b) w (putBlk w b (.map es' ck'))/\(putBlk w b (.map es' ck')).heap[b]?=some (.map es' ck'):=by
 have hlt:b<w.heap.size:=(Array.getElem?_eq_some_iff.1 h).1
 refine ⟨⟨by simp [putBlk],fun i hi hf=>putBlk_get_other (Ne.symm hf),rfl,rfl,rfl,fun i x hx hbx=>?_⟩,putBlk_get_same hlt⟩
 have hne:b≠i:=by
  rintro rfl
  rw [h] at hx
  cases hx
  cases hbx
 rw [putBlk_get_other hne]
 exact hx
theorem downS_no {c:Chip} {bs:List Nat} {f:Nat} {t:TreeS} {p:Place} {d:Nat} (h:12<d\/p.page<=0\/p.block ∉ bs.map Int.ofNat\/p∈t.pages):downS c bs f t p d=none:=by
 cases f with
 | zero=>rfl
 | succ f=>rw [downS_succ,if_pos h]
theorem first_child {w:World} {G:Nat->Prop} {a:Option Addr} {x:Child} {r:List Child} (h:SliceAt childR w G a (x :: r)) {n:Nat} (hn:n=(x :: r).length) {K':Addr->Prop} (hk:∀ q,cellsAt w q [.int .i64 x.key.ino,bv x.key.what,.string x.key.name,.int .i64 x.key.chunk] 0->K' q):idxP a n (0:Int) 6 K':=by
 refine SliceAt.idx (r:=childR) (i:=0) h hn (by simp) fun b o vs ha hrow hR' hG=>?_
 obtain rfl:vs=childVs x:=hR'
 exact hk _ (RowAt.take hrow 4).cells
section
open Go.Proofs
end
def walkedR (c:Chip) (era:Nat):Option TreeS×Nat:=if (newestR c era).2≠0 then (none,(newestR c era).2) else match walkS c (treeBlocks c era) (accP (newestR c era).1) with
 | some t=>(some t,0)
 | none=>(none,16)
theorem newestS_from {c:Chip} {L:List Spot} {acc:Option Spot} {P:Spot->Prop} (ha:∀ x,acc=some x->P x) (hL:∀ x∈L,P x):∀ x,L.foldl newerS acc=some x->P x:=by
 induction L generalizing acc with
 | nil=>exact ha
 | cons y L ih =>
  refine ih (fun x hx=>?_) fun x hx=>hL x (List.mem_cons_of_mem _ hx)
  cases acc with
  | none=>cases hx;exact hL _ (List.mem_cons_self ..)
  | some z =>
   have hx':(if z.1.number > y.1.number then some z else some y)=some x:=hx
   split at hx'
   .cases hx';exact ha _ rfl
   .cases hx';exact hL _ (List.mem_cons_self ..)
theorem newest_may {c:Chip} {era:Nat} {x:Spot} (h:newestS c era=some x):x.1.may=true/\x.2.1∈treeBlocks c era/\1<=x.2.2/\x.2.2<c.np/\pointAt c x.2.1 x.2.2=some x.1:=by
 refine newestS_from (c:=c) (P:=fun x=>x.1.may=true/\x.2.1∈treeBlocks c era/\1<=x.2.2/\x.2.2<c.np/\pointAt c x.2.1 x.2.2=some x.1) (fun x h=>by cases h) (fun x hx=>?_) x h
 obtain ⟨b,hb,hx⟩:=List.mem_flatMap.1 hx
 obtain ⟨k,hk,hx⟩:=List.mem_filterMap.1 hx
 have hk:=List.mem_range.1 hk
 split at hx
 .cases hx
 .cases hp:pointAt c b k with
  | none=>rw [hp] at hx;cases hx
  | some p =>
   rw [hp] at hx
   cases hx
   refine ⟨?_,hb,by show 1<=k;omega,hk,hp⟩
   unfold pointAt at hp
   split at hp
   .cases hp
   .split at hp
    .cases hp
    .split at hp
     .cases hp
     .cases hp
      exact getPoint_may (by omega)
theorem newestR_zero {c:Chip} {era:Nat} (h:(newestR c era).2=0):askErr c era=0/\∃ x,newestS c era=some x/\newestR c era=(some x,0):=by
 unfold newestR at h ⊢
 split at h
 .rename_i h1;exact absurd h h1
 .rename_i h1
  rw [if_neg h1]
  cases hn:newestS c era with
  | none=>rw [hn] at h;cases h
  | some x=>exact ⟨by omega,x,rfl,rfl⟩
def placeR:ERep Place:=flatR Place.vals 2 (by decide) (fun _=>rfl) (fun c v hv=>by
 simp at hv
 rcases hv with h | h<;>(rw [h];rfl))
theorem flat_slice {α:Type} {f:α->List Value} {k:Nat} {h1:1<=k} {h2:∀ x,(f x).length=k} {h3:∀ x,∀ v∈f x,v.oneCell'=true} {w:World} {G:Nat->Prop} {a:Option Addr} {l:List α} (h:RowAt w a (l.flatMap f)) (hg:l≠[]->∀ p,a=some p->G p.block):SliceAt (flatR f k h1 h2 h3) w G a l:=by
 refine ⟨l.flatMap f,h,?_,hg⟩
 clear h hg
 induction l with
 | nil=>rfl
 | cons x l ih=>exact ⟨f x,l.flatMap f,by simp,rfl,ih⟩
abbrev factsR (r:Option TreeS×Nat):List Fact:=match r.1 with
 | some t=>t.facts
 | none=>[]
theorem walkedR_some {c:Chip} {era:Nat} {t:TreeS} {e:Nat} (h:walkedR c era=(some t,e)):e=0:=by
 unfold walkedR at h
 split at h
 .cases h
 .split at h
  .cases h;rfl
  .cases h
theorem TreeIn.facts {L:TLoc} {O U:Nat->Prop} {w:World} {t:TreeS} (h:TreeIn L O U w t):∃ a c,World.cell? w ⟨L.b,4,none⟩= some (.slice a t.facts.length c)/\SliceAt factR w U a t.facts/\t.facts.length<=c:=by
 obtain ⟨ap,cp,af,cf,es,ck,G,q1,q2,q3,q4,q5,q6⟩:=h
 refine ⟨af,cf,cell_of q1 rfl,OwnS.at_ (q3.mono fun z hz=>(q6.go z hz).1) fun p hp=>?_,q3.cap⟩
 obtain ⟨z,hz,_,rfl⟩:=q3.blk hp
 exact q6.ou _ (q6.of_ _ hz).1
theorem TreeIn.pages {L:TLoc} {O U:Nat->Prop} {w:World} {t:TreeS} (h:TreeIn L O U w t):∃ a c,World.cell? w ⟨L.b,3,none⟩= some (.slice a t.pages.length c)/\SliceAt placeR w U a t.pages/\t.pages.length<=c:=by
 obtain ⟨ap,cp,af,cf,es,ck,G,q1,q2,q3,q4,q5,q6⟩:=h
 refine ⟨ap,cp,cell_of q1 rfl,flat_slice q2.row fun hne p hp=>?_,q2.2.1⟩
 obtain ⟨b,o,hb,_⟩:=RowAt.blk q2.row (fun e=>hne (by
  have:=congrArg List.length e
  rw [flat_len (k:=2) (fun _=>rfl),List.length_nil] at this
  exact List.eq_nil_of_length_eq_zero (by omega)))
 have hb':=hb
 rw [hp] at hb
 cases hb
 obtain ⟨_,_,hx⟩:=q2
 rcases hx with ⟨rfl,_⟩| ⟨b',_,e',_⟩
 .cases hb'
 .rw [e'] at hb';cases hb'
  exact q6.ou _ (q6.op _ e').1
section
structure PutW {σ:Type} (put:σ->List UInt8->σ×Place×Nat) (sz:Nat) (I:Nat->σ->Prop) (F:Nat->Prop) (S:Nat) (W:σ->World->Prop) (fv:Value):Prop where
 keep:∀ {s u u' F'},W s u->Upd F' u u'->(∀ x,F' x->S<=x)->W s u'
 low:∀ x,F x->x<S
 call:∀ {s u n} {a:Option Addr} {b:List UInt8} {c:Nat},W s u->I (n+1) s->S<=u.heap.size->b.length=sz->BytesAt u a b->(∀ p,a=some p->S<=p.block)->b.length<=c->∀ Q:Value->World->Prop,(∀ u',Upd F u u'->W (put s b).1 u'->Q (.tuple #[placeV (put s b).2.1,.int .i64 ((put s b).2.2:Nat)]) u')->callT fv [.slice a b.length c] u Q
section
variable {σ:Type} {put:σ->List UInt8->σ×Place×Nat}
theorem putAll_step {x:Key×List UInt8} {l:List (Key×List UInt8)} {s:σ} {acc:List Child} (h:(put s x.2).2.2=0):putAll put (x :: l) s acc=putAll put l (put s x.2).1 (acc ++ [⟨x.1,(put s x.2).2.1.block,(put s x.2).2.1.page⟩]):=by
 conv=>lhs;unfold putAll
 rw [if_neg (fun hh=>hh h)]
theorem putAll_err {x:Key×List UInt8} {l:List (Key×List UInt8)} {s:σ} {acc:List Child} (h:(put s x.2).2.2≠0):putAll put (x :: l) s acc=((put s x.2).1,[],(put s x.2).2.2):=by
 unfold putAll
 rw [if_pos h]
end
structure ChOk (l:List Child):Prop where
 may:∀ x∈l,mayCh x=true
 ord:OrdBy Child.key l
theorem ChOk.of {ks:List Key} {l:List Child} (hk:l.map Child.key=ks) (hm:∀ k∈ks,k.may=true) (ho:OrdBy (fun k:Key=>k) ks) (hb:∀ x∈l,0<=x.block/\x.block<=255/\0<=x.page/\x.page<=255):ChOk l:=by
 subst hk
 refine ⟨fun x hx=>?_,List.pairwise_map.1 ho⟩
 have h1:=hm x.key (List.mem_map.2 ⟨x,hx,rfl⟩)
 obtain ⟨b1,b2,b3,b4⟩:=hb x hx
 unfold mayCh
 rw [h1]
 simp [b1,b2,b3,b4]
theorem firstC_map (g:List Child):firstK (g.map Child.key)=firstC g:=by
 unfold firstK firstC
 rw [List.head?_map]
theorem place_cells {w:World} {B:Nat} {x y:Int} (h:w.heap[B]?=some (.cells #[.int .i64 x,.int .i64 y] T.api_Place (0,0))):cellsAt w ⟨B,0,none⟩ [.int .i64 x,.int .i64 y] 0:=cells_all (vs:=[.int .i64 x,.int .i64 y]) h
section
variable {σ:Type} {put:σ->List UInt8->σ×Place×Nat} {sz:Nat} {I:Nat->σ->Prop} {R0:σ->σ->Prop} {At:σ->Place->List UInt8->Prop} {F:Nat->Prop} {S:Nat} {W:σ->World->Prop} {fv:Value}
theorem stem_lay_spec (hp:PutOk put sz I R0 At) (hw:PutW put sz I F S W fv) (s1:128<=sz) (s2:sz<=256) {s0:σ} {l:List Fact} {m:Nat} (hI:I (3 * l.length+m) s0) (hl:FitL sz l) (hn:l.length<1000000)
  {w:World} {G:Nat->Prop} {a:Option Addr} {c:Nat} (h:SliceAt factR w G a l) (hlc:l.length<=c) (hG:∀ b,G b->¬ F b/\b<w.heap.size) (hW:W s0 w) (hS:S<=w.heap.size) :
  CallsR prog K.stem_lay #[.int .i64 sz,.slice a l.length c,fv] w fun v w'=>v= .tuple #[placeV (layS put sz s0 l).2.1,.int .i64 ((layS put sz s0 l).2.2:Nat)]/\Upd F w w'/\W (layS put sz s0 l).1 w':=by
 obtain ⟨r,hr⟩: ∃ r,r=layS put sz s0 l:=⟨_,rfl⟩
 rw [<- hr]
 apply stem_lay.sh
 suffices H:∀ R:Value->World->Prop,(∀ v w',v= .tuple #[placeV r.2.1,.int .i64 (r.2.2:Nat)]/\Upd F w w'/\W r.1 w'->R v w')->stem_lay.body sz a l.length c fv w R from H _ fun _ _ h=>h
 intro R hR
 unfold stem_lay.body
 simp only [add_lit,Nat.zero_add]
 intro B1 w1 hn1
 have hB1:B1=w.heap.size:=hn1.num
 have hs1:=hn1.size
 have e1:=hn1.upd
 have g1:w1.heap[B1]?=some (.cells #[.int .i64 0,.int .i64 0] T.api_Place (0,0)):=hn1.get
 have ret:∀ {u:World} {st:σ} {p:Place} {e:Nat} {cs:Array Value},cs.size=2->u.heap[B1]?=some (.cells cs T.api_Place (0,0))->W st u->Upd F w u->r=(st,p,e)->storeP u ⟨B1,0,none⟩ [.int .i64 p.block,.int .i64 p.page] fun w'=>∃ x y:Int,cellsAt w' ⟨B1,0,none⟩ [.int .i64 x,.int .i64 y] 0/\R (.tuple #[.agg #[.int .i64 x,.int .i64 y],.int .i64 (e:Nat)]) w':=fun {u st p e cs} hcs g hW' hu he=>by
  refine put_all g (by rw [hcs];rfl) fun w' hu' hs' g'=>⟨_,_,place_cells g',hR _ _ ⟨by rw [he],hu.over hu' fun x hx=>.inr (by omega),?_⟩⟩
  rw [he]
  exact hw.keep hW' hu' fun x hx=>by omega
 refine (stem_plan_spec s1 s2 hl hn (h.ext e1)).mono ?_
 rintro _ w2 ⟨a1,c1,G1,rfl,hpl,hG1,hc1,he2⟩
 have e2:=e1.trans he2
 have hs2:=he2.size
 have g2:=Ext.get he2 g1
 have hW2:W s0 w2:=hw.keep hW e2 fun x hx=>hx.elim
 obtain ⟨hfl,hgok⟩:=cutG_ok (key:=Fact.key) (len:=leafLen) (room:=roomT sz) (least:=1) (l:=l) hl.len
 change (leavesG sz l).flatten=l at hfl
 change ∀ g∈leavesG sz l,_ at hgok
 refine ⟨_,_,_,_,rfl,fun u=>u=w2/\l≠[],br_ne (fun h=>absurd rfl h) fun _=>br_eq (fun h0=>?_) fun h0=>⟨rfl,fun e=>h0 ?_⟩,?_⟩
 .have hle:l=[]:=by
   by_cases hle:l=[]
   .exact hle
   .unfold planI at h0
    rw [if_neg hle] at h0
    simp at h0
    omega
  refine ret (p:=noPlace) (e:=0) rfl g2 hW2 (Upd.ext e2) ?_
  rw [hr]
  unfold layS
  rw [if_pos hle]
 .subst e;rfl
 rintro _ ⟨rfl,hne⟩
 rename_i w2
 have hplan:planI sz l=lensI (leavesG sz l) :: planUpI sz ((leavesG sz l).length+1) ((leavesG sz l).map firstF):=by unfold planI;rw [if_neg hne]
 have hlp:leafPages sz l=(leavesG sz l).map fun g=>(firstF g,(putLeaf sz g).1):=rfl
 have hlay:layS put sz s0 l=if (putAll put (leafPages sz l) s0 []).2.2≠0 then ((putAll put (leafPages sz l) s0 []).1,noPlace,(putAll put (leafPages sz l) s0 []).2.2) else layUp put sz ((putAll put (leafPages sz l) s0 []).2.1.length+1) (putAll put (leafPages sz l) s0 []).1 (putAll put (leafPages sz l) s0 []).2.1:=by
  unfold layS
  rw [if_neg hne]
 rw [hlay] at hr
 have hgl:(leavesG sz l).length<=l.length:=by
  have:=gs_len (gs:=leavesG sz l) fun g hg=>(hgok g hg).ne
  rwa [hfl] at this
 have hmem:∀ g∈leavesG sz l,∀ x∈g,x∈l:=fun g hg x hx=>by rw [<- hfl];exact List.mem_flatten.2 ⟨g,hg,hx⟩
 have hgs':∀ g∈leavesG sz l,Sorted g:=fun g hg=>by
  have hs:=hl.sorted
  obtain ⟨a,b,e⟩:=List.append_of_mem hg
  rw [<- hfl,e,List.flatten_append,List.flatten_cons,<- List.append_assoc] at hs
  exact sorted_part hs
 have hput:∀ g∈leavesG sz l,(putLeaf sz g).2=0/\(putLeaf sz g).1.length=sz:=fun g hg=>by
  obtain ⟨q1,q2,_⟩:=putLeaf_ok s1 s2 (fun f hf=>hl.may f (hmem g hg f hf)) (hgs' g hg) (hgok g hg)
  exact ⟨q1,q2⟩
 have hplen:(leafPages sz l).length=(leavesG sz l).length:=by rw [hlp,List.length_map]
 refine SliceAt.idx (r:=rowsR) (i:=0) hpl rfl (by rw [hplan];simp) fun b0 o0 vs0 ha0 hrow0 hR0 hG0=>?_
 obtain ⟨a2,c2,rfl,hc2,hcnt⟩: rowsR.R w2 G1 vs0 (lensI (leavesG sz l)):=by
  have:(planI sz l)[0]'(by rw [hplan];simp)=lensI (leavesG sz l):=by simp only [hplan,List.getElem_cons_zero]
  rw [<- this]
  exact hR0
 refine ⟨_,_,_,hrow0.cells.1,?_⟩
 rw [lensI_length]
 have hGF:∀ b,G1 b->¬ F b:=fun b hb hf=>by have:=(hG1 b hb).1;have:=hw.low b hf;omega
 refine ⟨fun a3 l3 c3 a4 l4 c4 x v=>∃ (i:Nat) (st:σ) (ch:List Child),x=i/\i<=(leavesG sz l).length/\l3=ch.length/\ch.length=i/\ch.map Child.key=((leavesG sz l).take i).map firstF/\(∀ x∈ch,0<=x.block/\x.block<=255/\0<=x.page/\x.page<=255)/\ListAt childR NoB w2.heap.size v a3 c3 T.api_Child ch/\
   l4=((leavesG sz l).drop i).flatten.length/\l4<=c4/\SliceAt factR v G a4 ((leavesG sz l).drop i).flatten/\putAll put (leafPages sz l) s0 []=putAll put ((leafPages sz l).drop i) st ch/\I (((leavesG sz l).length - i)+(2 * (leavesG sz l).length+m)) st/\W st v/\Upd (fun x=>F x\/w2.heap.size<=x) w2 v,fun _ _ _ _ _ _ x _=>(((leavesG sz l).length:Int) - x).toNat,
  ⟨0,s0,[],rfl,by omega,rfl,rfl,rfl,(fun x hx=>by cases hx),ListAt.nil _ _,by rw [List.drop_zero,hfl],hlc,by rw [List.drop_zero,hfl];exact h.ext e2,by rw [List.drop_zero],hp.less hI (by omega),hW2,Upd.refl _ _⟩,?_⟩
 rintro a3 l3 c3 a4 l4 c4 x v ⟨i,st,ch,rfl,hi,rfl,hci,hck,hcb,hch,rfl,hc4,hrest,hpa,hIs,hWs,huv⟩
 have hsv:=huv.size
 have gv:v.heap[B1]?=some (.cells #[.int .i64 0,.int .i64 0] T.api_Place (0,0)):=huv.get g2 fun hx=>by
  rcases hx with hx | hx
  .have:=hw.low _ hx;omega
  .omega
 have hwv:Upd F w v:=(Upd.ext e2).over huv fun x hx=>by
  rcases hx with hx | hx
  .exact .inl hx
  .exact .inr (by omega)
 refine br_dec (fun hlt=>?_) fun hge=>?_
 .have hi':i<(leavesG sz l).length:=by omega
  have ew:i64.wrap ((i:Int)+1)=((i+1:Nat):Int):=w64 (by omega) (by omega)
  simp only [ew]
  have hil:i<(lensI (leavesG sz l)).length:=by rw [lensI_length];exact hi'
  have hcv:SliceAt intR v G1 a2 (lensI (leavesG sz l)):=hcnt.upd huv fun b hb hx=>by
   rcases hx with hx | hx
   .exact hGF b hb hx
   .have:=(hG1 b hb).2;omega
  refine SliceAt.idx (r:=intR) hcv (lensI_length _).symm hil fun b o vs ha hrow hR' hG'=>?_
  obtain rfl:vs=[.int .i64 ((lensI (leavesG sz l))[i])]:=hR'
  have hx:(lensI (leavesG sz l))[i]=(((leavesG sz l)[i].length:Nat):Int):=by simp [lensI]
  refine ⟨_,(hrow.cells).1,?_⟩
  rw [hx]
  have hdc:=flatten_drop_cons hi'
  have hgm:(leavesG sz l)[i]∈leavesG sz l:=List.getElem_mem hi'
  have hgi:=hgok _ hgm
  have hpi:(leafPages sz l).drop i=(firstF (leavesG sz l)[i],(putLeaf sz (leavesG sz l)[i]).1) :: (leafPages sz l).drop (i+1):=by
   rw [List.drop_eq_getElem_cons (by rw [hplen];exact hi')]
   congr 1
   simp [hlp]
  have hsucc:((leavesG sz l).take (i+1)).map firstF=((leavesG sz l).take i).map firstF ++ [firstF (leavesG sz l)[i]]:=by rw [List.take_succ_eq_append_getElem hi',List.map_append];rfl
  generalize hgg:(leavesG sz l)[i]=g at *
  obtain ⟨f0,t0,hg0⟩: ∃ f0 t0,g=f0 :: t0:=by
   cases hgc:g with
   | nil=>exact absurd hgc hgi.ne
   | cons f0 t0=>exact ⟨f0,t0,rfl⟩
  have hff:firstF g=f0.key:=by rw [hg0];rfl
  have hd0:((leavesG sz l).drop i).flatten=f0 :: (t0 ++ ((leavesG sz l).drop (i+1)).flatten):=by rw [hdc,hg0];rfl
  have htake:((leavesG sz l).drop i).flatten.take g.length=g:=by rw [hdc,List.take_left]
  have hg1:1<=g.length:=List.length_pos_iff.2 hgi.ne
  refine slice_to (by omega) (by rw [hdc,List.length_append];omega) hc4 ?_
  rw [Int.toNat_natCast]
  have hgsl:SliceAt factR v G a4 g:=by have:=hrest.take g.length;rwa [htake] at this
  refine (leaf_PutLeaf_spec (sz:=sz) (fun f hf=>hl.may f (hmem g hgm f hf)) (hgs' g hgm) hg1 hgi.most hgsl).mono ?_
  rintro _ w7 ⟨a6,c6,rfl,hb6,hf6,he7,hc6⟩
  obtain ⟨q1,q2⟩:=hput g hgm
  have hs7:=he7.size
  refine ⟨_,_,_,_,rfl,br_ne (fun h=>absurd (by rw [q1];rfl) h) fun _=>?_⟩
  have hW7:=hw.keep hWs he7 fun x hx=>hx.elim
  have hin:((leavesG sz l).length - i)+(2 * (leavesG sz l).length+m)=(((leavesG sz l).length - (i+1))+(2 * (leavesG sz l).length+m))+1:=by omega
  rw [hin] at hIs
  refine hw.call hW7 hIs (by omega) q2 hb6 (fun p hp=>by have:=hf6 p hp;omega) hc6 _ fun w9 hu9 hW9=>?_
  obtain ⟨t1,t2⟩:=hp.step hIs q2
  rw [hpi] at hpa
  obtain ⟨y,hy⟩: ∃ y,y=put st (putLeaf sz g).1:=⟨_,rfl⟩
  have hpe:y.2.2≠0->putAll put (leafPages sz l) s0 []=(y.1,[],y.2.2):=fun hne=>by
   rw [hpa,hy]
   exact putAll_err (x:=(firstF g,(putLeaf sz g).1)) (by rw [<- hy];exact hne)
  have hps:y.2.2=0->putAll put (leafPages sz l) s0 []=putAll put ((leafPages sz l).drop (i+1)) y.1 (ch ++ [⟨firstF g,y.2.1.block,y.2.1.page⟩]):=fun h0=>by
   rw [hpa,hy]
   exact putAll_step (x:=(firstF g,(putLeaf sz g).1)) (by rw [<- hy];exact h0)
  rw [<- hy] at t1 t2 hW9 ⊢
  have hs9:=hu9.size
  have hwv9:Upd F w w9:=(hwv.then he7).trans hu9
  refine ⟨_,_,_,rfl,new_put (vs:=y.2.1.vals) rfl fun B2 w11 hb11 hs11 he11 g11=>?_⟩
  have gv11:w11.heap[B1]?=some (.cells #[.int .i64 0,.int .i64 0] T.api_Place (0,0)):=Ext.get he11 (hu9.get (Ext.get he7 gv) fun hx=>by have:=hw.low _ hx;omega)
  have hW11:=hw.keep hW9 he11 fun x hx=>hx.elim
  refine br_ne (fun hne=>?_) fun h0=>?_
  .refine ret (p:=noPlace) rfl gv11 hW11 (hwv9.then he11) ?_
   rw [hr,hpe (by omega),if_pos (show y.2.2≠0 by omega)]
  .obtain ⟨t3,t4⟩:=t2 (by omega)
   have hbnd:=hp.bnd t4
   intro w13 hd13
   have e1113:=hd13.upd
   have hs13:=e1113.size
   have g13:=Ext.get e1113 g11
   have hll:∀ b,a3=some ⟨b,0,none⟩->w2.heap.size<=b/\b<v.heap.size:=fun b hb=>by
    have h1:=hch.lt hb
    obtain ⟨_,_,_,h3⟩:=hch
    exact ⟨(h3 b hb).1,h1⟩
   have u7_13:Upd F w7 w13:=(hu9.then he11).then e1113
   have hrest13:SliceAt factR w13 G a4 ((leavesG sz l).drop i).flatten:=(hrest.ext he7).upd u7_13 fun b hb=>(hG b hb).1
   have hch13:ListAt childR NoB w2.heap.size w13 a3 c3 T.api_Child ch:=(hch.ext he7).upd u7_13 fun x hx=>⟨by have:=hw.low x hx;omega,fun h=>h⟩
   refine ⟨fun z=>Upd (fun b=>a3=some ⟨b,0,none⟩) w13 z,Upd.refl _ _,?_⟩
   refine SliceAt.idx (r:=factR) (i:=0) hrest13 rfl (by rw [hd0];simp) fun b' o' vs' ha' hrow' hR'' hGb'=>?_
   have hR3:factR.R w13 G vs' f0:=by
    have:((leavesG sz l).drop i).flatten[0]'(by rw [hd0];simp)=f0:=by simp only [hd0,List.getElem_cons_zero]
    rw [<- this];exact hR''
   obtain ⟨av,cv,rfl,hcv',hbv,hgv⟩:=factR_elim hR3
   have hr4:=RowAt.take hrow' 4
   have hb'G:=(hG b' hGb').2
   refine ⟨_,_,_,_,fun z hz=>(RowAt.upd hr4 hz fun p hp' e=>by cases hp';have h1:w2.heap.size<=b':=(hll _ e).1;omega).cells,_,fun z hz=>cell_of (hz.get g13 fun e=>by have:=(hll _ e).2;omega) rfl,_,fun z hz=>cell_of (hz.get g13 fun e=>by have:=(hll _ e).2;omega) rfl,fun B3 w14 hn14=>?_⟩
   have hs14:=hn14.size
   refine ⟨Upd.ext hn14.upd,?_⟩
   have hxc:childR.R w14 NoB (#[Value.int .i64 f0.key.ino,bv f0.key.what,.string f0.key.name,.int .i64 f0.key.chunk,.int .i64 y.2.1.block,.int .i64 y.2.1.page]:Array Value).toList ⟨f0.key,y.2.1.block,y.2.1.page⟩:=rfl
   refine ListAt.push' (r:=childR) (hch13.ext hn14.upd) hxc (fun b hb=>hb.elim) hn14 rfl rfl (by omega) (by decide) (by omega) fun a7 c7 w15 hu15 hl15=>?_
   have hu1315:Upd (fun b=>a3=some ⟨b,0,none⟩) w13 w15:=(Upd.ext hn14.upd).trans hu15
   refine ⟨hu1315,?_⟩
   have hrest15:SliceAt factR w15 G a4 ((leavesG sz l).drop i).flatten:=hrest13.upd hu1315 fun b hb e=>by have:=(hG b hb).2;have:=(hll b e).1;omega
   have hW15:W y.1 w15:=hw.keep (hw.keep hW11 e1113 fun x hx=>hx.elim) hu1315 fun b hb=>by have:=(hll b hb).1;omega
   have huv15:Upd (fun x=>F x\/w2.heap.size<=x) w2 w15:=((huv.then he7).trans (u7_13.mono fun x _ hx=>.inl hx)).trans (hu1315.mono fun b _ hb=>.inr (hll b hb).1)
   refine slice_behind (r:=factR) hrest15 rfl hc4 (by rw [hdc,List.length_append];omega) fun a8 hr8 hc8=>?_
   have hdrop:((leavesG sz l).drop i).flatten.drop g.length=((leavesG sz l).drop (i+1)).flatten:=by rw [hdc,List.drop_left]
   rw [hdrop] at hr8 hc8 ⊢
   rw [hff] at hps
   refine ⟨⟨i+1,y.1,_,rfl,hi',rfl,by rw [List.length_append,hci];rfl,?_,fun x hx=>?_,hl15,rfl,hc8,hr8,hps (by omega),t3,hW15,huv15⟩,meas hi'⟩
   .rw [List.map_append,hck,hsucc,hff];rfl
   .rcases List.mem_append.1 hx with hx | hx
    .exact hcb x hx
    .rw [List.mem_singleton.1 hx];exact hbnd
 have hil:i=(leavesG sz l).length:=by omega
 subst hil
 rw [List.drop_of_length_le (by rw [hplen];exact Nat.le_refl _)] at hpa
 rw [List.take_length] at hck
 have hpa':putAll put (leafPages sz l) s0 []=(st,ch,0):=hpa
 rw [hpa',if_neg (by simp)] at hr
 dsimp only at hr
 have hfk:∀ k∈(leavesG sz l).map firstF,k.may=true:=fun k hk=>by
  obtain ⟨g,hg,rfl⟩:=List.mem_map.1 hk
  cases hgc:g with
  | nil=>exact absurd hgc (hgok g hg).ne
  | cons f0 t0=>exact (fact_may (hl.may f0 (hmem g hg f0 (by rw [hgc];simp)))).1
 have hfo:OrdBy (fun k:Key=>k) ((leavesG sz l).map firstF):=by
  have hfm:((leavesG sz l).map (List.map Fact.key)).flatten=l.map Fact.key:=by rw [<- List.map_flatten,hfl]
  have hsub:=heads_sublist (z:=Key.zero) (gs:=(leavesG sz l).map (List.map Fact.key)) fun g hg=>by
   obtain ⟨g',hg',rfl⟩:=List.mem_map.1 hg
   simpa using (hgok g' hg').ne
  rw [hfm,List.map_map] at hsub
  have he:((fun g:List Key=>g.head?.getD Key.zero) ∘ List.map Fact.key)=firstF:=by funext g;exact firstF_map g
  rw [he] at hsub
  exact List.Pairwise.sublist hsub (List.pairwise_map.2 hl.sorted)
 have hcok:ChOk ch:=ChOk.of hck hfk hfo hcb
 have hgne:(leavesG sz l)≠[]:=fun e=>by rw [e] at hfl;exact hne hfl.symm
 have hgpos:1<=(leavesG sz l).length:=List.length_pos_iff.2 hgne
 have hpl1:(planI sz l).length<=c1:=hc1
 refine slice_behind (r:=rowsR) (j:=1) hpl rfl hpl1 (by rw [hplan];simp) fun a9 hl9 _=>?_
 have hd1:(planI sz l).drop 1=planUpI sz ((leavesG sz l).length+1) ((leavesG sz l).map firstF):=by rw [hplan];rfl
 rw [hd1,<- hck] at hl9 ⊢
 rw [hci] at hr
 have hI':I (2 * ch.length+m) st:=hp.less hIs (by omega)
 have hLlen:∀ (n:Nat) (ks:List Key),(planUpI sz n ks).length<=n:=by
  intro n
  induction n with
  | zero=>intro ks;exact Nat.le_refl _
  | succ n ih =>
   intro ks
   unfold planUpI
   split
   .exact Nat.zero_le _
   .simp only [List.length_cons]
    have:=ih ((cutG (fun k:Key=>k) innerLen (roomT sz) 2 ks).map firstK)
    omega
 have hLl:=hLlen ((leavesG sz l).length+1) (ch.map Child.key)
 have hG1v:∀ b,G1 b->b<w2.heap.size/\¬ F b:=fun b hb=>⟨(hG1 b hb).2,hGF b hb⟩
 obtain ⟨F0,hF0⟩: ∃ F0,F0=(leavesG sz l).length+1:=⟨_,rfl⟩
 rw [<- hF0] at hr hl9 hLl ⊢
 obtain ⟨L,hL⟩: ∃ L,L=planUpI sz F0 (ch.map Child.key):=⟨_,rfl⟩
 rw [<- hL] at hl9 hLl ⊢
 refine ⟨fun a10 l10 c10 x z=>∃ (j f:Nat) (st:σ) (ch:List Child),x=j/\j<=L.length/\l10=ch.length/\ch.length<=c10/\SliceAt childR z (fun b=>w2.heap.size<=b/\b<z.heap.size) a10 ch/\ChOk ch/\ch≠[]/\ch.length<=f/\ch.length<1000000/\L.drop j=planUpI sz f (ch.map Child.key)/\r=layUp put sz f st ch/\I (2 * ch.length+m) st/\W st z/\Upd (fun x=>F x\/w2.heap.size<=x) w2 z,fun _ _ _ x _=>((L.length:Int) - x).toNat,
  ⟨0,F0,st,ch,rfl,by omega,rfl,hch.cap,?_,hcok,fun e=>by rw [e] at hci;simp at hci;omega,by omega,by omega,by rw [List.drop_zero];exact hL,hr,hI',hWs,huv⟩,?_⟩
 .obtain ⟨G3,hsl3,hG3⟩:=hch.slice
  exact hsl3.mono fun b hb=>⟨by rcases (hG3 b hb).1 with h | h;exact h;exact h.elim,(hG3 b hb).2⟩
 clear hr hcok hI' hck hcb hch hpa hpa' hIs hWs huv hrest hsv gv hwv hL hci
 rintro a10 l10 c10 x z ⟨j,f,st,ch,rfl,hj,rfl,hc10,hch,hcok,hchne,hcf,hcl,hLj,hr,hIs,hWs,huz⟩
 have hsz:=huz.size
 have gz:z.heap[B1]?=some (.cells #[.int .i64 0,.int .i64 0] T.api_Place (0,0)):=huz.get g2 fun hx=>by
  rcases hx with hx | hx
  .have:=hw.low _ hx;omega
  .omega
 have hwz:Upd F w z:=(Upd.ext e2).over huz fun x hx=>by
  rcases hx with hx | hx
  .exact .inl hx
  .exact .inr (by omega)
 have hchpos:1<=ch.length:=List.length_pos_iff.2 hchne
 obtain ⟨f,rfl⟩: ∃ f',f=f'+1:=⟨f - 1,by omega⟩
 refine br_dec (fun hlt=>?_) fun hge=>?_
 .have hj':j<L.length:=by omega
  have ewj:i64.wrap ((j:Int)+1)=((j+1:Nat):Int):=w64 (by omega) (by omega)
  simp only [ewj]
  have hLd:L.drop j=L[j] :: L.drop (j+1):=List.drop_eq_getElem_cons hj'
  have h2:¬ ch.length<=1:=fun h1=>by
   rw [planUpI_small (by rw [List.length_map];exact h1),hLd] at hLj
   cases hLj
  unfold planUpI at hLj
  rw [if_neg (by rw [List.length_map];exact h2),hLd] at hLj
  have hcm:cutG (fun k:Key=>k) innerLen (roomT sz) 2 (ch.map Child.key)=(innerG sz ch).map (List.map Child.key):=cutG_map Child.key (fun _=>rfl) (fun _=>rfl) ch
  rw [hcm,lensI_map,List.map_map] at hLj
  have hfc:(firstK ∘ List.map Child.key)=firstC:=by funext g;exact firstC_map g
  rw [hfc] at hLj
  obtain ⟨hLj1,hLj2⟩:=List.cons.inj hLj
  have hlen18:∀ x∈ch,innerLen x.key<=18:=fun x hx=>innerLen_le (child_may (hcok.may x hx)).1
  obtain ⟨hgfl,hgok2⟩:=cutG_ok (key:=Child.key) (len:=fun x=>innerLen x.key) (room:=roomT sz) (least:=2) (l:=ch) (fun x hx=>by have:=hlen18 x hx;unfold roomT;omega)
  have hgtwo:=cutG_two (key:=Child.key) (len:=fun x=>innerLen x.key) (room:=roomT sz) (least:=2) (Nat.le_refl _) (l:=ch) (fun x hx=>by have:=hlen18 x hx;unfold roomT;omega)
  have hgne2:=cutG_ne (key:=Child.key) (len:=fun x=>innerLen x.key) (room:=roomT sz) (least:=2) (l:=ch) (fun x hx=>by have:=hlen18 x hx;unfold roomT;omega) hchne
  change (innerG sz ch).flatten=ch at hgfl
  change ∀ g∈innerG sz ch,_ at hgok2
  change 2 * (innerG sz ch).length<=_ at hgtwo
  change innerG sz ch≠[] at hgne2
  have hip:innerPages sz ch=(innerG sz ch).map fun g=>(firstC g,(putInner sz g).1):=rfl
  have hr':r=if (putAll put (innerPages sz ch) st []).2.2≠0 then ((putAll put (innerPages sz ch) st []).1,noPlace,(putAll put (innerPages sz ch) st []).2.2) else layUp put sz f (putAll put (innerPages sz ch) st []).1 (putAll put (innerPages sz ch) st []).2.1:=by
   rw [hr]
   conv=>lhs;unfold layUp
   rw [if_neg h2]
  have hmem2:∀ g∈innerG sz ch,∀ x∈g,x∈ch:=fun g hg x hx=>by rw [<- hgfl];exact List.mem_flatten.2 ⟨g,hg,hx⟩
  have hgo2:∀ g∈innerG sz ch,OrdBy Child.key g:=fun g hg=>by
   have hs:=hcok.ord
   obtain ⟨a,b,e⟩:=List.append_of_mem hg
   rw [<- hgfl,e,List.flatten_append,List.flatten_cons] at hs
   exact (List.pairwise_append.1 (List.pairwise_append.1 hs).2.1).1
  have hput2:∀ g∈innerG sz ch,(putInner sz g).2=0/\(putInner sz g).1.length=sz:=fun g hg=>by
   obtain ⟨q1,q2,_⟩:=putInner_ok s1 s2 (fun x hx=>hcok.may x (hmem2 g hg x hx)) (hgo2 g hg) (hgok2 g hg)
   exact ⟨q1,q2⟩
  have hgl2:=gs_len (gs:=innerG sz ch) fun g hg=>(hgok2 g hg).ne
  rw [hgfl] at hgl2
  have hplen2:(innerPages sz ch).length=(innerG sz ch).length:=by rw [hip,List.length_map]
  have hkeys2:∀ k∈(innerG sz ch).map firstC,k.may=true:=fun k hk=>by
   obtain ⟨g,hg,rfl⟩:=List.mem_map.1 hk
   cases hgc:g with
   | nil=>exact absurd hgc (hgok2 g hg).ne
   | cons f0 t0=>exact (child_may (hcok.may f0 (hmem2 g hg f0 (by rw [hgc];simp)))).1
  have hord2:OrdBy (fun k:Key=>k) ((innerG sz ch).map firstC):=by
   have hfm:((innerG sz ch).map (List.map Child.key)).flatten=ch.map Child.key:=by rw [<- List.map_flatten,hgfl]
   have hsub:=heads_sublist (z:=Key.zero) (gs:=(innerG sz ch).map (List.map Child.key)) fun g hg=>by
    obtain ⟨g',hg',rfl⟩:=List.mem_map.1 hg
    simpa using (hgok2 g' hg').ne
   rw [hfm,List.map_map] at hsub
   have he:((fun g:List Key=>g.head?.getD Key.zero) ∘ List.map Child.key)=firstC:=by funext g;exact firstC_map g
   rw [he] at hsub
   exact List.Pairwise.sublist hsub (List.pairwise_map.2 hcok.ord)
  have hl9z:SliceAt rowsR z G1 a9 L:=hl9.upd huz fun b hb hx=>by
   rcases hx with hx | hx
   .exact (hG1v b hb).2 hx
   .have:=(hG1v b hb).1;omega
  refine SliceAt.idx (r:=rowsR) hl9z rfl hj' fun b o vs ha hrow hR' hG'=>?_
  obtain ⟨a11,c11,rfl,hc11,hcnt2⟩: rowsR.R z G1 vs (lensI (innerG sz ch)):=by rw [<- hLj1];exact hR'
  refine ⟨_,_,_,hrow.cells.1,?_⟩
  rw [lensI_length]
  generalize hGS:innerG sz ch=gs at *
  refine ⟨fun a12 l12 c12 a13 l13 c13 x v=>∃ (i:Nat) (st':σ) (up:List Child),x=i/\i<=gs.length/\l13=up.length/\up.length=i/\up.map Child.key=(gs.take i).map firstC/\(∀ x∈up,0<=x.block/\x.block<=255/\0<=x.page/\x.page<=255)/\ListAt childR NoB z.heap.size v a13 c13 T.api_Child up/\
    l12=(gs.drop i).flatten.length/\l12<=c12/\SliceAt childR v (fun b=>w2.heap.size<=b/\b<z.heap.size) a12 (gs.drop i).flatten/\putAll put (innerPages sz ch) st []=putAll put ((innerPages sz ch).drop i) st' up/\I ((gs.length - i)+(2 * gs.length+m)) st'/\W st' v/\Upd (fun x=>F x\/z.heap.size<=x) z v,fun _ _ _ _ _ _ x _=>((gs.length:Int) - x).toNat,
   ⟨0,st,[],rfl,by omega,rfl,rfl,rfl,(fun x hx=>by cases hx),ListAt.nil _ _,by rw [List.drop_zero,hgfl],hc10,by rw [List.drop_zero,hgfl];exact hch,by rw [List.drop_zero],hp.less hIs (by omega),hWs,Upd.refl _ _⟩,?_⟩
  rintro a12 l12 c12 a13 l13 c13 x v ⟨i,st',up,rfl,hi,rfl,hui,huk,hub,hup,rfl,hc12,hrest,hpa,hIi,hWi,huv⟩
  have hsv:=huv.size
  have gv:v.heap[B1]?=some (.cells #[.int .i64 0,.int .i64 0] T.api_Place (0,0)):=huv.get gz fun hx=>by
   rcases hx with hx | hx
   .have:=hw.low _ hx;omega
   .omega
  have hwv:Upd F w v:=hwz.over huv fun x hx=>by
   rcases hx with hx | hx
   .exact .inl hx
   .exact .inr (by omega)
  have hw2v:Upd (fun x=>F x\/w2.heap.size<=x) w2 v:=huz.trans (huv.mono fun x _ hx=>by rcases hx with hx | hx;exact .inl hx;exact .inr (by omega))
  refine br_dec (fun hlt=>?_) fun hge=>?_
  .have hi':i<gs.length:=by omega
   have ew:i64.wrap ((i:Int)+1)=((i+1:Nat):Int):=w64 (by omega) (by omega)
   simp only [ew]
   have hil:i<(lensI gs).length:=by rw [lensI_length];exact hi'
   have hcv:SliceAt intR v G1 a11 (lensI gs):=hcnt2.upd huv fun b hb hx=>by
    rcases hx with hx | hx
    .exact (hG1v b hb).2 hx
    .have:=(hG1v b hb).1;omega
   refine SliceAt.idx (r:=intR) hcv (lensI_length _).symm hil fun b o vs ha hrow hR' hG'=>?_
   obtain rfl:vs=[.int .i64 ((lensI gs)[i])]:=hR'
   have hx:(lensI gs)[i]=((gs[i].length:Nat):Int):=by simp [lensI]
   refine ⟨_,(hrow.cells).1,?_⟩
   rw [hx]
   have hdc:=flatten_drop_cons hi'
   have hgm:gs[i]∈gs:=List.getElem_mem hi'
   have hgi:=hgok2 _ hgm
   have hpi:(innerPages sz ch).drop i=(firstC gs[i],(putInner sz gs[i]).1) :: (innerPages sz ch).drop (i+1):=by
    rw [List.drop_eq_getElem_cons (by rw [hplen2];exact hi')]
    congr 1
    simp [hip]
   have hsucc:(gs.take (i+1)).map firstC=(gs.take i).map firstC ++ [firstC gs[i]]:=by rw [List.take_succ_eq_append_getElem hi',List.map_append];rfl
   generalize hgg:gs[i]=g at *
   obtain ⟨f0,t0,hg0⟩: ∃ f0 t0,g=f0 :: t0:=by
    cases hgc:g with
    | nil=>exact absurd hgc hgi.ne
    | cons f0 t0=>exact ⟨f0,t0,rfl⟩
   have hff:firstC g=f0.key:=by rw [hg0];rfl
   have hd0:(gs.drop i).flatten=f0 :: (t0 ++ (gs.drop (i+1)).flatten):=by rw [hdc,hg0];rfl
   have htake:(gs.drop i).flatten.take g.length=g:=by rw [hdc,List.take_left]
   have hg1:1<=g.length:=List.length_pos_iff.2 hgi.ne
   refine slice_to (by omega) (by rw [hdc,List.length_append];omega) hc12 ?_
   rw [Int.toNat_natCast]
   have hgsl:SliceAt childR v (fun b=>w2.heap.size<=b/\b<z.heap.size) a12 g:=by have:=hrest.take g.length;rwa [htake] at this
   refine (leaf_PutInner_spec (sz:=sz) (fun x hx=>hcok.may x (hmem2 g hgm x hx)) (hgo2 g hgm) hg1 hgi.most hgsl).mono ?_
   rintro _ w7 ⟨a6,c6,rfl,hb6,hf6,he7,hc6⟩
   obtain ⟨q1,q2⟩:=hput2 g hgm
   have hs7:=he7.size
   refine ⟨_,_,_,_,rfl,br_ne (fun h=>absurd (by rw [q1];rfl) h) fun _=>?_⟩
   have hW7:=hw.keep hWi he7 fun x hx=>hx.elim
   have hin:(gs.length - i)+(2 * gs.length+m)=((gs.length - (i+1))+(2 * gs.length+m))+1:=by omega
   rw [hin] at hIi
   refine hw.call hW7 hIi (by omega) q2 hb6 (fun p hp=>by have:=hf6 p hp;omega) hc6 _ fun w9 hu9 hW9=>?_
   obtain ⟨t1,t2⟩:=hp.step hIi q2
   rw [hpi] at hpa
   obtain ⟨y,hy⟩: ∃ y,y=put st' (putInner sz g).1:=⟨_,rfl⟩
   have hpe:y.2.2≠0->putAll put (innerPages sz ch) st []=(y.1,[],y.2.2):=fun hne=>by
    rw [hpa,hy]
    exact putAll_err (x:=(firstC g,(putInner sz g).1)) (by rw [<- hy];exact hne)
   have hps:y.2.2=0->putAll put (innerPages sz ch) st []=putAll put ((innerPages sz ch).drop (i+1)) y.1 (up ++ [⟨firstC g,y.2.1.block,y.2.1.page⟩]):=fun h0=>by
    rw [hpa,hy]
    exact putAll_step (x:=(firstC g,(putInner sz g).1)) (by rw [<- hy];exact h0)
   rw [<- hy] at t1 t2 hW9 ⊢
   have hs9:=hu9.size
   have hwv9:Upd F w w9:=(hwv.then he7).trans hu9
   refine ⟨_,_,_,rfl,new_put (vs:=y.2.1.vals) rfl fun B2 w11 hb11 hs11 he11 g11=>?_⟩
   have gv11:w11.heap[B1]?=some (.cells #[.int .i64 0,.int .i64 0] T.api_Place (0,0)):=Ext.get he11 (hu9.get (Ext.get he7 gv) fun hx=>by have:=hw.low _ hx;omega)
   have hW11:=hw.keep hW9 he11 fun x hx=>hx.elim
   refine br_ne (fun hne=>?_) fun h0=>?_
   .refine ret (p:=noPlace) rfl gv11 hW11 (hwv9.then he11) ?_
    rw [hr',hpe (by omega),if_pos (show y.2.2≠0 by omega)]
   .obtain ⟨t3,t4⟩:=t2 (by omega)
    have hbnd:=hp.bnd t4
    intro w13 hd13
    have e1113:=hd13.upd
    have hs13:=e1113.size
    have g13:=Ext.get e1113 g11
    have hll:∀ b,a13=some ⟨b,0,none⟩->z.heap.size<=b/\b<v.heap.size:=fun b hb=>by
     have h1:=hup.lt hb
     obtain ⟨_,_,_,h3⟩:=hup
     exact ⟨(h3 b hb).1,h1⟩
    have u7_13:Upd F w7 w13:=(hu9.then he11).then e1113
    have hrest13:SliceAt childR w13 (fun b=>w2.heap.size<=b/\b<z.heap.size) a12 (gs.drop i).flatten:=(hrest.ext he7).upd u7_13 fun b hb hf=>by have:=hw.low b hf;omega
    have hup13:ListAt childR NoB z.heap.size w13 a13 c13 T.api_Child up:=(hup.ext he7).upd u7_13 fun x hx=>⟨by have:=hw.low x hx;omega,fun h=>h⟩
    refine ⟨fun z'=>Upd (fun b=>a13=some ⟨b,0,none⟩) w13 z',Upd.refl _ _,?_⟩
    refine SliceAt.idx (r:=childR) (i:=0) hrest13 rfl (by rw [hd0];simp) fun b' o' vs' ha' hrow' hR'' hGb'=>?_
    have hR3:vs'=childVs f0:=by
     have:(gs.drop i).flatten[0]'(by rw [hd0];simp)=f0:=by simp only [hd0,List.getElem_cons_zero]
     rw [<- this];exact hR''
    subst hR3
    have hr4:=RowAt.take hrow' 4
    refine ⟨_,_,_,_,fun z' hz=>(RowAt.upd hr4 hz fun p hp' e=>by cases hp';have h1:z.heap.size<=b':=(hll _ e).1;have h2:b' < z.heap.size:=hGb'.2;omega).cells,_,fun z' hz=>cell_of (hz.get g13 fun e=>by have:=(hll _ e).2;omega) rfl,_,fun z' hz=>cell_of (hz.get g13 fun e=>by have:=(hll _ e).2;omega) rfl,fun B3 w14 hn14=>?_⟩
    have hs14:=hn14.size
    refine ⟨Upd.ext hn14.upd,?_⟩
    have hxc:childR.R w14 NoB (#[Value.int .i64 f0.key.ino,bv f0.key.what,.string f0.key.name,.int .i64 f0.key.chunk,.int .i64 y.2.1.block,.int .i64 y.2.1.page]:Array Value).toList ⟨f0.key,y.2.1.block,y.2.1.page⟩:=rfl
    refine ListAt.push' (r:=childR) (hup13.ext hn14.upd) hxc (fun b hb=>hb.elim) hn14 rfl rfl (by omega) (by decide) (by omega) fun a7 c7 w15 hu15 hl15=>?_
    have hu1315:Upd (fun b=>a13=some ⟨b,0,none⟩) w13 w15:=(Upd.ext hn14.upd).trans hu15
    refine ⟨hu1315,?_⟩
    have hrest15:SliceAt childR w15 (fun b=>w2.heap.size<=b/\b<z.heap.size) a12 (gs.drop i).flatten:=hrest13.upd hu1315 fun b hb e=>by have:=(hll b e).1;omega
    have hW15:W y.1 w15:=hw.keep (hw.keep hW11 e1113 fun x hx=>hx.elim) hu1315 fun b hb=>by have:=(hll b hb).1;omega
    have huv15:Upd (fun x=>F x\/z.heap.size<=x) z w15:=((huv.then he7).trans (u7_13.mono fun x _ hx=>.inl hx)).trans (hu1315.mono fun b _ hb=>.inr (hll b hb).1)
    refine slice_behind (r:=childR) hrest15 rfl hc12 (by rw [hdc,List.length_append];omega) fun a8 hr8 hc8=>?_
    have hdrop:(gs.drop i).flatten.drop g.length=(gs.drop (i+1)).flatten:=by rw [hdc,List.drop_left]
    rw [hdrop] at hr8 hc8 ⊢
    rw [hff] at hps
    refine ⟨⟨i+1,y.1,_,rfl,hi',rfl,by rw [List.length_append,hui];rfl,?_,fun x hx=>?_,hl15,rfl,hc8,hr8,hps (by omega),t3,hW15,huv15⟩,meas hi'⟩
    .rw [List.map_append,huk,hsucc,hff];rfl
    .rcases List.mem_append.1 hx with hx | hx
     .exact hub x hx
     .rw [List.mem_singleton.1 hx];exact hbnd
  .have hil:i=gs.length:=by omega
   subst hil
   rw [List.drop_of_length_le (by rw [hplen2];exact Nat.le_refl _)] at hpa
   have hpa':putAll put (innerPages sz ch) st []=(st',up,0):=hpa
   rw [hpa',if_neg (by simp)] at hr'
   rw [List.take_length] at huk
   obtain ⟨G3,hsl3,hG3⟩:=hup.slice
   refine ⟨⟨j+1,f,st',up,rfl,hj',rfl,hup.cap,hsl3.mono fun b hb=>⟨by rcases (hG3 b hb).1 with h | h;omega;exact h.elim,(hG3 b hb).2⟩,ChOk.of huk hkeys2 hord2 hub,fun e=>hgne2 (List.eq_nil_of_length_eq_zero (by rw [<- hui,e];rfl)),by omega,by omega,by rw [hLj2,huk],hr',hp.less hIi (by omega),hWi,hw2v⟩,meas hj'⟩
 .have hjl:j=L.length:=by omega
  subst hjl
  rw [List.drop_of_length_le (Nat.le_refl _)] at hLj
  have h1:ch.length<=1:=by
   rcases Nat.lt_or_ge 1 ch.length with h | h
   .exfalso
    unfold planUpI at hLj
    rw [if_neg (by rw [List.length_map];omega)] at hLj
    cases hLj
   .exact h
  obtain ⟨x,rfl⟩: ∃ x,ch=[x]:=List.length_eq_one_iff.1 (by omega)
  intro w17 hd17
  have e17:=hd17.upd
  have hch17:=hch.ext e17
  refine ⟨fun z'=>Ext w17 z',Upd.refl _ _,SliceAt.idx (r:=childR) (i:=0) hch17 rfl (by simp) fun b' o' vs' ha' hrow' hR'' hGb'=>?_⟩
  obtain rfl:vs'=childVs x:=hR''
  simp only [add_lit]
  refine ⟨_,fun z' hz=>row_cell (RowAt.ext hrow' hz) (j:=4) rfl,SliceAt.idx (r:=childR) (i:=0) hch17 rfl (by simp) fun b2 o2 vs2 ha2 hrow2 hR2 hGb2=>?_⟩
  obtain rfl:vs2=childVs x:=hR2
  refine ⟨_,fun z' hz=>row_cell (RowAt.ext hrow2 hz) (j:=5) rfl,?_⟩
  refine ret (p:=⟨x.block,x.page⟩) (e:=0) rfl (Ext.get e17 gz) (hw.keep hWs e17 fun x hx=>hx.elim) (hwz.then e17) ?_
  rw [hr]
  unfold layUp
  rw [if_pos (by simp)]
  rfl
end
end
section
open Go.WideMaps Go.Proofs
abbrev strB (b:List UInt8):Value:=.string ⟨b.toArray⟩
theorem strB_inj {a b:List UInt8} (h:strB a=strB b):a=b:=by
 simp only [strB,Value.string.injEq,ByteArray.mk.injEq] at h
 simpa using congrArg Array.toList h
theorem str_law:KeyLaw Tryz.prog 9:=string_law Tryz.underlying9
theorem str_key {b:List UInt8} (h:b.length<=100000):∃ l,keyOf Tryz.prog 9 (strB b)=some l:=by
 have hm:100000<=maxLen:=by decide
 exact ⟨_,keyOf_string_mk Tryz.underlying9 (by show b.toArray.size<=_;rw [List.size_toArray];omega)⟩
def PMapIs (es:Array MapEntry) (m:PageMap):Prop:=es.toList.map (fun e=>(e.key,e.val))=m.map fun x=>(strB x.1,placeV x.2)
structure PMapOk (m:PageMap):Prop where
 nodup:(m.map fun x=>x.1).Nodup
 small:∀ x∈m,x.1.length<=100000
theorem PMapIs.at_ {es:Array MapEntry} {m:PageMap} (h:PMapIs es m) {j:Nat} {e:MapEntry} (he:es.toList[j]?=some e):∃ x,m[j]?=some x/\e.key=strB x.1/\e.val=placeV x.2:=by
 have h1:(es.toList.map fun e=>(e.key,e.val))[j]?=some (e.key,e.val):=by rw [List.getElem?_map,he];rfl
 rw [h,List.getElem?_map] at h1
 cases hx:m[j]? with
 | none=>rw [hx] at h1;cases h1
 | some x =>
  rw [hx] at h1
  have:=Option.some.inj h1
  exact ⟨x,rfl,(congrArg Prod.fst this).symm,(congrArg Prod.snd this).symm⟩
theorem PMapIs.mem {es:Array MapEntry} {m:PageMap} (h:PMapIs es m) {e:MapEntry} (he:e∈es.toList):∃ x∈m,e.key=strB x.1/\e.val=placeV x.2:=by
 obtain ⟨j,hj⟩:=List.mem_iff_getElem?.1 he
 obtain ⟨x,hx,h1,h2⟩:=h.at_ hj
 exact ⟨x,List.mem_of_getElem? hx,h1,h2⟩
theorem PMapIs.keys {es:Array MapEntry} {m:PageMap} (h:PMapIs es m) (ho:PMapOk m):∀ e∈es.toList,∃ l,keyOf Tryz.prog 9 e.key=some l:=by
 intro e he
 obtain ⟨x,hx,h1,_⟩:=h.mem he
 rw [h1]
 exact str_key (ho.small x hx)
theorem getM_none {m:PageMap} {b:List UInt8} (h:getM m b=none):∀ x∈m,x.1≠b:=by
 intro x hx e
 unfold getM at h
 rw [Option.map_eq_none_iff,List.find?_eq_none] at h
 exact h x hx (by simp [e])
theorem getM_some {m:PageMap} {b:List UInt8} {p:Place} (h:getM m b=some p):(b,p)∈m:=by
 unfold getM at h
 rw [Option.map_eq_some_iff] at h
 obtain ⟨x,hx,rfl⟩:=h
 have h1:=List.find?_some hx
 have h2:=List.mem_of_find?_eq_some hx
 simp only [decide_eq_true_eq] at h1
 subst h1
 exact h2
theorem page_none {es:Array MapEntry} {m:PageMap} {b:List UInt8} (h:PMapIs es m) (ho:PMapOk m) (hb:b.length<=100000) (hno:getM m b=none) (emp:Bool):foundP prog T.string emp (strB b) es none:=by
 intro w
 obtain ⟨l,hl⟩:=str_key hb
 refine ⟨str_law.check w emp hl,?_⟩
 rcases str_law.find w hl es.toList (h.keys ho) with ⟨h1,_⟩| ⟨j,e,_,h2,h3⟩
 .exact h1
 .exfalso
  obtain ⟨x,hx,e1,_⟩:=h.at_ h2
  exact getM_none hno x (List.mem_of_getElem? hx) (strB_inj (e1.symm.trans h3))
theorem page_some {es:Array MapEntry} {m:PageMap} {b:List UInt8} {p:Place} (h:PMapIs es m) (ho:PMapOk m) (hb:b.length<=100000) (hp:getM m b=some p):∃ j,m[j]?=some (b,p)/\∀ emp,foundP prog T.string emp (strB b) es (some (j,placeV p)):=by
 obtain ⟨j,hj⟩:=List.mem_iff_getElem?.1 (getM_some hp)
 refine ⟨j,hj,fun emp w=>?_⟩
 obtain ⟨l,hl⟩:=str_key hb
 refine ⟨str_law.check w emp hl,?_⟩
 rcases str_law.find w hl es.toList (h.keys ho) with ⟨_,h2⟩| ⟨i,e,h1,h2,h3⟩
 .exfalso
  have hlt:j<es.toList.length:=by
   have h1:=congrArg List.length h
   rw [List.length_map,List.length_map] at h1
   have:=(List.getElem?_eq_some_iff.1 hj).1
   omega
  obtain ⟨x,hx,e1,_⟩:=h.at_ (List.getElem?_eq_getElem hlt)
  rw [hj] at hx
  cases hx
  exact h2 _ (List.getElem_mem hlt) e1
 .obtain ⟨x,hx,e1,e2⟩:=h.at_ h2
  have hxb:x.1=b:=strB_inj (e1.symm.trans h3)
  have hij:i=j:=by
   refine nodup_at ho.nodup (i:=i) (j:=j) (x:=b) ?_ ?_
   .rw [List.getElem?_map,hx];exact congrArg some hxb
   .rw [List.getElem?_map,hj];rfl
  subst hij
  rw [hj] at hx
  cases hx
  rw [e2] at h1
  exact h1
def MapAt (w:World) (G:Nat->Prop) (mp:Option Nat) (m:PageMap):Prop:=match mp with
 | none=>m=[]
 | some r=>G r/\∃ es ck,w.heap[r]?=some (.map es ck)/\PMapIs es m
theorem MapAt.upd {w w':World} {G F:Nat->Prop} {mp:Option Nat} {m:PageMap} (h:MapAt w G mp m) (k:Upd F w w') (hF:∀ b,G b->¬ F b):MapAt w' G mp m:=by
 cases mp with
 | none=>exact h
 | some r =>
  obtain ⟨hg,es,ck,h1,h2⟩:=h
  exact ⟨hg,es,ck,k.get h1 (hF r hg),h2⟩
theorem MapAt.ext {w w':World} {G:Nat->Prop} {mp:Option Nat} {m:PageMap} (h:MapAt w G mp m) (k:Ext w w'):MapAt w' G mp m:=h.upd k fun _ _ h=>h
theorem MapAt.mono {w:World} {G G':Nat->Prop} {mp:Option Nat} {m:PageMap} (h:MapAt w G mp m) (hg:∀ b,G b->G' b):MapAt w G' mp m:=by
 cases mp with
 | none=>exact h
 | some r=>exact ⟨hg r h.1,h.2⟩
theorem page_got {w:World} {G:Nat->Prop} {mp:Option Nat} {m:PageMap} {b:List UInt8} (h:MapAt w G mp m) (ho:PMapOk m) (hb:b.length<=100000):gotP prog T.string mp (strB b) (placeV noPlace) w (placeV ((getM m b).getD noPlace)) (getM m b).isSome:=by
 cases mp with
 | none =>
  have hm:m=[]:=h
  subst hm
  refine ⟨rfl,rfl,?_⟩
  exact page_none (es:=#[]) (m:=[]) (b:=b) rfl ho hb rfl true
 | some r =>
  obtain ⟨_,es,ck,h1,h2⟩:=h
  cases hg:getM m b with
  | none=>exact ⟨es,ck,none,h1,page_none h2 ho hb hg _,rfl,rfl⟩
  | some p =>
   obtain ⟨j,_,hj⟩:=page_some h2 ho hb hg
   exact ⟨es,ck,some (j,placeV p),h1,hj _,rfl,rfl⟩
theorem any_iff {m:PageMap} {b:List UInt8}:(m.any fun x=>decide (x.1=b))=(getM m b).isSome:=by
 unfold getM
 rw [Option.isSome_map]
 induction m with
 | nil=>rfl
 | cons x m ih =>
  rw [List.any_cons,List.find?_cons]
  cases h:decide (x.1=b) with
  | true=>rfl
  | false=>rw [Bool.false_or,ih]
theorem setM_none {m:PageMap} {b:List UInt8} {p:Place} (h:getM m b=none):setM m b p=m ++ [(b,p)]:=by
 unfold setM
 rw [any_iff,h]
 rfl
theorem setM_some {m:PageMap} {b:List UInt8} {p q:Place} (hn:(m.map fun x=>x.1).Nodup) (h:getM m b=some q) {j:Nat} (hj:m[j]?=some (b,q)):setM m b p=m.set j (b,p):=by
 have hlt:=(List.getElem?_eq_some_iff.1 hj).1
 unfold setM
 rw [any_iff,h,if_pos (show (some q).isSome=true from rfl)]
 refine List.ext_getElem? fun i=>?_
 rw [List.getElem?_map,List.getElem?_set]
 by_cases hij:j=i
 .subst hij
  rw [hj,if_pos rfl,if_pos hlt]
  simp
 .rw [if_neg hij]
  cases hx:m[i]? with
  | none=>rfl
  | some x =>
   simp only [Option.map_some]
   rw [if_neg]
   intro e
   refine hij (nodup_at hn (i:=j) (j:=i) (x:=b) ?_ ?_)
   .rw [List.getElem?_map,hj];rfl
   .rw [List.getElem?_map,hx];exact congrArg some e
theorem PMapOk.set {m:PageMap} (h:PMapOk m) {b:List UInt8} (hb:b.length<=100000) (p:Place):PMapOk (setM m b p):=by
 cases hg:getM m b with
 | none =>
  rw [setM_none hg]
  refine ⟨?_,fun x hx=>?_⟩
  .rw [List.map_append]
   refine List.nodup_append.2 ⟨h.nodup,by simp,fun x hx y hy=>?_⟩
   obtain ⟨z,hz,rfl⟩:=List.mem_map.1 hx
   have:y=b:=by simpa using hy
   rw [this]
   exact getM_none hg z hz
  .rcases List.mem_append.1 hx with hx | hx
   .exact h.small x hx
   .rw [List.mem_singleton.1 hx];exact hb
 | some q =>
  obtain ⟨j,hj⟩:=List.mem_iff_getElem?.1 (getM_some hg)
  rw [setM_some h.nodup hg hj]
  have hlt:=(List.getElem?_eq_some_iff.1 hj).1
  have hmm:(m.set j (b,p)).map (fun x=>x.1)=m.map fun x=>x.1:=by
   rw [List.map_set]
   refine List.ext_getElem? fun i=>?_
   rw [List.getElem?_set]
   split
   .rename_i e
    subst e
    rw [List.getElem?_map,hj,List.length_map,if_pos hlt]
    rfl
   .rfl
  refine ⟨by rw [hmm];exact h.nodup,fun x hx=>?_⟩
  have:x.1∈(m.set j (b,p)).map fun x=>x.1:=List.mem_map.2 ⟨x,hx,rfl⟩
  rw [hmm] at this
  obtain ⟨y,hy,e⟩:=List.mem_map.1 this
  rw [<- e]
  exact h.small y hy
theorem page_set {w:World} {r:Nat} {es:Array MapEntry} {ck:Nat} {m:PageMap} {b:List UInt8} {p:Place} (h1:w.heap[r]?=some (.map es ck)) (h2:PMapIs es m) (ho:PMapOk m) (hb:b.length<=100000) {K:World->Prop}
  (hk:∀ w' es' ck',Upd (·=r) w w'->w'.heap[r]?=some (.map es' ck')->PMapIs es' (setM m b p)->K w'):setP prog T.string (some r) (strB b) (placeV p) w K:=by
 cases hg:getM m b with
 | none =>
  refine ⟨es,ck,none,h1,page_none h2 ho hb hg _,?_⟩
  obtain ⟨hu,hg'⟩:=map_put (es':=es.push { key:=strB b,val:=placeV p,born:=ck }) (ck':=ck+1) h1
  refine hk _ _ _ hu hg' ?_
  rw [setM_none hg]
  unfold PMapIs
  rw [Array.toList_push,List.map_append,h2,List.map_append]
  rfl
 | some q =>
  obtain ⟨j,hj,hf⟩:=page_some h2 ho hb hg
  refine ⟨es,ck,some (j,placeV q),h1,hf _,fun w'=>?_,?_⟩
  .have hlt:j<es.toList.length:=by
    have h3:=congrArg List.length h2
    rw [List.length_map,List.length_map] at h3
    have:=(List.getElem?_eq_some_iff.1 hj).1
    omega
   obtain ⟨x,hx,e1,_⟩:=h2.at_ (List.getElem?_eq_getElem hlt)
   rw [hj] at hx
   cases hx
   have he:((es[j]?).map (·.key)).getD (strB b)=strB b:=by
    rw [<- Array.getElem?_toList,List.getElem?_eq_getElem hlt,Option.map_some,Option.getD_some]
    exact e1
   rw [he]
   obtain ⟨l,hl⟩:=str_key hb
   exact str_law.stays w' hl
  .obtain ⟨hu,hg'⟩:=map_put (es':=es.modify j fun e=>{ e with key:=strB b,val:=placeV p }) (ck':=ck) h1
   refine hk _ _ _ hu hg' ?_
   rw [setM_some ho.nodup hg hj]
   unfold PMapIs
   refine List.ext_getElem? fun i=>?_
   have h3:(es.toList.map fun e=>(e.key,e.val))[i]?=(m.map fun x=>(strB x.1,placeV x.2))[i]?:=by rw [h2]
   rw [List.getElem?_map,List.getElem?_map] at h3
   rw [List.getElem?_map,List.getElem?_map,List.getElem?_set,Array.getElem?_toList,Array.getElem?_modify]
   rw [Array.getElem?_toList] at h3
   have hlt:=(List.getElem?_eq_some_iff.1 hj).1
   by_cases hij:j=i
   .subst hij
    rw [if_pos rfl,if_pos rfl,if_pos hlt]
    cases hx:es[j]? with
    | none=>rw [hx,hj] at h3;cases h3
    | some e=>rfl
   .rw [if_neg hij,if_neg hij]
    exact h3
end
section
def PX (F X:Nat->Prop) (w:World) (M:PLoc) (P:Pool) (c:Chip):Prop:=∃ L G,PC w M P c L G/\(∀ x,PF M L x->F x)/\∀ x,G x->X x/\x<w.heap.size
section
variable {F X:Nat->Prop} {w w':World} {M:PLoc} {P:Pool} {c:Chip}
theorem PX.pin (h:PX F X w M P c):PIn F 0 w M P c:=by
 obtain ⟨L,G,h1,h2,h3⟩:=h
 exact ⟨L,G,h1,h2,fun x hx=>⟨Nat.zero_le _,(h3 x hx).2⟩⟩
theorem PX.upd {F':Nat->Prop} (h:PX F X w M P c) (k:Upd F' w w') (h1:∀ x,F x->¬ F' x) (h2:∀ x,X x->¬ F' x):PX F X w' M P c:=by
 obtain ⟨L,G,hc,hF,hG⟩:=h
 exact ⟨L,G,hc.upd k (fun x hx=>h1 x (hF x hx)) (fun x hx=>h2 x (hG x hx).1),hF,fun x hx=>⟨(hG x hx).1,Nat.lt_of_lt_of_le (hG x hx).2 k.size⟩⟩
theorem PX.ext (h:PX F X w M P c) (k:Ext w w'):PX F X w' M P c:=h.upd k (fun _ _ h=>h) fun _ _ h=>h
theorem pxTake (h:PX F X w M P c) {kind:UInt8} {era:Nat} (hera:era<4294967296) :
  CallsR prog K.pool_Pool_Take #[.pointer (some ⟨M.q,0,none⟩),bv kind,.int .u32 era] w fun v w' =>
   v= .tuple #[.int .i64 ((takePool P c kind era).block:Nat),.int .i64 ((takePool P c kind era).err:Nat)]/\Upd F w w'/\PX F X w' M (takePool P c kind era).pool (takePool P c kind era).chip:=by
 obtain ⟨L,G,hr,hF,hG⟩:=h
 refine (pool_Take_spec hr hera).mono ?_
 rintro v w' ⟨rfl,hu,L',hs,hp⟩
 exact ⟨rfl,hu.mono fun x _ hx=>hF x hx,L',G,hp,fun x hx=>hF x (by rw [PF.same hs] at hx;exact hx),fun x hx=>⟨(hG x hx).1,Nat.lt_of_lt_of_le (hG x hx).2 hu.size⟩⟩
theorem pxProgram (h:PX F X w M P c) (block page:Int) {a:Option Addr} {b:List UInt8} {cp:Nat} (hb:BytesAt w a b) (hap:∀ q,a=some q->¬ F q.block) :
  CallsR prog K.nand_Chip_Program #[.pointer (some ⟨M.p,0,none⟩),.int .i64 block,.int .i64 page,.slice a b.length cp] w fun v w'=>v= .int .i64 ((c.program block page b).2:Nat)/\Upd F w w'/\PX F X w' M P (c.program block page b).1:=by
 obtain ⟨L,G,hp,hF,hGG⟩:=h
 refine (nand_Program_spec hp.chip block page hb (fun q hq hm=>?_)).mono ?_
 .exact hap q hq (hF q.block (.inr (.inr (by
   simp only [List.mem_cons] at hm ⊢
   rcases hm with hm | hm
   .exact .inl hm
   .exact .inr (.inr hm)))))
 rintro _ w' ⟨hu,L',hs',hc,rfl⟩
 exact ⟨rfl,hu.mono fun x _ hx=>hF x (.inr (.inr hx)),L',G,hp.rechip hu hc hs' (Chip.program_geo _ _ _ _) (fun x hx=>(hp.apart x hx).2),fun x hx=>hF x (by rw [PF.same hs'] at hx;exact hx),fun x hx=>⟨(hGG x hx).1,Nat.lt_of_lt_of_le (hGG x hx).2 hu.size⟩⟩
end
section
variable {F X:Nat->Prop} {w w':World} {q:Nat} {M:PLoc} {s:LogS}
end
end
section
abbrev stemVs (M:PLoc) (s:StemS) (a:Option Addr) (c:Nat) (a2:Option Addr) (c2:Nat) (mp:Option Nat):List Value:=[.pointer (some ⟨M.q,0,none⟩),.int .u32 s.era,.slice a s.facts.length c,.slice a2 s.synced.length c2,.map mp,.int .i64 s.point.block,.int .i64 s.point.page,.int .u64 (s.number:Nat),.int .i64 s.block,.int .i64 (s.page:Nat)]
structure StemParts (F X:Nat->Prop) (w:World) (s:StemS) (a:Option Addr) (c:Nat) (a2:Option Addr) (c2:Nat) (mp:Option Nat) (G:Nat->Prop):Prop where
 facts:SliceAt factR w G a s.facts
 synced:SliceAt factR w G a2 s.synced
 pages:MapAt w G mp s.pages
 fc:s.facts.length<=c
 sc:s.synced.length<=c2
 low:∀ b,G b->X b/\¬ F b/\b<w.heap.size
structure StemIn (F X:Nat->Prop) (w:World) (q:Nat) (M:PLoc) (s:StemS):Prop where
 head:∃ a c a2 c2 mp,w.heap[q]?=some (.cells (stemVs M s a c a2 c2 mp).toArray T.stem_Stem (0,0))/\∃ G,StemParts F X w s a c a2 c2 mp G
 pool:PX F X w M s.pool s.chip
 out:¬ F q
 outX:¬ X q
 era:s.era<4294967296
 map:PMapOk s.pages
abbrev StemF (F:Nat->Prop) (q:Nat):Nat->Prop:=fun x=>F x\/x=q
section
variable {F X:Nat->Prop} {w w':World} {q:Nat} {M:PLoc} {s:StemS}
theorem StemParts.upd {F':Nat->Prop} {a:Option Addr} {c:Nat} {a2:Option Addr} {c2:Nat} {mp:Option Nat} {G:Nat->Prop} (h:StemParts F X w s a c a2 c2 mp G) (k:Upd F' w w') (hk:∀ b,G b->¬ F' b):StemParts F X w' s a c a2 c2 mp G :=
 ⟨h.facts.upd k hk,h.synced.upd k hk,h.pages.upd k hk,h.fc,h.sc,fun b hb=>⟨(h.low b hb).1,(h.low b hb).2.1,Nat.lt_of_lt_of_le (h.low b hb).2.2 k.size⟩⟩
theorem StemIn.ext (h:StemIn F X w q M s) (k:Ext w w'):StemIn F X w' q M s:=by
 obtain ⟨⟨a,c,a2,c2,mp,g,G,hp⟩,h2,h3,h4,h5,h6⟩:=h
 exact ⟨⟨a,c,a2,c2,mp,Ext.get k g,G,hp.upd k fun _ _ h=>h⟩,h2.ext k,h3,h4,h5,h6⟩
theorem StemIn.lt (h:StemIn F X w q M s):q<w.heap.size:=by
 obtain ⟨⟨a,c,a2,c2,mp,g,_⟩,_⟩:=h
 exact (Array.getElem?_eq_some_iff.1 g).1
theorem StemIn.step (h:StemIn F X w q M s) (k:Upd F w w') {P:Pool} {d:Chip} (hp:PX F X w' M P d):StemIn F X w' q M { s with pool:=P,chip:=d }:=by
 obtain ⟨⟨a,c,a2,c2,mp,g,G,hh⟩,_,h3,h4,h5,h6⟩:=h
 have:=hh.upd k fun b hb=>(hh.low b hb).2.1
 exact ⟨⟨a,c,a2,c2,mp,k.get g h3,G,this.1,this.2,this.3,this.4,this.5,this.6⟩,hp,h3,h4,h5,h6⟩
theorem StemIn.upd (h:StemIn F X w q M s) {F':Nat->Prop} (k:Upd F' w w') (h1:∀ x,F' x->¬ F x/\¬ X x/\x≠q):StemIn F X w' q M s:=by
 obtain ⟨⟨a,c,a2,c2,mp,g,G,hh⟩,hp,h3,h4,h5,h6⟩:=h
 exact ⟨⟨a,c,a2,c2,mp,k.get g (fun hq=>(h1 q hq).2.2 rfl),G,hh.upd k fun b hb hf=>(h1 b hf).2.1 (hh.low b hb).1⟩,hp.upd k (fun x hF hf=>(h1 x hf).1 hF) fun x hX hf=>(h1 x hf).2.1 hX,h3,h4,h5,h6⟩
theorem StemIn.store (h:StemIn F X w q M s) {o:Nat} {vs:List Value} {t:StemS} (ht:t.facts=s.facts/\t.synced=s.synced/\t.pages=s.pages/\t.pool=s.pool/\t.chip=s.chip/\t.era=s.era) (hv:∀ a c a2 c2 mp,splice (stemVs M s a c a2 c2 mp).toArray o vs=(stemVs M t a c a2 c2 mp).toArray) (ho:o+vs.length<=10) {K:World->Prop} (hk:∀ w',Upd (·=q) w w'->StemIn F X w' q M t->K w'):storeP w ⟨q,o,none⟩ vs K:=by
 obtain ⟨⟨a,c,a2,c2,mp,g,G,hh⟩,hp,h3,h4,h5,h6⟩:=h
 refine store_of g (by simpa using ho) fun w' hpt=>hk w' hpt.upd1 ?_
 have hu:=hpt.upd1
 have g':=hpt.get
 rw [hv] at g'
 obtain ⟨t1,t2,t3,t4,t5,t6⟩:=ht
 have h7:=hh.upd hu fun b hb e=>h4 (by rw [<- e];exact (hh.low b hb).1)
 refine ⟨⟨a,c,a2,c2,mp,g',G,by rw [t1];exact h7.1,by rw [t2];exact h7.2,by rw [t3];exact h7.3,by rw [t1];exact h7.4,by rw [t2];exact h7.5,h7.6⟩,?_,h3,h4,by rw [t6];exact h5,by rw [t3];exact h6⟩
 rw [t4,t5]
 exact hp.upd hu (fun x hF e=>h3 (by rw [<- e];exact hF)) fun x hX e=>h4 (by rw [<- e];exact hX)
theorem StemIn.cell (h:StemIn F X w q M s) {i:Nat} {v:Value} (hv:∀ a c a2 c2 mp,(stemVs M s a c a2 c2 mp)[i]?=some v):w.cell? ⟨q,i,none⟩= some v:=by
 obtain ⟨⟨a,c,a2,c2,mp,g,_⟩,_⟩:=h
 exact cell_of g (by simpa using hv a c a2 c2 mp)
end
def blkI (l:List Taken):List Int:=l.map fun t=>(t.block:Int)
theorem blkI_append (l m:List Taken):blkI (l ++ m)=blkI l ++ blkI m:=List.map_append
theorem blkI_length (l:List Taken):(blkI l).length=l.length:=List.length_map ..
def OwnOut (w w':World) (v:Value) (all good:List Taken):Prop:=∃ a c a2 c2,v= .tuple #[.slice a all.length c,.slice a2 good.length c2]/\IList w.heap.size w' a c (blkI all)/\IList w.heap.size w' a2 c2 (blkI good)/\Ext w w'
theorem stem_own_spec {F X:Nat->Prop} {w:World} {q:Nat} {M:PLoc} {s:StemS} (h:StemIn F X w q M s) (hfew:(takenPool s.pool s.chip).length<20) :
  CallsR prog K.stem_Stem_own #[.pointer (some ⟨q,0,none⟩)] w fun v w'=>OwnOut w w' v s.own (s.own.filter fun t=> !t.bad):=by
 apply stem_Stem_own.sh
 suffices H:∀ R:Value->World->Prop,(∀ v w',OwnOut w w' v s.own (s.own.filter fun t=> !t.bad)->R v w')->stem_Stem_own.body (some ⟨q,0,none⟩) w R from H _ fun _ _ h=>h
 intro R hR
 unfold stem_Stem_own.body
 simp only [nilC_some',add_lit,Nat.zero_add]
 refine ⟨_,h.cell (i:=0) (fun _ _ _ _ _=>rfl),(pTakenF h.pool.pin hfew rfl).mono ?_⟩
 rintro _ w1 ⟨he1,a1,c1,rfl,ho1,hf1⟩
 have hs1:=he1.size
 have hown:s.own=(takenPool s.pool s.chip).filter (ofKind 2 s.era):=rfl
 rw [hown] at hR
 generalize takenPool s.pool s.chip=l at *
 refine ⟨_,_,_,rfl,fun a2 l2 c2 a3 l3 c3 x u=>∃ i:Nat,x=i/\i<=l.length/\l2=((l.take i).filter (ofKind 2 s.era)).length/\l3=(((l.take i).filter (ofKind 2 s.era)).filter fun t=> !t.bad).length/\IList w1.heap.size u a2 c2 (blkI ((l.take i).filter (ofKind 2 s.era)))/\IList w1.heap.size u a3 c3 (blkI (((l.take i).filter (ofKind 2 s.era)).filter fun t=> !t.bad))/\(∀ b,a2=some ⟨b,0,none⟩->a3≠some ⟨b,0,none⟩)/\Ext w1 u,fun _ _ _ _ _ _ x _=>((l.length:Int) - x).toNat,
  ⟨0,rfl,by omega,rfl,rfl,IList.nil _ _,IList.nil _ _,(fun b hb=>by cases hb),Upd.refl _ _⟩,?_⟩
 rintro a2 l2 c2 a3 l3 c3 x u ⟨i,rfl,hi,rfl,rfl,hl2,hl3,hap,heu⟩
 have hsu:=heu.size
 refine br_dec (fun hlt=>?_) fun hge=>?_
 .have hi':i<l.length:=by omega
  have ew:i64.wrap ((i:Int)+1)=((i+1:Nat):Int):=w64 (by omega) (by omega)
  simp only [ew]
  have hts:=filter_take_succ (ofKind 2 s.era) hi'
  have hll2:((l.take i).filter (ofKind 2 s.era)).length<=20:=Nat.le_trans (List.length_filter_le _ _) (by rw [List.length_take];omega)
  have hll3:(((l.take i).filter (ofKind 2 s.era)).filter fun t=> !t.bad).length<=20:=Nat.le_trans (List.length_filter_le _ _) hll2
  have hrow:RowAt u a1 (l.flatMap Taken.vals):=(ho1.row).ext heu
  refine idx_flat (k:=5) (f:=Taken.vals) Taken.vals_length (by omega) hrow rfl hi' fun b o hab hr=>?_
  refine ⟨_,_,_,_,_,hr.cells,new_put (vs:=Taken.vals l[i]) rfl fun B1 w4 hb4 hs4 he4 g4=>fun w5 hd5=>?_⟩
  have e5:=he4.trans hd5.upd
  have g5:=Ext.get hd5.upd g4
  have h5:=h.ext ((he1.trans heu).trans e5)
  have hs5:=e5.size
  have hB1:B1<w5.heap.size:=(Array.getElem?_eq_some_iff.1 g5).1
  have skip:ofKind 2 s.era l[i]=false->(∃ j:Nat,((i+1:Nat):Int)=j/\j<=l.length/\((l.take i).filter (ofKind 2 s.era)).length=((l.take j).filter (ofKind 2 s.era)).length/\(((l.take i).filter (ofKind 2 s.era)).filter fun t=> !t.bad).length=(((l.take j).filter (ofKind 2 s.era)).filter fun t=> !t.bad).length/\IList w1.heap.size w5 a2 c2 (blkI ((l.take j).filter (ofKind 2 s.era)))/\IList w1.heap.size w5 a3 c3 (blkI (((l.take j).filter (ofKind 2 s.era)).filter fun t=> !t.bad))/\(∀ b,a2=some ⟨b,0,none⟩->a3≠some ⟨b,0,none⟩)/\Ext w1 w5)/\((l.length:Int) - ((i+1:Nat):Int)).toNat<((l.length:Int) - (i:Int)).toNat:=fun hno=>by
   rw [hno,if_neg (by decide)] at hts
   exact ⟨⟨i+1,rfl,hi',by rw [hts],by rw [hts],by rw [hts];exact hl2.ext e5,by rw [hts];exact hl3.ext e5,hap,heu.trans e5⟩,meas hi'⟩
  refine ⟨fun z=>Ext w5 z,Upd.refl _ _,_,fun z hz=>cell_of (Ext.get hz g5) rfl,br_eq (fun hk=>?_) fun hk=>skip ?_⟩
  .have hkk:l[i].head.kind=2:=kind_is (n:=2) (by decide) hk
   refine ⟨_,fun z hz=>cell_of (Ext.get hz g5) rfl,_,fun z hz=>(h5.ext hz).cell (i:=1) (fun _ _ _ _ _=>rfl),br_eq (fun hera=>?_) fun hera=>skip ?_⟩
   .have hyes:ofKind 2 s.era l[i]=true:=by unfold ofKind;rw [decide_eq_true hkk,decide_eq_true (by omega)];rfl
    rw [hyes,if_pos rfl] at hts
    refine ⟨_,cell_of g5 rfl,fun B2 w6 hn6=>?_⟩
    have hs6:=hn6.size
    have hb6:=hn6.num
    refine IList.pushX (G:=fun b=>a3=some ⟨b,0,none⟩\/b=B1) (hl2.ext e5) (fun b hb hg=>by
     rcases hg with hg | hg
     .exact hap b hb hg
     .have:=hl2.lt hb;omega) (fun x hx=>by
     rcases hx with hx | hx
     .have:=(hl3.ext e5).lt hx;omega
     .omega) (blkI_length _).symm hn6 (by rw [blkI_length];omega) (by omega) fun a4 c4 w7 hu7 hl7 hno7=>?_
    have hs7:=hu7.size
    have g7:=hu7.get g5 fun hx=>hx.2 (.inr rfl)
    have hl37:=(hl3.ext e5).1.upd hu7 fun b hb hx=>hx.2 (.inl hb)
    have e17:Ext w1 w7:=(heu.trans e5).beyond hu7 fun x hx=>hx.1
    have hadd:blkI ((l.take i).filter (ofKind 2 s.era)) ++ [(l[i].block:Int)]=blkI ((l.take (i+1)).filter (ofKind 2 s.era)):=by rw [hts,blkI_append];rfl
    rw [hadd] at hl7 ⊢
    have hlen:(blkI ((l.take (i+1)).filter (ofKind 2 s.era))).length=((l.take (i+1)).filter (ofKind 2 s.era)).length:=blkI_length _
    have hap7:∀ b,a4=some ⟨b,0,none⟩->a3≠some ⟨b,0,none⟩:=fun b hb e=>hno7 b hb (.inl e)
    refine ⟨_,cell_of g7 rfl,br_intro (fun hbd=>?_) fun hbd=>?_⟩
    .have hbd':(!l[i].bad)=true:=hbd
     refine ⟨_,cell_of g7 rfl,fun B3 w8 hn8=>?_⟩
     have hs8:=hn8.size
     refine IList.pushX (G:=fun b=>a4=some ⟨b,0,none⟩) ⟨hl37,hl3.2⟩ (fun b hb hg=>hap7 b hg hb) (fun x hx=>hl7.lt hx) (blkI_length _).symm hn8 (by rw [blkI_length];omega) (by omega) fun a5 c5 w9 hu9 hl9 hno9=>?_
     have hgood:(((l.take (i+1)).filter (ofKind 2 s.era)).filter fun t=> !t.bad)=(((l.take i).filter (ofKind 2 s.era)).filter fun t=> !t.bad) ++ [l[i]]:=by
      rw [hts,List.filter_append,List.filter_cons,if_pos hbd'];rfl
     have hadd2:blkI (((l.take i).filter (ofKind 2 s.era)).filter fun t=> !t.bad) ++ [(l[i].block:Int)]=blkI (((l.take (i+1)).filter (ofKind 2 s.era)).filter fun t=> !t.bad):=by rw [hgood,blkI_append];rfl
     rw [hadd2] at hl9 ⊢
     refine ⟨⟨i+1,rfl,hi',hlen,blkI_length _,?_,hl9,fun b hb e=>hno9 b e hb,e17.beyond hu9 fun x hx=>hx.1⟩,meas hi'⟩
     exact ⟨hl7.1.upd hu9 fun b hb hx=>hx.2 hb,hl7.2⟩
    .have hbd':(!l[i].bad)=false:=hbd
     have hgood:(((l.take (i+1)).filter (ofKind 2 s.era)).filter fun t=> !t.bad)=(((l.take i).filter (ofKind 2 s.era)).filter fun t=> !t.bad):=by
      rw [hts,List.filter_append,List.filter_cons,hbd',if_neg (by decide)];simp
     exact ⟨⟨i+1,rfl,hi',hlen,by rw [hgood],hl7,by rw [hgood];exact ⟨hl37,hl3.2⟩,hap7,e17⟩,meas hi'⟩
   .unfold ofKind
    rw [decide_eq_false (p:=l[i].head.era=s.era) (fun e=>hera (by rw [e]))]
    simp
  .unfold ofKind
   rw [decide_eq_false (p:=l[i].head.kind=2) (fun e=>hk (by rw [e];rfl))]
   rfl
 .have hil:i=l.length:=by omega
  subst hil
  rw [List.take_length] at hl2 hl3 ⊢
  exact hR _ _ ⟨a2,c2,a3,c3,rfl,hl2.weak hs1,hl3.weak hs1,he1.trans heu⟩
end
theorem factsP_append (n:Nat) (l m:List Part):factsP n (l ++ m)=(m.filter fun x=>decide (n<=x.seq)).foldl (fun a x=>addP a x.pages) (factsP n l):=by
 unfold factsP
 rw [List.filter_append,List.foldl_append]
theorem fold_none:∀ {l:List Part} (a:List Fact),(∀ x∈l,x.pages=[])->l.foldl (fun a x=>addP a x.pages) a=a
 | [],a,_=>rfl
 | x :: l,a,h=>by
  rw [List.foldl_cons,h x (by simp)]
  exact fold_none (l:=l) a fun y hy=>h y (by simp [hy])
theorem factsP_none {n:Nat} {l m:List Part} (h:∀ x∈m,x.pages=[]):factsP n (l ++ m)=factsP n l:=by
 rw [factsP_append]
 exact fold_none _ fun x hx=>h x (List.mem_filter.1 hx).1
theorem lowP_le:∀ (pg:List PageSay) (a n:Nat),lowP a pg<=n ↔ a<=n/\∀ P∈pg,P.drop<=n
 | [],a,n=>by simp [lowP]
 | P :: pg,a,n=>by
  show lowP (max a P.drop) pg<=n ↔ _
  rw [lowP_le pg]
  simp only [List.mem_cons]
  constructor
  .rintro ⟨h1,h2⟩
   refine ⟨by omega,?_⟩
   rintro Q (rfl | hQ)
   .omega
   .exact h2 Q hQ
  .rintro ⟨h1,h2⟩
   exact ⟨by have:=h2 P (.inl rfl);omega,fun Q hQ=>h2 Q (.inr hQ)⟩
theorem lowFold_le:∀ (l:List Part) (a n:Nat),l.foldl (fun n x=>lowP n x.pages) a<=n ↔ a<=n/\∀ p∈l,∀ P∈p.pages,P.drop<=n
 | [],a,n=>by simp
 | p :: l,a,n=>by
  rw [List.foldl_cons,lowFold_le l,lowP_le]
  simp only [List.mem_cons]
  constructor
  .rintro ⟨⟨h1,h2⟩,h3⟩
   refine ⟨h1,?_⟩
   rintro q (rfl | hq)
   .exact h2
   .exact h3 q hq
  .rintro ⟨h1,h2⟩
   exact ⟨⟨h1,h2 p (.inl rfl)⟩,fun q hq=>h2 q (.inr hq)⟩
theorem lowL_le {l:List Part} {n:Nat}:lowL l<=n ↔ ∀ p∈l,∀ P∈p.pages,P.drop<=n:=by
 unfold lowL
 rw [lowFold_le]
 simp
theorem lowL_ge {l:List Part} {p:Part} (hp:p∈l) {P:PageSay} (hP:P∈p.pages):P.drop<=lowL l:=lowL_le.1 (Nat.le_refl _) p hp P hP
theorem lowL_none {l m:List Part} (h:∀ x∈m,x.pages=[]):lowL (l ++ m)=lowL l:=by
 refine Nat.le_antisymm (lowL_le.2 fun p hp P hP=>?_) (lowL_le.2 fun p hp P hP=>lowL_ge (List.mem_append_left m hp) hP)
 rcases List.mem_append.1 hp with hp | hp
 .exact lowL_ge hp hP
 .rw [h p hp] at hP;cases hP
def told (l:List Part):List Fact:=factsP (lowL l) l
structure Behind (l l':List Part) (n:Nat):Prop where
 ex:∃ m,l'=l ++ m/\(∀ x∈m,x.pages=[])/\∀ x∈m,n<x.seq
theorem Behind.facts {l l':List Part} {n:Nat} (h:Behind l l' n):(∀ k,factsP k l'=factsP k l)/\lowL l'=lowL l/\told l'=told l:=by
 obtain ⟨m,rfl,h1,_⟩:=h.ex
 have e:=lowL_none (l:=l) h1
 refine ⟨fun k=>factsP_none h1,e,?_⟩
 unfold told
 rw [e,factsP_none h1]
def heads (c:Chip):List Taken:=takenPool (scanPool c.power) c.power
def partsC (c:Chip) (era:Nat):List Part:=partsL c era (heads c)
section
def CX (F X:Nat->Prop) (w:World) (p:Nat) (c:Chip):Prop:=∃ L G,ChipRep w p c L G/\(∀ x,x∈p :: L.bb :: L.locs->F x)/\∀ x,G x->X x/\x<w.heap.size
section
variable {F X:Nat->Prop} {w w':World} {p:Nat} {c:Chip}
theorem CX.cin (h:CX F X w p c):CIn F 0 w p c:=by
 obtain ⟨L,G,h1,h2,h3⟩:=h
 exact ⟨L,G,h1,h2,fun x hx=>⟨Nat.zero_le _,(h3 x hx).2⟩⟩
theorem CX.upd {F':Nat->Prop} (h:CX F X w p c) (k:Upd F' w w') (h1:∀ x,F x->¬ F' x) (h2:∀ x,X x->¬ F' x):CX F X w' p c:=by
 obtain ⟨L,G,hc,hF,hG⟩:=h
 exact ⟨L,G,hc.upd k (fun x hx=>h1 x (hF x hx)) (fun x hx=>h2 x (hG x hx).1),hF,fun x hx=>⟨(hG x hx).1,Nat.lt_of_lt_of_le (hG x hx).2 k.size⟩⟩
theorem CX.ext (h:CX F X w p c) (k:Ext w w'):CX F X w' p c:=h.upd k (fun _ _ h=>h) fun _ _ h=>h
theorem CX.mono {F' X':Nat->Prop} (h:CX F X w p c) (h1:∀ x,F x->F' x) (h2:∀ x,X x->X' x):CX F' X' w p c:=by
 obtain ⟨L,G,hc,hF,hG⟩:=h
 exact ⟨L,G,hc,fun x hx=>h1 x (hF x hx),fun x hx=>⟨h2 x (hG x hx).1,(hG x hx).2⟩⟩
theorem PX.mono {F' X':Nat->Prop} {M:PLoc} {P:Pool} (h:PX F X w M P c) (h1:∀ x,F x->F' x) (h2:∀ x,X x->X' x):PX F' X' w M P c:=by
 obtain ⟨L,G,hc,hF,hG⟩:=h
 exact ⟨L,G,hc,fun x hx=>h1 x (hF x hx),fun x hx=>⟨h2 x (hG x hx).1,(hG x hx).2⟩⟩
theorem PX.chip {M:PLoc} {P:Pool} (h:PX F X w M P c):CX F X w M.p c:=by
 obtain ⟨L,G,hc,hF,hG⟩:=h
 exact ⟨L,G,hc.chip,fun x hx=>hF x (.inr (.inr hx)),hG⟩
theorem cxScan (h:CX F X w p c) :
  CallsR prog K.pool_Scan #[.pointer (some ⟨p,0,none⟩)] w fun v w'=>Ext w w'/\
   if c.dead then v= .tuple #[.pointer none,.int .i64 10]
   else ∃ M:PLoc,M.p=p/\v= .tuple #[.pointer (some ⟨M.q,0,none⟩),.int .i64 0]/\PX (fun x=>F x\/(w.heap.size<=x/\x<w'.heap.size)) X w' M (scanPool c) c:=by
 obtain ⟨L,G,hr,hF,hG⟩:=h
 refine (pool_Scan_spec hr (fun x hx=>(hG x hx).2)).mono ?_
 rintro v w' ⟨he,hv⟩
 refine ⟨he,?_⟩
 split at hv
 .rename_i hd
  rw [if_pos hd];exact hv
 .rename_i hd
  rw [if_neg hd]
  obtain ⟨q,pb,rfl,hq,hpb,hq',hpb',hp⟩:=hv
  refine ⟨⟨q,pb,c.nb,p⟩,rfl,rfl,L,G,hp,fun x hx=>?_,fun x hx=>⟨(hG x hx).1,Nat.lt_of_lt_of_le (hG x hx).2 he.size⟩⟩
  rcases hx with hx | hx | hx
  .have:x=q:=hx
   exact .inr (by omega)
  .have:x=pb:=hx
   exact .inr (by omega)
  .exact .inl (hF x hx)
end
end
section
section
variable {F X:Nat->Prop} {w w':World} {q:Nat} {M:PLoc} {s:LogS}
end
end
end Go.Den
section
namespace Go.Den
structure StemS.Opened (s:StemS) (i:Nat):Prop where
 blk:s.block=i
 lt:i<s.chip.nb
 good:s.chip.isBad i=false
 head:isHd s.chip i
 kind:(hd s.chip i).1.kind=2
 era:(hd s.chip i).1.era=s.era
 page:1<=s.page
 free:OpenFrom s.chip i s.page
structure StemS.Ready (s:StemS) (n:Nat):Prop where
 inv:Inv s.pool s.chip
 alive:s.chip.dead=false
 last:s.pool.last+s.chip.nb * n<18446744073709551616
 era1:1<=s.era
 era2:s.era<4294967296
 open_:0<=s.block->∃ i,s.Opened i
 page:s.page<1000000
namespace StemS
variable {s:StemS} {n:Nat}
theorem Ready.less (h:s.Ready n) {m:Nat} (hm:m<=n):s.Ready m:=by
 have:s.chip.nb * m<=s.chip.nb * n:=Nat.mul_le_mul_left _ hm
 exact ⟨h.1,h.2,by have:=h.last;omega,h.4,h.5,h.6,h.7⟩
theorem Ready.geo (h:s.Ready n):8<=s.chip.nb/\s.chip.nb<=64/\4<=s.chip.np/\s.chip.np<=32/\128<=s.chip.sz/\s.chip.sz<=256:=⟨h.inv.ci.ok.nb1,h.inv.ci.ok.nb2,h.inv.ci.ok.np1,h.inv.ci.ok.np2,h.inv.ci.ok.sz1,h.inv.ci.ok.sz2⟩
structure Took (s:StemS) (n:Nat) (y:StemS×Nat):Prop where
 same:y.1.facts=s.facts/\y.1.synced=s.synced/\y.1.pages=s.pages/\y.1.point=s.point/\y.1.number=s.number/\y.1.era=s.era
 geo:s.chip.SameGeo y.1.chip
 err:y.2=0\/y.2=10\/y.2=11
 hits:y.1.chip.hits.length<=s.chip.hits.length
 ok:y.2=0->y.1.Ready n/\∃ i,y.1.Opened i/\y.1.page=1/\¬ isHd s.chip i
theorem take_took (h:s.Ready (n+1)):Took s n s.take:=by
 have hok:=h.inv.ci.ok
 have hnb:=hok.nb1
 have hmul:s.chip.nb * (n+1)=s.chip.nb * n+s.chip.nb:=Nat.mul_succ _ _
 have hl:=h.last
 have hlen:(List.range s.chip.nb).length=s.chip.nb:=by simp
 have hgo:=takePool_go (P:=s.pool) hok h.alive (kind:=2) (era:=s.era) (by decide) (by decide) h.era1
 have tp:=takeGo_inv (kind:=2) (by decide) (by decide) h.era1 h.era2 (List.range s.chip.nb) h.inv h.alive (by omega)
 obtain ⟨op,hhi⟩:=takeGo_open (kind:=2) (by decide) (by decide) h.era1 h.era2 (List.range s.chip.nb) h.inv h.alive (by omega)
 have ht:s.take=if (takePool s.pool s.chip 2 s.era).err=0 then ({ s with pool:=(takePool s.pool s.chip 2 s.era).pool,chip:=(takePool s.pool s.chip 2 s.era).chip,block:=(takePool s.pool s.chip 2 s.era).block,page:=1 },0) else ({ s with pool:=(takePool s.pool s.chip 2 s.era).pool,chip:=(takePool s.pool s.chip 2 s.era).chip },(takePool s.pool s.chip 2 s.era).err):=rfl
 rw [ht,hgo]
 generalize takeGo 2 s.era s.pool s.chip (List.range s.chip.nb)=R at *
 have hhi2:=tp.hi
 rw [hlen] at hhi2
 split
 .rename_i h0
  refine ⟨⟨rfl,rfl,rfl,rfl,rfl,rfl⟩,tp.geo,.inl rfl,hhi,fun _=>?_⟩
  rcases tp.cases with ⟨_,c2,c3,c4,c5,c6,c7⟩| ⟨c1,_⟩| ⟨c1,_⟩
  .have hR:isHd R.chip R.block:=by
    unfold isHd
    rw [c6]
   have ho:({ s with pool:=R.pool,chip:=R.chip,block:=R.block,page:=1 }:StemS).Opened R.block :=
    ⟨rfl,by rw [tp.geo.1];exact c3,c5,hR,by show (hd R.chip R.block).1.kind=2;rw [c6],by show (hd R.chip R.block).1.era=s.era;rw [c6],Nat.le_refl _,op _ c3 c4 hR⟩
   refine ⟨⟨tp.inv,c2,?_,h.era1,h.era2,fun _=>⟨_,ho⟩,by show (1:Nat) < _;omega⟩,_,ho,rfl,c4⟩
   show R.pool.last+R.chip.nb * n < _
   rw [tp.geo.1]
   omega
  .omega
  .omega
 .rename_i h0
  refine ⟨⟨rfl,rfl,rfl,rfl,rfl,rfl⟩,tp.geo,?_,hhi,fun h=>absurd h h0⟩
  rcases tp.cases with ⟨c1,_⟩| ⟨c1,_⟩| ⟨c1,_⟩
  .exact absurd c1 h0
  .exact .inr (.inl c1)
  .exact .inr (.inr c1)
theorem begun_took (h:s.Ready (n+1)):s.begun.1.facts=s.facts/\s.begun.1.synced=s.synced/\s.begun.1.pages=s.pages/\s.begun.1.point=s.point/\s.begun.1.number=s.number/\s.begun.1.era=s.era/\s.chip.SameGeo s.begun.1.chip/\(s.begun.2=0\/s.begun.2=10\/s.begun.2=11)/\s.begun.1.chip.hits.length<=s.chip.hits.length/\
  (s.begun.2=0->s.begun.1.Ready n/\∃ i,s.begun.1.Opened i/\s.begun.1.page<s.begun.1.chip.np):=by
 unfold begun
 split
 .have t:=take_took h
  obtain ⟨a1,a2,a3,a4,a5,a6⟩:=t.same
  refine ⟨a1,a2,a3,a4,a5,a6,t.geo,t.err,t.hits,fun h0=>?_⟩
  obtain ⟨r,i,o,hp,_⟩:=t.ok h0
  have:=r.geo
  exact ⟨r,i,o,by omega⟩
 .rename_i hno
  refine ⟨rfl,rfl,rfl,rfl,rfl,rfl,Chip.SameGeo.refl _,.inl rfl,Nat.le_refl _,fun _=>?_⟩
  obtain ⟨i,o⟩:=h.open_ (by omega)
  exact ⟨h.less (by omega),i,o,by show s.page<s.chip.np;omega⟩
structure Tried (s:StemS) (n i:Nat) (b:List UInt8) (e:Nat):Prop where
 err:e=0\/e=9\/e=10
 wrote:Wrote s.chip (s.tried b).chip i s.page e b
 inv:Inv s.pool (s.tried b).chip
 ok:e=0->(s.tried b).Ready n
 bad:e=9->({ s.tried b with block:= -1 }:StemS).Ready n/\(s.tried b).chip.hits.length<s.chip.hits.length
theorem try_tried (h:s.Ready n) {i:Nat} (ho:s.Opened i) (hp:s.page<s.chip.np) {b:List UInt8} (hb:b.length=s.chip.sz):Tried s n i b (s.chip.program s.block (s.page:Nat) b).2:=by
 have hok:=h.inv.ci.ok
 have hc:(s.tried b).chip=(s.chip.program s.block (s.page:Nat) b).1:=rfl
 have hb':s.block=(i:Int):=ho.blk
 have w:=program_wrote hok h.alive ho.lt hp ho.good ho.free hb
 obtain ⟨pi,_⟩:=program_inv h.inv ho.lt ho.page hp (fun _=>ho.head) b
 rw [<- hb',<- hc] at w pi
 have hgeo:=w.deed.geo
 have hdead:=w.dead
 have hhd:hd (s.tried b).chip i=hd s.chip i:=by unfold Go.Den.hd;rw [w.other 0 (by have:=ho.page;omega)]
 have hhead:isHd (s.tried b).chip i:=by unfold isHd;rw [hhd];exact ho.head
 generalize he:(s.chip.program s.block (s.page:Nat) b).2=e at *
 have herr:e=0\/e=9\/e=10:=by
  rcases w.deed.cases with ⟨c,_⟩| ⟨c,_⟩| ⟨c,_⟩
  .exact .inl c
  .exact .inr (.inl c)
  .exact .inr (.inr c)
 have hlast:s.pool.last+(s.tried b).chip.nb * n<18446744073709551616:=by rw [hgeo.1];exact h.last
 have hpg:=h.geo
 refine ⟨herr,w,pi,fun h0=>?_,fun h9=>⟨⟨pi,by rw [hdead,if_neg (by omega)];exact h.alive,hlast,h.era1,h.era2,fun h=>absurd h (by show ¬ (0:Int)<=-1;decide),by show s.page+1 < _;omega⟩,w.less (by omega)⟩⟩
 have hgood:(s.tried b).chip.isBad i=false:=by
  rcases w.deed.cases with ⟨_,_,c⟩| ⟨c,_⟩| ⟨c,_⟩
  .unfold Chip.isBad;rw [c];exact ho.good
  .omega
  .omega
 exact ⟨pi,by rw [hdead,if_neg (by omega)];exact h.alive,hlast,h.era1,h.era2,fun _=>⟨i,hb',by rw [hgeo.1];exact ho.lt,hgood,hhead,by rw [hhd];exact ho.kind,by rw [hhd];exact ho.era,by show 1<=s.page+1;omega,w.open_⟩,by show s.page+1 < _;omega⟩
theorem write_succ (b:List UInt8) (n:Nat) (s:StemS):write b (n+1) s=(if s.begun.2≠0 then (s.begun.1,noPlace,s.begun.2)
  else if (s.begun.1.chip.program s.begun.1.block (s.begun.1.page:Nat) b).2=0 then (s.begun.1.tried b,⟨s.begun.1.block,s.begun.1.page⟩,0)
  else if (s.begun.1.chip.program s.begun.1.block (s.begun.1.page:Nat) b).2=10 then (s.begun.1.tried b,noPlace,10)
  else write b n { s.begun.1.tried b with block:= -1 }):=rfl
end StemS
end Go.Den
end
namespace Go.Den
def StemS.left (s:StemS):Nat:=s.chip.hits.length+(if s.block<0 then 1 else 2)
theorem StemS.begun_bad {s:StemS} (h:s.block<0\/s.page≥s.chip.np):s.begun=s.take:=by unfold StemS.begun;rw [if_pos h]
theorem StemS.begun_ok {s:StemS} (h:¬ (s.block<0\/s.page≥s.chip.np)):s.begun=(s,0):=by unfold StemS.begun;rw [if_neg h]
theorem stem_write_spec {F X:Nat->Prop} {w:World} {q:Nat} {M:PLoc} {s:StemS} (h:StemIn F X w q M s) (hF:∀ x,F x->x<w.heap.size) (hX:∀ x,X x->x<w.heap.size) (hr0:s.Ready s.fuel) {a:Option Addr} {b:List UInt8} {cp:Nat} (hb:BytesAt w a b) (hbl:b.length=s.chip.sz) (hap:∀ p,a=some p->¬ F p.block/\p.block≠q/\p.block<w.heap.size) :
  CallsR prog K.stem_Stem_write #[.pointer (some ⟨q,0,none⟩),.slice a b.length cp] w fun v w'=>v= .tuple #[placeV (s.write b s.fuel).2.1,.int .i64 ((s.write b s.fuel).2.2:Nat)]/\Upd (StemF F q) w w'/\StemIn F X w' q M (s.write b s.fuel).1:=by
 obtain ⟨r,hr⟩: ∃ r,r=s.write b s.fuel:=⟨_,rfl⟩
 rw [<- hr]
 apply stem_Stem_write.sh
 suffices H:∀ R:Value->World->Prop,(∀ v w',v= .tuple #[placeV r.2.1,.int .i64 (r.2.2:Nat)]/\Upd (StemF F q) w w'/\StemIn F X w' q M r.1->R v w')->stem_Stem_write.body (some ⟨q,0,none⟩) a b.length cp w R from H _ fun _ _ h=>h
 intro R hR
 unfold stem_Stem_write.body
 simp only [nilC_some',add_lit,Nat.zero_add]
 have hq:=h.lt
 intro B1 w1 hn1
 have hB1:B1=w.heap.size:=hn1.num
 have hs1:=hn1.size
 have g1:w1.heap[B1]?=some (.cells #[.int .i64 0,.int .i64 0] T.api_Place (0,0)):=hn1.get
 have h1:=h.ext hn1.upd
 have ret:∀ {u:World} {t:StemS} {p:Place} {e:Nat},u.heap[B1]?=some (.cells #[.int .i64 0,.int .i64 0] T.api_Place (0,0))->StemIn F X u q M t->Upd (StemF F q) w u->r=(t,p,e)->storeP u ⟨B1,0,none⟩ [.int .i64 p.block,.int .i64 p.page] fun w'=>∃ x y:Int,cellsAt w' ⟨B1,0,none⟩ [.int .i64 x,.int .i64 y] 0/\R (.tuple #[.agg #[.int .i64 x,.int .i64 y],.int .i64 (e:Nat)]) w':=fun {u t p e} g hu hw he=>by
  refine put_all g rfl fun w' hu' hs' g'=>⟨_,_,place_cells g',hR _ _ ⟨by rw [he],hw.over hu' fun x hx=>.inr (by omega),?_⟩⟩
  rw [he]
  exact hu.upd hu' fun x hx=>⟨fun hf=>by have:=hF x hf;omega,fun hf=>by have:=hX x hf;omega,by omega⟩
 obtain ⟨J',hJ⟩: ∃ J':Nat->World->Prop,∀ n u,J' n u ↔ ∃ t:StemS,StemIn F X u q M t/\t.Ready n/\t.left<=n/\t.write b n=r/\t.chip.sz=s.chip.sz/\Upd (StemF F q) w u/\u.heap[B1]?=some (.cells #[.int .i64 0,.int .i64 0] T.api_Place (0,0)):=⟨_,fun _ _=>Iff.rfl⟩
 have hfu:s.left<=s.fuel:=by unfold StemS.left StemS.fuel;split<;>omega
 refine ⟨LJ J',Lμ J',⟨s.fuel,(hJ _ _).2 ⟨s,h1,hr0,hfu,hr.symm,rfl,Upd.ext hn1.upd,g1⟩⟩,?_⟩
 intro u hJu
 obtain ⟨n,hj,hK⟩:=loop_step hJu
 obtain ⟨t,ht,hrd,hleft,hw,htsz,hu,gu⟩:=(hJ _ _).1 hj
 obtain ⟨n,rfl⟩: ∃ m,n=m+1:=⟨n - 1,by unfold StemS.left at hleft;split at hleft<;>omega⟩
 rw [StemS.write_succ] at hw
 have hB1F:∀ {x:Nat},StemF F q x->x≠B1:=fun {x} hx=>by
  rcases hx with hx | hx
  .have:=hF x hx;omega
  .omega
 obtain ⟨_,_,_,_,_,hbera,hbgeo,hberr,hbh,hbok⟩:=StemS.begun_took hrd
 refine ⟨fun v=>t.begun.2=0/\StemIn F X v q M t.begun.1/\Upd (StemF F q) w v/\v.heap[B1]?=some (.cells #[.int .i64 0,.int .i64 0] T.api_Place (0,0)),?_,?_⟩
 .intro w3 hd3
  have h3:=ht.ext hd3.upd
  have u3:=hu.then hd3.upd
  have g3:=Ext.get hd3.upd gu
  have take:∀ u',StemIn F X u' q M t->Upd (StemF F q) w u'->u'.heap[B1]?=some (.cells #[.int .i64 0,.int .i64 0] T.api_Place (0,0))->(t.block<0\/t.page≥t.chip.np)->∀ w4,Drew u' w4->∃ S2:World->Prop,S2 w4/\∃ p1:Option Addr,(∀ u2,S2 u2->World.cell? u2 ⟨q,0,none⟩= some (.pointer p1))/\∃ x2:Int,(∀ u3,S2 u3->World.cell? u3 ⟨q,1,none⟩= some (.int .u32 x2))/\CallsR prog K.pool_Pool_Take #[.pointer p1,.int .u8 2,.int .u32 x2] w4 fun v1 w5=>∃ x3 x4:Int,v1= .tuple #[.int .i64 x3,.int .i64 x4]/\br (x4 != 0) (storeP w5 ⟨B1,0,none⟩ [.int .i64 0,.int .i64 0] fun w6=>∃ x5 x6:Int,cellsAt w6 ⟨B1,0,none⟩ [.int .i64 x5,.int .i64 x6] 0/\R (.tuple #[.agg #[.int .i64 x5,.int .i64 x6],.int .i64 x4]) w6) (storeP w5 ⟨q,8,none⟩ [.int .i64 x3] fun w7=>storeP w7 ⟨q,9,none⟩ [.int .i64 1] fun w8=>t.begun.2=0/\StemIn F X w8 q M t.begun.1/\Upd (StemF F q) w w8/\w8.heap[B1]?=some (.cells #[.int .i64 0,.int .i64 0] T.api_Place (0,0))):=fun u' h' hu' g' hc w4 hd4=>by
   have h4:=h'.ext hd4.upd
   refine ⟨fun v=>Ext w4 v,Upd.refl _ _,_,fun v hv=>(h4.ext hv).cell (i:=0) (fun _ _ _ _ _=>rfl),_,fun v hv=>(h4.ext hv).cell (i:=1) (fun _ _ _ _ _=>rfl),(pxTake h4.pool (kind:=2) h4.era).mono ?_⟩
   rintro _ w5 ⟨rfl,hu5,hp5⟩
   have h5:=h4.step hu5 hp5
   have u5:Upd (StemF F q) w w5:=(hu'.then hd4.upd).trans (hu5.mono fun x _ hx=>.inl hx)
   have g5:=hu5.get (Ext.get hd4.upd g') fun hx=>hB1F (.inl hx) rfl
   have htk:t.begun=if (takePool t.pool t.chip 2 t.era).err=0 then ({ t with pool:=(takePool t.pool t.chip 2 t.era).pool,chip:=(takePool t.pool t.chip 2 t.era).chip,block:=(takePool t.pool t.chip 2 t.era).block,page:=1 },0) else ({ t with pool:=(takePool t.pool t.chip 2 t.era).pool,chip:=(takePool t.pool t.chip 2 t.era).chip },(takePool t.pool t.chip 2 t.era).err):=by rw [StemS.begun_bad hc];rfl
   rw [htk] at hw ⊢
   generalize takePool t.pool t.chip 2 t.era=y at *
   refine ⟨_,_,rfl,br_ne (fun hne=>?_) fun h0=>?_⟩
   .have hye:¬ y.err=0:=by omega
    rw [if_neg hye] at hw
    dsimp only at hw
    rw [if_pos (show y.err≠0 from hye)] at hw
    exact ret (p:=noPlace) g5 h5 u5 hw.symm
   .rw [if_pos (show y.err=0 by omega)]
    refine h5.store (t:={ t with pool:=y.pool,chip:=y.chip,block:=y.block }) ⟨rfl,rfl,rfl,rfl,rfl,rfl⟩ (fun _ _ _ _ _=>rfl) (by simp) fun w7 hu7 h7=>?_
    refine h7.store (t:={ t with pool:=y.pool,chip:=y.chip,block:=y.block,page:=1 }) ⟨rfl,rfl,rfl,rfl,rfl,rfl⟩ (fun _ _ _ _ _=>rfl) (by simp) fun w8 hu8 h8=>?_
    exact ⟨rfl,h8,u5.trans ((hu7.trans hu8).mono fun x _ hx=>.inr hx),(hu7.trans hu8).get g5 fun e=>by omega⟩
  refine ⟨fun v=>Ext w3 v,Upd.refl _ _,_,fun v hv=>(h3.ext hv).cell (i:=8) (fun _ _ _ _ _=>rfl),br_dec (fun hn1=>⟨Upd.refl _ _,Upd.refl _ _,take w3 h3 u3 g3 (.inl hn1)⟩) fun hn1=>?_⟩
  refine ⟨_,fun v hv=>(h3.ext hv).cell (i:=9) (fun _ _ _ _ _=>rfl),_,fun v hv=>(h3.ext hv).cell (i:=0) (fun _ _ _ _ _=>rfl),(pChip h3.pool.pin).mono ?_⟩
  rintro _ _ ⟨rfl,rfl⟩
  rename_i w3
  refine ⟨_,rfl,Upd.refl _ _,(cGeo h3.pool.pin.chip).mono ?_⟩
  rintro _ w5 ⟨rfl,he5⟩
  refine ⟨_,_,_,_,rfl,he5,br_dec (fun hge=>take w5 (h3.ext he5) (u3.then he5) (Ext.get he5 g3) (.inr (by omega))) fun hlt=>?_⟩
  have hbo:t.begun=(t,0):=StemS.begun_ok (by omega)
  rw [hbo]
  exact ⟨rfl,h3.ext he5,u3.then he5,Ext.get he5 g3⟩
 rintro v ⟨hy0,hv,huv,gv⟩
 obtain ⟨hrd2,i,hop,hplt⟩:=hbok hy0
 rw [if_neg (by omega)] at hw
 have hbsz:b.length=t.begun.1.chip.sz:=by rw [hbgeo.2.2.1,htsz];exact hbl
 have htr:=StemS.try_tried hrd2 hop hplt hbsz
 have hyl:t.begun.1.chip.hits.length+1<=n+1:=by
  unfold StemS.left at hleft
  split at hleft<;>omega
 have hysz:t.begun.1.chip.sz=s.chip.sz:=hbgeo.2.2.1.trans htsz
 generalize t.begun.1=y at *
 intro w8 hd8
 have h8:=hv.ext hd8.upd
 have u8:=huv.then hd8.upd
 have g8:=Ext.get hd8.upd gv
 have hs8:=u8.size
 refine ⟨fun v=>Ext w8 v,Upd.refl _ _,_,fun v hv=>(h8.ext hv).cell (i:=8) (fun _ _ _ _ _=>rfl),_,fun v hv=>(h8.ext hv).cell (i:=9) (fun _ _ _ _ _=>rfl),fun B2 w9 hn9=>⟨hn9.upd,?_⟩⟩
 have hs9:=hn9.size
 have hb9:=hn9.num
 refine put_all hn9.get rfl fun w10 hu10 hs10 g10=>?_
 have e10:Ext w8 w10:=hn9.upd.beyond hu10 fun x hx=>by omega
 intro w11 hd11
 have e11:=e10.trans hd11.upd
 have h11:=h8.ext e11
 have u11:=u8.then e11
 have g11:=Ext.get e11 g8
 have gB2:=Ext.get hd11.upd g10
 refine ⟨fun v=>Upd F w11 v,Upd.refl _ _,_,fun v hv=>?_,_,fun v hv=>cell_of (hv.get gB2 fun hf=>by have:=hF _ hf;have:=u8.size;omega) rfl,_,fun v hv=>cell_of (hv.get gB2 fun hf=>by have:=hF _ hf;have:=u8.size;omega) rfl,(pChip h11.pool.pin).mono ?_⟩
 .obtain ⟨⟨a0,c0,a20,c20,mp0,g0,_⟩,_,hout,_⟩:=h11
  exact cell_of (hv.get g0 hout) rfl
 rintro _ _ ⟨rfl,rfl⟩
 rename_i w11
 have hb11:BytesAt w11 a b:=RowAt.upd hb u11 fun p hp hx=>by
  have:=hap p hp
  rcases hx with hx | hx
  .exact this.1 hx
  .exact this.2.1 hx
 refine ⟨_,rfl,Upd.refl _ _,(pxProgram h11.pool y.block (y.page:Nat) (cp:=cp) hb11 fun p hp=>(hap p hp).1).mono ?_⟩
 rintro _ w12 ⟨rfl,hu12,hp12⟩
 have h12:=h11.step hu12 hp12
 have u12:=u11.trans (hu12.mono fun x _ hx=>.inl hx)
 have g12:=hu12.get g11 fun hx=>hB1F (.inl hx) rfl
 have gB12:=hu12.get gB2 fun hf=>by have:=hF _ hf;have:=u8.size;omega
 have hypg:=hrd2.page
 have ew:i64.wrap ((y.page:Int)+1)=((y.page+1:Nat):Int):=by rw [w64 (by omega) (by omega)];omega
 refine ⟨_,rfl,hu12,_,h12.cell (i:=9) (fun _ _ _ _ _=>rfl),?_⟩
 rw [ew]
 have hB2q:B2≠q:=by have:=u8.size;omega
 refine h12.store (t:=y.tried b) ⟨rfl,rfl,rfl,rfl,rfl,rfl⟩ (fun _ _ _ _ _=>rfl) (by simp) fun w13 hu13 h13=>?_
 have u13:=u12.trans (hu13.mono fun x _ hx=>.inr hx)
 have g13:=hu13.get g12 fun e=>by omega
 have gB13:=hu13.get gB12 fun e=>hB2q e
 generalize he:(y.chip.program y.block (y.page:Nat) b).2=e at *
 refine br_eq (fun h0=>?_) fun h0=>br_eq (fun h10=>?_) fun h10=>?_
 .rw [if_pos (by omega)] at hw
  refine ⟨_,_,place_cells gB13,?_⟩
  exact ret (p:=⟨y.block,(y.page:Nat)⟩) (e:=0) g13 h13 u13 hw.symm
 .rw [if_neg (by omega),if_pos (by omega)] at hw
  have he10:e=10:=by omega
  subst he10
  exact ret (p:=noPlace) g13 h13 u13 hw.symm
 .rw [if_neg (by omega),if_neg (by omega)] at hw
  have h9:e=9:=by have:=htr.err;omega
  obtain ⟨hrb,hless⟩:=htr.bad h9
  refine h13.store (t:={ y.tried b with block:= -1 }) ⟨rfl,rfl,rfl,rfl,rfl,rfl⟩ (fun _ _ _ _ _=>rfl) (by simp) fun w14 hu14 h14=>?_
  refine hK n _ (by omega) ((hJ _ _).2 ⟨_,h14,hrb,?_,hw,htr.wrote.deed.geo.2.2.1.trans hysz,u13.trans (hu14.mono fun x _ hx=>.inr hx),hu14.get g13 fun e=>by omega⟩)
  unfold StemS.left
  rw [if_pos (show (-1:Int)<0 by decide)]
  show (y.tried b).chip.hits.length+1<=n
  omega
theorem putPage_zero {size:Int} {kind:UInt8} {body:List UInt8} (h:(putPage size kind body).2=0):(putPage size kind body).1.length=size.toNat:=by
 unfold putPage at h ⊢
 split at h
 .cases h
 .rename_i h1
  rw [if_neg h1]
  split at h
  .cases h
  .rename_i h2
   rw [if_neg h2]
   exact pageOf_length _ _ _ (by omega)
theorem putPoint_zero {size:Int} {p:Point} (h:(putPoint size p).2=0):(putPoint size p).1.length=size.toNat:=by
 unfold putPoint at h ⊢
 split at h
 .rename_i h1
  rw [if_pos h1]
  exact putPage_zero h
 .cases h
theorem stem_end_spec {F X:Nat->Prop} {w:World} {q:Nat} {M:PLoc} {s:StemS} (h:StemIn F X w q M s) (hF:∀ x,F x->x<w.heap.size) (hX:∀ x,X x->x<w.heap.size) (hr:s.Ready s.fuel) (hnum:s.number+1<18446744073709551616) (top:Place) (count:Nat) :
  CallsR prog K.stem_Stem_end #[.pointer (some ⟨q,0,none⟩),placeV top,.int .i64 count] w fun v w'=>v= .int .i64 ((s.ended top count).2:Nat)/\Upd (StemF F q) w w'/\StemIn F X w' q M (s.ended top count).1:=by
 obtain ⟨r,hr0⟩: ∃ r,r=s.ended top count:=⟨_,rfl⟩
 rw [<- hr0]
 unfold StemS.ended at hr0
 simp only at hr0
 apply stem_Stem_end.sh
 suffices H:∀ R:Value->World->Prop,(∀ v w',v= .int .i64 (r.2:Nat)/\Upd (StemF F q) w w'/\StemIn F X w' q M r.1->R v w')->stem_Stem_end.body (some ⟨q,0,none⟩) top.block top.page count w R from H _ fun _ _ h=>h
 intro R hR
 unfold stem_Stem_end.body
 simp only [nilC_some',add_lit,Nat.zero_add]
 have hq:=h.lt
 intro B1 w1 hn1
 have hB1:B1=w.heap.size:=hn1.num
 have hs1:=hn1.size
 have g1:w1.heap[B1]?=some (.cells #[.int .i64 top.block,.int .i64 top.page] T.api_Place (0,0)):=hn1.get
 have h1:=h.ext hn1.upd
 refine ⟨_,h1.cell (i:=7) (fun _ _ _ _ _=>rfl),?_⟩
 have ew:u64.wrap ((s.number:Int)+1)=((s.number+1:Nat):Int):=by rw [wu64_mod];omega
 rw [ew]
 refine h1.store (t:={ s with number:=s.number+1 }) ⟨rfl,rfl,rfl,rfl,rfl,rfl⟩ (fun _ _ _ _ _=>rfl) (by simp) fun w2 hu2 h2=>?_
 have u2:Upd (StemF F q) w w2:=(Upd.ext hn1.upd).trans (hu2.mono fun x _ hx=>.inr hx)
 have g2:=hu2.get g1 fun e=>by omega
 intro w3 hd3
 have h3:=h2.ext hd3.upd
 have u3:=u2.then hd3.upd
 have g3:=Ext.get hd3.upd g2
 have hs3:=u3.size
 refine ⟨fun v=>Ext w3 v,Upd.refl _ _,_,fun v hv=>(h3.ext hv).cell (i:=0) (fun _ _ _ _ _=>rfl),_,fun v hv=>(h3.ext hv).cell (i:=7) (fun _ _ _ _ _=>rfl),_,fun v hv=>cell_of (Ext.get hv g3) rfl,_,fun v hv=>cell_of (Ext.get hv g3) rfl,(pChip h3.pool.pin).mono ?_⟩
 rintro _ _ ⟨rfl,rfl⟩
 rename_i w3
 refine ⟨_,rfl,Upd.refl _ _,(cGeo h3.pool.pin.chip).mono ?_⟩
 rintro _ w5 ⟨rfl,he5⟩
 refine ⟨_,_,_,_,rfl,he5,(point_Put_spec (s.chip.sz:Nat) ⟨s.number+1,top.block,top.page,count⟩ hnum w5).mono ?_⟩
 rintro _ w6 ⟨a6,c6,rfl,hb6,hf6,he6,hc6⟩
 have h6:=(h3.ext he5).ext he6
 have u6:=(u3.then he5).then he6
 have hs5:=he5.size
 have hpz:=@putPoint_zero (s.chip.sz:Nat) ⟨s.number+1,top.block,top.page,count⟩
 refine ⟨_,_,_,_,rfl,he5.trans he6,?_⟩
 generalize hpt:putPoint (s.chip.sz:Nat) ⟨s.number+1,top.block,top.page,count⟩= pt at *
 refine br_ne (fun hne=>?_) fun h0=>?_
 .rw [if_pos (show pt.2≠0 by omega)] at hr0
  refine hR _ _ ⟨by rw [hr0],u6,?_⟩
  rw [hr0]
  exact h6
 .rw [if_neg (show ¬ pt.2≠0 by omega)] at hr0
  have hrd:({ s with number:=s.number+1 }:StemS).Ready ({ s with number:=s.number+1 }:StemS).fuel:=⟨hr.1,hr.2,hr.3,hr.4,hr.5,fun h=>by
   obtain ⟨i,o⟩:=hr.6 h
   exact ⟨i,o.1,o.2,o.3,o.4,o.5,o.6,o.7,o.8⟩,hr.7⟩
  have hs6:=u6.size
  have hlen:pt.1.length=s.chip.sz:=by rw [hpz (by omega)];omega
  refine (stem_write_spec (cp:=c6) h6 (fun x hx=>by have:=hF x hx;omega) (fun x hx=>by have:=hX x hx;omega) hrd hb6 hlen fun p hp=>⟨fun hf=>by have:=hF _ hf;have:=hf6 _ hp;omega,by have:=hf6 _ hp;omega,?_⟩).mono ?_
  .obtain ⟨b,o,e,hlt⟩:=RowAt.blk hb6 (by
    intro e
    have h0:(pt.1.map bv).length=0:=by rw [e];rfl
    rw [List.length_map,hlen] at h0
    have:=hr.geo
    omega)
   rw [e] at hp
   cases hp
   exact hlt
  rintro _ w7 ⟨rfl,hu7,h7⟩
  have u7:=u6.trans hu7
  generalize StemS.write pt.1 ({ s with number:=s.number+1 }:StemS).fuel { s with number:=s.number+1 }=y at *
  refine ⟨_,_,_,rfl,new_put (vs:=y.2.1.vals) rfl fun B2 w9 hb9 hs9 he9 g9=>?_⟩
  have h9:=h7.ext he9
  have u9:=u7.then he9
  refine br_eq (fun h0'=>⟨_,_,place_cells g9,?_⟩) fun hne=>?_
  .rw [if_pos (show y.2.2=0 by omega)] at hr0
   refine h9.store (t:={ y.1 with point:=y.2.1 }) ⟨rfl,rfl,rfl,rfl,rfl,rfl⟩ (fun _ _ _ _ _=>rfl) (by simp) fun w10 hu10 h10=>?_
   refine hR _ _ ⟨by rw [hr0,h0'];rfl,u9.trans (hu10.mono fun x _ hx=>.inr hx),?_⟩
   rw [hr0]
   exact h10
  .rw [if_neg (show ¬ y.2.2=0 by omega)] at hr0
   refine hR _ _ ⟨by rw [hr0],u9,?_⟩
   rw [hr0]
   exact h9
def maxN (n:Nat) (x:Spot):Nat:=max n x.1.number
theorem maxN_step (c:Chip) (b:Nat) {k:Nat} (hk:1<=k) (n:Nat):(spotsB c b (k+1)).foldl maxN n=match pointAt c b k with
  | some p=>max ((spotsB c b k).foldl maxN n) p.number
  | none=>(spotsB c b k).foldl maxN n:=by
 rw [spotsB_succ c b hk,List.foldl_append]
 cases pointAt c b k<;>rfl
theorem maxN_flat (c:Chip) {L:List Nat} {i:Nat} (hi:i<L.length) (n:Nat):((L.take (i+1)).flatMap fun b=>spotsB c b c.np).foldl maxN n=(spotsB c L[i] c.np).foldl maxN (((L.take i).flatMap fun b=>spotsB c b c.np).foldl maxN n):=by
 rw [List.take_succ_eq_append_getElem hi,List.flatMap_append,List.foldl_append]
 simp
theorem stem_greatest_spec {F:Nat->Prop} {A:Nat} {w:World} {p:Nat} {c:Chip} (h:CIn F A w p c) (hd0:c.dead=false) {L:List Nat} (hL:∀ b∈L,b<c.nb) (hLl:L.length<=1000) {S:Nat} {a:Option Addr} {ca:Nat} (hl:IList S w a ca (L.map Int.ofNat)) :
  CallsR prog K.stem_greatest #[.pointer (some ⟨p,0,none⟩),.slice a L.length ca] w fun v w'=>v= .int .u64 (greatestS c L:Nat)/\Ext w w':=by
 apply stem_greatest.sh
 suffices H:∀ R:Value->World->Prop,(∀ v w',v= .int .u64 (greatestS c L:Nat)/\Ext w w'->R v w')->stem_greatest.body (some ⟨p,0,none⟩) a L.length ca w R from H _ fun _ _ h=>h
 intro R hR
 unfold stem_greatest.body
 have hgr:greatestS c L=(L.flatMap fun b=>spotsB c b c.np).foldl maxN 0:=rfl
 rw [hgr] at hR
 have hnp:=h.ok.np1
 have hnp2:=h.ok.np2
 have hnb:=h.ok.nb2
 refine ⟨fun x1 x2 u=>∃ i:Nat,x2=i/\i<=L.length/\x1=(((L.take i).flatMap fun b=>spotsB c b c.np).foldl maxN 0:Nat)/\Ext w u,fun _ x _=>((L.length:Int) - x).toNat,⟨0,rfl,by omega,rfl,Upd.refl _ _⟩,?_⟩
 rintro x1 x2 u ⟨i,rfl,hi,rfl,heu⟩
 refine br_dec (fun hlt=>?_) fun hge=>?_
 .have hi':i<L.length:=by omega
  have ew:i64.wrap ((i:Int)+1)=((i+1:Nat):Int):=w64 (by omega) (by omega)
  simp only [ew]
  have hil:i<(L.map Int.ofNat).length:=by rw [List.length_map];exact hi'
  have hbi:=hL _ (List.getElem_mem hi')
  refine SliceAt.idx (r:=intR) ((hl.ext heu).sliceI) (List.length_map ..).symm hil fun b o vs ha hrow hR' hG'=>?_
  obtain rfl:vs=[.int .i64 ((L.map Int.ofNat)[i])]:=hR'
  have hx:(L.map Int.ofNat)[i]=((L[i]:Nat):Int):=by simp
  refine ⟨_,(hrow.cells).1,?_⟩
  rw [hx]
  have hfl:=maxN_flat c hi' 0
  refine ⟨fun x4 x5 v=>∃ k:Nat,x5=k/\1<=k/\k<=c.np/\x4=((spotsB c L[i] k).foldl maxN (((L.take i).flatMap fun b=>spotsB c b c.np).foldl maxN 0):Nat)/\Ext w v,fun _ x _=>((c.np:Int) - x).toNat,⟨1,rfl,by omega,by omega,rfl,heu⟩,?_⟩
  rintro x4 x5 v ⟨k,rfl,hk1,hk,rfl,hev⟩
  generalize (((L.take i).flatMap fun b=>spotsB c b c.np).foldl maxN 0)=n0 at *
  refine (cGeo (h.ext hev)).mono ?_
  rintro _ v1 ⟨rfl,hev1⟩
  have ev1:=hev.trans hev1
  refine ⟨_,_,_,_,rfl,br_dec (fun hkn=>?_) fun hkn=>?_⟩
  .have hk':k<c.np:=by omega
   have ewk:i64.wrap ((k:Int)+1)=((k+1:Nat):Int):=w64 (by omega) (by omega)
   simp only [ewk]
   have hfs:=maxN_step c L[i] hk1 n0
   refine (cPage (h.ext ev1) hd0 hbi hk').mono ?_
   rintro _ v2 ⟨hev2,a3,c3,rfl,hb3,hc3,hf3⟩
   refine ⟨_,_,_,_,rfl,(seal_Get_spec hb3 hc3).mono ?_⟩
   rintro _ v3 ⟨hev3,a4,c4,rfl,hb4,hc4⟩
   have hsm:=page_small h.ok hbi hk'
   have ev3:=(ev1.trans hev2).trans hev3
   have same:∀ {v':World},Ext v3 v'->pointAt c L[i] k=none->(∃ k':Nat,((k+1:Nat):Int)=k'/\1<=k'/\k'<=c.np/\(((spotsB c L[i] k).foldl maxN n0:Nat):Int)=((spotsB c L[i] k').foldl maxN n0:Nat)/\Ext w v')/\((c.np:Int) - ((k+1:Nat):Int)).toNat<((c.np:Int) - (k:Int)).toNat:=fun hv' hno=>by
    rw [hno] at hfs
    exact ⟨⟨k+1,rfl,by omega,by omega,by rw [hfs],ev3.trans hv'⟩,meas hk'⟩
   refine ⟨_,_,_,_,_,rfl,br_ne (fun hne=>same (Upd.refl _ _) (pointAt_none1 (by omega))) fun hz=>br_ne (fun hne=>same (Upd.refl _ _) (pointAt_none2 fun e=>hne (by rw [e];rfl))) fun hk6=>?_⟩
   have hp6:(getPage (c.page L[i] k)).1=6:=(u8i _ 6 (by omega)).1 hk6
   refine (point_Get_spec (c:=c4) hb4 (by omega)).mono ?_
   rintro _ v4 ⟨rfl,hev4⟩
   refine ⟨_,_,_,_,_,rfl,new_put (vs:=Point.vals (getPoint (getPage (c.page L[i] k)).2.1).1) rfl fun B2 v5 hb5 hs5 hev5 g5=>br_eq (fun hz0=>⟨_,cell_of g5 rfl,?_⟩) fun hne=>same (hev4.trans hev5) (pointAt_none3 (by omega))⟩
   have hsome:=pointAt_some (c:=c) (b:=L[i]) (k:=k) (by omega) hp6 (by omega)
   rw [hsome] at hfs
   dsimp only at hfs
   refine ⟨⟨k+1,rfl,by omega,by omega,?_,(ev3.trans hev4).trans hev5⟩,meas hk'⟩
   rw [hfs]
   generalize (getPoint (getPage (c.page L[i] k)).2.1).1.number=y
   generalize (spotsB c L[i] k).foldl maxN n0=z
   split
   .rw [Nat.max_eq_right (by omega)]
   .rw [Nat.max_eq_left (by omega)]
  .have hkn':k=c.np:=by omega
   subst hkn'
   exact ⟨⟨i+1,rfl,hi',by rw [hfl],ev1⟩,meas hi'⟩
 .have hil:i=L.length:=by omega
  subst hil
  rw [List.take_length]
  exact hR _ _ ⟨rfl,heu⟩
end Go.Den
section
namespace Go.Den
namespace StemS
structure Alike (s t:StemS):Prop where
 facts:t.facts=s.facts
 synced:t.synced=s.synced
 pages:t.pages=s.pages
 point:t.point=s.point
 number:t.number=s.number
 era:t.era=s.era
 geo:s.chip.SameGeo t.chip
 hits:t.chip.hits.length<=s.chip.hits.length
theorem Alike.trans {a b c:StemS} (h:a.Alike b) (k:b.Alike c):a.Alike c:=⟨k.1.trans h.1,k.2.trans h.2,k.3.trans h.3,k.4.trans h.4,k.5.trans h.5,k.6.trans h.6,h.7.trans k.7,Nat.le_trans k.8 h.8⟩
structure Written (s:StemS) (k:Nat) (b:List UInt8) (r:StemS×Place×Nat):Prop where
 alike:s.Alike r.1
 err:r.2.2=0\/r.2.2=10\/r.2.2=11
 ok:r.2.2=0->r.1.Ready k/\∃ i m:Nat,r.2.1=⟨i,m⟩/\i<s.chip.nb/\1<=m/\m<s.chip.np/\r.1.chip.page i m=b
theorem write_ok {b:List UInt8}:∀ (n:Nat) {s:StemS} {k:Nat},s.Ready (k+n)->s.chip.hits.length+(if s.block<0 then 1 else 2)<=n->b.length=s.chip.sz->Written s k b (s.write b n)
 | 0,s,k,hr,hl,hb=>by split at hl<;>omega
 | n+1,s,k,hr,hl,hb=>by
  obtain ⟨a1,a2,a3,a4,a5,a6,a7,a8,a9,a10⟩:=begun_took (n:=k+n) hr
  have al:s.Alike s.begun.1:=⟨a1,a2,a3,a4,a5,a6,a7,a9⟩
  rw [write_succ]
  by_cases h0:s.begun.2=0
  .rw [if_neg (by omega)]
   obtain ⟨r,i,o,hp⟩:=a10 h0
   have hbsz:b.length=s.begun.1.chip.sz:=by rw [a7.2.2.1];exact hb
   have t:=try_tried r o hp hbsz
   have al2:s.Alike (s.begun.1.tried b):=al.trans ⟨rfl,rfl,rfl,rfl,rfl,rfl,t.wrote.deed.geo,t.wrote.hits⟩
   generalize (s.begun.1.chip.program s.begun.1.block (s.begun.1.page:Nat) b).2=e at *
   have hg1:=a7.1
   have hg2:=a7.2.1
   by_cases he:e=0
   .rw [if_pos he]
    refine ⟨al2,.inl rfl,fun _=>⟨(t.ok he).less (by omega),i,s.begun.1.page,?_,?_,o.page,?_,t.wrote.ok he⟩⟩
    .show (⟨s.begun.1.block,(s.begun.1.page:Nat)⟩: Place)=_
     rw [o.blk]
    .have:=o.lt;omega
    .omega
   .rw [if_neg he]
    by_cases h10:e=10
    .rw [if_pos h10]
     exact ⟨al2,.inr (.inl rfl),fun h=>by cases h⟩
    .rw [if_neg h10]
     have h9:e=9:=by have:=t.err;omega
     obtain ⟨rb,hless⟩:=t.bad h9
     have al3:s.Alike ({ s.begun.1.tried b with block:= -1 }:StemS):=⟨al2.1,al2.2,al2.3,al2.4,al2.5,al2.6,al2.7,al2.8⟩
     have ih:=write_ok (b:=b) n (s:={ s.begun.1.tried b with block:= -1 }) (k:=k) rb (by
      rw [if_pos (show (-1:Int)<0 by decide)]
      show (s.begun.1.tried b).chip.hits.length+1<=n
      split at hl<;>omega) (by rw [al3.geo.2.2.1];exact hb)
     refine ⟨al3.trans ih.alike,ih.err,fun h=>?_⟩
     obtain ⟨q1,i',m,q2,q3,q4,q5,q6⟩:=ih.ok h
     exact ⟨q1,i',m,q2,by have:=al3.geo.1;omega,q4,by have:=al3.geo.2.1;omega,q6⟩
  .rw [if_pos h0]
   exact ⟨al,a8,fun h=>absurd h h0⟩
theorem fuel_left (s:StemS):s.chip.hits.length+(if s.block<0 then 1 else 2)<=s.fuel:=by unfold fuel;split<;>omega
end StemS
def PB (m:PageMap):Prop:=∀ x∈m,0<=x.2.block/\x.2.block<=255/\0<=x.2.page/\x.2.page<=255
section
variable {σ:Type} {put:σ->List UInt8->σ×Place×Nat}
theorem putAll_calm (h:∀ s b,(put s b).2.2=0):∀ (l:List (Key×List UInt8)) (s:σ) (acc:List Child),(putAll put l s acc).2.2=0
 | [],s,acc=>rfl
 | x :: l,s,acc=>by
  unfold putAll
  rw [if_neg (by rw [h];simp)]
  exact putAll_calm h l _ _
theorem layUp_calm (h:∀ s b,(put s b).2.2=0) (sz:Nat):∀ (n:Nat) (s:σ) (l:List Child),(layUp put sz n s l).2.2=0
 | 0,s,l=>rfl
 | n+1,s,l=>by
  unfold layUp
  split
  .rfl
  .simp only
   rw [if_neg (by rw [putAll_calm h];simp)]
   exact layUp_calm h sz n _ _
theorem layS_calm (h:∀ s b,(put s b).2.2=0) (sz:Nat) (s:σ) (l:List Fact):(layS put sz s l).2.2=0:=by
 unfold layS
 split
 .rfl
 .simp only
  rw [if_neg (by rw [putAll_calm h];simp)]
  exact layUp_calm h sz _ _ _
end
theorem lacks_calm (p:PageMap) (n:Nat) (b:List UInt8):(StemS.lacks p n b).2.2=0:=by
 unfold StemS.lacks
 cases getM p b<;>rfl
end Go.Den
end
namespace Go.Den
theorem lacks_bnd {p:PageMap} (hp:PB p) {n:Nat} (hn:n<=65000) (b:List UInt8):0<=(StemS.lacks p n b).2.1.block/\(StemS.lacks p n b).2.1.block<=255/\0<=(StemS.lacks p n b).2.1.page/\(StemS.lacks p n b).2.1.page<=255:=by
 unfold StemS.lacks
 cases h:getM p b with
 | some x=>exact hp _ (getM_some h)
 | none =>
  have h1:(n+1) / 255<=255:=by omega
  have h2:(n+1) % 255<255:=Nat.mod_lt _ (by decide)
  simp only
  omega
theorem stem_missing_1_spec {F X:Nat->Prop} {u:World} {q:Nat} {M:PLoc} {s:StemS} (h:StemIn F X u q M s) {B1 B2 n:Nat} (g1:u.heap[B1]?=some (.cells #[.pointer (some ⟨q,0,none⟩)] T.p_stem_Stem (0,0))) (g2:u.heap[B2]?=some (.cells #[.int .i64 (n:Nat)] T.int (0,0))) (h12:B1≠B2) (h2q:B2≠q) (hn:n<=65000)
  {a:Option Addr} {b:List UInt8} {c:Nat} (hb:BytesAt u a b) (hbl:b.length<=100000) :
  CallsR prog K.stem_Stem_missing_1 #[.slice a b.length c,.pointer (some ⟨B1,0,none⟩),.pointer (some ⟨B2,0,none⟩)] u fun v u'=>v= .tuple #[placeV (StemS.lacks s.pages n b).2.1,.int .i64 0]/\Upd (·=B2) u u'/\u'.heap[B2]?=some (.cells #[.int .i64 ((StemS.lacks s.pages n b).1:Nat)] T.int (0,0)):=by
 apply stem_Stem_missing_1.sh
 suffices H:∀ R:Value->World->Prop,(∀ v u',(v= .tuple #[placeV (StemS.lacks s.pages n b).2.1,.int .i64 0]/\Upd (·=B2) u u'/\u'.heap[B2]?=some (.cells #[.int .i64 ((StemS.lacks s.pages n b).1:Nat)] T.int (0,0)))->R v u')->stem_Stem_missing_1.body a b.length c ⟨B1,0,none⟩ ⟨B2,0,none⟩ u R from H _ fun _ _ h=>h
 intro R hR
 unfold stem_Stem_missing_1.body
 have hB2:B2<u.heap.size:=(Array.getElem?_eq_some_iff.1 g2).1
 intro Bp w1 hn1
 have hBp:Bp=u.heap.size:=hn1.num
 have hs1:=hn1.size
 have gp:w1.heap[Bp]?=some (.cells #[.int .i64 0,.int .i64 0] T.api_Place (0,0)):=hn1.get
 have fin:∀ {z z':World} {Bx:Nat} {cs:Array Value},Ext w1 z->z.heap[Bx]?=some (.cells cs T.api_Place (0,0))->cs.size=2->w1.heap.size<=Bx->storeP z ⟨Bx,0,none⟩ [.int .i64 ((getM s.pages b).getD noPlace).block,.int .i64 ((getM s.pages b).getD noPlace).page] fun w4=>br (getM s.pages b).isSome (∃ x3 x4:Int,cellsAt w4 ⟨Bx,0,none⟩ [.int .i64 x3,.int .i64 x4] 0/\storeP w4 ⟨Bp,0,none⟩ [.int .i64 x3,.int .i64 x4] fun w5=>∃ x5 x6:Int,cellsAt w5 ⟨Bp,0,none⟩ [.int .i64 x5,.int .i64 x6] 0/\R (.tuple #[.agg #[.int .i64 x5,.int .i64 x6],.int .i64 0]) w5)
   (∃ x7:Int,World.cell? w4 ⟨B2,0,none⟩= some (.int .i64 x7)/\storeP w4 ⟨B2,0,none⟩ [.int .i64 (i64.wrap (x7+1))] fun w6=>∃ x8:Int,World.cell? w6 ⟨B2,0,none⟩= some (.int .i64 x8)/\(255:Int)≠0/\∃ x9:Int,World.cell? w6 ⟨B2,0,none⟩= some (.int .i64 x9)/\(255:Int)≠0/\storeP w6 ⟨Bp,0,none⟩ [.int .i64 (i64.wrap ((255:Int) - i64.wrap (Int.tdiv x8 255))),.int .i64 (Int.tmod x9 255)] fun w7=>∃ x10 x11:Int,cellsAt w7 ⟨Bp,0,none⟩ [.int .i64 x10,.int .i64 x11] 0/\R (.tuple #[.agg #[.int .i64 x10,.int .i64 x11],.int .i64 0]) w7):=by
  intro z z' Bx cs hz gx hcs hBx
  refine put_all gx (by rw [hcs];rfl) fun w4 hu4 hs4 g4=>?_
  have e4:Ext w1 w4:=hz.beyond hu4 fun x hx=>by omega
  have gp4:=Ext.get e4 gp
  have eu4:=hn1.upd.trans e4
  have g24:=Ext.get eu4 g2
  unfold StemS.lacks at hR
  cases hg:getM s.pages b with
  | some p =>
   rw [hg] at hR g4
   simp only [Option.isSome_some,br_true]
   refine ⟨_,_,place_cells g4,put_all gp4 rfl fun w5 hu5 hs5 g5=>⟨_,_,place_cells g5,hR _ _ ⟨rfl,(Upd.ext eu4).over hu5 fun x hx=>.inr (by omega),?_⟩⟩⟩
   exact hu5.get g24 fun e=>by omega
  | none =>
   rw [hg] at hR
   simp only [Option.isSome_none,br_false]
   have ew:i64.wrap ((n:Int)+1)=((n+1:Nat):Int):=w64 (by omega) (by omega)
   have q1:Int.tdiv ((n+1:Nat):Int) 255=(((n+1) / 255:Nat):Int):=tdiv_nat (n+1) 255
   have q2:Int.tmod ((n+1:Nat):Int) 255=(((n+1) % 255:Nat):Int):=tmod_nat (n+1) 255
   refine ⟨_,cell_of g24 rfl,?_⟩
   rw [ew]
   refine put_all g24 rfl fun w6 hu6 hs6 g6=>⟨_,cell_of g6 rfl,by decide,_,cell_of g6 rfl,by decide,?_⟩
   rw [q1,q2,w64n (by omega),w64 (by omega) (by omega)]
   have gp6:=hu6.get gp4 fun e=>by omega
   refine put_all gp6 rfl fun w7 hu7 hs7 g7=>⟨_,_,place_cells g7,hR _ _ ⟨rfl,((Upd.ext eu4).trans hu6).over hu7 fun x hx=>.inr (by omega),?_⟩⟩
   exact hu7.get g6 fun e=>by omega
 intro w2 hd2
 have e12:=hd2.upd
 have e2:=hn1.upd.trans e12
 have h2:=h.ext e2
 have hs2:=e12.size
 obtain ⟨⟨a0,c0,a20,c20,mp,g0,G,hpt⟩,_,_,_,_,hpo⟩:=h2
 have hcell4:∀ {z:World},Ext w2 z->World.cell? z ⟨q,4,none⟩= some (.map mp):=fun hz=>cell_of (Ext.get hz g0) rfl
 refine ⟨fun z=>Ext w2 z,Upd.refl _ _,_,fun z hz=>cell_of (Ext.get hz (Ext.get e2 g1)) rfl,?_⟩
 simp only [nilC_some',add_lit,Nat.zero_add]
 refine ⟨_,fun z hz=>hcell4 hz,?_,?_⟩
 .refine str_of (hb.ext e2) ⟨Upd.refl _ _,?_,?_⟩
  .refine ⟨_,_,_,page_got hpt.pages hpo hbl,Upd.refl _ _,fun Bx w3 hn3=>⟨hn3.upd,?_⟩⟩
   have hb3:=hn3.num
   exact fin (z':=w3) (e12.trans hn3.upd) hn3.get rfl (by omega)
  .intro Bx w3 hn3
   have hb3:=hn3.num
   exact ⟨hn3.upd,_,_,_,page_got (hpt.pages.ext hn3.upd) hpo hbl,hn3.upd,fin (z':=w3) (e12.trans hn3.upd) hn3.get rfl (by omega)⟩
 .intro Bx w3 hn3
  have hb3:=hn3.num
  exact ⟨hn3.upd,str_of ((hb.ext e2).ext hn3.upd) ⟨hn3.upd,_,_,_,page_got (hpt.pages.ext hn3.upd) hpo hbl,hn3.upd,fin (z':=w3) (e12.trans hn3.upd) hn3.get rfl (by omega)⟩⟩
theorem stem_missing_spec {F X:Nat->Prop} {w:World} {q:Nat} {M:PLoc} {s:StemS} (h:StemIn F X w q M s) (hF:∀ x,F x->x<w.heap.size) (hX:∀ x,X x->x<w.heap.size) (hpb:PB s.pages) {l:List Fact} (hl:FitL s.chip.sz l) (hn:l.length<=20000)
  {G:Nat->Prop} {a:Option Addr} {c:Nat} (hs:SliceAt factR w G a l) (hlc:l.length<=c) (hG:∀ b,G b->b<w.heap.size) :
  CallsR prog K.stem_Stem_missing #[.pointer (some ⟨q,0,none⟩),.slice a l.length c] w fun v w'=>v= .tuple #[.int .i64 (s.missing l:Nat),.int .i64 0]/\Ext w w':=by
 apply stem_Stem_missing.sh
 suffices H:∀ R:Value->World->Prop,(∀ v w',v= .tuple #[.int .i64 (s.missing l:Nat),.int .i64 0]/\Ext w w'->R v w')->stem_Stem_missing.body (some ⟨q,0,none⟩) a l.length c w R from H _ fun _ _ h=>h
 intro R hR
 unfold stem_Stem_missing.body
 have hq:=h.lt
 intro B1 w1 hn1
 have hB1:B1=w.heap.size:=hn1.num
 have hs1:=hn1.size
 refine fun B2 w2 hn2=>?_
 have hB2:B2=w1.heap.size:=hn2.num
 have hs2:=hn2.size
 refine put_all hn2.get rfl fun w3 hu3 hs3 g3=>?_
 have e3:Ext w w3:=(hn1.upd.trans hn2.upd).beyond hu3 fun x hx=>by omega
 have g1:w3.heap[B1]?=some (.cells #[.pointer (some ⟨q,0,none⟩)] T.p_stem_Stem (0,0)):=hu3.get (Ext.get hn2.upd hn1.get) fun e=>by omega
 have h3:=h.ext e3
 refine ⟨_,cell_of g1 rfl,?_⟩
 simp only [nilC_some',add_lit,Nat.zero_add]
 refine ⟨_,h3.cell (i:=0) (fun _ _ _ _ _=>rfl),(pChip h3.pool.pin).mono ?_⟩
 rintro _ _ ⟨rfl,rfl⟩
 rename_i w3
 refine ⟨_,rfl,(cGeo h3.pool.pin.chip).mono ?_⟩
 rintro _ W5 ⟨rfl,he5⟩
 have hs5:=he5.size
 have e5:=e3.trans he5
 have hok:=h3.pool.pin.chip.ok
 have hPutOk:PutOk (StemS.lacks s.pages) s.chip.sz (fun n m=>m+n<=65000) (fun _ _=>True) (fun _ p _=>0<=p.block/\p.block<=255/\0<=p.page/\p.page<=255):=by
  refine ⟨fun h1 h2=>by omega,fun h=>h,fun _=>trivial,fun _ _=>trivial,fun _ h=>h,fun {m b n} hI _=>⟨trivial,fun _=>⟨?_,lacks_bnd hpb (by omega) b⟩⟩⟩
  unfold StemS.lacks
  cases getM s.pages b<;>(simp only;omega)
 have hPutW:PutW (StemS.lacks s.pages) s.chip.sz (fun n m=>m+n<=65000) (fun x=>x=B2) W5.heap.size (fun m u=>StemIn F X u q M s/\u.heap[B1]?=some (.cells #[.pointer (some ⟨q,0,none⟩)] T.p_stem_Stem (0,0))/\u.heap[B2]?=some (.cells #[.int .i64 (m:Nat)] T.int (0,0))) (.func (.func K.stem_Stem_missing_1) #[] #[.pointer (some ⟨B1,0,none⟩),.pointer (some ⟨B2,0,none⟩)]):=by
  refine ⟨fun {m u u' F'} hW k hk=>⟨hW.1.upd k fun x hx=>?_,k.get hW.2.1 fun hx=>by have:=hk _ hx;omega,k.get hW.2.2 fun hx=>by have:=hk _ hx;omega⟩,fun x hx=>by omega,fun {m u n a b c} hW hI hSu hbl hb _ _ Q hQ=>⟨by kernel_rfl,?_⟩⟩
  .have:=hk x hx
   exact ⟨fun hf=>by have:=hF x hf;omega,fun hf=>by have:=hX x hf;omega,by omega⟩
  .refine (stem_missing_1_spec hW.1 hW.2.1 hW.2.2 (by omega) (by omega) (by omega) hb (by have:=hok.sz2;omega)).mono ?_
   rintro v u' ⟨rfl,hu,g⟩
   have hcalm:=lacks_calm s.pages m b
   have:=hQ u' hu ⟨hW.1.upd hu fun x hx=>⟨fun hf=>by have:=hF x hf;omega,fun hf=>by have:=hX x hf;omega,by omega⟩,hu.get hW.2.1 fun e=>by omega,g⟩
   rw [hcalm] at this
   exact this
 have hlay:=stem_lay_spec (c:=c) (s0:=(0:Nat)) (m:=0) hPutOk hPutW hok.sz1 hok.sz2 (by show 0+(3 * l.length+0)<=65000;omega) hl (by omega) (hs.ext e5) hlc (fun b hb=>⟨fun e=>by have:=hG b hb;omega,by have:=hG b hb;have:=e5.size;omega⟩) ⟨h3.ext he5,Ext.get he5 g1,Ext.get he5 g3⟩ (Nat.le_refl _)
 refine ⟨_,_,_,_,rfl,hlay.mono ?_⟩
 rintro _ W6 ⟨rfl,hu6,hW6⟩
 rw [layS_calm (lacks_calm s.pages)]
 refine ⟨_,_,_,rfl,new_put (vs:=Place.vals (layS (StemS.lacks s.pages) s.chip.sz 0 l).2.1) rfl fun B3 w8 hb8 hs8 he8 g8=>⟨_,cell_of (Ext.get he8 hW6.2.2) rfl,?_⟩⟩
 exact hR _ _ ⟨rfl,(e5.beyond hu6 fun x hx=>by omega).trans he8⟩
structure SLoc where
 b1:Nat
 b2:Nat
 b4:Nat
 bm:Nat
structure StoreW (F X:Nat->Prop) (q:Nat) (M:PLoc) (L:SLoc) (anew:Bool) (x:StemS×PageMap) (u:World):Prop where
 stem:StemIn F X u q M x.1
 g1:u.heap[L.b1]?=some (.cells #[.pointer (some ⟨q,0,none⟩)] T.p_stem_Stem (0,0))
 g2:u.heap[L.b2]?=some (.cells #[.bool anew] T.bool (0,0))
 g4:u.heap[L.b4]?=some (.cells #[.map (some L.bm)] T.map_stringapi_Place (0,0))
 gm:∃ es ck,u.heap[L.bm]?=some (.map es ck)/\PMapIs es x.2
 ok:PMapOk x.2
structure SLoc.Apart (L:SLoc) (F X:Nat->Prop) (q S:Nat):Prop where
 f:∀ x,F x->x<S/\x≠L.b1/\x≠L.b2/\x≠L.b4/\x≠L.bm
 x:∀ x,X x->x<S/\x≠L.b1/\x≠L.b2/\x≠L.b4/\x≠L.bm
 q:q<S/\q≠L.b1/\q≠L.b2/\q≠L.b4/\q≠L.bm
 s:L.b1<S/\L.b2<S/\L.b4<S/\L.bm<S/\L.bm≠L.b1/\L.bm≠L.b2/\L.bm≠L.b4
abbrev StoreF (F:Nat->Prop) (q:Nat) (L:SLoc):Nat->Prop:=fun x=>F x\/x=q\/x=L.bm
theorem StoreW.keep {F X:Nat->Prop} {q:Nat} {M:PLoc} {L:SLoc} {anew:Bool} {x:StemS×PageMap} {u u':World} {F':Nat->Prop} {S:Nat} (h:StoreW F X q M L anew x u) (ha:L.Apart F X q S) (k:Upd F' u u') (hk:∀ x,F' x->S<=x):StoreW F X q M L anew x u':=by
 obtain ⟨es,ck,h1,h2⟩:=h.gm
 have hs:=ha.s
 refine ⟨h.stem.upd k fun x hx=>?_,k.get h.g1 fun hx=>by have:=hk _ hx;omega,k.get h.g2 fun hx=>by have:=hk _ hx;omega,k.get h.g4 fun hx=>by have:=hk _ hx;omega,⟨es,ck,k.get h1 fun hx=>by have:=hk _ hx;omega,h2⟩,h.ok⟩
 have:=hk x hx
 exact ⟨fun hf=>by have:=(ha.f x hf).1;omega,fun hf=>by have:=(ha.x x hf).1;omega,by have:=ha.q.1;omega⟩
theorem stem_store_1_spec {F X:Nat->Prop} {q:Nat} {M:PLoc} {L:SLoc} {anew:Bool} {x:StemS×PageMap} {u:World} {S:Nat} (h:StoreW F X q M L anew x u) (ha:L.Apart F X q S) (hS:S<=u.heap.size) (hr:x.1.Ready x.1.fuel) {a:Option Addr} {b:List UInt8} {c:Nat} (hb:BytesAt u a b) (hbl:b.length=x.1.chip.sz) (hba:∀ p,a=some p->S<=p.block) :
  CallsR prog K.stem_Stem_store_1 #[.slice a b.length c,.pointer (some ⟨L.b4,0,none⟩),.pointer (some ⟨L.b2,0,none⟩),.pointer (some ⟨L.b1,0,none⟩)] u fun v u'=>v= .tuple #[placeV (StemS.placed anew x b).2.1,.int .i64 ((StemS.placed anew x b).2.2:Nat)]/\Upd (StoreF F q L) u u'/\StoreW F X q M L anew (StemS.placed anew x b).1 u':=by
 obtain ⟨r,hr0⟩: ∃ r,r=StemS.placed anew x b:=⟨_,rfl⟩
 rw [<- hr0]
 unfold StemS.placed at hr0
 apply stem_Stem_store_1.sh
 suffices H:∀ R:Value->World->Prop,(∀ v u',(v= .tuple #[placeV r.2.1,.int .i64 (r.2.2:Nat)]/\Upd (StoreF F q L) u u'/\StoreW F X q M L anew r.1 u')->R v u')->stem_Stem_store_1.body a b.length c ⟨L.b4,0,none⟩ ⟨L.b2,0,none⟩ ⟨L.b1,0,none⟩ u R from H _ fun _ _ h=>h
 intro R hR
 unfold stem_Stem_store_1.body
 have hs:=ha.s
 have hq:=ha.q
 have hb64:b.length<=100000:=by have:=hr.geo;omega
 have hblk:∀ p,a=some p->p.block<u.heap.size:=fun p hp=>by
  obtain ⟨b',o,e,hlt⟩:=RowAt.blk hb (by
   intro e
   have h0:(b.map bv).length=0:=by rw [e];rfl
   rw [List.length_map] at h0
   have:=hr.geo
   omega)
  rw [e] at hp
  cases hp
  exact hlt
 intro Bp w1 hn1
 have hBp:Bp=u.heap.size:=hn1.num
 have hs1:=hn1.size
 have gp:w1.heap[Bp]?=some (.cells #[.int .i64 0,.int .i64 0] T.api_Place (0,0)):=hn1.get
 have h1:=h.keep ha hn1.upd fun x hx=>hx.elim
 obtain ⟨es,ck,hm1,hm2⟩:=h1.gm
 refine ⟨_,cell_of h1.g4 rfl,str_of (hb.ext hn1.upd) ⟨_,_,_,page_got (G:=fun _=>True) (mp:=some L.bm) ⟨trivial,es,ck,hm1,hm2⟩ h1.ok hb64,?_⟩⟩
 refine new_put (vs:=Place.vals ((getM x.2 b).getD noPlace)) rfl fun Bq w3 hb3 hs3 he3 gq=>?_
 have e3:=hn1.upd.trans he3
 have h3:=h1.keep ha he3 fun x hx=>hx.elim
 have gp3:=Ext.get he3 gp
 have fin:∀ {z:World} {p:Place} {st:StemS},Upd (StoreF F q L) u z->StoreW F X q M L anew (st,x.2) z->z.heap[Bp]?=some (.cells #[.int .i64 0,.int .i64 0] T.api_Place (0,0))->z.heap[Bq]?=some (.cells #[.int .i64 p.block,.int .i64 p.page] T.api_Place (0,0))->r=((st,setM x.2 b p),p,0)->
   ∃ m4:Option Nat,World.cell? z ⟨L.b4,0,none⟩= some (.map m4)/\strOfP z a b.length fun s4=>∃ x18 x19:Int,cellsAt z ⟨Bq,0,none⟩ [.int .i64 x18,.int .i64 x19] 0/\setP prog T.string m4 (.string s4) (.agg #[.int .i64 x18,.int .i64 x19]) z fun w14=>∃ x20 x21:Int,cellsAt w14 ⟨Bq,0,none⟩ [.int .i64 x20,.int .i64 x21] 0/\
    storeP w14 ⟨Bp,0,none⟩ [.int .i64 x20,.int .i64 x21] fun w15=>∃ x22 x23:Int,cellsAt w15 ⟨Bp,0,none⟩ [.int .i64 x22,.int .i64 x23] 0/\R (.tuple #[.agg #[.int .i64 x22,.int .i64 x23],.int .i64 0]) w15:=by
  intro z p st hz hzW gpz gqz hre
  obtain ⟨es',ck',hm1',hm2'⟩:=hzW.gm
  have hbz:BytesAt z a b:=RowAt.upd hb hz fun p' hp' hx=>by
   have h1:=hba p' hp'
   rcases hx with hx | hx | hx
   .have:=(ha.f _ hx).1;omega
   .omega
   .omega
  refine ⟨_,cell_of hzW.g4 rfl,str_of hbz ⟨_,_,place_cells gqz,page_set (p:=p) hm1' hm2' hzW.ok hb64 fun w14 es14 ck14 hu14 hm14 hp14=>?_⟩⟩
  have gq14:=hu14.get gqz fun e=>by omega
  have gp14:=hu14.get gpz fun e=>by omega
  refine ⟨_,_,place_cells gq14,put_all gp14 rfl fun w15 hu15 hs15 g15=>⟨_,_,place_cells g15,hR _ _ ⟨by rw [hre];rfl,(hz.trans (hu14.mono fun x _ hx=>.inr (.inr hx))).over hu15 fun x hx=>.inr (by omega),?_⟩⟩⟩
  rw [hre]
  have hW14:StoreW F X q M L anew (st,setM x.2 b p) w14 :=
   ⟨hzW.stem.upd hu14 fun y hy=>⟨fun hf=>(ha.f y hf).2.2.2.2 hy,fun hf=>(ha.x y hf).2.2.2.2 hy,by omega⟩,hu14.get hzW.g1 fun e=>by omega,hu14.get hzW.g2 fun e=>by omega,hu14.get hzW.g4 fun e=>by omega,⟨es14,ck14,hm14,hp14⟩,hzW.ok.set hb64 p⟩
  exact hW14.keep ha hu15 fun y hy=>by omega
 refine ⟨fun b4 z=>(∃ o:Option Place,b4=o.isSome/\(match getM x.2 b with | some p=>some p | none=>if anew then none else getM x.1.pages b)=o/\z.heap[Bq]?=some (.cells (Place.vals (o.getD noPlace)).toArray T.api_Place (0,0)))/\z.heap[Bp]?=some (.cells #[.int .i64 0,.int .i64 0] T.api_Place (0,0))/\Ext u z/\StoreW F X q M L anew x z,?_,?_⟩
 .cases hg:getM x.2 b with
  | some p =>
   rw [hg] at gq
   simp only [Option.isSome_some,Bool.not_true,br_false]
   exact ⟨⟨some p,rfl,rfl,gq⟩,gp3,e3,h3⟩
  | none =>
   rw [hg] at gq
   simp only [Option.isSome_none,Bool.not_false,br_true]
   refine ⟨_,cell_of h3.g2 rfl,?_⟩
   cases anew with
   | true =>
    simp only [Bool.not_true,br_false]
    exact ⟨⟨none,rfl,rfl,gq⟩,gp3,e3,h3⟩
   | false =>
    simp only [Bool.not_false,br_true]
    intro w4 hd4
    have e34:=hd4.upd
    have h4:=h3.keep ha e34 fun x hx=>hx.elim
    have e4:=e3.trans e34
    obtain ⟨⟨a0,c0,a20,c20,mp,g0,G,hpt⟩,_,_,_,_,hpo⟩:=h4.stem
    refine ⟨fun z=>Ext w4 z,Upd.refl _ _,_,fun z hz=>cell_of (Ext.get hz h4.g1) rfl,?_⟩
    simp only [nilC_some',add_lit,Nat.zero_add]
    refine ⟨_,fun z hz=>cell_of (Ext.get hz g0) rfl,str_of (hb.ext e4) ⟨Upd.refl _ _,_,_,_,page_got hpt.pages hpo hb64,Upd.refl _ _,?_⟩⟩
    refine put_all (vs:=Place.vals ((getM x.1.pages b).getD noPlace)) (Ext.get e34 gq) rfl fun w5 hu5 hs5 g5=>?_
    have e5:Ext u w5:=e4.beyond hu5 fun x hx=>by omega
    exact ⟨⟨getM x.1.pages b,rfl,by simp,g5⟩,hu5.get (Ext.get e34 gp3) fun e=>by omega,e5,h4.keep ha hu5 fun x hx=>by omega⟩
 rintro b4 z ⟨⟨o,rfl,ho,gqz⟩,gpz,hez,hz⟩
 have hsz:=hez.size
 cases o with
 | some p =>
  simp only [Option.isSome_some,Bool.not_true,br_false]
  refine fin (p:=p) (st:=x.1) (Upd.ext hez) hz gpz gqz ?_
  rw [hr0]
  cases hg:getM x.2 b with
  | some p'=>rw [hg] at ho;cases ho;rfl
  | none =>
   rw [hg] at ho
   simp only at ho ⊢
   rw [ho]
 | none =>
  simp only [Option.isSome_none,Bool.not_false,br_true]
  have hgn:getM x.2 b=none:=by
   cases hg:getM x.2 b with
   | some p'=>rw [hg] at ho;cases ho
   | none=>rfl
  rw [hgn] at ho hr0
  simp only at ho hr0
  rw [ho] at hr0
  simp only at hr0
  refine ⟨_,cell_of hz.g1 rfl,?_⟩
  refine (stem_write_spec (cp:=c) hz.stem (fun y hy=>by have:=(ha.f y hy).1;omega) (fun y hy=>by have:=(ha.x y hy).1;omega) hr (hb.ext hez) hbl fun p hp=>⟨fun hf=>by have:=(ha.f _ hf).1;have:=hba p hp;omega,by have:=hba p hp;omega,by have:=hblk p hp;omega⟩).mono ?_
  rintro _ w7 ⟨rfl,hu7,h7⟩
  have hu7':Upd (StoreF F q L) z w7:=hu7.mono fun y _ hy=>by rcases hy with hy | hy;exact .inl hy;exact .inr (.inl hy)
  have hW7:StoreW F X q M L anew ((x.1.write b x.1.fuel).1,x.2) w7:=by
   obtain ⟨es',ck',hm1',hm2'⟩:=hz.gm
   have no:∀ {y:Nat},(y=L.b1\/y=L.b2\/y=L.b4\/y=L.bm)->¬ StemF F q y:=fun {y} hy hf=>by
    rcases hf with hf | hf
    .have:=ha.f y hf;omega
    .omega
   exact ⟨h7,hu7.get hz.g1 (no (.inl rfl)),hu7.get hz.g2 (no (.inr (.inl rfl))),hu7.get hz.g4 (no (.inr (.inr (.inl rfl)))),⟨es',ck',hu7.get hm1' (no (.inr (.inr (.inr rfl)))),hm2'⟩,hz.ok⟩
  have gp7:=hu7.get gpz fun hf=>by
   rcases hf with hf | hf
   .have:=(ha.f _ hf).1;omega
   .omega
  have gq7:=hu7.get gqz fun hf=>by
   rcases hf with hf | hf
   .have:=(ha.f _ hf).1;omega
   .omega
  generalize x.1.write b x.1.fuel=y at *
  refine ⟨_,_,_,rfl,new_put (vs:=y.2.1.vals) rfl fun B3 w9 hb9 hs9 he9 g9=>?_⟩
  have hW9:=hW7.keep ha he9 fun x hx=>hx.elim
  have gp9:=Ext.get he9 gp7
  have gq9:=Ext.get he9 gq7
  have hu9:Upd (StoreF F q L) u w9:=((Upd.ext hez).trans hu7').then he9
  have hs7:=hu7.size
  refine br_ne (fun hne=>?_) fun h0=>?_
  .rw [if_pos (show y.2.2≠0 by omega)] at hr0
   refine put_all gp9 rfl fun w10 hu10 hs10 g10=>⟨_,_,place_cells g10,hR _ _ ⟨by rw [hr0];rfl,hu9.over hu10 fun x hx=>.inr (by omega),?_⟩⟩
   rw [hr0]
   exact hW9.keep ha hu10 fun x hx=>by omega
  .rw [if_neg (show ¬ y.2.2≠0 by omega)] at hr0
   refine ⟨_,_,place_cells g9,put_all gq9 rfl fun w11 hu11 hs11 g11=>?_⟩
   exact fin (p:=y.2.1) (st:=y.1) (hu9.over hu11 fun x hx=>.inr (by omega)) (hW9.keep ha hu11 fun x hx=>by omega) (hu11.get gp9 fun e=>by omega) g11 hr0
section
section
variable {σ:Type} {put:σ->List UInt8->σ×Place×Nat} {sz:Nat} {I:Nat->σ->Prop} {R:σ->σ->Prop} {At:σ->Place->List UInt8->Prop}
theorem all2_keys {P:σ->Place->List UInt8->Prop} {s:σ}:∀ {l:List (Key×List UInt8)} {new:List Child},All2 (fun x (y:Child)=>y.key=x.1/\P s ⟨y.block,y.page⟩ x.2) l new->new.map Child.key=l.map (fun x=>x.1)/\new.length=l.length/\∀ y∈new,∃ b,P s ⟨y.block,y.page⟩ b
 | _,_,.nil=>⟨rfl,rfl,fun y hy=>(by cases hy)⟩
 | _,_,.cons h t=>by
  obtain ⟨h1,h2,h3⟩:=all2_keys t
  refine ⟨by rw [List.map_cons,List.map_cons,h1,h.1],by simp [h2],fun y hy=>?_⟩
  rcases List.mem_cons.1 hy with rfl | hy
  .exact ⟨_,h.2⟩
  .exact h3 y hy
theorem layUp_inv (hp:PutOk put sz I R At) (s1:128<=sz) (s2:sz<=256) (m:Nat):∀ (n:Nat) (s:σ) (ch:List Child),I (2 * ch.length+m) s->ChOk ch->ch≠[]->R s (layUp put sz n s ch).1/\((layUp put sz n s ch).2.2=0->I m (layUp put sz n s ch).1)
 | 0,s,ch,hI,_,_=>⟨hp.refl s,fun _=>hp.less hI (by omega)⟩
 | n+1,s,ch,hI,hok,hne=>by
  unfold layUp
  split
  .exact ⟨hp.refl s,fun _=>hp.less hI (by omega)⟩
  .rename_i h1
   have hlen18:∀ x∈ch,innerLen x.key<=18:=fun x hx=>innerLen_le (child_may (hok.may x hx)).1
   obtain ⟨hgfl,hgok2⟩:=cutG_ok (key:=Child.key) (len:=fun x=>innerLen x.key) (room:=roomT sz) (least:=2) (l:=ch) (fun x hx=>by have:=hlen18 x hx;unfold roomT;omega)
   have hgtwo:=cutG_two (key:=Child.key) (len:=fun x=>innerLen x.key) (room:=roomT sz) (least:=2) (Nat.le_refl _) (l:=ch) (fun x hx=>by have:=hlen18 x hx;unfold roomT;omega)
   have hgne2:=cutG_ne (key:=Child.key) (len:=fun x=>innerLen x.key) (room:=roomT sz) (least:=2) (l:=ch) (fun x hx=>by have:=hlen18 x hx;unfold roomT;omega) hne
   change (innerG sz ch).flatten=ch at hgfl
   change ∀ g∈innerG sz ch,_ at hgok2
   change 2 * (innerG sz ch).length<=_ at hgtwo
   change innerG sz ch≠[] at hgne2
   have hip:innerPages sz ch=(innerG sz ch).map fun g=>(firstC g,(putInner sz g).1):=rfl
   have hmem2:∀ g∈innerG sz ch,∀ x∈g,x∈ch:=fun g hg x hx=>by rw [<- hgfl];exact List.mem_flatten.2 ⟨g,hg,hx⟩
   have hgo2:∀ g∈innerG sz ch,OrdBy Child.key g:=fun g hg=>by
    have hs:=hok.ord
    obtain ⟨a,b,e⟩:=List.append_of_mem hg
    rw [<- hgfl,e,List.flatten_append,List.flatten_cons] at hs
    exact (List.pairwise_append.1 (List.pairwise_append.1 hs).2.1).1
   have hplen:(innerPages sz ch).length=(innerG sz ch).length:=by rw [hip,List.length_map]
   have hkeys2:∀ k∈(innerG sz ch).map firstC,k.may=true:=fun k hk=>by
    obtain ⟨g,hg,rfl⟩:=List.mem_map.1 hk
    cases hgc:g with
    | nil=>exact absurd hgc (hgok2 g hg).ne
    | cons f0 t0=>exact (child_may (hok.may f0 (hmem2 g hg f0 (by rw [hgc];simp)))).1
   have hord2:OrdBy (fun k:Key=>k) ((innerG sz ch).map firstC):=by
    have hfm:((innerG sz ch).map (List.map Child.key)).flatten=ch.map Child.key:=by rw [<- List.map_flatten,hgfl]
    have hsub:=heads_sublist (z:=Key.zero) (gs:=(innerG sz ch).map (List.map Child.key)) fun g hg=>by
     obtain ⟨g',hg',rfl⟩:=List.mem_map.1 hg
     simpa using (hgok2 g' hg').ne
    rw [hfm,List.map_map] at hsub
    have he:((fun g:List Key=>g.head?.getD Key.zero) ∘ List.map Child.key)=firstC:=by funext g;exact firstC_map g
    rw [he] at hsub
    exact List.Pairwise.sublist hsub (List.pairwise_map.2 hok.ord)
   obtain ⟨r1,r2⟩:=putAll_ok hp (2 * (innerG sz ch).length+m) (innerPages sz ch) s [] (hp.less hI (by rw [hplen];omega)) (fun x hx=>by
    rw [hip] at hx
    obtain ⟨g,hg,rfl⟩:=List.mem_map.1 hx
    exact (putInner_ok s1 s2 (fun x hx=>hok.may x (hmem2 g hg x hx)) (hgo2 g hg) (hgok2 g hg)).2.1)
   generalize putAll put (innerPages sz ch) s []=r at *
   simp only
   split
   .rename_i h0
    exact ⟨r1,fun h=>absurd h h0⟩
   .rename_i h0
    obtain ⟨q1,new,q2,q3⟩:=r2 (by omega)
    rw [List.nil_append] at q2
    obtain ⟨k1,k2,k3⟩:=all2_keys q3
    have hnk:new.map Child.key=(innerG sz ch).map firstC:=by rw [k1,hip,List.map_map];rfl
    have hnl:new.length=(innerG sz ch).length:=by rw [k2,hplen]
    rw [q2]
    obtain ⟨u1,u2⟩:=layUp_inv hp s1 s2 m n r.1 new (by rw [hnl];exact q1) (ChOk.of hnk hkeys2 hord2 fun x hx=>by
     obtain ⟨b,hb⟩:=k3 x hx
     exact hp.bnd hb) (fun e=>hgne2 (List.eq_nil_of_length_eq_zero (by rw [<- hnl,e];rfl)))
    exact ⟨hp.trans r1 u1,u2⟩
theorem layS_inv (hp:PutOk put sz I R At) (s1:128<=sz) (s2:sz<=256) {s:σ} {l:List Fact} {m:Nat} (hI:I (3 * l.length+m) s) (hl:FitL sz l):R s (layS put sz s l).1/\((layS put sz s l).2.2=0->I m (layS put sz s l).1):=by
 unfold layS
 split
 .exact ⟨hp.refl s,fun _=>hp.less hI (by omega)⟩
 .rename_i hne
  obtain ⟨hfl,hgok⟩:=cutG_ok (key:=Fact.key) (len:=leafLen) (room:=roomT sz) (least:=1) (l:=l) hl.len
  change (leavesG sz l).flatten=l at hfl
  change ∀ g∈leavesG sz l,_ at hgok
  have hlp:leafPages sz l=(leavesG sz l).map fun g=>(firstF g,(putLeaf sz g).1):=rfl
  have hplen:(leafPages sz l).length=(leavesG sz l).length:=by rw [hlp,List.length_map]
  have hgl:(leavesG sz l).length<=l.length:=by
   have:=gs_len (gs:=leavesG sz l) fun g hg=>(hgok g hg).ne
   rwa [hfl] at this
  have hmem:∀ g∈leavesG sz l,∀ x∈g,x∈l:=fun g hg x hx=>by rw [<- hfl];exact List.mem_flatten.2 ⟨g,hg,hx⟩
  have hgs':∀ g∈leavesG sz l,Sorted g:=fun g hg=>by
   have hs:=hl.sorted
   obtain ⟨a,b,e⟩:=List.append_of_mem hg
   rw [<- hfl,e,List.flatten_append,List.flatten_cons,<- List.append_assoc] at hs
   exact sorted_part hs
  have hfk:∀ k∈(leavesG sz l).map firstF,k.may=true:=fun k hk=>by
   obtain ⟨g,hg,rfl⟩:=List.mem_map.1 hk
   cases hgc:g with
   | nil=>exact absurd hgc (hgok g hg).ne
   | cons f0 t0=>exact (fact_may (hl.may f0 (hmem g hg f0 (by rw [hgc];simp)))).1
  have hfo:OrdBy (fun k:Key=>k) ((leavesG sz l).map firstF):=by
   have hfm:((leavesG sz l).map (List.map Fact.key)).flatten=l.map Fact.key:=by rw [<- List.map_flatten,hfl]
   have hsub:=heads_sublist (z:=Key.zero) (gs:=(leavesG sz l).map (List.map Fact.key)) fun g hg=>by
    obtain ⟨g',hg',rfl⟩:=List.mem_map.1 hg
    simpa using (hgok g' hg').ne
   rw [hfm,List.map_map] at hsub
   have he:((fun g:List Key=>g.head?.getD Key.zero) ∘ List.map Fact.key)=firstF:=by funext g;exact firstF_map g
   rw [he] at hsub
   exact List.Pairwise.sublist hsub (List.pairwise_map.2 hl.sorted)
  obtain ⟨r1,r2⟩:=putAll_ok hp (2 * (leavesG sz l).length+m) (leafPages sz l) s [] (hp.less hI (by rw [hplen];omega)) (fun x hx=>by
   rw [hlp] at hx
   obtain ⟨g,hg,rfl⟩:=List.mem_map.1 hx
   exact (putLeaf_ok s1 s2 (fun f hf=>hl.may f (hmem g hg f hf)) (hgs' g hg) (hgok g hg)).2.1)
  generalize putAll put (leafPages sz l) s []=r at *
  simp only
  split
  .rename_i h0
   exact ⟨r1,fun h=>absurd h h0⟩
  .rename_i h0
   obtain ⟨q1,new,q2,q3⟩:=r2 (by omega)
   rw [List.nil_append] at q2
   obtain ⟨k1,k2,k3⟩:=all2_keys q3
   have hnk:new.map Child.key=(leavesG sz l).map firstF:=by rw [k1,hlp,List.map_map];rfl
   have hnl:new.length=(leavesG sz l).length:=by rw [k2,hplen]
   rw [q2]
   obtain ⟨u1,u2⟩:=layUp_inv hp s1 s2 m (new.length+1) r.1 new (by rw [hnl];exact q1) (ChOk.of hnk hfk hfo fun x hx=>by
    obtain ⟨b,hb⟩:=k3 x hx
    exact hp.bnd hb) (fun e=>by
    rw [e] at hnl
    have:leavesG sz l=[]:=List.eq_nil_of_length_eq_zero hnl.symm
    rw [this] at hfl
    exact hne hfl.symm)
   exact ⟨hp.trans r1 u1,u2⟩
end
end
theorem slices_Clone_Fact_spec {w:World} {G:Nat->Prop} {a:Option Addr} {l:List Fact} {c:Nat} (h:SliceAt factR w G a l) (hG:∀ b,G b->b<w.heap.size) (hn:l.length<=100000000) :
  CallsR prog K.slices_Clone_api_Fact #[.slice a l.length c] w fun v w'=>∃ a' c' G',v= .slice a' l.length c'/\SliceAt factR w' G' a' l/\l.length<=c'/\(∀ x,G' x->(w.heap.size<=x\/G x)/\x<w'.heap.size)/\Ext w w':=by
 apply slices_Clone_api_Fact.sh
 unfold slices_Clone_api_Fact.body
 refine br_intro (fun ha=>?_) fun ha=>?_
 .have ha':a=none:=by simpa using ha
  subst ha'
  have hl:l=[]:=by
   rcases l with _ | ⟨x,l⟩
   .rfl
   .obtain ⟨b,o,e,_⟩:=h.blk (by simp)
    cases e
  subst hl
  exact ⟨none,0,NoB,rfl,SliceAt.nil _ _ _,Nat.le_refl _,fun x hx=>hx.elim,Upd.refl _ _⟩
 .intro B w1 hn1
  have hB:B=w.heap.size:=hn1.num
  have hs1:=hn1.size
  have h0:ListAt factR G w.heap.size w1 (some ⟨B,0,none⟩) 0 T.api_Fact []:=by
   refine ⟨NoB,⟨[],⟨rfl,Nat.le_refl _,.inr ⟨B,#[],rfl,hn1.get,rfl,rfl⟩⟩,rfl⟩,fun x hx=>hx.elim,fun b hb=>?_⟩
   cases hb
   exact ⟨by omega,fun h=>h⟩
  refine ListAt.concat (r:=factR) h0 (h.ext hn1.upd) (fun b hb=>⟨.inr hb,by have:=hG b hb;omega,fun e=>by cases e;have:=hG _ hb;omega⟩) rfl rfl rfl (by simp;omega) (by decide) (by omega) fun a' c' w' hu hl'=>?_
  rw [List.nil_append] at hl' ⊢
  obtain ⟨G',hs,hg⟩:=hl'.slice
  exact ⟨a',c',G',rfl,hs,hl'.cap,hg,hn1.upd.beyond hu fun x hx=>hx⟩
theorem ready_mul {s:StemS} {H n:Nat} (h:s.Ready ((H+2) * (n+1))) (hh:s.chip.hits.length<=H):s.Ready ((H+2) * n+s.fuel):=by
 refine h.less ?_
 rw [Nat.mul_succ]
 unfold StemS.fuel
 omega
def StoreI (sz H:Nat) (n:Nat) (x:StemS×PageMap):Prop:=x.1.Ready ((H+2) * (n+1))/\x.1.chip.hits.length<=H/\x.1.chip.sz=sz/\PB x.2/\PB x.1.pages
theorem placed_ok (anew:Bool) (sz H:Nat):PutOk (StemS.placed anew) sz (StoreI sz H) (fun x y=>y.1.facts=x.1.facts/\y.1.synced=x.1.synced/\y.1.pages=x.1.pages/\y.1.number=x.1.number/\y.1.era=x.1.era/\y.1.point=x.1.point) (fun _ p _=>0<=p.block/\p.block<=255/\0<=p.page/\p.page<=255):=by
 have pbs:∀ {m:PageMap} {b:List UInt8} {p:Place},PB m->(0<=p.block/\p.block<=255/\0<=p.page/\p.page<=255)->PB (setM m b p):=fun {m b p} hm hp x hx=>by
  unfold setM at hx
  split at hx
  .obtain ⟨y,hy,rfl⟩:=List.mem_map.1 hx
   split
   .exact hp
   .exact hm y hy
  .rcases List.mem_append.1 hx with hx | hx
   .exact hm x hx
   .rw [List.mem_singleton.1 hx];exact hp
 refine ⟨fun {s m n} h hm=>⟨h.1.less (Nat.mul_le_mul_left _ (by omega)),h.2⟩,fun h=>h,fun _=>⟨rfl,rfl,rfl,rfl,rfl,rfl⟩,fun h k=>⟨k.1.trans h.1,k.2.1.trans h.2.1,k.2.2.1.trans h.2.2.1,k.2.2.2.1.trans h.2.2.2.1,k.2.2.2.2.1.trans h.2.2.2.2.1,k.2.2.2.2.2.trans h.2.2.2.2.2⟩,fun _ h=>h,fun {x b n} hI hb=>?_⟩
 obtain ⟨h1,h2,h3,h4,h5⟩:=hI
 have hmul:(H+2) * (n+1)<=(H+2) * (n+1+1):=Nat.mul_le_mul_left _ (by omega)
 unfold StemS.placed
 cases hg:getM x.2 b with
 | some p =>
  have hp:=h4 _ (getM_some hg)
  exact ⟨⟨rfl,rfl,rfl,rfl,rfl,rfl⟩,fun _=>⟨⟨h1.less hmul,h2,h3,pbs h4 hp,h5⟩,hp⟩⟩
 | none =>
  simp only
  cases hg2:(if anew then none else getM x.1.pages b) with
  | some p =>
   have hp:0<=p.block/\p.block<=255/\0<=p.page/\p.page<=255:=by
    cases anew with
    | true=>cases hg2
    | false=>exact h5 _ (getM_some (by simpa using hg2))
   exact ⟨⟨rfl,rfl,rfl,rfl,rfl,rfl⟩,fun _=>⟨⟨h1.less hmul,h2,h3,pbs h4 hp,h5⟩,hp⟩⟩
  | none =>
   simp only
   have hw:=StemS.write_ok (k:=(H+2) * (n+1)) (b:=b) x.1.fuel (ready_mul h1 h2) x.1.fuel_left (by rw [h3];exact hb)
   have hgeo:=h1.geo
   have hal:=hw.alike
   generalize x.1.write b x.1.fuel=r at *
   split
   .rename_i hne
    exact ⟨⟨hal.facts,hal.synced,hal.pages,hal.number,hal.era,hal.point⟩,fun h=>absurd h hne⟩
   .rename_i h0
    obtain ⟨q1,i,m,q2,q3,q4,q5,_⟩:=hw.ok (by omega)
    have hp:0<=r.2.1.block/\r.2.1.block<=255/\0<=r.2.1.page/\r.2.1.page<=255:=by
     rw [q2]
     simp only
     omega
    exact ⟨⟨hal.facts,hal.synced,hal.pages,hal.number,hal.era,hal.point⟩,fun _=>⟨⟨q1,Nat.le_trans hal.hits h2,hal.geo.2.2.1.trans h3,pbs h4 hp,by rw [hal.pages];exact h5⟩,hp⟩⟩
def storeTail (l:Option Addr) (lL lC B1 B2:Nat) (w2:World) (R:Value->World->Prop):Prop :=
 ∀ (B6:Nat) (w17:World),New w2 (.map #[] 0) B6 w17->∀ (B7:Nat) (w18:World),New w17 (.cells #[Value.map none] T.map_stringapi_Place) B7 w18->storeP w18 ⟨B7,0,none⟩ [Value.map (some B6)] fun w19=>∃ p8:Option Addr,World.cell? w19 ⟨B1,0,none⟩= some (Value.pointer p8)/\nilC p8 fun q5=>∃ p9:Option Addr,World.cell? w19 q5=some (Value.pointer p9)/\CallsR prog K.pool_Pool_Chip #[Value.pointer p9] w19 fun v6 w20=>∃ p10:Option Addr,v6=Value.pointer p10/\CallsR prog K.nand_Chip_Geo #[Value.pointer p10] w20 fun v7 w21=>∃ x11:Int,∃ x12:Int,∃ x13:Int,∃ x14:Int,v7=Value.agg #[Value.int .i64 x11,Value.int .i64 x12,Value.int .i64 x13,Value.int .i64 x14]/\CallsR prog K.stem_lay #[Value.int .i64 x13,Value.slice l lL lC,Value.func (.func K.stem_Stem_store_1) #[] #[Value.pointer (some ⟨B7,0,none⟩),Value.pointer (some ⟨B2,0,none⟩),Value.pointer (some ⟨B1,0,none⟩)]] w21 fun v8 w22=>∃ x15:Int,∃ x16:Int,∃ x17:Int,v8=Value.tuple #[Value.agg #[Value.int .i64 x15,Value.int .i64 x16],Value.int .i64 x17]/\∀ (B8:Nat) (w23:World),New w22 (.cells #[Value.int .i64 0,Value.int .i64 0] T.api_Place) B8 w23->storeP w23 ⟨B8,0,none⟩ [Value.int .i64 x15,Value.int .i64 x16] fun w24=>br (x17 != 0) (R (Value.int .i64 x17) w24) (∃ p11:Option Addr,World.cell? w24 ⟨B1,0,none⟩= some (Value.pointer p11)/\∃ x18:Int,∃ x19:Int,cellsAt w24 ⟨B8,0,none⟩ [Value.int .i64 x18,Value.int .i64 x19] 0/\CallsR prog K.stem_Stem_end #[Value.pointer p11,Value.agg #[Value.int .i64 x18,Value.int .i64 x19],Value.int .i64 ((lL:Nat):Int)] w24 fun v9 w25=>∃ x20:Int,v9=Value.int .i64 x20/\br (x20 != 0) (R (Value.int .i64 x20) w25) (∀ w26:World,Drew w25 w26->∃ S2:World->Prop,S2 w26/\∃ p12:Option Addr,(∀ u4,S2 u4->World.cell? u4 ⟨B1,0,none⟩= some (Value.pointer p12))/\∃ p13:Option Addr,(∀ u5,S2 u5->World.cell? u5 ⟨B1,0,none⟩= some (Value.pointer p13))/\∃ m2:Option Nat,(∀ u6,S2 u6->World.cell? u6 ⟨B7,0,none⟩= some (Value.map m2))/\CallsR prog K.slices_Clone_api_Fact #[Value.slice l lL lC] w26 fun v10 w27=>∃ (a2:Option Addr) (l2 c2:Nat),v10=Value.slice a2 l2 c2/\S2 w27/\nilC p12 fun q6=>storeP w27 (Addr.add q6 4) [Value.map m2] fun w28=>S2 w28/\nilC p13 fun q7=>storeP w28 (Addr.add q7 3) [Value.slice a2 l2 c2] fun w29=>R (Value.int .i64 0) w29))
theorem storeTail_ok {F X:Nat->Prop} {w w2:World} {q:Nat} {M:PLoc} {s t:StemS} (h:StemIn F X w2 q M t) (hF:∀ x,F x->x<w.heap.size) (hX:∀ x,X x->x<w.heap.size) (hq:q<w.heap.size) {l:List Fact} (hl:FitL t.chip.sz l) (hn:l.length<=20000)
  {G:Nat->Prop} {a:Option Addr} {c:Nat} (hs:SliceAt factR w2 G a l) (hlc:l.length<=c) (hG:∀ b,G b->X b/\¬ F b/\b<w.heap.size) {anew:Bool} {H:Nat} (hr:t.Ready ((H+2) * (3 * l.length+2))) (hH:t.chip.hits.length<=H) (hpb:PB t.pages) (hnum:t.number+1<18446744073709551616)
  {B1 B2:Nat} (hB1:w.heap.size<=B1/\B1<w2.heap.size) (hB2:w.heap.size<=B2/\B2<w2.heap.size) (hu:Upd (StemF F q) w w2) (g1:w2.heap[B1]?=some (.cells #[.pointer (some ⟨q,0,none⟩)] T.p_stem_Stem (0,0))) (g2:w2.heap[B2]?=some (.cells #[.bool anew] T.bool (0,0)))
  (hst:s.store l anew=(if (layS (StemS.placed anew) s.chip.sz (t,[]) l).2.2≠0 then ((layS (StemS.placed anew) s.chip.sz (t,[]) l).1.1,(layS (StemS.placed anew) s.chip.sz (t,[]) l).2.2) else
   if ((layS (StemS.placed anew) s.chip.sz (t,[]) l).1.1.ended (layS (StemS.placed anew) s.chip.sz (t,[]) l).2.1 l.length).2≠0 then (layS (StemS.placed anew) s.chip.sz (t,[]) l).1.1.ended (layS (StemS.placed anew) s.chip.sz (t,[]) l).2.1 l.length
   else ({ ((layS (StemS.placed anew) s.chip.sz (t,[]) l).1.1.ended (layS (StemS.placed anew) s.chip.sz (t,[]) l).2.1 l.length).1 with pages:=(layS (StemS.placed anew) s.chip.sz (t,[]) l).1.2,synced:=l },0))) (hsz:s.chip.sz=t.chip.sz)
  {R:Value->World->Prop} (hR:∀ v w',v= .int .i64 ((s.store l anew).2:Nat)/\Upd (StemF F q) w w'/\StemIn F (fun x=>X x\/(w.heap.size<=x/\x<w'.heap.size)) w' q M (s.store l anew).1->R v w'):storeTail a l.length c B1 B2 w2 R:=by
 unfold storeTail
 have hsw:=hu.size
 intro B6 w17 hn17 B7 w18 hn18
 have hb17:=hn17.num
 have hb18:=hn18.num
 have hs17:=hn17.size
 have hs18:=hn18.size
 refine put_all hn18.get rfl fun w19 hu19 hs19 g19=>?_
 have e19:Ext w2 w19:=(hn17.upd.trans hn18.upd).beyond hu19 fun x hx=>by omega
 have h19:=h.ext e19
 have g1':=Ext.get e19 g1
 have g2':=Ext.get e19 g2
 have gm':w19.heap[B6]?=some (.map #[] 0):=hu19.get (Ext.get hn18.upd hn17.get) fun e=>by omega
 have hw2q:q<w2.heap.size:=by omega
 have hap:(SLoc.mk B1 B2 B7 B6).Apart F X q w19.heap.size:=by
  refine ⟨fun x hx=>?_,fun x hx=>?_,?_,?_⟩
  .have:=hF x hx
   show x < _/\x≠B1/\x≠B2/\x≠B7/\x≠B6
   omega
  .have:=hX x hx
   show x < _/\x≠B1/\x≠B2/\x≠B7/\x≠B6
   omega
  .show q < _/\q≠B1/\q≠B2/\q≠B7/\q≠B6
   omega
  .show B1 < _/\B2 < _/\B7 < _/\B6 < _/\B6≠B1/\B6≠B2/\B6≠B7
   omega
 have hW19:StoreW F X q M ⟨B1,B2,B7,B6⟩ anew (t,[]) w19:=⟨h19,g1',g2',g19,⟨#[],0,gm',rfl⟩,⟨List.nodup_nil,fun x hx=>by cases hx⟩⟩
 refine ⟨_,cell_of g1' rfl,?_⟩
 simp only [nilC_some',add_lit,Nat.zero_add]
 refine ⟨_,h19.cell (i:=0) (fun _ _ _ _ _=>rfl),(pChip h19.pool.pin).mono ?_⟩
 rintro _ _ ⟨rfl,rfl⟩
 rename_i w19
 refine ⟨_,rfl,(cGeo h19.pool.pin.chip).mono ?_⟩
 rintro _ w21 ⟨rfl,he21⟩
 have hs21:=he21.size
 have hok:=h19.pool.pin.chip.ok
 have hW21:=hW19.keep hap he21 fun x hx=>hx.elim
 have hap21:(SLoc.mk B1 B2 B7 B6).Apart F X q w21.heap.size:=⟨fun x hx=>by have:=hap.f x hx;omega,fun x hx=>by have:=hap.x x hx;omega,by have:=hap.q;omega,by have:=hap.s;omega⟩
 have hPutW:PutW (StemS.placed anew) t.chip.sz (StoreI t.chip.sz H) (StoreF F q ⟨B1,B2,B7,B6⟩) w21.heap.size (StoreW F X q M ⟨B1,B2,B7,B6⟩ anew) (.func (.func K.stem_Stem_store_1) #[] #[.pointer (some ⟨B7,0,none⟩),.pointer (some ⟨B2,0,none⟩),.pointer (some ⟨B1,0,none⟩)]):=by
  refine ⟨fun {x u u' F'} hW k hk=>hW.keep hap21 k hk,fun x hx=>?_,fun {x u n a b c} hW hI hSu hbl hb hba _ Q hQ=>⟨by kernel_rfl,?_⟩⟩
  .rcases hx with hx | hx | hx
   .exact (hap21.f x hx).1
   .have:=hap21.q;omega
   .have:=hap21.s.2.2.2.1;omega
  .have hrd:x.1.Ready x.1.fuel:=hI.1.less (by
    have h2:=hI.2.1
    have:(H+2) * 1<=(H+2) * (n+1+1):=Nat.mul_le_mul_left _ (by omega)
    unfold StemS.fuel
    omega)
   refine (stem_store_1_spec hW hap21 hSu hrd hb (by rw [hI.2.2.1];exact hbl) hba).mono ?_
   rintro v u' ⟨rfl,hu',hW'⟩
   exact hQ u' hu' hW'
 have hI0:StoreI t.chip.sz H (3 * l.length+1) (t,[]):=⟨hr,hH,rfl,fun x hx=>(by cases hx),hpb⟩
 have e21:=e19.trans he21
 have hinv:=layS_inv (placed_ok anew t.chip.sz H) hok.sz1 hok.sz2 hI0 hl
 have hlay:=stem_lay_spec (c:=c) (placed_ok anew t.chip.sz H) hPutW hok.sz1 hok.sz2 hI0 hl (by omega) (hs.ext e21) hlc (fun b hb=>⟨fun hx=>by
  obtain ⟨h1,h2,h3⟩:=hG b hb
  rcases hx with hx | hx | hx
  .exact h2 hx
  .subst hx;exact h.outX h1
  .have:=(hap.x b h1).2.2.2.2;exact this hx,by have:=(hG b hb).2.2;omega⟩) hW21 (Nat.le_refl _)
 rw [hsz] at hst
 generalize layS (StemS.placed anew) t.chip.sz (t,[]) l=r at *
 refine ⟨_,_,_,_,rfl,hlay.mono ?_⟩
 rintro _ w22 ⟨rfl,hu22,hW22⟩
 have hs22:=hu22.size
 have hu2_22:Upd (StemF F q) w w22:=(hu.then e21).over hu22 fun x hx=>by
  rcases hx with hx | hx | hx
  .exact .inl (.inl hx)
  .exact .inl (.inr hx)
  .have hx':x=B6:=hx
   exact .inr (by omega)
 refine ⟨_,_,_,rfl,new_put (vs:=r.2.1.vals) rfl fun B8 w24 hb24 hs24 he24 g24=>?_⟩
 have hW24:=hW22.keep hap (S:=w19.heap.size) he24 fun x hx=>hx.elim
 have u24:=hu2_22.then he24
 have bigX:∀ {z:World} {y:StemS},StemIn F X z q M y->StemIn F (fun x=>X x\/(w.heap.size<=x/\x<z.heap.size)) z q M y:=fun {z y} hz=>by
  obtain ⟨⟨a0,c0,a20,c20,mp0,gg,G0,hp0⟩,k2,k3,k4,k5,k6⟩:=hz
  exact ⟨⟨a0,c0,a20,c20,mp0,gg,G0,hp0.1,hp0.2,hp0.3,hp0.4,hp0.5,fun b hb=>⟨.inl (hp0.low b hb).1,(hp0.low b hb).2⟩⟩,k2.mono (fun _ h=>h) fun _ h=>.inl h,k3,fun hx=>by
   rcases hx with hx | hx
   .exact k4 hx
   .omega,k5,k6⟩
 refine br_ne (fun hne=>?_) fun h0=>?_
 .rw [if_pos (show r.2.2≠0 by omega)] at hst
  refine hR _ _ ⟨by rw [hst],u24,?_⟩
  rw [hst]
  exact bigX hW24.stem
 rw [if_neg (show ¬ r.2.2≠0 by omega)] at hst
 obtain ⟨⟨i1,i2,i3,i4,i5,i6⟩,hI1⟩:=hinv
 have hI1':=hI1 (by omega)
 have hrd1:r.1.1.Ready r.1.1.fuel:=hI1'.1.less (by
  have h2:=hI1'.2.1
  unfold StemS.fuel
  omega)
 refine ⟨_,cell_of hW24.g1 rfl,_,_,place_cells g24,?_⟩
 have hs24':=he24.size
 refine (stem_end_spec hW24.stem (fun x hx=>by have:=hF x hx;omega) (fun x hx=>by have:=hX x hx;omega) hrd1 (by rw [i4];exact hnum) r.2.1 l.length).mono ?_
 rintro _ w25 ⟨rfl,hu25,h25⟩
 have u25:=u24.trans hu25
 have hs25:=hu25.size
 have no:∀ {y:Nat},(y=B1\/y=B2\/y=B7\/y=B6)->¬ StemF F q y:=fun {y} hy hf=>by
  rcases hf with hf | hf
  .have:=hap.f y hf
   have h1:y≠B1/\y≠B2/\y≠B7/\y≠B6:=this.2
   omega
  .have h1:q≠B1/\q≠B2/\q≠B7/\q≠B6:=hap.q.2
   omega
 have g1_25:=hu25.get hW24.g1 (no (.inl rfl))
 have g4_25:=hu25.get hW24.g4 (no (.inr (.inr (.inl rfl))))
 obtain ⟨es,ck,hm24,hmis⟩:=hW24.gm
 have gm25:=hu25.get hm24 (no (.inr (.inr (.inr rfl))))
 have hmok:=hW24.ok
 generalize hend:r.1.1.ended r.2.1 l.length=e at *
 refine ⟨_,rfl,br_ne (fun hne=>?_) fun h0'=>?_⟩
 .rw [if_pos (show e.2≠0 by omega)] at hst
  refine hR _ _ ⟨by rw [hst],u25,?_⟩
  rw [hst]
  exact bigX h25
 rw [if_neg (show ¬ e.2≠0 by omega)] at hst
 intro w26 hd26
 have e26:=hd26.upd
 have hs26:=e26.size
 have h26:=h25.ext e26
 have u26:=u25.then e26
 have hq26:q≠B1/\q≠B2/\q≠B7/\q≠B6:=hap.q.2
 refine ⟨fun z=>Upd (·=q) w26 z,Upd.refl _ _,_,fun z hz=>cell_of (hz.get (Ext.get e26 g1_25) fun e=>hq26.1 e.symm) rfl,_,fun z hz=>cell_of (hz.get (Ext.get e26 g1_25) fun e=>hq26.1 e.symm) rfl,_,fun z hz=>cell_of (hz.get (Ext.get e26 g4_25) fun e=>hq26.2.2.1 e.symm) rfl,?_⟩
 have hu2_26:Upd (fun x=>StemF F q x\/x=B6\/w21.heap.size<=x) w2 w26:=by
  have k1:Upd (fun x=>StemF F q x\/x=B6\/w21.heap.size<=x) w2 w22:=(Upd.ext e21).trans (hu22.mono fun x _ hx=>by
   rcases hx with hx | hx | hx
   .exact .inl (.inl hx)
   .exact .inl (.inr hx)
   .exact .inr (.inl hx))
  exact ((k1.then he24).trans (hu25.mono fun x _ hx=>.inl hx)).then e26
 have hs26l:SliceAt factR w26 G a l:=hs.upd hu2_26 fun b hb hx=>by
  obtain ⟨k1,k2,k3⟩:=hG b hb
  rcases hx with (hx | hx) | hx | hx
  .exact k2 hx
  .subst hx;exact h.outX k1
  .exact (hap.x b k1).2.2.2.2 hx
  .omega
 refine (slices_Clone_Fact_spec (c:=c) hs26l (fun b hb=>by have:=(hG b hb).2.2;omega) (by omega)).mono ?_
 rintro _ w27 ⟨a27,c27,G27,rfl,hcl,hcc,hG27,he27⟩
 have hs27:=he27.size
 have h27:=h26.ext he27
 have u27:=u26.then he27
 refine ⟨_,_,_,rfl,Upd.ext he27,?_⟩
 simp only [nilC_some',add_lit,Nat.zero_add]
 have gm27:=Ext.get he27 (Ext.get e26 gm25)
 obtain ⟨⟨a0,c0,a20,c20,mp0,gg,G0,hp0⟩,k2,k3,k4,k5,k6⟩:=h27
 refine store_of gg (by simp) fun w28 hput28=>?_
 have g28:=hput28.get
 refine ⟨(Upd.ext he27).trans hput28.upd1,?_⟩
 refine store_of g28 (by simp [splice]) fun w29 hput29=>?_
 have g29:w29.heap[q]?=some (.cells (stemVs M { e.1 with pages:=r.1.2,synced:=l } a0 c0 a27 c27 (some B6)).toArray T.stem_Stem (0,0)):=by rw [hput29.get];rfl
 have hu29:Upd (·=q) w27 w29:=hput28.upd1.trans hput29.upd1
 have hs29:=hu29.size
 have u29:=u27.trans (hu29.mono fun x _ hx=>.inr hx)
 refine hR _ _ ⟨by rw [hst];rfl,u29,?_⟩
 rw [hst]
 have hX27:∀ b,G27 b->(X b\/(w.heap.size<=b/\b<w29.heap.size))/\¬ F b/\b<w29.heap.size/\b≠q:=fun b hb=>by
  obtain ⟨k1,k2⟩:=hG27 b hb
  rcases k1 with k1 | k1
  .refine ⟨.inr ⟨by omega,by omega⟩,fun hf=>by have:=hF b hf;omega,by omega,by omega⟩
  .obtain ⟨l1,l2,l3⟩:=hG b k1
   exact ⟨.inl l1,l2,by omega,fun e=>h.outX (by rw [<- e];exact l1)⟩
 refine ⟨⟨a0,c0,a27,c27,some B6,g29,fun b=>G0 b\/G27 b\/b=B6,?_,?_,?_,hp0.fc,hcc,fun b hb=>?_⟩,(k2.upd hu29 (fun x hx e=>k3 (by rw [<- e];exact hx)) fun x hx e=>k4 (by rw [<- e];exact hx)).mono (fun _ h=>h) fun _ h=>.inl h,k3,fun hx=>?_,k5,hmok⟩
 .exact (hp0.facts.upd hu29 fun b hb e=>k4 (by rw [<- e];exact (hp0.low b hb).1)).mono fun _ h=>.inl h
 .exact (hcl.upd hu29 fun b hb e=>(hX27 b hb).2.2.2 e).mono fun _ h=>.inr (.inl h)
 .exact ⟨.inr (.inr rfl),es,ck,hu29.get gm27 fun e=>hq26.2.2.2 e.symm,hmis⟩
 .rcases hb with hb | hb | hb
  .obtain ⟨l1,l2,l3⟩:=hp0.low b hb
   exact ⟨.inl l1,l2,by omega⟩
  .obtain ⟨l1,l2,l3,_⟩:=hX27 b hb
   exact ⟨l1,l2,l3⟩
  .exact ⟨.inr ⟨by omega,by omega⟩,fun hf=>by have:=hF b hf;omega,by omega⟩
 .rcases hx with hx | hx
  .exact k4 hx
  .omega
theorem stem_store_spec {F X:Nat->Prop} {w:World} {q:Nat} {M:PLoc} {s:StemS} (h:StemIn F X w q M s) (hF:∀ x,F x->x<w.heap.size) (hX:∀ x,X x->x<w.heap.size) {l:List Fact} (hl:FitL s.chip.sz l) (hn:l.length<=20000)
  {G:Nat->Prop} {a:Option Addr} {c:Nat} (hs:SliceAt factR w G a l) (hlc:l.length<=c) (hG:∀ b,G b->X b/\¬ F b/\b<w.heap.size) (anew:Bool) {H:Nat} (hr:s.Ready ((H+2) * (3 * l.length+2))) (hH:s.chip.hits.length<=H) (hpb:PB s.pages) (hnum:s.number+1<18446744073709551616) :
  CallsR prog K.stem_Stem_store #[.pointer (some ⟨q,0,none⟩),.slice a l.length c,.bool anew] w fun v w'=>v= .int .i64 ((s.store l anew).2:Nat)/\Upd (StemF F q) w w'/\StemIn F (fun x=>X x\/(w.heap.size<=x/\x<w'.heap.size)) w' q M (s.store l anew).1:=by
 apply stem_Stem_store.sh
 suffices H0:∀ R:Value->World->Prop,(∀ v w',v= .int .i64 ((s.store l anew).2:Nat)/\Upd (StemF F q) w w'/\StemIn F (fun x=>X x\/(w.heap.size<=x/\x<w'.heap.size)) w' q M (s.store l anew).1->R v w')->stem_Stem_store.body (some ⟨q,0,none⟩) a l.length c anew w R from H0 _ fun _ _ h=>h
 intro R hR
 unfold stem_Stem_store.body
 have hq:=h.lt
 intro B1 w1 hn1 B2 W2 hn2
 have hb1:=hn1.num
 have hb2:=hn2.num
 have hs1:=hn1.size
 have hs2:=hn2.size
 have e2:=hn1.upd.trans hn2.upd
 have h2:=h.ext e2
 have g1:=Ext.get hn2.upd hn1.get
 have g2:=hn2.get
 refine ⟨_,cell_of g2 rfl,?_⟩
 cases anew with
 | false =>
  rw [br_false]
  exact storeTail_ok h2 hF hX hq hl hn (hs.ext e2) hlc hG hr hH hpb hnum ⟨by omega,by omega⟩ ⟨by omega,by omega⟩ (Upd.ext e2) g1 g2 rfl rfl hR
 | true =>
  rw [br_true]
  refine ⟨_,cell_of g1 rfl,?_⟩
  simp only [nilC_some',add_lit,Nat.zero_add]
  refine h2.store (t:={ s with block:= -1 }) ⟨rfl,rfl,rfl,rfl,rfl,rfl⟩ (fun _ _ _ _ _=>rfl) (by simp) fun w3 hu3 h3=>?_
  have hs3:=hu3.size
  have hrd:({ s with block:= -1 }:StemS).Ready ((H+2) * (3 * l.length+2)):=⟨hr.1,hr.2,hr.3,hr.4,hr.5,fun h=>absurd h (by show ¬ (0:Int)<=-1;decide),hr.7⟩
  exact storeTail_ok (s:=s) (t:={ s with block:= -1 }) h3 hF hX hq hl hn ((hs.ext e2).upd hu3 fun b hb e=>h.outX (by rw [<- e];exact (hG b hb).1)) hlc hG hrd hH hpb hnum ⟨by omega,by omega⟩ ⟨by omega,by omega⟩ ((Upd.ext e2).trans (hu3.mono fun x _ hx=>.inr hx)) (hu3.get g1 fun e=>by omega) (hu3.get g2 fun e=>by omega) rfl rfl hR
def BoundsL:List Value:=[.int .i64 8,.int .i64 64,.int .i64 4,.int .i64 32,.int .i64 128,.int .i64 256,.int .i64 0,.int .i64 4]
def BoundsAt (w:World):Prop:=∃ cs T fr,w.heap[0]?=some (.cells cs T fr)/\cs.toList=BoundsL
theorem BoundsAt.upd {w w':World} {F:Nat->Prop} (h:BoundsAt w) (k:Upd F w w') (h0:¬ F 0):BoundsAt w':=by
 obtain ⟨cs,T,fr,h1,h2⟩:=h
 exact ⟨cs,T,fr,k.get h1 h0,h2⟩
theorem BoundsAt.ext {w w':World} (h:BoundsAt w) (k:Ext w w'):BoundsAt w':=h.upd k fun h=>h
theorem BoundsAt.cell {w:World} (h:BoundsAt w) {i:Nat} {v:Value} (hv:BoundsL[i]?=some v):w.cell? ⟨0,i,none⟩= some v:=by
 obtain ⟨cs,T,fr,h1,h2⟩:=h
 exact cell_of h1 (by rw [<- Array.getElem?_toList,h2];exact hv)
abbrev geoV (c:Chip):Value:=.agg #[.int .i64 c.nb,.int .i64 c.np,.int .i64 c.sz,.int .i64 c.sp]
abbrev geoVs (c:Chip):List Value:=[.int .i64 c.nb,.int .i64 c.np,.int .i64 c.sz,.int .i64 c.sp]
theorem room_within_spec {c:Chip} (hok:c.Ok) (hsp:c.sp<=4) {w:World} (hb:BoundsAt w):CallsR prog K.room_within #[geoV c] w fun v w'=>v= .bool true/\Ext w w':=by
 have n1:=hok.nb1
 have n2:=hok.nb2
 have p1:=hok.np1
 have p2:=hok.np2
 have z1:=hok.sz1
 have z2:=hok.sz2
 apply room_within.sh
 unfold room_within.body
 intro B1 w1 hn1
 have g1:w1.heap[B1]?=some (.cells (geoVs c).toArray T.api_Geo (0,0)):=hn1.get
 simp only [add_lit,Nat.zero_add]
 refine ⟨_,cell_of g1 rfl,_,cell_of g1 rfl,_,cell_of g1 rfl,_,cell_of g1 rfl,fun x u=>∃ i:Nat,x=i/\i<=4/\Ext w u,fun x _=>((4:Int) - x).toNat,⟨0,rfl,by omega,hn1.upd⟩,?_⟩
 rintro x u ⟨i,rfl,hi,heu⟩
 have hbu:=hb.ext heu
 have ew:i64.wrap ((i:Int)+1)=((i+1:Nat):Int):=w64 (by omega) (by omega)
 simp only [ew]
 refine br_dec (fun hlt=>⟨by omega,by omega,⟨⟨⟨trivial,fun h=>?_⟩,fun h=>?_⟩,fun h=>?_⟩,fun h=>?_⟩) fun _=>⟨trivial,heu⟩
 .obtain rfl:i=0:=by omega
  refine ⟨by omega,by omega,by decide,by decide,_,hbu.cell (i:=0) rfl,br_dec (fun h=>absurd h (by omega)) fun _=>⟨by omega,by omega,by decide,by decide,_,hbu.cell (i:=1) rfl,br_dec (fun h=>absurd h (by omega)) fun _=>⟨⟨1,rfl,by omega,heu⟩,by omega⟩⟩⟩
 .obtain rfl:i=1:=by omega
  refine ⟨by omega,by omega,by decide,by decide,_,hbu.cell (i:=2) rfl,br_dec (fun h=>absurd h (by omega)) fun _=>⟨by omega,by omega,by decide,by decide,_,hbu.cell (i:=3) rfl,br_dec (fun h=>absurd h (by omega)) fun _=>⟨⟨2,rfl,by omega,heu⟩,by omega⟩⟩⟩
 .obtain rfl:i=2:=by omega
  refine ⟨by omega,by omega,by decide,by decide,_,hbu.cell (i:=4) rfl,br_dec (fun h=>absurd h (by omega)) fun _=>⟨by omega,by omega,by decide,by decide,_,hbu.cell (i:=5) rfl,br_dec (fun h=>absurd h (by omega)) fun _=>⟨⟨3,rfl,by omega,heu⟩,by omega⟩⟩⟩
 .obtain rfl:i=3:=by omega
  refine ⟨by omega,by omega,by decide,by decide,_,hbu.cell (i:=6) rfl,br_dec (fun h=>absurd h (by omega)) fun _=>⟨by omega,by omega,by decide,by decide,_,hbu.cell (i:=7) rfl,br_dec (fun h=>absurd h (by omega)) fun _=>⟨⟨4,rfl,by omega,heu⟩,by omega⟩⟩⟩
theorem cap_eq (x:Int) (h1: -100000<=x) (h2:x<=100000):(if i64.wrap (Int.tdiv x 8) > (0:Int) then i64.wrap (Int.tdiv x 8) else (0:Int))=((x.toNat / 8:Nat):Int):=by
 by_cases hx:0<=x
 .obtain ⟨n,rfl⟩: ∃ n:Nat,x=n:=⟨x.toNat,by omega⟩
  have h8:Int.tdiv (n:Int) 8=((n / 8:Nat):Int):=tdiv_nat n 8
  rw [h8,w64n (by omega),Int.toNat_natCast]
  split<;>omega
 .obtain ⟨n,rfl⟩: ∃ n:Nat,x= -(n:Int):=⟨(-x).toNat,by omega⟩
  have h8:Int.tdiv (n:Int) 8=((n / 8:Nat):Int):=tdiv_nat n 8
  rw [Int.neg_tdiv,h8,w64 (by omega) (by omega)]
  have:(-(n:Int)).toNat=0:=by omega
  rw [this]
  split<;>omega
theorem prod_bnd {c:Chip} (hok:c.Ok) (hsp:c.sp<=4): -124<=((c.nb:Int) - 2 * c.sp - 4) * ((c.np:Int) - 1)/\((c.nb:Int) - 2 * c.sp - 4) * ((c.np:Int) - 1)<=1860:=by
 have n1:=hok.nb1
 have n2:=hok.nb2
 have p1:=hok.np1
 have p2:=hok.np2
 have h1:((c.nb:Int) - 2 * c.sp - 4) * ((c.np:Int) - 1)<=60 * ((c.np:Int) - 1):=Int.mul_le_mul_of_nonneg_right (by omega) (by omega)
 have h2:(-4) * ((c.np:Int) - 1)<=((c.nb:Int) - 2 * c.sp - 4) * ((c.np:Int) - 1):=Int.mul_le_mul_of_nonneg_right (by omega) (by omega)
 omega
theorem room_May_spec {c:Chip} (hok:c.Ok) (hsp:c.sp<=4) {w:World} (hb:BoundsAt w):CallsR prog K.room_May #[geoV c] w fun v w'=>v= .bool (mayRoom c)/\Ext w w':=by
 have n1:=hok.nb1
 have n2:=hok.nb2
 have p1:=hok.np1
 have p2:=hok.np2
 apply room_May.sh
 unfold room_May.body
 intro B1 w1 hn1
 have g1:w1.heap[B1]?=some (.cells (geoVs c).toArray T.api_Geo (0,0)):=hn1.get
 refine ⟨_,_,_,_,cells_all g1,?_⟩
 have cap:CallsR prog K.room_Cap #[geoV c] w1 fun v w'=>v= .int .i64 (capC c:Nat)/\Ext w1 w':=by
  apply room_Cap.sh
  unfold room_Cap.body
  intro B2 w2 hn2
  have g2:w2.heap[B2]?=some (.cells (geoVs c).toArray T.api_Geo (0,0)):=hn2.get
  refine ⟨_,_,_,_,cells_all g2,(room_within_spec hok hsp ((hb.ext hn1.upd).ext hn2.upd)).mono ?_⟩
  rintro _ w3 ⟨rfl,he3⟩
  have g3:=Ext.get he3 g2
  simp only [add_lit,Nat.zero_add]
  refine ⟨_,rfl,?_⟩
  simp only [Bool.not_true,br_false]
  refine ⟨_,cell_of g3 rfl,_,cell_of g3 rfl,_,cell_of g3 rfl,by decide,?_,hn2.upd.trans he3⟩
  obtain ⟨b1,b2⟩:=prod_bnd hok hsp
  have q1:i64.wrap ((2:Int) * (c.sp:Int))=2 * (c.sp:Int):=w64 (by omega) (by omega)
  have q2:i64.wrap ((c.nb:Int) - 2 * (c.sp:Int))=(c.nb:Int) - 2 * c.sp:=w64 (by omega) (by omega)
  have q3:i64.wrap ((c.nb:Int) - 2 * (c.sp:Int) - 4)=(c.nb:Int) - 2 * c.sp - 4:=w64 (by omega) (by omega)
  have q4:i64.wrap ((c.np:Int) - 1)=(c.np:Int) - 1:=w64 (by omega) (by omega)
  have q5:i64.wrap (((c.nb:Int) - 2 * c.sp - 4) * ((c.np:Int) - 1))=((c.nb:Int) - 2 * c.sp - 4) * ((c.np:Int) - 1):=w64 (by omega) (by omega)
  have q6:i64.wrap (((c.nb:Int) - 2 * c.sp - 4) * ((c.np:Int) - 1) - 8)=((c.nb:Int) - 2 * c.sp - 4) * ((c.np:Int) - 1) - 8:=w64 (by omega) (by omega)
  rw [q1,q2,q3,q4,q5,q6,cap_eq _ (by omega) (by omega)]
  rfl
 refine cap.mono ?_
 rintro _ w2 ⟨rfl,he2⟩
 refine ⟨_,rfl,?_,hn1.upd.trans he2⟩
 unfold mayRoom
 congr 1
 exact decide_eq_decide.2 (by omega)
theorem room_Want_spec {c:Chip} (hok:c.Ok) (hsp:c.sp<=4) {w:World} (hb:BoundsAt w) (m:Nat) (hm:m<=1000000000):CallsR prog K.room_Want #[geoV c,.int .i64 m] w fun v w'=>v= .int .i64 (wantC c m:Nat)/\Ext w w':=by
 have n1:=hok.nb1
 have n2:=hok.nb2
 have p1:=hok.np1
 have p2:=hok.np2
 apply room_Want.sh
 unfold room_Want.body
 intro B1 w1 hn1
 have g1:w1.heap[B1]?=some (.cells (geoVs c).toArray T.api_Geo (0,0)):=hn1.get
 refine ⟨_,_,_,_,cells_all g1,(room_May_spec hok hsp (hb.ext hn1.upd)).mono ?_⟩
 rintro _ w2 ⟨rfl,he2⟩
 have e2:=hn1.upd.trans he2
 have g2:=Ext.get he2 g1
 unfold wantC
 refine ⟨_,rfl,?_⟩
 cases hmay:mayRoom c with
 | false =>
  simp only [Bool.not_false,br_true]
  exact ⟨rfl,e2⟩
 | true =>
  simp only [Bool.not_true,br_false,if_true]
  refine br_dec (fun h=>absurd h (by omega)) fun _=>⟨_,_,_,_,cells_all g2,?_⟩
  have hmin:(if (1048576:Int)<(m:Int) then (1048576:Int) else (m:Int))=((min m 1048576:Nat):Int):=by split<;>omega
  rw [hmin]
  have hmm:min m 1048576<=1048576:=Nat.min_le_right _ _
  generalize min m 1048576=k at *
  apply room_want.sh
  unfold room_want.body
  intro B3 w3 hn3
  have g3:w3.heap[B3]?=some (.cells (geoVs c).toArray T.api_Geo (0,0)):=hn3.get
  simp only [add_lit,Nat.zero_add]
  refine ⟨_,cell_of g3 rfl,fun w4 hd4=>⟨fun z=>Ext w3 z,hd4.upd,?_,_,fun z hz=>cell_of (Ext.get hz g3) rfl,_,rfl,?_,(e2.trans hn3.upd).trans hd4.upd⟩⟩
  .rw [w64 (by omega) (by omega)];omega
  .have q1:i64.wrap ((c.np:Int) - 1)=((c.np - 1:Nat):Int):=by rw [w64 (by omega) (by omega)];omega
   have q2:i64.wrap ((8:Int) * (k:Int))=((8 * k:Nat):Int):=by rw [w64 (by omega) (by omega)];omega
   have q3:i64.wrap (((8 * k:Nat):Int)+8)=((8 * k+8:Nat):Int):=by rw [w64 (by omega) (by omega)];omega
   have q4:i64.wrap (((8 * k+8:Nat):Int)+((c.np - 1:Nat):Int))=((8 * k+8+(c.np - 1):Nat):Int):=by rw [w64 (by omega) (by omega)];omega
   have q5:i64.wrap (((8 * k+8+(c.np - 1):Nat):Int) - 1)=((8 * k+8+(c.np - 1) - 1:Nat):Int):=by rw [w64 (by omega) (by omega)];omega
   have hdiv:(8 * k+8+(c.np - 1) - 1) / (c.np - 1)<=8 * k+8+(c.np - 1) - 1:=Nat.div_le_self _ _
   rw [q1,q2,q3,q4,q5,tdiv_nat]
   generalize (8 * k+8+(c.np - 1) - 1) / (c.np - 1)=d at *
   rw [w64n (m:=d) (by omega),w64 (x:=(d:Int)+4) (by omega) (by omega),w64 (by omega) (by omega)]
   congr 1
theorem stem_ceil_spec (a b:Nat) (hb:1<=b) (ha:a<=1000000000) (hb2:b<=1000000000) (w:World):CallsR prog K.stem_ceil #[.int .i64 a,.int .i64 b] w fun v w'=>v= .int .i64 (ceilN a b:Nat)/\w'=w:=by
 apply stem_ceil.sh
 unfold stem_ceil.body
 refine ⟨by omega,?_,rfl⟩
 have q1:i64.wrap ((a:Int)+(b:Int))=((a+b:Nat):Int):=by rw [w64 (by omega) (by omega)];omega
 have q2:i64.wrap (((a+b:Nat):Int) - 1)=((a+b - 1:Nat):Int):=by rw [w64 (by omega) (by omega)];omega
 have hdiv:(a+b - 1) / b<=a+b - 1:=Nat.div_le_self _ _
 rw [q1,q2,tdiv_nat,w64n (by omega)]
 rfl
theorem want_big {c:Chip} (p1:4<=c.np) (p2:c.np<=32) {m:Nat} (h0:0<wantC c m) (h:wantC c m<=84):m<=2000:=by
 by_cases hm:m<=2000
 .exact hm
 .exfalso
  unfold wantC at h h0
  cases hmay:mayRoom c with
  | false=>rw [hmay,if_neg (by decide)] at h0;exact absurd h0 (by decide)
  | true =>
   rw [hmay,if_pos rfl] at h
   have hk:2000<=min m 1048576:=Nat.le_min.2 ⟨by omega,by decide⟩
   clear h0
   generalize min m 1048576=k at *
   have hlt:8 * k+8+(c.np - 1) - 1<(c.np - 1) * 85:=by
    rcases Nat.lt_or_ge (8 * k+8+(c.np - 1) - 1) ((c.np - 1) * 85) with h' | h'
    .exact h'
    .have:=(Nat.le_div_iff_mul_le (show 0<c.np - 1 by omega)).2 (show 85 * (c.np - 1)<=_ by rw [Nat.mul_comm];exact h')
     omega
   omega
theorem stem_reserve_spec {F X:Nat->Prop} {w:World} {q:Nat} {M:PLoc} {s:StemS} (h:StemIn F X w q M s) (hfew:(takenPool s.pool s.chip).length<20) (hb:BoundsAt w) (hsp:s.chip.sp<=4) :
  CallsR prog K.stem_Stem_reserve #[.pointer (some ⟨q,0,none⟩)] w fun v w'=>v= .int .i64 (s.reserve:Nat)/\Ext w w':=by
 have hok:=h.pool.pin.chip.ok
 have n1:=hok.nb1
 have n2:=hok.nb2
 have p1:=hok.np1
 have p2:=hok.np2
 apply stem_Stem_reserve.sh
 suffices H:∀ R:Value->World->Prop,(∀ v w',v= .int .i64 (s.reserve:Nat)/\Ext w w'->R v w')->stem_Stem_reserve.body (some ⟨q,0,none⟩) w R from H _ fun _ _ h=>h
 intro R hR
 unfold stem_Stem_reserve.body
 simp only [nilC_some',add_lit,Nat.zero_add]
 refine ⟨_,h.cell (i:=0) (fun _ _ _ _ _=>rfl),(pChip h.pool.pin).mono ?_⟩
 rintro _ _ ⟨rfl,rfl⟩
 rename_i w
 refine ⟨_,rfl,(cGeo h.pool.pin.chip).mono ?_⟩
 rintro _ w2 ⟨rfl,he2⟩
 refine ⟨_,_,_,_,rfl,new_put (vs:=geoVs s.chip) rfl fun B1 w4 hb4 hs4 he4 g4=>?_⟩
 have e4:=he2.trans he4
 have h4:=h.ext e4
 refine (stem_own_spec h4 hfew).mono ?_
 rintro _ w5 ⟨a1,c1,a2,c2,rfl,_,_,he5⟩
 have h5:=h4.ext he5
 refine ⟨_,_,_,_,_,_,rfl,_,h5.cell (i:=0) (fun _ _ _ _ _=>rfl),(pBlanks h5.pool.pin).mono ?_⟩
 rintro _ w6 ⟨rfl,he6⟩
 have e6:=(e4.trans he5).trans he6
 have g6:=Ext.get he6 (Ext.get he5 g4)
 have hgl:(s.own.filter fun t=> !t.bad).length<=20:=Nat.le_trans (List.length_filter_le _ _) (Nat.le_trans (List.length_filter_le _ _) (by omega))
 have hbl:blanksPool s.pool s.chip<=64:=by
  unfold blanksPool
  refine Nat.le_trans (List.length_filter_le _ _) ?_
  rw [List.length_range]
  exact n2
 have hnb20:True:=trivial
 have hgood:s.good.length=(s.own.filter fun t=> !t.bad).length:=by unfold StemS.good;rw [List.length_map]
 have hres:s.reserve=ceilN (3 * mostGo s.chip ((s.own.filter fun t=> !t.bad).length+blanksPool s.pool s.chip) 1048576 0+4) (s.chip.np - 1)+2+s.chip.sp:=by unfold StemS.reserve;rw [hgood]
 obtain ⟨N,hN⟩: ∃ N:Nat,N=1048576:=⟨_,rfl⟩
 rw [<- hN] at hres
 rw [hres] at hR
 generalize (s.own.filter fun t=> !t.bad).length=ng at *
 generalize blanksPool s.pool s.chip=nbl at *
 have ehv:i64.wrap ((ng:Int)+(nbl:Int))=((ng+nbl:Nat):Int):=by rw [w64 (by omega) (by omega)];omega
 refine ⟨_,rfl,fun x u=>∃ m f:Nat,x=m/\m<=2000/\m+f=N/\mostGo s.chip (ng+nbl) N 0=mostGo s.chip (ng+nbl) f m/\Ext w6 u,fun x _=>((5000:Int) - x).toNat,⟨0,N,rfl,by omega,by omega,rfl,Upd.refl _ _⟩,?_⟩
 rintro x u ⟨m,f,rfl,hm,hmf,hmost,heu⟩
 have gu:=Ext.get heu g6
 have hbu:=hb.ext (e6.trans heu)
 have ew:i64.wrap ((m:Int)+1)=((m+1:Nat):Int):=w64 (by omega) (by omega)
 obtain ⟨f,rfl⟩: ∃ f',f=f'+1:=⟨f - 1,by omega⟩
 have hstep:mostGo s.chip (ng+nbl) (f+1) m=if 0<wantC s.chip (m+1)/\wantC s.chip (m+1)<=ng+nbl then mostGo s.chip (ng+nbl) f (m+1) else m:=rfl
 rw [hstep] at hmost
 clear hN hstep
 have hbig:0<wantC s.chip (m+1)->wantC s.chip (m+1)<=84->m+1<=2000:=fun h1 h2=>want_big p1 p2 h1 h2
 have hwant:∀ {u:World},BoundsAt u->CallsR prog K.room_Want #[geoV s.chip,.int .i64 ((m+1:Nat):Int)] u fun v w'=>v= .int .i64 (wantC s.chip (m+1):Nat)/\Ext u w':=fun hb'=>room_Want_spec hok hsp hb' (m+1) (by omega)
 generalize wantC s.chip (m+1)=wm at *
 have fin:∀ {v:World},Ext w6 v->mostGo s.chip (ng+nbl) N 0=m->∀ w12,Drew v w12->∃ S2:World->Prop,S2 w12/\∃ x20:Int,(∀ u3,S2 u3->World.cell? u3 ⟨B1,1,none⟩= some (.int .i64 x20))/\∃ x21:Int,(∀ u4,S2 u4->World.cell? u4 ⟨B1,3,none⟩= some (.int .i64 x21))/\CallsR prog K.stem_ceil #[.int .i64 (i64.wrap (i64.wrap ((3:Int) * (m:Int))+4)),.int .i64 (i64.wrap (x20 - 1))] w12 fun v8 w13=>∃ x22:Int,v8= .int .i64 x22/\S2 w13/\R (.int .i64 (i64.wrap (i64.wrap (x22+2)+x21))) w13:=fun {v} hv hmm w12 hd12=>by
  have e12:=hv.trans hd12.upd
  have g12:=Ext.get e12 g6
  refine ⟨fun z=>Ext w12 z,Upd.refl _ _,_,fun z hz=>cell_of (Ext.get hz g12) rfl,_,fun z hz=>cell_of (Ext.get hz g12) rfl,?_⟩
  have q1:i64.wrap ((3:Int) * (m:Int))=((3 * m:Nat):Int):=by rw [w64 (by omega) (by omega)];omega
  have q2:i64.wrap (((3 * m:Nat):Int)+4)=((3 * m+4:Nat):Int):=by rw [w64 (by omega) (by omega)];omega
  have q3:i64.wrap ((s.chip.np:Int) - 1)=((s.chip.np - 1:Nat):Int):=by rw [w64 (by omega) (by omega)];omega
  rw [q1,q2,q3]
  refine (stem_ceil_spec (3 * m+4) (s.chip.np - 1) (by omega) (by omega) (by omega) w12).mono ?_
  rintro _ _ ⟨rfl,rfl⟩
  rename_i w12
  have hceil:ceilN (3 * m+4) (s.chip.np - 1)<=3 * m+4+(s.chip.np - 1):=by unfold ceilN;exact Nat.le_trans (Nat.div_le_self _ _) (by omega)
  rw [hmm] at hR
  generalize ceilN (3 * m+4) (s.chip.np - 1)=ce at *
  refine ⟨_,rfl,Upd.refl _ _,hR _ _ ⟨?_,e6.trans e12⟩⟩
  rw [w64 (x:=(ce:Int)+2) (by omega) (by omega),w64 (by omega) (by omega)]
  congr 1
 refine ⟨_,_,_,_,cells_all gu,?_⟩
 rw [ew]
 refine (hwant hbu).mono ?_
 rintro _ w8 ⟨rfl,he8⟩
 have eu8:=heu.trans he8
 refine ⟨_,rfl,br_dec (fun hpos=>?_) fun hno=>fin eu8 (by rw [hmost,if_neg (by omega)])⟩
 refine ⟨_,_,_,_,cells_all (Ext.get he8 gu),(hwant (hbu.ext he8)).mono ?_⟩
 rintro _ w9 ⟨rfl,he9⟩
 have eu9:=eu8.trans he9
 rw [ehv]
 refine ⟨_,rfl,br_dec (fun hle=>?_) fun hgt=>fin eu9 (by rw [hmost,if_neg (by omega)])⟩
 rw [if_pos (by omega)] at hmost
 have hmm:m+1<=2000:=hbig (by omega) (by omega)
 refine ⟨⟨m+1,f,rfl,hmm,by omega,hmost,eu9⟩,?_⟩
 show ((5000:Int) - ((m+1:Nat):Int)).toNat<((5000:Int) - (m:Int)).toNat
 omega
theorem stem_off_spec {F X:Nat->Prop} {w:World} {q:Nat} {M:PLoc} {s:StemS} (h:StemIn F X w q M s):CallsR prog K.stem_Stem_off #[.pointer (some ⟨q,0,none⟩)] w fun v w'=>v= .bool false/\w'=w:=by
 apply stem_Stem_off.sh
 unfold stem_Stem_off.body
 simp only [Option.isNone_some,br_false,nilC_some']
 exact ⟨_,h.cell (i:=0) (fun _ _ _ _ _=>rfl),rfl,trivial⟩
theorem stem_dead_spec {F X:Nat->Prop} {w:World} {q:Nat} {M:PLoc} {s:StemS} (h:StemIn F X w q M s):CallsR prog K.stem_Stem_dead #[.pointer (some ⟨q,0,none⟩)] w fun v w'=>v= .bool s.chip.dead/\Ext w w':=by
 have hok:=h.pool.pin.chip.ok
 apply stem_Stem_dead.sh
 unfold stem_Stem_dead.body
 simp only [nilC_some']
 refine ⟨_,h.cell (i:=0) (fun _ _ _ _ _=>rfl),(pChip h.pool.pin).mono ?_⟩
 rintro _ _ ⟨rfl,rfl⟩
 rename_i w
 refine ⟨_,rfl,(cRead h.pool.pin.chip).mono ?_⟩
 rintro _ w2 ⟨he,a,l,cp,rfl⟩
 refine ⟨_,_,_,_,rfl,?_,he⟩
 cases s.chip.dead<;>rfl
theorem slices_Equal_byte_spec {a a':Option Addr} {l m:List UInt8} {c c':Nat} {w:World} (h:BytesAt w a l) (k:BytesAt w a' m) (hn:l.length<=281474976710656):CallsR prog K.slices_Equal_byte #[.slice a l.length c,.slice a' m.length c'] w fun v w'=>v= .bool (decide (l=m))/\Ext w w':=by
 apply slices_Equal_byte.sh
 suffices H:∀ R:Value->World->Prop,(∀ v w',v= .bool (decide (l=m))/\Ext w w'->R v w')->slices_Equal_byte.body a l.length c a' m.length c' w R from H _ fun _ _ h=>h
 intro R hR
 unfold slices_Equal_byte.body
 refine br_ne (fun hne=>?_) fun heq=>?_
 .have:decide (l=m)=false:=decide_eq_false fun e=>hne (by rw [e])
  rw [this] at hR
  exact hR _ _ ⟨rfl,Upd.refl _ _⟩
 have hlm:l.length=m.length:=by omega
 refine ⟨fun x u=>∃ i:Nat,x=i/\i<=l.length/\l.take i=m.take i/\Ext w u,fun x _=>((l.length:Int) - x).toNat,⟨0,rfl,by omega,rfl,Upd.refl _ _⟩,?_⟩
 rintro x u ⟨i,rfl,hi,ht,heu⟩
 refine br_dec (fun hlt=>?_) fun hge=>?_
 .have hi':i<l.length:=by omega
  have ew:i64.wrap ((i:Int)+1)=((i+1:Nat):Int):=w64 (by omega) (by omega)
  intro w2 hd2
  have e2:=heu.trans hd2.upd
  have hl2:RowAt w2 a (l.flatMap fun x=>[bv x]):=by have:=h.ext e2;simpa [BytesAt,<- List.map_eq_flatMap] using this
  have hm2:RowAt w2 a' (m.flatMap fun x=>[bv x]):=by have:=k.ext e2;simpa [BytesAt,<- List.map_eq_flatMap] using this
  refine ⟨fun z=>Ext w2 z,Upd.refl _ _,idx_flat (k:=1) (f:=fun x:UInt8=>[bv x]) (fun _=>rfl) (by omega) hl2 rfl hi' fun b o hab hr=>⟨_,fun z hz=>(RowAt.ext hr hz).cells.1,?_⟩⟩
  refine idx_flat (k:=1) (f:=fun x:UInt8=>[bv x]) (fun _=>rfl) (by omega) hm2 rfl (by omega) fun b' o' hab' hr'=>⟨_,fun z hz=>(RowAt.ext hr' hz).cells.1,?_⟩
  rw [ew]
  refine br_ne (fun hne=>?_) fun he=>?_
  .have:decide (l=m)=false:=decide_eq_false fun e=>hne (by subst e;rfl)
   rw [this] at hR
   exact hR _ _ ⟨rfl,e2⟩
  .have hb:l[i]=m[i]'(by omega):=UInt8.toNat_inj.1 (by omega)
   refine ⟨⟨i+1,rfl,hi',?_,e2⟩,meas hi'⟩
   rw [List.take_succ_eq_append_getElem hi',List.take_succ_eq_append_getElem (by omega),ht,hb]
 .have hil:i=l.length:=by omega
  subst hil
  rw [List.take_length,List.take_of_length_le (by omega)] at ht
  have:decide (l=m)=true:=decide_eq_true ht
  rw [this] at hR
  exact hR _ _ ⟨rfl,heu⟩
theorem fact_Same_1_spec (x y:Fact) {w:World} {a a':Option Addr} {c c':Nat} (h:BytesAt w a x.val) (k:BytesAt w a' y.val) (hn:x.val.length<=281474976710656):CallsR prog K.fact_Same_1 #[.agg (factVs x.key a x.val.length c).toArray,.agg (factVs y.key a' y.val.length c').toArray] w fun v w'=>v= .bool (decide (x=y))/\Ext w w':=by
 apply fact_Same_1.sh
 suffices H:∀ R:Value->World->Prop,(∀ v w',v= .bool (decide (x=y))/\Ext w w'->R v w')->fact_Same_1.body x.key.ino x.key.what.toNat x.key.name x.key.chunk a x.val.length c y.key.ino y.key.what.toNat y.key.name y.key.chunk a' y.val.length c' w R from H _ fun _ _ h=>h
 intro R hR
 unfold fact_Same_1.body
 simp only [add_lit,Nat.zero_add]
 intro B1 w1 hn1 B2 w2 hn2
 have e2:=hn1.upd.trans hn2.upd
 have g1:w2.heap[B1]?=some (.cells (factVs x.key a x.val.length c).toArray T.api_Fact (0,0)):=Ext.get hn2.upd hn1.get
 have g2:w2.heap[B2]?=some (.cells (factVs y.key a' y.val.length c').toArray T.api_Fact (0,0)):=hn2.get
 refine ⟨_,_,_,_,factV_cells g1,_,_,_,_,factV_cells g2,?_⟩
 have hkey:((x.key.ino == y.key.ino) && (((x.key.what.toNat:Int) == (y.key.what.toNat:Int)) && ((x.key.name.toList == y.key.name.toList) && ((x.key.chunk == y.key.chunk) && true))))=decide (x.key=y.key):=by
  rw [Bool.eq_iff_iff,decide_eq_true_eq]
  simp only [Bool.and_true,Bool.and_eq_true,beq_iff_eq]
  constructor
  .rintro ⟨h1,h2,h3,h4⟩
   have hw:x.key.what=y.key.what:=UInt8.toNat_inj.1 (by omega)
   have hnm:x.key.name=y.key.name:=by
    have hb:(x.key.name.toList == y.key.name.toList)=true:=by rw [h3];exact beq_self_eq_true _
    rw [str_beq] at hb
    have hd:x.key.name.data.toList=y.key.name.data.toList:=by simpa using hb
    rw [<- name_of x.key,<- name_of y.key]
    unfold Key.bytes
    rw [hd]
   rcases x with ⟨⟨a1,a2,a3,a4⟩,av⟩
   rcases y with ⟨⟨b1,b2,b3,b4⟩,bv'⟩
   simp only at h1 hw hnm h4 ⊢
   rw [h1,hw,hnm,h4]
  .intro h
   rw [h]
   exact ⟨rfl,rfl,rfl,rfl⟩
 rw [hkey]
 refine br_dec (fun hk=>?_) fun hk=>?_
 .refine ⟨_,_,_,cell_of g1 rfl,_,_,_,cell_of g2 rfl,(slices_Equal_byte_spec (h.ext e2) (k.ext e2) hn).mono ?_⟩
  rintro _ w3 ⟨rfl,he3⟩
  refine ⟨_,rfl,hR _ _ ⟨?_,e2.trans he3⟩⟩
  congr 1
  refine decide_eq_decide.2 ⟨fun h=>?_,fun h=>by rw [h]⟩
  rcases x with ⟨xk,xv⟩
  rcases y with ⟨yk,yv⟩
  simp only at hk h ⊢
  rw [hk,h]
 .have:decide (x=y)=false:=decide_eq_false fun e=>hk (by rw [e])
  rw [this] at hR
  exact hR _ _ ⟨rfl,e2⟩
theorem fact_Same_spec {w:World} {G G':Nat->Prop} {a a':Option Addr} {c c':Nat} {l m:List Fact} (h:SliceAt factR w G a l) (k:SliceAt factR w G' a' m) (hv:∀ f∈l,f.val.length<=281474976710656) (hn:l.length<=281474976710656):CallsR prog K.fact_Same #[.slice a l.length c,.slice a' m.length c'] w fun v w'=>v= .bool (decide (l=m))/\Ext w w':=by
 apply fact_Same.sh
 suffices H:∀ R:Value->World->Prop,(∀ v w',v= .bool (decide (l=m))/\Ext w w'->R v w')->fact_Same.body a l.length c a' m.length c' w R from H _ fun _ _ h=>h
 intro R hR
 unfold fact_Same.body
 have key:CallsR prog K.slices_EqualFunc_api_Fact #[.slice a l.length c,.slice a' m.length c',.func (.func K.fact_Same_1) #[] #[]] w fun v w'=>v= .bool (decide (l=m))/\Ext w w':=by
  apply slices_EqualFunc_api_Fact.sh
  suffices H:∀ R:Value->World->Prop,(∀ v w',v= .bool (decide (l=m))/\Ext w w'->R v w')->slices_EqualFunc_api_Fact.body a l.length c a' m.length c' (.func (.func K.fact_Same_1) #[] #[]) w R from H _ fun _ _ h=>h
  intro R hR
  unfold slices_EqualFunc_api_Fact.body
  refine br_ne (fun hne=>?_) fun heq=>?_
  .have:decide (l=m)=false:=decide_eq_false fun e=>hne (by rw [e])
   rw [this] at hR
   exact hR _ _ ⟨rfl,Upd.refl _ _⟩
  have hlm:l.length=m.length:=by omega
  refine ⟨fun x u=>∃ i:Nat,x=i/\i<=l.length/\l.take i=m.take i/\Ext w u,fun x _=>((l.length:Int) - x).toNat,⟨0,rfl,by omega,rfl,Upd.refl _ _⟩,?_⟩
  rintro x u ⟨i,rfl,hi,ht,heu⟩
  refine br_dec (fun hlt=>?_) fun hge=>?_
  .have hi':i<l.length:=by omega
   have him:i<m.length:=by omega
   have ew:i64.wrap ((i:Int)+1)=((i+1:Nat):Int):=w64 (by omega) (by omega)
   refine SliceAt.idx (r:=factR) (h.ext heu) rfl hi' fun b o vs ha hrow hR1 _=>?_
   obtain ⟨av,cv,rfl,_,hbv,_⟩:=factR_elim hR1
   refine ⟨_,_,_,_,_,_,_,hrow.cells,new_put (vs:=factVs l[i].key av l[i].val.length cv) rfl fun B1 w3 hb3 hs3 he3 g3=>?_⟩
   refine SliceAt.idx (r:=factR) (k.ext (heu.trans he3)) rfl him fun b' o' vs' ha' hrow' hR2 _=>?_
   obtain ⟨av',cv',rfl,_,hbv',_⟩:=factR_elim hR2
   refine ⟨_,_,_,_,_,_,_,hrow'.cells,new_put (vs:=factVs m[i].key av' m[i].val.length cv') rfl fun B2 w5 hb5 hs5 he5 g5=>?_⟩
   have g35:=Ext.get he5 g3
   refine ⟨_,_,_,_,_,_,_,cells_all g35,_,_,_,_,_,_,_,cells_all g5,⟨by kernel_rfl,?_⟩⟩
   refine (fact_Same_1_spec l[i] m[i] (hbv.ext (he3.trans he5)) (hbv'.ext he5) (hv _ (List.getElem_mem hi'))).mono ?_
   rintro _ w6 ⟨rfl,he6⟩
   have e6:=((heu.trans he3).trans he5).trans he6
   rw [ew]
   refine ⟨_,rfl,br_intro (fun hb=>?_) fun hb=>?_⟩
   .have hne:¬ l[i]=m[i]:=by simpa using hb
    have:decide (l=m)=false:=decide_eq_false fun e=>hne (by subst e;rfl)
    rw [this] at hR
    exact hR _ _ ⟨rfl,e6⟩
   .have he:l[i]=m[i]:=by simpa using hb
    refine ⟨⟨i+1,rfl,hi',?_,e6⟩,meas hi'⟩
    rw [List.take_succ_eq_append_getElem hi',List.take_succ_eq_append_getElem him,ht,he]
  .have hil:i=l.length:=by omega
   subst hil
   rw [List.take_length,List.take_of_length_le (by omega)] at ht
   have:decide (l=m)=true:=decide_eq_true ht
   rw [this] at hR
   exact hR _ _ ⟨rfl,heu⟩
 refine key.mono ?_
 rintro _ w' ⟨rfl,he⟩
 exact ⟨_,rfl,hR _ _ ⟨rfl,he⟩⟩
abbrev NewX (X:Nat->Prop) (w w':World):Nat->Prop:=fun x=>X x\/(w.heap.size<=x/\x<w'.heap.size)
theorem StemIn.bigX {F X:Nat->Prop} {w w':World} {q:Nat} {M:PLoc} {s:StemS} (h:StemIn F X w' q M s) (hq:q<w.heap.size):StemIn F (NewX X w w') w' q M s:=by
 obtain ⟨⟨a0,c0,a20,c20,mp0,gg,G0,hp0⟩,k2,k3,k4,k5,k6⟩:=h
 exact ⟨⟨a0,c0,a20,c20,mp0,gg,G0,hp0.1,hp0.2,hp0.3,hp0.4,hp0.5,fun b hb=>⟨.inl (hp0.low b hb).1,(hp0.low b hb).2⟩⟩,k2.mono (fun _ h=>h) fun _ h=>.inl h,k3,fun hx=>by
  rcases hx with hx | hx
  .exact k4 hx
  .omega,k5,k6⟩
theorem stem_Put_spec {F X:Nat->Prop} {w:World} {q:Nat} {M:PLoc} {s:StemS} (h:StemIn F X w q M s) (hF:∀ x,F x->x<w.heap.size) (hX:∀ x,X x->x<w.heap.size) {cs:List Change} {Gc:Nat->Prop} {ac:Option Addr} {cc:Nat} (hc:SliceAt changeR w Gc ac cs) (hs:Small cs) (hsc:SmallC cs) (hn:s.facts.length+cs.length<=100000000) (hvl:∀ f∈s.facts,f.val.length<=140737488355232) :
  CallsR prog K.stem_Stem_Put #[.pointer (some ⟨q,0,none⟩),.slice ac cs.length cc] w fun v w'=>v= .int .i64 ((s.put cs).2:Nat)/\Upd (StemF F q) w w'/\StemIn F (NewX X w w') w' q M (s.put cs).1:=by
 have hok:=h.pool.pin.chip.ok
 have hq:=h.lt
 obtain ⟨r,hr⟩: ∃ r,r=s.put cs:=⟨_,rfl⟩
 rw [<- hr]
 unfold StemS.put at hr
 rw [ask00 hok] at hr
 apply stem_Stem_Put.sh
 suffices H:∀ R:Value->World->Prop,(∀ v w',v= .int .i64 (r.2:Nat)/\Upd (StemF F q) w w'/\StemIn F (NewX X w w') w' q M r.1->R v w')->stem_Stem_Put.body (some ⟨q,0,none⟩) ac cs.length cc w R from H _ fun _ _ h=>h
 intro R hR
 unfold stem_Stem_Put.body
 refine (stem_off_spec h).mono ?_
 rintro _ _ ⟨rfl,rfl⟩
 rename_i w
 refine ⟨_,rfl,?_⟩
 rw [br_false]
 refine (stem_dead_spec h).mono ?_
 rintro _ w2 ⟨rfl,he2⟩
 refine ⟨_,rfl,?_⟩
 cases hd:s.chip.dead with
 | true =>
  rw [hd] at hr
  rw [br_true]
  rw [if_pos (by decide)] at hr
  refine hR _ _ ⟨by rw [hr];rfl,Upd.ext he2,?_⟩
  rw [hr]
  exact (h.ext he2).bigX hq
 | false =>
  rw [hd] at hr
  rw [br_false]
  rw [if_neg (by decide)] at hr
  have h2:=h.ext he2
  simp only [nilC_some',add_lit,Nat.zero_add]
  refine ⟨_,h2.cell (i:=0) (fun _ _ _ _ _=>rfl),(pChip h2.pool.pin).mono ?_⟩
  rintro _ _ ⟨rfl,rfl⟩
  rename_i w2
  refine ⟨_,rfl,(cGeo h2.pool.pin.chip).mono ?_⟩
  rintro _ w4 ⟨rfl,he4⟩
  have e4:=he2.trans he4
  refine ⟨_,_,_,_,rfl,(rec_Put_spec (c:=cc) (hc.ext e4) hs (by omega) (s.chip.sz:Nat)).mono ?_⟩
  rintro _ w5 ⟨a5,c5,rfl,_,_,he5,_⟩
  have e5:=e4.trans he5
  have h5:=h.ext e5
  refine ⟨_,_,_,_,rfl,br_ne (fun hne=>?_) fun h0=>?_⟩
  .rw [if_pos (show (putL s.chip.sz cs).2≠0 by omega)] at hr
   refine hR _ _ ⟨by rw [hr],Upd.ext e5,?_⟩
   rw [hr]
   exact h5.bigX hq
  .rw [if_neg (show ¬ (putL s.chip.sz cs).2≠0 by omega)] at hr
   obtain ⟨⟨a0,c0,a20,c20,mp0,gg,G0,hp0⟩,k2,k3,k4,k5,k6⟩:=h5
   refine ⟨_,_,_,cell_of gg rfl,(fact_Apply_spec (c:=c0) (cc:=cc) hp0.facts (fun b hb=>(hp0.low b hb).2.2) (hc.ext e5) hn hvl hsc).mono ?_⟩
   rintro _ w6 ⟨a6,c6,rfl,hl6,he6⟩
   have hs6:=he6.size
   have hs5:=e5.size
   have gg6:=Ext.get he6 gg
   obtain ⟨G6,hsl6,hG6⟩:=hl6.slice
   refine ⟨_,_,_,rfl,store_of gg6 (by simp) fun w7 hput=>?_⟩
   have hu7:=hput.upd1
   have hs7:=hu7.size
   have g7:w7.heap[q]?=some (.cells (stemVs M { s with facts:=applyF s.facts cs } a6 c6 a20 c20 mp0).toArray T.stem_Stem (0,0)):=by rw [hput.get];rfl
   refine hR _ _ ⟨by rw [hr];rfl,(Upd.ext (e5.trans he6)).trans (hu7.mono fun x _ hx=>.inr hx),?_⟩
   rw [hr]
   have hno:∀ b,G6 b->w.heap.size<=b/\b<w6.heap.size:=fun b hb=>by
    obtain ⟨h1,h2⟩:=hG6 b hb
    rcases h1 with h1 | h1
    .exact ⟨by omega,h2⟩
    .exact h1.elim
   have hpt:=hp0.upd he6 fun _ _ h=>h
   have hpt7:=hpt.upd hu7 fun b hb e=>k4 (by rw [<- e];exact (hpt.low b hb).1)
   refine ⟨⟨a6,c6,a20,c20,mp0,g7,fun b=>G0 b\/G6 b,?_,hpt7.synced.mono fun _ h=>.inl h,hpt7.pages.mono fun _ h=>.inl h,hl6.cap,hpt7.sc,fun b hb=>?_⟩,((k2.ext he6).upd hu7 (fun x hx e=>k3 (by rw [<- e];exact hx)) fun x hx e=>k4 (by rw [<- e];exact hx)).mono (fun _ h=>h) fun _ h=>.inl h,k3,fun hx=>?_,k5,k6⟩
   .exact (hsl6.upd hu7 fun b hb e=>by have:=(hno b hb).1;omega).mono fun _ h=>.inr h
   .rcases hb with hb | hb
    .obtain ⟨l1,l2,l3⟩:=hpt7.low b hb
     exact ⟨.inl l1,l2,l3⟩
    .obtain ⟨l1,l2⟩:=hno b hb
     exact ⟨.inr ⟨l1,by omega⟩,fun hf=>by have:=hF b hf;omega,by omega⟩
   .rcases hx with hx | hx
    .exact k4 hx
    .omega
def StemS.syncC (s:StemS):StemS×Nat:=if s.facts=s.synced then (s,0) else s.store s.facts false
theorem stem_Sync_calm {F X:Nat->Prop} {w:World} {q:Nat} {M:PLoc} {s:StemS} (h:StemIn F X w q M s) (hF:∀ x,F x->x<w.heap.size) (hX:∀ x,X x->x<w.heap.size) (hd0:s.chip.dead=false) (hl:FitL s.chip.sz s.facts) (hn:s.facts.length<=20000) {H:Nat} (hr:s.Ready ((H+2) * (3 * s.facts.length+2))) (hH:s.chip.hits.length<=H) (hpb:PB s.pages) (hnum:s.number+1<18446744073709551616)
  (hfew:(takenPool s.pool s.chip).length<20) (hb:BoundsAt w) (hsp:s.chip.sp<=4) (hpg:s.page<=s.chip.np) (hmiss:s.missing s.facts<=70000) (hcalm:s.facts≠s.synced->s.scarce=false) :
  CallsR prog K.stem_Stem_Sync #[.pointer (some ⟨q,0,none⟩)] w fun v w'=>v= .int .i64 (s.syncC.2:Nat)/\Upd (StemF F q) w w'/\StemIn F (NewX X w w') w' q M s.syncC.1:=by
 have hok:=h.pool.pin.chip.ok
 have p1:=hok.np1
 have p2:=hok.np2
 have hq:=h.lt
 apply stem_Stem_Sync.sh
 suffices H0:∀ R:Value->World->Prop,(∀ v w',v= .int .i64 (s.syncC.2:Nat)/\Upd (StemF F q) w w'/\StemIn F (NewX X w w') w' q M s.syncC.1->R v w')->stem_Stem_Sync.body (some ⟨q,0,none⟩) w R from H0 _ fun _ _ h=>h
 intro R hR
 unfold stem_Stem_Sync.body
 refine (stem_off_spec h).mono ?_
 rintro _ _ ⟨rfl,rfl⟩
 rename_i w
 refine ⟨_,rfl,?_⟩
 rw [br_false]
 refine (stem_dead_spec h).mono ?_
 rintro _ w2 ⟨rfl,he2⟩
 refine ⟨_,rfl,?_⟩
 rw [hd0,br_false]
 intro w3 hd3
 have e3:=he2.trans hd3.upd
 have h3:=h.ext e3
 obtain ⟨⟨a0,c0,a20,c20,mp0,gg,G0,hp0⟩,_⟩:=id h3
 simp only [nilC_some',add_lit,Nat.zero_add]
 refine ⟨fun z=>Ext w3 z,Upd.refl _ _,_,_,_,fun z hz=>cell_of (Ext.get hz gg) rfl,_,_,_,fun z hz=>cell_of (Ext.get hz gg) rfl,(fact_Same_spec (c:=c0) (c':=c20) hp0.facts hp0.synced (fun f hf=>by have:=(fact_may (hl.may f hf)).2.2;omega) (by omega)).mono ?_⟩
 rintro _ w4 ⟨rfl,he4⟩
 have e4:=e3.trans he4
 have h4:=h.ext e4
 have gg4:=Ext.get he4 gg
 have hp4:=hp0.upd he4 fun _ _ h=>h
 refine ⟨_,rfl,br_dec (fun heq=>?_) fun hne=>?_⟩
 .have hs:s.syncC=(s,0):=by unfold StemS.syncC;rw [if_pos heq]
  rw [hs] at hR
  exact hR _ _ ⟨rfl,Upd.ext e4,h4.bigX hq⟩
 have hs:s.syncC=s.store s.facts false:=by unfold StemS.syncC;rw [if_neg hne]
 rw [hs] at hR
 have hsc:=hcalm hne
 have hss4:=e4.size
 refine ⟨_,_,_,cell_of gg4 rfl,(stem_missing_spec (c:=c0) h4 (fun x hx=>by have:=hF x hx;omega) (fun x hx=>by have:=hX x hx;omega) hpb hl hn hp4.facts hp4.fc (fun b hb=>(hp4.low b hb).2.2)).mono ?_⟩
 rintro _ w5 ⟨rfl,he5⟩
 have e5:=e4.trans he5
 have h5:=h.ext e5
 refine ⟨_,_,rfl,br_ne (fun h=>absurd rfl h) fun _=>⟨_,h5.cell (i:=0) (fun _ _ _ _ _=>rfl),(pChip h5.pool.pin).mono ?_⟩⟩
 rintro _ _ ⟨rfl,rfl⟩
 rename_i w5
 refine ⟨_,rfl,(cGeo h5.pool.pin.chip).mono ?_⟩
 rintro _ w7 ⟨rfl,he7⟩
 have e7:=e5.trans he7
 have h7:=h.ext e7
 have q1:i64.wrap ((s.chip.np:Int) - 1)=((s.chip.np - 1:Nat):Int):=by rw [w64 (by omega) (by omega)];omega
 have q2:i64.wrap (((s.missing s.facts:Nat):Int)+1)=((s.missing s.facts+1:Nat):Int):=by rw [w64 (by omega) (by omega)];omega
 have hscd:s.scarce=decide ((blanksPool s.pool s.chip:Int) - s.more<s.reserve):=rfl
 have tail:∀ {k:Nat} {u:World},s.more=ceilN k (s.chip.np - 1)->k<=1000000->Ext w u->CallsR prog K.stem_ceil #[.int .i64 (k:Nat),.int .i64 ((s.chip.np - 1:Nat):Int)] u fun v7 w8=>∃ x9:Int,v7= .int .i64 x9/\∃ p3:Option Addr,World.cell? w8 ⟨q,0,none⟩= some (.pointer p3)/\CallsR prog K.pool_Pool_Blanks #[.pointer p3] w8 fun v8 w9=>∃ x10:Int,v8= .int .i64 x10/\CallsR prog K.stem_Stem_reserve #[.pointer (some ⟨q,0,none⟩)] w9 fun v9 w10=>∃ x11:Int,v9= .int .i64 x11/\decide (i64.wrap (x10 - x9)<x11)=false/\Ext w w10:=fun {k u} hk hk2 hu=>by
  refine (stem_ceil_spec k (s.chip.np - 1) (by omega) (by omega) (by omega) u).mono ?_
  rintro _ _ ⟨rfl,rfl⟩
  rename_i u
  have hu':=h.ext hu
  refine ⟨_,rfl,_,hu'.cell (i:=0) (fun _ _ _ _ _=>rfl),(pBlanks hu'.pool.pin).mono ?_⟩
  rintro _ w9 ⟨rfl,he9⟩
  refine ⟨_,rfl,(stem_reserve_spec (hu'.ext he9) hfew (hb.ext (hu.trans he9)) hsp).mono ?_⟩
  rintro _ w10 ⟨rfl,he10⟩
  refine ⟨_,rfl,?_,(hu.trans he9).trans he10⟩
  have hbl:blanksPool s.pool s.chip<=64:=by
   unfold blanksPool
   refine Nat.le_trans (List.length_filter_le _ _) ?_
   rw [List.length_range]
   exact hok.nb2
  have hceil:ceilN k (s.chip.np - 1)<=k+(s.chip.np - 1):=by unfold ceilN;exact Nat.le_trans (Nat.div_le_self _ _) (by omega)
  rw [hscd,hk] at hsc
  rw [w64 (by omega) (by omega)]
  exact hsc
 have stored:∀ {u:World},Ext w u->∃ (a5:Option Addr) (l5 c5:Nat),World.cell? u ⟨q,2,none⟩= some (.slice a5 l5 c5)/\CallsR prog K.stem_Stem_store #[.pointer (some ⟨q,0,none⟩),.slice a5 l5 c5,.bool false] u fun v15 w16=>v15= .int .i64 ((s.store s.facts false).2:Nat)/\R (.int .i64 ((s.store s.facts false).2:Nat)) w16:=fun {u} hu=>by
  have hus:=hu.size
  obtain ⟨⟨a1,c1,a21,c21,mp1,g1,G1,hp1⟩,_⟩:=id (h.ext hu)
  refine ⟨_,_,_,cell_of g1 rfl,(stem_store_spec (c:=c1) (h.ext hu) (fun x hx=>by have:=hF x hx;omega) (fun x hx=>by have:=hX x hx;omega) hl hn hp1.facts hp1.fc (fun b hb=>hp1.low b hb) false hr hH hpb hnum).mono ?_⟩
  rintro _ w16 ⟨rfl,hu16,h16⟩
  refine ⟨rfl,hR _ _ ⟨rfl,(Upd.ext hu).trans hu16,?_⟩⟩
  obtain ⟨⟨a1,c1,a21,c21,mp1,g1,G1,hp1⟩,k2,k3,k4,k5,k6⟩:=h16
  have up:∀ x,(X x\/(u.heap.size<=x/\x<w16.heap.size))->NewX X w w16 x:=fun x hx=>by
   rcases hx with hx | hx
   .exact .inl hx
   .exact .inr ⟨by omega,hx.2⟩
  exact ⟨⟨a1,c1,a21,c21,mp1,g1,G1,hp1.1,hp1.2,hp1.3,hp1.4,hp1.5,fun b hb=>⟨up b (hp1.low b hb).1,(hp1.low b hb).2⟩⟩,k2.mono (fun _ h=>h) up,k3,fun hx=>by
   rcases hx with hx | hx
   .exact h.outX hx
   .omega,k5,k6⟩
 refine ⟨_,_,_,_,rfl,_,h7.cell (i:=8) (fun _ _ _ _ _=>rfl),br_dec (fun hge=>?_) fun hlt=>?_⟩
 .refine ⟨_,h7.cell (i:=9) (fun _ _ _ _ _=>rfl),?_⟩
  have q3:i64.wrap ((s.chip.np:Int) - (s.page:Int))=((s.chip.np - s.page:Nat):Int):=by rw [w64 (by omega) (by omega)];omega
  have q4:(if (0:Int) > i64.wrap (((s.missing s.facts+1:Nat):Int) - ((s.chip.np - s.page:Nat):Int)) then (0:Int) else i64.wrap (((s.missing s.facts+1:Nat):Int) - ((s.chip.np - s.page:Nat):Int)))=((s.missing s.facts+1 - (s.chip.np - s.page):Nat):Int):=by
   rw [w64 (by omega) (by omega)]
   split<;>omega
  rw [q1,q2,q3,q4]
  refine (tail (k:=s.missing s.facts+1 - (s.chip.np - s.page)) (by unfold StemS.more;rw [if_neg (by omega)]) (by omega) e7).mono ?_
  rintro _ W8 ⟨x9,rfl,p3,hp3,ht⟩
  refine ⟨_,rfl,_,hp3,ht.mono ?_⟩
  rintro _ W9 ⟨x10,rfl,ht2⟩
  refine ⟨_,rfl,ht2.mono ?_⟩
  rintro _ W10 ⟨x11,rfl,hf,e10⟩
  refine ⟨_,rfl,?_⟩
  rw [hf,br_false]
  obtain ⟨a5,l5,c5,h5c,hst⟩:=stored e10
  refine ⟨_,_,_,h5c,hst.mono ?_⟩
  rintro _ w16 ⟨rfl,hRR⟩
  refine ⟨_,rfl,br_ne (fun _=>hRR) fun h0=>?_⟩
  rw [br_false]
  rw [h0] at hRR
  exact hRR
 .have q4:(if (0:Int) > i64.wrap (((s.missing s.facts+1:Nat):Int) - 0) then (0:Int) else i64.wrap (((s.missing s.facts+1:Nat):Int) - 0))=((s.missing s.facts+1:Nat):Int):=by
   rw [w64 (by omega) (by omega)]
   split<;>omega
  rw [q1,q2,q4]
  refine (tail (k:=s.missing s.facts+1) (by unfold StemS.more;rw [if_pos (by omega)];rfl) (by omega) e7).mono ?_
  rintro _ W8 ⟨x9,rfl,p3,hp3,ht⟩
  refine ⟨_,rfl,_,hp3,ht.mono ?_⟩
  rintro _ W9 ⟨x10,rfl,ht2⟩
  refine ⟨_,rfl,ht2.mono ?_⟩
  rintro _ W10 ⟨x11,rfl,hf,e10⟩
  refine ⟨_,rfl,?_⟩
  rw [hf,br_false]
  obtain ⟨a5,l5,c5,h5c,hst⟩:=stored e10
  refine ⟨_,_,_,h5c,hst.mono ?_⟩
  rintro _ w16 ⟨rfl,hRR⟩
  refine ⟨_,rfl,br_ne (fun _=>hRR) fun h0=>?_⟩
  rw [br_false]
  rw [h0] at hRR
  exact hRR
def stem0 (c:Chip) (era:Nat):StemS:=⟨scanPool c,c,era,[],[],[],noPlace,0,-1,0⟩
theorem makeS_eq (c:Chip) (era:Nat):makeS c era=if c.dead then (stem0 c era,10) else if era=0 then (stem0 c era,2) else if (stem0 c era).good≠[] then (stem0 c era,2) else StemS.ended { stem0 c era with number:=greatestS c ((stem0 c era).own.map Taken.block) } noPlace 0:=rfl
theorem own0_blocks {c:Chip} (hok:c.Ok) (hd0:c.dead=false) (era:Nat):(stem0 c era).own.map Taken.block=treeBlocks c era:=by
 unfold StemS.own treeBlocks
 show ((takenPool (scanPool c) c).filter (ofKind 2 era)).map Taken.block=_
 rw [any_taken_ref hok hd0]
theorem blkI_nat (l:List Taken):blkI l=(l.map Taken.block).map Int.ofNat:=by
 unfold blkI
 rw [List.map_map]
 rfl
structure MadeAt (F X:Nat->Prop) (w w':World) (p:Nat) (r:StemS×Nat) (v:Value):Prop where
 upd:Upd F w w'
 res:(r.2=0/\∃ q M,v= .tuple #[.pointer (some ⟨q,0,none⟩),.int .i64 0]/\M.p=p/\w.heap.size<=q/\q<w'.heap.size/\StemIn (fun x=>F x\/(w.heap.size<=x/\x<q)) X w' q M r.1)\/(r.2≠0/\v= .tuple #[.pointer none,.int .i64 (r.2:Nat)]/\CX (fun x=>F x\/(w.heap.size<=x/\x<w'.heap.size)) X w' p r.1.chip)
theorem stem_Make_spec {F X:Nat->Prop} {w:World} {p:Nat} {c:Chip} (h:CX F X w p c) (hF:∀ x,F x->x<w.heap.size) (hX:∀ x,X x->x<w.heap.size) {era:Nat} (hera:era<4294967296) (hfew:Few c)
  (hr:c.dead=false->era≠0->(stem0 c era).Ready (c.hits.length+2)) (hnum:greatestS c (treeBlocks c era)+1<18446744073709551616) :
  CallsR prog K.stem_Make #[.pointer (some ⟨p,0,none⟩),.int .u32 era] w fun v w'=>MadeAt F X w w' p (makeS c era) v:=by
 have hok:=h.cin.ok
 obtain ⟨r,hr0⟩: ∃ r,r=makeS c era:=⟨_,rfl⟩
 rw [<- hr0]
 rw [makeS_eq] at hr0
 apply stem_Make.sh
 suffices H:∀ R:Value->World->Prop,(∀ v w',MadeAt F X w w' p r v->R v w')->stem_Make.body (some ⟨p,0,none⟩) era w R from H _ fun _ _ h=>h
 intro R hR
 unfold stem_Make.body
 have hn64:=hok.nb2
 refine (cxScan h).mono ?_
 rintro v w1 ⟨he1,hv⟩
 have hs1:=he1.size
 have refuse:∀ {u:World} {e:Nat},Ext w u->e≠0->r=(stem0 c era,e)->R (.tuple #[.pointer none,.int .i64 (e:Nat)]) u:=fun {u e} hu hne hre=>by
  refine hR _ _ ⟨Upd.ext hu,.inr ⟨by rw [hre];exact hne,by rw [hre],?_⟩⟩
  rw [hre]
  exact (h.ext hu).mono (fun x hx=>.inl hx) fun _ h=>h
 cases hd:c.dead with
 | true =>
  rw [hd,if_pos rfl] at hv hr0
  subst hv
  exact ⟨_,_,rfl,br_ne (fun _=>refuse he1 (by decide) hr0) fun h=>absurd h (by decide)⟩
 | false =>
  rw [hd,if_neg (by decide)] at hv hr0
  obtain ⟨M,hM,rfl,hP⟩:=hv
  refine ⟨_,_,rfl,br_ne (fun h=>absurd rfl h) fun _=>br_eq (fun h0=>?_) fun h0=>?_⟩
  .rw [if_pos (by omega)] at hr0
   exact refuse he1 (by decide) hr0
  rw [if_neg (by omega)] at hr0
  intro B1 w2 hn2
  have hB1:B1=w1.heap.size:=hn2.num
  have hs2:=hn2.size
  have e2:=he1.trans hn2.upd
  have hXB:¬ X B1:=fun hx=>by have:=hX _ hx;omega
  have hFB:¬ (F B1\/(w.heap.size<=B1/\B1<w1.heap.size)):=fun hx=>by
   rcases hx with hx | hx
   .have:=hF _ hx;omega
   .omega
  have h2:StemIn (fun x=>F x\/(w.heap.size<=x/\x<w1.heap.size)) X w2 B1 M (stem0 c era):=by
   refine ⟨⟨none,0,none,0,none,hn2.get,NoB,SliceAt.nil _ _ _,SliceAt.nil _ _ _,rfl,Nat.le_refl _,Nat.le_refl _,fun b hb=>hb.elim⟩,hP.ext hn2.upd,hFB,hXB,hera,⟨List.nodup_nil,fun x hx=>by cases hx⟩⟩
  have hfew':(takenPool (stem0 c era).pool (stem0 c era).chip).length<20:=by
   show (takenPool (scanPool c) c).length<20
   rw [any_taken_ref hok hd]
   exact hfew
  refine (stem_own_spec h2 hfew').mono ?_
  rintro _ w3 ⟨a3,c3,a4,c4,rfl,hl3,hl4,he3⟩
  have e3:=e2.trans he3
  have h3:=h2.ext he3
  refine ⟨_,_,_,_,_,_,rfl,br_dec (fun hpos=>?_) fun hno=>?_⟩
  .rw [if_pos (fun hg=>by
    have:(stem0 c era).good.length=((stem0 c era).own.filter fun t=> !t.bad).length:=by unfold StemS.good;rw [List.length_map]
    rw [hg] at this
    simp at this
    omega)] at hr0
   exact refuse e3 (by decide) hr0
  have hg0:(stem0 c era).good=[]:=by
   unfold StemS.good
   rw [List.map_eq_nil_iff]
   exact List.eq_nil_of_length_eq_zero (by omega)
  rw [if_neg (fun h=>h hg0)] at hr0
  have hob:=own0_blocks hok hd era
  rw [blkI_nat,hob] at hl3
  have hll:(stem0 c era).own.length=(treeBlocks c era).length:=by rw [<- hob,List.length_map]
  rw [hll]
  have hbl:=treeBlocks_len hok hd era
  have hch:CIn (fun x=>F x\/(w.heap.size<=x/\x<w1.heap.size)) 0 w3 p c:=by
   have:=h3.pool.pin.chip
   rw [hM] at this
   exact this
  have hgs:=stem_greatest_spec (ca:=c3) hch hd (treeBlocks_lt hok hd era) (by omega) hl3
  refine hgs.mono ?_
  .rintro _ w4 ⟨rfl,he4⟩
   have h4:=h3.ext he4
   have e4:=e3.trans he4
   refine ⟨_,rfl,?_⟩
   simp only [add_lit,Nat.zero_add]
   refine h4.store (t:={ stem0 c era with number:=greatestS c (treeBlocks c era) }) ⟨rfl,rfl,rfl,rfl,rfl,rfl⟩ (fun _ _ _ _ _=>rfl) (by simp) fun w5 hu5 h5=>?_
   have hs3:=he3.size
   have hs4:=he4.size
   have hs5:=hu5.size
   have hr1:=hr hd (by omega)
   have hrd:({ stem0 c era with number:=greatestS c (treeBlocks c era) }:StemS).Ready ({ stem0 c era with number:=greatestS c (treeBlocks c era) }:StemS).fuel:=⟨hr1.1,hr1.2,hr1.3,hr1.4,hr1.5,fun h=>absurd h (by show ¬ (0:Int)<=-1;decide),hr1.7⟩
   rw [hob] at hr0
   refine (stem_end_spec h5 (fun x hx=>by rcases hx with hx | hx;have:=hF x hx;omega;omega) (fun x hx=>by have:=hX x hx;omega) hrd hnum noPlace 0).mono ?_
   rintro _ w6 ⟨rfl,hu6,h6⟩
   rw [<- hr0] at h6 ⊢
   have e5:Ext w w5:=e4.beyond hu5 fun x hx=>by omega
   have hs6:=hu6.size
   have u6:Upd F w w6:=(Upd.ext e5).over hu6 fun x hx=>by
    rcases hx with (hx | hx) | hx
    .exact .inl hx
    .exact .inr hx.1
    .exact .inr (by omega)
   refine ⟨_,rfl,br_ne (fun hne=>?_) fun h00=>?_⟩
   .refine hR _ _ ⟨u6,.inr ⟨by omega,rfl,?_⟩⟩
    have:=h6.pool.chip
    rw [hM] at this
    exact this.mono (fun x hx=>by rcases hx with hx | hx;exact .inl hx;exact .inr ⟨hx.1,by omega⟩) fun _ h=>h
   .refine hR _ _ ⟨u6,.inl ⟨by omega,B1,M,rfl,hM,by omega,by omega,?_⟩⟩
    rw [hB1]
    rw [hB1] at h6
    exact h6
section
set_option maxRecDepth 100000
def c19:Chip:=newChip 24 8 128 0
def m19:StemS×Nat:=makeS c19 3
def cs19:List Change:=[⟨⟨1,1,ByteArray.empty,0⟩,[5],false⟩]
def p19:StemS×Nat:=m19.1.put cs19
def y19:StemS×Nat:=p19.1.syncC
def lives19a:Bool:=decide (m19.2=0) && decide ((refTaken c19).length<20) && decide ((refTaken m19.1.chip).length<20) && decide ((walkedR m19.1.chip 3).2=0) && decide ((factsR (walkedR m19.1.chip 3)).length=0)
def lives19b:Bool:=decide (p19.2=0) && !p19.1.scarce && decide (p19.1.page<=8) && decide (p19.1.missing p19.1.facts<=70000) && decide (p19.1.facts.length=1) && p19.1.facts.all (fun f=>mayF f && decide (leafLen f<=122)) && decide (p19.1.number<=10)
def lives19c:Bool:=decide (y19.2=0) && decide ((refTaken y19.1.chip).length<20) && decide ((walkedR y19.1.chip 3).2=0) && decide ((factsR (walkedR y19.1.chip 3)).length=1) && decide ((newestR y19.1.chip 4).2≠0) && !y19.1.chip.dead
theorem lives19a_true:lives19a=true:=by decide +kernel
theorem lives19b_true:lives19b=true:=by decide +kernel
theorem lives19c_true:lives19c=true:=by decide +kernel
end
end Go.Den
namespace Go.Den
namespace StemS
structure Ended (s:StemS) (k:Nat) (r:StemS×Nat):Prop where
 facts:r.1.facts=s.facts
 synced:r.1.synced=s.synced
 pages:r.1.pages=s.pages
 era:r.1.era=s.era
 geo:s.chip.SameGeo r.1.chip
 hits:r.1.chip.hits.length<=s.chip.hits.length
 number:r.1.number=s.number+1
 ok:r.2=0->r.1.Ready k
theorem ended_ok {s:StemS} {k:Nat} (h:s.Ready (k+s.fuel)) (top:Place) (count:Nat):Ended s k (s.ended top count):=by
 have hpz:=@putPoint_zero (s.chip.sz:Nat) ⟨s.number+1,top.block,top.page,count⟩
 unfold ended
 simp only
 generalize putPoint (s.chip.sz:Nat) ⟨s.number+1,top.block,top.page,count⟩= p at *
 by_cases h0:p.2=0
 .rw [if_neg (by omega)]
  have hu:({ s with number:=s.number+1 }:StemS).Ready (k+({ s with number:=s.number+1 }:StemS).fuel):=⟨h.1,h.2,h.3,h.4,h.5,fun h1=>by
   obtain ⟨i,o⟩:=h.open_ h1
   exact ⟨i,o.1,o.2,o.3,o.4,o.5,o.6,o.7,o.8⟩,h.7⟩
  have wr:=write_ok (b:=p.1) _ hu (fuel_left _) (by have:=hpz h0;simpa using this)
  generalize ({ s with number:=s.number+1 }:StemS).write p.1 ({ s with number:=s.number+1 }:StemS).fuel=r at *
  have al:=wr.alike
  by_cases h1:r.2.2=0
  .rw [if_pos h1]
   have hr:=(wr.ok h1).1
   exact ⟨al.1,al.2,al.3,al.6,al.7,al.8,al.5,fun _=>⟨hr.1,hr.2,hr.3,hr.4,hr.5,fun h1=>by
    obtain ⟨i,o⟩:=hr.open_ h1
    exact ⟨i,o.1,o.2,o.3,o.4,o.5,o.6,o.7,o.8⟩,hr.7⟩⟩
  .rw [if_neg h1]
   exact ⟨al.1,al.2,al.3,al.6,al.7,al.8,al.5,fun h=>absurd h h1⟩
 .rw [if_pos h0]
  exact ⟨rfl,rfl,rfl,rfl,Chip.SameGeo.refl _,Nat.le_refl _,rfl,fun h=>absurd h h0⟩
theorem put_keeps (s:StemS) (cs:List Change):(s.put cs).1.chip=s.chip/\(s.put cs).1.pool=s.pool/\(s.put cs).1.synced=s.synced/\(s.put cs).1.pages=s.pages/\(s.put cs).1.number=s.number/\(∀ n,s.Ready n->(s.put cs).1.Ready n):=by
 unfold put
 split
 .exact ⟨rfl,rfl,rfl,rfl,rfl,fun _ h=>h⟩
 .split
  .exact ⟨rfl,rfl,rfl,rfl,rfl,fun _ h=>h⟩
  .refine ⟨rfl,rfl,rfl,rfl,rfl,fun n hr=>⟨hr.1,hr.2,hr.3,hr.4,hr.5,fun h1=>?_,hr.7⟩⟩
   obtain ⟨i,o⟩:=hr.open_ h1
   exact ⟨i,o.1,o.2,o.3,o.4,o.5,o.6,o.7,o.8⟩
end StemS
theorem fresh_ready {nb np sz sp:Nat} (nb1:8<=nb) (nb2:nb<=64) (np1:4<=np) (np2:np<=32) (sz1:128<=sz) (sz2:sz<=256) {era n:Nat} (h1:1<=era) (h2:era<4294967296) (hn:n<=1000000000):(stem0 (newChip nb np sz sp) era).Ready n:=by
 obtain ⟨hci,hno⟩:=new_ci (sp:=sp) nb1 nb2 np1 np2 sz1 sz2 (newChip nb np sz sp) rfl
 have hl:=(scan_inv hci rfl).2 0 fun i hi hh=>absurd hh (hno i hi)
 refine ⟨(scan_inv hci rfl).1,rfl,?_,h1,h2,fun h=>absurd h (by show ¬ (0:Int)<=-1;decide),by show (0:Nat) < _;decide⟩
 show (scanPool (newChip nb np sz sp)).last+nb * n < _
 have:nb * n<=64 * n:=Nat.mul_le_mul_right _ nb2
 omega
structure Made19 (s:StemS):Prop where
 facts:s.facts=[]
 synced:s.synced=[]
 pages:s.pages=[]
 geo:c19.SameGeo s.chip
 hits:s.chip.hits.length<=0
 ready:s.Ready 10
theorem made19:Made19 m19.1/\greatestS c19 (treeBlocks c19 3)+1=m19.1.number:=by
 have hM:=lives19a_true
 unfold lives19a at hM
 simp only [Bool.and_eq_true,decide_eq_true_eq] at hM
 obtain ⟨⟨⟨⟨m0,_⟩,_⟩,_⟩,_⟩:=hM
 have hok:c19.Ok:=(new_ci (sp:=0) (nb:=24) (np:=8) (sz:=128) (by decide) (by decide) (by decide) (by decide) (by decide) (by decide) c19 rfl).1.ok
 have hob:=own0_blocks hok rfl 3
 have he:m19=makeS c19 3:=rfl
 rw [makeS_eq,if_neg (by decide),if_neg (by decide)] at he
 have hr:(stem0 c19 3).Ready 12:=fresh_ready (by decide) (by decide) (by decide) (by decide) (by decide) (by decide) (by decide) (by decide) (by decide)
 have hh:(stem0 c19 3).chip.hits.length=0:=rfl
 have hf:(stem0 c19 3).facts=[]/\(stem0 c19 3).synced=[]/\(stem0 c19 3).pages=[]/\(stem0 c19 3).block= -1/\(stem0 c19 3).chip=c19:=⟨rfl,rfl,rfl,rfl,rfl⟩
 rw [hob] at he
 generalize greatestS c19 (treeBlocks c19 3)=g at *
 generalize m19=m at *
 generalize stem0 c19 3=s at *
 by_cases hg:s.good≠[]
 .rw [if_pos hg] at he
  rw [he] at m0
  cases m0
 rw [if_neg hg] at he
 have hfu:({ s with number:=g }:StemS).fuel=2:=by
  show s.chip.hits.length+2=2
  omega
 have hr':({ s with number:=g }:StemS).Ready (10+({ s with number:=g }:StemS).fuel):=by
  rw [hfu]
  exact ⟨hr.1,hr.2,hr.3,hr.4,hr.5,fun h1=>absurd h1 (by show ¬ (0:Int)<=s.block;rw [hf.2.2.2.1];decide),hr.7⟩
 have e:=StemS.ended_ok hr' noPlace 0
 rw [<- he] at e
 refine ⟨⟨e.facts.trans hf.1,e.synced.trans hf.2.1,e.pages.trans hf.2.2.1,by have:=e.geo;rw [<- hf.2.2.2.2];exact this,by have:=e.hits;rw [<- hh];exact this,e.ok m0⟩,e.number.symm⟩
end Go.Den
namespace Go.Den
section
section
variable {F X:Nat->Prop} {w w':World} {q:Nat} {M:PLoc} {s:LogS}
end
end
def LogS.new (c:Chip) (era:Nat):LogS:=⟨scanPool c,c,era,[],-1,0⟩
def makeL (c:Chip) (era:Nat):LogS×Nat :=
 if c.dead=true then (.new c era,10) else if era=0 then (.new c era,2)
 else if ((ownL era (takenPool (scanPool c) c)).any fun t=> !t.bad)=true then (.new c era,2) else (LogS.new c era).anew
section
set_option maxRecDepth 100000
def l14 (era:Nat):LogS×Nat:=makeL (newChip 16 8 128 0) era
end
abbrev Fr (w w':World):Nat->Prop:=fun x=>w.heap.size<=x/\x<w'.heap.size
theorem cxNew (w:World) {nb np sz sp:Nat} (nb1:8<=nb) (nb2:nb<=64) (np1:4<=np) (np2:np<=32) (sz1:128<=sz) (sz2:sz<=256) (sp2:sp<=4) :
  CallsR prog K.nand_New #[.agg #[.int .i64 nb,.int .i64 np,.int .i64 sz,.int .i64 sp]] w fun v w'=>Ext w w'/\∃ p,v= .tuple #[.pointer (some ⟨p,0,none⟩),.int .i64 0]/\CX (Fr w w') (Fr w w') w' p (newChip nb np sz sp):=by
 refine (nand_New_spec w nb1 nb2 np1 np2 sz1 sz2 sp2).mono ?_
 rintro v w' ⟨he,p,rfl,L,G,hc,h1,h2,h3⟩
 exact ⟨he,p,rfl,L,G,hc,h1,fun x hx=>⟨h2 x hx,(h2 x hx).2⟩⟩
def Num (acc:Option Spot):Prop:=∀ y,acc=some y->1<=y.1.number
theorem newerS_ge {acc:Option Spot} (h:Num acc) {x:Spot} (hx:1<=x.1.number):newerS acc x=(if x.1.number≥(accP acc).number then some x else acc)/\Num (newerS acc x):=by
 cases acc with
 | none =>
  refine ⟨?_,fun y hy=>by cases hy;exact hx⟩
  rw [if_pos (show x.1.number≥(accP none).number from Nat.zero_le _)];rfl
 | some y =>
  have hy:=h y rfl
  refine ⟨?_,fun z hz=>?_⟩
  .show (if y.1.number > x.1.number then some y else some x)=if x.1.number≥y.1.number then some x else some y
   by_cases hgt:y.1.number > x.1.number
   .rw [if_pos hgt,if_neg (by omega)]
   .rw [if_neg hgt,if_pos (by omega)]
  .have hz':(if y.1.number > x.1.number then some y else some x)=some z:=hz
   split at hz'
   .cases hz';exact hy
   .cases hz';exact hx
theorem Num.zero {acc:Option Spot} (h:Num acc):(accP acc).number=0 ↔ acc=none:=by
 cases acc with
 | none=>exact ⟨fun _=>rfl,fun _=>rfl⟩
 | some y=>exact ⟨fun e=>by have:=h y rfl;have e':y.1.number=0:=e;omega,fun e=>by cases e⟩
theorem carrackref18_Newest_spec {F:Nat->Prop} {A:Nat} {w:World} {p:Nat} {c:Chip} (h:CIn F A w p c) (hd0:c.dead=false) (era:Nat) :
  CallsR prog K.carrackref18_Newest #[.pointer (some ⟨p,0,none⟩),.int .u32 era] w fun v w'=>v=newestV (newestR c era)/\Ext w w':=by
 apply carrackref18_Newest.sh
 suffices H:∀ R:Value->World->Prop,(∀ v w',v=newestV (newestR c era)/\Ext w w'->R v w')->carrackref18_Newest.body (some ⟨p,0,none⟩) era w R from H _ fun _ _ h=>h
 intro R hR
 unfold carrackref18_Newest.body
 intro B1 w1 hn1
 have hB1:=hn1.num
 have hs1:=hn1.size
 have g1:w1.heap[B1]?=some (.cells (Point.vals Point.zero).toArray T.api_Point (0,0)):=hn1.get
 unfold newestR at hR
 refine br_eq (fun h0=>?_) fun h0=>?_
 .have ha:askErr c era=2:=by unfold askErr;rw [hd0,if_neg (by decide),if_pos (by omega)]
  rw [ha,if_pos (by decide)] at hR
  exact new_out (p:=Point.zero) (x:=0) (y:=0) g1 rfl fun u' hu=>hR _ _ ⟨rfl,hn1.upd.beyond hu fun x hx=>by omega⟩
 have he0:askErr c era=0:=by unfold askErr;rw [hd0,if_neg (by decide),if_neg (by omega)]
 rw [if_neg (by omega)] at hR
 refine (carrackref18_Blocks_spec (h.ext hn1.upd) hd0 era).mono ?_
 rintro _ w2 ⟨a2,c2,rfl,hl2,he2⟩
 have e2:=hn1.upd.trans he2
 have hs2:=he2.size
 have hlt:=treeBlocks_lt h.ok hd0 era
 have hlen:=treeBlocks_len h.ok hd0 era
 have hlenI:(blocksI c era).length=(treeBlocks c era).length:=by simp [blocksI]
 have hget:∀ i (hi:i<(treeBlocks c era).length) (hi2:i<(blocksI c era).length),(blocksI c era)[i]=((treeBlocks c era)[i]:Nat):=fun i hi hi2=>blocksI_get hi2
 have hnew:newestS c era=((treeBlocks c era).flatMap fun b=>spotsB c b c.np).foldl newerS none:=rfl
 rw [hnew] at hR
 clear hnew
 generalize treeBlocks c era=L at *
 generalize blocksI c era=LI at *
 have hnp:=h.ok.np1
 have hnp2:=h.ok.np2
 have hnb2:=h.ok.nb2
 refine ⟨_,_,_,rfl,fun B2 w3 hn3=>?_⟩
 have hB2:=hn3.num
 have hs3:=hn3.size
 have e3:=e2.trans hn3.upd
 have g31:=Ext.get hn3.upd (Ext.get he2 g1)
 have g3:w3.heap[B2]?=some (.cells (Point.vals (accP none)).toArray T.api_Point (0,0)):=hn3.get
 refine ⟨fun x6 x7 x8 u=>∃ i:Nat,x8=i/\i<=L.length/\∃ acc:Option Spot,acc=((L.take i).flatMap fun b=>spotsB c b c.np).foldl newerS none/\Num acc/\x6=(accB acc:Nat)/\x7=(accK acc:Nat)/\u.heap[B2]?=some (.cells (Point.vals (accP acc)).toArray T.api_Point (0,0))/\Upd (·=B2) w3 u,fun _ _ x8 _=>((L.length:Int) - x8).toNat,
  ⟨0,rfl,by omega,none,rfl,(fun _ h=>by cases h),rfl,rfl,g3,Upd.refl _ _⟩,?_⟩
 rintro x6 x7 x8 u ⟨i,rfl,hi,acc,hacc,hnum,rfl,rfl,gu,hu⟩
 have hli:∀ {v:World},Upd (·=B2) w3 v->RowAt v a2 (LI.flatMap fun x:Int=>[Value.int .i64 x]):=fun hv=>by
  have:IList w1.heap.size _ a2 c2 LI:=⟨(hl2.ext hn3.upd).1.upd hv fun b hb hx=>by have:=(hl2.1.blk hb);omega,hl2.2⟩
  have:=this.1.row
  simpa [<- List.map_eq_flatMap] using this
 have hext:∀ {v:World},Upd (·=B2) w3 v->Ext w v:=fun hv=>e3.beyond hv fun x hx=>by omega
 refine br_dec (fun hlt'=>?_) fun hge=>?_
 .have hi':i<L.length:=by omega
  have ew:i64.wrap ((i:Int)+1)=((i+1:Nat):Int):=w64 (by omega) (by omega)
  simp only [ew]
  have hbi:=hlt _ (List.getElem_mem hi')
  have hfl:=flat_step c hi'
  rw [<- hacc] at hfl
  refine ⟨fun x6 x7 x8 u=>∃ k:Nat,x8=k/\1<=k/\k<=c.np/\∃ ac2:Option Spot,ac2=(spotsB c L[i] k).foldl newerS acc/\Num ac2/\x6=(accB ac2:Nat)/\x7=(accK ac2:Nat)/\u.heap[B2]?=some (.cells (Point.vals (accP ac2)).toArray T.api_Point (0,0))/\Upd (·=B2) w3 u,fun _ _ x8 _=>((c.np:Int) - x8).toNat,
   ⟨1,rfl,by omega,by omega,acc,rfl,hnum,rfl,rfl,gu,hu⟩,?_⟩
  rintro x10 x11 x12 v ⟨k,rfl,hk1,hk,ac2,hac,hnum2,rfl,rfl,gv,hv⟩
  refine (cGeo (h.ext (hext hv))).mono ?_
  rintro _ v1 ⟨rfl,hev1⟩
  have hv1:=hv.then hev1
  have gv1:=Ext.get hev1 gv
  refine ⟨_,_,_,_,rfl,br_dec (fun hkn=>?_) fun hkn=>?_⟩
  .have hk':k<c.np:=by omega
   have ewk:i64.wrap ((k:Int)+1)=((k+1:Nat):Int):=w64 (by omega) (by omega)
   simp only [ewk]
   have hfs:=fold_step c L[i] hk1 acc
   rw [<- hac] at hfs
   refine idx_flat (k:=1) (f:=fun x:Int=>[Value.int .i64 x]) (fun _=>rfl) (by omega) (l:=LI) (hli hv1) rfl (by omega) fun b o hab hr=>⟨_,(by have:=hr.cells;exact this.1),?_⟩
   rw [hget i hi' (by omega)]
   refine (cPage (h.ext (hext hv1)) hd0 hbi hk').mono ?_
   rintro _ v2 ⟨hev2,a3,c3,rfl,hb3,hc3,hf3⟩
   refine ⟨_,_,_,_,rfl,(carrackref02_Get_spec hb3 hc3).mono ?_⟩
   rintro _ v3 ⟨hev3,a4,c4,rfl,hb4,hc4⟩
   have hsm:=page_small h.ok hbi hk'
   have hv3:=(hv1.then hev2).then hev3
   have gv3:=Ext.get hev3 (Ext.get hev2 gv1)
   have same:∀ {v':World},Ext v3 v'->(spotsB c L[i] (k+1)).foldl newerS acc=ac2->(∃ k':Nat,((k+1:Nat):Int)=k'/\1<=k'/\k'<=c.np/\∃ ac3:Option Spot,ac3=(spotsB c L[i] k').foldl newerS acc/\Num ac3/\((accB ac2:Nat):Int)=(accB ac3:Nat)/\((accK ac2:Nat):Int)=(accK ac3:Nat)/\v'.heap[B2]?=some (.cells (Point.vals (accP ac3)).toArray T.api_Point (0,0))/\Upd (·=B2) w3 v')/\((c.np:Int) - ((k+1:Nat):Int)).toNat<((c.np:Int) - (k:Int)).toNat:=fun hev' hno=>⟨⟨k+1,rfl,by omega,by omega,ac2,by rw [hno],hnum2,rfl,rfl,Ext.get hev' gv3,hv3.then hev'⟩,meas hk'⟩
   refine ⟨_,_,_,_,_,rfl,br_ne (fun hne=>same (Upd.refl _ _) (by rw [hfs,pointAt_none1 (by omega)])) fun hz=>br_ne (fun hne=>same (Upd.refl _ _) (by rw [hfs,pointAt_none2 fun e=>hne (by rw [e];rfl)])) fun hk6=>?_⟩
   have hp6:(getPage (c.page L[i] k)).1=6:=(u8i _ 6 (by omega)).1 hk6
   refine (carrackref17_Get_spec (c:=c4) hb4 (by omega) hc4).mono ?_
   rintro _ v4 ⟨rfl,hev4⟩
   refine ⟨_,_,_,_,_,rfl,new_put (vs:=Point.vals (getPoint (getPage (c.page L[i] k)).2.1).1) rfl fun B3 v5 hb5 hs5 hev5 g5=>br_eq (fun hz0=>?_) fun hne=>same (hev4.trans hev5) (by rw [hfs,pointAt_none3 (by omega)])⟩
   have hsome:=pointAt_some (c:=c) (b:=L[i]) (k:=k) (by omega) hp6 (by omega)
   have ev5:=hev4.trans hev5
   have hv5:=hv3.then ev5
   have gv5:=Ext.get ev5 gv3
   have hpn:=pointAt_number hsome
   rw [hsome] at hfs
   have hsv3:=hv3.size
   have hev4s:=hev4.size
   have hnw:=newerS_ge hnum2 (x:=((getPoint (getPage (c.page L[i] k)).2.1).1,L[i],k)) hpn
   refine ⟨_,cell_of g5 rfl,_,cell_of gv5 rfl,br_dec (fun hge=>?_) fun hlt2=>?_⟩
   .have hnw1:=hnw.1
    rw [if_pos (show (getPoint (getPage (c.page L[i] k)).2.1).1.number≥(accP ac2).number by omega)] at hnw1
    intro v6 hd6
    have hev6:=hd6.upd
    have hv6:=hv5.then hev6
    refine ⟨fun u=>Upd (·=B2) w3 u/\Upd (·=B2) v6 u,⟨hv6,Upd.refl _ _⟩,_,_,_,_,fun u1 hu1=>cells_all (hu1.2.get (Ext.get hev6 g5) (by omega)),?_⟩
    obtain ⟨b0,o0,hab0⟩: ∃ b0 o0,a2=some ⟨b0,o0,none⟩:=by
     obtain ⟨b0,o0,h1,_⟩:=RowAt.blk (hli hv6) (by
      intro e
      have:=congrArg List.length e
      rw [flat_len (k:=1) (fun _=>rfl),List.length_nil] at this
      omega)
     exact ⟨b0,o0,h1⟩
    refine ⟨by omega,by omega,?_⟩
    subst hab0
    simp only [nilC_some',add_lit]
    refine ⟨(L[i]:Nat),fun u2 hu2=>?_,?_⟩
    .have hr2:=hli hu2.1
     have hc:=row_cell hr2 (j:=i) (v:=.int .i64 (L[i]:Nat)) (by
      rw [<- List.map_eq_flatMap,List.getElem?_map,List.getElem?_eq_getElem (by omega),hget i hi' (by omega)];rfl)
     simpa using hc
    .refine put_all (vs:=Point.vals (getPoint (getPage (c.page L[i] k)).2.1).1) (Ext.get hev6 gv5) rfl fun v7 hu7 hs7 g7=>⟨⟨hv6.trans hu7,hu7⟩,⟨k+1,rfl,by omega,by omega,some ((getPoint (getPage (c.page L[i] k)).2.1).1,L[i],k),?_,?_,rfl,rfl,g7,hv6.trans hu7⟩,meas hk'⟩
     .rw [hfs];exact hnw1.symm
     .rw [<- hnw1];exact hnw.2
   .have hnw1:=hnw.1
    rw [if_neg (show ¬ (getPoint (getPage (c.page L[i] k)).2.1).1.number≥(accP ac2).number by omega)] at hnw1
    exact same ev5 (by rw [hfs];exact hnw1)
  .have hkk:k=c.np:=by omega
   subst hkk
   exact ⟨⟨i+1,rfl,hi',ac2,by rw [hac,hfl],hnum2,rfl,rfl,gv1,hv1⟩,meas hi'⟩
 .have hii:i=L.length:=by omega
  subst hii
  rw [List.take_length] at hacc
  rw [<- hacc] at hR
  have hz:=hnum.zero
  have g1u:=hu.get g31 (by omega)
  refine ⟨_,cell_of gu rfl,br_eq (fun h0=>?_) fun h0=>?_⟩
  .obtain rfl:=hz.1 (by omega)
   exact new_out (p:=Point.zero) (x:=0) (y:=0) (e:=12) g1u rfl fun u' hu'=>hR _ _ ⟨rfl,(hext hu).beyond hu' fun x hx=>by omega⟩
  .cases acc with
   | none=>exact absurd rfl h0
   | some y=>exact ⟨_,_,_,_,cells_all gu,new_out (p:=y.1) (e:=0) g1u rfl fun u' hu'=>hR _ _ ⟨rfl,(hext hu).beyond hu' fun x hx=>by omega⟩⟩
abbrev TLoc.rcells (L:TLoc) (ap:Option Addr) (np cp:Nat) (af:Option Addr) (nf cf:Nat) (d:Nat):List Value:=[.pointer (some ⟨L.p,0,none⟩),.slice L.ab L.bs.length L.cb,.slice ap np cp,.slice af nf cf,.int .i64 (d:Nat)]
structure RSep (L:TLoc) (O U:Nat->Prop) (w:World) (ap af:Option Addr) (G:Nat->Prop):Prop where
 ob:O L.b
 op:∀ x,ap=some ⟨x,0,none⟩->O x/\x≠L.b
 of_:∀ x,af=some ⟨x,0,none⟩->O x/\x≠L.b/\ap≠some ⟨x,0,none⟩
 go:∀ x,G x->U x/\¬ O x
 ou:∀ x,O x->U x
 lt:∀ x,U x->x<w.heap.size
def RTreeIn (L:TLoc) (O U:Nat->Prop) (w:World) (t:TreeS):Prop:=∃ ap cp af cf G,
 w.heap[L.b]?=some (.cells (L.rcells ap t.pages.length cp af t.facts.length cf t.depth).toArray T.carrackref18_Tree (0,0))/\
 OwnAt w ap t.pages.length cp T.api_Place 2 (t.pages.flatMap Place.vals)/\OwnS factR w G af cf T.api_Fact t.facts/\RSep L O U w ap af G
theorem RSep.size {L:TLoc} {O U:Nat->Prop} {w w':World} {ap af:Option Addr} {G:Nat->Prop} (h:RSep L O U w ap af G) (hs:w.heap.size<=w'.heap.size):RSep L O U w' ap af G :=
 ⟨h.ob,h.op,h.of_,h.go,h.ou,fun x hx=>Nat.lt_of_lt_of_le (h.lt x hx) hs⟩
theorem RTreeIn.upd {L:TLoc} {O U:Nat->Prop} {w w':World} {t:TreeS} {F:Nat->Prop} (h:RTreeIn L O U w t) (k:Upd F w w') (hF:∀ x,F x->¬ U x):RTreeIn L O U w' t:=by
 obtain ⟨ap,cp,af,cf,G,h1,h2,h3,h6⟩:=h
 exact ⟨ap,cp,af,cf,G,k.get h1 fun hf=>hF _ hf (h6.ou _ h6.ob),h2.upd k fun b hb hf=>hF _ hf (h6.ou _ (h6.op b hb).1),h3.upd k (fun b hb hf=>hF _ hf (h6.go b hb).1) fun b hb hf=>hF _ hf (h6.ou _ (h6.of_ b hb).1),h6.size k.size⟩
theorem RTreeIn.ext {L:TLoc} {O U:Nat->Prop} {w w':World} {t:TreeS} (h:RTreeIn L O U w t) (k:Ext w w'):RTreeIn L O U w' t:=h.upd k fun _ h=>h.elim
theorem RTreeIn.lt {L:TLoc} {O U:Nat->Prop} {w:World} {t:TreeS} (h:RTreeIn L O U w t):∀ x,U x->x<w.heap.size:=by
 obtain ⟨_,_,_,_,_,_,_,_,h6⟩:=h
 exact h6.lt
theorem RTreeIn.ou {L:TLoc} {O U:Nat->Prop} {w:World} {t:TreeS} (h:RTreeIn L O U w t):∀ x,O x->U x:=by
 obtain ⟨_,_,_,_,_,_,_,_,h6⟩:=h
 exact h6.ou
def RGrown (L:TLoc) (O U:Nat->Prop) (w w':World) (t:TreeS):Prop:=∃ O' U',RTreeIn L O' U' w' t/\(∀ x,O' x->O x\/w.heap.size<=x)/\∀ x,U' x->U x\/w.heap.size<=x
theorem has_spec {w:World} {b:Nat} {v0:Value} {rest:List Value} {a:Option Addr} {c:Nat} {l:List Int} (g:w.heap[b]?=some (.cells (v0 :: .slice a l.length c :: rest).toArray T.carrackref18_Tree (0,0))) (h:RowAt w a (l.map (Value.int .i64))) (hn:l.length<1000000) (x:Int) :
  CallsR prog K.carrackref18_Tree_has #[.pointer (some ⟨b,0,none⟩),.int .i64 x] w fun v w'=>w'=w/\v= .bool (decide (x∈l)):=by
 apply carrackref18_Tree_has.sh
 unfold carrackref18_Tree_has.body
 simp only [nilC_some',add_lit,Nat.zero_add]
 refine ⟨fun y u=>u=w/\∃ i:Nat,y=i/\i<=l.length/\x ∉ l.take i,fun y _=>((l.length:Int) - y).toNat,⟨rfl,0,rfl,by omega,by simp⟩,?_⟩
 rintro y u ⟨rfl,i,rfl,hi,hno⟩
 refine ⟨_,_,_,cell_of g rfl,br_dec (fun hlt=>⟨_,_,_,cell_of g rfl,?_⟩) fun hge=>?_⟩
 .have hi':i<l.length:=by omega
  have ew:i64.wrap ((i:Int)+1)=((i+1:Nat):Int):=w64 (by omega) (by omega)
  rw [ew]
  refine idx_flat (k:=1) (f:=fun x:Int=>[Value.int .i64 x]) (fun _=>rfl) (by omega) (l:=l) (by simpa [<- List.map_eq_flatMap] using h) rfl hi' fun b o hab hr=>⟨_,(by have:=hr.cells;exact this.1),br_eq (fun he=>?_) fun hne=>?_⟩
  .exact ⟨rfl,by rw [decide_eq_true];exact he ▸ List.getElem_mem hi'⟩
  .refine ⟨⟨rfl,i+1,rfl,hi',?_⟩,meas hi'⟩
   rw [List.take_succ_eq_append_getElem hi']
   intro hx
   rcases List.mem_append.1 hx with hx | hx
   .exact hno hx
   .exact hne (List.mem_singleton.1 hx).symm
 .have hii:i=l.length:=by omega
  subst hii
  rw [List.take_length] at hno
  exact ⟨rfl,by rw [decide_eq_false hno]⟩
theorem place_beq (a b:Place):((a.block == b.block) && ((a.page == b.page) && true))=decide (a=b):=by
 obtain ⟨x,y⟩:=a
 obtain ⟨z,u⟩:=b
 by_cases h1:x=z<;>by_cases h2:y=u<;>simp [h1,h2]
theorem met_spec {w:World} {b:Nat} {v0 v1:Value} {rest:List Value} {a:Option Addr} {c:Nat} {l:List Place} (g:w.heap[b]?=some (.cells (v0 :: v1 :: .slice a l.length c :: rest).toArray T.carrackref18_Tree (0,0))) (h:RowAt w a (l.flatMap Place.vals)) (hn:l.length<1000000) (p:Place) :
  CallsR prog K.carrackref18_Tree_met #[.pointer (some ⟨b,0,none⟩),placeV p] w fun v w'=>Ext w w'/\v= .bool (decide (p∈l)):=by
 apply carrackref18_Tree_met.sh
 unfold carrackref18_Tree_met.body
 simp only [nilC_some',add_lit,Nat.zero_add]
 intro B1 w1 hn1
 refine ⟨fun y u=>Ext w1 u/\∃ i:Nat,y=i/\i<=l.length/\p ∉ l.take i,fun y _=>((l.length:Int) - y).toNat,⟨Upd.refl _ _,0,rfl,by omega,by simp⟩,?_⟩
 rintro y u ⟨heu,i,rfl,hi,hno⟩
 have e1:=hn1.upd.trans heu
 refine ⟨_,_,_,cell_of (Ext.get e1 g) rfl,br_dec (fun hlt u3 hd3=>?_) fun hge=>?_⟩
 .have hi':i<l.length:=by omega
  have ew:i64.wrap ((i:Int)+1)=((i+1:Nat):Int):=w64 (by omega) (by omega)
  rw [ew]
  have he3:=hd3.upd
  have e3:=e1.trans he3
  refine ⟨fun u'=>Ext u3 u',Upd.refl _ _,_,_,_,fun u' hu'=>cell_of (Ext.get (e3.trans hu') g) rfl,?_⟩
  refine idx_flat (k:=2) (f:=Place.vals) (fun _=>rfl) (by omega) (l:=l) (h.ext e3) rfl hi' fun b o hab hr=>⟨_,_,fun u' hu'=>(RowAt.ext hr hu').cells,_,_,fun u' hu'=>cells_all (Ext.get ((heu.trans he3).trans hu') hn1.get),?_⟩
  rw [place_beq]
  refine br_dec (fun he=>⟨e3,by rw [decide_eq_true];exact he ▸ List.getElem_mem hi'⟩) fun hne=>⟨⟨heu.trans he3,i+1,rfl,hi',?_⟩,meas hi'⟩
  rw [List.take_succ_eq_append_getElem hi']
  intro hx
  rcases List.mem_append.1 hx with hx | hx
  .exact hno hx
  .exact hne (List.mem_singleton.1 hx).symm
 .have hii:i=l.length:=by omega
  subst hii
  rw [List.take_length] at hno
  exact ⟨e1,by rw [decide_eq_false hno]⟩
theorem rtree_page {L:TLoc} {O U:Nat->Prop} {w w2 w3 w4:World} {t:TreeS} {p:Place} {ap a':Option Addr} {c':Nat} {af:Option Addr} {cf:Nat} {G:Nat->Prop}
  (q3:OwnS factR w G af cf T.api_Fact t.facts) (q6:RSep L O U w ap af G) (he2:Ext w w2) (hu3:Upd (fun b=>ap=some ⟨b,0,none⟩) w2 w3)
  (ho3:OwnAt w3 a' (t.pages ++ [p]).length c' T.api_Place 2 ((t.pages ++ [p]).flatMap Place.vals)) (hf3:a'=ap\/∃ b,a'=some ⟨b,0,none⟩/\w2.heap.size<=b)
  (hu4:Upd (·=L.b) w3 w4) (g4:w4.heap[L.b]?=some (.cells (L.rcells a' (t.pages ++ [p]).length c' af t.facts.length cf t.depth).toArray T.carrackref18_Tree (0,0))) :
  ∃ O' U',RTreeIn L O' U' w4 { t with pages:=t.pages ++ [p] }/\(∀ x,O x->O' x)/\(∀ x,U x->U' x)/\(∀ x,O' x->O x\/w2.heap.size<=x)/\(∀ x,U' x->U x\/w2.heap.size<=x)/\Upd O w w4:=by
 have hs2:=he2.size
 have hs3:=hu3.size
 have hs4:=hu4.size
 have hlt:=q6.lt
 have hbU:=q6.ou _ q6.ob
 have hbl:=hlt _ hbU
 have hal:∀ z,a'=some ⟨z,0,none⟩->z<w3.heap.size:=fun z hz=>ho3.blk hz
 refine ⟨fun z=>O z\/a'=some ⟨z,0,none⟩,fun z=>U z\/a'=some ⟨z,0,none⟩,⟨a',c',af,cf,G,g4,?_,?_,?_⟩,fun x hx=>.inl hx,fun x hx=>.inl hx,?_,?_,?_⟩
 .refine ho3.upd hu4 fun z hz e=>?_
  rcases hf3 with hf | ⟨z',hz',hl⟩
  .subst hf;exact (q6.op z hz).2 e
  .rw [hz'] at hz;cases hz;omega
 .exact ((q3.ext he2).upd hu3 (fun z hz e=>(q6.go z hz).2 (q6.op z e).1) fun z hz e=>(q6.of_ z hz).2.2 e).upd hu4 (fun z hz e=>(q6.go z hz).2 (e ▸ q6.ob)) fun z hz e=>(q6.of_ z hz).2.1 e
 .refine ⟨.inl q6.ob,fun z hz=>⟨.inr hz,?_⟩,fun z hz=>⟨.inl (q6.of_ z hz).1,(q6.of_ z hz).2.1,fun e=>?_⟩,fun z hz=>⟨.inl (q6.go z hz).1,fun ho=>?_⟩,fun z hz=>?_,fun z hz=>?_⟩
  .rcases hf3 with hf | ⟨z',hz',hl⟩
   .subst hf;exact (q6.op z hz).2
   .rw [hz'] at hz;cases hz;omega
  .rcases hf3 with hf | ⟨z',hz',hl⟩
   .subst hf;exact (q6.of_ z hz).2.2 e
   .rw [hz'] at e;cases e
    have:=hlt _ (q6.ou _ (q6.of_ z hz).1);omega
  .rcases ho with ho | ho
   .exact (q6.go z hz).2 ho
   .rcases hf3 with hf | ⟨z',hz',hl⟩
    .subst hf;exact (q6.go z hz).2 (q6.op z ho).1
    .rw [hz'] at ho;cases ho
     have:=hlt _ (q6.go z hz).1;omega
  .rcases hz with hz | hz
   .exact .inl (q6.ou _ hz)
   .exact .inr hz
  .rcases hz with hz | hz
   .have:=hlt _ hz;omega
   .have:=hal z hz;omega
 .intro z hz
  rcases hz with hz | hz
  .exact .inl hz
  .rcases hf3 with hf | ⟨z',hz',hl⟩
   .subst hf;exact .inl (q6.op z hz).1
   .rw [hz'] at hz;cases hz;exact .inr hl
 .intro z hz
  rcases hz with hz | hz
  .exact .inl hz
  .rcases hf3 with hf | ⟨z',hz',hl⟩
   .subst hf;exact .inl (q6.ou _ (q6.op z hz).1)
   .rw [hz'] at hz;cases hz;exact .inr hl
 .exact (Upd.ext he2).trans ((hu3.mono fun z _ e=>(q6.op z e).1).trans (hu4.mono fun z _ e=>by rw [e];exact q6.ob))
theorem rtree_facts {L:TLoc} {O U:Nat->Prop} {w:World} {t:TreeS} {d:Nat} {Gl:Nat->Prop} {a2:Option Addr} {c2 n:Nat} {l:List Fact} (h:RTreeIn L O U w t) (hl:SliceAt factR w Gl a2 l) (hGl:∀ z,Gl z->¬ U z/\z<w.heap.size) (hn:n=l.length) (hlen:t.facts.length+l.length<=1000000) {K':World->Prop}
  (hk:∀ w' O' U',RTreeIn L O' U' w' { t with facts:=t.facts ++ l,depth:=d }->(∀ x,O' x->O x\/w.heap.size<=x)->(∀ x,U' x->U x\/Gl x\/w.heap.size<=x)->Upd O w w'->K' w') :
  storeP w ⟨L.b,4,none⟩ [.int .i64 d] fun w28=>∃ (a12:Option Addr) (l12 c12:Nat),World.cell? w28 ⟨L.b,3,none⟩= some (.slice a12 l12 c12)/\
   appendP T.api_Fact 5 64 [.int .i64 0,.int .u8 0,.string (⟨#[]⟩: ByteArray),.int .i64 0,.slice none 0 0] a12 l12 c12 (.slice a2 n c2) w28 fun a13 l13 c13 w29=>storeP w29 ⟨L.b,3,none⟩ [.slice a13 l13 c13] K':=by
 subst hn
 obtain ⟨ap,cp,af,cf,G,q1,q2,q3,q6⟩:=h
 have hlt:=q6.lt
 refine store_of q1 (by simp) fun w9 hput9=>?_
 have g9:w9.heap[L.b]?=some (.cells (L.rcells ap t.pages.length cp af t.facts.length cf d).toArray T.carrackref18_Tree (0,0)):=by rw [hput9.get];rfl
 have u9:=hput9.upd1
 have hs9:=hput9.size
 have hbU:=q6.ou _ q6.ob
 have hnG:∀ z,Gl z->¬ U z:=fun z hz=>(hGl z hz).1
 have q39:OwnS factR w9 (fun z=>G z\/Gl z) af cf T.api_Fact t.facts:=(q3.upd u9 (fun z hz e=>(q6.go z hz).2 (e ▸ q6.ob)) fun z hz e=>(q6.of_ z hz).2.1 e).mono fun z hz=>.inl hz
 have hsl9:SliceAt factR w9 (fun z=>G z\/Gl z) a2 l:=(hl.upd u9 fun z hz e=>hnG z hz (e ▸ hbU)).mono fun z hz=>.inr hz
 refine ⟨_,_,_,cell_of g9 rfl,?_⟩
 refine OwnS.concat (r:=factR) q39 hsl9 rfl rfl rfl (by omega) (by omega) (fun z hz hg=>?_) fun a' c' w10 hu10 ho10 hf10=>?_
 .rcases hg with hg | hg
  .exact (q6.go z hg).2 (q6.of_ z hz).1
  .exact hnG z hg (q6.ou _ (q6.of_ z hz).1)
 have hs10:=hu10.size
 have g10:=hu10.get g9 fun e=>(q6.of_ _ e).2.1 rfl
 refine store_of g10 (by simp) fun w11 hput11=>?_
 have g11:w11.heap[L.b]?=some (.cells (L.rcells ap t.pages.length cp a' (t.facts ++ l).length c' d).toArray T.carrackref18_Tree (0,0)):=by rw [hput11.get];rfl
 have u11:=hput11.upd1
 have hs11:=hput11.size
 have hG2b:∀ z,(G z\/Gl z)->z≠L.b:=fun z hz e=>by
  rcases hz with hz | hz
  .exact (q6.go z hz).2 (e ▸ q6.ob)
  .exact hnG z hz (e ▸ hbU)
 have hbl:=hlt _ hbU
 have hnew:∀ z,a'=some ⟨z,0,none⟩->(O z/\z≠L.b/\ap≠some ⟨z,0,none⟩)\/w9.heap.size<=z:=fun z hz=>by
  rcases hf10 with hf | ⟨z',hz',hl⟩
  .subst hf;exact .inl (q6.of_ z hz)
  .rw [hz'] at hz;cases hz;exact .inr hl
 have hal:∀ z,a'=some ⟨z,0,none⟩->z<w10.heap.size:=fun z hz=>by
  obtain ⟨vs,ho,_⟩:=ho10
  exact ho.blk hz
 refine hk w11 (fun z=>O z\/a'=some ⟨z,0,none⟩) (fun z=>U z\/Gl z\/a'=some ⟨z,0,none⟩) ⟨ap,cp,a',c',fun z=>G z\/Gl z,g11,?_,?_,?_⟩ ?_ ?_ ?_
 .exact ((q2.upd u9 fun z hz e=>(q6.op z hz).2 e).upd hu10 fun z hz e=>(q6.of_ z e).2.2 hz).upd u11 fun z hz e=>(q6.op z hz).2 e
 .refine ho10.upd u11 (fun z hz e=>hG2b z hz e) fun z hz e=>?_
  rcases hnew z hz with hh | hh
  .exact hh.2.1 e
  .omega
 .refine ⟨.inl q6.ob,fun z hz=>⟨.inl (q6.op z hz).1,(q6.op z hz).2⟩,fun z hz=>⟨.inr hz,?_⟩,fun z hz=>⟨?_,fun ho=>?_⟩,fun z hz=>?_,fun z hz=>?_⟩
  .rcases hnew z hz with hh | hh
   .exact hh.2
   .exact ⟨by omega,fun e=>by have:=hlt _ (q6.ou _ (q6.op z e).1);omega⟩
  .rcases hz with hz | hz
   .exact .inl (q6.go z hz).1
   .exact .inr (.inl hz)
  .rcases ho with ho | ho
   .rcases hz with hz | hz
    .exact (q6.go z hz).2 ho
    .exact hnG z hz (q6.ou _ ho)
   .rcases hnew z ho with hh | hh
    .rcases hz with hz | hz
     .exact (q6.go z hz).2 hh.1
     .exact hnG z hz (q6.ou _ hh.1)
    .rcases hz with hz | hz
     .have:=hlt _ (q6.go z hz).1;omega
     .have:=(hGl z hz).2;omega
  .rcases hz with hz | hz
   .exact .inl (q6.ou _ hz)
   .exact .inr (.inr hz)
  .rcases hz with hz | hz | hz
   .have:=hlt _ hz;omega
   .have:=(hGl z hz).2;omega
   .have:=hal z hz;omega
 .intro z hz
  rcases hz with hz | hz
  .exact .inl hz
  .rcases hnew z hz with hh | hh
   .exact .inl hh.1
   .exact .inr (by omega)
 .intro z hz
  rcases hz with hz | hz | hz
  .exact .inl hz
  .exact .inr (.inl hz)
  .rcases hnew z hz with hh | hh
   .exact .inl (q6.ou _ hh.1)
   .exact .inr (.inr (by omega))
 .exact ((u9.mono fun z _ e=>by rw [e];exact q6.ob).trans (hu10.mono fun z _ e=>(q6.of_ z e).1)).trans (u11.mono fun z _ e=>by rw [e];exact q6.ob)
end Go.Den
