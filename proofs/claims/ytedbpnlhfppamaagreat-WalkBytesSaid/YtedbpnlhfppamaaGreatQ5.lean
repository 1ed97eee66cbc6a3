/- Contracts of the reference of walk: the tree of the newest point, its facts and pages. (Merged and shortened by program: SPoint2 SLoad2 SFacts0 SCopy SFresh14 SLaw18 MWalk MTree SPlace MTaken SScan5 SWalk SWalk2 SLeaf2 STree SDown SCatch SWalked MLives SWalk3 SRTree SRDown SRWalked.) -/
import Derived.Test.YtedbpnlhfppamaaGreatQ4
import Derived.DeepKeys3
import Derived.Tactics
import Derived.Tactics2
import Derived.RecoverIn
import Derived.Laws.Pointers
set_option linter.unusedVariables false
set_option linter.unusedSimpArgs false
set_option maxRecDepth 20000
namespace Go.Den
theorem carrackref17_Get_spec {w:World} {a:Option Addr} {b:List UInt8} {c:Nat} (hb:BytesAt w a b) (hn:b.length≤1000000000000) (hc:b.length≤c) :
  CallsR prog K.carrackref17_Get #[.slice a b.length c] w fun v w'=>v= .tuple #[pointV (getPoint b).1,.int .i64 ((getPoint b).2:Nat)]∧Ext w w':=by
 apply carrackref17_Get.sh
 suffices H:∀ R:Value→World→Prop,(∀ v w',v= .tuple #[pointV (getPoint b).1,.int .i64 ((getPoint b).2:Nat)]∧Ext w w'→R v w')→carrackref17_Get.body a b.length c w R from H _ fun _ _ h=>h
 intro R hR
 unfold carrackref17_Get.body
 intro B1 w₁ hn1
 have hB1:=hn1.num
 have hs1:=hn1.size
 have g1:w₁.heap[B1]?=some (.cells (Point.vals Point.zero).toArray T.api_Point (0,0)):=hn1.get
 refine br_dec (fun hlt=>?_) fun hge B2 w₃ hn3=>?_
 ·have hg:getPoint b=(Point.zero,4):=by unfold getPoint;rw [if_pos (by omega)]
  rw [hg] at hR
  exact pt_out (p:=Point.zero) g1 rfl fun u' hu=>hR _ _ ⟨rfl,hn1.upd.beyond hu fun x hx=>by omega⟩
 ·have hlen:12≤b.length:=by omega
  have hlong:=pt_long hlen
  have hB2:=hn3.num
  have hs3:=hn3.size
  have e3:=hn1.upd.trans hn3.upd
  have hb3:=hb.ext e3
  have hG:¬ (fun x=>x≠B2) B2:=by simp
  have hrd:RRdIn (fun x=>x≠B2) w₃ B2 (some b):=⟨⟨a,c,hn3.get,hb3,hc,fun p hp=>by
   obtain ⟨b',o,hab,hltb⟩:=RowAt.blk hb (by intro h;have:=congrArg List.length h;simp at this;rw [this] at hlen;simp at hlen)
   rw [hab] at hp;cases hp
   show b'≠B2
   omega⟩,by omega⟩
  refine (rrdTake (G:=fun x=>x≠B2) (k:=8) (by decide) hG hrd).mono ?_
  rintro _ w₄ ⟨hu4,rfl,hr4⟩
  have ht:=(ptk_good hlen).1
  have ht':takeS 8 (some b)=(fromLE (b.take 8),0,some (b.drop 8)):=ht
  rw [ht']
  have hs4:=hu4.size
  have e4:Ext w w₄:=e3.beyond hu4 fun x hx=>by omega
  refine ⟨_,_,rfl,fun w₅ hd5=>?_⟩
  have e5:=e4.trans hd5.upd
  have hs5:=hd5.upd.size
  have g5:=Ext.get hd5.upd (hu4.get (Ext.get hn3.upd g1) (by omega))
  have hb5:BytesAt w₅ a b:=hb.ext e5
  refine ⟨fun u=>Ext w₅ u,Upd.refl _ _,idx_byteS (S:=fun u=>Ext w₅ u) (fun u hu=>hb5.ext hu) ⟨_,Upd.refl _ _⟩ (by decide) (by omega) (idx_byteS (S:=fun u=>Ext w₅ u) (fun u hu=>hb5.ext hu) ⟨_,Upd.refl _ _⟩ (by decide) (by omega) (idx_byteS (S:=fun u=>Ext w₅ u) (fun u hu=>hb5.ext hu) ⟨_,Upd.refl _ _⟩ (by decide) (by omega) (idx_byteS (S:=fun u=>Ext w₅ u) (fun u hu=>hb5.ext hu) ⟨_,Upd.refl _ _⟩ (by decide) (by omega) fun B3 w₆ hn6=>⟨hn6.upd,?_⟩)))⟩
  have h8:=(b.getD 8 0).toNat_lt
  have h9:=(b.getD 9 0).toNat_lt
  have h10:=(b.getD 10 0).toNat_lt
  have h11:=(b.getD 11 0).toNat_lt
  have t8:Int.toNat 8=8:=rfl
  have t9:Int.toNat 9=9:=rfl
  have t10:Int.toNat 10=10:=rfl
  have t11:Int.toNat 11=11:=rfl
  simp only [t8,t9,t10,t11]
  have ec:IntKind.i64.wrap (IntKind.i64.wrap ((b.getD 10 0).toNat:Int)+IntKind.i64.wrap (256 * IntKind.i64.wrap ((b.getD 11 0).toNat:Int)))=(((b.getD 10 0).toNat+256 * (b.getD 11 0).toNat:Nat):Int):=by
   rw [w64n (m:=(b.getD 10 0).toNat) (by omega),w64n (m:=(b.getD 11 0).toNat) (by omega),w64 (x:=256 * ((b.getD 11 0).toNat:Int)) (by omega) (by omega),w64 (by omega) (by omega)]
   omega
  rw [ec,w64n (by omega),w64n (by omega)]
  have hvals:([.int .u64 ((fromLE (b.take 8):Nat)),.int .i64 (((b.getD 8 0).toNat:Nat)),.int .i64 (((b.getD 9 0).toNat:Nat)),.int .i64 (((b.getD 10 0).toNat+256 * (b.getD 11 0).toNat:Nat))]:List Value)=(pointB b).vals:=by simp [pointB,Point.vals]
  rw [hvals]
  have hB3:=hn6.num
  have hs6:=hn6.size
  have g6:=Ext.get hn6.upd g5
  refine put_all (vs:=(pointB b).vals) hn6.get rfl fun w₇ hu7 hs7 g7=>⟨_,_,_,_,cells_all g7,(carrackref17_May_spec (pointB b) w₇).mono ?_⟩
  rintro _ w₉ ⟨rfl,he9⟩
  have e9:Ext w w₉:=((e5.trans hn6.upd).beyond hu7 fun x hx=>by omega).trans he9
  have g9:=Ext.get he9 (hu7.get g6 (by omega))
  have bad:(¬ ((pointB b).may=true∧b.length=12))→storeP w₉ ⟨B1,0,none⟩ [.int .u64 0,.int .i64 0,.int .i64 0,.int .i64 0] fun w6=>∃ x4 x5:Int,∃ x6 x7:Int,cellsAt w6 ⟨B1,0,none⟩ [.int .u64 x4,.int .i64 x5,.int .i64 x6,.int .i64 x7] 0∧R (.tuple #[.agg #[.int .u64 x4,.int .i64 x5,.int .i64 x6,.int .i64 x7],.int .i64 5]) w6:=by
   intro hno
   rw [hlong,if_neg hno] at hR
   exact pt_out (p:=Point.zero) g9 rfl fun u' hu=>hR _ _ ⟨rfl,e9.beyond hu fun x hx=>by omega⟩
  refine ⟨_,rfl,?_⟩
  by_cases hm:(pointB b).may=true
  ·rw [hm]
   simp only [Bool.not_true,br_false]
   refine br_dec (fun hl=>bad fun h=>?_) fun hl=>?_
   ·omega
   ·rw [hlong,if_pos ⟨hm,by omega⟩] at hR
    exact ⟨_,_,_,_,cells_all (Ext.get he9 g7),pt_out (p:=pointB b) g9 rfl fun u' hu=>hR _ _ ⟨rfl,e9.beyond hu fun x hx=>by omega⟩⟩
  ·rw [Bool.not_eq_true] at hm
   rw [hm]
   simp only [Bool.not_false,br_true]
   exact bad (by rw [hm];simp)
def Point.body (p:Point):List UInt8:=leB p.number 8 ++ [UInt8.ofNat p.block.toNat,UInt8.ofNat p.page.toNat,UInt8.ofNat (p.count.toNat % 256),UInt8.ofNat (p.count.toNat / 256)]
def putPoint (size:Int) (p:Point):List UInt8×Nat:=if p.may then putPage size 6 p.body else ([],2)
theorem carrackref17_Put_spec (size:Int) (hsz:size<9223372036854775808) (hsz0: -9223372036854775808≤size) (p:Point) (hq:p.number<18446744073709551616) (w:World) :
  CallsR prog K.carrackref17_Put #[.int .i64 size,pointV p] w fun v w'=>BytesOut w w' v (putPoint size p).1 (putPoint size p).2:=by
 apply carrackref17_Put.sh
 suffices H:∀ R:Value→World→Prop,(∀ v w',BytesOut w w' v (putPoint size p).1 (putPoint size p).2→R v w')→carrackref17_Put.body size (p.number:Nat) p.block p.page p.count w R from H _ fun _ _ h=>h
 intro R hR
 unfold carrackref17_Put.body
 simp only [add_lit,Nat.zero_add]
 intro B1 w₁ hn1
 have hs1:=hn1.size
 have g1:w₁.heap[B1]?=some (.cells p.vals.toArray T.api_Point (0,0)):=hn1.get
 refine ⟨_,_,_,_,cells_all g1,(carrackref17_May_spec p w₁).mono ?_⟩
 rintro _ w₂ ⟨rfl,he2⟩
 have e2:=hn1.upd.trans he2
 have g2:=Ext.get he2 g1
 refine ⟨_,rfl,br_intro (fun hno=>?_) fun hyes=>?_⟩
 ·have hm:p.may=false:=by simpa using hno
  have hp:putPoint size p=([],2):=by unfold putPoint;rw [hm];rfl
  rw [hp] at hR
  exact hR _ _ (BytesOut.none (e:=2) e2)
 ·have hm:p.may=true:=by simpa using hyes
  have hp:putPoint size p=putPage size 6 p.body:=by unfold putPoint;rw [if_pos hm]
  rw [hp] at hR
  obtain ⟨hr,_,_⟩:=p.may_iff.1 hm
  refine ⟨_,cell_of g2 rfl,(carrackref01_Put_spec p.number 8 w₂ (by rfl) (by rw [show (256:Nat) ^ 8=18446744073709551616 by decide];exact hq)).mono ?_⟩
  rintro _ w₃ ⟨a1,c1,rfl,ho3,hf3,he3⟩
  have hlen:=leB_length 8 p.number
  have g3:=Ext.get he3 g2
  have hs2:=e2.size
  have hs3:=he3.size
  refine ⟨_,_,_,_,rfl,_,cell_of g3 rfl,_,cell_of g3 rfl,_,cell_of g3 rfl,by decide,_,cell_of g3 rfl,by decide,?_⟩
  have q1:(p.block:Int)=((p.block.toNat:Nat):Int):=by omega
  have q2:(p.page:Int)=((p.page.toNat:Nat):Int):=by omega
  have q3:(p.count:Int)=((p.count.toNat:Nat):Int):=by omega
  rw [q1,q2,q3,tmod_256,tdiv_256,w64n (by omega),bv_mod,bv_mod,bv_mod,bv_mod,Nat.mod_eq_of_lt (a:=p.block.toNat) (by omega),Nat.mod_eq_of_lt (a:=p.page.toNat) (by omega),Nat.mod_mod,Nat.mod_eq_of_lt (a:=p.count.toNat / 256) (by omega)]
  intro B2 w₄ hn4
  have hs4:=hn4.size
  have hbl:BList w₂.heap.size w₃ a1 c1 (leB p.number 8):=⟨by rw [hlen];exact ho3,fun b hb=>hf3 _ hb⟩
  refine BList.cat (xs:=[UInt8.ofNat p.block.toNat,UInt8.ofNat p.page.toNat,UInt8.ofNat (p.count.toNat % 256),UInt8.ofNat (p.count.toNat / 256)]) (hbl.ext hn4.upd) hlen.symm rfl (RowAt.of hn4.get fun j v hj=>by simpa using hj) (by simp [hlen]) (by omega) fun a2 c2 w₅ hu5 hl5=>?_
  have e5:Ext w w₅:=((e2.trans he3).trans hn4.upd).beyond hu5 fun x hx=>by omega
  have hput:=putPage_ref (kind:=6) (c:=c2) rfl hl5.bytes (by simp [hlen]) hsz hsz0
  refine hput.mono ?_
  rintro _ w₆ ⟨a3,c3,rfl,hb3,he6⟩
  exact ⟨_,_,_,_,rfl,hR _ _ ⟨a3,c3,rfl,hb3.weak e5.size,e5.trans he6⟩⟩
def loadTo (nb np sz sp:Nat) (all:List UInt8) (n:Nat):Chip:=(List.range n).foldl (fun c j=>c.setBlk j ((all.drop (j * (np * sz))).take (np * sz))) (newChip nb np sz sp)
theorem loadTo_succ (nb np sz sp:Nat) (all:List UInt8) (n:Nat):loadTo nb np sz sp all (n+1)=(loadTo nb np sz sp all n).setBlk n ((all.drop (n * (np * sz))).take (np * sz)):=by
 unfold loadTo
 rw [List.range_succ,List.foldl_append];rfl
def badTo (c:Chip) (is:List Int):Chip:=is.foldl (fun c x=>{ c with bad:=c.bad.set x.toNat true }) c
theorem badTo_snoc (c:Chip) (is:List Int) (x:Int):badTo c (is ++ [x])={ badTo c is with bad:=(badTo c is).bad.set x.toNat true }:=by
 unfold badTo
 rw [List.foldl_append];rfl
def loadChip (nb np sz sp:Nat) (all:List UInt8) (is:List Int):Chip:=badTo (loadTo nb np sz sp all nb) is
theorem load_still (nb np sz sp:Nat) (all:List UInt8):∀ n,Still (loadTo nb np sz sp all n) nb np sz sp
 | 0=>⟨rfl,rfl,rfl,rfl,rfl,rfl,rfl,rfl⟩
 | n+1=>by rw [loadTo_succ];exact (load_still nb np sz sp all n).blk _ _
theorem bad_still {c:Chip} {nb np sz sp:Nat} (h:Still c nb np sz sp):∀ is:List Int,Still (badTo c is) nb np sz sp
 | []=>h
 | x :: is=>bad_still (c:={ c with bad:=c.bad.set x.toNat true }) (h.bad _) is
theorem loadChip_still (nb np sz sp:Nat) (all:List UInt8) (is:List Int):Still (loadChip nb np sz sp all is) nb np sz sp:=bad_still (load_still nb np sz sp all nb) is
theorem badTo_blocks:∀ (is:List Int) (c:Chip),(badTo c is).blocks=c.blocks
 | [],c=>rfl
 | x :: is,c=>badTo_blocks is { c with bad:=c.bad.set x.toNat true }
theorem loadTo_len (nb np sz sp:Nat) (all:List UInt8):∀ n,(loadTo nb np sz sp all n).blocks.length=nb
 | 0=>by show (List.replicate nb _).length=nb;rw [List.length_replicate]
 | n+1=>by rw [loadTo_succ];show (List.set _ _ _).length=nb;rw [List.length_set];exact loadTo_len nb np sz sp all n
theorem loadTo_blk (nb np sz sp:Nat) (all:List UInt8):∀ n,n≤nb→∀ i,i<n→(loadTo nb np sz sp all n).blk i=(all.drop (i * (np * sz))).take (np * sz)
 | 0,_,i,h=>by omega
 | n+1,hn,i,h=>by
  have hl:=loadTo_len nb np sz sp all n
  rw [loadTo_succ]
  show ((loadTo nb np sz sp all n).blocks.set n _).getD i []=_
  rw [List.getD_eq_getElem?_getD,List.getElem?_set]
  by_cases he:n=i
  ·subst he
   rw [if_pos rfl,if_pos (by omega)];rfl
  ·rw [if_neg he]
   have:=loadTo_blk nb np sz sp all n (by omega) i (by omega)
   rw [← List.getD_eq_getElem?_getD]
   exact this
theorem loadChip_page {nb np sz sp:Nat} {all:List UInt8} {is:List Int} {i k:Nat} (hi:i<nb) (hk:k<np):(loadChip nb np sz sp all is).page i k=(all.drop ((i * np+k) * sz)).take sz:=by
 have hs:=loadChip_still nb np sz sp all is
 unfold Chip.page
 rw [hs.sz]
 have hb:(loadChip nb np sz sp all is).blk i=(all.drop (i * (np * sz))).take (np * sz):=by
  have:=loadTo_blk nb np sz sp all nb (Nat.le_refl _) i hi
  unfold Chip.blk at this ⊢
  unfold loadChip
  rw [badTo_blocks]
  exact this
 rw [hb,List.drop_take,List.take_take,List.drop_drop]
 have h1:i * (np * sz)+k * sz=(i * np+k) * sz:=by rw [Nat.add_mul,Nat.mul_assoc]
 have h2:k * sz+sz≤np * sz:=by
  have:(k+1) * sz≤np * sz:=Nat.mul_le_mul_right _ hk
  rwa [Nat.succ_mul] at this
 rw [h1,Nat.min_eq_left (by omega)]
theorem bad_none {nb np sz sp:Nat} {all:List UInt8}:(loadChip nb np sz sp all []).bad=List.replicate nb false:=by
 show (loadTo nb np sz sp all nb).bad=_
 have:∀ n,(loadTo nb np sz sp all n).bad=List.replicate nb false:=by
  intro n
  induction n with
  | zero=>rfl
  | succ n ih=>rw [loadTo_succ];exact ih
 exact this nb
theorem nand_Load_all (w:World) {nb np sz sp:Nat} (nb1:8≤nb) (nb2:nb≤64) (np1:4≤np) (np2:np≤32) (sz1:128≤sz) (sz2:sz≤256) (sp2:sp≤4)
  {a:Option Addr} {all:List UInt8} {c:Nat} (hall:BytesAt w a all) (hlen:all.length=nb * (np * sz)) (hcap:all.length≤c) {ai:Option Addr} {is:List Int} {ci:Nat} (hi:RowAt w ai (is.map (Value.int .i64))) (his:∀ x∈is,0≤x∧x<nb) (hic:is.length<9000000000000000000) :
  CallsR prog K.nand_Load #[.agg #[.int .i64 nb,.int .i64 np,.int .i64 sz,.int .i64 sp],.slice a all.length c,.slice ai is.length ci] w fun v w'=>Ext w w'∧∃ p,v= .tuple #[.pointer (some ⟨p,0,none⟩),.int .i64 0]∧ChipAt w' p (loadChip nb np sz sp all is) (fun x=>w.heap.size≤x∧x<w'.heap.size):=by
 apply nand_Load.sh
 suffices H:∀ R:Value→World→Prop,(∀ v w',(Ext w w'∧∃ p,v= .tuple #[.pointer (some ⟨p,0,none⟩),.int .i64 0]∧ChipAt w' p (loadChip nb np sz sp all is) (fun x=>w.heap.size≤x∧x<w'.heap.size))→R v w')→nand_Load.body nb np sz sp a all.length c ai is.length ci w R from H _ fun _ _ h=>h
 intro R hR
 unfold nand_Load.body
 simp only [add_lit,Nat.zero_add]
 intro B1 w₁ hn1
 have g1:=hn1.get
 have hb1:B1=w.heap.size:=hn1.num
 have hs1:=hn1.size
 refine ⟨_,_,_,_,cellsAt_of (o:=0) g1 (fun j v hj=>by simpa using hj),(nand_New_spec w₁ nb1 nb2 np1 np2 sz1 sz2 sp2).mono ?_⟩
 rintro _ w₂ ⟨he2,p,rfl,L,G,hrep,hF,hGF,_⟩
 have hs2:=he2.size
 have g2:=Ext.get he2 g1
 have e2:Ext w w₂:=hn1.upd.trans he2
 have hN1:512≤np * sz:=Nat.mul_le_mul np1 sz1
 have hN2:np * sz≤8192:=Nat.mul_le_mul np2 sz2
 have q1:IntKind.i64.wrap ((np:Int) * (sz:Int))=((np * sz:Nat):Int):=by rw [w64 (by have:=Int.natCast_mul np sz;omega) (by have:=Int.natCast_mul np sz;omega)];exact (Int.natCast_mul np sz).symm
 have hNN:nb * (np * sz)≤64 * 8192:=Nat.mul_le_mul nb2 hN2
 generalize hN:np * sz=N at *
 have q2:IntKind.i64.wrap ((nb:Int) * (N:Int))=((nb * N:Nat):Int):=by rw [w64 (by have:=Int.natCast_mul nb N;omega) (by have:=Int.natCast_mul nb N;omega)];exact (Int.natCast_mul nb N).symm
 refine ⟨_,_,rfl,br_ne (fun h=>absurd rfl h) fun _=>⟨_,cell_of g2 rfl,_,cell_of g2 rfl,_,cell_of g2 rfl,?_⟩⟩
 rw [q1,q2,hlen]
 refine br_ne (fun h=>absurd rfl h) fun _=>?_
 simp only [nilC_some',add_lit,Nat.zero_add]
 have hpF:∀ x,x∈p :: L.bb :: L.locs→w₁.heap.size≤x∧x<w₂.heap.size:=hF
 refine ⟨_,_,_,cell_of hrep.head rfl,?_⟩
 refine ⟨fun x u=>∃ (i:Nat) (c':Chip),x=i∧i≤nb∧ChipRep u p c' L G∧c'=loadTo nb np sz sp all i∧Ext w u∧w₂.heap.size≤u.heap.size∧u.heap[B1]?=some (.cells #[.int .i64 nb,.int .i64 np,.int .i64 sz,.int .i64 sp] T.api_Geo (0,0)),fun x _=>((nb:Int) - x).toNat,
  ⟨0,_,rfl,by omega,hrep,by rw [← hN];rfl,e2,Nat.le_refl _,g2⟩,?_⟩
 rintro x u ⟨i,c',rfl,hi',hr,hceq,heu,hsu,gu⟩
 have hst:Still c' nb np sz sp:=hceq ▸ load_still nb np sz sp all i
 refine br_dec (fun hlt=>?_) fun hge=>?_
 ·have hin:i<nb:=by
   have:((i:Int))<(nb:Int):=hlt
   omega
  intro w₄ hd4
  have hr4:=hr.ext hd4.upd
  have hcn:c'.np * c'.sz=N:=by rw [hst.np,hst.sz,hN]
  obtain ⟨vs,ho,hv⟩:=hr4.rows
  obtain ⟨l,cap,hl,hvi,hbi⟩:=hv i (by rw [hst.nb];exact hin)
  have hnd:=hr4.nodup
  have hlm:=List.mem_of_getElem? hl
  have hpl:p≠l:=fun e=>by rw [e] at hnd;exact (List.nodup_cons.1 hnd).1 (by simp [hlm])
  have hpbl:L.pb≠l:=fun e=>hr4.apart l (by simp [hlm]) (e ▸ hr4.pbG)
  have hlF:=hpF l (by simp [hlm])
  have keep:∀ {u'},Upd (·=l) w₄ u'→u'.heap[p]?=some (.cells (chipCells c' L) T.nand_Chip (0,0))∧OwnAt u' (some ⟨L.pb,0,none⟩) c'.nb L.cb T.L_uint8 1 vs:=fun k=>⟨k.get hr4.head hpl,ho.upd k fun b hb=>by cases hb;exact hpbl⟩
  refine ⟨fun u'=>Upd (·=l) w₄ u',Upd.refl _ _,some ⟨L.pb,0,none⟩,c'.nb,L.cb,?_,?_⟩
  ·intro u' k
   exact cell_of (keep k).1 rfl
  have hcnb:c'.nb=nb:=hst.nb
  refine ⟨by omega,by omega,?_⟩
  simp only [nilC_some',add_lit,Nat.zero_add,Nat.mul_one,Int.toNat_natCast]
  refine ⟨some ⟨l,0,none⟩,N,cap,?_,?_⟩
  ·intro u' k
   obtain ⟨b',o',e,hc⟩:=(keep k).2.row.cell hvi
   cases e
   rw [← hcn]
   simpa using hc
  have q3:IntKind.i64.wrap ((i:Int) * (N:Int))=((i * N:Nat):Int):=by
   have hle:i * N≤nb * N:=Nat.mul_le_mul_right _ (by omega)
   rw [w64 (by have:=Int.natCast_mul i N;omega) (by have:=Int.natCast_mul i N;omega)];exact (Int.natCast_mul i N).symm
  have hiN:i * N+N≤nb * N:=by
   have:(i+1) * N≤nb * N:=Nat.mul_le_mul_right _ hin
   rwa [Nat.succ_mul] at this
  rw [q3,← hlen]
  refine slice_bytes_from ((hall.ext heu).ext hd4.upd) (by omega) (by omega) hcap fun a4 c4 hb4 hc4 _ _ _=>?_
  simp only [Int.toNat_natCast] at hb4 hc4 ⊢
  have hdl:(all.drop (i * N)).length=all.length - i * N:=List.length_drop
  have hmin:min (all.drop (i * N)).length N=N:=by omega
  have htk:((all.drop (i * N)).take N).length=N:=by rw [List.length_take];omega
  refine ⟨_,rfl,((all.drop (i * N)).take N).map bv,?_,oneCell_bytes,?_⟩
  ·rw [hmin]
   have:=read_row (cap:=c4) (size:=1) (hb4.take N) (len:=N) (by rw [List.length_map,htk];omega)
   revert this
   unfold readP
   cases a4 with
   | none=>exact fun h=>h
   | some q=>exact fun h=>h
  ·rw [hmin]
   rw [hcn] at hbi
   have hblen:=hr4.ok.blk_len (i:=i) (by rw [hst.nb];exact hin)
   rw [hcn] at hblen
   refine own_store hbi (o:=0) (by rw [List.length_map,List.length_map,htk];omega) fun w₅ hu5 ho5=>?_
   have hfull:((c'.blk i).map bv).take 0 ++ ((all.drop (i * N)).take N).map bv ++ ((c'.blk i).map bv).drop (0+(((all.drop (i * N)).take N).map bv).length)=((all.drop (i * N)).take N).map bv:=by
    have e1:((c'.blk i).map bv).drop (0+(((all.drop (i * N)).take N).map bv).length)=[]:=List.drop_of_length_le (by rw [List.length_map,List.length_map,htk];omega)
    rw [e1,List.take_zero,List.nil_append,List.append_nil]
   rw [hfull] at ho5
   have ew:IntKind.i64.wrap ((i:Int)+1)=((i+1:Nat):Int):=w64 (by omega) (by omega)
   refine ⟨hu5,⟨i+1,c'.setBlk i ((all.drop (i * N)).take N),ew,hin,?_,by rw [hceq,loadTo_succ,hN],?_,?_,?_⟩,?_⟩
   ·exact hr4.reblk hu5 (by rw [hst.nb];exact hin) hl (by rw [htk,hcn]) (by rw [hcn];exact hbi) (by rw [hcn];exact ho5)
   ·exact (heu.trans hd4.upd).beyond hu5 fun x hx=>by omega
   ·have:=hd4.upd.size
    have:=hu5.size
    omega
   ·exact hu5.get (Ext.get hd4.upd gu) (by omega)
   ·rw [ew];exact meas hin
 ·refine ⟨fun x u'=>∃ (k:Nat) (d:Chip),x=k∧k≤is.length∧ChipRep u' p d L G∧d=badTo (loadTo nb np sz sp all nb) (is.take k)∧Ext w u'∧w₂.heap.size≤u'.heap.size∧u'.heap[B1]?=some (.cells #[.int .i64 nb,.int .i64 np,.int .i64 sz,.int .i64 sp] T.api_Geo (0,0)),fun x _=>((is.length:Int) - x).toNat,
   ⟨0,c',rfl,by omega,hr,by rw [hceq,show i=nb by have:¬ ((i:Int)<(nb:Int)):=hge;omega];rfl,heu,hsu,gu⟩,?_⟩
  rintro x v ⟨k,d,rfl,hk,hrd,hdeq,hev,hsv,gv⟩
  have hsd:Still d nb np sz sp:=hdeq ▸ bad_still (load_still nb np sz sp all nb) (is.take k)
  refine br_dec (fun hlt=>?_) fun hge=>?_
  ·have hk':k<is.length:=by omega
   have hrng:=his is[k] (List.getElem_mem _)
   have hrow:=hi.ext hev
   obtain ⟨b0,o0,hai,_⟩:=RowAt.blk hrow (by intro e;have:=congrArg List.length e;simp at this;rw [this] at hk';simp at hk')
   subst hai
   refine ⟨by omega,by omega,?_⟩
   simp only [nilC_some',add_lit,Nat.zero_add,Nat.mul_one,Int.toNat_natCast]
   obtain ⟨b',o',e,hc⟩:=hrow.cell (i:=k) (v:=.int .i64 is[k]) (by simp [hk'])
   cases e
   refine ⟨_,hc,br_dec (fun h=>absurd h (by omega)) fun _=>⟨_,cell_of gv rfl,br_dec (fun h=>absurd h (by omega)) fun _=>?_⟩⟩
   refine ⟨_,_,_,cell_of hrd.head rfl,?_⟩
   obtain ⟨j,hj⟩: ∃ j:Nat,is[k]=j:=⟨is[k].toNat,by omega⟩
   rw [hj] at hrng ⊢
   have hjn:j<d.nb:=by rw [hsd.nb];omega
   refine ⟨by omega,by omega,?_⟩
   simp only [nilC_some',add_lit,Nat.zero_add,Nat.mul_one,Int.toNat_natCast]
   have hbl:=hrd.ok.bad
   refine own_store hrd.bad (o:=j) (by simp;omega) fun w₇ hu7 ho7=>?_
   have hbb:=hpF L.bb (by simp)
   have hset:(d.bad.map Value.bool).take j ++ [Value.bool true] ++ (d.bad.map Value.bool).drop (j + [Value.bool true].length)=(d.bad.set j true).map Value.bool:=by
    rw [List.set_eq_take_append_cons_drop,if_pos (by omega)]
    simp
   rw [hset] at ho7
   have ew:IntKind.i64.wrap ((k:Int)+1)=((k+1:Nat):Int):=w64 (by omega) (by omega)
   simp only [ew]
   exact ⟨⟨k+1,_,rfl,hk',hrd.rebad hu7 (by simpa using hbl) ho7,by rw [List.take_succ_eq_append_getElem hk',badTo_snoc,← hdeq,hj];rfl,hev.beyond hu7 fun x hx=>by omega,by have:=hu7.size;omega,hu7.get gv (by omega)⟩,meas hk'⟩
  ·have hkk:k=is.length:=by omega
   have hd:d=loadChip nb np sz sp all is:=by rw [hdeq,hkk,List.take_length];rfl
   refine hR _ _ ⟨hev,p,rfl,⟨L,G,hd ▸ hrd,fun x hx=>?_,fun x hx=>?_,fun x hx=>hx.2⟩⟩
   ·have:=hpF x hx;omega
   ·have:=hGF x hx;omega
theorem carrackref00_Copy_spec {w:World} {a:Option Addr} {l:List UInt8} {c:Nat} (h:BytesAt w a l) (hn:l.length≤140737488355232) :
  CallsR prog K.carrackref00_Copy #[.slice a l.length c] w fun v w'=>∃ a' c',v= .slice a' l.length c'∧OwnAt w' a' l.length c' T.uint8 1 (l.map bv)∧Fresh w a'∧Ext w w':=by
 apply carrackref00_Copy.sh
 unfold carrackref00_Copy.body
 refine append_bytes (l:=[]) (cap:=0) (OwnAt.nil _ _ _) h (by simpa using hn) fun a' c' w' hu ho hf=>?_
 refine ⟨a',c',rfl,ho,?_,hu.mono fun b _ hb=>by cases hb⟩
 rcases hf with hf | ⟨b,hb,hs⟩
 ·rw [hf];exact Fresh.none _
 ·rw [hb];exact Fresh.some hs
structure LPage where
 what:Int
 block:Int
 page:Int
 head:Head
 facts:List Fact
 children:List Child
 point:Point
 bytes:List UInt8
 whole:Bool
def natR (k:IntKind):ERep Nat:=flatR (fun n=>[.int k (n:Nat)]) 1 (by decide) (fun _=>rfl) (fun b v hv=>by simp at hv;rw [hv];rfl)
def headR:ERep Head:=ERep.pair u8R (ERep.pair (natR .u32) (natR .u64) (fun x:Nat×Nat=>x.1) (fun x=>x.2)) (fun x:Head=>x.kind) (fun x=>(x.era,x.seq))
def pointR:ERep Point:=ERep.pair (natR .u64) (ERep.pair intR (ERep.pair intR intR (fun x:Int×Int=>x.1) (fun x=>x.2)) (fun x:Int×(Int×Int)=>x.1) (fun x=>x.2)) (fun x:Point=>x.number) (fun x=>(x.block,(x.page,x.count)))
def lpageR:ERep LPage:=ERep.pair intR (ERep.pair intR (ERep.pair intR (ERep.pair headR (ERep.pair (sliceR factR) (ERep.pair (sliceR childR) (ERep.pair pointR (ERep.pair bytesR boolR (fun x:List UInt8×Bool=>x.1) (fun x=>x.2)) (fun x:Point×(List UInt8×Bool)=>x.1) (fun x=>x.2)) (fun x:List Child×(Point×(List UInt8×Bool))=>x.1) (fun x=>x.2)) (fun x:List Fact×(List Child×(Point×(List UInt8×Bool)))=>x.1) (fun x=>x.2)) (fun x:Head×(List Fact×(List Child×(Point×(List UInt8×Bool))))=>x.1) (fun x=>x.2)) (fun x:Int×(Head×(List Fact×(List Child×(Point×(List UInt8×Bool)))))=>x.1) (fun x=>x.2)) (fun x:Int×(Int×(Head×(List Fact×(List Child×(Point×(List UInt8×Bool))))))=>x.1) (fun x=>x.2)) (fun x:LPage=>x.what) (fun x=>(x.block,(x.page,(x.head,(x.facts,(x.children,(x.point,(x.bytes,x.whole))))))))
abbrev LPage.vals (P:LPage) (af:Option Addr) (cf:Nat) (ac:Option Addr) (cc:Nat) (ab:Option Addr) (cb:Nat):List Value:=[.int .i64 P.what,.int .i64 P.block,.int .i64 P.page,bv P.head.kind,.int .u32 (P.head.era:Nat),.int .u64 (P.head.seq:Nat),.slice af P.facts.length cf,.slice ac P.children.length cc,.int .u64 (P.point.number:Nat),.int .i64 P.point.block,.int .i64 P.point.page,.int .i64 P.point.count,.slice ab P.bytes.length cb,.bool P.whole]
theorem lpageR_elim {w:World} {G:Nat→Prop} {P:LPage} {vs:List Value} (h:lpageR.R w G vs P):∃ af cf ac cc ab cb,vs=P.vals af cf ac cc ab cb∧SliceAt factR w G af P.facts∧SliceAt childR w G ac P.children∧BytesAt w ab P.bytes:=by
 obtain ⟨v1,r1,rfl,h1,v2,r2,rfl,h2,v3,r3,rfl,h3,v4,r4,rfl,⟨k1,k2,rfl,hk1,k3,k4,rfl,hk3,hk4⟩,v5,r5,rfl,⟨af,cf,hv5,hc5,hf⟩,v6,r6,rfl,⟨ac,cc,hv6,hc6,hc⟩,v7,r7,rfl,⟨p1,p2,rfl,hp1,p3,p4,rfl,hp3,p5,p6,rfl,hp5,hp6⟩,v8,r8,rfl,⟨ab,cb,hv8,hc8,hb,_⟩,h9⟩:=h
 have e1:v1=[.int .i64 P.what]:=h1
 have e2:v2=[.int .i64 P.block]:=h2
 have e3:v3=[.int .i64 P.page]:=h3
 have f1:k1=[bv P.head.kind]:=hk1
 have f2:k3=[.int .u32 (P.head.era:Nat)]:=hk3
 have f3:k4=[.int .u64 (P.head.seq:Nat)]:=hk4
 have e5:v5=[.slice af P.facts.length cf]:=hv5
 have e6:v6=[.slice ac P.children.length cc]:=hv6
 have g1:p1=[.int .u64 (P.point.number:Nat)]:=hp1
 have g2:p3=[.int .i64 P.point.block]:=hp3
 have g3:p5=[.int .i64 P.point.page]:=hp5
 have g4:p6=[.int .i64 P.point.count]:=hp6
 have e8:v8=[.slice ab P.bytes.length cb]:=hv8
 have e9:r8=[.bool P.whole]:=h9
 rw [e1,e2,e3,f1,f2,f3,e5,e6,g1,g2,g3,g4,e8,e9]
 exact ⟨af,cf,ac,cc,ab,cb,rfl,hf,hc,hb⟩
structure LPage.Fit (P:LPage):Prop where
 facts:NamesF P.facts
 fl:P.facts.length<9000000000000000000
 children:NamesCh P.children
 cl:P.children.length<9000000000000000000
 head:P.head.Ok
 point:P.point.number<18446744073709551616
 bytes:P.bytes.length≤140737488355232
def orOne (x:UInt8):UInt8:=UInt8.ofNat ((BitVec.ofInt (IntKind.bits .u8) (x.toNat:Int) ||| BitVec.ofInt (IntKind.bits .u8) 1).toNat % 256)
def markB (b:List UInt8):List UInt8:=if 9<b.length then b.set 9 (orOne (b.getD 9 0)) else b
def rawB (P:LPage):List UInt8:=if P.what=1 then (putHead 128 P.head).1 else if P.what=2 then (putLeaf 128 P.facts).1 else if P.what=3 then (putInner 128 P.children).1 else if P.what=4 then (putPoint 128 P.point).1 else P.bytes
def pageB (P:LPage):List UInt8:=if P.whole then rawB P else markB (rawB P)
theorem carracklaw18_Page_bytes_spec {w:World} {G:Nat→Prop} {P:LPage} {af ac ab:Option Addr} {cf cc cb:Nat} (hf:SliceAt factR w G af P.facts) (hc:SliceAt childR w G ac P.children) (hb:BytesAt w ab P.bytes) (hG:∀ b,G b→b<w.heap.size) (hfit:P.Fit) :
  CallsR prog K.carracklaw18_Page_bytes #[.agg (P.vals af cf ac cc ab cb).toArray,.int .i64 128] w fun v w'=>∃ a c,v= .slice a (pageB P).length c∧BList w.heap.size w' a c (pageB P)∧Ext w w':=by
 apply carracklaw18_Page_bytes.sh
 suffices H:∀ R:Value→World→Prop,(∀ v w',(∃ a c,v= .slice a (pageB P).length c∧BList w.heap.size w' a c (pageB P)∧Ext w w')→R v w')→carracklaw18_Page_bytes.body P.what P.block P.page P.head.kind.toNat (P.head.era:Nat) (P.head.seq:Nat) af P.facts.length cf ac P.children.length cc (P.point.number:Nat) P.point.block P.point.page P.point.count ab P.bytes.length cb P.whole 128 w R from H _ fun _ _ h=>h
 intro R hR
 unfold carracklaw18_Page_bytes.body
 simp only [add_lit,Nat.zero_add]
 intro B1 w₁ hn1
 have g1:w₁.heap[B1]?=some (.cells (P.vals af cf ac cc ab cb).toArray T.carracklaw18_Page (0,0)):=hn1.get
 have e1:=hn1.upd
 have hs1:=hn1.size
 have hG1:∀ b,G b→b<w₁.heap.size:=fun b hb=>by have:=hG b hb;omega
 have fin:∀ {w₂:World} {a1:Option Addr} {c1:Nat} {b:List UInt8},rawB P=b→BList w.heap.size w₂ a1 c1 b→Ext w₁ w₂→∃ b1:Bool,World.cell? w₂ ⟨B1,13,none⟩= some (.bool b1)∧
   br (!b1) (br (decide ((b.length:Int) > 9)) (idxP a1 b.length (9:Int) 1 fun q1=>∃ x6:Int,World.cell? w₂ q1=some (.int .u8 x6)∧idxP a1 b.length (9:Int) 1 fun q2=>storeP w₂ q2 [.int .u8 (IntKind.u8.wrap ((BitVec.ofInt (IntKind.bits .u8) x6 ||| BitVec.ofInt (IntKind.bits .u8) 1).toNat:Nat))] fun w3=>R (.slice a1 b.length c1) w3) (R (.slice a1 b.length c1) w₂)) (R (.slice a1 b.length c1) w₂):=by
  intro w₂ a1 c1 b hraw hbl he2
  have e2:=e1.trans he2
  refine ⟨_,cell_of (Ext.get he2 g1) rfl,?_⟩
  cases hw:P.whole with
  | true =>
   simp only [Bool.not_true,br_false]
   have hp:pageB P=b:=by unfold pageB;rw [hw,if_pos rfl,hraw]
   rw [hp] at hR
   exact hR _ _ ⟨a1,c1,rfl,hbl,e2⟩
  | false =>
   simp only [Bool.not_false,br_true]
   have hp:pageB P=markB b:=by unfold pageB;rw [hw,if_neg (by decide),hraw]
   rw [hp] at hR
   unfold markB at hR
   refine br_dec (fun h9=>?_) fun h9=>?_
   ·rw [if_pos (show 9<b.length by omega)] at hR
    refine idx_byte hbl.bytes (by decide) (by omega) ?_
    rw [bv_mod]
    refine BList.store (i:=9) hbl (by omega) fun b0 w₃ hab hSb hu3 hl3=>?_
    have hR':=hR (.slice a1 b.length c1) w₃ ⟨a1,c1,by rw [List.length_set],hl3,e2.beyond hu3 fun x hx=>by rw [hab] at hx;cases hx;exact hSb⟩
    exact hR'
   ·rw [if_neg (show ¬ 9<b.length by omega)] at hR
    exact hR _ _ ⟨a1,c1,rfl,hbl,e2⟩
 have weak:∀ {w₂:World} {a1:Option Addr} {c1:Nat} {b:List UInt8},BList w₁.heap.size w₂ a1 c1 b→BList w.heap.size w₂ a1 c1 b:=fun h=>h.weak (by omega)
 refine ⟨_,cell_of g1 rfl,br_eq (fun h1=>?_) fun h1=>br_eq (fun h2=>?_) fun h2=>br_eq (fun h3=>?_) fun h3=>br_eq (fun h4=>?_) fun h4=>?_⟩
 ·refine ⟨P.head.kind.toNat,_,_,(RowAt.of g1 (o:=3) (vs:=[bv P.head.kind,.int .u32 (P.head.era:Nat),.int .u64 (P.head.seq:Nat)]) fun j v hj=>?_).cells,(carrackref04_PutHead_own 128 (by decide) P.head hfit.head w₁ (by decide) (by decide)).mono ?_⟩
  ·match j,hj with
   | 0,hj=>simpa using hj
   | 1,hj=>simpa using hj
   | 2,hj=>simpa using hj
   | j+3,hj=>simp at hj
  rintro _ w₂ ⟨a1,c1,rfl,hb1,he2⟩
  exact ⟨_,_,_,_,rfl,fin (by unfold rawB;rw [if_pos h1]) (weak hb1) he2⟩
 ·refine ⟨_,_,_,cell_of g1 rfl,(carrackref15_PutLeaf_spec (by decide) (by decide) (hf.ext e1) hG1 hfit.fl hfit.facts).mono ?_⟩
  rintro _ w₂ ⟨a1,c1,rfl,hb1,he2⟩
  exact ⟨_,_,_,_,rfl,fin (by unfold rawB;rw [if_neg h1,if_pos h2]) (weak hb1) he2⟩
 ·refine ⟨_,_,_,cell_of g1 rfl,(carrackref15_PutInner_spec (by decide) (by decide) (hc.ext e1) hG1 hfit.cl hfit.children).mono ?_⟩
  rintro _ w₂ ⟨a1,c1,rfl,hb1,he2⟩
  exact ⟨_,_,_,_,rfl,fin (by unfold rawB;rw [if_neg h1,if_neg h2,if_pos h3]) (weak hb1) he2⟩
 ·refine ⟨_,_,_,_,(RowAt.of g1 (o:=8) (vs:=P.point.vals) fun j v hj=>?_).cells,(carrackref17_Put_spec 128 (by decide) (by decide) P.point hfit.point w₁).mono ?_⟩
  ·match j,hj with
   | 0,hj=>simpa using hj
   | 1,hj=>simpa using hj
   | 2,hj=>simpa using hj
   | 3,hj=>simpa using hj
   | j+4,hj=>simp at hj
  rintro _ w₂ ⟨a1,c1,rfl,hb1,he2⟩
  exact ⟨_,_,_,_,rfl,fin (by unfold rawB;rw [if_neg h1,if_neg h2,if_neg h3,if_pos h4]) (weak hb1) he2⟩
 ·refine ⟨_,_,_,cell_of g1 rfl,(carrackref00_Copy_spec (c:=cb) (hb.ext e1) hfit.bytes).mono ?_⟩
  rintro _ w₂ ⟨a1,c1,rfl,ho1,hf1,he2⟩
  exact ⟨_,_,_,rfl,fin (by unfold rawB;rw [if_neg h1,if_neg h2,if_neg h3,if_neg h4]) ⟨ho1,fun b hb=>by have:=hf1 _ hb;show w.heap.size≤b;have h':w₁.heap.size≤b:=this;omega⟩ he2⟩
def modU (x:Int) (n:Int):Nat:=(Int.tmod (IntKind.u64.wrap x) n).toNat
theorem u64_range (x:Int):0≤IntKind.u64.wrap x∧IntKind.u64.wrap x<18446744073709551616:=by
 rw [wu64_mod]
 exact ⟨Int.emod_nonneg _ (by decide),Int.emod_lt_of_pos _ (by decide)⟩
theorem modU_lt (x:Int) {n:Nat} (h:0<n):modU x n<n∧(Int.tmod (IntKind.u64.wrap x) n)=(modU x n:Nat):=by
 obtain ⟨h0,_⟩:=u64_range x
 obtain ⟨m,hm⟩: ∃ m:Nat,IntKind.u64.wrap x=m:=⟨(IntKind.u64.wrap x).toNat,by omega⟩
 unfold modU
 rw [hm,tmod_nat]
 have:=Nat.mod_lt m h
 constructor<;>simp<;>omega
def LPage.off (P:LPage):Nat:=(modU P.block 8 * 6+modU P.page 6) * 128
theorem LPage.off_le (P:LPage):P.off+128≤6144:=by
 have h1:=(modU_lt P.block (n:=8) (by decide)).1
 have h2:=(modU_lt P.page (n:=6) (by decide)).1
 have h1':modU P.block 8<8:=h1
 have h2':modU P.page 6<6:=h2
 unfold LPage.off
 omega
def setB (all:List UInt8) (o:Nat) (x:List UInt8):List UInt8:=all.take o ++ x ++ all.drop (o+x.length)
theorem setB_length {all:List UInt8} {o:Nat} {x:List UInt8} (h:o+x.length≤all.length):(setB all o x).length=all.length:=by
 unfold setB
 simp only [List.length_append,List.length_take,List.length_drop]
 omega
theorem setB_succ {all x:List UInt8} {o m:Nat} (hm:m<x.length) (h:o+m<all.length):(setB all o (x.take m)).set (o+m) (x.getD m 0)=setB all o (x.take (m+1)):=by
 unfold setB
 have h1:(x.take m).length=m:=by rw [List.length_take];omega
 have h2:(x.take (m+1)).length=m+1:=by rw [List.length_take];omega
 have he:x.take (m+1)=x.take m ++ [x[m]]:=List.take_succ_eq_append_getElem hm
 rw [h1,h2]
 have h3:(all.take o ++ x.take m).length=o+m:=by rw [List.length_append,h1,List.length_take];omega
 have h4:all.drop (o+m)=all[o+m]'(by omega) :: all.drop (o+(m+1)):=List.drop_eq_getElem_cons (by omega)
 have h5:x.getD m 0=x[m]:=by rw [List.getD_eq_getElem?_getD,List.getElem?_eq_getElem hm];rfl
 rw [h4,List.set_append_right _ _ (by omega),h3,Nat.sub_self,List.set_cons_zero,h5,he]
 simp only [List.append_assoc,List.cons_append,List.nil_append]
def layB (all:List UInt8) (P:LPage):List UInt8:=setB all P.off ((pageB P).take 128)
def laidB (l:List LPage):List UInt8:=(l.take 60).foldl layB (List.replicate 6144 255)
theorem laidB_len:∀ (l:List LPage) (all:List UInt8),all.length=6144→(l.foldl layB all).length=6144
 | [],all,h=>h
 | P :: l,all,h=>by
  refine laidB_len l (layB all P) ?_
  have:=P.off_le
  unfold layB
  rw [setB_length (by rw [List.length_take];omega),h]
def chip18 (l:List LPage):Chip:=loadChip 8 6 128 0 (laidB l) []
def FitP (l:List LPage):Prop:=∀ P∈l,P.Fit
theorem carracklaw18_geo_spec (w:World):CallsR prog K.carracklaw18_geo #[] w fun v w'=>v= .agg #[.int .i64 8,.int .i64 6,.int .i64 128,.int .i64 0]∧Ext w w':=by
 apply carracklaw18_geo.sh
 unfold carracklaw18_geo.body
 exact new_put (vs:=[.int .i64 8,.int .i64 6,.int .i64 128,.int .i64 0]) rfl fun B1 w₂ hb1 hs2 he2 g2=>⟨_,_,_,_,cells_all g2,rfl,he2⟩
theorem spoil_bytes {S:Nat} {w:World} {a:Option Addr} {l:List UInt8} (h:BList S w a l.length l) (hne:l≠[]) (hn:l.length<1000000000) (d:UInt8) :
  CallsR prog K.carrackref00_Spoil #[.slice a l.length l.length,bv d] w fun v w'=>v= .tuple #[]∧∃ l':List UInt8,l'.length=l.length∧BList S w' a l.length l'∧Upd (fun x=>a=some ⟨x,0,none⟩) w w':=by
 apply carrackref00_Spoil.sh
 unfold carrackref00_Spoil.body
 obtain ⟨b,rfl⟩: ∃ b,a=some ⟨b,0,none⟩:=by
  rcases h.1.2.2 with ⟨_,hx,_⟩| ⟨b,cur,hx,_⟩
  ·exact absurd (List.eq_nil_of_length_eq_zero hx) hne
  ·exact ⟨b,hx⟩
 have hpos:0<l.length:=List.length_pos_iff.2 hne
 refine slice_any (lo:=0) (hi:=l.length) (mx:=l.length) (by simp) (by simp) (by simp) (by omega) (by omega) (by omega) (by simp) fun a2 ha2=>?_
 have ha2:a2=some ⟨b,0,none⟩:=by
  rcases ha2 with h | ⟨h,_⟩
  ·simpa using h
  ·omega
 subst ha2
 rw [Nat.sub_zero]
 refine ⟨fun x u=>∃ (i:Nat) (l':List UInt8),x=i∧i≤l.length∧l'.length=l.length∧BList S u (some ⟨b,0,none⟩) l.length l'∧Upd (fun x=>some (⟨b,0,none⟩: Addr)=some ⟨x,0,none⟩) w u,fun x _=>((l.length:Int) - x).toNat,⟨0,l,rfl,by omega,rfl,h,Upd.refl _ _⟩,?_⟩
 rintro x u ⟨i,l',rfl,hi,hl',hb,hu⟩
 refine br_dec (fun hlt=>?_) fun _=>⟨rfl,l',hl',hb,hu⟩
 have hi':i<l.length:=by omega
 have ew:IntKind.i64.wrap ((i:Int)+1)=((i+1:Nat):Int):=w64 (by omega) (by omega)
 simp only [ew]
 rw [← hl']
 refine idx_byte hb.bytes (by omega) (by omega) ?_
 have e2:((l'.getD (Int.toNat (i:Int)) 0).toNat:Int)+(d.toNat:Int)=(((l'.getD (Int.toNat (i:Int)) 0).toNat+d.toNat:Nat):Int):=by omega
 rw [e2,bv_mod]
 have hb':=hb
 rw [← hl'] at hb'
 refine BList.store (i:=i) hb' (by omega) fun b0 w₃ hab hSb hu3 hl3=>⟨⟨i+1,_,rfl,by omega,by rw [List.length_set],hl3,?_⟩,meas (by omega)⟩
 rw [hl'] at *
 exact hu.trans hu3
theorem carracklaw18_laid_spec {l:List LPage} {w:World} {G:Nat→Prop} {a:Option Addr} {c:Nat} (h:SliceAt lpageR w G a l) (hG:∀ b,G b→b<w.heap.size) (hfit:FitP l) :
  CallsR prog K.carracklaw18_laid #[.slice a l.length c,.slice none 0 0] w fun v w'=>Ext w w'∧∃ p,v= .tuple #[.pointer (some ⟨p,0,none⟩),.bool true]∧ChipAt w' p (chip18 l) (fun x=>w.heap.size≤x∧x<w'.heap.size):=by
 apply carracklaw18_laid.sh
 suffices H:∀ R:Value→World→Prop,(∀ v w',(Ext w w'∧∃ p,v= .tuple #[.pointer (some ⟨p,0,none⟩),.bool true]∧ChipAt w' p (chip18 l) (fun x=>w.heap.size≤x∧x<w'.heap.size))→R v w')→carracklaw18_laid.body a l.length c none 0 0 w R from H _ fun _ _ h=>h
 intro R hR
 unfold carracklaw18_laid.body
 refine (carracklaw18_geo_spec w).mono ?_
 rintro _ w₁ ⟨rfl,he1⟩
 refine ⟨_,_,_,_,rfl,new_put (vs:=[.int .i64 8,.int .i64 6,.int .i64 128,.int .i64 0]) rfl fun B1 w₃ hb1 hs3 he3 g3=>?_⟩
 simp only [add_lit,Nat.zero_add]
 refine ⟨_,cell_of g3 rfl,_,cell_of g3 rfl,_,cell_of g3 rfl,?_⟩
 have q0:IntKind.i64.wrap (IntKind.i64.wrap (8 * 6) * 128)=6144:=by rw [w64 (x:=8 * 6) (by decide) (by decide),w64 (by decide) (by decide)];rfl
 rw [q0]
 refine ⟨by decide,by decide,by decide,by decide,rfl,fun Ba w₄ hn4=>?_⟩
 have hs1:=he1.size
 have hs4:=hn4.size
 have hba:Ba=w₃.heap.size:=hn4.num
 have e4:Ext w w₄:=(he1.trans he3).trans hn4.upd
 have st0:BList w₃.heap.size w₄ (some ⟨Ba,0,none⟩) 6144 (List.replicate 6144 0):=by
  have:=BList.new (S:=w₃.heap.size) (l:=List.replicate 6144 0) hn4 (zeros_bytes1 _) (Nat.le_refl _)
  rw [List.length_replicate] at this
  exact this
 obtain ⟨N,hN⟩: ∃ N:Nat,N=6144:=⟨_,rfl⟩
 have hN':Int.toNat 6144=N:=hN.symm
 rw [hN']
 rw [← hN] at st0
 let ST:List UInt8→World→Prop:=fun l u=>l.length=N∧BList w₃.heap.size u (some ⟨Ba,0,none⟩) N l∧Ext w u∧u.heap[B1]?=some (.cells [Value.int .i64 8,.int .i64 6,.int .i64 128,.int .i64 0].toArray T.api_Geo (0,0))∧w₄.heap.size≤u.heap.size
 have keepU:∀ {l:List UInt8} {u u':World} {F:Nat→Prop},ST l u→Upd F u u'→(∀ x,F x→w₄.heap.size≤x)→ST l u':=fun {l u u' F} h k hF =>
  ⟨h.1,⟨h.2.1.1.upd k fun b hb hf=>by cases hb;have:=hF _ hf;omega,h.2.1.2⟩,h.2.2.1.beyond k fun x hx=>by have:=hF x hx;omega,k.get h.2.2.2.1 (fun hf=>by have:=hF _ hf;omega),Nat.le_trans h.2.2.2.2 k.size⟩
 have keep:∀ {l:List UInt8} {u u':World},ST l u→Ext u u'→ST l u':=fun h k=>keepU h k fun _ hf=>hf.elim
 have put:∀ {l:List UInt8} {u:World} {j:Nat} {x:UInt8} {K:World→Prop},ST l u→j<N→(∀ u',Upd (·=Ba) u u'→ST (l.set j x) u'→K u')→idxP (some ⟨Ba,0,none⟩) N (j:Int) 1 fun q=>storeP u q [bv x] K:=fun {l u j x K} hst h1 hk=>by
  obtain ⟨hl,hbl,h2,h3,h4⟩:=hst
  have:=hbl.store (i:=j) (x:=x) (K:=K) (by omega) fun b w' hb hS hu hl'=>hk w' (hu.mono fun x _ hx=>by cases hx;rfl) ⟨by rw [List.length_set];exact hl,hl',h2.beyond hu fun x hx=>by cases hx;omega,hu.get h3 (fun hx=>by cases hx;omega),Nat.le_trans h4 hu.size⟩
  rw [hl] at this
  exact this
 have st4:ST (List.replicate N 0) w₄:=⟨by rw [List.length_replicate],st0,e4,Ext.get hn4.upd g3,Nat.le_refl _⟩
 have ewi:∀ {i:Nat},i<17592186044000→IntKind.i64.wrap ((i:Int)+1)=((i+1:Nat):Int):=fun h=>w64 (by omega) (by omega)
 have st0':BList w₃.heap.size w₄ (some ⟨Ba,0,none⟩) (List.replicate N (0:UInt8)).length (List.replicate N 0):=by rw [List.length_replicate];exact st0
 have hspoil:=spoil_bytes st0' (by intro e;have:=congrArg List.length e;rw [List.length_replicate] at this;simp at this;omega) (by rw [List.length_replicate];omega) 255
 rw [List.length_replicate] at hspoil
 refine hspoil.mono ?_
 rintro _ w₅ ⟨rfl,l5,hl5,hbl5,hu5⟩
 have st5:ST l5 w₅:=⟨hl5,hbl5,e4.beyond hu5 fun x hx=>by cases hx;omega,hu5.get (Ext.get hn4.upd g3) (fun hx=>by cases hx;omega),hu5.size⟩
 refine ⟨rfl,fun x u=>∃ (i:Nat) (lb:List UInt8),x=i∧i≤N∧ST lb u∧lb.take i=List.replicate i 255,fun x _=>((N:Int) - x).toNat,⟨0,l5,rfl,by omega,st5,by simp⟩,?_⟩
 rintro x u ⟨i,lb,rfl,hi,stu,hti⟩
 refine br_dec (fun hlt=>?_) fun hge=>?_
 ·have hi':i<N:=by omega
  have ew:=ewi (i:=i) (by omega)
  simp only [ew,ff_bv]
  refine put stu (by omega) fun u' _ st'=>⟨⟨i+1,_,rfl,hi',st',?_⟩,meas hi'⟩
  have hlb:=stu.1
  rw [List.take_succ_eq_append_getElem (by rw [List.length_set];omega),List.getElem_set_self,List.take_set_of_le (by omega),hti,List.replicate_succ']
 have hiN:i=N:=by omega
 subst hiN
 have hlb:lb=List.replicate 6144 255:=by
  have hl:=stu.1
  rw [List.take_of_length_le (by omega)] at hti
  rw [hti,hN]
 subst hlb
 have load:∀ {u:World},ST (laidB l) u→∃ (J4:Option Addr→Nat→Nat→Int→World→Prop) (μ3:Option Addr→Nat→Nat→Int→World→Nat),J4 none 0 0 0 u∧
   ∀ (a2:Option Addr) (l2 c2:Nat) (x10:Int) (w9:World),J4 a2 l2 c2 x10 w9→br (decide (x10<((0:Nat):Int))) (
    br (decide (x10<8)) (idxP none 0 x10 1 fun q2=>∃ x11:Int,World.cell? w9 q2=some (.int .i64 x11)∧(8:Int)≠0∧∀ (B2:Nat) (w10:World),New w9 (.cells #[.int .i64 (IntKind.i64.wrap (Int.tmod (IntKind.u64.wrap x11) 8))] T.int) B2 w10→
     appendP T.int 1 8 [.int .i64 0] a2 l2 c2 (.slice (some ⟨B2,0,none⟩) 1 1) w10 fun a3 l3 c3 w11=>J4 a3 l3 c3 (IntKind.i64.wrap (x10+1)) w11∧μ3 a3 l3 c3 (IntKind.i64.wrap (x10+1)) w11 < μ3 a2 l2 c2 x10 w9)
     (∃ x12 x13:Int,∃ x14 x15:Int,cellsAt w9 ⟨B1,0,none⟩ [.int .i64 x12,.int .i64 x13,.int .i64 x14,.int .i64 x15] 0∧CallsR prog K.nand_Load #[.agg #[.int .i64 x12,.int .i64 x13,.int .i64 x14,.int .i64 x15],.slice (some ⟨Ba,0,none⟩) i i,.slice a2 l2 c2] w9 fun v3 w12=>∃ p1:Option Addr,∃ x16:Int,v3= .tuple #[.pointer p1,.int .i64 x16]∧R (.tuple #[.pointer p1,.bool (x16 == 0)]) w12))
    (∃ x12 x13:Int,∃ x14 x15:Int,cellsAt w9 ⟨B1,0,none⟩ [.int .i64 x12,.int .i64 x13,.int .i64 x14,.int .i64 x15] 0∧CallsR prog K.nand_Load #[.agg #[.int .i64 x12,.int .i64 x13,.int .i64 x14,.int .i64 x15],.slice (some ⟨Ba,0,none⟩) i i,.slice a2 l2 c2] w9 fun v3 w12=>∃ p1:Option Addr,∃ x16:Int,v3= .tuple #[.pointer p1,.int .i64 x16]∧R (.tuple #[.pointer p1,.bool (x16 == 0)]) w12):=fun {u} stu=>by
  refine ⟨fun a2 l2 c2 x v=>a2=none∧l2=0∧c2=0∧x=0∧v=u,fun _ _ _ _ _=>0,⟨rfl,rfl,rfl,rfl,rfl⟩,?_⟩
  rintro a2 l2 c2 x v ⟨rfl,rfl,rfl,rfl,rfl⟩
  refine br_dec (fun h=>absurd h (by simp)) fun _=>?_
  obtain ⟨hl,hbl,h2,h3,h4⟩:=stu
  refine ⟨_,_,_,_,cells_all h3,?_⟩
  have hld:=nand_Load_all (nb:=8) (np:=6) (sz:=128) (sp:=0) (c:=i) v (by decide) (by decide) (by decide) (by decide) (by decide) (by decide) (by decide) hbl.bytes (by rw [hl,hN]) (by omega) (ai:=none) (is:=[]) (ci:=0) (RowAt.nil _ _) (fun x hx=>by cases hx) (by decide)
  rw [hl] at hld
  refine hld.mono ?_
  rintro _ w' ⟨he,p,rfl,hc⟩
  have hsu:=h2.size
  exact ⟨_,_,rfl,hR _ _ ⟨h2.trans he,p,rfl,hc.mono (fun x hx=>⟨by omega,hx.2⟩) fun x hx=>hx.2⟩⟩
 refine ⟨fun x u=>∃ k:Nat,x=k∧k≤l.length∧k≤60∧ST ((l.take k).foldl layB (List.replicate 6144 255)) u,fun x _=>((60:Int) - x).toNat,⟨0,rfl,by omega,by omega,stu⟩,?_⟩
 rintro x v ⟨k,rfl,hk,hk60,stv⟩
 have all60:(k=l.length∨k=60)→ST (laidB l) v:=fun hor=>by
  have:l.take k=l.take 60:=by
   rcases hor with h | h
   ·rw [h,List.take_length,List.take_of_length_le (by omega)]
   ·rw [h]
  rw [this] at stv
  exact stv
 refine ⟨fun u'=>u'=v∧k<l.length∧k<60,br_dec (fun hlt=>br_dec (fun hlt60=>⟨rfl,by omega,by omega⟩) fun _=>load (all60 (.inr (by omega)))) fun _=>load (all60 (.inl (by omega))),?_⟩
 rintro _ ⟨rfl,hkl,hk6⟩
 rename_i v
 have ewk:=ewi (i:=k) (by omega)
 simp only [ewk]
 have hGv:∀ b,G b→b<v.heap.size:=fun b hb=>by have:=hG b hb;have:=stv.2.2.1.size;omega
 refine SliceAt.idx (r:=lpageR) (h.ext stv.2.2.1) rfl hkl fun b o vs ha hrow hR' hG'=>?_
 obtain ⟨af,cf,ac,cc,ab,cb,rfl,hf,hc,hby⟩:=lpageR_elim hR'
 refine ⟨_,_,_,_,_,_,_,_,_,_,_,_,_,_,_,_,_,_,_,_,hrow.cells,new_put (vs:=l[k].vals af cf ac cc ab cb) rfl fun B4 w₂₁ hb4 hs21 he21 g21=>⟨_,_,_,_,_,_,_,_,_,_,_,_,_,_,_,_,_,_,_,_,cells_all g21,?_⟩⟩
 have st21:=keep stv he21
 refine ⟨_,cell_of st21.2.2.2.1 rfl,?_⟩
 have hfk:=hfit _ (List.getElem_mem hkl)
 refine (carracklaw18_Page_bytes_spec (cf:=cf) (cc:=cc) (cb:=cb) (hf.ext he21) (hc.ext he21) (hby.ext he21) (fun b hb=>by have:=hGv b hb;have:=he21.size;omega) hfk).mono ?_
 rintro _ w₂₂ ⟨a12,c12,rfl,hpb,he22⟩
 have st22:=keep st21 he22
 have g22:=Ext.get he22 g21
 refine ⟨_,_,_,rfl,_,cell_of g22 rfl,by decide,_,cell_of st22.2.2.2.1 rfl,_,cell_of g22 rfl,by decide,_,cell_of st22.2.2.2.1 rfl,?_⟩
 obtain ⟨m1,m2⟩:=modU_lt l[k].block (n:=8) (by decide)
 obtain ⟨m3,m4⟩:=modU_lt l[k].page (n:=6) (by decide)
 have m2':Int.tmod (IntKind.u64.wrap l[k].block) 8=(modU l[k].block 8:Nat):=m2
 have m4':Int.tmod (IntKind.u64.wrap l[k].page) 6=(modU l[k].page 6:Nat):=m4
 have m1':modU l[k].block 8<8:=m1
 have m3':modU l[k].page 6<6:=m3
 have hoff:IntKind.i64.wrap (IntKind.i64.wrap (IntKind.i64.wrap (IntKind.i64.wrap (Int.tmod (IntKind.u64.wrap l[k].block) 8) * 6)+IntKind.i64.wrap (Int.tmod (IntKind.u64.wrap l[k].page) 6)) * 128)=((l[k].off:Nat):Int):=by
  rw [m2',m4',w64n (m:=modU l[k].block 8) (by omega),w64n (m:=modU l[k].page 6) (by omega),w64 (x:=((modU l[k].block 8:Nat):Int) * 6) (by omega) (by omega),w64 (x:=((modU l[k].block 8:Nat):Int) * 6+((modU l[k].page 6:Nat):Int)) (by omega) (by omega),w64 (by omega) (by omega)]
  unfold LPage.off
  omega
 simp only [hoff]
 have hol:=l[k].off_le
 have hall:=stv.1
 have hnext:(l.take (k+1)).foldl layB (List.replicate 6144 255)=layB ((l.take k).foldl layB (List.replicate 6144 255)) l[k]:=by
  rw [List.take_succ_eq_append_getElem hkl,List.foldl_append];rfl
 generalize (l.take k).foldl layB (List.replicate 6144 255)=cur at *
 change _=setB cur l[k].off ((pageB l[k]).take 128) at hnext
 have hpl:(pageB l[k]).length=(pageB l[k]).length:=rfl
 generalize hx:pageB l[k]=pb at *
 refine ⟨fun x z=>∃ m:Nat,x=m∧m≤pb.length∧m≤128∧ST (setB cur l[k].off (pb.take m)) z∧BytesAt z a12 pb,fun x _=>((128:Int) - x).toNat,⟨0,rfl,by omega,by omega,by simpa [setB] using st22,hpb.bytes⟩,?_⟩
 rintro x z ⟨m,rfl,hm,hm128,stz,hbz⟩
 have done:(m=pb.length∨m=128)→(∃ k':Nat,((k+1:Nat):Int)=k'∧k'≤l.length∧k'≤60∧ST ((l.take k').foldl layB (List.replicate 6144 255)) z)∧((60:Int) - ((k+1:Nat):Int)).toNat<((60:Int) - (k:Int)).toNat:=fun hor=>by
  refine ⟨⟨k+1,rfl,by omega,by omega,?_⟩,by omega⟩
  rw [hnext]
  have:pb.take m=pb.take 128:=by
   rcases hor with h | h
   ·rw [h,List.take_length,List.take_of_length_le (by omega)]
   ·rw [h]
  rw [← this]
  exact stz
 refine br_dec (fun hlt=>⟨_,cell_of stz.2.2.2.1 rfl,br_dec (fun hlt1=>?_) fun _=>done (.inr (by omega))⟩) fun _=>done (.inl (by omega))
 have hm':m<pb.length:=by omega
 have hm1:m<128:=by omega
 refine idx_byte hbz (by omega) (by omega) ?_
 simp only [Int.toNat_natCast,ewi (show m<17592186044000 by omega)]
 have q7:IntKind.i64.wrap (((l[k].off:Nat):Int)+(m:Int))=((l[k].off+m:Nat):Int):=by rw [w64 (by omega) (by omega)];omega
 rw [q7]
 refine put stz (by omega) fun u' hu st'=>⟨⟨m+1,rfl,hm',hm1,?_,RowAt.upd hbz hu fun p hp e=>?_⟩,by omega⟩
 ·rw [setB_succ hm' (by omega)] at st'
  exact st'
 ·have:=(hpb.lt hp).1
  have:=st21.2.2.2.2
  omega
def treeBlocks (c:Chip) (era:Nat):List Nat:=((refTaken c).filter (ofKind 2 era)).map Taken.block
def pointAt (c:Chip) (b k:Nat):Option Point :=
 if (getPage (c.page b k)).2.2≠0 then none
 else if (getPage (c.page b k)).1≠6 then none
 else if (getPoint (getPage (c.page b k)).2.1).2≠0 then none
 else some (getPoint (getPage (c.page b k)).2.1).1
def newerS (acc:Option (Point×Nat×Nat)) (x:Point×Nat×Nat):Option (Point×Nat×Nat) :=
 match acc with
 | none=>some x
 | some y=>if y.1.number > x.1.number then some y else some x
def spotsB (c:Chip) (b:Nat) (n:Nat):List (Point×Nat×Nat):=(List.range n).filterMap fun k=>if k=0 then none else (pointAt c b k).map fun p=>(p,b,k)
def newestS (c:Chip) (era:Nat):Option (Point×Nat×Nat):=((treeBlocks c era).flatMap fun b=>spotsB c b c.np).foldl newerS none
structure TreeS where
 pages:List Place
 facts:List Fact
 depth:Nat
def lastAhead (l:List Fact) (k:Key):Bool :=
 match l.getLast? with
 | some y=>before y.key k
 | none=>true
def leafT (t:TreeS) (l:List Fact×Nat) (d:Nat):Option (Key×TreeS) :=
 if l.2≠0 then none
 else if t.depth≠0∧t.depth≠d then none
 else match l.1 with
  | []=>none
  | x :: r=>if lastAhead t.facts x.key=false then none else some (x.key,{ t with facts:=t.facts ++ (x :: r),depth:=d })
def kidsS (down:TreeS→Place→Option (Key×TreeS)):List Child→TreeS→Option TreeS
 | [],t=>some t
 | x :: l,t=>match down t ⟨x.block,x.page⟩ with
  | some (k,t')=>if k=x.key then kidsS down l t' else none
  | none=>none
def downS (c:Chip) (bs:List Nat):Nat→TreeS→Place→Nat→Option (Key×TreeS)
 | 0,_,_,_=>none
 | f+1,t,p,d =>
  if 12<d∨p.page≤0∨p.block ∉ bs.map Int.ofNat∨p∈t.pages then none
  else if c.ask p.block p.page≠0 then none
  else
   let g:=getPage (c.page p.block.toNat p.page.toNat)
   if g.2.2≠0 then none
   else if g.1=4 then leafT { t with pages:=t.pages ++ [p] } (getLeaf g.2.1) d
   else if g.1=5 then
    if (getInner g.2.1).2≠0 then none
    else match (getInner g.2.1).1 with
     | []=>none
     | x :: r=>match kidsS (fun t p=>downS c bs f t p (d+1)) (x :: r) { t with pages:=t.pages ++ [p] } with
      | some t'=>some (x.key,t')
      | none=>none
   else none
def walkS (c:Chip) (bs:List Nat) (p:Point):Option TreeS :=
 if p.count=0 then some ⟨[],[],0⟩
 else match downS c bs 13 ⟨[],[],0⟩ ⟨p.block,p.page⟩ 1 with
  | some (_,t)=>if (t.facts.length:Int)=p.count then some t else none
  | none=>none
theorem leafS_ok (k:Key) (s:St) (h:(leafS k s).2.1=0):(leafS k s).1.key=k∧(leafS k s).1.val.length<256:=by
 have hl:=rowS_len s
 unfold leafS at h ⊢
 simp only at h ⊢
 split at h
 ·cases h
 ·rename_i h1
  rw [if_neg h1]
  split at h
  ·cases h
  ·rename_i h2
   rw [if_neg h2]
   exact ⟨rfl,hl⟩
theorem listGo_all {α:Type} {key:α→Key} {one:Key→St→α×Nat×St} {P:α→Prop} (hone:∀ s:St,(one (keyS s).1 (keyS s).2.2).2.1=0→P (one (keyS s).1 (keyS s).2.2).1):∀ (n:Nat) (s:St) (acc:List α),(∀ x∈acc,P x)→(∀ x∈(listGo key one n s acc).1,P x)∧(listGo key one n s acc).1.length≤acc.length+n
 | 0,s,acc,h=>by
  unfold listGo
  split
  ·exact ⟨fun x hx=>(by cases hx),Nat.zero_le _⟩
  ·exact ⟨h,Nat.le_refl _⟩
 | n+1,s,acc,h=>by
  unfold listGo
  simp only
  split
  ·exact ⟨fun x hx=>(by cases hx),Nat.zero_le _⟩
  ·split
   ·exact ⟨fun x hx=>(by cases hx),Nat.zero_le _⟩
   ·split
    ·exact ⟨fun x hx=>(by cases hx),Nat.zero_le _⟩
    ·rename_i h1 h2 h3
     obtain ⟨q1,q2⟩:=listGo_all hone n (one (keyS s).1 (keyS s).2.2).2.2 (acc ++ [(one (keyS s).1 (keyS s).2.2).1]) fun x hx=>by
      rcases List.mem_append.1 hx with hx | hx
      ·exact h x hx
      ·rw [List.mem_singleton.1 hx];exact hone s (by omega)
     refine ⟨q1,?_⟩
     rw [List.length_append,List.length_singleton] at q2
     omega
theorem listS_all {α:Type} {key:α→Key} {one:Key→St→α×Nat×St} {P:α→Prop} (hone:∀ s:St,(one (keyS s).1 (keyS s).2.2).2.1=0→P (one (keyS s).1 (keyS s).2.2).1) (b:List UInt8):(∀ x∈(listS key one b).1,P x)∧(listS key one b).1.length≤255:=by
 unfold listS
 split
 ·exact ⟨fun x hx=>(by cases hx),Nat.zero_le _⟩
 ·split
  ·exact ⟨fun x hx=>(by cases hx),Nat.zero_le _⟩
  ·obtain ⟨q1,q2⟩:=listGo_all (key:=key) hone (takeS 1 (some b)).1 (takeS 1 (some b)).2.2 [] (fun x hx=>by cases hx)
   have:=takeS_lt 1 (some b)
   refine ⟨q1,?_⟩
   simp only [List.length_nil] at q2
   omega
theorem getLeaf_ok (b:List UInt8):(∀ f∈(getLeaf b).1,f.key.name.size<256∧f.val.length<256)∧(getLeaf b).1.length≤255 :=
 listS_all (P:=fun f:Fact=>f.key.name.size<256∧f.val.length<256) (fun s h=>by
  obtain ⟨h1,h2⟩:=leafS_ok _ _ h
  exact ⟨by rw [h1];exact keyS_name s,h2⟩) b
theorem innerS_ok (k:Key) (s:St) (h:(innerS k s).2.1=0):(innerS k s).1.key=k∧0≤(innerS k s).1.block∧(innerS k s).1.block<256∧0≤(innerS k s).1.page∧(innerS k s).1.page<256:=by
 have h1:=takeS_lt 1 s
 have h2:=takeS_lt 1 (takeS 1 s).2.2
 unfold innerS at h ⊢
 simp only at h ⊢
 split at h
 ·cases h
 ·rename_i h3
  rw [if_neg h3]
  split at h
  ·cases h
  ·rename_i h4
   rw [if_neg h4]
   refine ⟨rfl,?_,?_,?_,?_⟩<;>simp only<;>omega
theorem getInner_ok (b:List UInt8):(∀ x∈(getInner b).1,x.key.name.size<256∧0≤x.block∧x.block<256∧0≤x.page∧x.page<256)∧(getInner b).1.length≤255 :=
 listS_all (P:=fun x:Child=>x.key.name.size<256∧0≤x.block∧x.block<256∧0≤x.page∧x.page<256) (fun s h=>by
  obtain ⟨h1,h2⟩:=innerS_ok _ _ h
  exact ⟨by rw [h1];exact keyS_name s,h2⟩) b
structure TreeS.Ok (c:Chip) (t:TreeS):Prop where
 nodup:t.pages.Nodup
 read:∀ x∈t.pages,c.ask x.block x.page=0
 len:t.facts.length≤255 * t.pages.length
 facts:∀ f∈t.facts,f.key.name.size<256∧f.val.length<256
theorem TreeS.Ok.nil (c:Chip):TreeS.Ok c ⟨[],[],0⟩:=⟨List.nodup_nil,fun _ h=>(by cases h),Nat.le_refl _,fun _ h=>(by cases h)⟩
theorem prod_len (a b:Nat):((List.range a).flatMap fun i:Nat=>(List.range b).map fun k:Nat=>(⟨(i:Int),(k:Int)⟩: Place)).length=a * b:=by
 induction a with
 | zero=>simp
 | succ n ih=>rw [List.range_succ,List.flatMap_append,List.length_append,ih];simp [Nat.succ_mul]
theorem TreeS.Ok.pages_len {c:Chip} {t:TreeS} (h:t.Ok c):t.pages.length≤c.nb * c.np:=by
 rw [← prod_len c.nb c.np]
 refine sub_len h.nodup fun x hx=>?_
 obtain ⟨_,h1,h2,h3,h4⟩:=ask_none0 (h.read x hx)
 refine List.mem_flatMap.2 ⟨x.block.toNat,List.mem_range.2 (by omega),List.mem_map.2 ⟨x.page.toNat,List.mem_range.2 (by omega),?_⟩⟩
 cases x
 simp only [Place.mk.injEq]
 simp only at h1 h3
 omega
theorem TreeS.Ok.small {c:Chip} {t:TreeS} (h:t.Ok c) (hc:c.Ok):t.pages.length≤2048∧t.facts.length≤522240:=by
 have h1:=h.pages_len
 have h2:=hc.nb2
 have h3:=hc.np2
 have:c.nb * c.np≤64 * 32:=Nat.mul_le_mul h2 h3
 have:=h.len
 omega
theorem TreeS.Ok.add {c:Chip} {t:TreeS} (h:t.Ok c) {p:Place} (hp:p ∉ t.pages) (ha:c.ask p.block p.page=0):TreeS.Ok c { t with pages:=t.pages ++ [p] }:=by
 refine ⟨?_,?_,?_,h.facts⟩
 ·refine List.nodup_append.2 ⟨h.nodup,by simp,fun x hx y hy=>?_⟩
  rw [List.mem_singleton.1 hy]
  exact fun e=>hp (e ▸ hx)
 ·intro x hx
  rcases List.mem_append.1 hx with hx | hx
  ·exact h.read x hx
  ·rw [List.mem_singleton.1 hx];exact ha
 ·have:=h.len
  show t.facts.length≤255 * (t.pages ++ [p]).length
  rw [List.length_append,List.length_singleton]
  omega
theorem leafT_some {t t':TreeS} {l:List Fact×Nat} {d:Nat} {k:Key} (h:leafT t l d=some (k,t')):l.2=0∧(t.depth=0∨t.depth=d)∧∃ x r,l.1=x :: r∧lastAhead t.facts x.key=true∧k=x.key∧t'={ t with facts:=t.facts ++ l.1,depth:=d }:=by
 unfold leafT at h
 split at h
 ·cases h
 ·rename_i h1
  split at h
  ·cases h
  ·rename_i h2
   split at h
   ·cases h
   ·rename_i x r h3
    split at h
    ·cases h
    ·rename_i h4
     cases h
     exact ⟨by omega,by omega,x,r,h3,by simpa using h4,rfl,by rw [h3]⟩
theorem leafT_ok {c:Chip} {t t':TreeS} {p:Place} {b:List UInt8} {d:Nat} {k:Key} (h:t.Ok c) (hp:p ∉ t.pages) (ha:c.ask p.block p.page=0) (hl:leafT { t with pages:=t.pages ++ [p] } (getLeaf b) d=some (k,t')):t'.Ok c:=by
 obtain ⟨_,_,x,r,hx,_,_,rfl⟩:=leafT_some hl
 have ho:=h.add hp ha
 obtain ⟨g1,g2⟩:=getLeaf_ok b
 refine ⟨ho.nodup,ho.read,?_,?_⟩
 ·have:=h.len
  show (t.facts ++ (getLeaf b).1).length≤255 * (t.pages ++ [p]).length
  rw [List.length_append,List.length_append,List.length_singleton]
  omega
 ·intro f hf
  rcases List.mem_append.1 hf with hf | hf
  ·exact h.facts f hf
  ·exact g1 f hf
theorem kidsS_ok {c:Chip} {down:TreeS→Place→Option (Key×TreeS)} (hd:∀ t p k t',t.Ok c→down t p=some (k,t')→t'.Ok c):∀ (l:List Child) (t t':TreeS),t.Ok c→kidsS down l t=some t'→t'.Ok c
 | [],t,t',h,e=>by cases e;exact h
 | x :: l,t,t',h,e=>by
  unfold kidsS at e
  split at e
  ·rename_i k t1 h1
   split at e
   ·exact kidsS_ok hd l t1 t' (hd _ _ _ _ h h1) e
   ·cases e
  ·cases e
theorem downS_succ (c:Chip) (bs:List Nat) (f:Nat) (t:TreeS) (p:Place) (d:Nat):downS c bs (f+1) t p d=(if 12<d∨p.page≤0∨p.block ∉ bs.map Int.ofNat∨p∈t.pages then none
  else if c.ask p.block p.page≠0 then none
  else if (getPage (c.page p.block.toNat p.page.toNat)).2.2≠0 then none
  else if (getPage (c.page p.block.toNat p.page.toNat)).1=4 then leafT { t with pages:=t.pages ++ [p] } (getLeaf (getPage (c.page p.block.toNat p.page.toNat)).2.1) d
  else if (getPage (c.page p.block.toNat p.page.toNat)).1=5 then
   if (getInner (getPage (c.page p.block.toNat p.page.toNat)).2.1).2≠0 then none
   else match (getInner (getPage (c.page p.block.toNat p.page.toNat)).2.1).1 with
    | []=>none
    | x :: r=>match kidsS (fun t p=>downS c bs f t p (d+1)) (x :: r) { t with pages:=t.pages ++ [p] } with
     | some t'=>some (x.key,t')
     | none=>none
  else none):=rfl
theorem downS_ok (c:Chip) (bs:List Nat):∀ (f:Nat) (t:TreeS) (p:Place) (d:Nat) (k:Key) (t':TreeS),t.Ok c→downS c bs f t p d=some (k,t')→t'.Ok c
 | 0,t,p,d,k,t',h,e=>by cases e
 | f+1,t,p,d,k,t',h,e=>by
  rw [downS_succ] at e
  split at e
  ·cases e
  ·rename_i h1
   split at e
   ·cases e
   ·rename_i h2
    have hp:p ∉ t.pages:=fun hp=>h1 (.inr (.inr (.inr hp)))
    have ha:c.ask p.block p.page=0:=by omega
    split at e
    ·cases e
    ·split at e
     ·exact leafT_ok h hp ha e
     ·split at e
      ·split at e
       ·cases e
       ·split at e
        ·cases e
        ·rename_i x r hx
         split at e
         ·rename_i t1 ht1
          cases e
          exact kidsS_ok (fun t p k t' ht hd=>downS_ok c bs f t p (d+1) k t' ht hd) _ _ _ (h.add hp ha) ht1
         ·cases e
      ·cases e
theorem kidsS_drop {down:TreeS→Place→Option (Key×TreeS)}:∀ {l:List Child} {t ti:TreeS} (i:Nat),kidsS down (l.take i) t=some ti→kidsS down l t=kidsS down (l.drop i) ti
 | l,t,ti,0,h=>by
  rw [List.take_zero] at h
  cases h
  rfl
 | [],t,ti,i+1,h=>by
  rw [List.take_nil] at h
  cases h
  rfl
 | x :: l,t,ti,i+1,h=>by
  rw [List.take_succ_cons] at h
  rw [List.drop_succ_cons]
  conv=>lhs;unfold kidsS
  unfold kidsS at h
  cases hd:down t ⟨x.block,x.page⟩ with
  | none=>rw [hd] at h;cases h
  | some y =>
   obtain ⟨k,t1⟩:=y
   rw [hd] at h
   simp only at h ⊢
   split at h
   ·rename_i hk
    rw [if_pos hk]
    exact kidsS_drop i h
   ·cases h
theorem kidsS_take_succ {down:TreeS→Place→Option (Key×TreeS)}:∀ {l:List Child} {t ti:TreeS} {i:Nat} (hi:i<l.length),kidsS down (l.take i) t=some ti→kidsS down (l.take (i+1)) t=(match down ti ⟨l[i].block,l[i].page⟩ with
  | some (k,t')=>if k=l[i].key then some t' else none
  | none=>none)
 | x :: l,t,ti,0,hi,h=>by
  rw [List.take_zero] at h
  cases h
  rw [List.take_succ_cons,List.take_zero]
  rfl
 | x :: l,t,ti,i+1,hi,h=>by
  rw [List.take_succ_cons] at h ⊢
  unfold kidsS at h ⊢
  cases hd:down t ⟨x.block,x.page⟩ with
  | none=>rw [hd] at h;cases h
  | some y =>
   obtain ⟨k,t1⟩:=y
   rw [hd] at h
   simp only at h ⊢
   split at h
   ·rename_i hk
    rw [if_pos hk]
    exact kidsS_take_succ (l:=l) (i:=i) (by simpa using hi) h
   ·cases h
section
open Go.WideMaps Go.Proofs
abbrev placeV (p:Place):Value:=.agg #[.int .i64 p.block,.int .i64 p.page]
abbrev Place.vals (p:Place):List Value:=[.int .i64 p.block,.int .i64 p.page]
theorem placeV_inj {p q:Place} (h:placeV p=placeV q):p=q:=by
 cases p;cases q
 simp only [placeV,Value.agg.injEq,Array.mk.injEq,List.cons.injEq,Value.int.injEq,true_and,and_true] at h
 rw [h.1,h.2]
def In64 (x:Int):Prop:= -9223372036854775808≤x∧x≤9223372036854775807
def Place.In (p:Place):Prop:=In64 p.block∧In64 p.page
theorem place_law:KeyLaw Tryz.prog 54:=deep_law (m:=3) (by decide) (by kernel_rfl) (by kernel_rfl) (by kernel_rfl)
theorem int_wf {x:Int} (h:In64 x):(Lit.int .i64 x).wf=true:=by
 unfold Lit.wf
 rw [Bool.and_eq_true,decide_eq_true_eq,decide_eq_true_eq]
 exact ⟨h.1,h.2⟩
theorem lits_int {P:Program} {t:TypeId} (ht:P.underlying t=some (.int .i64)) {x:Int} (h:In64 x) (n:Nat):P.keyLits (n+1) t [.int .i64 x]=some [.int .i64 x]:=by
 unfold Program.keyLits
 rw [ht]
 simp only [int_wf h,and_self,if_true]
theorem lits_two {P:Program} {t:TypeId} {fs:Array Field} {f1 f2:Field} (ht:P.underlying t=some (.struct fs)) (hfs:fs.toList=[f1,f2]) (hc:P.cellsOf t=2) (hn:fs.all (·.name != "_")=true) (h1:P.underlying f1.type=some (.int .i64)) (h2:P.underlying f2.type=some (.int .i64))
  (o1:f1.offset=0) (o2:f2.offset=1) (c1:P.cellsOf f1.type=1) (c2:P.cellsOf f2.type=1) {a b:Int} (ha:In64 a) (hb:In64 b) (n:Nat):P.keyLits (n+2) t [.int .i64 a,.int .i64 b]=some [.int .i64 a,.int .i64 b]:=by
 have e1:=lits_int h1 ha n
 have e2:=lits_int h2 hb n
 unfold Program.keyLits
 rw [ht]
 simp only [List.length_cons,List.length_nil,hc,hn,and_self,if_true,hfs,List.mapM_cons,List.mapM_nil,o1,o2,c1,c2,List.drop_zero,List.take_succ_cons,List.take_zero,List.drop_succ_cons,e1,e2]
 rfl
theorem place_key {p:Place} (h:p.In):∃ l,keyOf Tryz.prog 54 (placeV p)=some l:=by
 obtain ⟨n,hn⟩: ∃ n,Tryz.prog.types.size+1=n+2:=⟨Tryz.prog.types.size - 1,by
  have:decide (1≤Tryz.prog.types.size)=true:=by kernel_rfl
  have:=of_decide_eq_true this
  omega⟩
 have hl:=lits_two (P:=Tryz.prog) Tryz.underlying54 rfl (by kernel_rfl) (by kernel_rfl) (by kernel_rfl) (by kernel_rfl) rfl rfl (by kernel_rfl) (by kernel_rfl) h.1 h.2 n
 have hk:(Tryz.prog.keyType 54 && (placeV p).formed Tryz.prog 54)=true:=by
  have h1:Tryz.prog.keyType 54=true:=by kernel_rfl
  have h2:(placeV p).formed Tryz.prog 54=true:=by
   unfold Value.formed
   rw [Tryz.underlying54]
   have hc:Tryz.prog.cellsOf 54=2:=by kernel_rfl
   simp only [hc]
   rfl
  rw [h1,h2];rfl
 unfold keyOf
 rw [Tryz.underlying54]
 simp only [hk,if_true,hn]
 exact ⟨_,by rw [show (placeV p).cells.toList=[.int .i64 p.block,.int .i64 p.page] from rfl,hl];rfl⟩
def MapIs (es:Array MapEntry) (pages:List Place):Prop:=es.toList.map (·.key)=pages.map placeV∧∀ e∈es.toList,e.val= .bool true
theorem MapIs.key {es:Array MapEntry} {pages:List Place} (h:MapIs es pages):∀ e∈es.toList,∃ p∈pages,e.key=placeV p:=by
 intro e he
 have:e.key∈es.toList.map (·.key):=List.mem_map.2 ⟨e,he,rfl⟩
 rw [h.1] at this
 obtain ⟨p,hp,e'⟩:=List.mem_map.1 this
 exact ⟨p,hp,e'.symm⟩
theorem MapIs.keys {es:Array MapEntry} {pages:List Place} (h:MapIs es pages) (hr:∀ x∈pages,x.In):∀ e∈es.toList,∃ l,keyOf Tryz.prog 54 e.key=some l:=by
 intro e he
 obtain ⟨p,hp,e'⟩:=h.key e he
 rw [e']
 exact place_key (hr p hp)
theorem place_none {es:Array MapEntry} {pages:List Place} {p:Place} (h:MapIs es pages) (hr:∀ x∈pages,x.In) (hp:p.In) (hno:p ∉ pages) (emp:Bool):foundP prog T.api_Place emp (placeV p) es none:=by
 intro w
 obtain ⟨l,hl⟩:=place_key hp
 refine ⟨place_law.check w emp hl,?_⟩
 rcases place_law.find w hl es.toList (h.keys hr) with ⟨h1,_⟩| ⟨j,e,_,h2,h3⟩
 ·exact h1
 ·exfalso
  have he:e∈es.toList:=List.mem_of_getElem? h2
  obtain ⟨q,hq,e'⟩:=h.key e he
  exact hno (placeV_inj (h3.symm.trans e') ▸ hq)
theorem MapIs.at_ {es:Array MapEntry} {pages:List Place} (h:MapIs es pages) {j:Nat} {e:MapEntry} (he:es.toList[j]?=some e):∃ q,pages[j]?=some q∧e.key=placeV q:=by
 have h1:(es.toList.map (·.key))[j]?=some e.key:=by rw [List.getElem?_map,he];rfl
 rw [h.1,List.getElem?_map] at h1
 cases hq:pages[j]? with
 | none=>rw [hq] at h1;cases h1
 | some q=>rw [hq] at h1;exact ⟨q,rfl,(Option.some.inj h1).symm⟩
theorem nodup_at {α:Type}:∀ {l:List α} {i j:Nat} {x:α},l.Nodup→l[i]?=some x→l[j]?=some x→i=j
 | [],i,j,x,_,h,_=>by cases h
 | y :: l,0,0,x,_,_,_=>rfl
 | y :: l,0,j+1,x,hn,h1,h2=>by
  cases h1
  exact absurd (List.mem_of_getElem? (l:=l) (i:=j) (by simpa using h2)) (List.nodup_cons.1 hn).1
 | y :: l,i+1,0,x,hn,h1,h2=>by
  cases h2
  exact absurd (List.mem_of_getElem? (l:=l) (i:=i) (by simpa using h1)) (List.nodup_cons.1 hn).1
 | y :: l,i+1,j+1,x,hn,h1,h2=>by rw [nodup_at (List.nodup_cons.1 hn).2 (i:=i) (j:=j) (by simpa using h1) (by simpa using h2)]
theorem place_some {es:Array MapEntry} {pages:List Place} {p:Place} (h:MapIs es pages) (hr:∀ x∈pages,x.In) (hn:pages.Nodup) (hp:p.In) (hin:p∈pages):∃ j,∀ emp,foundP prog T.api_Place emp (placeV p) es (some (j,.bool true)):=by
 obtain ⟨j,hj⟩:=List.mem_iff_getElem?.1 hin
 refine ⟨j,fun emp w=>?_⟩
 obtain ⟨l,hl⟩:=place_key hp
 refine ⟨place_law.check w emp hl,?_⟩
 rcases place_law.find w hl es.toList (h.keys hr) with ⟨_,h2⟩| ⟨i,e,h1,h2,h3⟩
 ·exfalso
  have:placeV p∈es.toList.map (·.key):=by rw [h.1];exact List.mem_map.2 ⟨p,hin,rfl⟩
  obtain ⟨e,he,e'⟩:=List.mem_map.1 this
  exact h2 e he e'
 ·obtain ⟨q,hq,e'⟩:=h.at_ h2
  have hpq:q=p:=placeV_inj (e'.symm.trans h3)
  subst hpq
  have:i=j:=nodup_at hn hq hj
  subst this
  rw [h.2 e (List.mem_of_getElem? h2)] at h1
  exact h1
theorem MapIs.push {es:Array MapEntry} {pages:List Place} (h:MapIs es pages) (p:Place) (k:Nat):MapIs (es.push { key:=placeV p,val:=.bool true,born:=k }) (pages ++ [p]):=by
 refine ⟨?_,fun e he=>?_⟩
 ·rw [Array.toList_push,List.map_append,List.map_append,h.1];rfl
 ·rw [Array.toList_push] at he
  rcases List.mem_append.1 he with he | he
  ·exact h.2 e he
  ·rw [List.mem_singleton.1 he]
end
theorem scanGo_known {c:Chip} (hd0:c.dead=false):∀ n,n≤c.nb→(scanGo c n).blocks.length=c.nb∧(∀ i,i<n→(scanGo c n).blk i=view c i)
 | 0,_=>⟨by simp [scanGo],fun i hi=>by omega⟩
 | n+1,hn=>by
  obtain ⟨h1,h2⟩:=scanGo_known hd0 n (by omega)
  have hb:∀ i,i<n+1→((scanGo c n).relook c n).blk i=view c i:=by
   intro i hi
   unfold Pool.relook
   rw [setBlk_blk (by omega),lookAt_view,hd0]
   by_cases e:i=n
   ·rw [if_pos e,e];rfl
   ·rw [if_neg e];exact h2 i (by omega)
  have hl:((scanGo c n).relook c n).blocks.length=c.nb:=by
   show ((scanGo c n).blocks.set n _).length=_
   rw [List.length_set];exact h1
  rw [scanGo]
  split
  ·exact ⟨hl,hb⟩
  ·exact ⟨hl,hb⟩
def tkey (t:Taken):Nat:=t.head.seq * 64+t.block
theorem tkey_lt {a b:Taken} (ha:a.block<64) (hb:b.block<64):takenLt a b=true ↔ tkey a<tkey b:=by
 unfold takenLt tkey
 simp only [Bool.or_eq_true,Bool.and_eq_true,decide_eq_true_eq]
 constructor
 ·rintro (h | ⟨h1,h2⟩)<;>omega
 ·intro h
  by_cases e:a.head.seq<b.head.seq
  ·exact .inl e
  ·refine .inr ⟨?_,?_⟩<;>omega
theorem sink_by {x:Taken} (hx:x.block<64):∀ {l:List Taken},(∀ y∈l,y.block<64)→l.Pairwise (fun a b=>tkey b<tkey a)→(∀ y∈l,tkey y≠tkey x)→(sink takenLt x l).Pairwise (fun a b=>tkey b<tkey a)
 | [],_,_,_=>by simp [sink]
 | y :: l,hb,hl,hx'=>by
  obtain ⟨l1,l2⟩:=List.pairwise_cons.1 hl
  have hyx:=hx' y (by simp)
  have hyb:=hb y (by simp)
  unfold sink
  split
  ·rename_i hlt
   have hxy:=(tkey_lt hx hyb).1 hlt
   refine List.pairwise_cons.2 ⟨fun z hz=>?_,sink_by hx (fun z hz=>hb z (by simp [hz])) l2 fun z hz=>hx' z (by simp [hz])⟩
   rcases (sink_mem takenLt x z l).1 hz with rfl | hz
   ·exact hxy
   ·exact l1 z hz
  ·rename_i hlt
   have hxy:tkey y<tkey x:=by
    have:¬ tkey x<tkey y:=fun h=>hlt ((tkey_lt hx hyb).2 h)
    omega
   refine List.pairwise_cons.2 ⟨fun z hz=>?_,hl⟩
   rcases List.mem_cons.1 hz with rfl | hz
   ·exact hxy
   ·have:=l1 z hz;omega
theorem isort_by {l:List Taken} (hb:∀ y∈l,y.block<64) (h:l.Pairwise (fun a b=>tkey a≠tkey b)):(isort takenLt l).Pairwise (fun a b=>tkey a<tkey b):=by
 unfold isort
 rw [List.pairwise_reverse]
 have key:∀ (l acc:List Taken),(∀ y∈l,y.block<64)→(∀ y∈acc,y.block<64)→acc.Pairwise (fun a b=>tkey b<tkey a)→l.Pairwise (fun a b=>tkey a≠tkey b)→(∀ a∈acc,∀ b∈l,tkey a≠tkey b)→(l.foldl (fun acc x=>sink takenLt x acc) acc).Pairwise (fun a b=>tkey b<tkey a):=by
  intro l
  induction l with
  | nil=>intro acc _ _ ha _ _;exact ha
  | cons x l ih =>
   intro acc hbl hba ha hl hx
   obtain ⟨l1,l2⟩:=List.pairwise_cons.1 hl
   rw [List.foldl_cons]
   have hxb:=hbl x (by simp)
   refine ih _ (fun y hy=>hbl y (by simp [hy])) (fun y hy=>?_) (sink_by hxb hba ha fun y hy=>hx y hy x (by simp)) l2 fun a ha' b hb=>?_
   ·rcases (sink_mem takenLt x y acc).1 hy with rfl | hy
    ·exact hxb
    ·exact hba y hy
   ·rcases (sink_mem takenLt x a acc).1 ha' with rfl | ha'
    ·exact l1 b hb
    ·exact hx a ha' b (by simp [hb])
 exact key l [] hb (by simp) List.Pairwise.nil h fun a ha=>by simp at ha
theorem any_raw_mem {P:Pool} {c:Chip} (hk:∀ i,i<c.nb→P.blk i=view c i) {n:Nat} (hn:n≤c.nb) (t:Taken):t∈takenRaw P c n ↔ IsTaken c n t:=by
 have hw:∀ i,i<c.nb→((P.blk i).what=2 ↔ isHd c i):=fun i hi=>by rw [hk i hi];exact view_what c i
 unfold takenRaw IsTaken
 rw [List.mem_filterMap]
 constructor
 ·rintro ⟨i,hi,e⟩
  have hi':i<n:=by simpa using hi
  split at e
  ·rename_i hw'
   cases e
   have hh:=(hw i (by omega)).1 hw'
   refine ⟨hi',hh,?_,rfl⟩
   rw [hk i (by omega),view_pos hh]
  ·cases e
 ·rintro ⟨h1,h2,h3,h4⟩
  refine ⟨t.block,by simpa using h1,?_⟩
  rw [if_pos ((hw _ (by omega)).2 h2)]
  obtain ⟨b,hh,bad⟩:=t
  simp only [] at h1 h2 h3 h4 ⊢
  rw [hk b (by omega),view_pos h2,h3,h4]
theorem any_raw_distinct {P:Pool} {c:Chip} (hk:∀ i,i<c.nb→P.blk i=view c i) (hnb:c.nb≤64):∀ n,n≤c.nb→(takenRaw P c n).Pairwise (fun a b=>tkey a≠tkey b)
 | 0,_=>by simp [takenRaw]
 | n+1,hn=>by
  rw [takenRaw_succ]
  rw [List.pairwise_append]
  refine ⟨any_raw_distinct hk hnb n (by omega),?_,fun a ha b hb=>?_⟩
  ·split<;>simp
  ·obtain ⟨a1,a2,a3,_⟩:=(any_raw_mem hk (by omega) a).1 ha
   have hbn:b.block=n:=by
    split at hb
    ·simp at hb;rw [hb]
    ·simp at hb
   unfold tkey
   omega
theorem insAt_by {t:Taken} (ht:t.block<64):∀ {l:List Taken},(∀ y∈l,y.block<t.block)→l.Pairwise (fun a b=>tkey a<tkey b)→(insAt t l).Pairwise (fun a b=>tkey a<tkey b)
 | [],_,_=>by simp [insAt,posOf]
 | y :: l,hb,hl=>by
  obtain ⟨l1,l2⟩:=List.pairwise_cons.1 hl
  have hyb:=hb y (by simp)
  rw [insAt_cons]
  split
  ·refine List.pairwise_cons.2 ⟨fun z hz=>?_,insAt_by ht (fun z hz=>hb z (by simp [hz])) l2⟩
   rcases (insAt_mem t z l).1 hz with rfl | hz
   ·unfold tkey;omega
   ·exact l1 z hz
  ·refine List.pairwise_cons.2 ⟨fun z hz=>?_,hl⟩
   rcases List.mem_cons.1 hz with rfl | hz
   ·unfold tkey;omega
   ·have:=l1 z hz
    unfold tkey at this ⊢;omega
theorem any_ref_mem {c:Chip} (h:c.Ok) (hd0:c.dead=false):∀ n,n≤c.nb→(∀ t,t∈refGo c n ↔ IsTaken c n t)∧(refGo c n).Pairwise (fun a b=>tkey a<tkey b)
 | 0,_=>⟨fun t=>by simp [refGo,IsTaken],by simp [refGo]⟩
 | n+1,hn=>by
  obtain ⟨h1,h2⟩:=any_ref_mem h hd0 n (by omega)
  have hr:=refHead_eq h hd0 (i:=n) (by omega)
  have hnb:=h.nb2
  rw [refGo,hr]
  simp only [decide_eq_true_eq]
  split
  ·rename_i hh
   refine ⟨fun t=>?_,insAt_by (by show n<64;omega) (fun y hy=>((h1 y).1 hy).1) h2⟩
   rw [insAt_mem,h1]
   constructor
   ·rintro (rfl | ⟨a,b⟩)
    ·exact ⟨Nat.lt_succ_self _,hh,rfl,rfl⟩
    ·exact ⟨by omega,b⟩
   ·rintro ⟨a,b,d,e⟩
    by_cases hb:t.block=n
    ·left
     obtain ⟨tb,th,tbad⟩:=t
     simp only [] at hb d e
     subst hb
     rw [d,e]
    ·exact .inr ⟨by omega,b,d,e⟩
  ·rename_i hh
   refine ⟨fun t=>?_,h2⟩
   rw [h1]
   constructor
   ·rintro ⟨a,b⟩;exact ⟨by omega,b⟩
   ·rintro ⟨a,b,d⟩
    have:t.block≠n:=fun e=>hh (e ▸ b)
    exact ⟨by omega,b,d⟩
theorem any_taken_ref {c:Chip} (h:c.Ok) (hd0:c.dead=false):takenPool (scanPool c) c=refTaken c:=by
 obtain ⟨h1,h2⟩:=any_ref_mem h hd0 c.nb (Nat.le_refl _)
 have hk:=(scanGo_known hd0 c.nb (Nat.le_refl _)).2
 have hnb:=h.nb2
 have hm:∀ t,t∈takenPool (scanPool c) c ↔ IsTaken c c.nb t:=fun t=>by
  unfold takenPool
  rw [isort_mem]
  exact any_raw_mem hk (Nat.le_refl _) t
 refine sorted_ext (f:=tkey) ?_ h2 fun t=>by rw [hm];exact (h1 t).symm
 exact isort_by (fun y hy=>by have:=((any_raw_mem hk (Nat.le_refl _) y).1 hy).1;omega) (any_raw_distinct hk hnb _ (Nat.le_refl _))
theorem refTaken_block {c:Chip} (h:c.Ok) (hd0:c.dead=false):∀ x∈refTaken c,x.block<c.nb:=by
 intro x hx
 rw [← any_taken_ref h hd0] at hx
 unfold takenPool at hx
 rw [isort_mem] at hx
 exact takenRaw_block hx
theorem refTaken_len {c:Chip} (h:c.Ok) (hd0:c.dead=false):(refTaken c).length≤c.nb:=by
 rw [← any_taken_ref h hd0]
 unfold takenPool
 rw [isort_length]
 exact takenRaw_length _ _ _
theorem map_take_succ {α β:Type} (f:α→β) {l:List α} {i:Nat} (hi:i<l.length):(l.take (i+1)).map f=(l.take i).map f ++ [f l[i]]:=by
 rw [List.take_succ_eq_append_getElem hi,List.map_append];rfl
def askErr (c:Chip) (era:Nat):Nat:=if c.dead then 10 else if era=0 then 2 else 0
def blocksI (c:Chip) (era:Nat):List Int:=(treeBlocks c era).map Int.ofNat
def askL (c:Chip) (era:Nat):List Int:=if askErr c era=0 then blocksI c era else []
theorem walk_asked_spec {F:Nat→Prop} {A:Nat} {w:World} {p:Nat} {c:Chip} (h:CIn F A w p c) (era:Nat) :
  CallsR prog K.walk_asked #[.pointer (some ⟨p,0,none⟩),.int .u32 era] w fun v w'=>Ext w w'∧
   if askErr c era≠0 then v= .tuple #[.pointer none,.int .i64 (askErr c era:Nat)]
   else c.dead=false∧∃ M:PLoc,M.p=p∧v= .tuple #[.pointer (some ⟨M.q,0,none⟩),.int .i64 0]∧PIn (fun x=>F x∨(w.heap.size≤x∧x<w'.heap.size)) A w' M (scanPool c) c:=by
 apply walk_asked.sh
 unfold walk_asked.body
 refine (cScanF h).mono ?_
 rintro v w₁ ⟨he,hv⟩
 unfold askErr
 cases hd:c.dead with
 | true =>
  rw [if_pos hd] at hv
  obtain rfl:=hv
  exact ⟨_,_,rfl,br_ne (fun _=>⟨he,rfl⟩) fun h=>absurd h (by decide)⟩
 | false =>
  rw [if_neg (by rw [hd];decide)] at hv
  obtain ⟨M,hM,rfl,hP⟩:=hv
  refine ⟨_,_,rfl,br_ne (fun h=>absurd rfl h) fun _=>br_eq (fun h0=>⟨he,?_⟩) fun h0=>⟨he,?_⟩⟩
  ·have:era=0:=by omega
   simp [this]
  ·have:era≠0:=by omega
   simp only [Bool.false_eq_true,if_false,if_neg this]
   exact ⟨trivial,M,hM,rfl,hP⟩
theorem tree_succ (kind:UInt8) (era:Nat) {l:List Taken} {i:Nat} (hi:i<l.length):((((l.take (i+1)).filter (ofKind kind era)).map Taken.block).map Int.ofNat)=(((l.take i).filter (ofKind kind era)).map Taken.block).map Int.ofNat ++ if ofKind kind era l[i] then [(l[i].block:Int)] else []:=by
 rw [filter_map_succ _ _ hi,List.map_append]
 congr 1
 split<;>rfl
theorem walk_Blocks_spec {F:Nat→Prop} {A:Nat} {w:World} {p:Nat} {c:Chip} (h:CIn F A w p c) (hnb:c.nb<20) (era:Nat) :
  CallsR prog K.walk_Blocks #[.pointer (some ⟨p,0,none⟩),.int .u32 era] w fun v w'=>∃ a ca,v= .tuple #[.slice a (askL c era).length ca,.int .i64 (askErr c era:Nat)]∧IList w.heap.size w' a ca (askL c era)∧Ext w w':=by
 apply walk_Blocks.sh
 suffices H:∀ R:Value→World→Prop,(∀ v w',(∃ a ca,v= .tuple #[.slice a (askL c era).length ca,.int .i64 (askErr c era:Nat)]∧IList w.heap.size w' a ca (askL c era)∧Ext w w')→R v w')→walk_Blocks.body (some ⟨p,0,none⟩) era w R from H _ fun _ _ h=>h
 intro R hR
 unfold walk_Blocks.body
 refine (walk_asked_spec h era).mono ?_
 rintro v w₁ ⟨he1,hv⟩
 by_cases he:askErr c era≠0
 ·rw [if_pos he] at hv
  obtain rfl:=hv
  refine ⟨_,_,rfl,br_ne (fun _=>hR _ _ ?_) fun h=>absurd h (by omega)⟩
  unfold askL
  rw [if_neg he]
  exact ⟨none,0,rfl,IList.nil _ _,he1⟩
 ·rw [if_neg he] at hv
  obtain ⟨hd0,M,rfl,rfl,hP⟩:=hv
  have he0:askErr c era=0:=by omega
  unfold askL at hR
  rw [if_pos he0,he0] at hR
  refine ⟨_,_,rfl,br_ne (fun h=>absurd rfl h) fun _=>(pTaken hP hnb (any_taken_ref h.ok hd0)).mono ?_⟩
  rintro _ w₂ ⟨he2,a2,c2,rfl,ho2,hf2⟩
  have hs1:=he1.size
  have hs2:=he2.size
  have e2:=he1.trans he2
  have hlen:=refTaken_len h.ok hd0
  have hbl:blocksI c era=(((refTaken c).filter (ofKind 2 era)).map Taken.block).map Int.ofNat:=rfl
  rw [hbl] at hR
  clear hbl
  generalize refTaken c=l at *
  refine ⟨_,_,_,rfl,fun a3 l3 c3 x u=>∃ i:Nat,x=i∧i≤l.length∧l3=((((l.take i).filter (ofKind 2 era)).map Taken.block).map Int.ofNat).length∧IList w₂.heap.size u a3 c3 ((((l.take i).filter (ofKind 2 era)).map Taken.block).map Int.ofNat)∧Ext w₂ u,fun _ _ _ x _=>((l.length:Int) - x).toNat,⟨0,rfl,by omega,rfl,IList.nil _ _,Upd.refl _ _⟩,?_⟩
  rintro a3 l3 c3 x u ⟨i,rfl,hi,rfl,hil,heu⟩
  have hsu:=heu.size
  refine br_dec (fun hlt=>?_) fun hge=>?_
  ·have hi':i<l.length:=by omega
   have ew:IntKind.i64.wrap ((i:Int)+1)=((i+1:Nat):Int):=w64 (by omega) (by omega)
   simp only [ew]
   have hsucc:=tree_succ 2 era hi'
   have hk:=filter_map_len (ofKind 2 era) Taken.block (l.take i)
   have hk':((((l.take i).filter (ofKind 2 era)).map Taken.block).map Int.ofNat).length≤i:=by
    rw [List.length_map];rw [List.length_take] at hk;omega
   generalize (((l.take i).filter (ofKind 2 era)).map Taken.block).map Int.ofNat=acc at *
   refine idx_flat (f:=Taken.vals) Taken.vals_length (by omega) (ho2.row.ext heu) rfl hi' fun b o hab hr=>⟨_,_,_,_,_,hr.cells,new_put (vs:=Taken.vals l[i]) rfl fun B1 w₄ hb4 hs4 he4 g4=>?_⟩
   simp only [add_lit,Nat.zero_add]
   have same:ofKind 2 era l[i]=false→(∃ j:Nat,((i+1:Nat):Int)=j∧j≤l.length∧acc.length=((((l.take j).filter (ofKind 2 era)).map Taken.block).map Int.ofNat).length∧IList w₂.heap.size w₄ a3 c3 ((((l.take j).filter (ofKind 2 era)).map Taken.block).map Int.ofNat)∧Ext w₂ w₄)∧((l.length:Int) - ((i+1:Nat):Int)).toNat<((l.length:Int) - (i:Int)).toNat:=by
    intro hno
    rw [hno] at hsucc
    simp only [Bool.false_eq_true,if_false,List.append_nil] at hsucc
    exact ⟨⟨i+1,rfl,hi',by rw [hsucc],by rw [hsucc];exact hil.ext he4,heu.trans he4⟩,meas hi'⟩
   refine ⟨_,cell_of g4 rfl,br_eq (fun hk2=>⟨_,cell_of g4 rfl,br_eq (fun hke=>⟨_,cell_of g4 rfl,fun B2 w₆ hn6=>?_⟩) fun hke=>?_⟩) fun hk2=>?_⟩
   ·have hyes:ofKind 2 era l[i]=true:=by
     unfold ofKind
     rw [decide_eq_true (show l[i].head.kind=2 from (u8i _ 2 (by omega)).1 hk2),decide_eq_true (by omega:l[i].head.era=era)];rfl
    rw [hyes] at hsucc
    simp only [if_true] at hsucc
    refine IList.push (x:=(l[i].block:Int)) (hil.ext he4) rfl hn6 (by omega) (by omega) fun a' c' w₇ hu7 hl7=>?_
    rw [← hsucc] at hl7 ⊢
    exact ⟨⟨i+1,rfl,hi',rfl,hl7,(heu.trans he4).beyond hu7 fun x hx=>hx⟩,meas hi'⟩
   ·exact same (by unfold ofKind;rw [decide_eq_false (p:=l[i].head.era=era) (by omega)];simp)
   ·exact same (by unfold ofKind;rw [decide_eq_false (p:=l[i].head.kind=2) (fun e=>hk2 (by rw [e];rfl))];rfl)
  ·have hii:i=l.length:=by omega
   subst hii
   rw [List.take_length] at hil ⊢
   exact hR _ _ ⟨a3,c3,rfl,hil.weak (by omega),e2.trans heu⟩
theorem carrackref18_Blocks_spec {F:Nat→Prop} {A:Nat} {w:World} {p:Nat} {c:Chip} (h:CIn F A w p c) (hd0:c.dead=false) (era:Nat) :
  CallsR prog K.carrackref18_Blocks #[.pointer (some ⟨p,0,none⟩),.int .u32 era] w fun v w'=>∃ a ca,v= .slice a (blocksI c era).length ca∧IList w.heap.size w' a ca (blocksI c era)∧Ext w w':=by
 apply carrackref18_Blocks.sh
 suffices H:∀ R:Value→World→Prop,(∀ v w',(∃ a ca,v= .slice a (blocksI c era).length ca∧IList w.heap.size w' a ca (blocksI c era)∧Ext w w')→R v w')→carrackref18_Blocks.body (some ⟨p,0,none⟩) era w R from H _ fun _ _ h=>h
 intro R hR
 unfold carrackref18_Blocks.body
 refine (carrackref04_Of_spec h 2 era).mono ?_
 rintro _ w₁ ⟨he1,a1,c1,rfl,ho1,hf1⟩
 have hlen:=refTaken_len h.ok hd0
 have hlen2:=List.length_filter_le (ofKind 2 era) (refTaken c)
 have hnb:=h.ok.nb2
 have hbl:blocksI c era=(((refTaken c).filter (ofKind 2 era)).map Taken.block).map Int.ofNat:=rfl
 rw [hbl] at hR
 clear hbl
 generalize (refTaken c).filter (ofKind 2 era)=l at *
 have hs1:=he1.size
 refine ⟨_,_,_,rfl,fun a3 l3 c3 x u=>∃ i:Nat,x=i∧i≤l.length∧l3=(((l.take i).map Taken.block).map Int.ofNat).length∧IList w₁.heap.size u a3 c3 (((l.take i).map Taken.block).map Int.ofNat)∧Ext w₁ u,fun _ _ _ x _=>((l.length:Int) - x).toNat,⟨0,rfl,by omega,rfl,IList.nil _ _,Upd.refl _ _⟩,?_⟩
 rintro a3 l3 c3 x u ⟨i,rfl,hi,rfl,hil,heu⟩
 have hsu:=heu.size
 refine br_dec (fun hlt=>?_) fun hge=>?_
 ·have hi':i<l.length:=by omega
  have ew:IntKind.i64.wrap ((i:Int)+1)=((i+1:Nat):Int):=w64 (by omega) (by omega)
  simp only [ew]
  have hsucc:((l.take (i+1)).map Taken.block).map Int.ofNat=((l.take i).map Taken.block).map Int.ofNat ++ [(l[i].block:Int)]:=by
   rw [map_take_succ _ hi',List.map_append];rfl
  have hk':(((l.take i).map Taken.block).map Int.ofNat).length≤i:=by
   rw [List.length_map,List.length_map,List.length_take];omega
  generalize ((l.take i).map Taken.block).map Int.ofNat=acc at *
  refine idx_flat (f:=Taken.vals) Taken.vals_length (by omega) (ho1.row.ext heu) rfl hi' fun b o hab hr=>⟨_,(by have:=hr.cells;exact this.1),fun B2 w₆ hn6=>?_⟩
  refine IList.push (x:=(l[i].block:Int)) hil rfl hn6 (by omega) (by omega) fun a' c' w₇ hu7 hl7=>?_
  rw [← hsucc] at hl7 ⊢
  exact ⟨⟨i+1,rfl,hi',rfl,hl7,heu.beyond hu7 fun x hx=>hx⟩,meas hi'⟩
 ·have hii:i=l.length:=by omega
  subst hii
  rw [List.take_length] at hil ⊢
  exact hR _ _ ⟨a3,c3,rfl,hil.weak (by omega),he1.trans heu⟩
abbrev Spot:=Point×Nat×Nat
def accP (acc:Option Spot):Point:=match acc with
 | some x=>x.1
 | none=>Point.zero
def accB (acc:Option Spot):Nat:=match acc with
 | some x=>x.2.1
 | none=>0
def accK (acc:Option Spot):Nat:=match acc with
 | some x=>x.2.2
 | none=>0
theorem getPoint_may {b:List UInt8} (h:(getPoint b).2=0):(getPoint b).1.may=true:=by
 unfold getPoint at h ⊢
 split at h
 ·cases h
 ·rename_i h1
  rw [if_neg h1]
  simp only at h ⊢
  split at h
  ·rename_i h2;rw [if_pos h2];exact h2.1
  ·cases h
theorem pointAt_number {c:Chip} {b k:Nat} {p:Point} (h:pointAt c b k=some p):1≤p.number:=by
 unfold pointAt at h
 split at h
 ·cases h
 ·split at h
  ·cases h
  ·split at h
   ·cases h
   ·rename_i h3
    cases h
    exact ((Point.may_iff _).1 (getPoint_may (by omega))).1.1
theorem spotsB_succ (c:Chip) (b:Nat) {k:Nat} (hk:1≤k):spotsB c b (k+1)=spotsB c b k ++ (match pointAt c b k with | some p=>[(p,b,k)] | none=>[]):=by
 unfold spotsB
 rw [List.range_succ,List.filterMap_append]
 congr 1
 simp only [List.filterMap_cons,List.filterMap_nil,if_neg (show ¬ k=0 by omega)]
 cases pointAt c b k<;>rfl
theorem fold_step (c:Chip) (b:Nat) {k:Nat} (hk:1≤k) (acc:Option Spot):(spotsB c b (k+1)).foldl newerS acc=match pointAt c b k with
  | some p=>newerS ((spotsB c b k).foldl newerS acc) (p,b,k)
  | none=>(spotsB c b k).foldl newerS acc:=by
 rw [spotsB_succ c b hk,List.foldl_append]
 cases pointAt c b k<;>rfl
theorem flat_step (c:Chip) {L:List Nat} {i:Nat} (hi:i<L.length):((L.take (i+1)).flatMap fun b=>spotsB c b c.np).foldl newerS none=(spotsB c L[i] c.np).foldl newerS (((L.take i).flatMap fun b=>spotsB c b c.np).foldl newerS none):=by
 rw [List.take_succ_eq_append_getElem hi,List.flatMap_append,List.foldl_append]
 simp
def newestR (c:Chip) (era:Nat):Option Spot×Nat:=if askErr c era≠0 then (none,askErr c era) else match newestS c era with
 | some x=>(some x,0)
 | none=>(none,12)
abbrev newestV (r:Option Spot×Nat):Value:=.tuple #[pointV (accP r.1),.int .i64 (accB r.1:Nat),.int .i64 (accK r.1:Nat),.int .i64 (r.2:Nat)]
theorem new_out {u:World} {B:Nat} {p:Point} {cs:Array Value} {x y e:Int} {R:Value→World→Prop} (g:u.heap[B]?=some (.cells cs T.api_Point (0,0))) (hcs:cs.size=4) (hR:∀ u',Upd (·=B) u u'→R (.tuple #[pointV p,.int .i64 x,.int .i64 y,.int .i64 e]) u') :
  storeP u ⟨B,0,none⟩ p.vals fun w6=>∃ x4 x5:Int,∃ x6 x7:Int,cellsAt w6 ⟨B,0,none⟩ [.int .u64 x4,.int .i64 x5,.int .i64 x6,.int .i64 x7] 0∧R (.tuple #[.agg #[.int .u64 x4,.int .i64 x5,.int .i64 x6,.int .i64 x7],.int .i64 x,.int .i64 y,.int .i64 e]) w6 :=
 put_all g (by rw [hcs];rfl) fun w' hu hs g'=>⟨_,_,_,_,cells_all g',hR _ hu⟩
theorem page_small {c:Chip} (h:c.Ok) {i k:Nat} (hi:i<c.nb) (hk:k<c.np):(getPage (c.page i k)).2.1.length≤256:=by
 have:=getPage_len (c.page i k)
 have:=page_len h hi hk
 have:=h.sz2
 omega
theorem blocksI_get {c:Chip} {era:Nat} {i:Nat} (hi:i<(blocksI c era).length):(blocksI c era)[i]=((treeBlocks c era)[i]'(by simpa [blocksI] using hi):Nat):=by
 have h2:i<((treeBlocks c era).map Int.ofNat).length:=hi
 exact List.getElem_map Int.ofNat (h:=h2)
theorem treeBlocks_lt {c:Chip} (h:c.Ok) (hd0:c.dead=false) (era:Nat):∀ b∈treeBlocks c era,b<c.nb:=by
 intro b hb
 obtain ⟨t,ht,rfl⟩:=List.mem_map.1 hb
 exact refTaken_block h hd0 t (List.mem_filter.1 ht).1
theorem treeBlocks_len {c:Chip} (h:c.Ok) (hd0:c.dead=false) (era:Nat):(treeBlocks c era).length≤c.nb:=by
 unfold treeBlocks
 rw [List.length_map]
 exact Nat.le_trans (List.length_filter_le _ _) (refTaken_len h hd0)
theorem askErr_zero {c:Chip} {era:Nat} (h:askErr c era=0):c.dead=false∧era≠0:=by
 unfold askErr at h
 cases hd:c.dead with
 | true=>rw [hd] at h;simp at h
 | false =>
  rw [hd] at h
  simp only [Bool.false_eq_true,if_false] at h
  split at h
  ·cases h
  ·exact ⟨rfl,by assumption⟩
theorem pointAt_none1 {c:Chip} {b k:Nat} (h:(getPage (c.page b k)).2.2≠0):pointAt c b k=none:=by unfold pointAt;rw [if_pos h]
theorem pointAt_none2 {c:Chip} {b k:Nat} (h:(getPage (c.page b k)).1≠6):pointAt c b k=none:=by
 unfold pointAt;split
 ·rfl
 ·rfl
theorem pointAt_none3 {c:Chip} {b k:Nat} (h:(getPoint (getPage (c.page b k)).2.1).2≠0):pointAt c b k=none:=by
 unfold pointAt;split
 ·rfl
 ·split
  ·rfl
  ·rfl
theorem pointAt_some {c:Chip} {b k:Nat} (h1:(getPage (c.page b k)).2.2=0) (h2:(getPage (c.page b k)).1=6) (h3:(getPoint (getPage (c.page b k)).2.1).2=0):pointAt c b k=some (getPoint (getPage (c.page b k)).2.1).1:=by
 unfold pointAt
 rw [if_neg (by omega),if_neg (by rw [h2];decide),if_neg (by omega)]
theorem walk_Newest_spec {F:Nat→Prop} {A:Nat} {w:World} {p:Nat} {c:Chip} (h:CIn F A w p c) (hnb:c.nb<20) (era:Nat) :
  CallsR prog K.walk_Newest #[.pointer (some ⟨p,0,none⟩),.int .u32 era] w fun v w'=>v=newestV (newestR c era)∧Ext w w':=by
 apply walk_Newest.sh
 suffices H:∀ R:Value→World→Prop,(∀ v w',v=newestV (newestR c era)∧Ext w w'→R v w')→walk_Newest.body (some ⟨p,0,none⟩) era w R from H _ fun _ _ h=>h
 intro R hR
 unfold walk_Newest.body
 intro B1 w₁ hn1
 have hB1:=hn1.num
 have hs1:=hn1.size
 have g1:w₁.heap[B1]?=some (.cells (Point.vals (accP none)).toArray T.api_Point (0,0)):=hn1.get
 refine (walk_Blocks_spec (h.ext hn1.upd) hnb era).mono ?_
 rintro _ w₂ ⟨a2,c2,rfl,hl2,he2⟩
 have e2:=hn1.upd.trans he2
 have g2:=Ext.get he2 g1
 have hs2:=he2.size
 unfold newestR at hR
 refine ⟨_,_,_,_,rfl,br_ne (fun hne=>?_) fun he=>?_⟩
 ·rw [if_pos (by omega)] at hR
  exact new_out (p:=Point.zero) (x:=0) (y:=0) g2 rfl fun u' hu=>hR _ _ ⟨rfl,e2.beyond hu fun x hx=>by omega⟩
 have he0:askErr c era=0:=by omega
 obtain ⟨hd0,hera⟩:=askErr_zero he0
 rw [if_neg (by omega)] at hR
 have hL:askL c era=blocksI c era:=by unfold askL;rw [if_pos he0]
 rw [hL] at hl2 ⊢
 have hlt:=treeBlocks_lt h.ok hd0 era
 have hlen:=treeBlocks_len h.ok hd0 era
 have hlenI:(blocksI c era).length=(treeBlocks c era).length:=by simp [blocksI]
 have hget:∀ i (hi:i<(treeBlocks c era).length) (hi2:i<(blocksI c era).length),(blocksI c era)[i]=((treeBlocks c era)[i]:Nat):=fun i hi hi2=>blocksI_get hi2
 have hnew:newestS c era=((treeBlocks c era).flatMap fun b=>spotsB c b c.np).foldl newerS none:=rfl
 rw [hnew] at hR
 clear hnew hL
 generalize treeBlocks c era=L at *
 generalize blocksI c era=LI at *
 have hnp:=h.ok.np1
 have hnp2:=h.ok.np2
 refine ⟨fun x6 x7 b1 x8 u=>∃ i:Nat,x8=i∧i≤L.length∧∃ acc:Option Spot,acc=((L.take i).flatMap fun b=>spotsB c b c.np).foldl newerS none∧x6=(accB acc:Nat)∧x7=(accK acc:Nat)∧b1=acc.isSome∧u.heap[B1]?=some (.cells (Point.vals (accP acc)).toArray T.api_Point (0,0))∧Upd (·=B1) w₂ u,fun _ _ _ x8 _=>((L.length:Int) - x8).toNat,
  ⟨0,rfl,by omega,none,rfl,rfl,rfl,rfl,g2,Upd.refl _ _⟩,?_⟩
 rintro x6 x7 b1 x8 u ⟨i,rfl,hi,acc,hacc,rfl,rfl,rfl,gu,hu⟩
 have hsu:=hu.size
 have hli:∀ {v:World},Upd (·=B1) w₂ v→IList w₁.heap.size v a2 c2 LI:=fun hv=>hl2.upd hv fun x hx=>by omega
 have hext:∀ {v:World},Upd (·=B1) w₂ v→Ext w v:=fun hv=>e2.beyond hv fun x hx=>by omega
 refine br_dec (fun hlt'=>?_) fun hge=>?_
 ·have hi':i<L.length:=by omega
  have ew:IntKind.i64.wrap ((i:Int)+1)=((i+1:Nat):Int):=w64 (by omega) (by omega)
  simp only [ew]
  have hbi:=hlt _ (List.getElem_mem hi')
  refine idx_flat (k:=1) (f:=fun x:Int=>[Value.int .i64 x]) (fun _=>rfl) (by omega) (l:=LI) (by have:=(hli hu).1.row;simpa [← List.map_eq_flatMap] using this) rfl (by omega) fun b o hab hr=>⟨_,(by have:=hr.cells;exact this.1),?_⟩
  rw [hget i hi' (by omega)]
  have hfl:=flat_step c hi'
  rw [← hacc] at hfl
  refine ⟨fun x6 x7 b1 x8 u=>∃ k:Nat,x8=k∧1≤k∧k≤c.np∧∃ ac2:Option Spot,ac2=(spotsB c L[i] k).foldl newerS acc∧x6=(accB ac2:Nat)∧x7=(accK ac2:Nat)∧b1=ac2.isSome∧u.heap[B1]?=some (.cells (Point.vals (accP ac2)).toArray T.api_Point (0,0))∧Upd (·=B1) w₂ u,fun _ _ _ x8 _=>((c.np:Int) - x8).toNat,
   ⟨1,rfl,by omega,by omega,acc,rfl,rfl,rfl,rfl,gu,hu⟩,?_⟩
  rintro x10 x11 b2 x12 v ⟨k,rfl,hk1,hk,ac2,hac,rfl,rfl,rfl,gv,hv⟩
  refine (cGeo (h.ext (hext hv))).mono ?_
  rintro _ v1 ⟨rfl,hev1⟩
  have hv1:=hv.then hev1
  have gv1:=Ext.get hev1 gv
  refine ⟨_,_,_,_,rfl,br_dec (fun hkn=>?_) fun hkn=>?_⟩
  ·have hk':k<c.np:=by omega
   have ewk:IntKind.i64.wrap ((k:Int)+1)=((k+1:Nat):Int):=w64 (by omega) (by omega)
   simp only [ewk]
   have hfs:=fold_step c L[i] hk1 acc
   rw [← hac] at hfs
   refine (cPage (h.ext (hext hv1)) hd0 hbi hk').mono ?_
   rintro _ v2 ⟨hev2,a3,c3,rfl,hb3,hc3,hf3⟩
   refine ⟨_,_,_,_,rfl,(seal_Get_spec hb3 hc3).mono ?_⟩
   rintro _ v3 ⟨hev3,a4,c4,rfl,hb4,hc4⟩
   have hsm:=page_small h.ok hbi hk'
   have hv3:=(hv1.then hev2).then hev3
   have gv3:=Ext.get hev3 (Ext.get hev2 gv1)
   have same:∀ {v':World},Ext v3 v'→pointAt c L[i] k=none→(∃ k':Nat,((k+1:Nat):Int)=k'∧1≤k'∧k'≤c.np∧∃ ac3:Option Spot,ac3=(spotsB c L[i] k').foldl newerS acc∧((accB ac2:Nat):Int)=(accB ac3:Nat)∧((accK ac2:Nat):Int)=(accK ac3:Nat)∧ac2.isSome=ac3.isSome∧v'.heap[B1]?=some (.cells (Point.vals (accP ac3)).toArray T.api_Point (0,0))∧Upd (·=B1) w₂ v')∧((c.np:Int) - ((k+1:Nat):Int)).toNat<((c.np:Int) - (k:Int)).toNat:=fun hev' hno=>⟨⟨k+1,rfl,by omega,by omega,ac2,by rw [hfs,hno],rfl,rfl,rfl,Ext.get hev' gv3,hv3.then hev'⟩,meas hk'⟩
   refine ⟨_,_,_,_,_,rfl,br_ne (fun hne=>same (Upd.refl _ _) (pointAt_none1 (by omega))) fun hz=>br_ne (fun hne=>same (Upd.refl _ _) (pointAt_none2 fun e=>hne (by rw [e];rfl))) fun hk6=>?_⟩
   have hp6:(getPage (c.page L[i] k)).1=6:=(u8i _ 6 (by omega)).1 hk6
   refine (point_Get_spec (c:=c4) hb4 (by omega)).mono ?_
   rintro _ v4 ⟨rfl,hev4⟩
   refine ⟨_,_,_,_,_,rfl,new_put (vs:=Point.vals (getPoint (getPage (c.page L[i] k)).2.1).1) rfl fun B2 v5 hb5 hs5 hev5 g5=>br_eq (fun hz0=>?_) fun hne=>same (hev4.trans hev5) (pointAt_none3 (by omega))⟩
   have hsome:=pointAt_some (c:=c) (b:=L[i]) (k:=k) (by omega) hp6 (by omega)
   have ev5:=hev4.trans hev5
   have hv5:=hv3.then ev5
   have gv5:=Ext.get ev5 gv3
   rw [hsome] at hfs
   have hsv3:=hv3.size
   have hev4s:=hev4.size
   have hB2:B1≠B2:=by omega
   have take:∀ {v':World},Ext v5 v'→newerS ac2 ((getPoint (getPage (c.page L[i] k)).2.1).1,L[i],k)=some ((getPoint (getPage (c.page L[i] k)).2.1).1,L[i],k)→∃ x25 x26:Int,∃ x27 x28:Int,cellsAt v' ⟨B2,0,none⟩ [.int .u64 x25,.int .i64 x26,.int .i64 x27,.int .i64 x28] 0∧storeP v' ⟨B1,0,none⟩ [.int .u64 x25,.int .i64 x26,.int .i64 x27,.int .i64 x28] fun w12=>(∃ k':Nat,((k+1:Nat):Int)=k'∧1≤k'∧k'≤c.np∧∃ ac3:Option Spot,ac3=(spotsB c L[i] k').foldl newerS acc∧((L[i]:Nat):Int)=(accB ac3:Nat)∧((k:Nat):Int)=(accK ac3:Nat)∧true=ac3.isSome∧w12.heap[B1]?=some (.cells (Point.vals (accP ac3)).toArray T.api_Point (0,0))∧Upd (·=B1) w₂ w12)∧((c.np:Int) - ((k+1:Nat):Int)).toNat<((c.np:Int) - (k:Int)).toNat:=by
    intro v' hev' hnew
    refine ⟨_,_,_,_,cells_all (Ext.get hev' g5),put_all (vs:=Point.vals (getPoint (getPage (c.page L[i] k)).2.1).1) (Ext.get hev' gv5) rfl fun v6 hu6 hs6 g6=>⟨⟨k+1,rfl,by omega,by omega,some ((getPoint (getPage (c.page L[i] k)).2.1).1,L[i],k),?_,rfl,rfl,rfl,g6,(hv5.then hev').trans hu6⟩,meas hk'⟩⟩
    rw [hfs];exact hnew.symm
   cases ac2 with
   | none =>
    simp only [Option.isSome_none,Bool.not_false,br_true]
    exact take (Upd.refl _ _) rfl
   | some y =>
    simp only [Option.isSome_some,Bool.not_true,br_false]
    refine ⟨_,_,_,_,cells_all gv5,_,_,_,_,cells_all g5,(point_Newer_spec y.1 _ v5).mono ?_⟩
    rintro _ v7 ⟨rfl,hev7⟩
    refine ⟨_,rfl,?_⟩
    by_cases hgt:y.1.number > (getPoint (getPage (c.page L[i] k)).2.1).1.number
    ·have e1:(!decide (y.1.number > (getPoint (getPage (c.page L[i] k)).2.1).1.number))=false:=by simp [hgt]
     rw [e1]
     simp only [br_false]
     refine ⟨⟨k+1,rfl,by omega,by omega,some y,?_,rfl,rfl,rfl,Ext.get hev7 gv5,hv5.then hev7⟩,meas hk'⟩
     rw [hfs]
     show some y=newerS (some y) _
     unfold newerS
     simp only []
     rw [if_pos hgt]
    ·have e1:(!decide (y.1.number > (getPoint (getPage (c.page L[i] k)).2.1).1.number))=true:=by simp [hgt]
     rw [e1]
     simp only [br_true]
     refine take hev7 ?_
     unfold newerS
     simp only []
     rw [if_neg hgt]
  ·have hkk:k=c.np:=by omega
   subst hkk
   exact ⟨⟨i+1,rfl,hi',ac2,by rw [hac,hfl],rfl,rfl,rfl,gv1,hv1⟩,meas hi'⟩
 ·have hii:i=L.length:=by omega
  subst hii
  rw [List.take_length] at hacc
  rw [← hacc] at hR
  cases acc with
  | none =>
   simp only [Option.isSome_none,Bool.not_false,br_true]
   exact new_out (p:=Point.zero) (x:=0) (y:=0) (e:=12) gu rfl fun u' hu'=>hR _ _ ⟨rfl,(hext hu).beyond hu' fun x hx=>by omega⟩
  | some y =>
   simp only [Option.isSome_some,Bool.not_true,br_false]
   exact ⟨_,_,_,_,cells_all gu,new_out (p:=y.1) (e:=0) gu rfl fun u' hu'=>hR _ _ ⟨rfl,(hext hu).beyond hu' fun x hx=>by omega⟩⟩
theorem slice_clip {α:Type} {r:ERep α} {w:World} {S:Nat} {a:Option Addr} {c k:Nat} {e:TypeId} {l:List α} (hk:k=r.k) (h:ListAt r NoB S w a c e l) (hne:l≠[]) {K:Option Addr→Nat→Nat→Prop}
  (hK:∀ a' c',(∃ G,SliceAt r w G a' l∧∀ b,G b→S≤b∧b<w.heap.size)→l.length≤c'→K a' l.length c'):sliceP k a l.length c none (some (l.length:Int)) (some (l.length:Int)) K:=by
 subst hk
 obtain ⟨G,hs,hG⟩:=h.slice
 have hc:=h.cap
 have hpos:0<l.length:=List.length_pos_iff.2 hne
 obtain ⟨b,rfl⟩: ∃ b,a=some ⟨b,0,none⟩:=by
  obtain ⟨b,o,ha,hlt,_⟩:=hs.blk hne
  obtain ⟨_,ho,_,_⟩:=h
  obtain ⟨b',ha',_,hq⟩:=ho.blk ha
  exact ⟨b',ha'⟩
 refine slice_any (lo:=0) (hi:=l.length) (mx:=l.length) rfl rfl rfl (by omega) (by omega) hc (fun _=>rfl) fun a' ha'=>?_
 rw [Nat.sub_zero]
 have:a'=some ⟨b,0,none⟩:=by
  rcases ha' with h' | ⟨h',_⟩
  ·rw [h',Nat.zero_mul]
  ·omega
 subst this
 exact hK _ _ ⟨G,hs,fun x hx=>⟨by rcases (hG x hx).1 with h | h;exact h;exact h.elim,(hG x hx).2⟩⟩ (Nat.le_refl _)
theorem leaf_list_api_Fact_spec {w:World} {a:Option Addr} {b:List UInt8} {c:Nat} (hb:BytesAt w a b) (hn:b.length≤281474976710656) :
  CallsR prog K.leaf_list_api_Fact #[.slice a b.length c,.func (.func K.leaf_GetLeaf_1) #[] #[],.func (.func K.leaf_taker_fact) #[.agg #[]] #[]] w fun v w'=>SliceOut factR w w' v (getLeaf b).1 (getLeaf b).2:=by
 apply leaf_list_api_Fact.sh
 suffices H:∀ R:Value→World→Prop,(∀ v w',SliceOut factR w w' v (getLeaf b).1 (getLeaf b).2→R v w')→leaf_list_api_Fact.body a b.length c (.func (.func K.leaf_GetLeaf_1) #[] #[]) (.func (.func K.leaf_taker_fact) #[.agg #[]] #[]) w R from H _ fun _ _ h=>h
 intro R hR
 unfold leaf_list_api_Fact.body
 refine (ends_New_in a b c w hb hn).mono ?_
 rintro _ w₁ ⟨r,rfl,hr1,hrd,he1⟩
 have hrs1:r<w₁.heap.size:=by obtain ⟨_,_,h,_⟩:=hrd.at_;exact (Array.getElem?_eq_some_iff.1 h).1
 have hG:¬ (fun x=>w.heap.size≤x∧x<r) r:=by simp
 refine ⟨_,rfl,(rdTake (s:=some b) (k:=1) (by decide) hG hrd).mono ?_⟩
 rintro _ w₂ ⟨hu2,rfl,hr2⟩
 have e2:Ext w w₂:=he1.beyond hu2 fun x hx=>by omega
 have hs2:=hu2.size
 have hs0:=he1.size
 have a2:=takeS_lt 1 (some b)
 refine ⟨_,_,rfl,br_ne (fun hne=>?_) fun he=>br_eq (fun h0=>?_) fun h0=>?_⟩
 ·have hA:takeS 1 (some b)=(0,4,none):=takeS_err (by omega)
  have hg:getLeaf b=([],4):=by unfold getLeaf listS;rw [hA];rfl
  rw [hg] at hR
  rw [hA]
  exact hR _ _ (SliceOut.none rfl e2)
 ·have hg:getLeaf b=([],5):=by unfold getLeaf listS;rw [if_neg (by omega),if_pos (by omega)]
  rw [hg] at hR
  exact hR _ _ (SliceOut.none (x:=5) rfl e2)
 have hget:getLeaf b=_:=listS_take (key:=Fact.key) (one:=leafS) (b:=b) (by omega) (by omega)
 have hsome:(getLeaf b).2=0→(getLeaf b).1≠[]:=listS_some
 generalize takeS 1 (some b)=A at *
 refine ⟨fun a1 l1 c1 x u=>∃ (i:Nat) (s:St) (acc:List Fact),x=i∧i≤A.1∧l1=acc.length∧acc.length=i∧ListAt factR NoB w₂.heap.size u a1 c1 T.api_Fact acc∧RdIn (fun x=>w.heap.size≤x∧x<r) u r s∧Ext w u∧w₂.heap.size≤u.heap.size∧getLeaf b=listGo Fact.key leafS (A.1 - i) s acc,
  fun _ _ _ x _=>((A.1:Int) - x).toNat,⟨0,_,[],rfl,by omega,rfl,rfl,ListAt.nil _ _,hr2,e2,Nat.le_refl _,hget⟩,?_⟩
 rintro a1 l1 c1 x u ⟨i,s,acc,rfl,hi,rfl,hacc,hl,hrd,heu,hsu,hgo⟩
 refine br_dec (fun hlt=>?_) fun hge=>?_
 ·have hi':i<A.1:=by omega
  rw [listGo_step hi'] at hgo
  refine (fact_GetKey_spec hG (fun x hx=>by omega) (by omega) hrd).mono ?_
  rintro _ w₄ ⟨rfl,hu4,hr4⟩
  have e4:Ext w w₄:=heu.beyond hu4 fun x hx=>by omega
  have hl4:ListAt factR NoB w₂.heap.size w₄ a1 c1 T.api_Fact acc:=hl.upd hu4 fun x hx=>⟨by omega,fun h=>h⟩
  have hs4:=hu4.size
  refine ⟨_,_,_,_,_,rfl,new_put (vs:=Key.vals (keyS s).1) rfl fun B1 w₆ hb1 hs6 he6 g6=>br_ne (fun hne=>?_) fun he=>?_⟩
  ·rw [if_pos (by omega)] at hgo
   rw [hgo] at hR
   exact hR _ _ (SliceOut.none rfl (e4.trans he6))
  rw [if_neg (by omega)] at hgo
  refine ⟨_,_,_,_,key_cells g6,(show callT (.func (.func K.leaf_taker_fact) #[.agg #[]] #[]) _ _ _ from ⟨by kernel_rfl,(leaf_taker_fact_spec (keyS s).1 hG (fun x hx=>by omega) (by omega) (hr4.ext he6)).mono ?_⟩)⟩
  rintro _ w₇ ⟨hu7,hr7,k2,a3,n3,c3,rfl,hok⟩
  have hs7:=hu7.size
  have g7:=hu7.get g6 (by omega)
  have hl7:ListAt factR NoB w₂.heap.size w₇ a1 c1 T.api_Fact acc:=(hl4.ext he6).upd hu7 fun x hx=>⟨by omega,fun h=>h⟩
  have e7:Ext w w₇:=(e4.trans he6).beyond hu7 fun x hx=>by omega
  refine ⟨_,_,_,_,_,_,_,_,rfl,new_put (vs:=factVs k2 a3 n3 c3) rfl fun B2 w₉ hb2 hs9 he9 g9=>br_ne (fun hne=>?_) fun he9e=>?_⟩
  ·rw [if_pos (by omega)] at hgo
   rw [hgo] at hR
   exact hR _ _ (SliceOut.none rfl (e7.trans he9))
  rw [if_neg (by omega)] at hgo
  obtain ⟨rfl,hkk,rfl,hc3,hby,hf3⟩:=hok (by omega)
  intro w₁₀ hd10
  have he10:=hd10.upd
  have hs10:=he10.size
  have e10:=(e7.trans he9).trans he10
  have hl10:=(hl7.ext he9).ext he10
  have g10:=Ext.get he10 g9
  have g107:=Ext.get he10 (Ext.get he9 g7)
  have ew:IntKind.u64.wrap ((i:Int)+1)=((i+1:Nat):Int):=wu64 (by omega) (by omega)
  have fin:∀ {w₁₂:World},Ext w₁₀ w₁₂→getLeaf b=listGo Fact.key leafS (A.1 - (i+1)) (leafS (keyS s).1 (keyS s).2.2).2.2 (acc ++ [(leafS (keyS s).1 (keyS s).2.2).1])→∃ x24 x25:Int,∃ s7:ByteArray,∃ x26:Int,∃ (a4:Option Addr) (l4 c4:Nat),cellsAt w₁₂ ⟨B2,0,none⟩ [.int .i64 x24,.int .u8 x25,.string s7,.int .i64 x26,.slice a4 l4 c4] 0∧
    ∀ (B3:Nat) (w13:World),New w₁₂ (.cells #[.int .i64 x24,.int .u8 x25,.string s7,.int .i64 x26,.slice a4 l4 c4] T.api_Fact) B3 w13→
    appendP T.api_Fact 5 64 [.int .i64 0,.int .u8 0,.string (⟨#[]⟩: ByteArray),.int .i64 0,.slice none 0 0] a1 acc.length c1 (.slice (some ⟨B3,0,none⟩) 1 1) w13 fun a5 l5 c5 w14=>(∃ (j:Nat) (s:St) (acc:List Fact),IntKind.u64.wrap ((i:Int)+1)=j∧j≤A.1∧l5=acc.length∧acc.length=j∧ListAt factR NoB w₂.heap.size w14 a5 c5 T.api_Fact acc∧RdIn (fun x=>w.heap.size≤x∧x<r) w14 r s∧Ext w w14∧w₂.heap.size≤w14.heap.size∧getLeaf b=listGo Fact.key leafS (A.1 - j) s acc)∧((A.1:Int) - IntKind.u64.wrap ((i:Int)+1)).toNat<((A.1:Int) - (i:Int)).toNat:=by
   intro w₁₂ he12 hgo'
   have hs12:=he12.size
   refine ⟨_,_,_,_,_,_,_,cells_all (Ext.get he12 g10),fun B3 w₁₃ hn13=>?_⟩
   have he13:=hn13.upd
   have hs13:=hn13.size
   refine ListAt.push (r:=factR) (H:=fun b=>w₆.heap.size≤b∧b<w₇.heap.size) ((hl10.ext he12).ext he13) (factR_intro hc3 ((((hby.ext he9).ext he10).ext he12).ext he13) fun _ p hp=>hf3 p hp) (fun b hb=>⟨.inl (by omega),by omega,fun h=>?_⟩) hn13 rfl rfl (by omega) (by omega) (by omega) fun a' c' w₁₄ hu14 hl14=>?_
   ·have:=(hl4.ext he6).lt h
    omega
   ·have e14:Ext w w₁₄:=((e10.trans he12).trans he13).beyond hu14 fun x hx=>by omega
    have hs14:=hu14.size
    rw [ew]
    exact ⟨⟨i+1,_,_,rfl,hi',rfl,by simp [hacc],hl14,((((hr7.ext he9).ext he10).ext he12).ext he13).upd hu14 (by omega) fun x hx=>by omega,e14,by omega,hgo'⟩,meas hi'⟩
  refine ⟨fun u=>Ext w₁₀ u,Upd.refl _ _,br_dec (fun hpos=>?_) fun hz=>⟨Upd.refl _ _,Upd.refl _ _,?_⟩⟩
  ·obtain ⟨j,hj⟩: ∃ j,i=j+1:=⟨i - 1,by omega⟩
   have hah:=aheadL_last (key:=Fact.key) (acc:=acc) (k:=(keyS s).1) (i:=j) (by omega)
   obtain ⟨G,hsl,hGl⟩:=hl10.slice
   have ew2:IntKind.i64.wrap ((acc.length:Int) - 1)=((j:Nat):Int):=w64 (by omega) (by omega) |>.trans (by omega)
   rw [ew2]
   refine SliceAt.idx (r:=factR) hsl rfl (by omega) fun b' o vs ha hrow hR' hG'=>?_
   obtain ⟨av,cv,rfl,hcv,hbv,hgv⟩:=factR_elim hR'
   refine ⟨_,_,_,_,_,_,_,fun u hu=>(RowAt.ext hrow hu).cells,_,_,_,_,fun u hu=>key_cells (Ext.get hu g107),(show callT (.func (.func K.leaf_GetLeaf_1) #[] #[]) _ _ _ from ⟨by kernel_rfl,(leaf_GetLeaf_1_spec _ _ _ _ _).mono ?_⟩)⟩
   rintro _ w₁₁ ⟨rfl,he11⟩
   refine ⟨_,_,_,_,rfl,he11,(fact_Before_spec _ _ _).mono ?_⟩
   rintro _ w₁₂ ⟨rfl,he12⟩
   refine ⟨_,rfl,he11.trans he12,br_intro (fun hno=>?_) fun hyes=>?_⟩
   ·rw [if_pos (by rw [hah];simpa using hno)] at hgo
    rw [hgo] at hR
    exact hR _ _ (SliceOut.none (x:=5) rfl ((e10.trans he11).trans he12))
   ·rw [if_neg (by rw [hah];simpa using hyes)] at hgo
    exact fin (he11.trans he12) hgo
  ·have hnil:acc=[]:=List.eq_nil_of_length_eq_zero (by omega)
   rw [if_neg (by rw [hnil,aheadL_nil];decide)] at hgo
   exact fin (Upd.refl _ _) hgo
 ·have hin:i=A.1:=by omega
  subst hin
  rw [Nat.sub_self] at hgo
  refine (rdLeft hrd).mono ?_
  rintro _ _ ⟨rfl,rfl⟩
  refine ⟨_,rfl,br_dec (fun hl0=>?_) fun hl0=>?_⟩
  ·have hg:getLeaf b=([],5):=by rw [hgo];unfold listGo;rw [if_pos (by omega)]
   rw [hg] at hR
   exact hR _ _ (SliceOut.none (x:=5) rfl heu)
  ·have hg:getLeaf b=(acc,0):=by rw [hgo];unfold listGo;rw [if_neg (by omega)]
   rw [hg] at hR hsome
   refine slice_clip rfl hl (hsome rfl) fun a' c' hG' hc'=>?_
   obtain ⟨G,h1,h2⟩:=hG'
   exact hR _ _ ⟨_,_,G,rfl,h1,fun b hb=>by have:=h2 b hb;omega,hc',heu⟩
theorem leaf_list_api_Child_spec {w:World} {a:Option Addr} {b:List UInt8} {c:Nat} (hb:BytesAt w a b) (hn:b.length≤281474976710656) :
  CallsR prog K.leaf_list_api_Child #[.slice a b.length c,.func (.func K.leaf_GetInner_1) #[] #[],.func (.func K.leaf_taker_child) #[.agg #[]] #[]] w fun v w'=>SliceOut childR w w' v (getInner b).1 (getInner b).2:=by
 apply leaf_list_api_Child.sh
 suffices H:∀ R:Value→World→Prop,(∀ v w',SliceOut childR w w' v (getInner b).1 (getInner b).2→R v w')→leaf_list_api_Child.body a b.length c (.func (.func K.leaf_GetInner_1) #[] #[]) (.func (.func K.leaf_taker_child) #[.agg #[]] #[]) w R from H _ fun _ _ h=>h
 intro R hR
 unfold leaf_list_api_Child.body
 refine (ends_New_in a b c w hb hn).mono ?_
 rintro _ w₁ ⟨r,rfl,hr1,hrd,he1⟩
 have hrs1:r<w₁.heap.size:=by obtain ⟨_,_,h,_⟩:=hrd.at_;exact (Array.getElem?_eq_some_iff.1 h).1
 have hG:¬ (fun x=>w.heap.size≤x∧x<r) r:=by simp
 refine ⟨_,rfl,(rdTake (s:=some b) (k:=1) (by decide) hG hrd).mono ?_⟩
 rintro _ w₂ ⟨hu2,rfl,hr2⟩
 have e2:Ext w w₂:=he1.beyond hu2 fun x hx=>by omega
 have hs2:=hu2.size
 have hs0:=he1.size
 have a2:=takeS_lt 1 (some b)
 refine ⟨_,_,rfl,br_ne (fun hne=>?_) fun he=>br_eq (fun h0=>?_) fun h0=>?_⟩
 ·have hA:takeS 1 (some b)=(0,4,none):=takeS_err (by omega)
  have hg:getInner b=([],4):=by unfold getInner listS;rw [hA];rfl
  rw [hg] at hR
  rw [hA]
  exact hR _ _ (SliceOut.none rfl e2)
 ·have hg:getInner b=([],5):=by unfold getInner listS;rw [if_neg (by omega),if_pos (by omega)]
  rw [hg] at hR
  exact hR _ _ (SliceOut.none (x:=5) rfl e2)
 have hget:getInner b=_:=listS_take (key:=Child.key) (one:=innerS) (b:=b) (by omega) (by omega)
 have hsome:(getInner b).2=0→(getInner b).1≠[]:=listS_some
 generalize takeS 1 (some b)=A at *
 refine ⟨fun a1 l1 c1 x u=>∃ (i:Nat) (s:St) (acc:List Child),x=i∧i≤A.1∧l1=acc.length∧acc.length=i∧ListAt childR NoB w₂.heap.size u a1 c1 T.api_Child acc∧RdIn (fun x=>w.heap.size≤x∧x<r) u r s∧Ext w u∧w₂.heap.size≤u.heap.size∧getInner b=listGo Child.key innerS (A.1 - i) s acc,
  fun _ _ _ x _=>((A.1:Int) - x).toNat,⟨0,_,[],rfl,by omega,rfl,rfl,ListAt.nil _ _,hr2,e2,Nat.le_refl _,hget⟩,?_⟩
 rintro a1 l1 c1 x u ⟨i,s,acc,rfl,hi,rfl,hacc,hl,hrd,heu,hsu,hgo⟩
 refine br_dec (fun hlt=>?_) fun hge=>?_
 ·have hi':i<A.1:=by omega
  rw [listGo_step hi'] at hgo
  refine (fact_GetKey_spec hG (fun x hx=>by omega) (by omega) hrd).mono ?_
  rintro _ w₄ ⟨rfl,hu4,hr4⟩
  have e4:Ext w w₄:=heu.beyond hu4 fun x hx=>by omega
  have hl4:ListAt childR NoB w₂.heap.size w₄ a1 c1 T.api_Child acc:=hl.upd hu4 fun x hx=>⟨by omega,fun h=>h⟩
  have hs4:=hu4.size
  refine ⟨_,_,_,_,_,rfl,new_put (vs:=Key.vals (keyS s).1) rfl fun B1 w₆ hb1 hs6 he6 g6=>br_ne (fun hne=>?_) fun he=>?_⟩
  ·rw [if_pos (by omega)] at hgo
   rw [hgo] at hR
   exact hR _ _ (SliceOut.none rfl (e4.trans he6))
  rw [if_neg (by omega)] at hgo
  refine ⟨_,_,_,_,key_cells g6,(show callT (.func (.func K.leaf_taker_child) #[.agg #[]] #[]) _ _ _ from ⟨by kernel_rfl,(leaf_taker_child_spec (keyS s).1 hG (fun x hx=>by omega) (by omega) (hr4.ext he6)).mono ?_⟩)⟩
  rintro _ w₇ ⟨hu7,hr7,rfl,hok⟩
  have hs7:=hu7.size
  have g7:=hu7.get g6 (by omega)
  have hl7:ListAt childR NoB w₂.heap.size w₇ a1 c1 T.api_Child acc:=(hl4.ext he6).upd hu7 fun x hx=>⟨by omega,fun h=>h⟩
  have e7:Ext w w₇:=(e4.trans he6).beyond hu7 fun x hx=>by omega
  refine ⟨_,_,_,_,_,_,_,rfl,new_put (vs:=childVs (innerS (keyS s).1 (keyS s).2.2).1) rfl fun B2 w₉ hb2 hs9 he9 g9=>br_ne (fun hne=>?_) fun he9e=>?_⟩
  ·rw [if_pos (by omega)] at hgo
   rw [hgo] at hR
   exact hR _ _ (SliceOut.none rfl (e7.trans he9))
  rw [if_neg (by omega)] at hgo
  intro w₁₀ hd10
  have he10:=hd10.upd
  have hs10:=he10.size
  have e10:=(e7.trans he9).trans he10
  have hl10:=(hl7.ext he9).ext he10
  have g10:=Ext.get he10 g9
  have g107:=Ext.get he10 (Ext.get he9 g7)
  have ew:IntKind.u64.wrap ((i:Int)+1)=((i+1:Nat):Int):=wu64 (by omega) (by omega)
  have fin:∀ {w₁₂:World},Ext w₁₀ w₁₂→getInner b=listGo Child.key innerS (A.1 - (i+1)) (innerS (keyS s).1 (keyS s).2.2).2.2 (acc ++ [(innerS (keyS s).1 (keyS s).2.2).1])→∃ x24 x25:Int,∃ s7:ByteArray,∃ x26 x27 x28:Int,cellsAt w₁₂ ⟨B2,0,none⟩ [.int .i64 x24,.int .u8 x25,.string s7,.int .i64 x26,.int .i64 x27,.int .i64 x28] 0∧
    ∀ (B3:Nat) (w13:World),New w₁₂ (.cells #[.int .i64 x24,.int .u8 x25,.string s7,.int .i64 x26,.int .i64 x27,.int .i64 x28] T.api_Child) B3 w13→
    appendP T.api_Child 6 56 [.int .i64 0,.int .u8 0,.string (⟨#[]⟩: ByteArray),.int .i64 0,.int .i64 0,.int .i64 0] a1 acc.length c1 (.slice (some ⟨B3,0,none⟩) 1 1) w13 fun a5 l5 c5 w14=>(∃ (j:Nat) (s:St) (acc:List Child),IntKind.u64.wrap ((i:Int)+1)=j∧j≤A.1∧l5=acc.length∧acc.length=j∧ListAt childR NoB w₂.heap.size w14 a5 c5 T.api_Child acc∧RdIn (fun x=>w.heap.size≤x∧x<r) w14 r s∧Ext w w14∧w₂.heap.size≤w14.heap.size∧getInner b=listGo Child.key innerS (A.1 - j) s acc)∧((A.1:Int) - IntKind.u64.wrap ((i:Int)+1)).toNat<((A.1:Int) - (i:Int)).toNat:=by
   intro w₁₂ he12 hgo'
   have hs12:=he12.size
   refine ⟨_,_,_,_,_,_,cells_all (Ext.get he12 g10),fun B3 w₁₃ hn13=>?_⟩
   have he13:=hn13.upd
   have hs13:=hn13.size
   refine ListAt.push (r:=childR) (x:=(innerS (keyS s).1 (keyS s).2.2).1) (H:=NoB) ((hl10.ext he12).ext he13) rfl (fun b hb=>hb.elim) hn13 rfl rfl (by omega) (by omega) (by omega) fun a' c' w₁₄ hu14 hl14=>?_
   have e14:Ext w w₁₄:=((e10.trans he12).trans he13).beyond hu14 fun x hx=>by omega
   have hs14:=hu14.size
   rw [ew]
   exact ⟨⟨i+1,_,_,rfl,hi',rfl,by simp [hacc],hl14,((((hr7.ext he9).ext he10).ext he12).ext he13).upd hu14 (by omega) fun x hx=>by omega,e14,by omega,hgo'⟩,meas hi'⟩
  refine ⟨fun u=>Ext w₁₀ u,Upd.refl _ _,br_dec (fun hpos=>?_) fun hz=>⟨Upd.refl _ _,Upd.refl _ _,?_⟩⟩
  ·obtain ⟨j,hj⟩: ∃ j,i=j+1:=⟨i - 1,by omega⟩
   have hah:=aheadL_last (key:=Child.key) (acc:=acc) (k:=(keyS s).1) (i:=j) (by omega)
   obtain ⟨G,hsl,hGl⟩:=hl10.slice
   have ew2:IntKind.i64.wrap ((acc.length:Int) - 1)=((j:Nat):Int):=w64 (by omega) (by omega) |>.trans (by omega)
   rw [ew2]
   refine SliceAt.idx (r:=childR) hsl rfl (by omega) fun b' o vs ha hrow hR' hG'=>?_
   obtain rfl:vs=childVs (acc[j]'(by omega)):=hR'
   refine ⟨_,_,_,_,_,_,fun u hu=>(RowAt.ext hrow hu).cells,_,_,_,_,fun u hu=>key_cells (Ext.get hu g107),(show callT (.func (.func K.leaf_GetInner_1) #[] #[]) _ _ _ from ⟨by kernel_rfl,(leaf_GetInner_1_spec _ _).mono ?_⟩)⟩
   rintro _ w₁₁ ⟨rfl,he11⟩
   refine ⟨_,_,_,_,rfl,he11,(fact_Before_spec _ _ _).mono ?_⟩
   rintro _ w₁₂ ⟨rfl,he12⟩
   refine ⟨_,rfl,he11.trans he12,br_intro (fun hno=>?_) fun hyes=>?_⟩
   ·rw [if_pos (by rw [hah];simpa using hno)] at hgo
    rw [hgo] at hR
    exact hR _ _ (SliceOut.none (x:=5) rfl ((e10.trans he11).trans he12))
   ·rw [if_neg (by rw [hah];simpa using hyes)] at hgo
    exact fin (he11.trans he12) hgo
  ·have hnil:acc=[]:=List.eq_nil_of_length_eq_zero (by omega)
   rw [if_neg (by rw [hnil,aheadL_nil];decide)] at hgo
   exact fin (Upd.refl _ _) hgo
 ·have hin:i=A.1:=by omega
  subst hin
  rw [Nat.sub_self] at hgo
  refine (rdLeft hrd).mono ?_
  rintro _ _ ⟨rfl,rfl⟩
  refine ⟨_,rfl,br_dec (fun hl0=>?_) fun hl0=>?_⟩
  ·have hg:getInner b=([],5):=by rw [hgo];unfold listGo;rw [if_pos (by omega)]
   rw [hg] at hR
   exact hR _ _ (SliceOut.none (x:=5) rfl heu)
  ·have hg:getInner b=(acc,0):=by rw [hgo];unfold listGo;rw [if_neg (by omega)]
   rw [hg] at hR hsome
   refine slice_clip rfl hl (hsome rfl) fun a' c' hG' hc'=>?_
   obtain ⟨G,h1,h2⟩:=hG'
   exact hR _ _ ⟨_,_,G,rfl,h1,fun b hb=>by have:=h2 b hb;omega,hc',heu⟩
theorem leaf_GetLeaf_spec {w:World} {a:Option Addr} {b:List UInt8} {c:Nat} (hb:BytesAt w a b) (hn:b.length≤281474976710656):CallsR prog K.leaf_GetLeaf #[.slice a b.length c] w fun v w'=>SliceOut factR w w' v (getLeaf b).1 (getLeaf b).2:=by
 apply leaf_GetLeaf.sh
 unfold leaf_GetLeaf.body
 intro B1 w₁ hn1
 refine ⟨cells_all (vs:=[]) hn1.get,(leaf_list_api_Fact_spec (c:=c) (hb.ext hn1.upd) hn).mono ?_⟩
 rintro _ w₂ ⟨a2,c2,G,rfl,h1,h2,h3,h4⟩
 have hs1:=hn1.size
 exact ⟨_,_,_,_,rfl,_,_,G,rfl,h1,fun b hb=>by have:=h2 b hb;omega,h3,hn1.upd.trans h4⟩
theorem leaf_GetInner_spec {w:World} {a:Option Addr} {b:List UInt8} {c:Nat} (hb:BytesAt w a b) (hn:b.length≤281474976710656):CallsR prog K.leaf_GetInner #[.slice a b.length c] w fun v w'=>SliceOut childR w w' v (getInner b).1 (getInner b).2:=by
 apply leaf_GetInner.sh
 unfold leaf_GetInner.body
 intro B1 w₁ hn1
 refine ⟨cells_all (vs:=[]) hn1.get,(leaf_list_api_Child_spec (c:=c) (hb.ext hn1.upd) hn).mono ?_⟩
 rintro _ w₂ ⟨a2,c2,G,rfl,h1,h2,h3,h4⟩
 have hs1:=hn1.size
 exact ⟨_,_,_,_,rfl,_,_,G,rfl,h1,fun b hb=>by have:=h2 b hb;omega,h3,hn1.upd.trans h4⟩
theorem CallsE.mono {P:Program} {f:FuncId} {args:Array Value} {w:World} {R X R' X':Value→World→Prop} (h:CallsE P f args w R X) (hr:∀ v w',R v w'→R' v w') (hx:∀ v w',X v w'→X' v w'):CallsE P f args w R' X' :=
 Calls.mono h fun e w' hh=>by
  rcases hh with ⟨v,e',hv⟩| ⟨v,e',hv⟩
  ·exact .inl ⟨v,e',hr _ _ hv⟩
  ·exact .inr ⟨v,e',hx _ _ hv⟩
theorem want_spec {b:Bool} {w:World} {R X:Value→World→Prop} (h1:b=true→R (.tuple #[]) w) (h2:b=false→X (.iface T.walk_wrong (.agg #[])) w):CallsE prog K.walk_want #[.bool b] w R X:=by
 apply walk_want.sh
 unfold walk_want.body
 cases b with
 | true=>exact h1 rfl
 | false=>exact h2 rfl
theorem slices_Index_int_spec {w:World} {a:Option Addr} {c:Nat} {l:List Int} (h:RowAt w a (l.map (Value.int .i64))) (hn:l.length<1000000) (x:Int) :
  CallsR prog K.slices_Index_int #[.slice a l.length c,.int .i64 x] w fun v w'=>w'=w∧∃ i:Int,v= .int .i64 i∧(i≥0 ↔ x∈l):=by
 apply slices_Index_int.sh
 unfold slices_Index_int.body
 refine ⟨fun y u=>u=w∧∃ i:Nat,y=i∧i≤l.length∧x ∉ l.take i,fun y _=>((l.length:Int) - y).toNat,⟨rfl,0,rfl,by omega,by simp⟩,?_⟩
 rintro y u ⟨rfl,i,rfl,hi,hno⟩
 refine br_dec (fun hlt=>?_) fun hge=>?_
 ·have hi':i<l.length:=by omega
  have ew:IntKind.i64.wrap ((i:Int)+1)=((i+1:Nat):Int):=w64 (by omega) (by omega)
  simp only [ew]
  refine idx_flat (k:=1) (f:=fun x:Int=>[Value.int .i64 x]) (fun _=>rfl) (by omega) (l:=l) (by simpa [← List.map_eq_flatMap] using h) rfl hi' fun b o hab hr=>⟨_,(by have:=hr.cells;exact this.1),br_eq (fun he=>?_) fun hne=>?_⟩
  ·exact ⟨trivial,_,rfl,⟨fun _=>he ▸ List.getElem_mem hi',fun _=>by omega⟩⟩
  ·refine ⟨⟨trivial,i+1,rfl,hi',?_⟩,meas hi'⟩
   rw [List.take_succ_eq_append_getElem hi']
   intro hx
   rcases List.mem_append.1 hx with hx | hx
   ·exact hno hx
   ·exact hne (List.mem_singleton.1 hx)
 ·have hii:i=l.length:=by omega
  subst hii
  rw [List.take_length] at hno
  exact ⟨rfl,_,rfl,⟨fun h=>absurd h (by decide),fun h=>absurd h hno⟩⟩
theorem slices_Contains_int_spec {w:World} {a:Option Addr} {c:Nat} {l:List Int} (h:RowAt w a (l.map (Value.int .i64))) (hn:l.length<1000000) (x:Int) :
  CallsR prog K.slices_Contains_int #[.slice a l.length c,.int .i64 x] w fun v w'=>w'=w∧v= .bool (decide (x∈l)):=by
 apply slices_Contains_int.sh
 unfold slices_Contains_int.body
 refine (slices_Index_int_spec h hn x).mono ?_
 rintro _ _ ⟨rfl,i,rfl,hi⟩
 refine ⟨_,rfl,rfl,?_⟩
 congr 1
 exact decide_eq_decide.2 hi
structure TLoc where
 b:Nat
 m:Nat
 p:Nat
 ab:Option Addr
 cb:Nat
 bs:List Int
abbrev TLoc.cells (L:TLoc) (ap:Option Addr) (np cp:Nat) (af:Option Addr) (nf cf:Nat) (d:Nat):List Value:=[.pointer (some ⟨L.p,0,none⟩),.slice L.ab L.bs.length L.cb,.map (some L.m),.slice ap np cp,.slice af nf cf,.int .i64 (d:Nat)]
structure TSep (L:TLoc) (O U:Nat→Prop) (w:World) (ap af:Option Addr) (G:Nat→Prop):Prop where
 ob:O L.b
 om:O L.m
 bm:L.b≠L.m
 op:∀ x,ap=some ⟨x,0,none⟩→O x∧x≠L.b∧x≠L.m
 of_:∀ x,af=some ⟨x,0,none⟩→O x∧x≠L.b∧x≠L.m∧ap≠some ⟨x,0,none⟩
 go:∀ x,G x→U x∧¬ O x
 ou:∀ x,O x→U x
 lt:∀ x,U x→x<w.heap.size
def TreeIn (L:TLoc) (O U:Nat→Prop) (w:World) (t:TreeS):Prop:=∃ ap cp af cf es ck G,
 w.heap[L.b]?=some (.cells (L.cells ap t.pages.length cp af t.facts.length cf t.depth).toArray T.walk_tree (0,0))∧
 OwnAt w ap t.pages.length cp T.api_Place 2 (t.pages.flatMap Place.vals)∧OwnS factR w G af cf T.api_Fact t.facts∧w.heap[L.m]?=some (.map es ck)∧MapIs es t.pages∧TSep L O U w ap af G
theorem TSep.size {L:TLoc} {O U:Nat→Prop} {w w':World} {ap af:Option Addr} {G:Nat→Prop} (h:TSep L O U w ap af G) (hs:w.heap.size≤w'.heap.size):TSep L O U w' ap af G :=
 ⟨h.ob,h.om,h.bm,h.op,h.of_,h.go,h.ou,fun x hx=>Nat.lt_of_lt_of_le (h.lt x hx) hs⟩
theorem TreeIn.upd {L:TLoc} {O U:Nat→Prop} {w w':World} {t:TreeS} {F:Nat→Prop} (h:TreeIn L O U w t) (k:Upd F w w') (hF:∀ x,F x→¬ U x):TreeIn L O U w' t:=by
 obtain ⟨ap,cp,af,cf,es,ck,G,h1,h2,h3,h4,h5,h6⟩:=h
 refine ⟨ap,cp,af,cf,es,ck,G,k.get h1 fun hf=>hF _ hf (h6.ou _ h6.ob),h2.upd k fun b hb hf=>hF _ hf (h6.ou _ (h6.op b hb).1),h3.upd k (fun b hb hf=>hF _ hf (h6.go b hb).1) fun b hb hf=>hF _ hf (h6.ou _ (h6.of_ b hb).1),k.get h4 fun hf=>hF _ hf (h6.ou _ h6.om),h5,h6.size k.size⟩
theorem TreeIn.ext {L:TLoc} {O U:Nat→Prop} {w w':World} {t:TreeS} (h:TreeIn L O U w t) (k:Ext w w'):TreeIn L O U w' t:=h.upd k fun _ h=>h.elim
theorem TreeIn.lt {L:TLoc} {O U:Nat→Prop} {w:World} {t:TreeS} (h:TreeIn L O U w t):∀ x,U x→x<w.heap.size:=by
 obtain ⟨_,_,_,_,_,_,_,_,_,_,_,_,h6⟩:=h
 exact h6.lt
theorem TreeIn.ou {L:TLoc} {O U:Nat→Prop} {w:World} {t:TreeS} (h:TreeIn L O U w t):∀ x,O x→U x:=by
 obtain ⟨_,_,_,_,_,_,_,_,_,_,_,_,h6⟩:=h
 exact h6.ou
def Grown (L:TLoc) (O U:Nat→Prop) (w w':World) (t:TreeS):Prop:=∃ O' U',TreeIn L O' U' w' t∧(∀ x,O' x→O x∨w.heap.size≤x)∧∀ x,U' x→U x∨w.heap.size≤x
theorem lastAhead_nil {k:Key}:lastAhead [] k=true:=rfl
theorem lastAhead_at {l:List Fact} {k:Key} {i:Nat} (hi:i+1=l.length):lastAhead l k=before (l[i]'(by omega)).key k:=by
 unfold lastAhead
 have:l.getLast?=some (l[i]'(by omega)):=by
  rw [List.getLast?_eq_getElem?,List.getElem?_eq_getElem (by omega)]
  congr 2;omega
 rw [this]
theorem Place.len (p:Place):p.vals.length=2:=rfl
theorem first_fact {w:World} {G:Nat→Prop} {a:Option Addr} {x:Fact} {r:List Fact} (h:SliceAt factR w G a (x :: r)) {n:Nat} (hn:n=(x :: r).length) {K':Addr→Prop} (hk:∀ q,(∀ u,Ext w u→cellsAt u q [.int .i64 x.key.ino,bv x.key.what,.string x.key.name,.int .i64 x.key.chunk] 0)→K' q):idxP a n (0:Int) 5 K':=by
 refine SliceAt.idx (r:=factR) (i:=0) h hn (by simp) fun b o vs ha hrow hR' hG=>?_
 obtain ⟨av,cv,rfl,hcv,hbv,hgv⟩:=factR_elim hR'
 exact hk _ fun u hu=>(RowAt.take (RowAt.ext hrow hu) 4).cells
theorem leafT_none1 {t:TreeS} {l:List Fact×Nat} {d:Nat} (h:l.2≠0):leafT t l d=none:=by unfold leafT;rw [if_pos h]
theorem leafT_none2 {t:TreeS} {l:List Fact×Nat} {d:Nat} (h1:t.depth≠0) (h2:t.depth≠d):leafT t l d=none:=by
 unfold leafT
 split
 ·rfl
 ·rw [if_pos ⟨h1,h2⟩]
theorem leafT_last {t:TreeS} {l:List Fact×Nat} {d:Nat} {x:Fact} {r:List Fact} (h:l.2=0) (hd:t.depth=0∨t.depth=d) (hx:l.1=x :: r):leafT t l d=if lastAhead t.facts x.key=false then none else some (x.key,{ t with facts:=t.facts ++ (x :: r),depth:=d }):=by
 unfold leafT
 rw [if_neg (by omega),if_neg (by omega)]
 rw [hx]
theorem walk_tree_leaf_spec {L:TLoc} {O U:Nat→Prop} {w:World} {t:TreeS} (h:TreeIn L O U w t) {a:Option Addr} {b:List UInt8} {c:Nat} (hb:BytesAt w a b) (hn:b.length≤281474976710656) (ht:t.facts.length≤1000000) (d:Nat) :
  CallsE prog K.walk_tree_leaf #[.pointer (some ⟨L.b,0,none⟩),.slice a b.length c,.int .i64 d] w
   (fun v w'=>∃ k t',leafT t (getLeaf b) d=some (k,t')∧v=keyV k∧Upd O w w'∧Grown L O U w w' t')
   (fun v w'=>leafT t (getLeaf b) d=none∧v= .iface T.walk_wrong (.agg #[])∧Upd O w w'):=by
 apply walk_tree_leaf.sh
 suffices H:∀ R X:Value→World→Prop,(∀ v w',(∃ k t',leafT t (getLeaf b) d=some (k,t')∧v=keyV k∧Upd O w w'∧Grown L O U w w' t')→R v w')→(∀ v w',(leafT t (getLeaf b) d=none∧v= .iface T.walk_wrong (.agg #[])∧Upd O w w')→X v w')→walk_tree_leaf.body (some ⟨L.b,0,none⟩) a b.length c d w R X from H _ _ (fun _ _ h=>h) fun _ _ h=>h
 intro R X hR hX
 unfold walk_tree_leaf.body
 simp only [nilC_some',add_lit,Nat.zero_add]
 intro B1 w₁ hn1
 have hB1:=hn1.num
 have hs1:=hn1.size
 have e1:=hn1.upd
 refine CallsR.toE ((leaf_GetLeaf_spec (c:=c) (hb.ext e1) hn).mono ?_)
 rintro _ w₂ ⟨a2,c2,Gl,rfl,hl2,hGl,hc2,he2⟩
 have e2:=e1.trans he2
 have hs2:=he2.size
 have h2:=h.ext e2
 have gB:=Ext.get he2 hn1.get
 obtain ⟨ap,cp,af,cf,es,ck,G,q1,q2,q3,q4,q5,q6⟩:=h2
 have hlt:=h.lt
 obtain ⟨gl1,gl2⟩:=getLeaf_ok b
 refine ⟨_,_,_,_,rfl,fun u=>u=w₂∧(getLeaf b).2=0∧(t.depth=0∨t.depth=d),br_eq (fun h0=>⟨_,cell_of q1 rfl,br_eq (fun hd0=>want_spec (fun _=>⟨rfl,rfl,by omega,.inl (by omega)⟩) fun h=>absurd h (by decide)) fun hd0=>⟨_,cell_of q1 rfl,want_spec (fun hy=>⟨rfl,rfl,by omega,.inr ?_⟩) fun hno=>hX _ _ ⟨leafT_none2 (by omega) ?_,rfl,Upd.ext e2⟩⟩⟩) fun h0=>want_spec (fun h=>absurd h (by decide)) fun _=>hX _ _ ⟨leafT_none1 (by omega),rfl,Upd.ext e2⟩,?_⟩
 ·have:=eq_of_beq hy;omega
 ·intro e
  rw [e] at hno
  simp at hno
 rintro _ ⟨rfl,hz,hdep⟩ w₇ hd7
 have he7:=hd7.upd
 have e7:=e2.trans he7
 have hs7:=he7.size
 obtain ⟨x,r,hx⟩: ∃ x r,(getLeaf b).1=x :: r:=by
  have hne:=listS_some (key:=Fact.key) (one:=leafS) (b:=b) hz
  cases hl:(getLeaf b).1 with
  | nil=>exact absurd hl hne
  | cons x r=>exact ⟨x,r,rfl⟩
 have hlast:=leafT_last (t:=t) hz hdep hx
 have hsl7:=hl2.ext he7
 rw [hx] at hsl7 gl2
 have q17:=Ext.get he7 q1
 have gB7:=Ext.get he7 gB
 have q37:=q3.ext he7
 have fin:lastAhead t.facts x.key=true→∀ {u:World},Ext w₇ u→storeP u ⟨L.b,5,none⟩ [.int .i64 d] fun w9=>∃ (a3:Option Addr) (l3 c3:Nat),World.cell? w9 ⟨L.b,4,none⟩= some (.slice a3 l3 c3)∧
   appendP T.api_Fact 5 64 [.int .i64 0,.int .u8 0,.string (⟨#[]⟩: ByteArray),.int .i64 0,.slice none 0 0] a3 l3 c3 (.slice a2 (getLeaf b).1.length c2) w9 fun a4 l4 c4 w10 =>
   storeP w10 ⟨L.b,4,none⟩ [.slice a4 l4 c4] fun w11=>idxP a2 (getLeaf b).1.length (0:Int) 5 fun q7=>∃ x4 x5:Int,∃ s1:ByteArray,∃ x6:Int,cellsAt w11 q7 [.int .i64 x4,.int .u8 x5,.string s1,.int .i64 x6] 0∧
   storeP w11 ⟨B1,0,none⟩ [.int .i64 x4,.int .u8 x5,.string s1,.int .i64 x6] fun w12=>∃ x7 x8:Int,∃ s2:ByteArray,∃ x9:Int,cellsAt w12 ⟨B1,0,none⟩ [.int .i64 x7,.int .u8 x8,.string s2,.int .i64 x9] 0∧R (.agg #[.int .i64 x7,.int .u8 x8,.string s2,.int .i64 x9]) w12:=by
  intro hla u heu
  rw [hla,if_neg (by decide)] at hlast
  have hsu:=heu.size
  refine store_of (Ext.get heu q17) (by simp) fun w₉ hput9=>?_
  have g9:w₉.heap[L.b]?=some (.cells (L.cells ap t.pages.length cp af t.facts.length cf d).toArray T.walk_tree (0,0)):=by rw [hput9.get];rfl
  have u9:=hput9.upd1
  have hs9:=hput9.size
  have hbU:=q6.ou _ q6.ob
  have hbl:=hlt _ hbU
  have hnG:∀ z,Gl z→¬ U z:=fun z hz hu=>by have:=hGl z hz;have:=hlt z hu;omega
  have q39:OwnS factR w₉ (fun z=>G z∨Gl z) af cf T.api_Fact t.facts:=((q37.ext heu).upd u9 (fun z hz e=>(q6.go z hz).2 (e ▸ q6.ob)) fun z hz e=>(q6.of_ z hz).2.1 e).mono fun z hz=>.inl hz
  have hsl9:SliceAt factR w₉ (fun z=>G z∨Gl z) a2 (x :: r):=((hsl7.ext heu).upd u9 fun z hz e=>hnG z hz (e ▸ hbU)).mono fun z hz=>.inr hz
  refine ⟨_,_,_,cell_of g9 rfl,?_⟩
  rw [hx]
  refine OwnS.concat (r:=factR) q39 hsl9 rfl rfl rfl (by omega) (by omega) (fun z hz hg=>?_) fun a' c' w₁₀ hu10 ho10 hf10=>?_
  ·rcases hg with hg | hg
   ·exact (q6.go z hg).2 (q6.of_ z hz).1
   ·exact hnG z hg (q6.ou _ (q6.of_ z hz).1)
  have hs10:=hu10.size
  have g10:=hu10.get g9 fun e=>(q6.of_ _ e).2.1 rfl
  refine store_of g10 (by simp) fun w₁₁ hput11=>?_
  have g11:w₁₁.heap[L.b]?=some (.cells (L.cells ap t.pages.length cp a' (t.facts ++ x :: r).length c' d).toArray T.walk_tree (0,0)):=by rw [hput11.get];rfl
  have u11:=hput11.upd1
  have hs11:=hput11.size
  have hG2b:∀ z,(G z∨Gl z)→z≠L.b:=fun z hz e=>by
   rcases hz with hz | hz
   ·exact (q6.go z hz).2 (e ▸ q6.ob)
   ·exact hnG z hz (e ▸ hbU)
  have hG2f:∀ z,(G z∨Gl z)→af≠some ⟨z,0,none⟩:=fun z hz e=>by
   rcases hz with hz | hz
   ·exact (q6.go z hz).2 (q6.of_ z e).1
   ·exact hnG z hz (q6.ou _ (q6.of_ z e).1)
  have hsl11:SliceAt factR w₁₁ (fun z=>G z∨Gl z) a2 (x :: r):=(hsl9.upd hu10 fun z hz e=>hG2f z hz e).upd u11 fun z hz e=>hG2b z hz e
  refine first_fact hsl11 rfl fun q hq=>⟨_,_,_,_,hq _ (Upd.refl _ _),?_⟩
  have hB1u:¬ U B1:=fun hu=>by have:=hlt _ hu;omega
  have hB1f:af≠some ⟨B1,0,none⟩:=fun e=>hB1u (q6.ou _ (q6.of_ _ e).1)
  have hB1b:B1≠L.b:=fun e=>hB1u (e ▸ hbU)
  have gB11:=u11.get (hu10.get (u9.get (Ext.get heu gB7) hB1b) hB1f) hB1b
  refine put_all (vs:=Key.vals x.key) gB11 rfl fun w₁₂ hu12 hs12 g12=>⟨_,_,_,_,cells_all g12,hR _ _ ⟨x.key,_,hlast,rfl,?_,?_⟩⟩
  ·have k9:Upd O w w₉:=(Upd.ext (e7.trans heu)).trans (u9.mono fun z _ e=>by rw [e];exact q6.ob)
   have k10:Upd O w w₁₀:=k9.trans (hu10.mono fun z _ e=>(q6.of_ z e).1)
   have k11:Upd O w w₁₁:=k10.trans (u11.mono fun z _ e=>by rw [e];exact q6.ob)
   exact k11.over hu12 fun z hz=>.inr (by omega)
  ·have hmU:=q6.ou _ q6.om
   have hml:=hlt _ hmU
   refine ⟨fun z=>O z∨a'=some ⟨z,0,none⟩,fun z=>U z∨Gl z∨a'=some ⟨z,0,none⟩,⟨ap,cp,a',c',es,ck,fun z=>G z∨Gl z,hu12.get g11 (Ne.symm hB1b),?_,?_,?_,q5,?_⟩,?_,?_⟩
   ·refine (((((q2.ext he7).ext heu).upd u9 fun z hz e=>(q6.op z hz).2.1 e).upd hu10 fun z hz e=>(q6.of_ z e).2.2.2 hz).upd u11 fun z hz e=>(q6.op z hz).2.1 e).upd hu12 fun z hz e=>hB1u (e ▸ q6.ou _ (q6.op z hz).1)
   ·refine (ho10.upd u11 (fun z hz e=>hG2b z hz e) fun z hz e=>?_).upd hu12 (fun z hz e=>?_) fun z hz e=>?_
    ·rcases hf10 with hf | ⟨z',hz',hl⟩
     ·subst hf;exact (q6.of_ z hz).2.1 e
     ·rw [hz'] at hz;cases hz;omega
    ·rcases hz with hz | hz
     ·exact hB1u (e ▸ (q6.go z hz).1)
     ·have:=hGl z hz;omega
    ·rcases hf10 with hf | ⟨z',hz',hl⟩
     ·subst hf;exact hB1f (e ▸ hz)
     ·rw [hz'] at hz;cases hz;omega
   ·refine hu12.get (u11.get (hu10.get (u9.get (Ext.get heu (Ext.get he7 q4)) (Ne.symm q6.bm)) fun e=>(q6.of_ _ e).2.2.1 rfl) (Ne.symm q6.bm)) fun e=>hB1u (e ▸ hmU)
   ·have hnew:∀ z,a'=some ⟨z,0,none⟩→(O z∧z≠L.b∧z≠L.m∧ap≠some ⟨z,0,none⟩)∨w₉.heap.size≤z:=fun z hz=>by
     rcases hf10 with hf | ⟨z',hz',hl⟩
     ·subst hf;exact .inl (q6.of_ z hz)
     ·rw [hz'] at hz;cases hz;exact .inr hl
    have hal:∀ z,a'=some ⟨z,0,none⟩→z<w₁₀.heap.size:=fun z hz=>by
     obtain ⟨vs,ho,_⟩:=ho10
     exact ho.blk hz
    refine ⟨.inl q6.ob,.inl q6.om,q6.bm,fun z hz=>⟨.inl (q6.op z hz).1,(q6.op z hz).2⟩,fun z hz=>⟨.inr hz,?_⟩,fun z hz=>⟨?_,fun ho=>?_⟩,fun z hz=>?_,fun z hz=>?_⟩
    ·rcases hnew z hz with hh | hh
     ·exact hh.2
     ·exact ⟨by omega,by omega,fun e=>by have:=hlt _ (q6.ou _ (q6.op z e).1);omega⟩
    ·rcases hz with hz | hz
     ·exact .inl (q6.go z hz).1
     ·exact .inr (.inl hz)
    ·rcases ho with ho | ho
     ·rcases hz with hz | hz
      ·exact (q6.go z hz).2 ho
      ·exact hnG z hz (q6.ou _ ho)
     ·rcases hnew z ho with hh | hh
      ·rcases hz with hz | hz
       ·exact (q6.go z hz).2 hh.1
       ·exact hnG z hz (q6.ou _ hh.1)
      ·rcases hz with hz | hz
       ·have:=hlt _ (q6.go z hz).1;omega
       ·have:=hGl z hz;omega
    ·rcases hz with hz | hz
     ·exact .inl (q6.ou _ hz)
     ·exact .inr (.inr hz)
    ·rcases hz with hz | hz | hz
     ·have:=hlt _ hz;omega
     ·have:=hGl z hz;omega
     ·have:=hal z hz;omega
   ·intro z hz
    rcases hz with hz | hz
    ·exact .inl hz
    ·rcases hf10 with hf | ⟨z',hz',hl⟩
     ·subst hf;exact .inl (q6.of_ z hz).1
     ·rw [hz'] at hz;cases hz;exact .inr (by omega)
   ·intro z hz
    rcases hz with hz | hz | hz
    ·exact .inl hz
    ·exact .inr (by have:=hGl z hz;omega)
    ·rcases hf10 with hf | ⟨z',hz',hl⟩
     ·subst hf;exact .inl (q6.ou _ (q6.of_ z hz).1)
     ·rw [hz'] at hz;cases hz;exact .inr (by omega)
 refine ⟨fun u=>Ext w₇ u,Upd.refl _ _,_,_,_,fun u hu=>cell_of (Ext.get hu q17) rfl,br_eq (fun h0=>⟨Upd.refl _ _,want_spec (fun _=>⟨rfl,Upd.refl _ _,fin ?_ (Upd.refl _ _)⟩) fun h=>absurd h (by decide)⟩) fun h0=>⟨_,_,_,fun u hu=>cell_of (Ext.get hu q17) rfl,_,_,_,fun u hu=>cell_of (Ext.get hu q17) rfl,?_⟩⟩
 ·have:t.facts=[]:=List.eq_nil_of_length_eq_zero (by omega)
  rw [this];rfl
 obtain ⟨j,hj⟩: ∃ j,t.facts.length=j+1:=⟨t.facts.length - 1,by omega⟩
 have hla:=lastAhead_at (k:=x.key) hj.symm
 have ew2:IntKind.i64.wrap ((t.facts.length:Int) - 1)=((j:Nat):Int):=w64 (by omega) (by omega) |>.trans (by omega)
 rw [ew2]
 have hfs:SliceAt factR w₇ (fun z=>G z∨O z) af t.facts:=OwnS.at_ (q37.mono fun z hz=>.inl hz) fun p hp=>by
  obtain ⟨z,hz,_,rfl⟩:=q37.blk hp
  exact .inr (q6.of_ _ hz).1
 refine SliceAt.idx (r:=factR) hfs rfl (by omega) fun b' o vs ha hrow hR' hG'=>?_
 obtain ⟨av,cv,rfl,hcv,hbv,hgv⟩:=factR_elim hR'
 refine ⟨_,_,_,_,fun u hu=>(RowAt.take (RowAt.ext hrow hu) 4).cells,first_fact hsl7 (by rw [hx]) fun q hq=>⟨_,_,_,_,hq,CallsR.toE ((fact_Before_spec _ _ _).mono ?_)⟩⟩
 rintro _ w₁₃ ⟨rfl,he13⟩
 rw [← hla]
 refine ⟨_,rfl,he13,want_spec (fun hy=>⟨rfl,he13,fin hy he13⟩) fun hno=>hX _ _ ⟨?_,rfl,Upd.ext (e7.trans he13)⟩⟩
 rw [hlast,hno];rfl
theorem map_put {w:World} {b:Nat} {es es':Array MapEntry} {ck ck':Nat} (h:w.heap[b]?=some (.map es ck)):Upd (·=b) w (putBlk w b (.map es' ck'))∧(putBlk w b (.map es' ck')).heap[b]?=some (.map es' ck'):=by
 have hlt:b<w.heap.size:=(Array.getElem?_eq_some_iff.1 h).1
 refine ⟨⟨by simp [putBlk],fun i hi hf=>putBlk_get_other (Ne.symm hf),rfl,rfl,rfl,fun i x hx hbx=>?_⟩,putBlk_get_same hlt⟩
 have hne:b≠i:=by
  rintro rfl
  rw [h] at hx
  cases hx
  cases hbx
 rw [putBlk_get_other hne]
 exact hx
theorem downS_no {c:Chip} {bs:List Nat} {f:Nat} {t:TreeS} {p:Place} {d:Nat} (h:12<d∨p.page≤0∨p.block ∉ bs.map Int.ofNat∨p∈t.pages):downS c bs f t p d=none:=by
 cases f with
 | zero=>rfl
 | succ f=>rw [downS_succ,if_pos h]
theorem Place.In.of_ask {c:Chip} (hc:c.Ok) {p:Place} (h:c.ask p.block p.page=0):p.In:=by
 obtain ⟨_,h1,h2,h3,h4⟩:=ask_none0 h
 have:=hc.nb2
 have:=hc.np2
 exact ⟨⟨by omega,by omega⟩,⟨by omega,by omega⟩⟩
theorem first_child {w:World} {G:Nat→Prop} {a:Option Addr} {x:Child} {r:List Child} (h:SliceAt childR w G a (x :: r)) {n:Nat} (hn:n=(x :: r).length) {K':Addr→Prop} (hk:∀ q,cellsAt w q [.int .i64 x.key.ino,bv x.key.what,.string x.key.name,.int .i64 x.key.chunk] 0→K' q):idxP a n (0:Int) 6 K':=by
 refine SliceAt.idx (r:=childR) (i:=0) h hn (by simp) fun b o vs ha hrow hR' hG=>?_
 obtain rfl:vs=childVs x:=hR'
 exact hk _ (RowAt.take hrow 4).cells
abbrev downF (b2 b3:Nat):Value:=.func (.func K.walk_tree_walk_2) #[] #[.pointer (some ⟨b2,0,none⟩),.pointer (some ⟨b3,0,none⟩)]
theorem tree_page {L:TLoc} {O U:Nat→Prop} {w w₁ w₂ w₃ w₄:World} {t:TreeS} {p:Place} {ap a':Option Addr} {c':Nat} {af:Option Addr} {cf:Nat} {es:Array MapEntry} {ck:Nat} {G:Nat→Prop}
  (q3:OwnS factR w G af cf T.api_Fact t.facts) (q5:MapIs es t.pages) (q6:TSep L O U w ap af G)
  (hm:Upd (·=L.m) w w₁) (gm:w₁.heap[L.m]?=some (.map (es.push { key:=placeV p,val:=.bool true,born:=ck }) (ck+1))) (he2:Ext w₁ w₂) (hu3:Upd (fun b=>ap=some ⟨b,0,none⟩) w₂ w₃)
  (ho3:OwnAt w₃ a' (t.pages ++ [p]).length c' T.api_Place 2 ((t.pages ++ [p]).flatMap Place.vals)) (hf3:a'=ap∨∃ b,a'=some ⟨b,0,none⟩∧w₂.heap.size≤b)
  (hu4:Upd (·=L.b) w₃ w₄) (g4:w₄.heap[L.b]?=some (.cells (L.cells a' (t.pages ++ [p]).length c' af t.facts.length cf t.depth).toArray T.walk_tree (0,0))) :
  ∃ O' U',TreeIn L O' U' w₄ { t with pages:=t.pages ++ [p] }∧(∀ x,O x→O' x)∧(∀ x,U x→U' x)∧(∀ x,O' x→O x∨w₂.heap.size≤x)∧(∀ x,U' x→U x∨w₂.heap.size≤x)∧Upd O w w₄:=by
 have hs1:=hm.size
 have hs2:=he2.size
 have hs3:=hu3.size
 have hs4:=hu4.size
 have hlt:=q6.lt
 have hbU:=q6.ou _ q6.ob
 have hmU:=q6.ou _ q6.om
 have hbl:=hlt _ hbU
 have hml:=hlt _ hmU
 have hal:∀ z,a'=some ⟨z,0,none⟩→z<w₃.heap.size:=fun z hz=>ho3.blk hz
 refine ⟨fun z=>O z∨a'=some ⟨z,0,none⟩,fun z=>U z∨a'=some ⟨z,0,none⟩,⟨a',c',af,cf,_,ck+1,G,g4,?_,?_,?_,q5.push p ck,?_⟩,fun x hx=>.inl hx,fun x hx=>.inl hx,?_,?_,?_⟩
 ·refine ho3.upd hu4 fun z hz e=>?_
  rcases hf3 with hf | ⟨z',hz',hl⟩
  ·subst hf;exact (q6.op z hz).2.1 e
  ·rw [hz'] at hz;cases hz;omega
 ·refine (((q3.upd hm (fun z hz e=>(q6.go z hz).2 (e ▸ q6.om)) fun z hz e=>(q6.of_ z hz).2.2.1 e).ext he2).upd hu3 (fun z hz e=>(q6.go z hz).2 (q6.op z e).1) fun z hz e=>(q6.of_ z hz).2.2.2 e).upd hu4 (fun z hz e=>(q6.go z hz).2 (e ▸ q6.ob)) fun z hz e=>(q6.of_ z hz).2.1 e
 ·exact hu4.get (hu3.get (Ext.get he2 gm) fun e=>(q6.op _ e).2.2 rfl) (Ne.symm q6.bm)
 ·refine ⟨.inl q6.ob,.inl q6.om,q6.bm,fun z hz=>⟨.inr hz,?_⟩,fun z hz=>⟨.inl (q6.of_ z hz).1,(q6.of_ z hz).2.1,(q6.of_ z hz).2.2.1,fun e=>?_⟩,fun z hz=>⟨.inl (q6.go z hz).1,fun ho=>?_⟩,fun z hz=>?_,fun z hz=>?_⟩
  ·rcases hf3 with hf | ⟨z',hz',hl⟩
   ·subst hf;exact (q6.op z hz).2
   ·rw [hz'] at hz;cases hz;exact ⟨by omega,by omega⟩
  ·rcases hf3 with hf | ⟨z',hz',hl⟩
   ·subst hf;exact (q6.of_ z hz).2.2.2 e
   ·rw [hz'] at e;cases e
    have:=hlt _ (q6.ou _ (q6.of_ z hz).1);omega
  ·rcases ho with ho | ho
   ·exact (q6.go z hz).2 ho
   ·rcases hf3 with hf | ⟨z',hz',hl⟩
    ·subst hf;exact (q6.go z hz).2 (q6.op z ho).1
    ·rw [hz'] at ho;cases ho
     have:=hlt _ (q6.go z hz).1;omega
  ·rcases hz with hz | hz
   ·exact .inl (q6.ou _ hz)
   ·exact .inr hz
  ·rcases hz with hz | hz
   ·have:=hlt _ hz;omega
   ·have:=hal z hz;omega
 ·intro z hz
  rcases hz with hz | hz
  ·exact .inl hz
  ·rcases hf3 with hf | ⟨z',hz',hl⟩
   ·subst hf;exact .inl (q6.op z hz).1
   ·rw [hz'] at hz;cases hz;exact .inr hl
 ·intro z hz
  rcases hz with hz | hz
  ·exact .inl hz
  ·rcases hf3 with hf | ⟨z',hz',hl⟩
   ·subst hf;exact .inl (q6.ou _ (q6.op z hz).1)
   ·rw [hz'] at hz;cases hz;exact .inr hl
 ·exact ((hm.mono fun z _ e=>by rw [e];exact q6.om).trans ((Upd.ext he2).trans (hu3.mono fun z _ e=>(q6.op z e).1))).trans (hu4.mono fun z _ e=>by rw [e];exact q6.ob)
def DownAt (wS:World) (c:Chip) (L:TLoc) (bs:List Nat) (f:Nat):Prop:=∀ (t:TreeS) (p:Place) (d:Nat) (w:World) (O U:Nat→Prop) (b2 b3:Nat),f+d=14→1≤d→Ext wS w→(∀ x,O x→wS.heap.size≤x)→TreeIn L O U w t→t.Ok c→w.heap[b2]?=some (.cells #[.pointer (some ⟨L.b,0,none⟩)] T.p_walk_tree (0,0))→w.heap[b3]?=some (.cells #[downF b2 b3] T.funcapi_Place_int_api_Key (0,0))→¬ U b2→¬ U b3→p.In→
 CallsE prog K.walk_tree_walk_2 #[placeV p,.int .i64 d,.pointer (some ⟨b2,0,none⟩),.pointer (some ⟨b3,0,none⟩)] w
  (fun v w'=>∃ k t',downS c bs f t p d=some (k,t')∧v=keyV k∧Upd O w w'∧Grown L O U w w' t')
  (fun v w'=>downS c bs f t p d=none∧v= .iface T.walk_wrong (.agg #[])∧Upd O w w')
theorem down_step {F:Nat→Prop} {A:Nat} {wS:World} {c:Chip} {L:TLoc} {bs:List Nat} (h:CIn F A wS L.p c) (hd0:c.dead=false) (hbs:L.bs=bs.map Int.ofNat) (hrow:RowAt wS L.ab (L.bs.map (Value.int .i64))) (hnb:bs.length<1000) {f:Nat} (ih:∀ f',f=f'+1→DownAt wS c L bs f'):DownAt wS c L bs f:=by
 intro t p d w O U b2 b3 hfd hd1 heS hO hT hok g2 g3 hu2 hu3 hp
 apply walk_tree_walk_2.sh
 suffices H:∀ R X:Value→World→Prop,(∀ v w',(∃ k t',downS c bs f t p d=some (k,t')∧v=keyV k∧Upd O w w'∧Grown L O U w w' t')→R v w')→(∀ v w',(downS c bs f t p d=none∧v= .iface T.walk_wrong (.agg #[])∧Upd O w w')→X v w')→walk_tree_walk_2.body p.block p.page d ⟨b2,0,none⟩ ⟨b3,0,none⟩ w R X from H _ _ (fun _ _ h=>h) fun _ _ h=>h
 intro R X hR hX
 unfold walk_tree_walk_2.body
 simp only [nilC_some',add_lit,Nat.zero_add]
 intro B1 w₁ hn1 B2 w₂ hn2
 have hB1:=hn1.num
 have hs1:=hn1.size
 have hB2:=hn2.num
 have hs2:=hn2.size
 have e2:=hn1.upd.trans hn2.upd
 have gP:w₂.heap[B1]?=some (.cells p.vals.toArray T.api_Place (0,0)):=Ext.get hn2.upd hn1.get
 have gK:w₂.heap[B2]?=some (.cells (Key.vals Key.zero).toArray T.api_Key (0,0)):=hn2.get
 have hT2:=hT.ext e2
 have hlt:=hT.lt
 have hou:=hT.ou
 obtain ⟨ap,cp,af,cf,es,ck,G,q1,q2,q3,q4,q5,q6⟩:=hT2
 have hin:∀ x∈t.pages,x.In:=fun x hx=>Place.In.of_ask h.ok (hok.read x hx)
 obtain ⟨hpl,hfl⟩:=hok.small h.ok
 have hb2l:b2<w.heap.size:=(Array.getElem?_eq_some_iff.1 g2).1
 have hb3l:b3<w.heap.size:=(Array.getElem?_eq_some_iff.1 g3).1
 refine ⟨fun u=>Ext w₂ u∧¬ (12<d∨p.page≤0∨p.block ∉ bs.map Int.ofNat∨p∈t.pages),?_,?_⟩
 ·intro w₃ hd3
  have he3:=hd3.upd
  have no:(12<d∨p.page≤0∨p.block ∉ bs.map Int.ofNat∨p∈t.pages)→X (.iface T.walk_wrong (.agg #[])) w₃:=fun hc=>hX _ _ ⟨downS_no hc,rfl,Upd.ext (e2.trans he3)⟩
  refine ⟨fun u=>Ext w₃ u,Upd.refl _ _,br_dec (fun h12=>⟨_,fun u hu=>cell_of (Ext.get (he3.trans hu) gP) rfl,br_dec (fun hpg=>?_) fun hpg=>⟨Upd.refl _ _,Upd.refl _ _,want_spec (fun h=>absurd h (by decide)) fun _=>no (.inr (.inl (by omega)))⟩⟩) fun h12=>⟨Upd.refl _ _,Upd.refl _ _,want_spec (fun h=>absurd h (by decide)) fun _=>no (.inl (by omega))⟩⟩
  refine ⟨some ⟨L.b,0,none⟩,fun u hu=>cell_of (Ext.get (e2.trans (he3.trans hu)) g2) rfl,?_⟩
  simp only [nilC_some',add_lit,Nat.zero_add]
  refine ⟨_,_,_,fun u hu=>cell_of (Ext.get (he3.trans hu) q1) rfl,_,fun u hu=>cell_of (Ext.get (he3.trans hu) gP) rfl,CallsR.toE ((slices_Contains_int_spec (l:=L.bs) (hrow.ext (heS.trans (e2.trans he3))) (by rw [hbs,List.length_map];omega) p.block).mono ?_)⟩
  rintro _ w₄ ⟨rfl,rfl⟩
  refine ⟨_,rfl,Upd.refl _ _,br_dec (fun hbin=>?_) fun hout=>⟨Upd.refl _ _,want_spec (fun h=>absurd h (by decide)) fun _=>no (.inr (.inr (.inl (hbs ▸ hout))))⟩⟩
  refine ⟨some ⟨L.b,0,none⟩,fun u hu=>cell_of (Ext.get (e2.trans (he3.trans hu)) g2) rfl,?_⟩
  simp only [nilC_some',add_lit,Nat.zero_add]
  refine ⟨some L.m,fun u hu=>cell_of (Ext.get (he3.trans hu) q1) rfl,_,_,fun u hu=>cells_all (Ext.get (he3.trans hu) gP),decide (p∈t.pages),decide (p∈t.pages),?_,Upd.refl _ _,want_spec (fun hy=>⟨rfl,Upd.refl _ _,he3,?_⟩) fun hno=>no (.inr (.inr (.inr (by simpa using hno))))⟩
  ·by_cases hpin:p∈t.pages
   ·obtain ⟨j,hj⟩:=place_some q5 hin hok.nodup hp hpin
    rw [decide_eq_true hpin]
    exact ⟨es,ck,some (j,.bool true),Ext.get he3 q4,hj _,rfl,rfl⟩
   ·rw [decide_eq_false hpin]
    exact ⟨es,ck,none,Ext.get he3 q4,place_none q5 hin hp hpin _,rfl,rfl⟩
  ·have hnin:p ∉ t.pages:=by simpa using hy
   rintro (h | h | h | h)
   ·omega
   ·omega
   ·exact h (hbs ▸ hbin)
   ·exact hnin h
 rintro w₉ ⟨he9,hno⟩ w₁₀ hd10
 have hnin:p ∉ t.pages:=fun h=>hno (.inr (.inr (.inr h)))
 have hd12:d≤12:=Nat.le_of_not_lt fun h=>hno (.inl h)
 obtain ⟨f',rfl⟩: ∃ f',f=f'+1:=⟨f - 1,by omega⟩
 have ih:=ih f' rfl
 have he10:=he9.trans hd10.upd
 have e10:=e2.trans he10
 have hs10:=he10.size
 refine ⟨fun u=>Ext w₁₀ u,Upd.refl _ _,some ⟨L.b,0,none⟩,fun u hu=>cell_of (Ext.get (e10.trans hu) g2) rfl,?_⟩
 simp only [nilC_some',add_lit,Nat.zero_add]
 refine ⟨some L.m,fun u hu=>cell_of (Ext.get (he10.trans hu) q1) rfl,_,_,fun u hu=>cells_all (Ext.get (he10.trans hu) gP),?_⟩
 refine ⟨es,ck,none,Ext.get he10 q4,place_none q5 hin hp hnin false,?_⟩
 obtain ⟨um,gm⟩:=map_put (es':=es.push { key:=placeV p,val:=.bool true,born:=ck }) (ck':=ck+1) (Ext.get he10 q4)
 show ∀ w12,Drew (putBlk w₁₀ L.m (.map (es.push { key:=placeV p,val:=.bool true,born:=ck }) (ck+1))) w12→_
 generalize putBlk w₁₀ L.m (.map (es.push { key:=placeV p,val:=.bool true,born:=ck }) (ck+1))=w₁₁ at um gm ⊢
 intro w₁₂ hd12'
 have he12:=hd12'.upd
 have hsm:=um.size
 have hs12:=he12.size
 have hbU:=q6.ou _ q6.ob
 have hmU:=q6.ou _ q6.om
 have hbl:=hlt _ hbU
 have hml:=hlt _ hmU
 have hB1U:¬ U B1:=fun hu=>by have:=hlt _ hu;omega
 have hB2U:¬ U B2:=fun hu=>by have:=hlt _ hu;omega
 have nap:∀ {z},¬ U z→ap≠some ⟨z,0,none⟩:=fun hz e=>hz (q6.ou _ (q6.op _ e).1)
 have nm:∀ {z},¬ U z→z≠L.m:=fun hz e=>hz (e ▸ hmU)
 have nb:∀ {z},¬ U z→z≠L.b:=fun hz e=>hz (e ▸ hbU)
 have k2:=Ext.get he12 (um.get (Ext.get e10 g2) (nm hu2))
 have k3:=Ext.get he12 (um.get (Ext.get e10 g3) (nm hu3))
 have kP:=Ext.get he12 (um.get (Ext.get he10 gP) (nm hB1U))
 have kK:=Ext.get he12 (um.get (Ext.get he10 gK) (nm hB2U))
 have k1:=Ext.get he12 (um.get (Ext.get he10 q1) q6.bm)
 refine ⟨fun u=>Upd (fun b=>ap=some ⟨b,0,none⟩) w₁₂ u,Upd.refl _ _,some ⟨L.b,0,none⟩,fun u hu=>cell_of (hu.get k2 (nap hu2)) rfl,some ⟨L.b,0,none⟩,fun u hu=>cell_of (hu.get k2 (nap hu2)) rfl,?_⟩
 simp only [nilC_some',add_lit,Nat.zero_add]
 refine ⟨_,_,_,fun u hu=>cell_of (hu.get k1 fun e=>(q6.op _ e).2.1 rfl) rfl,_,_,fun u hu=>cells_all (hu.get kP (nap hB1U)),fun B3 w₁₃ hn13=>⟨Upd.ext hn13.upd,?_⟩⟩
 have hs13:=hn13.size
 have e1213:=he12.trans hn13.upd
 have q213:OwnAt w₁₃ ap t.pages.length cp T.api_Place 2 (t.pages.flatMap Place.vals):=((q2.ext he10).upd um fun z hz e=>(q6.op z hz).2.2 e).ext e1213
 refine append_flat (f:=Place.vals) (fun _=>rfl) q213 (x:=p) rfl hn13 rfl (fun v hv=>by simp at hv;rcases hv with h | h<;>(rw [h];rfl)) rfl (by omega) (by omega) fun a' c' w₁₄ hu14 ho14 hf14=>⟨(Upd.ext hn13.upd).trans hu14,?_⟩
 have hs14:=hu14.size
 have k114:=hu14.get (Ext.get hn13.upd k1) fun e=>(q6.op _ e).2.1 rfl
 refine store_of k114 (by simp) fun w₁₅ hput15 w₁₆ hd16=>?_
 have k115:w₁₅.heap[L.b]?=some (.cells (L.cells a' (t.pages ++ [p]).length c' af t.facts.length cf t.depth).toArray T.walk_tree (0,0)):=by rw [hput15.get];rfl
 have hu15:=hput15.upd1
 have hs15:=hput15.size
 obtain ⟨O1,U1,hT15,hO1,hU1,hO1',hU1',k15⟩:=tree_page (w:=w₁₀) (p:=p) (q3.ext he10) q5 (q6.size (by omega)) um gm e1213 hu14 ho14 hf14 hu15 k115
 have he16:=hd16.upd
 have hs16:=he16.size
 have hT16:=hT15.ext he16
 have k16:Upd O w w₁₆:=((Upd.ext e10).trans k15).then he16
 have fr:∀ {z:Nat} {o:Obj},¬ U z→w₁₂.heap[z]?=some o→w₁₆.heap[z]?=some o:=fun hz hg=>Ext.get he16 (hu15.get (hu14.get (Ext.get hn13.upd hg) (nap hz)) (nb hz))
 have r2:=fr hu2 k2
 have r3:=fr hu3 k3
 have rP:=fr hB1U kP
 have rK:=fr hB2U kK
 have r1:=Ext.get he16 k115
 have hbig:∀ z,O z→wS.heap.size≤z:=hO
 have hSw:=heS.size
 have eS16:Ext wS w₁₆:=heS.beyond k16 fun z hz=>hO z hz
 have old:∀ {z:Nat},z<w₁₃.heap.size→¬ U z→¬ U1 z:=fun hz hn hu=>by
  rcases hU1' _ hu with hh | hh
  ·exact hn hh
  ·omega
 have hu2':¬ U1 b2:=old (by omega) hu2
 have hu3':¬ U1 b3:=old (by omega) hu3
 have hB2':¬ U1 B2:=old (by omega) hB2U
 have hO1S:∀ z,O1 z→wS.heap.size≤z:=fun z hz=>by
  rcases hO1' z hz with hh | hh
  ·exact hO z hh
  ·omega
 have hou1:=hT16.ou
 have hlt1:=hT16.lt
 have hstep:=downS_succ c bs f' t p d
 rw [if_neg hno] at hstep
 have bad:∀ {u:World},Upd O1 w₁₆ u→downS c bs (f'+1) t p d=none→X (.iface T.walk_wrong (.agg #[])) u:=fun hu hd=>hX _ _ ⟨hd,rfl,k16.over hu fun z hz=>(hO1' z hz).imp id fun hh=>by omega⟩
 refine ⟨fun u=>Ext w₁₆ u,Upd.refl _ _,some ⟨L.b,0,none⟩,fun u hu=>cell_of (Ext.get hu r2) rfl,?_⟩
 simp only [nilC_some',add_lit,Nat.zero_add]
 refine ⟨_,fun u hu=>cell_of (Ext.get hu r1) rfl,_,fun u hu=>cell_of (Ext.get hu rP) rfl,_,fun u hu=>cell_of (Ext.get hu rP) rfl,CallsR.toE ((cReadAt (h.ext eS16) p.block p.page).mono ?_)⟩
 rintro _ w₁₇ ⟨he17,hv17⟩
 by_cases hask:c.ask p.block p.page≠0
 ·rw [if_neg hask] at hv17
  obtain rfl:=hv17
  rw [if_pos hask] at hstep
  refine ⟨_,_,_,_,rfl,he17,want_spec (fun hy=>absurd (eq_of_beq hy) (by omega)) fun _=>bad (Upd.ext he17) hstep⟩
 have hask0:c.ask p.block p.page=0:=by omega
 rw [if_pos hask0] at hv17
 rw [if_neg hask] at hstep
 obtain ⟨a4,c4,rfl,hb4,hc4,hf4⟩:=hv17
 obtain ⟨_,z1,z2,z3,z4⟩:=ask_none0 hask0
 have hpg:=page_len h.ok (i:=p.block.toNat) (k:=p.page.toNat) (by omega) (by omega)
 rw [← hpg] at hc4 ⊢
 have hsm:=page_small h.ok (i:=p.block.toNat) (k:=p.page.toNat) (by omega) (by omega)
 refine ⟨_,_,_,_,rfl,he17,want_spec (fun _=>⟨rfl,CallsR.toE ((seal_Get_spec hb4 hc4).mono ?_)⟩) fun h=>absurd h (by decide)⟩
 rintro _ w₁₉ ⟨he19,a5,c5,rfl,hb5,hc5⟩
 have e19:=he17.trans he19
 generalize getPage (c.page p.block.toNat p.page.toNat)=g at *
 refine ⟨_,_,_,_,_,rfl,fun u=>u=w₁₉∧g.2.2=0∧(g.1=4∨g.1=5),br_eq (fun hz=>br_eq (fun h4=>want_spec (fun _=>⟨rfl,rfl,by omega,.inl ((u8i _ 4 (by omega)).1 h4)⟩) fun h=>absurd h (by decide)) fun h4=>want_spec (fun hy=>⟨rfl,rfl,by omega,.inr ((u8i _ 5 (by omega)).1 (eq_of_beq hy))⟩) fun hn5=>bad (Upd.ext e19) ?_) fun hz=>want_spec (fun h=>absurd h (by decide)) fun _=>bad (Upd.ext e19) (by rw [hstep,if_pos (by omega)]),?_⟩
 ·rw [hstep,if_neg (by omega),if_neg (fun e=>h4 (by rw [e];rfl)),if_neg (fun e=>by rw [e] at hn5;exact absurd hn5 (by decide))]
 rintro _ ⟨rfl,hz,h45⟩
 rw [if_neg (by omega)] at hstep
 have hs19:=e19.size
 have k19:=k16.then e19
 have hT19:=hT16.ext e19
 have s2:=Ext.get e19 r2
 have s3:=Ext.get e19 r3
 have sK:=Ext.get e19 rK
 have hok1:=hok.add hnin hask0
 have out:∀ {u:World} {O' U':Nat→Prop} {t':TreeS} {k:Key},TreeIn L O' U' u t'→(∀ z,O' z→O1 z∨w₁₆.heap.size≤z)→(∀ z,U' z→U1 z∨w₁₆.heap.size≤z)→Upd O1 w₁₆ u→downS c bs (f'+1) t p d=some (k,t')→
   storeP u ⟨B2,0,none⟩ (Key.vals k) fun w25=>∃ x17 x18:Int,∃ s2:ByteArray,∃ x19:Int,cellsAt w25 ⟨B2,0,none⟩ [.int .i64 x17,.int .u8 x18,.string s2,.int .i64 x19] 0∧R (.agg #[.int .i64 x17,.int .u8 x18,.string s2,.int .i64 x19]) w25:=by
  intro u O' U' t' k hT' hO' hU' hu hd
  have hsu:=hu.size
  have gK':=hu.get rK fun ho=>hB2' (hou1 _ ho)
  refine put_all (vs:=Key.vals k) gK' rfl fun w25 hu25 hs25 g25=>⟨_,_,_,_,cells_all g25,hR _ _ ⟨k,t',hd,rfl,?_,O',U',?_,?_,?_⟩⟩
  ·exact (k16.over hu fun z hz=>(hO1' z hz).imp id fun hh=>by omega).over hu25 fun z hz=>.inr (by omega)
  ·refine hT'.upd hu25 fun z hz hu'=>?_
   subst hz
   rcases hU' _ hu' with hh | hh
   ·exact hB2' hh
   ·omega
  ·intro z hz
   rcases hO' z hz with hh | hh
   ·exact (hO1' z hh).imp id fun hh=>by omega
   ·exact .inr (by omega)
  ·intro z hz
   rcases hU' z hz with hh | hh
   ·exact (hU1' z hh).imp id fun hh=>by omega
   ·exact .inr (by omega)
 refine br_eq (fun h4=>⟨_,cell_of s2 rfl,?_⟩) fun h4=>?_
 ·have h4':g.1=4:=(u8i _ 4 (by omega)).1 h4
  rw [if_pos h4'] at hstep
  refine (walk_tree_leaf_spec (c:=c5) hT19 hb5 (by omega) (by show t.facts.length≤_;omega) d).mono ?_ ?_
  ·rintro _ w₂₄ ⟨k,t',hl,rfl,hu24,O',U',hT',hO',hU'⟩
   refine ⟨_,_,_,_,rfl,out hT' (fun z hz=>(hO' z hz).imp id fun hh=>by omega) (fun z hz=>(hU' z hz).imp id fun hh=>by omega) ((Upd.ext e19).trans hu24) (by rw [hstep];exact hl)⟩
  ·rintro _ w₂₄ ⟨hl,rfl,hu24⟩
   exact bad ((Upd.ext e19).trans hu24) (by rw [hstep];exact hl)
 have h5:g.1=5:=by
  rcases h45 with h | h
  ·exact absurd (by rw [h];rfl) h4
  ·exact h
 rw [if_neg (by rw [h5];decide),if_pos h5] at hstep
 refine CallsR.toE ((leaf_GetInner_spec (c:=c5) hb5 (by omega)).mono ?_)
 rintro _ w₂₆ ⟨a6,c6,Gc,rfl,hl6,hGc,hc6,he26⟩
 have hs26:=he26.size
 obtain ⟨gi1,gi2⟩:=getInner_ok g.2.1
 refine ⟨_,_,_,_,rfl,want_spec (fun hy=>⟨rfl,?_⟩) fun hn=>bad (Upd.ext (e19.trans he26)) ?_⟩
 case refine_2 =>
  rw [hstep,if_pos]
  intro e
  rw [e] at hn
  exact absurd hn (by decide)
 have hz2:(getInner g.2.1).2=0:=by have:=eq_of_beq hy;omega
 rw [if_neg (by omega)] at hstep
 have hne:=listS_some (key:=Child.key) (one:=innerS) (b:=g.2.1) hz2
 have e26:=e19.trans he26
 have hT26:=hT19.ext he26
 obtain ⟨x0,r0,hl0⟩: ∃ x r,(getInner g.2.1).1=x :: r:=by
  cases hl:(getInner g.2.1).1 with
  | nil=>exact absurd hl hne
  | cons x r=>exact ⟨x,r,rfl⟩
 have hmatch:downS c bs (f'+1) t p d=(match kidsS (fun t p=>downS c bs f' t p (d+1)) (getInner g.2.1).1 { t with pages:=t.pages ++ [p] } with
   | some t'=>some (x0.key,t')
   | none=>none):=by rw [hstep,hl0]<;>rfl
 have hkey0:(getInner g.2.1).1=x0 :: r0:=hl0
 clear hstep hl0
 generalize (getInner g.2.1).1=l at *
 have hsI:=e26.size
 refine ⟨fun x u=>∃ (i:Nat) (ti:TreeS) (Oi Ui:Nat→Prop),x=i∧i≤l.length∧kidsS (fun t p=>downS c bs f' t p (d+1)) (l.take i) { t with pages:=t.pages ++ [p] }=some ti∧TreeIn L Oi Ui u ti∧ti.Ok c∧(∀ z,Oi z→O1 z∨w₂₆.heap.size≤z)∧(∀ z,Ui z→U1 z∨w₂₆.heap.size≤z)∧Upd O1 w₂₆ u,
  fun x _=>((l.length:Int) - x).toNat,⟨0,_,O1,U1,rfl,by omega,rfl,hT26,hok1,fun z hz=>.inl hz,fun z hz=>.inl hz,Upd.refl _ _⟩,?_⟩
 rintro x u ⟨i,ti,Oi,Ui,rfl,hi,hki,hTi,hoki,hOi,hUi,hu⟩
 have hsu:=hu.size
 have hGcO:∀ z,Gc z→¬ O1 z:=fun z hz ho=>by have:=hGc z hz;have:=hlt1 _ (hou1 _ ho);omega
 have hlu:SliceAt childR u Gc a6 l:=hl6.upd hu fun z hz ho=>hGcO z hz ho
 have k26:Upd O1 w₁₆ u:=(Upd.ext e26).trans hu
 refine br_dec (fun hlt'=>?_) fun hge=>?_
 ·have hi':i<l.length:=by omega
  have ew:IntKind.i64.wrap ((i:Int)+1)=((i+1:Nat):Int):=w64 (by omega) (by omega)
  have ewd:IntKind.i64.wrap ((d:Int)+1)=((d+1:Nat):Int):=w64 (by omega) (by omega)
  simp only [ew,ewd]
  refine SliceAt.idx (r:=childR) hlu rfl hi' fun b' o vs ha hrow' hR' hG'=>?_
  obtain rfl:vs=childVs l[i]:=hR'
  refine ⟨_,_,_,_,_,_,hrow'.cells,new_put (vs:=childVs l[i]) rfl fun B4 w₃₀ hb4' hs30 he30 g30 w₃₁ hd31=>?_⟩
  have he31:=he30.trans hd31.upd
  have hs31:=he31.size
  have g31:=Ext.get hd31.upd g30
  have hB4:¬ Ui B4:=fun hh=>by have:=hTi.lt _ hh;omega
  have keep:∀ {z:Nat},z<w₂₆.heap.size→¬ U1 z→¬ Ui z:=fun hz hn hh=>by
   rcases hUi _ hh with hh | hh
   ·exact hn hh
   ·omega
  have v2:=Ext.get he31 (hu.get (Ext.get he26 s2) fun ho=>hu2' (hou1 _ ho))
  have v3:=Ext.get he31 (hu.get (Ext.get he26 s3) fun ho=>hu3' (hou1 _ ho))
  have n2:=keep (by omega) hu2'
  have n3:=keep (by omega) hu3'
  have houi:=hTi.ou
  refine ⟨fun u'=>Upd Oi w₃₁ u',Upd.refl _ _,downF b2 b3,fun u' hu'=>cell_of (hu'.get v3 fun ho=>n3 (houi _ ho)) rfl,_,fun u' hu'=>cell_of (hu'.get g31 fun ho=>hB4 (houi _ ho)) rfl,_,fun u' hu'=>cell_of (hu'.get g31 fun ho=>hB4 (houi _ ho)) rfl,l[i].key.ino,l[i].key.what.toNat,l[i].key.name,l[i].key.chunk,fun u' hu'=>?_,?_⟩
  ·have hg:=hu'.get g31 fun ho=>hB4 (houi _ ho)
   refine (RowAt.of hg (o:=0) (vs:=Key.vals l[i].key) fun j v hj=>?_).cells
   match j,hj with
   | 0,hj=>simpa [Key.vals] using hj
   | 1,hj=>simpa [Key.vals] using hj
   | 2,hj=>simpa [Key.vals] using hj
   | 3,hj=>simpa [Key.vals] using hj
   | j+4,hj=>simp [Key.vals] at hj
  have hci:=gi1 _ (List.getElem_mem hi')
  have hks:=kidsS_take_succ (down:=fun t p=>downS c bs f' t p (d+1)) hi' hki
  have hOiS:∀ z,Oi z→wS.heap.size≤z:=fun z hz=>by
   rcases hOi z hz with hh | hh
   ·exact hO1S z hh
   ·omega
  have eS31:Ext wS w₃₁:=((eS16.trans e26).beyond hu hO1S).trans he31
  have over1:∀ {u':World},Upd Oi w₃₁ u'→Upd O1 w₁₆ u':=fun hu'=>(k26.then he31).over hu' fun z hz=>(hOi z hz).imp id fun hh=>by omega
  have dead:∀ {u':World},Upd Oi w₃₁ u'→kidsS (fun t p=>downS c bs f' t p (d+1)) (l.take (i+1)) { t with pages:=t.pages ++ [p] }=none→X (.iface T.walk_wrong (.agg #[])) u':=fun hu' hk=>bad (over1 hu') (by
   rw [hmatch,kidsS_drop i hki]
   have hdrop:l.drop i=l[i] :: l.drop (i+1):=List.drop_eq_getElem_cons hi'
   rw [hdrop]
   rw [hks] at hk
   unfold kidsS
   cases hdn:downS c bs f' ti ⟨l[i].block,l[i].page⟩ (d+1) with
   | none=>rfl
   | some y =>
    obtain ⟨k,t1⟩:=y
    rw [hdn] at hk
    simp only at hk ⊢
    split at hk
    ·cases hk
    ·rename_i hkk;rw [if_neg hkk])
  refine (show callTE (downF b2 b3) _ _ _ _ from ⟨by kernel_rfl,(ih ti ⟨l[i].block,l[i].page⟩ (d+1) w₃₁ Oi Ui b2 b3 (by omega) (by omega) eS31 hOiS (hTi.ext he31) hoki v2 v3 n2 n3 ⟨⟨by show _≤l[i].block;omega,by show l[i].block≤_;omega⟩,⟨by show _≤l[i].page;omega,by show l[i].page≤_;omega⟩⟩).mono ?_ ?_⟩)
  ·rintro _ w₃₂ ⟨k,t',hdn,rfl,hu32,O',U',hT',hO',hU'⟩
   have hs32:=hu32.size
   rw [hdn] at hks
   simp only at hks
   refine ⟨_,_,_,_,rfl,hu32,want_spec (fun hy=>⟨rfl,hu32,?_⟩) fun hn=>dead hu32 ?_⟩
   ·rw [key_beq] at hy
    have hk:=of_decide_eq_true hy
    rw [if_pos hk] at hks
    refine ⟨⟨i+1,t',O',U',rfl,hi',hks,hT',downS_ok c bs f' ti _ (d+1) k t' hoki hdn,fun z hz=>?_,fun z hz=>?_,?_⟩,meas hi'⟩
    ·rcases hO' z hz with hh | hh
     ·exact hOi z hh
     ·exact .inr (by omega)
    ·rcases hU' z hz with hh | hh
     ·exact hUi z hh
     ·exact .inr (by omega)
    ·exact (hu.then he31).over hu32 fun z hz=>(hOi z hz).imp id fun hh=>by omega
   ·rw [key_beq] at hn
    have hk:=of_decide_eq_false hn
    rw [hks,if_neg hk]
  ·rintro _ w₃₂ ⟨hdn,rfl,hu32⟩
   rw [hdn] at hks
   exact dead hu32 hks
 ·have hii:i=l.length:=by omega
  subst hii
  rw [List.take_length] at hki
  subst hkey0
  refine first_child hlu rfl fun q hq=>⟨_,_,_,_,hq,out hTi (fun z hz=>(hOi z hz).imp id fun hh=>by omega) (fun z hz=>(hUi z hz).imp id fun hh=>by omega) k26 ?_⟩
  rw [hmatch,hki]
theorem down_spec {F:Nat→Prop} {A:Nat} {wS:World} {c:Chip} {L:TLoc} {bs:List Nat} (h:CIn F A wS L.p c) (hd0:c.dead=false) (hbs:L.bs=bs.map Int.ofNat) (hrow:RowAt wS L.ab (L.bs.map (Value.int .i64))) (hnb:bs.length<1000):∀ f,DownAt wS c L bs f
 | 0=>down_step h hd0 hbs hrow hnb fun f' e=>by cases e
 | f+1=>down_step h hd0 hbs hrow hnb fun f' e=>by cases e;exact down_spec h hd0 hbs hrow hnb f
section
open Go.Proofs
theorem catch_idle (p:Addr) (w:World):CallsDIn Fence.wide 0 Tryz.prog 87 #[.pointer (some p)] .returning w fun e u' w'=>e= .returned (.tuple #[])∧u'= .returning∧w'=w:=by
 refine callsDIn_of_wpSIn Tryz.func87 rfl trivial fun c₀ cs hu=>?_
 apply wpSIn_seq
 apply wpSIn_region
 simp [wpOpsSIn,go_sem,recoverD,hu,Tryz.ntmps87,Exit.thenS]
 apply wpSIn_seq
 apply wpSIn_region
 simp [wpOpsSIn,go_sem,Exit.thenS]
 refine wpSIn_cond (t:=false) (by simp [Act.eval,Array.replicate]) ?_
 simp only [Bool.false_eq_true,if_false]
 refine wpSIn_of_wpIn rfl (wpIn_skip ?_)
 cases c₀
 simp_all [bodyPostS,results,Tryz.results87]
theorem walk_later {B:Nat} {w:World} {Z:World→Prop} (h:Z w):LaterR prog K.walk_tree_walk_1 [.pointer (some ⟨B,0,none⟩)] w Z:=by
 refine (catch_idle ⟨B,0,none⟩ w).mono ?_
 rintro e u' w' ⟨rfl,rfl,rfl⟩
 exact ⟨⟨_,rfl⟩,rfl,h⟩
theorem catch_panics (B:Nat) (w:World) (x:Int) (hb:w.heap[B]?=some (.cells #[.int .i64 x] 38 (0,0))) :
  CallsDIn Fence.wide 0 Tryz.prog 87 #[.pointer (some ⟨B,0,none⟩)] (.panicking [{ v:=.iface 165 (.agg #[]),recovered:=false }]) w fun e u' w' =>
   e= .returned (.tuple #[])∧u'= .panicking [{ v:=.iface 165 (.agg #[]),recovered:=true }]∧w'=(w.alloc (.cells #[] 165)).setCell ⟨B,0,none⟩ (.int .i64 16):=by
 refine callsDIn_of_wpSIn Tryz.func87 rfl trivial fun c₀ cs hu=>?_
 apply wpSIn_seq
 apply wpSIn_region
 simp [wpOpsSIn,go_sem,recoverD,hu,Tryz.ntmps87,Exit.thenS]
 apply wpSIn_seq
 apply wpSIn_region
 simp [wpOpsSIn,go_sem,Exit.thenS]
 refine wpSIn_cond (t:=true) (by simp [Act.eval,Array.replicate]) ?_
 simp only [if_true]
 apply wpSIn_seq
 apply wpSIn_seq
 apply wpSIn_region
 simp [wpOpsSIn,go_sem,Exit.thenS,Instr.typeAssert]
 apply wpSIn_seq
 apply wpSIn_region
 simp [wpOpsSIn,go_sem,Exit.thenS]
 refine wpSIn_cond (t:=false) (by simp [Act.eval,Array.replicate]) ?_
 simp only [Bool.false_eq_true,if_false]
 refine wpSIn_of_wpIn rfl (wpIn_skip ?_)
 simp only [Exit.thenS]
 have hlt:B<w.heap.size:=(Array.getElem?_eq_some_iff.1 hb).1
 have hb2:(w.alloc (.cells #[] 165)).heap[B]?=some (.cells #[.int .i64 x] 38 (0,0)):=by
  show (w.heap.push _)[B]?=_
  rw [Array.getElem?_push,if_neg (by omega)];exact hb
 have hc:(w.alloc (.cells #[] 165)).cell? ⟨B,0,none⟩= some (.int .i64 x):=by simp [World.cell?,hb2]
 have hz:(w.alloc (.cells #[] 165)).frozen? ⟨B,0,none⟩= false:=by simp [World.frozen?,hb2]
 apply wpSIn_region
 simp [wpOpsSIn,go_sem,hc,hz,bodyPostS,results,Tryz.results87]
theorem walk_catch {B:Nat} {w:World} {x:Int} {Z:World→Prop} (hb:w.heap[B]?=some (.cells #[.int .i64 x] T.api_Errno (0,0))) (h:∀ w',Upd (·=B) w w'→w'.heap[B]?=some (.cells #[.int .i64 16] T.api_Errno (0,0))→Z w') :
  LaterX prog K.walk_tree_walk_1 [.pointer (some ⟨B,0,none⟩)] (.iface T.walk_wrong (.agg #[])) w Z:=by
 refine (catch_panics B w x hb).mono ?_
 rintro e u' w' ⟨rfl,rfl,rfl⟩
 refine ⟨⟨_,rfl⟩,rfl,?_⟩
 have hlt:B<w.heap.size:=(Array.getElem?_eq_some_iff.1 hb).1
 have hn:New w (.cells #[] 165) w.heap.size (w.alloc (.cells #[] 165)):=⟨rfl,rfl⟩
 have hb2:=Ext.get hn.upd hb
 have hs:=hn.size
 rw [setCell_putBlk hb2]
 have hp:Put (w.alloc (.cells #[] 165)) B (.cells (#[.int .i64 x].setIfInBounds 0 (.int .i64 16)) T.api_Errno (0,0)) (putBlk (w.alloc (.cells #[] 165)) B (.cells (#[.int .i64 x].setIfInBounds 0 (.int .i64 16)) T.api_Errno (0,0))):=⟨by omega,rfl,_,_,_,hb2⟩
 exact h _ ((Upd.ext hn.upd).trans hp.upd1) hp.get
end
theorem walk_tree_walk_spec {F:Nat→Prop} {A:Nat} {wS w:World} {c:Chip} {L:TLoc} {bs:List Nat} (h:CIn F A wS L.p c) (hd0:c.dead=false) (hbs:L.bs=bs.map Int.ofNat) (hrow:RowAt wS L.ab (L.bs.map (Value.int .i64))) (hnb:bs.length<1000)
  {O U:Nat→Prop} (heS:Ext wS w) (hO:∀ x,O x→wS.heap.size≤x) (hT:TreeIn L O U w ⟨[],[],0⟩) (p:Point) (hp:0≤p.block∧p.block<256∧0≤p.page∧p.page<256) :
  CallsR prog K.walk_tree_walk #[.pointer (some ⟨L.b,0,none⟩),pointV p] w fun v w'=>Upd O w w'∧match walkS c bs p with
   | some t=>v= .int .i64 0∧Grown L O U w w' t
   | none=>v= .int .i64 16:=by
 apply walk_tree_walk.sh
 suffices H:∀ R:Value→World→Prop,(∀ v w',(Upd O w w'∧match walkS c bs p with
   | some t=>v= .int .i64 0∧Grown L O U w w' t
   | none=>v= .int .i64 16)→R v w')→walk_tree_walk.body (some ⟨L.b,0,none⟩) (p.number:Nat) p.block p.page p.count w R from H _ fun _ _ h=>h
 intro R hR
 unfold walk_tree_walk.body
 simp only [add_lit,Nat.zero_add]
 intro B1 w₁ hn1 B2 w₂ hn2 B3 w₃ hn3
 have hB1:=hn1.num
 have hB2:=hn2.num
 have hB3:=hn3.num
 have hs1:=hn1.size
 have hs2:=hn2.size
 have hs3:=hn3.size
 have e3:=(hn1.upd.trans hn2.upd).trans hn3.upd
 have g1:w₃.heap[B1]?=some (.cells #[.pointer (some ⟨L.b,0,none⟩)] T.p_walk_tree (0,0)):=Ext.get hn3.upd (Ext.get hn2.upd hn1.get)
 have g2:w₃.heap[B2]?=some (.cells p.vals.toArray T.api_Point (0,0)):=Ext.get hn3.upd hn2.get
 have hlt:=hT.lt
 have hou:=hT.ou
 have nU:∀ {z:Nat},w.heap.size≤z→¬ U z:=fun hz hu=>by have:=hlt _ hu;omega
 unfold walkS at hR
 refine ⟨by kernel_rfl,_,cell_of g2 rfl,br_eq (fun h0=>?_) fun h0=>?_⟩
 ·rw [if_pos h0] at hR
  refine put_all (vs:=[.int .i64 0]) hn3.get rfl fun w₆ hu6 hs6 g6=>walk_later ⟨_,cell_of g6 rfl,hR _ _ ⟨(Upd.ext e3).over hu6 fun z hz=>.inr (by omega),rfl,O,U,?_,fun z hz=>.inl hz,fun z hz=>.inl hz⟩⟩
  exact (hT.ext e3).upd hu6 fun z hz=>nU (by omega)
 rw [if_neg h0] at hR
 intro B4 w₈ hn4
 have hB4:=hn4.num
 have hs4:=hn4.size
 refine put_all (vs:=[downF B1 B4]) hn4.get rfl fun w₉ hu9 hs9 g9=>?_
 have e9:Ext w w₉:=(e3.trans hn4.upd).beyond hu9 fun x hx=>by omega
 have k1:=hu9.get (Ext.get hn4.upd g1) (by omega)
 have k2:=hu9.get (Ext.get hn4.upd g2) (by omega)
 have k3:=hu9.get (Ext.get hn4.upd hn3.get) (by omega)
 have hT9:=hT.ext e9
 refine ⟨_,cell_of g9 rfl,_,cell_of k2 rfl,_,cell_of k2 rfl,?_⟩
 have caught:∀ {u:World},Upd O w₉ u→(walkS c bs p=none)→LaterX prog K.walk_tree_walk_1 [.pointer (some ⟨B3,0,none⟩)] (.iface T.walk_wrong (.agg #[])) u fun w5=>∃ x1:Int,World.cell? w5 ⟨B3,0,none⟩= some (.int .i64 x1)∧R (.int .i64 x1) w5:=fun hu hno=>by
  have g3u:=hu.get k3 fun ho=>nU (by omega) (hou _ ho)
  refine walk_catch g3u fun w' hu' g'=>⟨_,cell_of g' rfl,hR _ _ ⟨((Upd.ext e9).trans hu).over hu' fun z hz=>.inr (by omega),?_⟩⟩
  unfold walkS at hno
  rw [if_neg h0] at hno
  rw [hno]
 have hwalk:walkS c bs p=(match downS c bs 13 ⟨[],[],0⟩ ⟨p.block,p.page⟩ 1 with
  | some (_,t)=>if (t.facts.length:Int)=p.count then some t else none
  | none=>none):=by unfold walkS;rw [if_neg h0]<;>rfl
 refine (show callTE (downF B1 B4) _ _ _ _ from ⟨by kernel_rfl,(down_spec h hd0 hbs hrow hnb 13 ⟨[],[],0⟩ ⟨p.block,p.page⟩ 1 w₉ O U B1 B4 (by decide) (by decide) (heS.trans e9) hO hT9 (TreeS.Ok.nil c) k1 g9 (nU (by omega)) (nU (by omega)) ⟨⟨by show _≤p.block;omega,by show p.block≤_;omega⟩,⟨by show _≤p.page;omega,by show p.page≤_;omega⟩⟩).mono ?_ ?_⟩)
 ·rintro _ w₁₀ ⟨k,t',hdn,rfl,hu10,O',U',hT',hO',hU'⟩
  have hs10:=hu10.size
  have hs9':=e9.size
  rw [hdn] at hR hwalk
  simp only at hR hwalk
  refine ⟨_,_,_,_,rfl,fun w₁₁ hd11=>?_⟩
  have he11:=hd11.upd
  have k11:Upd O w₉ w₁₁:=hu10.then he11
  have m1:=k11.get k1 fun ho=>nU (by omega) (hou _ ho)
  have m2:=k11.get k2 fun ho=>nU (by omega) (hou _ ho)
  have m3:=k11.get k3 fun ho=>nU (by omega) (hou _ ho)
  have hT11:=hT'.ext he11
  have hT11':=hT11
  obtain ⟨ap,cp,af,cf,es,ck,G,q1,_⟩:=hT11'
  refine ⟨fun u=>Ext w₁₁ u,Upd.refl _ _,some ⟨L.b,0,none⟩,fun u hu=>cell_of (Ext.get hu m1) rfl,?_⟩
  simp only [nilC_some',add_lit,Nat.zero_add]
  refine ⟨_,_,_,fun u hu=>cell_of (Ext.get hu q1) rfl,_,fun u hu=>cell_of (Ext.get hu m2) rfl,want_spec (fun hy=>⟨rfl,Upd.refl _ _,?_⟩) fun hn=>caught k11 ?_⟩
  ·have hc:(t'.facts.length:Int)=p.count:=eq_of_beq hy
   rw [if_pos hc] at hR
   refine put_all (vs:=[.int .i64 0]) m3 rfl fun w₁₃ hu13 hs13 g13=>walk_later ⟨_,cell_of g13 rfl,hR _ _ ⟨((Upd.ext e9).trans k11).over hu13 fun z hz=>.inr (by omega),rfl,O',U',?_,fun z hz=>(hO' z hz).imp id fun hh=>by omega,fun z hz=>(hU' z hz).imp id fun hh=>by omega⟩⟩
   refine hT11.upd hu13 fun z hz hu'=>?_
   subst hz
   rcases hU' _ hu' with hh | hh
   ·exact nU (by omega) hh
   ·omega
  ·rw [hwalk,if_neg fun e=>by rw [e] at hn;simp at hn]
 ·rintro _ w₁₀ ⟨hdn,rfl,hu10⟩
  rw [hdn] at hwalk
  exact caught hu10 hwalk
def walkedR (c:Chip) (era:Nat):Option TreeS×Nat:=if (newestR c era).2≠0 then (none,(newestR c era).2) else match walkS c (treeBlocks c era) (accP (newestR c era).1) with
 | some t=>(some t,0)
 | none=>(none,16)
theorem newestS_from {c:Chip} {L:List Spot} {acc:Option Spot} {P:Spot→Prop} (ha:∀ x,acc=some x→P x) (hL:∀ x∈L,P x):∀ x,L.foldl newerS acc=some x→P x:=by
 induction L generalizing acc with
 | nil=>exact ha
 | cons y L ih =>
  refine ih (fun x hx=>?_) fun x hx=>hL x (List.mem_cons_of_mem _ hx)
  cases acc with
  | none=>cases hx;exact hL _ (List.mem_cons_self ..)
  | some z =>
   have hx':(if z.1.number > y.1.number then some z else some y)=some x:=hx
   split at hx'
   ·cases hx';exact ha _ rfl
   ·cases hx';exact hL _ (List.mem_cons_self ..)
theorem newest_may {c:Chip} {era:Nat} {x:Spot} (h:newestS c era=some x):x.1.may=true∧x.2.1∈treeBlocks c era∧1≤x.2.2∧x.2.2<c.np∧pointAt c x.2.1 x.2.2=some x.1:=by
 refine newestS_from (c:=c) (P:=fun x=>x.1.may=true∧x.2.1∈treeBlocks c era∧1≤x.2.2∧x.2.2<c.np∧pointAt c x.2.1 x.2.2=some x.1) (fun x h=>by cases h) (fun x hx=>?_) x h
 obtain ⟨b,hb,hx⟩:=List.mem_flatMap.1 hx
 obtain ⟨k,hk,hx⟩:=List.mem_filterMap.1 hx
 have hk:=List.mem_range.1 hk
 split at hx
 ·cases hx
 ·cases hp:pointAt c b k with
  | none=>rw [hp] at hx;cases hx
  | some p =>
   rw [hp] at hx
   cases hx
   refine ⟨?_,hb,by show 1≤k;omega,hk,hp⟩
   unfold pointAt at hp
   split at hp
   ·cases hp
   ·split at hp
    ·cases hp
    ·split at hp
     ·cases hp
     ·cases hp
      exact getPoint_may (by omega)
theorem newestR_zero {c:Chip} {era:Nat} (h:(newestR c era).2=0):askErr c era=0∧∃ x,newestS c era=some x∧newestR c era=(some x,0):=by
 unfold newestR at h ⊢
 split at h
 ·rename_i h1;exact absurd h h1
 ·rename_i h1
  rw [if_neg h1]
  cases hn:newestS c era with
  | none=>rw [hn] at h;cases h
  | some x=>exact ⟨by omega,x,rfl,rfl⟩
theorem walk_walked_spec {F:Nat→Prop} {A:Nat} {w:World} {p:Nat} {c:Chip} (h:CIn F A w p c) (hnb:c.nb<20) (era:Nat) :
  CallsR prog K.walk_walked #[.pointer (some ⟨p,0,none⟩),.int .u32 era] w fun v w'=>Ext w w'∧match walkedR c era with
   |(some t,_)=>∃ L O U,v= .tuple #[.pointer (some ⟨L.b,0,none⟩),.int .i64 0]∧TreeIn L O U w' t∧∀ x,U x→w.heap.size≤x
   |(none,e)=>v= .tuple #[.pointer none,.int .i64 (e:Nat)]:=by
 apply walk_walked.sh
 suffices H:∀ R:Value→World→Prop,(∀ v w',(Ext w w'∧match walkedR c era with
   |(some t,_)=>∃ L O U,v= .tuple #[.pointer (some ⟨L.b,0,none⟩),.int .i64 0]∧TreeIn L O U w' t∧∀ x,U x→w.heap.size≤x
   |(none,e)=>v= .tuple #[.pointer none,.int .i64 (e:Nat)])→R v w')→walk_walked.body (some ⟨p,0,none⟩) era w R from H _ fun _ _ h=>h
 intro R hR
 unfold walk_walked.body
 refine (walk_Newest_spec h hnb era).mono ?_
 rintro _ w₁ ⟨rfl,he1⟩
 unfold walkedR at hR
 refine ⟨_,_,_,_,_,_,_,rfl,new_put (vs:=Point.vals (accP (newestR c era).1)) rfl fun B1 w₃ hb1 hs3 he3 g3=>br_ne (fun hne=>?_) fun hz=>?_⟩
 ·rw [if_pos (by omega)] at hR
  exact hR _ _ ⟨he1.trans he3,rfl⟩
 rw [if_neg (by omega)] at hR
 obtain ⟨hask,x,hnx,hnr⟩:=newestR_zero (c:=c) (era:=era) (by omega)
 obtain ⟨hd0,hera⟩:=askErr_zero hask
 rw [hnr] at hR g3
 obtain ⟨hmay,_⟩:=newest_may hnx
 obtain ⟨⟨m1,m2,m3,m4,m5,m6,m7⟩,_⟩:=(Point.may_iff _).1 hmay
 have e3:=he1.trans he3
 refine (walk_Blocks_spec (h.ext e3) hnb era).mono ?_
 rintro _ w₄ ⟨a4,c4,rfl,hl4,he4⟩
 have e4:=e3.trans he4
 have hL:askL c era=blocksI c era:=by unfold askL;rw [if_pos hask]
 rw [hL] at hl4 ⊢
 refine ⟨_,_,_,_,rfl,fun B2 w₅ hn5 B3 w₆ hn6=>⟨_,_,_,_,cells_all (Ext.get hn6.upd (Ext.get hn5.upd (Ext.get he4 g3))),?_⟩⟩
 have hB2:=hn5.num
 have hs5:=hn5.size
 have hB3:=hn6.num
 have hs6:=hn6.size
 have hs4:=e4.size
 have e56:=hn5.upd.trans hn6.upd
 have e6:=e4.trans e56
 have hblen:=treeBlocks_len h.ok hd0 era
 have hT:TreeIn ⟨B3,B2,p,a4,c4,blocksI c era⟩ (fun z=>z=B3∨z=B2) (fun z=>z=B3∨z=B2) w₆ ⟨[],[],0⟩:=by
  refine ⟨none,0,none,0,#[],0,NoB,hn6.get,OwnAt.nil _ _ _,OwnS.nil _ _ _,Ext.get hn6.upd hn5.get,⟨rfl,fun e he=>by cases he⟩,⟨.inl rfl,.inr rfl,?_,fun z hz=>(by cases hz),fun z hz=>(by cases hz),fun z hz=>hz.elim,fun z hz=>hz,?_⟩⟩
  ·show B3≠B2
   omega
  ·rintro z (rfl | rfl)<;>omega
 have hspec:=walk_tree_walk_spec (L:=⟨B3,B2,p,a4,c4,blocksI c era⟩) (bs:=treeBlocks c era) (w:=w₆) (h.ext e4) hd0 rfl hl4.1.row (by omega) e56 (O:=fun z=>z=B3∨z=B2) (by rintro z (rfl | rfl)<;>omega) hT x.1 (by omega)
 refine hspec.mono ?_
 rintro v w₇ ⟨hu7,hv7⟩
 have e7:Ext w w₇:=e6.beyond hu7 (by rintro z (rfl | rfl)<;>omega)
 change ∀ v w',(Ext w w'∧match (match walkS c (treeBlocks c era) x.1 with
   | some t=>(some t,0)
   | none=>(none,16)) with
   |(some t,_)=>∃ L O U,v= .tuple #[.pointer (some ⟨L.b,0,none⟩),.int .i64 0]∧TreeIn L O U w' t∧∀ x,U x→w.heap.size≤x
   |(none,e)=>v= .tuple #[.pointer none,.int .i64 (e:Nat)])→R v w' at hR
 cases hw:walkS c (treeBlocks c era) x.1 with
 | none =>
  rw [hw] at hv7 hR
  obtain rfl:=hv7
  exact ⟨_,rfl,br_ne (fun _=>hR _ _ ⟨e7,rfl⟩) fun h=>absurd h (by decide)⟩
 | some t =>
  rw [hw] at hv7 hR
  obtain ⟨rfl,O',U',hT',hO',hU'⟩:=hv7
  refine ⟨_,rfl,br_ne (fun h=>absurd rfl h) fun _=>hR _ _ ⟨e7,_,O',U',rfl,hT',fun z hz=>?_⟩⟩
  rcases hU' z hz with hh | hh
  ·rcases hh with rfl | rfl<;>omega
  ·omega
def placeR:ERep Place:=flatR Place.vals 2 (by decide) (fun _=>rfl) (fun c v hv=>by
 simp at hv
 rcases hv with h | h<;>(rw [h];rfl))
theorem flat_slice {α:Type} {f:α→List Value} {k:Nat} {h1:1≤k} {h2:∀ x,(f x).length=k} {h3:∀ x,∀ v∈f x,v.oneCell'=true} {w:World} {G:Nat→Prop} {a:Option Addr} {l:List α} (h:RowAt w a (l.flatMap f)) (hg:l≠[]→∀ p,a=some p→G p.block):SliceAt (flatR f k h1 h2 h3) w G a l:=by
 refine ⟨l.flatMap f,h,?_,hg⟩
 clear h hg
 induction l with
 | nil=>rfl
 | cons x l ih=>exact ⟨f x,l.flatMap f,by simp,rfl,ih⟩
abbrev factsR (r:Option TreeS×Nat):List Fact:=match r.1 with
 | some t=>t.facts
 | none=>[]
abbrev pagesR (r:Option TreeS×Nat):List Place:=match r.1 with
 | some t=>t.pages
 | none=>[]
theorem walkedR_some {c:Chip} {era:Nat} {t:TreeS} {e:Nat} (h:walkedR c era=(some t,e)):e=0:=by
 unfold walkedR at h
 split at h
 ·cases h
 ·split at h
  ·cases h;rfl
  ·cases h
theorem TreeIn.facts {L:TLoc} {O U:Nat→Prop} {w:World} {t:TreeS} (h:TreeIn L O U w t):∃ a c,World.cell? w ⟨L.b,4,none⟩= some (.slice a t.facts.length c)∧SliceAt factR w U a t.facts∧t.facts.length≤c:=by
 obtain ⟨ap,cp,af,cf,es,ck,G,q1,q2,q3,q4,q5,q6⟩:=h
 refine ⟨af,cf,cell_of q1 rfl,OwnS.at_ (q3.mono fun z hz=>(q6.go z hz).1) fun p hp=>?_,q3.cap⟩
 obtain ⟨z,hz,_,rfl⟩:=q3.blk hp
 exact q6.ou _ (q6.of_ _ hz).1
theorem TreeIn.pages {L:TLoc} {O U:Nat→Prop} {w:World} {t:TreeS} (h:TreeIn L O U w t):∃ a c,World.cell? w ⟨L.b,3,none⟩= some (.slice a t.pages.length c)∧SliceAt placeR w U a t.pages∧t.pages.length≤c:=by
 obtain ⟨ap,cp,af,cf,es,ck,G,q1,q2,q3,q4,q5,q6⟩:=h
 refine ⟨ap,cp,cell_of q1 rfl,flat_slice q2.row fun hne p hp=>?_,q2.2.1⟩
 obtain ⟨b,o,hb,_⟩:=RowAt.blk q2.row (fun e=>hne (by
  have:=congrArg List.length e
  rw [flat_len (k:=2) (fun _=>rfl),List.length_nil] at this
  exact List.eq_nil_of_length_eq_zero (by omega)))
 have hb':=hb
 rw [hp] at hb
 cases hb
 obtain ⟨_,_,hx⟩:=q2
 rcases hx with ⟨rfl,_⟩| ⟨b',_,e',_⟩
 ·cases hb'
 ·rw [e'] at hb';cases hb'
  exact q6.ou _ (q6.op _ e').1
theorem walk_Facts_spec {F:Nat→Prop} {A:Nat} {w:World} {p:Nat} {c:Chip} (h:CIn F A w p c) (hnb:c.nb<20) (era:Nat) :
  CallsR prog K.walk_Facts #[.pointer (some ⟨p,0,none⟩),.int .u32 era] w fun v w'=>SliceOut factR w w' v (factsR (walkedR c era)) (walkedR c era).2:=by
 apply walk_Facts.sh
 unfold walk_Facts.body
 refine (walk_walked_spec h hnb era).mono ?_
 rintro v w₁ ⟨he1,hv⟩
 rcases hw:walkedR c era with ⟨_ | t,e⟩
 ·rw [hw] at hv
  obtain rfl:=hv
  refine ⟨_,_,rfl,br_ne (fun _=>SliceOut.none rfl he1) fun h=>?_⟩
  have he:e≠0:=by
   intro e0
   subst e0
   unfold walkedR at hw
   split at hw
   ·rename_i hh;exact hh (congrArg Prod.snd hw)
   ·split at hw
    ·cases hw
    ·exact absurd (congrArg Prod.snd hw) (by decide)
  omega
 ·have he:=walkedR_some hw
  subst he
  rw [hw] at hv
  obtain ⟨L,O,U,rfl,hT,hU⟩:=hv
  refine ⟨_,_,rfl,br_ne (fun h=>absurd rfl h) fun _=>?_⟩
  obtain ⟨a,c',h1,h2,h3⟩:=hT.facts
  simp only [nilC_some',add_lit,Nat.zero_add]
  exact ⟨_,_,_,h1,a,c',U,rfl,h2,fun b hb=>⟨hU b hb,hT.lt b hb⟩,h3,he1⟩
theorem walk_Pages_spec {F:Nat→Prop} {A:Nat} {w:World} {p:Nat} {c:Chip} (h:CIn F A w p c) (hnb:c.nb<20) (era:Nat) :
  CallsR prog K.walk_Pages #[.pointer (some ⟨p,0,none⟩),.int .u32 era] w fun v w'=>SliceOut placeR w w' v (pagesR (walkedR c era)) (walkedR c era).2:=by
 apply walk_Pages.sh
 unfold walk_Pages.body
 refine (walk_walked_spec h hnb era).mono ?_
 rintro v w₁ ⟨he1,hv⟩
 rcases hw:walkedR c era with ⟨_ | t,e⟩
 ·rw [hw] at hv
  obtain rfl:=hv
  refine ⟨_,_,rfl,br_ne (fun _=>SliceOut.none rfl he1) fun h=>?_⟩
  have he:e≠0:=by
   intro e0
   subst e0
   unfold walkedR at hw
   split at hw
   ·rename_i hh;exact hh (congrArg Prod.snd hw)
   ·split at hw
    ·cases hw
    ·exact absurd (congrArg Prod.snd hw) (by decide)
  omega
 ·have he:=walkedR_some hw
  subst he
  rw [hw] at hv
  obtain ⟨L,O,U,rfl,hT,hU⟩:=hv
  refine ⟨_,_,rfl,br_ne (fun h=>absurd rfl h) fun _=>?_⟩
  obtain ⟨a,c',h1,h2,h3⟩:=hT.pages
  simp only [nilC_some',add_lit,Nat.zero_add]
  exact ⟨_,_,_,h1,a,c',U,rfl,h2,fun b hb=>⟨hU b hb,hT.lt b hb⟩,h3,he1⟩
section
set_option maxRecDepth 100000
def c18:Chip:=newChip 8 6 128 0
def pages18:List LPage:=[⟨1,0,0,⟨2,1,1⟩,[],[],Point.zero,[],true⟩,⟨4,0,2,⟨0,0,0⟩,[],[],⟨3,0,1,1⟩,[],true⟩,⟨2,0,1,⟨0,0,0⟩,[⟨⟨1,1,ByteArray.empty,0⟩,[7]⟩],[],Point.zero,[],true⟩]
def d18:Chip:=chip18 pages18
def lives18:Bool:=decide ((newestR c18 1).2=12) && decide (treeBlocks c18 1=[]) && decide ((walkedR d18 1).2=0) && decide ((factsR (walkedR d18 1)).length=1)
theorem lives18_true:lives18=true:=by decide +kernel
end
def Num (acc:Option Spot):Prop:=∀ y,acc=some y→1≤y.1.number
theorem newerS_ge {acc:Option Spot} (h:Num acc) {x:Spot} (hx:1≤x.1.number):newerS acc x=(if x.1.number≥(accP acc).number then some x else acc)∧Num (newerS acc x):=by
 cases acc with
 | none =>
  refine ⟨?_,fun y hy=>by cases hy;exact hx⟩
  rw [if_pos (show x.1.number≥(accP none).number from Nat.zero_le _)];rfl
 | some y =>
  have hy:=h y rfl
  refine ⟨?_,fun z hz=>?_⟩
  ·show (if y.1.number > x.1.number then some y else some x)=if x.1.number≥y.1.number then some x else some y
   by_cases hgt:y.1.number > x.1.number
   ·rw [if_pos hgt,if_neg (by omega)]
   ·rw [if_neg hgt,if_pos (by omega)]
  ·have hz':(if y.1.number > x.1.number then some y else some x)=some z:=hz
   split at hz'
   ·cases hz';exact hy
   ·cases hz';exact hx
theorem Num.zero {acc:Option Spot} (h:Num acc):(accP acc).number=0 ↔ acc=none:=by
 cases acc with
 | none=>exact ⟨fun _=>rfl,fun _=>rfl⟩
 | some y=>exact ⟨fun e=>by have:=h y rfl;have e':y.1.number=0:=e;omega,fun e=>by cases e⟩
theorem carrackref18_Newest_spec {F:Nat→Prop} {A:Nat} {w:World} {p:Nat} {c:Chip} (h:CIn F A w p c) (hd0:c.dead=false) (era:Nat) :
  CallsR prog K.carrackref18_Newest #[.pointer (some ⟨p,0,none⟩),.int .u32 era] w fun v w'=>v=newestV (newestR c era)∧Ext w w':=by
 apply carrackref18_Newest.sh
 suffices H:∀ R:Value→World→Prop,(∀ v w',v=newestV (newestR c era)∧Ext w w'→R v w')→carrackref18_Newest.body (some ⟨p,0,none⟩) era w R from H _ fun _ _ h=>h
 intro R hR
 unfold carrackref18_Newest.body
 intro B1 w₁ hn1
 have hB1:=hn1.num
 have hs1:=hn1.size
 have g1:w₁.heap[B1]?=some (.cells (Point.vals Point.zero).toArray T.api_Point (0,0)):=hn1.get
 unfold newestR at hR
 refine br_eq (fun h0=>?_) fun h0=>?_
 ·have ha:askErr c era=2:=by unfold askErr;rw [hd0,if_neg (by decide),if_pos (by omega)]
  rw [ha,if_pos (by decide)] at hR
  exact new_out (p:=Point.zero) (x:=0) (y:=0) g1 rfl fun u' hu=>hR _ _ ⟨rfl,hn1.upd.beyond hu fun x hx=>by omega⟩
 have he0:askErr c era=0:=by unfold askErr;rw [hd0,if_neg (by decide),if_neg (by omega)]
 rw [if_neg (by omega)] at hR
 refine (carrackref18_Blocks_spec (h.ext hn1.upd) hd0 era).mono ?_
 rintro _ w₂ ⟨a2,c2,rfl,hl2,he2⟩
 have e2:=hn1.upd.trans he2
 have hs2:=he2.size
 have hlt:=treeBlocks_lt h.ok hd0 era
 have hlen:=treeBlocks_len h.ok hd0 era
 have hlenI:(blocksI c era).length=(treeBlocks c era).length:=by simp [blocksI]
 have hget:∀ i (hi:i<(treeBlocks c era).length) (hi2:i<(blocksI c era).length),(blocksI c era)[i]=((treeBlocks c era)[i]:Nat):=fun i hi hi2=>blocksI_get hi2
 have hnew:newestS c era=((treeBlocks c era).flatMap fun b=>spotsB c b c.np).foldl newerS none:=rfl
 rw [hnew] at hR
 clear hnew
 generalize treeBlocks c era=L at *
 generalize blocksI c era=LI at *
 have hnp:=h.ok.np1
 have hnp2:=h.ok.np2
 have hnb2:=h.ok.nb2
 refine ⟨_,_,_,rfl,fun B2 w₃ hn3=>?_⟩
 have hB2:=hn3.num
 have hs3:=hn3.size
 have e3:=e2.trans hn3.upd
 have g31:=Ext.get hn3.upd (Ext.get he2 g1)
 have g3:w₃.heap[B2]?=some (.cells (Point.vals (accP none)).toArray T.api_Point (0,0)):=hn3.get
 refine ⟨fun x6 x7 x8 u=>∃ i:Nat,x8=i∧i≤L.length∧∃ acc:Option Spot,acc=((L.take i).flatMap fun b=>spotsB c b c.np).foldl newerS none∧Num acc∧x6=(accB acc:Nat)∧x7=(accK acc:Nat)∧u.heap[B2]?=some (.cells (Point.vals (accP acc)).toArray T.api_Point (0,0))∧Upd (·=B2) w₃ u,fun _ _ x8 _=>((L.length:Int) - x8).toNat,
  ⟨0,rfl,by omega,none,rfl,(fun _ h=>by cases h),rfl,rfl,g3,Upd.refl _ _⟩,?_⟩
 rintro x6 x7 x8 u ⟨i,rfl,hi,acc,hacc,hnum,rfl,rfl,gu,hu⟩
 have hli:∀ {v:World},Upd (·=B2) w₃ v→RowAt v a2 (LI.flatMap fun x:Int=>[Value.int .i64 x]):=fun hv=>by
  have:IList w₁.heap.size _ a2 c2 LI:=⟨(hl2.ext hn3.upd).1.upd hv fun b hb hx=>by have:=(hl2.1.blk hb);omega,hl2.2⟩
  have:=this.1.row
  simpa [← List.map_eq_flatMap] using this
 have hext:∀ {v:World},Upd (·=B2) w₃ v→Ext w v:=fun hv=>e3.beyond hv fun x hx=>by omega
 refine br_dec (fun hlt'=>?_) fun hge=>?_
 ·have hi':i<L.length:=by omega
  have ew:IntKind.i64.wrap ((i:Int)+1)=((i+1:Nat):Int):=w64 (by omega) (by omega)
  simp only [ew]
  have hbi:=hlt _ (List.getElem_mem hi')
  have hfl:=flat_step c hi'
  rw [← hacc] at hfl
  refine ⟨fun x6 x7 x8 u=>∃ k:Nat,x8=k∧1≤k∧k≤c.np∧∃ ac2:Option Spot,ac2=(spotsB c L[i] k).foldl newerS acc∧Num ac2∧x6=(accB ac2:Nat)∧x7=(accK ac2:Nat)∧u.heap[B2]?=some (.cells (Point.vals (accP ac2)).toArray T.api_Point (0,0))∧Upd (·=B2) w₃ u,fun _ _ x8 _=>((c.np:Int) - x8).toNat,
   ⟨1,rfl,by omega,by omega,acc,rfl,hnum,rfl,rfl,gu,hu⟩,?_⟩
  rintro x10 x11 x12 v ⟨k,rfl,hk1,hk,ac2,hac,hnum2,rfl,rfl,gv,hv⟩
  refine (cGeo (h.ext (hext hv))).mono ?_
  rintro _ v1 ⟨rfl,hev1⟩
  have hv1:=hv.then hev1
  have gv1:=Ext.get hev1 gv
  refine ⟨_,_,_,_,rfl,br_dec (fun hkn=>?_) fun hkn=>?_⟩
  ·have hk':k<c.np:=by omega
   have ewk:IntKind.i64.wrap ((k:Int)+1)=((k+1:Nat):Int):=w64 (by omega) (by omega)
   simp only [ewk]
   have hfs:=fold_step c L[i] hk1 acc
   rw [← hac] at hfs
   refine idx_flat (k:=1) (f:=fun x:Int=>[Value.int .i64 x]) (fun _=>rfl) (by omega) (l:=LI) (hli hv1) rfl (by omega) fun b o hab hr=>⟨_,(by have:=hr.cells;exact this.1),?_⟩
   rw [hget i hi' (by omega)]
   refine (cPage (h.ext (hext hv1)) hd0 hbi hk').mono ?_
   rintro _ v2 ⟨hev2,a3,c3,rfl,hb3,hc3,hf3⟩
   refine ⟨_,_,_,_,rfl,(carrackref02_Get_spec hb3 hc3).mono ?_⟩
   rintro _ v3 ⟨hev3,a4,c4,rfl,hb4,hc4⟩
   have hsm:=page_small h.ok hbi hk'
   have hv3:=(hv1.then hev2).then hev3
   have gv3:=Ext.get hev3 (Ext.get hev2 gv1)
   have same:∀ {v':World},Ext v3 v'→(spotsB c L[i] (k+1)).foldl newerS acc=ac2→(∃ k':Nat,((k+1:Nat):Int)=k'∧1≤k'∧k'≤c.np∧∃ ac3:Option Spot,ac3=(spotsB c L[i] k').foldl newerS acc∧Num ac3∧((accB ac2:Nat):Int)=(accB ac3:Nat)∧((accK ac2:Nat):Int)=(accK ac3:Nat)∧v'.heap[B2]?=some (.cells (Point.vals (accP ac3)).toArray T.api_Point (0,0))∧Upd (·=B2) w₃ v')∧((c.np:Int) - ((k+1:Nat):Int)).toNat<((c.np:Int) - (k:Int)).toNat:=fun hev' hno=>⟨⟨k+1,rfl,by omega,by omega,ac2,by rw [hno],hnum2,rfl,rfl,Ext.get hev' gv3,hv3.then hev'⟩,meas hk'⟩
   refine ⟨_,_,_,_,_,rfl,br_ne (fun hne=>same (Upd.refl _ _) (by rw [hfs,pointAt_none1 (by omega)])) fun hz=>br_ne (fun hne=>same (Upd.refl _ _) (by rw [hfs,pointAt_none2 fun e=>hne (by rw [e];rfl)])) fun hk6=>?_⟩
   have hp6:(getPage (c.page L[i] k)).1=6:=(u8i _ 6 (by omega)).1 hk6
   refine (carrackref17_Get_spec (c:=c4) hb4 (by omega) hc4).mono ?_
   rintro _ v4 ⟨rfl,hev4⟩
   refine ⟨_,_,_,_,_,rfl,new_put (vs:=Point.vals (getPoint (getPage (c.page L[i] k)).2.1).1) rfl fun B3 v5 hb5 hs5 hev5 g5=>br_eq (fun hz0=>?_) fun hne=>same (hev4.trans hev5) (by rw [hfs,pointAt_none3 (by omega)])⟩
   have hsome:=pointAt_some (c:=c) (b:=L[i]) (k:=k) (by omega) hp6 (by omega)
   have ev5:=hev4.trans hev5
   have hv5:=hv3.then ev5
   have gv5:=Ext.get ev5 gv3
   have hpn:=pointAt_number hsome
   rw [hsome] at hfs
   have hsv3:=hv3.size
   have hev4s:=hev4.size
   have hnw:=newerS_ge hnum2 (x:=((getPoint (getPage (c.page L[i] k)).2.1).1,L[i],k)) hpn
   refine ⟨_,cell_of g5 rfl,_,cell_of gv5 rfl,br_dec (fun hge=>?_) fun hlt2=>?_⟩
   ·have hnw1:=hnw.1
    rw [if_pos (show (getPoint (getPage (c.page L[i] k)).2.1).1.number≥(accP ac2).number by omega)] at hnw1
    intro v6 hd6
    have hev6:=hd6.upd
    have hv6:=hv5.then hev6
    refine ⟨fun u=>Upd (·=B2) w₃ u∧Upd (·=B2) v6 u,⟨hv6,Upd.refl _ _⟩,_,_,_,_,fun u1 hu1=>cells_all (hu1.2.get (Ext.get hev6 g5) (by omega)),?_⟩
    obtain ⟨b0,o0,hab0⟩: ∃ b0 o0,a2=some ⟨b0,o0,none⟩:=by
     obtain ⟨b0,o0,h1,_⟩:=RowAt.blk (hli hv6) (by
      intro e
      have:=congrArg List.length e
      rw [flat_len (k:=1) (fun _=>rfl),List.length_nil] at this
      omega)
     exact ⟨b0,o0,h1⟩
    refine ⟨by omega,by omega,?_⟩
    subst hab0
    simp only [nilC_some',add_lit]
    refine ⟨(L[i]:Nat),fun u2 hu2=>?_,?_⟩
    ·have hr2:=hli hu2.1
     have hc:=row_cell hr2 (j:=i) (v:=.int .i64 (L[i]:Nat)) (by
      rw [← List.map_eq_flatMap,List.getElem?_map,List.getElem?_eq_getElem (by omega),hget i hi' (by omega)];rfl)
     simpa using hc
    ·refine put_all (vs:=Point.vals (getPoint (getPage (c.page L[i] k)).2.1).1) (Ext.get hev6 gv5) rfl fun v7 hu7 hs7 g7=>⟨⟨hv6.trans hu7,hu7⟩,⟨k+1,rfl,by omega,by omega,some ((getPoint (getPage (c.page L[i] k)).2.1).1,L[i],k),?_,?_,rfl,rfl,g7,hv6.trans hu7⟩,meas hk'⟩
     ·rw [hfs];exact hnw1.symm
     ·rw [← hnw1];exact hnw.2
   ·have hnw1:=hnw.1
    rw [if_neg (show ¬ (getPoint (getPage (c.page L[i] k)).2.1).1.number≥(accP ac2).number by omega)] at hnw1
    exact same ev5 (by rw [hfs];exact hnw1)
  ·have hkk:k=c.np:=by omega
   subst hkk
   exact ⟨⟨i+1,rfl,hi',ac2,by rw [hac,hfl],hnum2,rfl,rfl,gv1,hv1⟩,meas hi'⟩
 ·have hii:i=L.length:=by omega
  subst hii
  rw [List.take_length] at hacc
  rw [← hacc] at hR
  have hz:=hnum.zero
  have g1u:=hu.get g31 (by omega)
  refine ⟨_,cell_of gu rfl,br_eq (fun h0=>?_) fun h0=>?_⟩
  ·obtain rfl:=hz.1 (by omega)
   exact new_out (p:=Point.zero) (x:=0) (y:=0) (e:=12) g1u rfl fun u' hu'=>hR _ _ ⟨rfl,(hext hu).beyond hu' fun x hx=>by omega⟩
  ·cases acc with
   | none=>exact absurd rfl h0
   | some y=>exact ⟨_,_,_,_,cells_all gu,new_out (p:=y.1) (e:=0) g1u rfl fun u' hu'=>hR _ _ ⟨rfl,(hext hu).beyond hu' fun x hx=>by omega⟩⟩
abbrev TLoc.rcells (L:TLoc) (ap:Option Addr) (np cp:Nat) (af:Option Addr) (nf cf:Nat) (d:Nat):List Value:=[.pointer (some ⟨L.p,0,none⟩),.slice L.ab L.bs.length L.cb,.slice ap np cp,.slice af nf cf,.int .i64 (d:Nat)]
structure RSep (L:TLoc) (O U:Nat→Prop) (w:World) (ap af:Option Addr) (G:Nat→Prop):Prop where
 ob:O L.b
 op:∀ x,ap=some ⟨x,0,none⟩→O x∧x≠L.b
 of_:∀ x,af=some ⟨x,0,none⟩→O x∧x≠L.b∧ap≠some ⟨x,0,none⟩
 go:∀ x,G x→U x∧¬ O x
 ou:∀ x,O x→U x
 lt:∀ x,U x→x<w.heap.size
def RTreeIn (L:TLoc) (O U:Nat→Prop) (w:World) (t:TreeS):Prop:=∃ ap cp af cf G,
 w.heap[L.b]?=some (.cells (L.rcells ap t.pages.length cp af t.facts.length cf t.depth).toArray T.carrackref18_Tree (0,0))∧
 OwnAt w ap t.pages.length cp T.api_Place 2 (t.pages.flatMap Place.vals)∧OwnS factR w G af cf T.api_Fact t.facts∧RSep L O U w ap af G
theorem RSep.size {L:TLoc} {O U:Nat→Prop} {w w':World} {ap af:Option Addr} {G:Nat→Prop} (h:RSep L O U w ap af G) (hs:w.heap.size≤w'.heap.size):RSep L O U w' ap af G :=
 ⟨h.ob,h.op,h.of_,h.go,h.ou,fun x hx=>Nat.lt_of_lt_of_le (h.lt x hx) hs⟩
theorem RTreeIn.upd {L:TLoc} {O U:Nat→Prop} {w w':World} {t:TreeS} {F:Nat→Prop} (h:RTreeIn L O U w t) (k:Upd F w w') (hF:∀ x,F x→¬ U x):RTreeIn L O U w' t:=by
 obtain ⟨ap,cp,af,cf,G,h1,h2,h3,h6⟩:=h
 exact ⟨ap,cp,af,cf,G,k.get h1 fun hf=>hF _ hf (h6.ou _ h6.ob),h2.upd k fun b hb hf=>hF _ hf (h6.ou _ (h6.op b hb).1),h3.upd k (fun b hb hf=>hF _ hf (h6.go b hb).1) fun b hb hf=>hF _ hf (h6.ou _ (h6.of_ b hb).1),h6.size k.size⟩
theorem RTreeIn.ext {L:TLoc} {O U:Nat→Prop} {w w':World} {t:TreeS} (h:RTreeIn L O U w t) (k:Ext w w'):RTreeIn L O U w' t:=h.upd k fun _ h=>h.elim
theorem RTreeIn.lt {L:TLoc} {O U:Nat→Prop} {w:World} {t:TreeS} (h:RTreeIn L O U w t):∀ x,U x→x<w.heap.size:=by
 obtain ⟨_,_,_,_,_,_,_,_,h6⟩:=h
 exact h6.lt
theorem RTreeIn.ou {L:TLoc} {O U:Nat→Prop} {w:World} {t:TreeS} (h:RTreeIn L O U w t):∀ x,O x→U x:=by
 obtain ⟨_,_,_,_,_,_,_,_,h6⟩:=h
 exact h6.ou
def RGrown (L:TLoc) (O U:Nat→Prop) (w w':World) (t:TreeS):Prop:=∃ O' U',RTreeIn L O' U' w' t∧(∀ x,O' x→O x∨w.heap.size≤x)∧∀ x,U' x→U x∨w.heap.size≤x
theorem has_spec {w:World} {b:Nat} {v0:Value} {rest:List Value} {a:Option Addr} {c:Nat} {l:List Int} (g:w.heap[b]?=some (.cells (v0 :: .slice a l.length c :: rest).toArray T.carrackref18_Tree (0,0))) (h:RowAt w a (l.map (Value.int .i64))) (hn:l.length<1000000) (x:Int) :
  CallsR prog K.carrackref18_Tree_has #[.pointer (some ⟨b,0,none⟩),.int .i64 x] w fun v w'=>w'=w∧v= .bool (decide (x∈l)):=by
 apply carrackref18_Tree_has.sh
 unfold carrackref18_Tree_has.body
 simp only [nilC_some',add_lit,Nat.zero_add]
 refine ⟨fun y u=>u=w∧∃ i:Nat,y=i∧i≤l.length∧x ∉ l.take i,fun y _=>((l.length:Int) - y).toNat,⟨rfl,0,rfl,by omega,by simp⟩,?_⟩
 rintro y u ⟨rfl,i,rfl,hi,hno⟩
 refine ⟨_,_,_,cell_of g rfl,br_dec (fun hlt=>⟨_,_,_,cell_of g rfl,?_⟩) fun hge=>?_⟩
 ·have hi':i<l.length:=by omega
  have ew:IntKind.i64.wrap ((i:Int)+1)=((i+1:Nat):Int):=w64 (by omega) (by omega)
  rw [ew]
  refine idx_flat (k:=1) (f:=fun x:Int=>[Value.int .i64 x]) (fun _=>rfl) (by omega) (l:=l) (by simpa [← List.map_eq_flatMap] using h) rfl hi' fun b o hab hr=>⟨_,(by have:=hr.cells;exact this.1),br_eq (fun he=>?_) fun hne=>?_⟩
  ·exact ⟨rfl,by rw [decide_eq_true];exact he ▸ List.getElem_mem hi'⟩
  ·refine ⟨⟨rfl,i+1,rfl,hi',?_⟩,meas hi'⟩
   rw [List.take_succ_eq_append_getElem hi']
   intro hx
   rcases List.mem_append.1 hx with hx | hx
   ·exact hno hx
   ·exact hne (List.mem_singleton.1 hx).symm
 ·have hii:i=l.length:=by omega
  subst hii
  rw [List.take_length] at hno
  exact ⟨rfl,by rw [decide_eq_false hno]⟩
theorem place_beq (a b:Place):((a.block == b.block) && ((a.page == b.page) && true))=decide (a=b):=by
 obtain ⟨x,y⟩:=a
 obtain ⟨z,u⟩:=b
 by_cases h1:x=z<;>by_cases h2:y=u<;>simp [h1,h2]
theorem met_spec {w:World} {b:Nat} {v0 v1:Value} {rest:List Value} {a:Option Addr} {c:Nat} {l:List Place} (g:w.heap[b]?=some (.cells (v0 :: v1 :: .slice a l.length c :: rest).toArray T.carrackref18_Tree (0,0))) (h:RowAt w a (l.flatMap Place.vals)) (hn:l.length<1000000) (p:Place) :
  CallsR prog K.carrackref18_Tree_met #[.pointer (some ⟨b,0,none⟩),placeV p] w fun v w'=>Ext w w'∧v= .bool (decide (p∈l)):=by
 apply carrackref18_Tree_met.sh
 unfold carrackref18_Tree_met.body
 simp only [nilC_some',add_lit,Nat.zero_add]
 intro B1 w₁ hn1
 refine ⟨fun y u=>Ext w₁ u∧∃ i:Nat,y=i∧i≤l.length∧p ∉ l.take i,fun y _=>((l.length:Int) - y).toNat,⟨Upd.refl _ _,0,rfl,by omega,by simp⟩,?_⟩
 rintro y u ⟨heu,i,rfl,hi,hno⟩
 have e1:=hn1.upd.trans heu
 refine ⟨_,_,_,cell_of (Ext.get e1 g) rfl,br_dec (fun hlt u3 hd3=>?_) fun hge=>?_⟩
 ·have hi':i<l.length:=by omega
  have ew:IntKind.i64.wrap ((i:Int)+1)=((i+1:Nat):Int):=w64 (by omega) (by omega)
  rw [ew]
  have he3:=hd3.upd
  have e3:=e1.trans he3
  refine ⟨fun u'=>Ext u3 u',Upd.refl _ _,_,_,_,fun u' hu'=>cell_of (Ext.get (e3.trans hu') g) rfl,?_⟩
  refine idx_flat (k:=2) (f:=Place.vals) (fun _=>rfl) (by omega) (l:=l) (h.ext e3) rfl hi' fun b o hab hr=>⟨_,_,fun u' hu'=>(RowAt.ext hr hu').cells,_,_,fun u' hu'=>cells_all (Ext.get ((heu.trans he3).trans hu') hn1.get),?_⟩
  rw [place_beq]
  refine br_dec (fun he=>⟨e3,by rw [decide_eq_true];exact he ▸ List.getElem_mem hi'⟩) fun hne=>⟨⟨heu.trans he3,i+1,rfl,hi',?_⟩,meas hi'⟩
  rw [List.take_succ_eq_append_getElem hi']
  intro hx
  rcases List.mem_append.1 hx with hx | hx
  ·exact hno hx
  ·exact hne (List.mem_singleton.1 hx).symm
 ·have hii:i=l.length:=by omega
  subst hii
  rw [List.take_length] at hno
  exact ⟨e1,by rw [decide_eq_false hno]⟩
theorem rtree_page {L:TLoc} {O U:Nat→Prop} {w w₂ w₃ w₄:World} {t:TreeS} {p:Place} {ap a':Option Addr} {c':Nat} {af:Option Addr} {cf:Nat} {G:Nat→Prop}
  (q3:OwnS factR w G af cf T.api_Fact t.facts) (q6:RSep L O U w ap af G) (he2:Ext w w₂) (hu3:Upd (fun b=>ap=some ⟨b,0,none⟩) w₂ w₃)
  (ho3:OwnAt w₃ a' (t.pages ++ [p]).length c' T.api_Place 2 ((t.pages ++ [p]).flatMap Place.vals)) (hf3:a'=ap∨∃ b,a'=some ⟨b,0,none⟩∧w₂.heap.size≤b)
  (hu4:Upd (·=L.b) w₃ w₄) (g4:w₄.heap[L.b]?=some (.cells (L.rcells a' (t.pages ++ [p]).length c' af t.facts.length cf t.depth).toArray T.carrackref18_Tree (0,0))) :
  ∃ O' U',RTreeIn L O' U' w₄ { t with pages:=t.pages ++ [p] }∧(∀ x,O x→O' x)∧(∀ x,U x→U' x)∧(∀ x,O' x→O x∨w₂.heap.size≤x)∧(∀ x,U' x→U x∨w₂.heap.size≤x)∧Upd O w w₄:=by
 have hs2:=he2.size
 have hs3:=hu3.size
 have hs4:=hu4.size
 have hlt:=q6.lt
 have hbU:=q6.ou _ q6.ob
 have hbl:=hlt _ hbU
 have hal:∀ z,a'=some ⟨z,0,none⟩→z<w₃.heap.size:=fun z hz=>ho3.blk hz
 refine ⟨fun z=>O z∨a'=some ⟨z,0,none⟩,fun z=>U z∨a'=some ⟨z,0,none⟩,⟨a',c',af,cf,G,g4,?_,?_,?_⟩,fun x hx=>.inl hx,fun x hx=>.inl hx,?_,?_,?_⟩
 ·refine ho3.upd hu4 fun z hz e=>?_
  rcases hf3 with hf | ⟨z',hz',hl⟩
  ·subst hf;exact (q6.op z hz).2 e
  ·rw [hz'] at hz;cases hz;omega
 ·exact ((q3.ext he2).upd hu3 (fun z hz e=>(q6.go z hz).2 (q6.op z e).1) fun z hz e=>(q6.of_ z hz).2.2 e).upd hu4 (fun z hz e=>(q6.go z hz).2 (e ▸ q6.ob)) fun z hz e=>(q6.of_ z hz).2.1 e
 ·refine ⟨.inl q6.ob,fun z hz=>⟨.inr hz,?_⟩,fun z hz=>⟨.inl (q6.of_ z hz).1,(q6.of_ z hz).2.1,fun e=>?_⟩,fun z hz=>⟨.inl (q6.go z hz).1,fun ho=>?_⟩,fun z hz=>?_,fun z hz=>?_⟩
  ·rcases hf3 with hf | ⟨z',hz',hl⟩
   ·subst hf;exact (q6.op z hz).2
   ·rw [hz'] at hz;cases hz;omega
  ·rcases hf3 with hf | ⟨z',hz',hl⟩
   ·subst hf;exact (q6.of_ z hz).2.2 e
   ·rw [hz'] at e;cases e
    have:=hlt _ (q6.ou _ (q6.of_ z hz).1);omega
  ·rcases ho with ho | ho
   ·exact (q6.go z hz).2 ho
   ·rcases hf3 with hf | ⟨z',hz',hl⟩
    ·subst hf;exact (q6.go z hz).2 (q6.op z ho).1
    ·rw [hz'] at ho;cases ho
     have:=hlt _ (q6.go z hz).1;omega
  ·rcases hz with hz | hz
   ·exact .inl (q6.ou _ hz)
   ·exact .inr hz
  ·rcases hz with hz | hz
   ·have:=hlt _ hz;omega
   ·have:=hal z hz;omega
 ·intro z hz
  rcases hz with hz | hz
  ·exact .inl hz
  ·rcases hf3 with hf | ⟨z',hz',hl⟩
   ·subst hf;exact .inl (q6.op z hz).1
   ·rw [hz'] at hz;cases hz;exact .inr hl
 ·intro z hz
  rcases hz with hz | hz
  ·exact .inl hz
  ·rcases hf3 with hf | ⟨z',hz',hl⟩
   ·subst hf;exact .inl (q6.ou _ (q6.op z hz).1)
   ·rw [hz'] at hz;cases hz;exact .inr hl
 ·exact (Upd.ext he2).trans ((hu3.mono fun z _ e=>(q6.op z e).1).trans (hu4.mono fun z _ e=>by rw [e];exact q6.ob))
theorem rtree_facts {L:TLoc} {O U:Nat→Prop} {w:World} {t:TreeS} {d:Nat} {Gl:Nat→Prop} {a2:Option Addr} {c2 n:Nat} {l:List Fact} (h:RTreeIn L O U w t) (hl:SliceAt factR w Gl a2 l) (hGl:∀ z,Gl z→¬ U z∧z<w.heap.size) (hn:n=l.length) (hlen:t.facts.length+l.length≤1000000) {K':World→Prop}
  (hk:∀ w' O' U',RTreeIn L O' U' w' { t with facts:=t.facts ++ l,depth:=d }→(∀ x,O' x→O x∨w.heap.size≤x)→(∀ x,U' x→U x∨Gl x∨w.heap.size≤x)→Upd O w w'→K' w') :
  storeP w ⟨L.b,4,none⟩ [.int .i64 d] fun w28=>∃ (a12:Option Addr) (l12 c12:Nat),World.cell? w28 ⟨L.b,3,none⟩= some (.slice a12 l12 c12)∧
   appendP T.api_Fact 5 64 [.int .i64 0,.int .u8 0,.string (⟨#[]⟩: ByteArray),.int .i64 0,.slice none 0 0] a12 l12 c12 (.slice a2 n c2) w28 fun a13 l13 c13 w29=>storeP w29 ⟨L.b,3,none⟩ [.slice a13 l13 c13] K':=by
 subst hn
 obtain ⟨ap,cp,af,cf,G,q1,q2,q3,q6⟩:=h
 have hlt:=q6.lt
 refine store_of q1 (by simp) fun w₉ hput9=>?_
 have g9:w₉.heap[L.b]?=some (.cells (L.rcells ap t.pages.length cp af t.facts.length cf d).toArray T.carrackref18_Tree (0,0)):=by rw [hput9.get];rfl
 have u9:=hput9.upd1
 have hs9:=hput9.size
 have hbU:=q6.ou _ q6.ob
 have hnG:∀ z,Gl z→¬ U z:=fun z hz=>(hGl z hz).1
 have q39:OwnS factR w₉ (fun z=>G z∨Gl z) af cf T.api_Fact t.facts:=(q3.upd u9 (fun z hz e=>(q6.go z hz).2 (e ▸ q6.ob)) fun z hz e=>(q6.of_ z hz).2.1 e).mono fun z hz=>.inl hz
 have hsl9:SliceAt factR w₉ (fun z=>G z∨Gl z) a2 l:=(hl.upd u9 fun z hz e=>hnG z hz (e ▸ hbU)).mono fun z hz=>.inr hz
 refine ⟨_,_,_,cell_of g9 rfl,?_⟩
 refine OwnS.concat (r:=factR) q39 hsl9 rfl rfl rfl (by omega) (by omega) (fun z hz hg=>?_) fun a' c' w₁₀ hu10 ho10 hf10=>?_
 ·rcases hg with hg | hg
  ·exact (q6.go z hg).2 (q6.of_ z hz).1
  ·exact hnG z hg (q6.ou _ (q6.of_ z hz).1)
 have hs10:=hu10.size
 have g10:=hu10.get g9 fun e=>(q6.of_ _ e).2.1 rfl
 refine store_of g10 (by simp) fun w₁₁ hput11=>?_
 have g11:w₁₁.heap[L.b]?=some (.cells (L.rcells ap t.pages.length cp a' (t.facts ++ l).length c' d).toArray T.carrackref18_Tree (0,0)):=by rw [hput11.get];rfl
 have u11:=hput11.upd1
 have hs11:=hput11.size
 have hG2b:∀ z,(G z∨Gl z)→z≠L.b:=fun z hz e=>by
  rcases hz with hz | hz
  ·exact (q6.go z hz).2 (e ▸ q6.ob)
  ·exact hnG z hz (e ▸ hbU)
 have hbl:=hlt _ hbU
 have hnew:∀ z,a'=some ⟨z,0,none⟩→(O z∧z≠L.b∧ap≠some ⟨z,0,none⟩)∨w₉.heap.size≤z:=fun z hz=>by
  rcases hf10 with hf | ⟨z',hz',hl⟩
  ·subst hf;exact .inl (q6.of_ z hz)
  ·rw [hz'] at hz;cases hz;exact .inr hl
 have hal:∀ z,a'=some ⟨z,0,none⟩→z<w₁₀.heap.size:=fun z hz=>by
  obtain ⟨vs,ho,_⟩:=ho10
  exact ho.blk hz
 refine hk w₁₁ (fun z=>O z∨a'=some ⟨z,0,none⟩) (fun z=>U z∨Gl z∨a'=some ⟨z,0,none⟩) ⟨ap,cp,a',c',fun z=>G z∨Gl z,g11,?_,?_,?_⟩ ?_ ?_ ?_
 ·exact ((q2.upd u9 fun z hz e=>(q6.op z hz).2 e).upd hu10 fun z hz e=>(q6.of_ z e).2.2 hz).upd u11 fun z hz e=>(q6.op z hz).2 e
 ·refine ho10.upd u11 (fun z hz e=>hG2b z hz e) fun z hz e=>?_
  rcases hnew z hz with hh | hh
  ·exact hh.2.1 e
  ·omega
 ·refine ⟨.inl q6.ob,fun z hz=>⟨.inl (q6.op z hz).1,(q6.op z hz).2⟩,fun z hz=>⟨.inr hz,?_⟩,fun z hz=>⟨?_,fun ho=>?_⟩,fun z hz=>?_,fun z hz=>?_⟩
  ·rcases hnew z hz with hh | hh
   ·exact hh.2
   ·exact ⟨by omega,fun e=>by have:=hlt _ (q6.ou _ (q6.op z e).1);omega⟩
  ·rcases hz with hz | hz
   ·exact .inl (q6.go z hz).1
   ·exact .inr (.inl hz)
  ·rcases ho with ho | ho
   ·rcases hz with hz | hz
    ·exact (q6.go z hz).2 ho
    ·exact hnG z hz (q6.ou _ ho)
   ·rcases hnew z ho with hh | hh
    ·rcases hz with hz | hz
     ·exact (q6.go z hz).2 hh.1
     ·exact hnG z hz (q6.ou _ hh.1)
    ·rcases hz with hz | hz
     ·have:=hlt _ (q6.go z hz).1;omega
     ·have:=(hGl z hz).2;omega
  ·rcases hz with hz | hz
   ·exact .inl (q6.ou _ hz)
   ·exact .inr (.inr hz)
  ·rcases hz with hz | hz | hz
   ·have:=hlt _ hz;omega
   ·have:=(hGl z hz).2;omega
   ·have:=hal z hz;omega
 ·intro z hz
  rcases hz with hz | hz
  ·exact .inl hz
  ·rcases hnew z hz with hh | hh
   ·exact .inl hh.1
   ·exact .inr (by omega)
 ·intro z hz
  rcases hz with hz | hz | hz
  ·exact .inl hz
  ·exact .inr (.inl hz)
  ·rcases hnew z hz with hh | hh
   ·exact .inl (q6.ou _ hh.1)
   ·exact .inr (.inr (by omega))
 ·exact ((u9.mono fun z _ e=>by rw [e];exact q6.ob).trans (hu10.mono fun z _ e=>(q6.of_ z e).1)).trans (u11.mono fun z _ e=>by rw [e];exact q6.ob)
def RDown (L:TLoc) (O U:Nat→Prop) (r:Option (Key×TreeS)) (w:World) (v:Value) (w':World):Prop:=Upd O w w'∧match r with
 | some (k,t')=>v= .tuple #[keyV k,.bool true]∧RGrown L O U w w' t'
 | none=>v= .tuple #[keyV Key.zero,.bool false]
def RDownAt (wS:World) (c:Chip) (L:TLoc) (bs:List Nat) (f:Nat):Prop:=∀ (t:TreeS) (p:Place) (d:Nat) (w:World) (O U:Nat→Prop),f+d=14→1≤d→Ext wS w→(∀ x,O x→wS.heap.size≤x)→RTreeIn L O U w t→t.Ok c→0≤p.page→
 CallsR prog K.carrackref18_Tree_down #[.pointer (some ⟨L.b,0,none⟩),placeV p,.int .i64 d] w fun v w'=>RDown L O U (downS c bs f t p d) w v w'
theorem key_out2 {u:World} {B:Nat} {k k0:Key} {b:Bool} {R:Value→World→Prop} (g:KeyAt u B k0) (hR:∀ u',Upd (·=B) u u'→R (.tuple #[keyV k,.bool b]) u') :
  storeP u ⟨B,0,none⟩ (Key.vals k) fun w6=>∃ x4 x5:Int,∃ s:ByteArray,∃ x6:Int,cellsAt w6 ⟨B,0,none⟩ [.int .i64 x4,.int .u8 x5,.string s,.int .i64 x6] 0∧R (.tuple #[.agg #[.int .i64 x4,.int .u8 x5,.string s,.int .i64 x6],.bool b]) w6 :=
 put_all g rfl fun w' hu hs g'=>⟨_,_,_,_,key_cells g',hR _ hu⟩
theorem rdown_step {F:Nat→Prop} {A:Nat} {wS:World} {c:Chip} {L:TLoc} {bs:List Nat} (h:CIn F A wS L.p c) (hd0:c.dead=false) (hbs:L.bs=bs.map Int.ofNat) (hrow:RowAt wS L.ab (L.bs.map (Value.int .i64))) (hnb:bs.length<1000) {f:Nat} (ih:∀ f',f=f'+1→RDownAt wS c L bs f'):RDownAt wS c L bs f:=by
 intro t p d w O U hfd hd1 heS hO hT hok hp0
 apply carrackref18_Tree_down.sh
 suffices H:∀ R:Value→World→Prop,(∀ v w',RDown L O U (downS c bs f t p d) w v w'→R v w')→carrackref18_Tree_down.body (some ⟨L.b,0,none⟩) p.block p.page d w R from H _ fun _ _ h=>h
 intro R hR
 unfold carrackref18_Tree_down.body
 simp only [nilC_some',add_lit,Nat.zero_add]
 intro B1 w₁ hn1 B2 w₂ hn2
 have hB1:=hn1.num
 have hs1:=hn1.size
 have hB2:=hn2.num
 have hs2:=hn2.size
 have e2:=hn1.upd.trans hn2.upd
 have gP:w₂.heap[B1]?=some (.cells p.vals.toArray T.api_Place (0,0)):=Ext.get hn2.upd hn1.get
 have gK:KeyAt w₂ B2 Key.zero:=hn2.get
 have hT2:=hT.ext e2
 have hlt:=hT.lt
 have hou:=hT.ou
 obtain ⟨ap,cp,af,cf,G,q1,q2,q3,q6⟩:=hT2
 obtain ⟨hpl,hfl⟩:=hok.small h.ok
 have fail:∀ {u:World},Upd O w u→KeyAt u B2 Key.zero→downS c bs f t p d=none→storeP u ⟨B2,0,none⟩ (Key.vals Key.zero) fun w6=>∃ x4 x5:Int,∃ s:ByteArray,∃ x6:Int,cellsAt w6 ⟨B2,0,none⟩ [.int .i64 x4,.int .u8 x5,.string s,.int .i64 x6] 0∧R (.tuple #[.agg #[.int .i64 x4,.int .u8 x5,.string s,.int .i64 x6],.bool false]) w6:=fun hu hk hd=>key_out2 hk fun u' hu'=>hR _ _ ⟨hu.over hu' fun z hz=>.inr (by omega),by rw [hd]⟩
 refine ⟨fun u=>Ext w₂ u∧¬ (12<d∨p.page≤0∨p.block ∉ bs.map Int.ofNat∨p∈t.pages),?_,?_⟩
 ·have no:∀ {u:World},Ext w₂ u→(12<d∨p.page≤0∨p.block ∉ bs.map Int.ofNat∨p∈t.pages)→_:=fun {u} hu hc=>fail (u:=u) (Upd.ext (e2.trans hu)) (Ext.get hu gK) (downS_no hc)
  refine br_dec (fun h12=>no (Upd.refl _ _) (.inl (by omega))) fun h12=>⟨_,cell_of gP rfl,br_eq (fun h0=>no (Upd.refl _ _) (.inr (.inl (by omega)))) fun h0=>⟨_,cell_of gP rfl,(has_spec (l:=L.bs) q1 (hrow.ext (heS.trans e2)) (by rw [hbs,List.length_map];omega) p.block).mono ?_⟩⟩
  rintro _ _ ⟨rfl,rfl⟩
  refine ⟨_,rfl,br_intro (fun hb=>no (Upd.refl _ _) (.inr (.inr (.inl ?_)))) fun hb=>⟨_,_,cells_all gP,(met_spec q1 q2.row (by omega) p).mono ?_⟩⟩
  ·rw [← hbs];simpa using hb
  rintro _ w₇ ⟨he7,rfl⟩
  refine ⟨_,rfl,br_dec (fun hm=>no he7 (.inr (.inr (.inr hm)))) fun hm=>⟨he7,?_⟩⟩
  have hin:p.block∈L.bs:=by simpa using hb
  rw [hbs] at hin
  rintro (h | h | h | h)
  ·omega
  ·omega
  ·exact h hin
  ·exact hm h
 rintro w₉ ⟨he9,hno⟩ w₁₀ hd10
 have hnin:p ∉ t.pages:=fun h=>hno (.inr (.inr (.inr h)))
 have hd12:d≤12:=Nat.le_of_not_lt fun h=>hno (.inl h)
 obtain ⟨f',rfl⟩: ∃ f',f=f'+1:=⟨f - 1,by omega⟩
 have ih:=ih f' rfl
 have he10:=he9.trans hd10.upd
 have e10:=e2.trans he10
 have hs10:=he10.size
 have hbU:=q6.ou _ q6.ob
 have hbl:=hlt _ hbU
 have hB1U:¬ U B1:=fun hu=>by have:=hlt _ hu;omega
 have hB2U:¬ U B2:=fun hu=>by have:=hlt _ hu;omega
 have nap:∀ {z},¬ U z→ap≠some ⟨z,0,none⟩:=fun hz e=>hz (q6.ou _ (q6.op _ e).1)
 have nb:∀ {z},¬ U z→z≠L.b:=fun hz e=>hz (e ▸ hbU)
 have kP:=Ext.get he10 gP
 have kK:=Ext.get he10 gK
 have k1:=Ext.get he10 q1
 refine ⟨fun u=>Upd (fun b=>ap=some ⟨b,0,none⟩) w₁₀ u,Upd.refl _ _,_,_,_,fun u hu=>cell_of (hu.get k1 fun e=>(q6.op _ e).2 rfl) rfl,_,_,fun u hu=>cells_all (hu.get kP (nap hB1U)),fun B3 w₁₃ hn13=>⟨Upd.ext hn13.upd,?_⟩⟩
 have hs13:=hn13.size
 refine append_flat (f:=Place.vals) (fun _=>rfl) ((q2.ext he10).ext hn13.upd) (x:=p) rfl hn13 rfl (fun v hv=>by simp at hv;rcases hv with h | h<;>(rw [h];rfl)) rfl (by omega) (by omega) fun a' c' w₁₄ hu14 ho14 hf14=>⟨(Upd.ext hn13.upd).trans hu14,?_⟩
 have hs14:=hu14.size
 have k114:=hu14.get (Ext.get hn13.upd k1) fun e=>(q6.op _ e).2 rfl
 refine store_of k114 (by simp) fun w₁₅ hput15 w₁₆ hd16=>?_
 have k115:w₁₅.heap[L.b]?=some (.cells (L.rcells a' (t.pages ++ [p]).length c' af t.facts.length cf t.depth).toArray T.carrackref18_Tree (0,0)):=by rw [hput15.get];rfl
 have hu15:=hput15.upd1
 have hs15:=hput15.size
 obtain ⟨O1,U1,hT15,hO1,hU1,hO1',hU1',k15⟩:=rtree_page (w:=w₁₀) (p:=p) (q3.ext he10) (q6.size (by omega)) hn13.upd hu14 ho14 hf14 hu15 k115
 have he16:=hd16.upd
 have hs16:=he16.size
 have hT16:=hT15.ext he16
 have k16:Upd O w w₁₆:=((Upd.ext e10).trans k15).then he16
 have fr:∀ {z:Nat} {o:Obj},¬ U z→w₁₀.heap[z]?=some o→w₁₆.heap[z]?=some o:=fun hz hg=>Ext.get he16 (hu15.get (hu14.get (Ext.get hn13.upd hg) (nap hz)) (nb hz))
 have rP:=fr hB1U kP
 have rK:KeyAt w₁₆ B2 Key.zero:=fr hB2U kK
 have r1:=Ext.get he16 k115
 have hSw:=heS.size
 have eS16:Ext wS w₁₆:=heS.beyond k16 fun z hz=>hO z hz
 have old:∀ {z:Nat},z<w₁₃.heap.size→¬ U z→¬ U1 z:=fun hz hn hu=>by
  rcases hU1' _ hu with hh | hh
  ·exact hn hh
  ·omega
 have hB2':¬ U1 B2:=old (by omega) hB2U
 have hO1S:∀ z,O1 z→wS.heap.size≤z:=fun z hz=>by
  rcases hO1' z hz with hh | hh
  ·exact hO z hh
  ·omega
 have hou1:=hT16.ou
 have hlt1:=hT16.lt
 have hstep:=downS_succ c bs f' t p d
 rw [if_neg hno] at hstep
 have fail1:∀ {u:World},Upd O1 w₁₆ u→downS c bs (f'+1) t p d=none→storeP u ⟨B2,0,none⟩ (Key.vals Key.zero) fun w6=>∃ x4 x5:Int,∃ s:ByteArray,∃ x6:Int,cellsAt w6 ⟨B2,0,none⟩ [.int .i64 x4,.int .u8 x5,.string s,.int .i64 x6] 0∧R (.tuple #[.agg #[.int .i64 x4,.int .u8 x5,.string s,.int .i64 x6],.bool false]) w6:=fun hu hd=>fail (k16.over hu fun z hz=>(hO1' z hz).imp id fun hh=>by omega) (hu.get rK fun ho=>hB2' (hou1 _ ho)) hd
 refine ⟨fun u=>Ext w₁₆ u,Upd.refl _ _,_,fun u hu=>cell_of (Ext.get hu r1) rfl,_,fun u hu=>cell_of (Ext.get hu rP) rfl,_,fun u hu=>cell_of (Ext.get hu rP) rfl,(cReadAt (h.ext eS16) p.block p.page).mono ?_⟩
 rintro _ w₁₇ ⟨he17,hv17⟩
 by_cases hask:c.ask p.block p.page≠0
 ·rw [if_neg hask] at hv17
  obtain rfl:=hv17
  rw [if_pos hask] at hstep
  exact ⟨_,_,_,_,rfl,br_ne (fun _=>fail1 (Upd.ext he17) hstep) fun h=>absurd h (by omega)⟩
 have hask0:c.ask p.block p.page=0:=by omega
 rw [if_pos hask0] at hv17
 rw [if_neg hask] at hstep
 obtain ⟨a4,c4,rfl,hb4,hc4,hf4⟩:=hv17
 obtain ⟨_,z1,z2,z3,z4⟩:=ask_none0 hask0
 have hpg:=page_len h.ok (i:=p.block.toNat) (k:=p.page.toNat) (by omega) (by omega)
 rw [← hpg] at hc4 ⊢
 have hsm:=page_small h.ok (i:=p.block.toNat) (k:=p.page.toNat) (by omega) (by omega)
 refine ⟨_,_,_,_,rfl,br_ne (fun h=>absurd rfl h) fun _=>(carrackref02_Get_spec hb4 hc4).mono ?_⟩
 rintro _ w₁₉ ⟨he19,a5,c5,rfl,hb5,hc5⟩
 have e19:=he17.trans he19
 generalize getPage (c.page p.block.toNat p.page.toNat)=g at *
 refine ⟨_,_,_,_,_,rfl,br_ne (fun hz=>fail1 (Upd.ext e19) (by rw [hstep,if_pos (by omega)])) fun hz=>?_⟩
 rw [if_neg (by omega)] at hstep
 have hs19:=e19.size
 have hT19:=hT16.ext e19
 have hok1:=hok.add hnin hask0
 have out:∀ {u:World} {O' U':Nat→Prop} {t':TreeS} {k:Key},RTreeIn L O' U' u t'→(∀ z,O' z→O1 z∨w₁₆.heap.size≤z)→(∀ z,U' z→U1 z∨w₁₆.heap.size≤z)→Upd O1 w₁₆ u→downS c bs (f'+1) t p d=some (k,t')→
   storeP u ⟨B2,0,none⟩ (Key.vals k) fun w25=>∃ x17 x18:Int,∃ s2:ByteArray,∃ x19:Int,cellsAt w25 ⟨B2,0,none⟩ [.int .i64 x17,.int .u8 x18,.string s2,.int .i64 x19] 0∧R (.tuple #[.agg #[.int .i64 x17,.int .u8 x18,.string s2,.int .i64 x19],.bool true]) w25:=by
  intro u O' U' t' k hT' hO' hU' hu hd
  have hsu:=hu.size
  have gK':KeyAt u B2 Key.zero:=hu.get rK fun ho=>hB2' (hou1 _ ho)
  refine key_out2 gK' fun w25 hu25=>hR _ _ ⟨(k16.over hu fun z hz=>(hO1' z hz).imp id fun hh=>by omega).over hu25 fun z hz=>.inr (by omega),?_⟩
  rw [hd]
  refine ⟨rfl,O',U',?_,?_,?_⟩
  ·refine hT'.upd hu25 fun z hz hu'=>?_
   subst hz
   rcases hU' _ hu' with hh | hh
   ·exact hB2' hh
   ·omega
  ·intro z hz
   rcases hO' z hz with hh | hh
   ·exact (hO1' z hh).imp id fun hh=>by omega
   ·exact .inr (by omega)
  ·intro z hz
   rcases hU' z hz with hh | hh
   ·exact (hU1' z hh).imp id fun hh=>by omega
   ·exact .inr (by omega)
 refine br_eq (fun h4=>?_) fun h4=>?_
 ·have h4':g.1=4:=(u8i _ 4 (by omega)).1 h4
  rw [if_pos h4'] at hstep
  refine (carrackref15_GetLeaf_spec (c:=c5) hb5 hc5 (by omega)).mono ?_
  rintro _ w₂₀ ⟨a6,c6,Gl,rfl,hl6,hGl,hc6,he20⟩
  have hs20:=he20.size
  have e20:=e19.trans he20
  have hT20:=hT19.ext he20
  obtain ⟨gl1,gl2⟩:=getLeaf_ok g.2.1
  refine ⟨_,_,_,_,rfl,fun u=>Ext w₂₀ u∧∃ x r,(getLeaf g.2.1).1=x :: r∧leafT { t with pages:=t.pages ++ [p] } (getLeaf g.2.1) d=some (x.key,{ t with pages:=t.pages ++ [p],facts:=t.facts ++ (getLeaf g.2.1).1,depth:=d }),fun w₂₁ hd21=>?_,?_⟩
  ·have he21:=hd21.upd
   have e21:=e20.trans he21
   have hT21:=hT20.ext he21
   have hT21':=hT21
   obtain ⟨ap2,cp2,af2,cf2,G2,z1,z2,z3,z6⟩:=hT21'
   refine ⟨fun u=>Ext w₂₁ u,Upd.refl _ _,br_ne (fun hne=>⟨Upd.refl _ _,fail1 (Upd.ext e21) (by rw [hstep];exact leafT_none1 (by omega))⟩) fun hl0=>?_⟩
   have hz0:(getLeaf g.2.1).2=0:=by omega
   obtain ⟨x,r,hx⟩: ∃ x r,(getLeaf g.2.1).1=x :: r:=by
    have hne:=listS_some (key:=Fact.key) (one:=leafS) (b:=g.2.1) hz0
    cases hl:(getLeaf g.2.1).1 with
    | nil=>exact absurd hl hne
    | cons x r=>exact ⟨x,r,rfl⟩
   have hsl:=hl6.ext he21
   rw [hx] at hsl
   have hlast:=fun hdep=>leafT_last (t:={ t with pages:=t.pages ++ [p] }) (d:=d) hz0 hdep hx
   have rest:(t.depth=0∨t.depth=d)→∃ (a6':Option Addr) (l6 c6':Nat),(∀ u8,Ext w₂₁ u8→World.cell? u8 ⟨L.b,3,none⟩= some (.slice a6' l6 c6'))∧
     br (decide ((l6:Int) > 0)) (∃ (a7:Option Addr) (l7 c7:Nat),(∀ u9,Ext w₂₁ u9→World.cell? u9 ⟨L.b,3,none⟩= some (.slice a7 l7 c7))∧∃ (a8:Option Addr) (l8 c8:Nat),(∀ u10,Ext w₂₁ u10→World.cell? u10 ⟨L.b,3,none⟩= some (.slice a8 l8 c8))∧
      idxP a7 l7 (IntKind.i64.wrap ((l8:Int) - 1)) 5 fun q9=>∃ x39 x40:Int,∃ s9:ByteArray,∃ x41:Int,(∀ u11,Ext w₂₁ u11→cellsAt u11 q9 [.int .i64 x39,.int .u8 x40,.string s9,.int .i64 x41] 0)∧
      idxP a6 (getLeaf g.2.1).1.length (0:Int) 5 fun q10=>∃ x42 x43:Int,∃ s10:ByteArray,∃ x44:Int,(∀ u12,Ext w₂₁ u12→cellsAt u12 q10 [.int .i64 x42,.int .u8 x43,.string s10,.int .i64 x44] 0)∧
      CallsR prog K.carrackref06_Before #[.agg #[.int .i64 x39,.int .u8 x40,.string s9,.int .i64 x41],.agg #[.int .i64 x42,.int .u8 x43,.string s10,.int .i64 x44]] w₂₁ fun v6 w23=>∃ b3:Bool,v6= .bool b3∧Ext w₂₁ w23∧
      br (!b3) (storeP w23 ⟨B2,0,none⟩ [.int .i64 0,.int .u8 0,.string (⟨#[]⟩: ByteArray),.int .i64 0] fun w24=>∃ x45 x46:Int,∃ s11:ByteArray,∃ x47:Int,cellsAt w24 ⟨B2,0,none⟩ [.int .i64 x45,.int .u8 x46,.string s11,.int .i64 x47] 0∧R (.tuple #[.agg #[.int .i64 x45,.int .u8 x46,.string s11,.int .i64 x47],.bool false]) w24)
       (Ext w₂₀ w23∧∃ x r,(getLeaf g.2.1).1=x :: r∧leafT { t with pages:=t.pages ++ [p] } (getLeaf g.2.1) d=some (x.key,{ t with pages:=t.pages ++ [p],facts:=t.facts ++ (getLeaf g.2.1).1,depth:=d })))
      (Ext w₂₁ w₂₁∧(Ext w₂₀ w₂₁∧∃ x r,(getLeaf g.2.1).1=x :: r∧leafT { t with pages:=t.pages ++ [p] } (getLeaf g.2.1) d=some (x.key,{ t with pages:=t.pages ++ [p],facts:=t.facts ++ (getLeaf g.2.1).1,depth:=d }))):=by
    intro hdep
    have hlast:=hlast hdep
    refine ⟨_,_,_,fun u hu=>cell_of (Ext.get hu z1) rfl,br_dec (fun hpos=>⟨_,_,_,fun u hu=>cell_of (Ext.get hu z1) rfl,_,_,_,fun u hu=>cell_of (Ext.get hu z1) rfl,?_⟩) fun hz=>⟨Upd.refl _ _,he21,x,r,hx,?_⟩⟩
    ·obtain ⟨j,hj⟩: ∃ j,t.facts.length=j+1:=⟨t.facts.length - 1,by have:(t.facts.length:Int) > 0:=hpos;omega⟩
     have hla:=lastAhead_at (k:=x.key) hj.symm
     have ew2:IntKind.i64.wrap ((t.facts.length:Int) - 1)=((j:Nat):Int):=w64 (by omega) (by omega) |>.trans (by omega)
     change idxP af2 t.facts.length (IntKind.i64.wrap ((t.facts.length:Int) - 1)) 5 _
     rw [ew2]
     have hfs:SliceAt factR w₂₁ (fun z=>G2 z∨O1 z) af2 t.facts:=OwnS.at_ (l:=t.facts) (z3.mono fun z hz=>.inl hz) fun p hp=>by
      obtain ⟨z,hz,_,rfl⟩:=z3.blk hp
      exact .inr (z6.of_ _ hz).1
     refine SliceAt.idx (r:=factR) hfs rfl (by omega) fun b' o vs ha hrow' hR' hG'=>?_
     obtain ⟨av,cv,rfl,hcv,hbv,hgv⟩:=factR_elim hR'
     refine ⟨_,_,_,_,fun u hu=>(RowAt.take (RowAt.ext hrow' hu) 4).cells,first_fact hsl (by rw [hx]) fun q hq=>⟨_,_,_,_,hq,(carrackref06_Before_spec _ _ (Nat.lt_trans (hok.facts _ (List.getElem_mem _)).1 (by decide)) (Nat.lt_trans (gl1 x (by rw [hx];exact List.mem_cons_self ..)).1 (by decide)) _).mono ?_⟩⟩
     rintro _ w₂₃ ⟨rfl,he23⟩
     rw [← hla]
     refine ⟨_,rfl,he23,br_intro (fun hn=>fail1 (Upd.ext (e21.trans he23)) ?_) fun hy=>⟨he21.trans he23,x,r,hx,?_⟩⟩
     ·rw [hstep,hlast,if_pos (by simpa using hn)]
     ·rw [hlast,if_neg (by simpa using hy),hx]
    ·have:t.facts=[]:=List.eq_nil_of_length_eq_zero (by have:¬ (t.facts.length:Int) > 0:=hz;omega)
     rw [hlast,if_neg (by show ¬ lastAhead t.facts x.key=false;rw [this,lastAhead_nil];decide),hx]
   refine ⟨_,fun u hu=>cell_of (Ext.get hu z1) rfl,br_ne (fun hd0'=>⟨_,fun u hu=>cell_of (Ext.get hu z1) rfl,br_ne (fun hdd=>⟨Upd.refl _ _,fail1 (Upd.ext e21) ?_⟩) fun hdd=>rest (.inr ?_)⟩) fun hd0'=>rest (.inl ?_)⟩
   ·rw [hstep]
    exact leafT_none2 (t:={ t with pages:=t.pages ++ [p] }) (by have:((t.depth:Nat):Int)≠0:=hd0';show t.depth≠0;omega) (by have:((t.depth:Nat):Int)≠d:=hdd;show t.depth≠d;omega)
   ·have:((t.depth:Nat):Int)=d:=hdd;omega
   ·have:((t.depth:Nat):Int)=0:=hd0';omega
  ·rintro w₂₇ ⟨he27,x,r,hx,hleaf⟩
   have e27:=e20.trans he27
   have hs27:=he27.size
   have hT27:=hT20.ext he27
   have hsl27:=hl6.ext he27
   have hGlU:∀ z,Gl z→¬ U1 z∧z<w₂₇.heap.size:=fun z hz=>⟨fun hu=>by have:=hGl z hz;have:=hlt1 _ hu;omega,by have:=hGl z hz;omega⟩
   refine rtree_facts (d:=d) hT27 hsl27 hGlU rfl (by show t.facts.length + _≤_;omega) fun w₃₀ O' U' hT' hO' hU' hu30=>?_
   have hsl30:=hsl27.upd hu30 fun z hz ho=>(hGlU z hz).1 (hou1 _ ho)
   rw [hx] at hsl30
   refine first_fact hsl30 (by rw [hx]) fun q hq=>⟨_,_,_,_,hq _ (Upd.refl _ _),out hT' (fun z hz=>(hO' z hz).imp id fun hh=>by omega) (fun z hz=>?_) ((Upd.ext e27).trans hu30) (by rw [hstep];exact hleaf)⟩
   rcases hU' z hz with hh | hh | hh
   ·exact .inl hh
   ·exact .inr (by have:=hGl z hh;omega)
   ·exact .inr (by omega)
 rw [if_neg (fun e=>h4 (by rw [e];rfl))] at hstep
 refine br_ne (fun hne=>fail1 (Upd.ext e19) (by rw [hstep,if_neg (fun e=>hne (by rw [e];rfl))])) fun h5=>?_
 have h5':g.1=5:=(u8i _ 5 (by omega)).1 h5
 rw [if_pos h5'] at hstep
 refine (carrackref15_GetInner_spec (c:=c5) hb5 hc5 (by omega)).mono ?_
 rintro _ w₂₆ ⟨a6,c6,Gc,rfl,hl6,hGc,hc6,he26⟩
 have hs26:=he26.size
 obtain ⟨gi1,gi2⟩:=getInner_ok g.2.1
 have e26:=e19.trans he26
 refine ⟨_,_,_,_,rfl,br_ne (fun hne=>fail1 (Upd.ext e26) (by rw [hstep,if_pos (by omega)])) fun hz2'=>?_⟩
 have hz2:(getInner g.2.1).2=0:=by omega
 rw [if_neg (by omega)] at hstep
 have hne:=listS_some (key:=Child.key) (one:=innerS) (b:=g.2.1) hz2
 have hT26:=hT19.ext he26
 obtain ⟨x0,r0,hl0⟩: ∃ x r,(getInner g.2.1).1=x :: r:=by
  cases hl:(getInner g.2.1).1 with
  | nil=>exact absurd hl hne
  | cons x r=>exact ⟨x,r,rfl⟩
 have hmatch:downS c bs (f'+1) t p d=(match kidsS (fun t p=>downS c bs f' t p (d+1)) (getInner g.2.1).1 { t with pages:=t.pages ++ [p] } with
   | some t'=>some (x0.key,t')
   | none=>none):=by rw [hstep,hl0]<;>rfl
 have hkey0:(getInner g.2.1).1=x0 :: r0:=hl0
 clear hstep hl0
 generalize (getInner g.2.1).1=l at *
 have hsI:=e26.size
 refine ⟨fun x u=>∃ (i:Nat) (ti:TreeS) (Oi Ui:Nat→Prop),x=i∧i≤l.length∧kidsS (fun t p=>downS c bs f' t p (d+1)) (l.take i) { t with pages:=t.pages ++ [p] }=some ti∧RTreeIn L Oi Ui u ti∧ti.Ok c∧(∀ z,Oi z→O1 z∨w₂₆.heap.size≤z)∧(∀ z,Ui z→U1 z∨w₂₆.heap.size≤z)∧Upd O1 w₂₆ u,
  fun x _=>((l.length:Int) - x).toNat,⟨0,_,O1,U1,rfl,by omega,rfl,hT26,hok1,fun z hz=>.inl hz,fun z hz=>.inl hz,Upd.refl _ _⟩,?_⟩
 rintro x u ⟨i,ti,Oi,Ui,rfl,hi,hki,hTi,hoki,hOi,hUi,hu⟩
 have hsu:=hu.size
 have hGcO:∀ z,Gc z→¬ O1 z:=fun z hz ho=>by have:=hGc z hz;have:=hlt1 _ (hou1 _ ho);omega
 have hlu:SliceAt childR u Gc a6 l:=hl6.upd hu fun z hz ho=>hGcO z hz ho
 have k26:Upd O1 w₁₆ u:=(Upd.ext e26).trans hu
 refine br_dec (fun hlt' u36 hd36=>?_) fun hge=>?_
 ·have hi':i<l.length:=by omega
  have ew:IntKind.i64.wrap ((i:Int)+1)=((i+1:Nat):Int):=w64 (by omega) (by omega)
  have ewd:IntKind.i64.wrap ((d:Int)+1)=((d+1:Nat):Int):=w64 (by omega) (by omega)
  simp only [ew,ewd]
  have he36:=hd36.upd
  have hs36:=he36.size
  have hlu36:=hlu.ext he36
  have houi:=hTi.ou
  have hlti:=hTi.lt
  have hGcOi:∀ z,Gc z→¬ Oi z:=fun z hz ho=>by
   rcases hOi z ho with hh | hh
   ·exact hGcO z hz hh
   ·have:=hGc z hz;omega
  refine ⟨fun u'=>Upd Oi u36 u',Upd.refl _ _,?_⟩
  refine SliceAt.idx (r:=childR) hlu36 rfl hi' fun b' o vs ha hrow' hR' hG'=>?_
  obtain rfl:vs=childVs l[i]:=hR'
  have hrowS:∀ {u':World},Upd Oi u36 u'→RowAt u' (some ⟨b',o+i * childR.k,none⟩) (childVs l[i]):=fun hu'=>RowAt.upd hrow' hu' fun q hq=>by cases hq;exact hGcOi _ hG'
  simp only [add_lit,Nat.zero_add]
  refine ⟨_,fun u' hu'=>row_cell (hrowS hu') (j:=4) rfl,?_⟩
  refine SliceAt.idx (r:=childR) hlu36 rfl hi' fun b'' o'' vs'' ha'' hrow'' hR'' hG''=>?_
  have hbe:b''=b'∧o''=o:=by rw [ha] at ha'';cases ha'';exact ⟨rfl,rfl⟩
  obtain ⟨rfl,rfl⟩:=hbe
  simp only [add_lit,Nat.zero_add]
  refine ⟨_,fun u' hu'=>row_cell (hrowS hu') (j:=5) rfl,?_⟩
  have hci:=gi1 _ (List.getElem_mem hi')
  have hks:=kidsS_take_succ (down:=fun t p=>downS c bs f' t p (d+1)) hi' hki
  have hOiS:∀ z,Oi z→wS.heap.size≤z:=fun z hz=>by
   rcases hOi z hz with hh | hh
   ·exact hO1S z hh
   ·omega
  have eS36:Ext wS u36:=((eS16.trans e26).beyond hu hO1S).trans he36
  have over1:∀ {u':World},Upd Oi u36 u'→Upd O1 w₁₆ u':=fun hu'=>(k26.then he36).over hu' fun z hz=>(hOi z hz).imp id fun hh=>by omega
  have dead:kidsS (fun t p=>downS c bs f' t p (d+1)) (l.take (i+1)) { t with pages:=t.pages ++ [p] }=none→downS c bs (f'+1) t p d=none:=fun hk=>by
   rw [hmatch,kidsS_drop i hki]
   have hdrop:l.drop i=l[i] :: l.drop (i+1):=List.drop_eq_getElem_cons hi'
   rw [hdrop]
   rw [hks] at hk
   unfold kidsS
   cases hdn:downS c bs f' ti ⟨l[i].block,l[i].page⟩ (d+1) with
   | none=>rfl
   | some y =>
    obtain ⟨k,t1⟩:=y
    rw [hdn] at hk
    simp only at hk ⊢
    split at hk
    ·cases hk
    ·rename_i hkk;rw [if_neg hkk]
  have call:=fun (u37:World) (h37:Ext u36 u37)=>ih ti ⟨l[i].block,l[i].page⟩ (d+1) u37 Oi Ui (by omega) (by omega) (eS36.trans h37) hOiS ((hTi.ext he36).ext h37) hoki (by show 0≤l[i].page;omega)
  have tail:∀ {u37 u38 u39:World} {v:Value} {Bk:Nat},Ext u36 u37→RDown L Oi Ui (downS c bs f' ti ⟨l[i].block,l[i].page⟩ (d+1)) u37 v u38→∀ (k:Key) (b:Bool),v= .tuple #[keyV k,.bool b]→Upd (·=Bk) u38 u39→KeyAt u39 Bk k→w₂₆.heap.size≤Bk→(∀ O' U' t',RTreeIn L O' U' u38 t'→(∀ z,U' z→Ui z∨u37.heap.size≤z)→¬ Ui Bk∧(Bk<u37.heap.size∨u38.heap.size≤Bk))→
    ∀ w40:World,Drew u39 w40→∃ S5:World→Prop,S5 w40∧br (!b) (storeP w40 ⟨B2,0,none⟩ [.int .i64 0,.int .u8 0,.string (⟨#[]⟩: ByteArray),.int .i64 0] fun w41=>∃ x76 x77:Int,∃ s20:ByteArray,∃ x78:Int,cellsAt w41 ⟨B2,0,none⟩ [.int .i64 x76,.int .u8 x77,.string s20,.int .i64 x78] 0∧R (.tuple #[.agg #[.int .i64 x76,.int .u8 x77,.string s20,.int .i64 x78],.bool false]) w41)
     (∃ x79 x80:Int,∃ s21:ByteArray,∃ x81:Int,(∀ u20,S5 u20→cellsAt u20 ⟨Bk,0,none⟩ [.int .i64 x79,.int .u8 x80,.string s21,.int .i64 x81] 0)∧
      idxP a6 l.length (i:Int) 6 fun q22=>∃ x82 x83:Int,∃ s22:ByteArray,∃ x84:Int,(∀ u21,S5 u21→cellsAt u21 q22 [.int .i64 x82,.int .u8 x83,.string s22,.int .i64 x84] 0)∧
      br (!((x79 == x82) && ((x80 == x83) && ((s21.toList == s22.toList) && ((x81 == x84) && true))))) (storeP w40 ⟨B2,0,none⟩ [.int .i64 0,.int .u8 0,.string (⟨#[]⟩: ByteArray),.int .i64 0] fun w42=>∃ x85 x86:Int,∃ s23:ByteArray,∃ x87:Int,cellsAt w42 ⟨B2,0,none⟩ [.int .i64 x85,.int .u8 x86,.string s23,.int .i64 x87] 0∧R (.tuple #[.agg #[.int .i64 x85,.int .u8 x86,.string s23,.int .i64 x87],.bool false]) w42)
       ((∃ (j:Nat) (ti:TreeS) (Oi Ui:Nat→Prop),((i+1:Nat):Int)=j∧j≤l.length∧kidsS (fun t p=>downS c bs f' t p (d+1)) (l.take j) { t with pages:=t.pages ++ [p] }=some ti∧RTreeIn L Oi Ui w40 ti∧ti.Ok c∧(∀ z,Oi z→O1 z∨w₂₆.heap.size≤z)∧(∀ z,Ui z→U1 z∨w₂₆.heap.size≤z)∧Upd O1 w₂₆ w40)∧((l.length:Int) - ((i+1:Nat):Int)).toNat<((l.length:Int) - (i:Int)).toNat)):=by
   intro u37 u38 u39 v Bk h37 hrd k b hv hu39 hk39 hBk hsepk w40 hd40
   obtain ⟨hu38,hres⟩:=hrd
   have hs37:=h37.size
   have hs38:=hu38.size
   have hs39:=hu39.size
   have he40:=hd40.upd
   have v38:Upd O1 w₂₆ u38:=((hu.then he36).then h37).over hu38 fun z hz=>(hOi z hz).imp id fun hh=>by omega
   have v40:Upd O1 w₂₆ w40:=(v38.over hu39 fun z hz=>.inr (by omega)).then he40
   have k40:=Ext.get he40 hk39
   refine ⟨fun u=>Ext w40 u,Upd.refl _ _,?_⟩
   have hl40:SliceAt childR w40 Gc a6 l:=hl6.upd v40 fun z hz ho=>hGcO z hz ho
   cases hdn:downS c bs f' ti ⟨l[i].block,l[i].page⟩ (d+1) with
   | none =>
    rw [hdn] at hres hks
    subst hv
    have hb:b=false:=by
     have:=hres
     simp only [Value.tuple.injEq,Array.mk.injEq,List.cons.injEq,Value.bool.injEq,and_true] at this
     exact this.2
    subst hb
    exact fail1 ((Upd.ext e26).trans v40) (dead hks)
   | some y =>
    obtain ⟨k',t'⟩:=y
    rw [hdn] at hres hks
    simp only at hres hks
    obtain ⟨hv',O',U',hT',hO',hU'⟩:=hres
    subst hv
    have hb:b=true:=by
     have:=hv'
     simp only [Value.tuple.injEq,Array.mk.injEq,List.cons.injEq,Value.bool.injEq,and_true] at this
     exact this.2
    have hkk:k=k':=by
     have:=hv'
     simp only [Value.tuple.injEq,Array.mk.injEq,List.cons.injEq,Value.agg.injEq,Value.int.injEq,Value.string.injEq,and_true,true_and] at this
     obtain ⟨⟨i1,i2,i3,i4⟩,_⟩:=this
     cases k;cases k'
     simp only at i1 i2 i3 i4
     have i2':=UInt8.toNat_inj.1 (Int.ofNat.inj i2)
     subst i1;subst i2';subst i3;subst i4;rfl
    subst hb;subst hkk
    simp only [Bool.not_true,br_false]
    refine ⟨_,_,_,_,fun u hu=>key_cells (Ext.get hu k40),SliceAt.idx (r:=childR) hl40 rfl hi' fun b3 o3 vs3 ha3 hrow3 hR3 hG3=>?_⟩
    obtain rfl:vs3=childVs l[i]:=hR3
    refine ⟨_,_,_,_,fun u hu=>(RowAt.take (RowAt.ext hrow3 hu) 4).cells,?_⟩
    rw [key_beq]
    refine br_intro (fun hn=>?_) fun hy=>?_
    ·have hne:¬ k=l[i].key:=by simpa using hn
     rw [if_neg hne] at hks
     exact fail1 ((Upd.ext e26).trans v40) (dead hks)
    ·have heq:k=l[i].key:=by simpa using hy
     rw [if_pos heq] at hks
     refine ⟨⟨i+1,t',O',U',rfl,hi',hks,?_,downS_ok c bs f' ti _ (d+1) k t' hoki hdn,fun z hz=>?_,fun z hz=>?_,v40⟩,meas hi'⟩
     ·refine (hT'.upd hu39 fun z hz hu'=>?_).ext he40
      subst hz
      obtain ⟨n1,n2⟩:=hsepk O' U' t' hT' hU'
      rcases hU' _ hu' with hh | hh
      ·exact n1 hh
      ·rcases n2 with n2 | n2
       ·omega
       ·have:=hT'.lt _ hu';omega
     ·rcases hO' z hz with hh | hh
      ·exact hOi z hh
      ·exact .inr (by omega)
     ·rcases hU' z hz with hh | hh
      ·exact hUi z hh
      ·exact .inr (by omega)
  have shape:∀ {u37 u38:World} {v:Value},RDown L Oi Ui (downS c bs f' ti ⟨l[i].block,l[i].page⟩ (d+1)) u37 v u38→∃ k b,v= .tuple #[keyV k,.bool b]:=fun hrd=>by
   obtain ⟨_,hres⟩:=hrd
   cases hdn:downS c bs f' ti ⟨l[i].block,l[i].page⟩ (d+1) with
   | none=>rw [hdn] at hres;exact ⟨_,_,hres⟩
   | some y=>obtain ⟨k,t'⟩:=y;rw [hdn] at hres;exact ⟨_,_,hres.1⟩
  refine ⟨(call u36 (Upd.refl _ _)).mono ?_,fun B5 w₄₃ hn43=>⟨Upd.ext hn43.upd,(call w₄₃ hn43.upd).mono ?_⟩⟩
  ·intro v w₃₇ hrd
   obtain ⟨k,b,rfl⟩:=shape hrd
   have hu37:=hrd.1
   have hs37:=hu37.size
   refine ⟨_,_,_,_,_,rfl,hu37,fun B4 w₃₈ hn38=>⟨hu37.then hn38.upd,?_⟩⟩
   have hB4:=hn38.num
   have hs38:=hn38.size
   refine put_all (vs:=Key.vals k) hn38.get rfl fun w₃₉ hu39 hs39 g39=>?_
   exact tail (u38:=w₃₇) (Bk:=B4) (Upd.refl _ _) hrd k b rfl ((Upd.ext hn38.upd).trans hu39) g39 (by omega) fun O' U' t' hT' hU'=>⟨fun hh=>by have:=hlti _ hh;omega,.inr (by omega)⟩
  ·intro v w₄₄ hrd
   obtain ⟨k,b,rfl⟩:=shape hrd
   have hu44:=hrd.1
   have hB5:=hn43.num
   have hs43:=hn43.size
   have hs44:=hu44.size
   have hB5O:¬ Oi B5:=fun hh=>by have:=hlti _ (houi _ hh);omega
   refine ⟨_,_,_,_,_,rfl,(Upd.ext hn43.upd).trans hu44,put_all (vs:=Key.vals k) (hu44.get hn43.get hB5O) rfl fun w₄₅ hu45 hs45 g45=>?_⟩
   exact tail (u37:=w₄₃) (u38:=w₄₄) (Bk:=B5) hn43.upd hrd k b rfl hu45 g45 (by omega) fun O' U' t' hT' hU'=>⟨fun hh=>by have:=hlti _ hh;omega,.inl (by omega)⟩
 ·have hii:i=l.length:=by omega
  subst hii
  rw [List.take_length] at hki
  subst hkey0
  refine first_child hlu rfl fun q hq=>⟨_,_,_,_,hq,out hTi (fun z hz=>(hOi z hz).imp id fun hh=>by omega) (fun z hz=>(hUi z hz).imp id fun hh=>by omega) k26 ?_⟩
  rw [hmatch,hki]
theorem rdown_spec {F:Nat→Prop} {A:Nat} {wS:World} {c:Chip} {L:TLoc} {bs:List Nat} (h:CIn F A wS L.p c) (hd0:c.dead=false) (hbs:L.bs=bs.map Int.ofNat) (hrow:RowAt wS L.ab (L.bs.map (Value.int .i64))) (hnb:bs.length<1000):∀ f,RDownAt wS c L bs f
 | 0=>rdown_step h hd0 hbs hrow hnb fun f' e=>by cases e
 | f+1=>rdown_step h hd0 hbs hrow hnb fun f' e=>by cases e;exact rdown_spec h hd0 hbs hrow hnb f
theorem carrackref18_walked_spec {F:Nat→Prop} {A:Nat} {w:World} {p:Nat} {c:Chip} (h:CIn F A w p c) (hd0:c.dead=false) (era:Nat) :
  CallsR prog K.carrackref18_walked #[.pointer (some ⟨p,0,none⟩),.int .u32 era] w fun v w'=>Ext w w'∧match walkedR c era with
   |(some t,_)=>∃ L O U,v= .tuple #[.pointer (some ⟨L.b,0,none⟩),.int .i64 0]∧RTreeIn L O U w' t∧∀ x,U x→w.heap.size≤x
   |(none,e)=>v= .tuple #[.pointer none,.int .i64 (e:Nat)]:=by
 apply carrackref18_walked.sh
 suffices H:∀ R:Value→World→Prop,(∀ v w',(Ext w w'∧match walkedR c era with
   |(some t,_)=>∃ L O U,v= .tuple #[.pointer (some ⟨L.b,0,none⟩),.int .i64 0]∧RTreeIn L O U w' t∧∀ x,U x→w.heap.size≤x
   |(none,e)=>v= .tuple #[.pointer none,.int .i64 (e:Nat)])→R v w')→carrackref18_walked.body (some ⟨p,0,none⟩) era w R from H _ fun _ _ h=>h
 intro R hR
 unfold carrackref18_walked.body
 refine (carrackref18_Newest_spec h hd0 era).mono ?_
 rintro _ w₁ ⟨rfl,he1⟩
 unfold walkedR at hR
 refine ⟨_,_,_,_,_,_,_,rfl,new_put (vs:=Point.vals (accP (newestR c era).1)) rfl fun B1 w₃ hb1 hs3 he3 g3=>br_ne (fun hne=>?_) fun hz=>?_⟩
 ·rw [if_pos (by omega)] at hR
  exact hR _ _ ⟨he1.trans he3,rfl⟩
 rw [if_neg (by omega)] at hR
 obtain ⟨hask,x,hnx,hnr⟩:=newestR_zero (c:=c) (era:=era) (by omega)
 rw [hnr] at hR g3
 obtain ⟨hmay,_⟩:=newest_may hnx
 obtain ⟨⟨m1,m2,m3,m4,m5,m6,m7⟩,_⟩:=(Point.may_iff _).1 hmay
 have e3:=he1.trans he3
 refine (carrackref18_Blocks_spec (h.ext e3) hd0 era).mono ?_
 rintro _ w₄ ⟨a4,c4,rfl,hl4,he4⟩
 have e4:=e3.trans he4
 simp only [add_lit,Nat.zero_add]
 refine ⟨_,_,_,rfl,fun B2 w₅ hn5=>?_⟩
 have hB2:=hn5.num
 have hs5:=hn5.size
 have hs4:=e4.size
 have e5:=e4.trans hn5.upd
 have hblen:=treeBlocks_len h.ok hd0 era
 have hnb2:=h.ok.nb2
 have g5:w₅.heap[B1]?=some (.cells (Point.vals x.1).toArray T.api_Point (0,0)):=Ext.get hn5.upd (Ext.get he4 g3)
 have hT:RTreeIn ⟨B2,0,p,a4,c4,blocksI c era⟩ (fun z=>z=B2) (fun z=>z=B2) w₅ ⟨[],[],0⟩:=by
  refine ⟨none,0,none,0,NoB,hn5.get,OwnAt.nil _ _ _,OwnS.nil _ _ _,⟨rfl,fun z hz=>(by cases hz),fun z hz=>(by cases hz),fun z hz=>hz.elim,fun z hz=>hz,?_⟩⟩
  rintro z rfl
  omega
 change ∀ v w',(Ext w w'∧match (match walkS c (treeBlocks c era) x.1 with
   | some t=>(some t,0)
   | none=>(none,16)) with
   |(some t,_)=>∃ L O U,v= .tuple #[.pointer (some ⟨L.b,0,none⟩),.int .i64 0]∧RTreeIn L O U w' t∧∀ x,U x→w.heap.size≤x
   |(none,e)=>v= .tuple #[.pointer none,.int .i64 (e:Nat)])→R v w' at hR
 have hwalk:walkS c (treeBlocks c era) x.1=if x.1.count=0 then some ⟨[],[],0⟩ else (match downS c (treeBlocks c era) 13 ⟨[],[],0⟩ ⟨x.1.block,x.1.page⟩ 1 with
  | some (_,t)=>if (t.facts.length:Int)=x.1.count then some t else none
  | none=>none):=rfl
 refine ⟨_,cell_of g5 rfl,br_eq (fun h0=>?_) fun h0=>⟨_,cell_of g5 rfl,_,cell_of g5 rfl,?_⟩⟩
 ·rw [if_pos h0] at hwalk
  rw [hwalk] at hR
  exact hR _ _ ⟨e5,_,_,_,rfl,hT,fun z hz=>by have:z=B2:=hz;omega⟩
 rw [if_neg h0] at hwalk
 refine (rdown_spec (L:=⟨B2,0,p,a4,c4,blocksI c era⟩) (bs:=treeBlocks c era) (h.ext e4) hd0 rfl hl4.1.row (by omega) 13 ⟨[],[],0⟩ ⟨x.1.block,x.1.page⟩ 1 w₅ (fun z=>z=B2) (fun z=>z=B2) (by decide) (by decide) hn5.upd (by rintro z rfl;omega) hT (TreeS.Ok.nil c) (by show 0≤x.1.page;omega)).mono ?_
 rintro v w₆ ⟨hu6,hres⟩
 have hs6:=hu6.size
 have e6:Ext w w₆:=e5.beyond hu6 (by rintro z rfl;omega)
 have hs44:=he4.size
 have g6:=hu6.get g5 (by omega)
 cases hdn:downS c (treeBlocks c era) 13 ⟨[],[],0⟩ ⟨x.1.block,x.1.page⟩ 1 with
 | none =>
  rw [hdn] at hres hwalk
  rw [hwalk] at hR
  obtain rfl:=hres
  refine ⟨_,_,_,_,_,rfl,new_put (vs:=Key.vals Key.zero) rfl fun B3 w₈ hb8 hs8 he8 g8 w₉ hd9=>⟨fun u=>Ext w₉ u,Upd.refl _ _,?_⟩⟩
  exact hR _ _ ⟨(e6.trans he8).trans hd9.upd,rfl⟩
 | some y =>
  obtain ⟨k,t⟩:=y
  rw [hdn] at hres hwalk
  obtain ⟨rfl,O',U',hT',hO',hU'⟩:=hres
  refine ⟨_,_,_,_,_,rfl,new_put (vs:=Key.vals k) rfl fun B3 w₈ hb8 hs8 he8 g8 w₉ hd9=>⟨fun u=>Ext w₉ u,Upd.refl _ _,?_⟩⟩
  have e89:=he8.trans hd9.upd
  have hT9:=hT'.ext e89
  have hT9':=hT9
  obtain ⟨ap,cp,af,cf,G,q1,_⟩:=hT9'
  refine ⟨_,_,_,fun u hu=>cell_of (Ext.get hu q1) rfl,_,fun u hu=>cell_of (Ext.get (e89.trans hu) g6) rfl,br_ne (fun hne=>?_) fun heq=>?_⟩
  ·rw [show walkS c (treeBlocks c era) x.1=none by rw [hwalk];exact if_neg hne] at hR
   exact hR _ _ ⟨e6.trans e89,rfl⟩
  ·rw [show walkS c (treeBlocks c era) x.1=some t by rw [hwalk];exact if_pos heq] at hR
   refine hR _ _ ⟨e6.trans e89,_,O',U',rfl,hT9,fun z hz=>?_⟩
   rcases hU' z hz with hh | hh
   ·have:z=B2:=hh;omega
   ·omega
theorem RTreeIn.facts {L:TLoc} {O U:Nat→Prop} {w:World} {t:TreeS} (h:RTreeIn L O U w t):∃ a c,World.cell? w ⟨L.b,3,none⟩= some (.slice a t.facts.length c)∧SliceAt factR w U a t.facts∧t.facts.length≤c:=by
 obtain ⟨ap,cp,af,cf,G,q1,q2,q3,q6⟩:=h
 refine ⟨af,cf,cell_of q1 rfl,OwnS.at_ (q3.mono fun z hz=>(q6.go z hz).1) fun p hp=>?_,q3.cap⟩
 obtain ⟨z,hz,_,rfl⟩:=q3.blk hp
 exact q6.ou _ (q6.of_ _ hz).1
theorem RTreeIn.pages {L:TLoc} {O U:Nat→Prop} {w:World} {t:TreeS} (h:RTreeIn L O U w t):∃ a c,World.cell? w ⟨L.b,2,none⟩= some (.slice a t.pages.length c)∧SliceAt placeR w U a t.pages∧t.pages.length≤c:=by
 obtain ⟨ap,cp,af,cf,G,q1,q2,q3,q6⟩:=h
 refine ⟨ap,cp,cell_of q1 rfl,flat_slice q2.row fun hne p hp=>?_,q2.2.1⟩
 obtain ⟨b,o,hb,_⟩:=RowAt.blk q2.row (fun e=>hne (by
  have:=congrArg List.length e
  rw [flat_len (k:=2) (fun _=>rfl),List.length_nil] at this
  exact List.eq_nil_of_length_eq_zero (by omega)))
 have hb':=hb
 rw [hp] at hb
 cases hb
 obtain ⟨_,_,hx⟩:=q2
 rcases hx with ⟨rfl,_⟩| ⟨b',_,e',_⟩
 ·cases hb'
 ·rw [e'] at hb';cases hb'
  exact q6.ou _ (q6.op _ e').1
theorem walkedR_none {c:Chip} {era:Nat} {e:Nat} (h:walkedR c era=(none,e)):e≠0:=by
 intro e0
 subst e0
 unfold walkedR at h
 split at h
 ·rename_i hh;exact hh (congrArg Prod.snd h)
 ·split at h
  ·cases h
  ·exact absurd (congrArg Prod.snd h) (by decide)
theorem carrackref18_Facts_spec {F:Nat→Prop} {A:Nat} {w:World} {p:Nat} {c:Chip} (h:CIn F A w p c) (hd0:c.dead=false) (era:Nat) :
  CallsR prog K.carrackref18_Facts #[.pointer (some ⟨p,0,none⟩),.int .u32 era] w fun v w'=>SliceOut factR w w' v (factsR (walkedR c era)) (walkedR c era).2:=by
 apply carrackref18_Facts.sh
 unfold carrackref18_Facts.body
 refine (carrackref18_walked_spec h hd0 era).mono ?_
 rintro v w₁ ⟨he1,hv⟩
 rcases hw:walkedR c era with ⟨_ | t,e⟩
 ·rw [hw] at hv
  obtain rfl:=hv
  have:=walkedR_none hw
  exact ⟨_,_,rfl,br_ne (fun _=>SliceOut.none rfl he1) fun h=>by omega⟩
 ·have he:=walkedR_some hw
  subst he
  rw [hw] at hv
  obtain ⟨L,O,U,rfl,hT,hU⟩:=hv
  refine ⟨_,_,rfl,br_ne (fun h=>absurd rfl h) fun _=>?_⟩
  obtain ⟨a,c',h1,h2,h3⟩:=hT.facts
  simp only [nilC_some',add_lit,Nat.zero_add]
  exact ⟨_,_,_,h1,a,c',U,rfl,h2,fun b hb=>⟨hU b hb,hT.lt b hb⟩,h3,he1⟩
theorem carrackref18_Pages_spec {F:Nat→Prop} {A:Nat} {w:World} {p:Nat} {c:Chip} (h:CIn F A w p c) (hd0:c.dead=false) (era:Nat) :
  CallsR prog K.carrackref18_Pages #[.pointer (some ⟨p,0,none⟩),.int .u32 era] w fun v w'=>SliceOut placeR w w' v (pagesR (walkedR c era)) (walkedR c era).2:=by
 apply carrackref18_Pages.sh
 unfold carrackref18_Pages.body
 refine (carrackref18_walked_spec h hd0 era).mono ?_
 rintro v w₁ ⟨he1,hv⟩
 rcases hw:walkedR c era with ⟨_ | t,e⟩
 ·rw [hw] at hv
  obtain rfl:=hv
  have:=walkedR_none hw
  exact ⟨_,_,rfl,br_ne (fun _=>SliceOut.none rfl he1) fun h=>by omega⟩
 ·have he:=walkedR_some hw
  subst he
  rw [hw] at hv
  obtain ⟨L,O,U,rfl,hT,hU⟩:=hv
  refine ⟨_,_,rfl,br_ne (fun h=>absurd rfl h) fun _=>?_⟩
  obtain ⟨a,c',h1,h2,h3⟩:=hT.pages
  simp only [nilC_some',add_lit,Nat.zero_add]
  exact ⟨_,_,_,h1,a,c',U,rfl,h2,fun b hb=>⟨hU b hb,hT.lt b hb⟩,h3,he1⟩
end Go.Den
