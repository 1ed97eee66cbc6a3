/- Plain laws of pages and heads: what is put is got. (Merged and shortened by program: SPool SPool2 SPool3 SPool4 SRef4 MLaw4a SLaw4 Rep4 Rep5 Rep6 SRead MFact SFact SKey SRec Rep7 SPut11 MLog MFacts MBerger MHead.) -/
import Derived.Test.YtnjiiijdgijahaaGreatQ3
set_option linter.unusedVariables false
set_option linter.unusedSimpArgs false
set_option maxRecDepth 20000
namespace Go.Den
theorem yu0 {c:Chip} {i k:Nat} (hd:c.dead=false) (hi:i<c.nb) (hk:k<c.np):c.ask i k=0:=by
 unfold Chip.ask
 rw [if_neg (by rw [hd];simp),if_neg (by omega)]
theorem vw9 {c:Chip} {i k:Int} (hd:c.dead=true):c.ask i k=10:=by unfold Chip.ask;rw [if_pos hd]
theorem qn3 {c:Chip} (h:c.Ok):c.ask 0 0=if c.dead then 10 else 0:=by
 cases hd:c.dead with
 | true=>rw [vw9 hd];rfl
 | false =>
  have:=h.nb1
  have:=h.np1
  exact yu0 (i:=0) (k:=0) hd (by omega) (by omega)
theorem yc0 {w:World} {M:PLoc} {P:Pool} {c:Chip} {L:Loc} {G:Nat→Prop} (h:PC w M P c L G) :
  za0 prog K.zk6 #[.pointer (some ⟨M.q,0,none⟩)] w fun v w'=>v= .bool false∧w'=w:=by
 apply zk6.sh
 simp only [zk6.body,Option.isNone_some,br_false,nilC_some',add_lit]
 exact ⟨_,_,_,za2 h.head rfl,rfl,by trivial⟩
theorem ve8 {w:World} {M:PLoc} {P:Pool} {c:Chip} {L:Loc} {G:Nat→Prop} (h:PC w M P c L G) :
  za0 prog K.zt1 #[.pointer (some ⟨M.q,0,none⟩)] w fun v w'=>v= .int .i64 (c.ask 0 0:Nat)∧Ext w w':=by
 apply zt1.sh
 unfold zt1.body
 refine (yc0 h).mono ?_
 rintro _ _ ⟨rfl,rfl⟩
 rename_i w
 refine ⟨_,rfl,?_⟩
 simp only [br_false,nilC_some',add_lit]
 refine ⟨_,za2 h.head rfl,?_⟩
 refine (yh0 h.chip 0 0).mono ?_
 rintro v w₂ ⟨he,hv⟩
 split at hv
 ·rename_i h0
  obtain ⟨a,cp,rfl,_⟩:=hv
  exact ⟨_,_,_,_,rfl,by rw [h0];rfl,he⟩
 ·subst hv
  exact ⟨_,_,_,_,rfl,rfl,he⟩
theorem uh7 (P:Pool) (i:Nat) (hi:i<P.blocks.length):P.setBlk i (P.blk i)=P:=by
 have:P.blk i=P.blocks[i]:=by simp [Pool.blk,List.getD,hi]
 unfold Pool.setBlk
 rw [this,List.set_getElem_self]
theorem xl2 (l m:List UInt8):zc7 (l ++ m)=(zc7 l && zc7 m):=by simp [zc7]
theorem ux1 (c:Chip) (i k:Nat):(c.blk i).take ((k+1) * c.sz)=(c.blk i).take (k * c.sz) ++ c.page i k:=by
 rw [Nat.succ_mul,List.take_add];rfl
theorem yt5 {c:Chip} (h:c.Ok) {i k:Nat} (hi:i<c.nb) (hk:k<c.np):(c.page i k).length=c.sz:=by
 have h1:=h.blk_len hi
 have h2:=xe5 hk
 simp [Chip.page,h1]
 omega
theorem yn0 {w:World} {M:PLoc} {P:Pool} {c:Chip} {L:Loc} {G:Nat→Prop} (h:PC w M P c L G) {i:Nat} (hi:i<c.nb) :
  za0 prog K.zl1 #[.pointer (some ⟨M.q,0,none⟩),.int .i64 i] w fun v w'=>v= .tuple #[]∧Upd (·=M.pb) w w'∧PC w' M (P.relook c i) c L G:=by
 have hok:=h.chip.ok
 have hnp1:=hok.np1
 have hnp2:=hok.np2
 have hnb2:=hok.nb2
 have hsz1:=hok.sz1
 have hsz2:=hok.sz2
 have hblen:=hok.blk_len hi
 obtain ⟨hil,_⟩:=h.blk hi
 apply zl1.sh
 intro B w₁ hn
 have hB:B=w.heap.size:=hn.num
 refine zc8 hn.get (by simp) fun w₂ hput=>?_
 have e2:Ext w w₂:=Put.upd hn.upd hput (.inl (by omega))
 have hgB:=hput.get
 rw [yf1 _ _ (by simp)] at hgB
 have h2:=h.ext e2
 simp only [nilC_some',add_lit]
 refine ⟨_,za2 h2.head rfl,?_⟩
 refine (yc2 h2.chip).mono ?_
 rintro _ w₃ ⟨rfl,he3⟩
 have e3:=e2.trans he3
 have hgB3:=Ext.get he3 hgB
 refine ⟨_,_,_,_,rfl,?_⟩
 refine ⟨fun x u=>∃ k:Nat,x=k∧k≤c.np∧Ext w u∧u.heap[B]?=some (.cells #[.int .i64 (if zc7 ((c.blk i).take (k * c.sz)) then 0 else 1),.int .u8 0,.int .u32 0,.int .u64 0] T.ya8 (0,0))∧(0<k→c.dead=false∧(zk7 (c.page i 0)).2≠0),
  fun x _=>(c.np - x).toNat,⟨0,rfl,by omega,e3,by simpa [zc7] using hgB3,fun h=>by omega⟩,?_⟩
 rintro x u ⟨k,rfl,hk,heu,hgu,hpos⟩
 have hu:=h.ext heu
 have hsu:=heu.size
 refine za8 (fun hlt=>?_) fun hge=>?_
 ·have hk':k<c.np:=by omega
  refine ⟨_,za2 hu.head rfl,?_⟩
  refine (yh0 hu.chip i k).mono ?_
  rintro v w₅ ⟨he5,hv⟩
  have e5:=heu.trans he5
  rcases Bool.eq_false_or_eq_true c.dead with hd | hd
  ·rw [if_neg (by rw [vw9 hd];omega),vw9 hd] at hv
   subst hv
   refine ⟨_,_,_,_,rfl,?_⟩
   refine zg8 (fun _=>⟨by trivial,Upd.ext e5,?_⟩) fun h=>by omega
   have:P.relook c i=P:=by unfold Pool.relook vg9;rw [if_pos hd];exact uh7 P i hil
   rw [this]
   exact h.ext e5
  rw [if_pos (yu0 hd hi hk')] at hv
  obtain ⟨a,cp,rfl,hba,hcp,hfa⟩:=hv
  simp only [Int.toNat_natCast] at hba
  have hpl:=yt5 hok hi hk'
  refine ⟨_,_,_,_,rfl,zg8 (fun h=>by omega) fun _=>?_⟩
  have hgh:=xt8 (c:=cp) hba (by omega)
  rw [hpl] at hgh
  refine hgh.mono ?_
  rintro _ w₆ ⟨he6,rfl⟩
  have e6:=e5.trans he6
  refine ⟨_,_,_,_,rfl,fun B2 w₇ hn7=>?_⟩
  have hB2:B2=w₆.heap.size:=hn7.num
  have hs6:=e6.size
  have hs56:=(he5.trans he6).size
  rw [yh2] at hn7
  refine zx4 (h:=(zk7 (c.page i k)).1) hn7.get rfl fun w₈ hput8=>?_
  have e8:Ext w w₈:=Put.upd (e6.trans hn7.upd) hput8 (.inl (by omega))
  have hBs:B<u.heap.size:=(Array.getElem?_eq_some_iff.1 hgu).1
  have hg8:w₈.heap[B]?=_:=hput8.upd1.get (Ext.get ((he5.trans he6).trans hn7.upd) hgu) (by omega)
  have hblank:∀ {X:Prop},(0<k∨(zk7 (c.page i 0)).2≠0)→(∀ u',Ext w u'→u'.heap[B]?=some (.cells #[.int .i64 (if zc7 ((c.blk i).take ((k+1) * c.sz)) then 0 else 1),.int .u8 0,.int .u32 0,.int .u64 0] T.ya8 (0,0))→
    (∃ k':Nat,IntKind.i64.wrap ((k:Int)+1)=k'∧k'≤c.np∧Ext w u'∧u'.heap[B]?=some (.cells #[.int .i64 (if zc7 ((c.blk i).take (k' * c.sz)) then 0 else 1),.int .u8 0,.int .u32 0,.int .u64 0] T.ya8 (0,0))∧(0<k'→c.dead=false∧(zk7 (c.page i 0)).2≠0))∧
     ((c.np:Int) - IntKind.i64.wrap ((k:Int)+1)).toNat<((c.np:Int) - (k:Int)).toNat):=by
   intro _ hno u' hu' hg'
   have e1:IntKind.i64.wrap ((k:Int)+1)=((k+1:Nat):Int):=w64 (by omega) (by omega)
   rw [e1]
   refine ⟨⟨k+1,rfl,hk',hu',hg',fun _=>⟨hd,?_⟩⟩,by omega⟩
   rcases hno with hno | hno
   ·exact (hpos hno).2
   ·exact hno
  have hstep:(0<k∨(zk7 (c.page i 0)).2≠0)→za0 prog K.zw1 #[Value.slice a c.sz cp] w₈ fun v4 w11 =>
    ∃ b1:Bool,v4=Value.bool b1∧
    br (!b1) (
     za5 w11 ⟨B,0,none⟩ [Value.int .i64 1] fun w12=>(∃ k':Nat,IntKind.i64.wrap ((k:Int)+1)=k'∧k'≤c.np∧Ext w w12∧w12.heap[B]?=some (.cells #[.int .i64 (if zc7 ((c.blk i).take (k' * c.sz)) then 0 else 1),.int .u8 0,.int .u32 0,.int .u64 0] T.ya8 (0,0))∧(0<k'→c.dead=false∧(zk7 (c.page i 0)).2≠0))∧
      ((c.np:Int) - IntKind.i64.wrap ((k:Int)+1)).toNat<((c.np:Int) - (k:Int)).toNat)
     ((∃ k':Nat,IntKind.i64.wrap ((k:Int)+1)=k'∧k'≤c.np∧Ext w w11∧w11.heap[B]?=some (.cells #[.int .i64 (if zc7 ((c.blk i).take (k' * c.sz)) then 0 else 1),.int .u8 0,.int .u32 0,.int .u64 0] T.ya8 (0,0))∧(0<k'→c.dead=false∧(zk7 (c.page i 0)).2≠0))∧
      ((c.np:Int) - IntKind.i64.wrap ((k:Int)+1)).toNat<((c.np:Int) - (k:Int)).toNat):=by
   intro hno
   have hba8:za4 w₈ a (c.page i k):=za6.upd (za6.ext (za6.ext hba he6) hn7.upd) hput8.upd1 (fun p hp e=>by
    obtain ⟨b',o',hab,hlt⟩:=za6.blk hba (List.ne_nil_of_length_pos (by simp [hpl];omega))
    rw [hp] at hab
    cases hab
    have:b'=B2:=e
    have:=he6.size
    omega)
   have hsb:=ye3 (c:=cp) hba8 (by omega)
   rw [hpl] at hsb
   refine hsb.mono ?_
   rintro _ _ ⟨rfl,rfl⟩
   rename_i w₈
   refine ⟨_,rfl,?_⟩
   have hpt:=ux1 c i k
   cases hbp:zc7 (c.page i k) with
   | false =>
    simp only [Bool.not_false,br_true]
    refine zc8 hg8 (by simp) fun w₁₂ hput12=>?_
    refine hblank (X:=True) hno w₁₂ (Put.upd e8 hput12 (.inl (by omega))) ?_
    have:=hput12.get
    rw [this,hpt,xl2,hbp,Bool.and_false]
    rfl
   | true =>
    simp only [Bool.not_true,br_false]
    refine hblank (X:=True) hno w₈ e8 ?_
    rw [hg8,hpt,xl2,hbp,Bool.and_true]
  refine zi1 (fun hk0=>?_) fun hk0=>hstep (.inl (by omega))
  have hk0':k=0:=by omega
  subst hk0'
  refine zi1 (fun hz=>?_) fun hz=>hstep (.inr (by omega))
  intro w₉ hd9
  have e9:=e8.trans hd9.upd
  have h9:=h.ext e9
  refine ⟨fun u=>u=w₉,rfl,_,_,_,fun u hu=>hu ▸ za2 h9.head rfl,_,_,_,fun u hu=>hu ▸ zo5 (Ext.get hd9.upd hput8.get),?_⟩
  refine h9.idx hi fun _=>?_
  refine h9.store hi ⟨2,(zk7 (c.page i 0)).1⟩ fun w' hu' hp'=>⟨by trivial,(Upd.ext e9).trans hu',?_⟩
  have:P.relook c i=P.setBlk i ⟨2,(zk7 (c.page i 0)).1⟩:=by
   unfold Pool.relook vg9
   rw [if_neg (by rw [hd];simp),if_pos (by omega)]
  rw [this]
  exact hp'
 ·have hk':k=c.np:=by omega
  subst hk'
  obtain ⟨hd,hno⟩:=hpos (by omega)
  rw [List.take_of_length_le (by omega)] at hgu
  intro w₁₅ hd15
  have e15:=heu.trans hd15.upd
  have h15:=h.ext e15
  refine ⟨fun u=>u=w₁₅,rfl,_,_,_,fun u hu=>hu ▸ za2 h15.head rfl,(if zc7 (c.blk i) then 0 else 1),0,0,0,fun u hu=>hu ▸ zl2 (o:=0) (Ext.get hd15.upd hgu) (fun j v hj=>by simpa using hj),?_⟩
  refine h15.idx hi fun _=>?_
  have hv:(if zc7 (c.blk i)=true then (0:Int) else 1)=(((if zc7 (c.blk i)=true then 0 else 1):Nat):Int):=by split<;>rfl
  have hval:[Value.int .i64 (if zc7 (c.blk i)=true then (0:Int) else 1),Value.int .u8 0,Value.int .u32 0,Value.int .u64 0]=Blk.vals ⟨if zc7 (c.blk i)=true then 0 else 1,Head.none⟩:=by rw [hv];rfl
  rw [hval]
  refine h15.store hi _ fun w' hu' hp'=>⟨by trivial,(Upd.ext e15).trans hu',?_⟩
  have:P.relook c i=P.setBlk i ⟨if zc7 (c.blk i)=true then 0 else 1,Head.none⟩:=by
   unfold Pool.relook vg9
   rw [if_neg (by rw [hd];simp),if_neg hno]
   split<;>rfl
  rw [this]
  exact hp'
theorem zg9.lt {w:World} {p:Nat} {c:Chip} {L:Loc} {G:Nat→Prop} (h:zg9 w p c L G):∀ x,x∈p :: L.bb :: L.locs→x<w.heap.size:=by
 intro x hx
 simp only [List.mem_cons] at hx
 rcases hx with rfl | rfl | hx
 ·exact (Array.getElem?_eq_some_iff.1 h.head).1
 ·exact zb6.blk h.bad rfl
 ·obtain ⟨j,hj,e⟩:=List.getElem_of_mem hx
  obtain ⟨vs0,_,hv0⟩:=h.rows
  obtain ⟨l,cap,hl,_,hbi⟩:=hv0 j (by rw [← h.len];exact hj)
  rw [List.getElem?_eq_getElem hj,e] at hl
  cases hl
  exact zb6.blk hbi rfl
theorem vo2 {w:World} {M:PLoc} {P:Pool} {c:Chip} {L:Loc} {G:Nat→Prop} (h:PC w M P c L G) {i:Nat} (hi:i<c.nb) {kind:UInt8} {era:Nat} (hera:era<4294967296) {R:Value→World→Prop}
  (hR:∀ w' L',Upd (PF M L) w w'→zk5 L L'→PC w' M (zg3 P c i kind era).1 (zg3 P c i kind era).2.1 L' G→R (.int .i64 ((zg3 P c i kind era).2.2:Nat)) w') :
  ∃ x11:Int,World.cell? w ⟨M.q,0+2,none⟩= some (Value.int .u64 x11)∧
  za5 w ⟨M.q,0+2,none⟩ [Value.int .u64 (IntKind.u64.wrap (x11+1))] fun w9 =>
  ∀ w10:World,Drew w9 w10→
  ∃ S2:World→Prop,S2 w10∧
  ∃ p4:Option Addr,(∀ u3,S2 u3→World.cell? u3 ⟨M.q,0,none⟩= some (Value.pointer p4))∧
  ∃ x12:Int,(∀ u4,S2 u4→World.cell? u4 ⟨M.q,0+2,none⟩= some (Value.int .u64 x12))∧
  za0 prog K.ze2 #[Value.pointer p4] w10 fun v7 w11 =>
  ∃ x13:Int,∃ x14:Int,∃ x15:Int,∃ x16:Int,v7=Value.agg #[Value.int .i64 x13,Value.int .i64 x14,Value.int .i64 x15,Value.int .i64 x16]∧S2 w11∧
  za0 prog K.zw0 #[Value.int .i64 x15,Value.agg #[Value.int .u8 (kind.toNat:Int),Value.int .u32 (era:Int),Value.int .u64 x12]] w11 fun v8 w12 =>
  ∃ (a3:Option Addr) (l3 c3:Nat),∃ x17:Int,v8=Value.tuple #[Value.slice a3 l3 c3,Value.int .i64 x17]∧S2 w12∧
  ∃ p5:Option Addr,World.cell? w12 ⟨M.q,0,none⟩= some (Value.pointer p5)∧
  za0 prog K.zi5 #[Value.pointer p5,Value.int .i64 (i:Int),Value.int .i64 0,Value.slice a3 l3 c3] w12 fun v9 w13 =>
  ∃ x18:Int,v9=Value.int .i64 x18∧
  za0 prog K.zl1 #[Value.pointer (some ⟨M.q,0,none⟩),Value.int .i64 (i:Int)] w13 fun v10 w14=>v10=Value.tuple #[]∧R (Value.int .i64 x18) w14:=by
 refine ⟨_,za2 h.head rfl,zc8 h.head (by simp) fun w₉ hput=>?_⟩
 have hq:IntKind.u64.wrap ((P.last:Int)+1)=((P.raise.last:Nat):Int):=by
  rw [qc9];rfl
 have hlast:P.raise.last<18446744073709551616:=Nat.mod_lt _ (by omega)
 have h9:PC w₉ M P.raise c L G:=h.rehead (Put.upd1 hput) (last:=P.raise.last) (turn:=P.turn) h.turn (by
  have:=hput.get
  rw [this,hq];rfl)
 intro w₁₀ hd10
 have h10:=h9.ext hd10.upd
 have hu10:Upd (·=M.q) w w₁₀:=(Put.upd1 hput).then hd10.upd
 refine ⟨fun u=>Ext w₁₀ u,Upd.refl _ _,_,fun u hu=>za2 (h10.ext hu).head rfl,_,fun u hu=>za2 (h10.ext hu).head rfl,?_⟩
 refine (yc2 h10.chip).mono ?_
 rintro _ w₁₁ ⟨rfl,he11⟩
 refine ⟨_,_,_,_,rfl,he11,?_⟩
 refine (yw6 (c.sz:Nat) ⟨kind,era,P.raise.last⟩ ⟨hera,hlast⟩ w₁₁).mono ?_
 rintro _ w₁₂ ⟨he12,a3,c3,rfl,hb3,hf3,_⟩
 have e12:=he11.trans he12
 have h12:=h10.ext e12
 have h11:=h10.ext he11
 refine ⟨_,_,_,_,rfl,e12,_,za2 h12.head rfl,?_⟩
 refine (yw9 h12.chip (i:Int) 0 (cp:=c3) hb3 (fun p hp hm=>?_)).mono ?_
 ·have h1:=hf3 p hp
  have h2:=h11.chip.lt p.block (by
   simp only [List.mem_cons] at hm ⊢
   rcases hm with hm | hm
   ·exact .inl hm
   ·exact .inr (.inr hm))
  omega
 rintro _ w₁₃ ⟨hu13,L',hs13,h13,rfl⟩
 have hpc13:PC w₁₃ M P.raise _ L' G:=h12.rechip hu13 h13 hs13 (Chip.program_geo _ _ _ _) (fun x hx=>(h.apart x hx).2)
 refine ⟨_,rfl,?_⟩
 refine (yn0 hpc13 (by rw [(Chip.program_geo c (i:Int) 0 _).1];exact hi)).mono ?_
 rintro _ w₁₄ ⟨rfl,hu14,h14⟩
 refine ⟨rfl,hR w₁₄ L' ?_ hs13 h14⟩
 refine (((hu10.mono fun x _ hx=>.inl hx).then e12).trans (hu13.mono fun x _ hx=>.inr (.inr hx))).trans (hu14.mono fun x _ hx=>.inr (.inl hx))
theorem vu0 {w:World} {M:PLoc} {P:Pool} {c:Chip} {L:Loc} {G:Nat→Prop} (h:PC w M P c L G) {i:Nat} (hi:i<c.nb) {kind:UInt8} {era:Nat} (hera:era<4294967296) :
  za0 prog K.zx1 #[.pointer (some ⟨M.q,0,none⟩),.int .i64 i,bv kind,.int .u32 era] w fun v w'=>v= .int .i64 ((zo2 P c i kind era).2.2:Nat)∧Upd (PF M L) w w'∧∃ L',zk5 L L'∧PC w' M (zo2 P c i kind era).1 (zo2 P c i kind era).2.1 L' G:=by
 apply zx1.sh
 simp only [zx1.body,nilC_some',add_lit]
 refine ⟨_,_,_,za2 h.head rfl,?_⟩
 refine h.idx hi fun hr=>?_
 have hc:=za6.cell hr (i:=0) (v:=.int .i64 (P.blk i).what) rfl
 obtain ⟨b,o,hab,hc⟩:=hc
 cases hab
 refine ⟨_,hc,zi1 (fun h1=>?_) fun h1=>?_⟩
 ·have ht:zo2 P c i kind era=if (c.erase i).2≠0 then (P.relook (c.erase i).1 i,(c.erase i).1,(c.erase i).2) else zg3 (P.relook (c.erase i).1 i) (c.erase i).1 i kind era:=by
   unfold zo2;rw [if_pos (by omega)]
  rw [ht]
  refine ⟨_,za2 h.head rfl,?_⟩
  refine (xe9 h.chip (i:Int)).mono ?_
  rintro _ w₁ ⟨hu1,L1,hs1,hc1,rfl⟩
  have hg:=Chip.erase_geo c (i:Int)
  have hp1:PC w₁ M P _ L1 G:=h.rechip hu1 hc1 hs1 hg (fun x hx=>(h.apart x hx).2)
  refine ⟨_,rfl,?_⟩
  refine (yn0 hp1 (by rw [hg.1];exact hi)).mono ?_
  rintro _ w₂ ⟨rfl,hu2,hp2⟩
  refine ⟨rfl,?_⟩
  have hu12:Upd (PF M L) w w₂:=(hu1.mono fun x _ hx=>.inr (.inr hx)).trans (hu2.mono fun x _ hx=>.inr (.inl hx))
  refine zg8 (fun hne=>?_) fun heq=>?_
  ·rw [if_pos (by omega)]
   exact ⟨by trivial,hu12,L1,hs1,hp2⟩
  ·rw [if_neg (by omega)]
   refine vo2 (kind:=kind) hp2 (by rw [hg.1];exact hi) hera (R:=fun v w'=>v= .int .i64 ((zg3 (P.relook (c.erase i).1 i) (c.erase i).1 i kind era).2.2:Nat)∧Upd (PF M L) w w'∧∃ L',zk5 L L'∧PC w' M (zg3 (P.relook (c.erase i).1 i) (c.erase i).1 i kind era).1 (zg3 (P.relook (c.erase i).1 i) (c.erase i).1 i kind era).2.1 L' G) fun w' L' hu' hs' hp'=>⟨by trivial,hu12.trans (by rw [PF.same hs1] at hu';exact hu'),L',hs1.trans hs',hp'⟩
 ·have ht:zo2 P c i kind era=zg3 P c i kind era:=by unfold zo2;rw [if_neg (by omega)]
  rw [ht]
  exact vo2 (kind:=kind) h hi hera (R:=fun v w'=>v= .int .i64 ((zg3 P c i kind era).2.2:Nat)∧Upd (PF M L) w w'∧∃ L',zk5 L L'∧PC w' M (zg3 P c i kind era).1 (zg3 P c i kind era).2.1 L' G) fun w' L' hu' hs' hp'=>⟨by trivial,hu',L',hs',hp'⟩
theorem xh9 (P:Pool) (c:Chip) (i:Nat) (kind:UInt8) (era:Nat):c.SameGeo (zo2 P c i kind era).2.1:=by
 unfold zo2 zg3
 split
 ·split
  ·exact Chip.erase_geo _ _
  ·exact (Chip.erase_geo _ _).trans (Chip.program_geo _ _ _ _)
 ·exact Chip.program_geo _ _ _ _
theorem vm2 {w:World} {M:PLoc} {P:Pool} {c:Chip} {L:Loc} {G:Nat→Prop} (h:PC w M P c L G) {kind:UInt8} {era:Nat} (hera:era<4294967296) :
  za0 prog K.zs0 #[.pointer (some ⟨M.q,0,none⟩),bv kind,.int .u32 era] w fun v w' =>
   v= .tuple #[.int .i64 ((zf0 P c kind era).block:Nat),.int .i64 ((zf0 P c kind era).err:Nat)]∧Upd (PF M L) w w'∧∃ L',zk5 L L'∧PC w' M (zf0 P c kind era).pool (zf0 P c kind era).chip L' G:=by
 apply zs0.sh
 unfold zs0.body
 refine (yc0 h).mono ?_
 rintro _ _ ⟨rfl,rfl⟩
 rename_i w
 refine ⟨_,rfl,?_⟩
 simp only [br_false,nilC_some',add_lit]
 have hno:(kind.toNat<1∨kind.toNat > 3∨era<1)→zf0 P c kind era=⟨P,c,0,2⟩:=fun hc=>by unfold zf0;rw [if_pos hc]
 refine ⟨fun u=>u=w∧¬ (kind.toNat<1∨kind.toNat > 3∨era<1),?_,?_⟩
 ·refine za8 (fun h1=>?_) fun h1=>za8 (fun h2=>?_) fun h2=>za8 (fun h3=>?_) fun h3=>⟨by trivial,by omega⟩
  ·rw [hno (by omega)];exact ⟨by trivial,Upd.refl _ _,L,zk5.refl _,h⟩
  ·rw [hno (by omega)];exact ⟨by trivial,Upd.refl _ _,L,zk5.refl _,h⟩
  ·rw [hno (by omega)];exact ⟨by trivial,Upd.refl _ _,L,zk5.refl _,h⟩
 rintro w₂ ⟨rfl,hcond⟩
 refine (ve8 h).mono ?_
 rintro _ w₃ ⟨rfl,he3⟩
 refine ⟨_,rfl,zg8 (fun hne=>?_) fun heq=>?_⟩
 ·have:zf0 P c kind era=⟨P,c,0,c.ask 0 0⟩:=by unfold zf0;rw [if_neg hcond,if_pos (by omega)]
  rw [this]
  exact ⟨by trivial,Upd.ext he3,L,zk5.refl _,h.ext he3⟩
 have ht:zf0 P c kind era=zp3 kind era P c (List.range c.nb):=by unfold zf0;rw [if_neg hcond,if_neg (by omega)]
 rw [ht]
 have h3:=h.ext he3
 have hnb1:=h.chip.ok.nb1
 have hnb2:=h.chip.ok.nb2
 refine ⟨_,_,_,za2 h3.head rfl,?_⟩
 refine ⟨fun x u=>∃ (k:Nat) (P':Pool) (c':Chip) (L':Loc),x=k∧k≤c.nb∧Upd (PF M L) w₂ u∧zk5 L L'∧c.SameGeo c'∧PC u M P' c' L' G∧zp3 kind era P c (List.range c.nb)=zp3 kind era P' c' ((List.range c.nb).drop k),
  fun x _=>(c.nb - x).toNat,⟨0,P,c,L,rfl,by omega,Upd.ext he3,zk5.refl _,.refl _,h3,by simp⟩,?_⟩
 rintro x u ⟨k,P',c',L',rfl,hk,hu,hsl,hg,hp,htg⟩
 refine za8 (fun hlt=>?_) fun hge=>?_
 ·have hk':k<c.nb:=by omega
  have hturn:=hp.turn
  rw [hg.1] at hturn
  have hdrop:(List.range c.nb).drop k=k :: (List.range c.nb).drop (k+1):=by
   rw [List.drop_eq_getElem_cons (by simpa using hk')];simp
  have hmod:(P'.turn+k) % c.nb<c.nb:=Nat.mod_lt _ (by omega)
  have e1:IntKind.i64.wrap ((k:Int)+1)=((k+1:Nat):Int):=w64 (by omega) (by omega)
  have e2:IntKind.i64.wrap ((P'.turn:Int)+(k:Int))=((P'.turn+k:Nat):Int):=w64 (by omega) (by omega)
  have hnext:∀ {u':World} {P2:Pool} {c2:Chip} {L2:Loc},Upd (PF M L) w₂ u'→zk5 L L2→c.SameGeo c2→PC u' M P2 c2 L2 G→zp3 kind era P c (List.range c.nb)=zp3 kind era P2 c2 ((List.range c.nb).drop (k+1))→
    (∃ (k':Nat) (P':Pool) (c':Chip) (L':Loc),IntKind.i64.wrap ((k:Int)+1)=k'∧k'≤c.nb∧Upd (PF M L) w₂ u'∧zk5 L L'∧c.SameGeo c'∧PC u' M P' c' L' G∧zp3 kind era P c (List.range c.nb)=zp3 kind era P' c' ((List.range c.nb).drop k'))∧
     ((c.nb:Int) - IntKind.i64.wrap ((k:Int)+1)).toNat<((c.nb:Int) - (k:Int)).toNat:=by
   intro u' P2 c2 L2 a1 a2 a3 a4 a5
   rw [e1]
   exact ⟨⟨k+1,P2,c2,L2,rfl,hk',a1,a2,a3,a4,a5⟩,by omega⟩
  refine ⟨_,za2 hp.head rfl,by omega,_,za2 hp.head rfl,?_⟩
  rw [e2,xi0]
  rw [hdrop] at htg
  refine (yc3 hp.chip _).mono ?_
  rintro _ _ ⟨rfl,rfl⟩
  rename_i u
  have hd0:decide ((0:Int)≤(((P'.turn+k) % c.nb:Nat):Int))=true:=decide_eq_true (by omega)
  refine ⟨_,rfl,?_⟩
  rw [hd0,Bool.true_and,Int.toNat_natCast]
  refine zc0 (fun hb=>?_) fun hb=>?_
  ·refine hnext hu hsl hg hp ?_
   rw [htg,zp3,if_pos (.inl (by rw [hg.1];exact hb))]
  refine ⟨_,_,_,za2 hp.head rfl,?_⟩
  refine hp.idx (by rw [hg.1];exact hmod) fun hr=>?_
  obtain ⟨b',o',hab,hc⟩:=za6.cell hr (i:=0) (v:=.int .i64 (P'.blk ((P'.turn+k) % c.nb)).what) rfl
  cases hab
  refine ⟨_,hc,zi1 (fun h2=>?_) fun h2=>?_⟩
  ·refine hnext hu hsl hg hp ?_
   rw [htg,zp3,if_pos (.inr (by rw [hg.1];omega))]
  have hcnd:¬ (c'.isBad ((P'.turn+k) % c'.nb)=true∨(P'.blk ((P'.turn+k) % c'.nb)).what=2):=by
   rw [hg.1,hb];simp;omega
  rw [zp3,if_neg hcnd,hg.1] at htg
  refine (vu0 hp (by rw [hg.1];exact hmod) hera).mono ?_
  rintro _ u' ⟨rfl,hu',L2,hs2,hp2⟩
  rw [PF.same hsl] at hu'
  have hg2:=hg.trans (xh9 P' c' ((P'.turn+k) % c.nb) kind era)
  refine ⟨_,rfl,zi1 (fun h0=>?_) fun h0=>?_⟩
  ·rw [if_pos (by omega)] at htg
   refine zc8 hp2.head (by simp) fun w₇ hput=>?_
   have e3:IntKind.i64.wrap ((((P'.turn+k) % c.nb:Nat):Int)+1)=(((P'.turn+k) % c.nb+1:Nat):Int):=w64 (by omega) (by omega)
   have h7:=hp2.rehead (Put.upd1 hput) (last:=(zo2 P' c' ((P'.turn+k) % c.nb) kind era).1.last) (turn:=(P'.turn+k) % c.nb+1) (by rw [hg2.1];exact hmod) (by
    have:=hput.get
    rw [this,e3];rfl)
   rw [htg]
   exact ⟨by trivial,(hu.trans hu').trans ((Put.upd1 hput).mono fun x _ hx=>.inl hx),L2,hsl.trans hs2,h7⟩
  rw [if_neg (by omega)] at htg
  refine zi1 (fun h10=>?_) fun h10=>?_
  ·rw [if_pos (by omega)] at htg
   rw [htg,h10]
   exact ⟨by trivial,hu.trans hu',L2,hsl.trans hs2,hp2⟩
  ·rw [if_neg (by omega)] at htg
   exact hnext (hu.trans hu') (hsl.trans hs2) hg2 hp2 htg
 ·have:k=c.nb:=by omega
  subst this
  rw [List.drop_of_length_le (by simp)] at htg
  rw [htg]
  exact ⟨by trivial,hu,L',hsl,hp⟩
theorem vm4 {w:World} {M:PLoc} {P:Pool} {c:Chip} {L:Loc} {G:Nat→Prop} (h:PC w M P c L G) (i:Int) :
  za0 prog K.zs2 #[.pointer (some ⟨M.q,0,none⟩),.int .i64 i] w fun v w' =>
   v= .int .i64 ((zd1 P c i).2.2:Nat)∧Upd (PF M L) w w'∧∃ L',zk5 L L'∧PC w' M (zd1 P c i).1 (zd1 P c i).2.1 L' G:=by
 apply zs2.sh
 unfold zs2.body
 refine (yc0 h).mono ?_
 rintro _ _ ⟨rfl,rfl⟩
 rename_i w
 refine ⟨_,rfl,?_⟩
 simp only [br_false,nilC_some',add_lit]
 have hno:(i<0∨i≥c.nb∨(P.blk i.toNat).what≠2∨c.isBad i.toNat=true)→zd1 P c i=(P,c,12):=fun hc=>by unfold zd1;rw [if_pos hc]
 refine za8 (fun h1=>?_) fun h1=>?_
 ·rw [hno (.inl h1)];exact ⟨by trivial,Upd.refl _ _,L,zk5.refl _,h⟩
 refine ⟨_,_,_,za2 h.head rfl,za8 (fun h2=>?_) fun h2=>?_⟩
 ·rw [hno (.inr (.inl h2))];exact ⟨by trivial,Upd.refl _ _,L,zk5.refl _,h⟩
 obtain ⟨j,rfl⟩: ∃ j:Nat,i=j:=⟨i.toNat,by omega⟩
 have hj:j<c.nb:=by omega
 simp only [Int.toNat_natCast] at hno
 refine ⟨_,_,_,za2 h.head rfl,h.idx hj fun hr=>?_⟩
 obtain ⟨b',o',hab,hc⟩:=za6.cell hr (i:=0) (v:=.int .i64 (P.blk j).what) rfl
 cases hab
 refine ⟨_,hc,zg8 (fun h3=>?_) fun h3=>?_⟩
 ·rw [hno (.inr (.inr (.inl (by omega))))];exact ⟨by trivial,Upd.refl _ _,L,zk5.refl _,h⟩
 refine ⟨_,za2 h.head rfl,?_⟩
 refine (yc3 h.chip _).mono ?_
 rintro _ _ ⟨rfl,rfl⟩
 rename_i w
 have hd0:decide ((0:Int)≤((j:Nat):Int))=true:=decide_eq_true (by omega)
 refine ⟨_,rfl,?_⟩
 rw [hd0,Bool.true_and,Int.toNat_natCast]
 refine zc0 (fun h4=>?_) fun h4=>?_
 ·rw [hno (.inr (.inr (.inr h4)))];exact ⟨by trivial,Upd.refl _ _,L,zk5.refl _,h⟩
 have hf:zd1 P c (j:Int)=(P.relook (c.erase j).1 j,(c.erase j).1,if (c.erase j).2=9 then 0 else (c.erase j).2):=by
  unfold zd1
  rw [if_neg (by
   rw [Int.toNat_natCast,h4]
   rintro (h | h | h | h)
   ·omega
   ·omega
   ·omega
   ·cases h)]
  simp only [Int.toNat_natCast]
 rw [hf]
 refine ⟨_,za2 h.head rfl,?_⟩
 refine (xe9 h.chip (j:Int)).mono ?_
 rintro _ w₁ ⟨hu1,L1,hs1,hc1,rfl⟩
 have hg:=Chip.erase_geo c (j:Int)
 have hp1:PC w₁ M P _ L1 G:=h.rechip hu1 hc1 hs1 hg (fun x hx=>(h.apart x hx).2)
 refine ⟨_,rfl,?_⟩
 refine (yn0 hp1 (by rw [hg.1];exact hj)).mono ?_
 rintro _ w₂ ⟨rfl,hu2,hp2⟩
 have hu12:Upd (PF M L) w w₂:=(hu1.mono fun x _ hx=>.inr (.inr hx)).trans (hu2.mono fun x _ hx=>.inr (.inl hx))
 refine ⟨rfl,zi1 (fun h9=>?_) fun h9=>?_⟩
 ·rw [if_pos (by omega)]
  exact ⟨by trivial,hu12,L1,hs1,hp2⟩
 ·rw [if_neg (by omega)]
  exact ⟨by trivial,hu12,L1,hs1,hp2⟩
theorem vm3 {w:World} {M:PLoc} {P:Pool} {c:Chip} {L:Loc} {G:Nat→Prop} (h:PC w M P c L G) :
  za0 prog K.zs1 #[.pointer (some ⟨M.q,0,none⟩)] w fun v w'=>v= .int .u64 (P.last:Nat)∧w'=w:=by
 apply zs1.sh
 unfold zs1.body
 refine (yc0 h).mono ?_
 rintro _ _ ⟨rfl,rfl⟩
 refine ⟨_,rfl,?_⟩
 simp only [br_false,nilC_some',add_lit]
 exact ⟨_,za2 h.head rfl,by trivial,by trivial⟩
theorem vm5 {w:World} {M:PLoc} {P:Pool} {c:Chip} {L:Loc} {G:Nat→Prop} (h:PC w M P c L G) :
  za0 prog K.zj0 #[.pointer (some ⟨M.q,0,none⟩)] w fun v w'=>v= .pointer (some ⟨M.p,0,none⟩)∧w'=w:=by
 apply zj0.sh
 unfold zj0.body
 refine (yc0 h).mono ?_
 rintro _ _ ⟨rfl,rfl⟩
 refine ⟨_,rfl,?_⟩
 simp only [br_false,nilC_some',add_lit]
 exact ⟨_,za2 h.head rfl,by trivial,by trivial⟩
theorem xz4 {w:World} {M:PLoc} {P:Pool} {c:Chip} {L:Loc} {G:Nat→Prop} (h:PC w M P c L G) :
  za0 prog K.zi4 #[.pointer (some ⟨M.q,0,none⟩)] w fun v w'=>v= .int .i64 (zh3 P c:Nat)∧Ext w w':=by
 apply zi4.sh
 unfold zi4.body
 refine (yc0 h).mono ?_
 rintro _ _ ⟨rfl,rfl⟩
 rename_i w
 refine ⟨_,rfl,?_⟩
 simp only [br_false,nilC_some',add_lit]
 have hnb2:=h.chip.ok.nb2
 refine ⟨_,_,_,za2 h.head rfl,?_⟩
 refine ⟨fun x y u=>∃ i:Nat,y=i∧i≤c.nb∧Ext w u∧x=(((List.range i).filter fun i=>decide ((P.blk i).what≠2) && !c.isBad i).length:Nat),fun _ y _=>(c.nb - y).toNat,⟨0,rfl,by omega,Upd.refl _ _,rfl⟩,?_⟩
 rintro x y u ⟨i,rfl,hi,hu,rfl⟩
 have hpu:=h.ext hu
 refine za8 (fun hlt=>?_) fun hge=>?_
 ·have hi':i<c.nb:=by omega
  have e1:IntKind.i64.wrap ((i:Int)+1)=((i+1:Nat):Int):=w64 (by omega) (by omega)
  have hle:((List.range i).filter fun i=>decide ((P.blk i).what≠2) && !c.isBad i).length≤i:=Nat.le_trans (List.length_filter_le _ _) (by simp)
  refine hpu.idx hi' fun hr=>?_
  refine ⟨(P.blk i).what,(P.blk i).head.kind.toNat,(P.blk i).head.era,(P.blk i).head.seq,za6.cells hr,fun B w₃ hn3=>?_⟩
  refine zc8 hn3.get (by simp) fun w₄ hput4=>?_
  have hB:B=u.heap.size:=hn3.num
  have e4:Ext w w₄:=Put.upd (hu.trans hn3.upd) hput4 (.inl (by have:=hu.size;omega))
  have hg4:=hput4.get
  have hp4:=h.ext e4
  refine ⟨(P.blk i).what,?_,?_⟩
  ·refine za2 hg4 ?_
   rw [yf1 _ _ (by simp)];rfl
  have hrs:∀ b:Bool,(decide ((P.blk i).what≠2) && !c.isBad i)=b→(((List.range (i+1)).filter fun i=>decide ((P.blk i).what≠2) && !c.isBad i).length:Nat)=((List.range i).filter fun i=>decide ((P.blk i).what≠2) && !c.isBad i).length+if b then 1 else 0:=by
   intro b hb
   rw [List.range_succ,List.filter_append,List.length_append]
   simp only [List.filter_cons,hb,List.filter_nil]
   cases b<;>rfl
  refine zg8 (fun hne=>?_) fun heq=>?_
  ·refine ⟨_,za2 hp4.head rfl,?_⟩
   refine (yc3 hp4.chip _).mono ?_
   rintro _ _ ⟨rfl,rfl⟩
   rename_i w₄
   have hd0:decide ((0:Int)≤((i:Nat):Int))=true:=decide_eq_true (by omega)
   have hd1:decide ((P.blk i).what≠2)=true:=decide_eq_true (by omega)
   refine ⟨_,rfl,?_⟩
   rw [hd0,Bool.true_and,Int.toNat_natCast,e1]
   refine zc0 (fun hb=>?_) fun hb=>?_
   ·have:=hrs true (by rw [hd1,hb];rfl)
    refine ⟨⟨i+1,rfl,hi',e4,?_⟩,meas hi'⟩
    rw [this,w64 (by omega) (by omega)]
    simp
   ·have:=hrs false (by rw [hd1,hb];rfl)
    refine ⟨⟨i+1,rfl,hi',e4,?_⟩,meas hi'⟩
    rw [this]
    simp
  ·rw [e1]
   have hd1:decide ((P.blk i).what≠2)=false:=decide_eq_false (by omega)
   have:=hrs false (by rw [hd1];rfl)
   refine ⟨⟨i+1,rfl,hi',e4,?_⟩,meas hi'⟩
   rw [this]
   simp
 ·have:i=c.nb:=by omega
  subst this
  exact ⟨by trivial,hu⟩
theorem ug5 {α:Type} (f:α→List Value) (b:α) (n:Nat):zs8 (f b) n=(List.replicate n b).flatMap f:=by
 induction n with
 | zero=>rfl
 | succ n ih=>simp [zs8,List.replicate_succ] at ih ⊢;try exact ih
theorem uh8 (c:Chip) (i:Nat):(zl7 c i).turn≤i:=by
 induction i with
 | zero=>exact Nat.le_refl _
 | succ i ih =>
  unfold zl7
  split
  ·exact Nat.le_refl _
  ·show (zl7 c i).turn≤_;omega
theorem xk2 {w:World} {p:Nat} {c:Chip} {L:Loc} {G:Nat→Prop} (h:zg9 w p c L G) (hG:∀ x,G x→x<w.heap.size) :
  za0 prog K.ye4 #[.pointer (some ⟨p,0,none⟩)] w fun v w'=>Ext w w'∧
   if c.dead then v= .tuple #[.pointer none,.int .i64 10]
   else ∃ q pb,v= .tuple #[.pointer (some ⟨q,0,none⟩),.int .i64 0]∧w.heap.size≤q∧w.heap.size≤pb∧q<w'.heap.size∧pb<w'.heap.size∧PC w' ⟨q,pb,c.nb,p⟩ (zh5 c) c L G:=by
 have hok:=h.ok
 have hnb1:=hok.nb1
 have hnb2:=hok.nb2
 apply ye4.sh
 refine ⟨fun u=>Ext w u,?_,?_⟩
 ·simp only [Option.isNone_some,br_false]
  refine (yc2 h).mono ?_
  rintro _ w₁ ⟨rfl,he1⟩
  exact ⟨_,_,_,_,rfl,zi1 (fun h=>by omega) fun _=>he1⟩
 intro w₂ he2
 have h2:=h.ext he2
 refine (yh0 h2 0 0).mono ?_
 rintro v w₃ ⟨he3,hv⟩
 have e3:=he2.trans he3
 rw [qn3 hok] at hv
 rcases Bool.eq_false_or_eq_true c.dead with hd | hd
 ·rw [hd] at hv
  simp only [if_true,if_neg (show ¬ (10=0) by omega)] at hv
  subst hv
  refine ⟨_,_,_,_,rfl,zg8 (fun _=>⟨e3,?_⟩) fun h=>by omega⟩
  rw [if_pos hd]
  rfl
 rw [hd] at hv
 simp only [Bool.false_eq_true,if_false,if_true] at hv
 obtain ⟨a,cp,rfl,_⟩:=hv
 refine ⟨_,_,_,_,rfl,zg8 (fun h=>by omega) fun _=>?_⟩
 have h3:=h.ext e3
 refine (yc2 h3).mono ?_
 rintro _ w₄ ⟨rfl,he4⟩
 have e4:=e3.trans he4
 refine ⟨_,_,_,_,rfl,?_⟩
 refine ⟨by omega,by omega,by omega,by omega,rfl,fun pb w₅ hn5 q w₆ hn6=>?_⟩
 have e6:=(e4.trans hn5.upd).trans hn6.upd
 have h6:=h.ext e6
 have hpb:pb=w₄.heap.size:=hn5.num
 have hq:q=w₅.heap.size:=hn6.num
 have hs4:=e4.size
 have hs5:=hn5.size
 have hs6:=hn6.size
 simp only [Int.toNat_natCast] at hn5 hn6 ⊢
 have hz:zs8 [Value.int .i64 0,Value.int .u8 0,Value.int .u32 0,Value.int .u64 0] c.nb=(List.replicate c.nb Blk.zero).flatMap Blk.vals:=ug5 Blk.vals Blk.zero c.nb
 rw [hz] at hn5
 have hpc6:PC w₆ ⟨q,pb,c.nb,p⟩ (zl7 c 0) c L G:=by
  refine ⟨h6,hn6.get,?_,Nat.zero_le _,fun x hx=>?_,by show q≠pb;omega⟩
  ·have:=zb6.new (n:=c.nb) (size:=4) hn5 (by simp [Blk.vals])
   exact zb6.ext this hn6.upd
  ·have hxw:w.heap.size≤x:=by
    rcases hx with hx | hx
    ·have:x=q:=hx
     omega
    ·have:x=pb:=hx
     omega
   exact ⟨fun hm=>by have:=h.lt x hm;omega,fun hg=>by have:=hG x hg;omega⟩
 simp only [add_lit]
 refine ⟨_,_,_,za2 hn6.get rfl,?_⟩
 refine ⟨fun x u=>∃ i:Nat,x=i∧i≤c.nb∧Upd (fun x=>x=q∨x=pb) w₆ u∧PC u ⟨q,pb,c.nb,p⟩ (zl7 c i) c L G,fun x _=>(c.nb - x).toNat,⟨0,rfl,by omega,Upd.refl _ _,hpc6⟩,?_⟩
 rintro x u ⟨i,rfl,hi,hu,hp⟩
 have hfin:∀ {u':World},Upd (fun x=>x=q∨x=pb) w₆ u'→Ext w u':=fun hu'=>Upd.beyond e6 hu' (fun x hx=>by rcases hx with rfl | rfl<;>omega)
 refine za8 (fun hlt=>?_) fun hge=>?_
 ·have hi':i<c.nb:=by omega
  have e1:IntKind.i64.wrap ((i:Int)+1)=((i+1:Nat):Int):=w64 (by omega) (by omega)
  refine (yn0 hp hi').mono ?_
  rintro _ w₈ ⟨rfl,hu8,hp8⟩
  have hu08:Upd (fun x=>x=q∨x=pb) w₆ w₈:=hu.trans (hu8.mono fun x _ hx=>.inr hx)
  refine ⟨rfl,_,_,_,za2 hp8.head rfl,hp8.idx hi' fun hr=>?_⟩
  simp only [add_lit]
  generalize hP8:(zl7 c i).relook c i=P8 at *
  have hc1:=za6.cells (za6.drop hr 1)
  refine ⟨(P8.blk i).head.kind.toNat,(P8.blk i).head.era,(P8.blk i).head.seq,hc1,fun B w₉ hn9=>?_⟩
  rw [yh2] at hn9
  refine zx4 (h:=(P8.blk i).head) hn9.get rfl fun w₁₀ hput10=>?_
  have hB:B=w₈.heap.size:=hn9.num
  have hs8:=hu08.size
  have hu10:Upd (fun x=>x=q∨x=pb) w₆ w₁₀:=Put.upd (hu08.then hn9.upd) hput10 (.inl (by omega))
  intro w₁₁ hd11
  have hu11:=hu10.then hd11.upd
  have e811:Ext w₈ w₁₁:=(Put.upd hn9.upd hput10 (.inl (by omega))).trans hd11.upd
  have hp11:=hp8.ext e811
  have hg11:=Ext.get hd11.upd hput10.get
  have hgo:zl7 c (i+1)=if (P8.blk i).head.seq > (zl7 c i).last∨((P8.blk i).head.seq=(zl7 c i).last∧(P8.blk i).head.seq > 0) then { P8 with last:=(P8.blk i).head.seq,turn:=i+1 } else P8:=by
   rw [zl7,hP8]
  have hl8:P8.last=(zl7 c i).last:=by rw [← hP8];rfl
  have hset:((P8.blk i).head.seq > (zl7 c i).last∨((P8.blk i).head.seq=(zl7 c i).last∧(P8.blk i).head.seq > 0))→
    za5 w₁₁ ⟨q,0+2,none⟩ [Value.int .u64 ((P8.blk i).head.seq:Nat)] fun w12 =>
    za5 w12 ⟨q,0+3,none⟩ [Value.int .i64 (IntKind.i64.wrap ((i:Int)+1))] fun w13 =>
     (∃ i':Nat,IntKind.i64.wrap ((i:Int)+1)=i'∧i'≤c.nb∧Upd (fun x=>x=q∨x=pb) w₆ w13∧PC w13 ⟨q,pb,c.nb,p⟩ (zl7 c i') c L G)∧((c.nb:Int) - IntKind.i64.wrap ((i:Int)+1)).toNat<((c.nb:Int) - (i:Int)).toNat:=by
   intro hcnd
   refine zc8 hp11.head (by simp) fun w₁₂ hput12=>?_
   refine zc8 hput12.get (by simp [zy1]) fun w₁₃ hput13=>?_
   rw [e1]
   have hq2:=(Put.upd1 hput12).trans (Put.upd1 hput13)
   refine ⟨⟨i+1,rfl,hi',hu11.trans (hq2.mono fun x _ hx=>.inl hx),?_⟩,meas hi'⟩
   rw [hgo,if_pos hcnd]
   refine hp11.rehead hq2 (last:=(P8.blk i).head.seq) (turn:=i+1) hi' ?_
   have:=hput13.get
   rw [this,e1];rfl
  have hkeep:¬ ((P8.blk i).head.seq > (zl7 c i).last∨((P8.blk i).head.seq=(zl7 c i).last∧(P8.blk i).head.seq > 0))→
    (∃ i':Nat,IntKind.i64.wrap ((i:Int)+1)=i'∧i'≤c.nb∧Upd (fun x=>x=q∨x=pb) w₆ w₁₁∧PC w₁₁ ⟨q,pb,c.nb,p⟩ (zl7 c i') c L G)∧((c.nb:Int) - IntKind.i64.wrap ((i:Int)+1)).toNat<((c.nb:Int) - (i:Int)).toNat:=by
   intro hcnd
   rw [e1]
   refine ⟨⟨i+1,rfl,hi',hu11,?_⟩,meas hi'⟩
   rw [hgo,if_neg hcnd]
   exact hp11
  have hcq:World.cell? w₁₁ ⟨q,0+2,none⟩= some (.int .u64 ((zl7 c i).last:Nat)):=by rw [← hl8];exact za2 hp11.head rfl
  refine ⟨fun v=>v=w₁₁,rfl,_,fun v hv=>hv ▸ za2 hg11 rfl,_,fun v hv=>hv ▸ hcq,za8 (fun h1=>?_) fun h1=>?_⟩
  ·exact ⟨_,za2 hg11 rfl,hset (.inl (by omega))⟩
  refine ⟨_,fun v hv=>hv ▸ za2 hg11 rfl,_,fun v hv=>hv ▸ hcq,zi1 (fun h2=>?_) fun h2=>hkeep (by omega)⟩
  refine ⟨_,fun v hv=>hv ▸ za2 hg11 rfl,za8 (fun h3=>?_) fun h3=>hkeep (by omega)⟩
  exact ⟨_,za2 hg11 rfl,hset (.inr (by omega))⟩
 ·have:i=c.nb:=by omega
  subst this
  have hsu:=hu.size
  refine ⟨hfin hu,?_⟩
  rw [if_neg (by rw [hd];simp)]
  exact ⟨q,pb,rfl,by omega,by omega,by omega,by omega,hp⟩
def pref {α:Type} (lt:α→α→Bool) (l:List α) (i:Nat):List α:=(l.take i).foldl (fun acc x=>sink lt x acc) []
theorem uh5 {α:Type} (lt:α→α→Bool) (x:α) (l:List α):(sink lt x l).length=l.length+1:=by
 induction l with
 | nil=>rfl
 | cons y l ih=>unfold sink;split<;>simp [ih]
theorem vz6 {α:Type} (lt:α→α→Bool) (l:List α) (i:Nat) (hi:i<l.length):pref lt l (i+1)=sink lt l[i] (pref lt l i):=by
 unfold pref
 rw [List.take_succ_eq_append_getElem hi,List.foldl_append]
 rfl
theorem ve6 {α:Type} (lt:α→α→Bool) (l:List α) (i:Nat) (hi:i≤l.length):(pref lt l i).length=i:=by
 induction i with
 | zero=>simp [pref]
 | succ i ih=>rw [vz6 lt l i hi,uh5,ih (by omega)]
theorem un5 {α:Type} (lt:α→α→Bool) (l:List α):(pref lt l l.length).reverse=yx1 lt l:=by simp [pref,yx1]
theorem xi2 {α:Type} (lt:α→α→Bool) (x y:α) (l:List α):y∈sink lt x l ↔ y=x∨y∈l:=by
 induction l with
 | nil=>simp [sink]
 | cons z l ih =>
  unfold sink
  split
  ·simp [ih];constructor
   ·rintro (h | h | h)
    ·exact .inr (.inl h)
    ·exact .inl h
    ·exact .inr (.inr h)
   ·rintro (h | h | h)
    ·exact .inr (.inl h)
    ·exact .inl h
    ·exact .inr (.inr h)
  ·simp
theorem yx0 {α:Type} (lt:α→α→Bool) (y:α) (l:List α):y∈yx1 lt l ↔ y∈l:=by
 unfold yx1
 rw [List.mem_reverse]
 have:∀ (acc:List α),y∈l.foldl (fun acc x=>sink lt x acc) acc ↔ y∈acc∨y∈l:=by
  induction l with
  | nil=>intro acc;simp
  | cons x l ih =>
   intro acc
   rw [List.foldl_cons,ih,xi2]
   simp only [List.mem_cons]
   constructor
   ·rintro ((h | h) | h)
    ·exact .inr (.inl h)
    ·exact .inl h
    ·exact .inr (.inr h)
   ·rintro (h | h | h)
    ·exact .inl (.inr h)
    ·exact .inl (.inl h)
    ·exact .inr h
 rw [this];simp
theorem yb6 {α:Type} (lt:α→α→Bool) (l:List α):(yx1 lt l).length=l.length:=by
 rw [← un5,List.length_reverse,ve6 lt l _ (Nat.le_refl _)]
abbrev vy2 (t:zb7):Value:=.agg #[.int .i64 t.block,bv t.head.kind,.int .u32 t.head.era,.int .u64 t.head.seq,.bool t.bad]
theorem xt7 (a b:zb7) (ha:a.block<1000000) (hb:b.block<1000000) (w:World) :
  za0 prog K.zj8 #[vy2 a,vy2 b] w fun v w'=>∃ x:Int,v= .int .i64 x∧decide (x<0)=zh1 a b∧Ext w w':=by
 apply zj8.sh
 intro B₁ w₁ hn1 B₂ w₂ hn2
 have e2:=hn1.upd.trans hn2.upd
 have h1:=Ext.get hn2.upd hn1.get
 have h2:=hn2.get
 simp only [add_lit]
 refine ⟨_,za2 h1 rfl,_,za2 h2 rfl,za8 (fun hlt=>⟨_,rfl,?_,e2⟩) fun hge=>⟨_,za2 h1 rfl,_,za2 h2 rfl,za8 (fun hgt=>⟨_,rfl,?_,e2⟩) fun hle=>⟨_,za2 h1 rfl,_,za2 h2 rfl,_,rfl,?_,e2⟩⟩⟩
 ·have q:decide (a.head.seq<b.head.seq)=true:=decide_eq_true (by omega)
  simp [zh1,q]
 ·have q:decide (a.head.seq<b.head.seq)=false:=decide_eq_false (by omega)
  have q2:decide (a.head.seq=b.head.seq)=false:=decide_eq_false (by omega)
  simp [zh1,q,q2]
 ·have q:decide (a.head.seq<b.head.seq)=false:=decide_eq_false (by omega)
  have q2:decide (a.head.seq=b.head.seq)=true:=decide_eq_true (by omega)
  rw [w64 (by omega) (by omega)]
  simp only [zh1,q,q2,Bool.false_or,Bool.true_and]
  exact decide_eq_decide.2 (by omega)
theorem uv7 {α:Type} (A R:List α) (x y:α):((A ++ y :: x :: R).set (A.length+1) y).set A.length x=A ++ x :: y :: R:=by
 rw [List.set_append_right _ _ (by omega),List.set_append_right _ _ (by omega)]
 simp
theorem ux6 {α:Type} {f:α→List Value} {k:Nat} (hf:∀ x,(f x).length=k) {w:World} {b cap:Nat} {e:TypeId} {l:List α} (h:zb6 w (some ⟨b,0,none⟩) l.length cap e k (l.flatMap f)) {i:Nat} (hi:i<l.length) (x:α) {K:World→Prop}
  (hk:∀ w',Upd (·=b) w w'→zb6 w' (some ⟨b,0,none⟩) (l.set i x).length cap e k ((l.set i x).flatMap f)→K w'):za5 w ⟨b,i * k,none⟩ (f x) K:=by
 refine yj6 h (by rw [xa8 hf,hf,← Nat.succ_mul];exact Nat.mul_le_mul_right _ hi) fun w' hu ho=>hk w' hu ?_
 rw [hf,up3 hf l hi x] at ho
 rw [List.length_set]
 exact ho
theorem xr4 {w:World} {a:Option Addr} {l:List zb7} {cap cp:Nat} (h:zb6 w a l.length cap T.zc6 5 (l.flatMap zb7.vals)) (hb:∀ t∈l,t.block<1000000) (hl:l.length<1000) :
  za0 prog K.zb8 #[.slice a l.length cp,.int .i64 0,.int .i64 l.length,.func (.func K.zj8) #[] #[]] w fun v w'=>v= .tuple #[]∧Upd (fun b=>a=some ⟨b,0,none⟩) w w'∧zb6 w' a (yx1 zh1 l).length cap T.zc6 5 ((yx1 zh1 l).flatMap zb7.vals):=by
 apply zb8.sh
 have e01:IntKind.i64.wrap ((0:Int)+1)=((1:Nat):Int):=by decide
 unfold zb8.body
 rw [e01]
 refine ⟨fun x u=>∃ i:Nat,x=i∧1≤i∧(i≤l.length∨i=1)∧Upd (fun b=>a=some ⟨b,0,none⟩) w u∧zb6 u a ((pref zh1 l i).reverse ++ l.drop i).length cap T.zc6 5 (((pref zh1 l i).reverse ++ l.drop i).flatMap zb7.vals),
  fun x _=>(l.length - x).toNat,⟨1,rfl,by omega,.inr rfl,Upd.refl _ _,?_⟩,?_⟩
 ·have:(pref zh1 l 1).reverse ++ l.drop 1=l:=by
   cases l with
   | nil=>rfl
   | cons x l=>rfl
  rw [this];exact h
 rintro x u ⟨i,rfl,hi1,hi,hu,ho⟩
 refine za8 (fun hlt=>?_) fun hge=>?_
 ·have hil:i<l.length:=by omega
  have hpl:=ve6 zh1 l i (by omega)
  have hdrop:l.drop i=l[i] :: l.drop (i+1):=List.drop_eq_getElem_cons hil
  have hblk:∀ t,t∈pref zh1 l i→t.block<1000000:=by
   intro t ht
   have:t∈yx1 zh1 (l.take i):=by unfold yx1;exact List.mem_reverse.2 ht
   rw [yx0] at this
   exact hb t (List.mem_of_mem_take this)
  have hbi:l[i].block<1000000:=hb _ (List.getElem_mem hil)
  rw [hdrop] at ho
  obtain ⟨B,rfl⟩: ∃ B,a=some ⟨B,0,none⟩:=by
   obtain ⟨_,_,hx⟩:=h
   rcases hx with ⟨_,hx,_⟩| ⟨b,cur,hx,_⟩
   ·omega
   ·exact ⟨b,hx⟩
  have hF:∀ {u u':World},Upd (·=B) u u'→Upd (fun b=>(some ⟨B,0,none⟩: Option Addr)=some ⟨b,0,none⟩) u u':=fun k=>k.mono fun x _ hx=>by rw [hx]
  have e1:IntKind.i64.wrap ((i:Int)+1)=((i+1:Nat):Int):=w64 (by omega) (by omega)
  refine ⟨fun x v=>∃ A D:List zb7,x=(A.length:Int)∧pref zh1 l i=D ++ A∧sink zh1 l[i] (pref zh1 l i)=D ++ sink zh1 l[i] A∧Upd (fun b=>(some ⟨B,0,none⟩: Option Addr)=some ⟨b,0,none⟩) w v∧
    zb6 v (some ⟨B,0,none⟩) (A.reverse ++ l[i] :: (D.reverse ++ l.drop (i+1))).length cap T.zc6 5 ((A.reverse ++ l[i] :: (D.reverse ++ l.drop (i+1))).flatMap zb7.vals),fun x _=>x.toNat,⟨pref zh1 l i,[],by rw [hpl],rfl,rfl,hu,ho⟩,?_⟩
  rintro y v ⟨A,D,rfl,hAD,hsk,huv,hov⟩ w₃ hd3
  have hlen:∀ X:zb7,(A.reverse ++ X :: (D.reverse ++ l.drop (i+1))).length=l.length:=by
   intro X
   have:D.length+A.length=i:=by rw [← hpl,hAD,List.length_append]
   simp;omega
  have hend:∀ {v':World},sink zh1 l[i] A=l[i] :: A→Upd (fun b=>(some ⟨B,0,none⟩: Option Addr)=some ⟨b,0,none⟩) w v'→
    zb6 v' (some ⟨B,0,none⟩) (A.reverse ++ l[i] :: (D.reverse ++ l.drop (i+1))).length cap T.zc6 5 ((A.reverse ++ l[i] :: (D.reverse ++ l.drop (i+1))).flatMap zb7.vals)→
    (∃ i':Nat,IntKind.i64.wrap ((i:Int)+1)=i'∧1≤i'∧(i'≤l.length∨i'=1)∧Upd (fun b=>(some ⟨B,0,none⟩: Option Addr)=some ⟨b,0,none⟩) w v'∧zb6 v' (some ⟨B,0,none⟩) ((pref zh1 l i').reverse ++ l.drop i').length cap T.zc6 5 (((pref zh1 l i').reverse ++ l.drop i').flatMap zb7.vals))∧
     ((l.length:Int) - IntKind.i64.wrap ((i:Int)+1)).toNat<((l.length:Int) - (i:Int)).toNat:=by
   intro v' hs hu' ho'
   rw [e1]
   refine ⟨⟨i+1,rfl,by omega,.inl hil,hu',?_⟩,meas hil⟩
   have:(pref zh1 l (i+1)).reverse ++ l.drop (i+1)=A.reverse ++ l[i] :: (D.reverse ++ l.drop (i+1)):=by
    rw [vz6 zh1 l i hil,hsk,hs]
    simp
   rw [this];exact ho'
  have hov3:=zb6.ext hov hd3.upd
  have huv3:=huv.then hd3.upd
  refine ⟨fun z=>z=w₃,rfl,za8 (fun hpos=>?_) fun hzero=>?_⟩
  ·obtain ⟨y,A',rfl⟩: ∃ y A',A=y :: A':=by
    cases A with
    | nil=>simp at hpos
    | cons y A'=>exact ⟨y,A',rfl⟩
   have hly:=hlen l[i]
   simp only [List.reverse_cons,List.append_assoc,List.singleton_append,List.length_cons] at hov3 hpos hly ⊢
   generalize hR:D.reverse ++ l.drop (i+1)=R at *
   have hA:A'.reverse.length=A'.length:=List.length_reverse
   have hlx:A'.length+1<(A'.reverse ++ y :: l[i] :: R).length:=by simp
   have hgx:(A'.reverse ++ y :: l[i] :: R)[A'.length+1]=l[i]:=by rw [List.getElem_append_right (by omega)];simp
   have hgy:(A'.reverse ++ y :: l[i] :: R)[A'.length]=y:=by rw [List.getElem_append_right (by omega)];simp
   have em:IntKind.i64.wrap (((A'.length+1:Nat):Int) - 1)=((A'.length:Nat):Int):=by rw [w64 (by omega) (by omega)];omega
   rw [em]
   refine zx3 (f:=zb7.vals) (l:=A'.reverse ++ y :: l[i] :: R) zb7.vals_length (by omega) hov3.row (by omega) hlx fun b o hab hr=>?_
   cases hab
   rw [hgx] at hr
   refine ⟨l[i].block,l[i].head.kind.toNat,l[i].head.era,l[i].head.seq,l[i].bad,fun z hz=>hz ▸ za6.cells hr,?_⟩
   refine zx3 (f:=zb7.vals) (l:=A'.reverse ++ y :: l[i] :: R) zb7.vals_length (by omega) hov3.row (by omega) (by omega) fun b o hab hr=>?_
   cases hab
   rw [hgy] at hr
   refine ⟨y.block,y.head.kind.toNat,y.head.era,y.head.seq,y.bad,fun z hz=>hz ▸ za6.cells hr,?_⟩
   have hby:y.block<1000000:=hblk y (by rw [hAD];simp)
   refine ⟨rfl,?_⟩
   refine (xt7 l[i] y hbi hby w₃).mono ?_
   rintro _ w₄ ⟨x11,rfl,hx11,he4⟩
   have hov4:=zb6.ext hov3 he4
   have huv4:=huv3.then he4
   refine ⟨_,rfl,?_⟩
   rw [hx11]
   refine zc0 (fun ht=>?_) fun hf=>?_
   ·intro w₅ hd5
    have hov5:=zb6.ext hov4 hd5.upd
    have huv5:=huv4.then hd5.upd
    refine ⟨fun z=>z=w₅,rfl,?_⟩
    refine zx3 (f:=zb7.vals) (l:=A'.reverse ++ y :: l[i] :: R) zb7.vals_length (by omega) hov5.row (by omega) (by omega) fun b o hab hr=>?_
    cases hab
    rw [hgy] at hr
    refine ⟨y.block,y.head.kind.toNat,y.head.era,y.head.seq,y.bad,fun z hz=>hz ▸ za6.cells hr,?_⟩
    refine zx3 (f:=zb7.vals) (l:=A'.reverse ++ y :: l[i] :: R) zb7.vals_length (by omega) hov5.row (by omega) hlx fun b o hab hr=>?_
    cases hab
    rw [hgx] at hr
    refine ⟨l[i].block,l[i].head.kind.toNat,l[i].head.era,l[i].head.seq,l[i].bad,fun z hz=>hz ▸ za6.cells hr,?_⟩
    refine zx3 (f:=zb7.vals) (l:=A'.reverse ++ y :: l[i] :: R) zb7.vals_length (by omega) hov5.row (by omega) hlx fun b o hab _=>?_
    cases hab
    rw [Nat.zero_add]
    refine ux6 zb7.vals_length hov5 hlx y fun w₆ hu6 ho6=>?_
    refine zx3 (f:=zb7.vals) zb7.vals_length (by omega) ho6.row (by rw [List.length_set];omega) (by rw [List.length_set];omega) fun b o hab _=>?_
    cases hab
    rw [Nat.zero_add]
    refine ux6 zb7.vals_length ho6 (by rw [List.length_set];omega) l[i] fun w₇ hu7 ho7=>?_
    have hsw:((A'.reverse ++ y :: l[i] :: R).set (A'.length+1) y).set A'.length l[i]=A'.reverse ++ l[i] :: y :: R:=by
     have:=uv7 A'.reverse R l[i] y
     rw [hA] at this
     exact this
    rw [hsw] at ho7
    refine ⟨⟨A',D ++ [y],rfl,by rw [hAD];simp,?_,(huv5.trans (hF hu6)).trans (hF hu7),?_⟩,by omega⟩
    ·rw [hsk]
     have:sink zh1 l[i] (y :: A')=y :: sink zh1 l[i] A':=by rw [sink,if_pos ht]
     rw [this];simp
    ·have:A'.reverse ++ l[i] :: ((D ++ [y]).reverse ++ l.drop (i+1))=A'.reverse ++ l[i] :: y :: R:=by rw [← hR];simp
     rw [this];exact ho7
   ·refine hend ?_ huv4 ?_
    ·rw [sink,if_neg (by rw [hf];simp)]
    ·simp only [List.reverse_cons,List.append_assoc,List.singleton_append]
     exact hov4
  ·have:A=[]:=List.eq_nil_of_length_eq_zero (by omega)
   subst this
   exact hend rfl huv3 hov3
 ·refine ⟨by trivial,hu,?_⟩
  rcases hi with hi | hi
  ·have:i=l.length:=by omega
   subst this
   rw [un5,List.drop_length,List.append_nil] at ho
   exact ho
  ·subst hi
   have:(pref zh1 l 1).reverse ++ l.drop 1=yx1 zh1 l:=by
    match l,hge with
    | [],_=>rfl
    | [x],_=>rfl
    | x :: y :: l,hge=>simp at hge;omega
   rw [this] at ho
   exact ho
theorem vc8 {w:World} {a:Option Addr} {l:List zb7} {cap cp:Nat} (h:zb6 w a l.length cap T.zc6 5 (l.flatMap zb7.vals)) (hb:∀ t∈l,t.block<1000000) (hl:l.length<20) :
  za0 prog K.zd8 #[.slice a l.length cp,.func (.func K.zj8) #[] #[]] w fun v w'=>v= .tuple #[]∧Upd (fun b=>a=some ⟨b,0,none⟩) w w'∧zb6 w' a (yx1 zh1 l).length cap T.zc6 5 ((yx1 zh1 l).flatMap zb7.vals):=by
 apply zd8.sh
 have key:za0 prog K.ze1 #[.slice a l.length cp,.int .i64 l.length,.func (.func K.zj8) #[] #[]] w fun v w'=>v= .tuple #[]∧Upd (fun b=>a=some ⟨b,0,none⟩) w w'∧zb6 w' a (yx1 zh1 l).length cap T.zc6 5 ((yx1 zh1 l).flatMap zb7.vals):=by
  apply ze1.sh
  refine ⟨fun x y u=>x=0∧y=20∧u=w,fun _ _ _=>0,⟨rfl,rfl,rfl⟩,?_⟩
  rintro x y u ⟨rfl,rfl,rfl⟩
  refine za8 (fun h=>by omega) fun _=>?_
  refine (xr4 (cp:=cp) h hb (by omega)).mono ?_
  rintro _ w₃ ⟨rfl,hu,ho⟩
  refine ⟨rfl,fun x u=>x=20∧u=w₃,fun _ _=>0,⟨rfl,rfl⟩,?_⟩
  rintro x v ⟨rfl,rfl⟩
  exact za8 (fun h=>by omega) fun _=>⟨by trivial,hu,ho⟩
 refine key.mono ?_
 rintro _ w' ⟨rfl,hr⟩
 exact ⟨rfl,by trivial,hr⟩
theorem zs9 (P:Pool) (c:Chip) (n:Nat):(zt0 P c n).length≤n:=by
 unfold zt0
 exact Nat.le_trans (List.length_filterMap_le _ _) (by simp)
theorem yq4 (P:Pool) (c:Chip) (n:Nat):zt0 P c (n+1)=zt0 P c n ++ if (P.blk n).what=2 then [⟨n,(P.blk n).head,c.isBad n⟩] else []:=by
 unfold zt0
 rw [List.range_succ,List.filterMap_append]
 congr 1
 simp only [List.filterMap_cons,List.filterMap_nil]
 split<;>simp_all
theorem ym6 {P:Pool} {c:Chip} {n:Nat} {t:zb7} (h:t∈zt0 P c n):t.block<n:=by
 unfold zt0 at h
 rw [List.mem_filterMap] at h
 obtain ⟨i,hi,h⟩:=h
 split at h
 ·simp at h hi
  rw [← h];exact hi
 ·cases h
theorem ve9 {w:World} {M:PLoc} {P:Pool} {c:Chip} {L:Loc} {G:Nat→Prop} (h:PC w M P c L G) (hnb:c.nb<20) :
  za0 prog K.zn0 #[.pointer (some ⟨M.q,0,none⟩)] w fun v w'=>Ext w w'∧∃ a cap,v= .slice a (zc1 P c).length cap∧zb6 w' a (zc1 P c).length cap T.zc6 5 ((zc1 P c).flatMap zb7.vals)∧zm9 w a:=by
 apply zn0.sh
 unfold zn0.body
 refine (yc0 h).mono ?_
 rintro _ _ ⟨rfl,rfl⟩
 rename_i w
 refine ⟨_,rfl,?_⟩
 simp only [br_false,nilC_some',add_lit]
 refine ⟨_,_,_,za2 h.head rfl,?_⟩
 refine ⟨fun a l cap x u=>∃ i:Nat,x=i∧i≤c.nb∧l=(zt0 P c i).length∧Ext w u∧zb6 u a (zt0 P c i).length cap T.zc6 5 ((zt0 P c i).flatMap zb7.vals)∧zm9 w a,fun _ _ _ x _=>(c.nb - x).toNat,
  ⟨0,rfl,by omega,rfl,Upd.refl _ _,zb6.nil _ _ _,zm9.none _⟩,?_⟩
 rintro a l cap x u ⟨i,rfl,hi,rfl,hu,ho,hf⟩
 have hpu:=h.ext hu
 refine za8 (fun hlt=>?_) fun hge=>?_
 ·have hi':i<c.nb:=by omega
  have e1:IntKind.i64.wrap ((i:Int)+1)=((i+1:Nat):Int):=w64 (by omega) (by omega)
  have hlen:=zs9 P c i
  have hsucc:=yq4 P c i
  refine hpu.idx hi' fun hr=>?_
  refine ⟨(P.blk i).what,(P.blk i).head.kind.toNat,(P.blk i).head.era,(P.blk i).head.seq,za6.cells hr,fun B w₃ hn3=>?_⟩
  refine zc8 hn3.get (by simp) fun w₄ hput4=>?_
  have hB:B=u.heap.size:=hn3.num
  have hsu:=hu.size
  have e34:Ext u w₄:=Put.upd hn3.upd hput4 (.inl (by omega))
  have e4:=hu.trans e34
  have hg4:=hput4.get
  rw [yf1 _ _ (by simp)] at hg4
  have hp4:=h.ext e4
  refine ⟨(P.blk i).what,za2 hg4 rfl,zi1 (fun h2=>?_) fun h2=>?_⟩
  ·rw [if_pos (by omega)] at hsucc
   intro w₅ hd5
   have e5:=e4.trans hd5.upd
   have hp5:=h.ext e5
   have hg5:=Ext.get hd5.upd hg4
   have hs3:=hn3.size
   have hs4:=hput4.size
   have hown:∀ b,a=some ⟨b,0,none⟩→w.heap.size≤b∧b<u.heap.size:=fun b hb=>⟨hf _ hb,zb6.blk ho hb⟩
   have hqw:M.q<w.heap.size:=(Array.getElem?_eq_some_iff.1 h.head).1
   refine ⟨fun v=>Upd (fun b=>a=some ⟨b,0,none⟩) w₅ v,Upd.refl _ _,(P.blk i).head.kind.toNat,(P.blk i).head.era,(P.blk i).head.seq,fun v hv=>?_,_,fun v hv=>za2 (hv.get hp5.head (fun e=>by have:=hown _ e;omega)) rfl,?_⟩
   ·have:=hv.get hg5 (fun e=>by have:=hown _ e;omega)
    exact zl2 (o:=1) this (fun j v hj=>by
     match j,hj with
     | 0,hj=>simpa using hj
     | 1,hj=>simpa using hj
     | 2,hj=>simpa using hj
     | j+3,hj=>simp at hj)
   refine (yc3 hp5.chip _).mono ?_
   rintro _ _ ⟨rfl,rfl⟩
   rename_i w₅
   have hd0:decide ((0:Int)≤((i:Nat):Int))=true:=decide_eq_true (by omega)
   refine ⟨_,rfl,Upd.refl _ _,?_⟩
   rw [hd0,Bool.true_and,Int.toNat_natCast]
   intro B2 w₇ hn7
   refine ⟨Upd.ext hn7.upd,?_⟩
   have ho7:zb6 w₇ a (zt0 P c i).length cap T.zc6 5 ((zt0 P c i).flatMap zb7.vals):=zb6.ext ho ((e34.trans hd5.upd).trans hn7.upd)
   refine xo7 (f:=zb7.vals) zb7.vals_length (x:=⟨i,(P.blk i).head,c.isBad i⟩) ho7 (by simp [zb7.vals]) hn7 rfl (by intro v hv;simp [zb7.vals] at hv;rcases hv with rfl | rfl | rfl | rfl | rfl<;>rfl) rfl (by omega) (by omega) fun a' c' w₈ hu8 ho8 hf8=>?_
   rw [← hsucc] at ho8 ⊢
   have e7:=e5.trans hn7.upd
   refine ⟨(Upd.ext hn7.upd).trans hu8,⟨i+1,e1,hi',rfl,Upd.beyond e7 hu8 (fun x hx=>(hown x hx).1),ho8,?_⟩,by rw [e1];exact meas hi'⟩
   rcases hf8 with rfl | ⟨b,rfl,hb⟩
   ·exact hf
   ·exact zm9.some (by have:=e7.size;omega)
  ·rw [if_neg (by omega),List.append_nil] at hsucc
   refine ⟨⟨i+1,e1,hi',by rw [hsucc],e4,by rw [hsucc];exact zb6.ext ho e34,hf⟩,by rw [e1];exact meas hi'⟩
 ·have:i=c.nb:=by omega
  subst this
  have hlen:=zs9 P c c.nb
  refine (vc8 (cp:=cap) ho (fun t ht=>by have:=ym6 ht;omega) (by omega)).mono ?_
  rintro _ w₉ ⟨rfl,hu9,ho9⟩
  have e9:Ext w w₉:=Upd.beyond hu hu9 (fun x hx=>hf _ hx)
  refine ⟨rfl,e9,a,cap,?_,ho9,hf⟩
  unfold zc1
  rw [yb6]
def zw9 (c:Chip) (i:Int):Head×Bool:=if c.ask i 0≠0 then (Head.none,false) else ((zk7 (c.page i.toNat 0)).1,decide ((zk7 (c.page i.toNat 0)).2=0))
def ui4 (t:zb7) (l:List zb7):Nat:=(l.takeWhile fun x=>decide (x.head.seq≤t.head.seq)).length
def xr5 (t:zb7) (l:List zb7):List zb7:=l.take (ui4 t l) ++ [t] ++ l.drop (ui4 t l)
def yf2 (c:Chip):Nat→List zb7
 | 0=>[]
 | i+1=>if (zw9 c i).2 then xr5 ⟨i,(zw9 c i).1,c.isBad i⟩ (yf2 c i) else yf2 c i
def zc5 (c:Chip):List zb7:=yf2 c c.nb
def xe1 (c:Chip):Nat:=((List.range c.nb).filter fun i:Nat=> !(zw9 c i).2 && !c.isBad i).length
theorem uc7 (t:zb7) (l:List zb7):(xr5 t l).length=l.length+1:=by
 unfold xr5
 simp
 omega
theorem xw2 (c:Chip) (i:Nat):(yf2 c i).length≤i:=by
 induction i with
 | zero=>simp [yf2]
 | succ i ih =>
  unfold yf2
  split
  ·rw [uc7];omega
  ·omega
theorem xv9 {α:Type} (p:α→Bool):∀ (l:List α) (k:Nat) (hk:k≤l.length),(∀ x∈l.take k,p x=true)→(∀ (h:k<l.length),p l[k]=false)→(l.takeWhile p).length=k
 | [],k,hk,_,_=>by simp at hk;simp [hk]
 | x :: l,0,_,_,h=>by
  have:=h (by simp)
  have:p x=false:=this
  simp [List.takeWhile_cons,this]
 | x :: l,k+1,hk,ha,h=>by
  have hx:p x=true:=ha x (by simp)
  rw [List.takeWhile_cons,if_pos hx,List.length_cons]
  congr 1
  refine xv9 p l k (by simpa using hk) (fun y hy=>ha y (by simp [hy])) (fun hlt=>?_)
  have:=h (by simpa using hlt)
  simpa using this
theorem yl3 {w:World} {p:Nat} {c:Chip} {L:Loc} {G:Nat→Prop} (h:zg9 w p c L G) (i:Int) :
  za0 prog K.zo8 #[.pointer (some ⟨p,0,none⟩),.int .i64 i] w fun v w'=>Ext w w'∧v= .tuple #[uk2 (zw9 c i).1,.bool (zw9 c i).2]:=by
 apply zo8.sh
 intro B w₁ hn
 have hB:B=w.heap.size:=hn.num
 rw [yh2] at hn
 have h1:=h.ext hn.upd
 refine (yh0 h1 i 0).mono ?_
 rintro v w₂ ⟨he2,hv⟩
 have e2:=hn.upd.trans he2
 have hg2:=Ext.get he2 hn.get
 split at hv
 ·rename_i h0
  obtain ⟨a,cp,rfl,hba,hcp,hfa⟩:=hv
  refine ⟨_,_,_,_,rfl,zg8 (fun h=>by omega) fun _=>?_⟩
  obtain ⟨hd,hb0,hb1,_,hp1⟩:=xt0 h0
  have hpl:(c.page i.toNat 0).length=c.sz:=yt5 h.ok hb1 (by have:=h.ok.np1;omega)
  simp only [tn0] at hba
  have hgh:=yv7 (c:=cp) hba (by omega)
  rw [hpl] at hgh
  refine hgh.mono ?_
  rintro _ w₄ ⟨he4,rfl⟩
  have e4:=e2.trans he4
  refine ⟨_,_,_,_,rfl,fun B2 w₅ hn5=>?_⟩
  have hB2:B2=w₄.heap.size:=hn5.num
  rw [yh2] at hn5
  have hs4:=e4.size
  have hs12:=hn.size
  have hs1:=he2.size
  have hs3:=he4.size
  refine zx4 (h:=(zk7 (c.page i.toNat 0)).1) hn5.get rfl fun w₆ hput6=>?_
  have hg6:w₆.heap[B]?=_:=hput6.upd1.get (Ext.get hn5.upd (Ext.get he4 hg2)) (by omega)
  have e6:Ext w w₆:=Put.upd (e4.trans hn5.upd) hput6 (.inl (by omega))
  refine ⟨_,_,_,zo5 hput6.get,zx4 hg6 rfl fun w₇ hput7=>⟨_,_,_,zo5 hput7.get,Put.upd e6 hput7 (.inl (by omega)),?_⟩⟩
  unfold zw9
  rw [if_neg (by omega)]
  simp only [Value.tuple.injEq]
  congr 4
  rw [Bool.eq_iff_iff]
  simp
 ·rename_i h0
  subst hv
  refine ⟨_,_,_,_,rfl,zg8 (fun _=>?_) fun h=>by omega⟩
  refine zx4 (h:=Head.none) hg2 rfl fun w₃ hput=>⟨_,_,_,zo5 hput.get,Put.upd e2 hput (.inl (by omega)),?_⟩
  unfold zw9
  rw [if_pos h0]
theorem yr0 (t:zb7):∀ v∈t.vals,v.oneCell'=true:=by
 intro v hv
 simp [zb7.vals] at hv
 rcases hv with rfl | rfl | rfl | rfl | rfl<;>rfl
theorem vh5 {w:World} {p:Nat} {c:Chip} {L:Loc} {G:Nat→Prop} (h:zg9 w p c L G) {a:Option Addr} {out:List zb7} {cap i j B:Nat} {hd:Head} (ho:zb6 w a out.length cap T.zc6 5 (out.flatMap zb7.vals)) (hl:out.length≤1000) (hj:j≤out.length)
  (hB:w.heap[B]?=some (.cells hd.vals.toArray T.zx7 (0,0))) {Q:Option Addr→Nat→Nat→World→Prop}
  (hk:∀ a' c' w',Ext w w'→zb6 w' a' (out.take j ++ [zb7.mk i hd (c.isBad i)] ++ out.drop j).length c' T.zc6 5 ((out.take j ++ [zb7.mk i hd (c.isBad i)] ++ out.drop j).flatMap zb7.vals)→zm9 w a'→Q a' (out.take j ++ [zb7.mk i hd (c.isBad i)] ++ out.drop j).length c' w') :
  zi0 5 a out.length cap none (some (j:Int)) none fun a2 l2 c2 =>
    zb5 T.zc6 5 32 [Value.int .i64 0,Value.int .u8 0,Value.int .u32 0,Value.int .u64 0,Value.bool false] none 0 0 (Value.slice a2 l2 c2) w fun a3 l3 c3 w8 =>
    ∀ w9:World,Drew w8 w9→
    ∃ S2:World→Prop,S2 w9∧
    ∃ x12:Int,∃ x13:Int,∃ x14:Int,(∀ u3,S2 u3→za3 u3 ⟨B,0,none⟩ [Value.int .u8 x12,Value.int .u32 x13,Value.int .u64 x14] 0)∧
    za0 prog K.zh7 #[Value.pointer (some ⟨p,0,none⟩),Value.int .i64 (i:Int)] w9 fun v3 w10 =>
    ∃ b2:Bool,v3=Value.bool b2∧S2 w10∧
    ∀ (B2:Nat) (w11:World),New w10 (.cells #[Value.int .i64 (i:Int),Value.int .u8 x12,Value.int .u32 x13,Value.int .u64 x14,Value.bool b2] T.zc6) B2 w11→S2 w11∧
    zb5 T.zc6 5 32 [Value.int .i64 0,Value.int .u8 0,Value.int .u32 0,Value.int .u64 0,Value.bool false] a3 l3 c3 (Value.slice (some ⟨B2,0,none⟩) 1 1) w11 fun a4 l4 c4 w12=>S2 w12∧
    zi0 5 a out.length cap (some (j:Int)) none none fun a5 l5 c5 =>
    zb5 T.zc6 5 32 [Value.int .i64 0,Value.int .u8 0,Value.int .u32 0,Value.int .u64 0,Value.bool false] a4 l4 c4 (Value.slice a5 l5 c5) w12 fun a6 l6 c6 w13=>Q a6 l6 c6 w13:=by
 have hcap:=ho.2.1
 refine qd7 (by omega) (by omega) hcap ?_
 rw [Int.toNat_natCast]
 have hr1:za6 w a ((out.take j).flatMap zb7.vals):=by rw [← ud8 zb7.vals_length];exact za6.take ho.row _
 refine vk4 (f:=zb7.vals) zb7.vals_length (l:=[]) (xs:=out.take j) (zb6.nil _ _ _) hr1 rfl (by simp;omega) (fun x _=>yr0 x) rfl (by simp;omega) (by omega) fun a3 c3 w₈ hu8 ho8 hf8=>?_
 have e8:Ext w w₈:=hu8.mono (fun x _ hx=>by cases hx)
 have hf8':zm9 w a3:=by
  rcases hf8 with rfl | ⟨b,rfl,hb⟩
  ·exact zm9.none _
  ·exact zm9.some hb
 intro w₉ hd9
 have e9:=e8.trans hd9.upd
 have h9:=h.ext e9
 have hg9:=Ext.get e9 hB
 have hBw:B<w.heap.size:=(Array.getElem?_eq_some_iff.1 hB).1
 refine ⟨fun u=>u.heap[B]?=some (.cells hd.vals.toArray T.zx7 (0,0)),hg9,hd.kind.toNat,hd.era,hd.seq,fun u hu=>zo5 hu,?_⟩
 refine (yc3 h9 _).mono ?_
 rintro _ _ ⟨rfl,rfl⟩
 rename_i w₉
 have hd0:decide ((0:Int)≤((i:Nat):Int))=true:=decide_eq_true (by omega)
 refine ⟨_,rfl,hg9,?_⟩
 rw [hd0,Bool.true_and,Int.toNat_natCast]
 intro B2 w₁₁ hn11
 have hg11:=Ext.get hn11.upd hg9
 refine ⟨hg11,?_⟩
 have ho11:=zb6.ext (zb6.ext ho8 hd9.upd) hn11.upd
 refine xo7 (f:=zb7.vals) zb7.vals_length (x:=⟨i,hd,c.isBad i⟩) ho11 (by simp [zb7.vals]) hn11 rfl (yr0 _) rfl (by simp;omega) (by omega) fun a4 c4 w₁₂ hu12 ho12 hf12=>?_
 have e11:=e9.trans hn11.upd
 have e12:Ext w w₁₂:=Upd.beyond e11 hu12 (fun x hx=>hf8' _ hx)
 have hf12':zm9 w a4:=by
  rcases hf12 with rfl | ⟨b,rfl,hb⟩
  ·exact hf8'
  ·exact zm9.some (by have:=e11.size;omega)
 refine ⟨Ext.get e12 hB,?_⟩
 refine yl8 (by omega) (by omega) hcap ?_
 rw [Int.toNat_natCast]
 have hr2:za6 w₁₂ (if cap=j then a else a.map (·.add (j * 5))) ((out.drop j).flatMap zb7.vals):=by
  rw [← vi1 zb7.vals_length];exact qd9 (za6.ext ho.row e12) (by rw [xa8 zb7.vals_length]) hcap
 refine vk4 (f:=zb7.vals) zb7.vals_length (xs:=out.drop j) ho12 hr2 rfl (by simp) (fun x _=>yr0 x) rfl (by simp;omega) (by omega) fun a6 c6 w₁₃ hu13 ho13 hf13=>?_
 have e13:Ext w w₁₃:=Upd.beyond e12 hu13 (fun x hx=>hf12' _ hx)
 simp only [List.nil_append] at ho13 ⊢
 refine hk a6 c6 w₁₃ e13 ho13 ?_
 rcases hf13 with rfl | ⟨b,rfl,hb⟩
 ·exact hf12'
 ·exact zm9.some (by have:=e12.size;omega)
theorem xb4 {w:World} {p:Nat} {c:Chip} {L:Loc} {G:Nat→Prop} (h:zg9 w p c L G) :
  za0 prog K.zm5 #[.pointer (some ⟨p,0,none⟩)] w fun v w'=>Ext w w'∧∃ a cap,v= .slice a (zc5 c).length cap∧zb6 w' a (zc5 c).length cap T.zc6 5 ((zc5 c).flatMap zb7.vals)∧zm9 w a:=by
 apply zm5.sh
 have hnb:=h.ok.nb2
 refine ⟨fun a l cap x u=>∃ i:Nat,x=i∧i≤c.nb∧l=(yf2 c i).length∧Ext w u∧zb6 u a (yf2 c i).length cap T.zc6 5 ((yf2 c i).flatMap zb7.vals)∧zm9 w a,fun _ _ _ x _=>(c.nb - x).toNat,
  ⟨0,rfl,by omega,rfl,Upd.refl _ _,zb6.nil _ _ _,zm9.none _⟩,?_⟩
 rintro a l cap x u ⟨i,rfl,hi,rfl,hu,ho,hf⟩
 have hlen:=xw2 c i
 refine (yc2 (h.ext hu)).mono ?_
 rintro _ w₂ ⟨rfl,he2⟩
 have e2:=hu.trans he2
 refine ⟨_,_,_,_,rfl,za8 (fun hlt=>?_) fun hge=>?_⟩
 ·have hi':i<c.nb:=by omega
  have e1:IntKind.i64.wrap ((i:Int)+1)=((i+1:Nat):Int):=w64 (by omega) (by omega)
  refine (yl3 (h.ext e2) (i:Int)).mono ?_
  rintro _ w₃ ⟨he3,rfl⟩
  have e3:=e2.trans he3
  refine ⟨_,_,_,_,rfl,fun B w₄ hn4=>?_⟩
  rw [yh2] at hn4
  refine zx4 (h:=(zw9 c i).1) hn4.get rfl fun w₅ hput5=>?_
  have hB:B=w₃.heap.size:=hn4.num
  have hs3:=e3.size
  have e5:Ext w w₅:=Put.upd (e3.trans hn4.upd) hput5 (.inl (by omega))
  have eu3:Ext u w₃:=he2.trans he3
  have hsu3:=eu3.size
  have eu5:Ext u w₅:=Put.upd (eu3.trans hn4.upd) hput5 (.inl (by omega))
  have hgo:yf2 c (i+1)=if (zw9 c i).2 then xr5 ⟨i,(zw9 c i).1,c.isBad i⟩ (yf2 c i) else yf2 c i:=by rw [yf2]
  cases hh:(zw9 c i).2 with
  | false =>
   simp only [Bool.not_false,br_true]
   rw [hh] at hgo
   simp only [Bool.false_eq_true,if_false] at hgo
   exact ⟨⟨i+1,e1,hi',by rw [hgo],e5,by rw [hgo];exact zb6.ext ho eu5,hf⟩,by rw [e1];exact meas hi'⟩
  | true =>
   simp only [Bool.not_true,br_false]
   rw [hh] at hgo
   simp only [if_true] at hgo
   refine ⟨fun y v=>∃ j:Nat,y=j∧j≤(yf2 c i).length∧Ext w₅ v∧∀ t∈(yf2 c i).take j,t.head.seq≤(zw9 c i).1.seq,fun y _=>((yf2 c i).length - y).toNat,⟨0,rfl,by omega,Upd.refl _ _,fun t ht=>by simp at ht⟩,?_⟩
   rintro y v ⟨j,rfl,hj,hv5,hall⟩ w₇ hd7
   have e57:=hv5.trans hd7.upd
   have e7:=e5.trans e57
   have ho7:=zb6.ext (zb6.ext ho eu5) e57
   have hg7:=Ext.get e57 hput5.get
   have hins:(∀ (hlt:j<(yf2 c i).length),decide ((yf2 c i)[j].head.seq≤(zw9 c i).1.seq)=false)→(yf2 c i).take j ++ [⟨i,(zw9 c i).1,c.isBad i⟩] ++ (yf2 c i).drop j=yf2 c (i+1):=by
    intro hstop
    have hpos:ui4 ⟨i,(zw9 c i).1,c.isBad i⟩ (yf2 c i)=j:=xv9 _ _ j hj (fun t ht=>decide_eq_true (hall t ht)) hstop
    rw [hgo]
    unfold xr5
    rw [hpos]
   refine ⟨fun z=>z=w₇,rfl,za8 (fun hlt=>?_) fun hge=>?_⟩
   ·have hj':j<(yf2 c i).length:=by omega
    refine zx3 (f:=zb7.vals) zb7.vals_length (by omega) ho7.row rfl hj' fun b o hab hr=>?_
    simp only [add_lit]
    obtain ⟨b',o',hab',hc⟩:=za6.cell hr (i:=3) (v:=.int .u64 (yf2 c i)[j].head.seq) rfl
    cases hab'
    refine ⟨_,fun z hz=>hz ▸ hc,_,fun z hz=>hz ▸ za2 hg7 rfl,za8 (fun hle=>?_) fun hgt=>?_⟩
    ·have e2:IntKind.i64.wrap ((j:Int)+1)=((j+1:Nat):Int):=w64 (by omega) (by omega)
     rw [e2]
     refine ⟨⟨j+1,rfl,hj',e57,fun t ht=>?_⟩,meas hj'⟩
     rw [List.take_succ_eq_append_getElem hj'] at ht
     rcases List.mem_append.1 ht with ht | ht
     ·exact hall t ht
     ·simp at ht
      subst ht
      omega
    ·have hin:=hins (fun _=>decide_eq_false (by omega))
     refine vh5 (i:=i) (h.ext e7) ho7 (by omega) hj hg7 fun a6 c6 w₁₃ he13 ho13 hf13=>?_
     rw [hin] at ho13 ⊢
     exact ⟨⟨i+1,e1,hi',rfl,e7.trans he13,ho13,zm9.mono hf13 e7.size⟩,by rw [e1];exact meas hi'⟩
   ·have hin:=hins (fun h=>by omega)
    refine vh5 (i:=i) (h.ext e7) ho7 (by omega) hj hg7 fun a6 c6 w₁₃ he13 ho13 hf13=>?_
    rw [hin] at ho13 ⊢
    exact ⟨⟨i+1,e1,hi',rfl,e7.trans he13,ho13,zm9.mono hf13 e7.size⟩,by rw [e1];exact meas hi'⟩
 ·have:i=c.nb:=by omega
  subst this
  exact ⟨e2,a,cap,rfl,zb6.ext ho he2,hf⟩
theorem yy4 {w:World} {p:Nat} {c:Chip} {L:Loc} {G:Nat→Prop} (h:zg9 w p c L G) :
  za0 prog K.zn3 #[.pointer (some ⟨p,0,none⟩)] w fun v w'=>v= .int .i64 (xe1 c:Nat)∧Ext w w':=by
 apply zn3.sh
 have hnb:=h.ok.nb2
 refine ⟨fun x y u=>∃ i:Nat,y=i∧i≤c.nb∧Ext w u∧x=(((List.range i).filter fun i:Nat=> !(zw9 c i).2 && !c.isBad i).length:Nat),fun _ y _=>(c.nb - y).toNat,⟨0,rfl,by omega,Upd.refl _ _,rfl⟩,?_⟩
 rintro x y u ⟨i,rfl,hi,hu,rfl⟩
 have hle:((List.range i).filter fun i:Nat=> !(zw9 c i).2 && !c.isBad i).length≤i:=Nat.le_trans (List.length_filter_le _ _) (by simp)
 refine (yc2 (h.ext hu)).mono ?_
 rintro _ w₂ ⟨rfl,he2⟩
 have e2:=hu.trans he2
 refine ⟨_,_,_,_,rfl,za8 (fun hlt=>?_) fun hge=>?_⟩
 ·have hi':i<c.nb:=by omega
  have e1:IntKind.i64.wrap ((i:Int)+1)=((i+1:Nat):Int):=w64 (by omega) (by omega)
  refine (yl3 (h.ext e2) (i:Int)).mono ?_
  rintro _ w₃ ⟨he3,rfl⟩
  have e3:=e2.trans he3
  refine ⟨_,_,_,_,rfl,fun B w₄ hn4=>?_⟩
  rw [yh2] at hn4
  refine zx4 (h:=(zw9 c i).1) hn4.get rfl fun w₅ hput5=>?_
  have hB:B=w₃.heap.size:=hn4.num
  have hs3:=e3.size
  have e5:Ext w w₅:=Put.upd (e3.trans hn4.upd) hput5 (.inl (by omega))
  have hrs:∀ b:Bool,(!(zw9 c i).2 && !c.isBad i)=b→(((List.range (i+1)).filter fun i:Nat=> !(zw9 c i).2 && !c.isBad i).length:Nat)=((List.range i).filter fun i:Nat=> !(zw9 c i).2 && !c.isBad i).length+if b then 1 else 0:=by
   intro b hb
   rw [List.range_succ,List.filter_append,List.length_append]
   simp only [List.filter_cons,hb,List.filter_nil]
   cases b<;>rfl
  cases hh:(zw9 c i).2 with
  | false =>
   simp only [Bool.not_false,br_true]
   refine (yc3 (h.ext e5) _).mono ?_
   rintro _ _ ⟨rfl,rfl⟩
   rename_i w₅
   have hd0:decide ((0:Int)≤((i:Nat):Int))=true:=decide_eq_true (by omega)
   refine ⟨_,rfl,?_⟩
   rw [hd0,Bool.true_and,Int.toNat_natCast,e1]
   cases hb:c.isBad i with
   | false =>
    have:=hrs true (by rw [hh,hb];rfl)
    refine ⟨⟨i+1,rfl,hi',e5,?_⟩,meas hi'⟩
    rw [this,w64 (by omega) (by omega)]
    simp
   | true =>
    have:=hrs false (by rw [hh,hb];rfl)
    refine ⟨⟨i+1,rfl,hi',e5,?_⟩,meas hi'⟩
    rw [this]
    simp
  | true =>
   simp only [Bool.not_true,br_false]
   have:=hrs false (by rw [hh];rfl)
   rw [e1]
   refine ⟨⟨i+1,rfl,hi',e5,?_⟩,meas hi'⟩
   rw [this]
   simp
 ·have:i=c.nb:=by omega
  subst this
  exact ⟨by trivial,e2⟩
section
set_option maxRecDepth 100000
def zf8 (nb np sz sp:Nat):Chip:=⟨nb,np,sz,sp,List.replicate nb (List.replicate (np * sz) 255),List.replicate nb false,[],0,false,0⟩
end
def CIn (F:Nat→Prop) (A:Nat) (w:World) (p:Nat) (c:Chip):Prop:=∃ L G,zg9 w p c L G∧(∀ x,x∈p :: L.bb :: L.locs→F x)∧∀ x,G x→A≤x∧x<w.heap.size
def PIn (F:Nat→Prop) (A:Nat) (w:World) (M:PLoc) (P:Pool) (c:Chip):Prop:=∃ L G,PC w M P c L G∧(∀ x,PF M L x→F x)∧∀ x,G x→A≤x∧x<w.heap.size
theorem CIn.ext {F:Nat→Prop} {A:Nat} {w w':World} {p:Nat} {c:Chip} (h:CIn F A w p c) (k:Ext w w'):CIn F A w' p c:=by
 obtain ⟨L,G,hr,hF,hG⟩:=h
 exact ⟨L,G,hr.ext k,hF,fun x hx=>⟨(hG x hx).1,Nat.lt_of_lt_of_le (hG x hx).2 k.size⟩⟩
theorem PIn.ext {F:Nat→Prop} {A:Nat} {w w':World} {M:PLoc} {P:Pool} {c:Chip} (h:PIn F A w M P c) (k:Ext w w'):PIn F A w' M P c:=by
 obtain ⟨L,G,hr,hF,hG⟩:=h
 exact ⟨L,G,hr.ext k,hF,fun x hx=>⟨(hG x hx).1,Nat.lt_of_lt_of_le (hG x hx).2 k.size⟩⟩
theorem PIn.chip {F:Nat→Prop} {A:Nat} {w:World} {M:PLoc} {P:Pool} {c:Chip} (h:PIn F A w M P c):CIn F A w M.p c:=by
 obtain ⟨L,G,hr,hF,hG⟩:=h
 exact ⟨L,G,hr.chip,fun x hx=>hF x (.inr (.inr hx)),hG⟩
theorem CIn.ok {F:Nat→Prop} {A:Nat} {w:World} {p:Nat} {c:Chip} (h:CIn F A w p c):c.Ok:=by
 obtain ⟨L,G,hr,hF,hG⟩:=h
 exact hr.ok
theorem qn2 {F:Nat→Prop} {A:Nat} {w:World} {p:Nat} {c:Chip} (h:CIn F A w p c) :
  za0 prog K.ye4 #[.pointer (some ⟨p,0,none⟩)] w fun v w'=>Ext w w'∧
   if c.dead then v= .tuple #[.pointer none,.int .i64 10]
   else ∃ M:PLoc,M.p=p∧v= .tuple #[.pointer (some ⟨M.q,0,none⟩),.int .i64 0]∧PIn (fun x=>F x∨(w.heap.size≤x∧x<w'.heap.size)) A w' M (zh5 c) c:=by
 obtain ⟨L,G,hr,hF,hG⟩:=h
 refine (xk2 hr (fun x hx=>(hG x hx).2)).mono ?_
 rintro v w' ⟨he,hv⟩
 refine ⟨he,?_⟩
 split at hv
 ·rename_i hd
  rw [if_pos hd];exact hv
 ·rename_i hd
  rw [if_neg hd]
  obtain ⟨q,pb,rfl,hq,hpb,hq',hpb',hp⟩:=hv
  refine ⟨⟨q,pb,c.nb,p⟩,rfl,rfl,L,G,hp,fun x hx=>?_,fun x hx=>⟨(hG x hx).1,Nat.lt_of_lt_of_le (hG x hx).2 he.size⟩⟩
  rcases hx with hx | hx | hx
  ·have:x=q:=hx
   exact .inr (by omega)
  ·have:x=pb:=hx
   exact .inr (by omega)
  ·exact .inl (hF x hx)
theorem vu3 {F:Nat→Prop} {A:Nat} {w:World} {M:PLoc} {P:Pool} {c:Chip} (h:PIn F A w M P c) :
  za0 prog K.zi4 #[.pointer (some ⟨M.q,0,none⟩)] w fun v w'=>v= .int .i64 (zh3 P c:Nat)∧Ext w w':=by
 obtain ⟨L,G,hr,hF,hG⟩:=h
 exact xz4 hr
theorem pLast {F:Nat→Prop} {A:Nat} {w:World} {M:PLoc} {P:Pool} {c:Chip} (h:PIn F A w M P c) :
  za0 prog K.zs1 #[.pointer (some ⟨M.q,0,none⟩)] w fun v w'=>v= .int .u64 (P.last:Nat)∧w'=w:=by
 obtain ⟨L,G,hr,hF,hG⟩:=h
 exact vm3 hr
theorem ur5 {F:Nat→Prop} {A:Nat} {w:World} {M:PLoc} {P:Pool} {c:Chip} (h:PIn F A w M P c) :
  za0 prog K.zj0 #[.pointer (some ⟨M.q,0,none⟩)] w fun v w'=>v= .pointer (some ⟨M.p,0,none⟩)∧w'=w:=by
 obtain ⟨L,G,hr,hF,hG⟩:=h
 exact vm5 hr
def vx4 (w w':World) (v:Value) (l:List zb7):Prop:=∃ a cap,v= .slice a l.length cap∧zb6 w' a l.length cap T.zc6 5 (l.flatMap zb7.vals)∧zm9 w a
theorem qg7 {F:Nat→Prop} {A:Nat} {w:World} {M:PLoc} {P:Pool} {c:Chip} (h:PIn F A w M P c) (hnb:c.nb<20) {l:List zb7} (hl:zc1 P c=l) :
  za0 prog K.zn0 #[.pointer (some ⟨M.q,0,none⟩)] w fun v w'=>Ext w w'∧vx4 w w' v l:=by
 subst hl
 obtain ⟨L,G,hr,hF,hG⟩:=h
 exact ve9 hr hnb
theorem qm2 {F:Nat→Prop} {A:Nat} {w:World} {p:Nat} {c:Chip} (h:CIn F A w p c) :
  za0 prog K.zm5 #[.pointer (some ⟨p,0,none⟩)] w fun v w'=>Ext w w'∧vx4 w w' v (zc5 c):=by
 obtain ⟨L,G,hr,hF,hG⟩:=h
 exact xb4 hr
theorem cBad {F:Nat→Prop} {A:Nat} {w:World} {p:Nat} {c:Chip} (h:CIn F A w p c) (i:Int) :
  za0 prog K.zh7 #[.pointer (some ⟨p,0,none⟩),.int .i64 i] w fun v w'=>v= .bool (decide (0≤i) && c.isBad i.toNat)∧w'=w:=by
 obtain ⟨L,G,hr,hF,hG⟩:=h
 exact yc3 hr i
theorem vy4 (P:Pool) (c:Chip) (kind:UInt8) (era:Nat):c.SameGeo (zf0 P c kind era).chip:=by
 have go:∀ (ks:List Nat) (P:Pool) (c:Chip),c.SameGeo (zp3 kind era P c ks).chip:=by
  intro ks
  induction ks with
  | nil=>intro P c;exact .refl _
  | cons k ks ih =>
   intro P c
   unfold zp3
   split
   ·exact ih P c
   ·split
    ·exact xh9 _ _ _ _ _
    ·split
     ·exact xh9 _ _ _ _ _
     ·exact (xh9 P c _ kind era).trans (ih _ _)
 unfold zf0
 split
 ·exact .refl _
 ·split
  ·exact .refl _
  ·exact go _ _ _
theorem zu7 {w:World} {cs:Array Value} {T:TypeId} {vs:List Value} {K:Nat→World→Prop} (hl:vs.length=cs.size)
  (hk:∀ B w2,B=w.heap.size→w2.heap.size=w.heap.size+1→Ext w w2→w2.heap[B]?=some (.cells vs.toArray T (0,0))→K B w2) :
  ∀ (B:Nat) (w1:World),New w (.cells cs T) B w1→za5 w1 ⟨B,0,none⟩ vs (fun w2=>K B w2):=by
 intro B w1 hn
 refine zc8 hn.get (by simp [hl]) fun w2 hp=>?_
 have hB:B=w.heap.size:=hn.num
 refine hk B w2 hB (by rw [hp.size,hn.size]) (Put.upd hn.upd hp (.inl (by omega))) ?_
 have:=hp.get
 rwa [yf1 _ _ hl.symm] at this
theorem zz3 {w:World} {B:Nat} {vs:List Value} {T:TypeId} {fr:Nat×Nat} (h:w.heap[B]?=some (.cells vs.toArray T fr)):za3 w ⟨B,0,none⟩ vs 0 :=
 zl2 (o:=0) h fun j v hj=>by simpa using hj
theorem ui1 {w:World} {B:Nat} {cs:Array Value} {vs:List Value} {T:TypeId} {K:World→Prop} (h:w.heap[B]?=some (.cells cs T (0,0))) (hl:vs.length=cs.size)
  (hk:∀ w2,Upd (·=B) w w2→w2.heap.size=w.heap.size→w2.heap[B]?=some (.cells vs.toArray T (0,0))→K w2):za5 w ⟨B,0,none⟩ vs K:=by
 refine zc8 h (by simp [hl]) fun w2 hp=>hk w2 hp.upd1 hp.size ?_
 have:=hp.get
 rwa [yf1 _ _ hl.symm] at this
theorem xy0 {Q:Nat→Prop} (h:∃ n,Q n):∃ n,Q n∧∀ m,Q m→n≤m:=by
 obtain ⟨n,hn⟩:=h
 induction n using Nat.strongRecOn with
 | _ n ih =>
  by_cases hx:∃ m,m<n∧Q m
  ·obtain ⟨m,h1,h2⟩:=hx
   exact ih m h1 h2
  ·exact ⟨n,hn,fun m hm=>Nat.le_of_not_lt fun hlt=>hx ⟨m,hlt,hm⟩⟩
open Classical in
noncomputable def qf1 (Q:Nat→Prop):Nat:=if h:∃ n,Q n then Classical.choose (xy0 h) else 0
theorem vq3 {Q:Nat→Prop} (h:∃ n,Q n):Q (qf1 Q)∧∀ m,Q m→qf1 Q≤m:=by
 unfold qf1
 rw [dif_pos h]
 exact Classical.choose_spec (xy0 h)
def LJ (J':Nat→World→Prop):World→Prop:=fun u=>∃ n,J' n u
noncomputable def Lμ (J':Nat→World→Prop):World→Nat:=fun u=>qf1 fun n=>J' n u
theorem uz6 {J':Nat→World→Prop} {u:World} (h:LJ J' u):∃ n,J' n u∧∀ m u',m<n→J' m u'→LJ J' u'∧Lμ J' u' < Lμ J' u:=by
 obtain ⟨h1,_⟩:=vq3 (Q:=fun n=>J' n u) h
 refine ⟨_,h1,fun m u' hm hj=>⟨⟨m,hj⟩,?_⟩⟩
 exact Nat.lt_of_le_of_lt ((vq3 (Q:=fun n=>J' n u') ⟨m,hj⟩).2 m hj) hm
theorem u8b (x y:UInt8):((x.toNat:Int) == (y.toNat:Int))=(x == y):=by
 rw [Bool.eq_iff_iff]
 simp only [beq_iff_eq,Int.natCast_inj,UInt8.toNat_inj]
section
structure ERep (α:Type) where
 k:Nat
 R:World→(Nat→Prop)→List Value→α→Prop
 pos:1≤k
 len:∀ {w G vs x},R w G vs x→vs.length=k
 one:∀ {w G vs x},R w G vs x→∀ v∈vs,v.oneCell'=true
 upd:∀ {w w' F G vs x},R w G vs x→Upd F w w'→(∀ b,G b→¬ F b)→R w' G vs x
 mono:∀ {w G G' vs x},R w G vs x→(∀ b,G b→G' b)→R w G' vs x
 cells:∀ {w w' G vs x},R w G vs x→ye9 w w'→R w' G vs x
section
variable {α:Type} (r:ERep α)
def Rows (w:World) (G:Nat→Prop):List Value→List α→Prop
 | vs,[]=>vs=[]
 | vs,x :: l=>∃ u t,vs=u ++ t∧r.R w G u x∧Rows w G t l
variable {r}
theorem Rows.len {w:World} {G:Nat→Prop}:∀ {l:List α} {vs:List Value},Rows r w G vs l→vs.length=l.length * r.k
 | [],vs,h=>by cases h;simp
 | x :: l,vs,⟨u,t,e,hu,ht⟩=>by rw [e,List.length_append,r.len hu,Rows.len ht,List.length_cons,Nat.succ_mul];omega
theorem Rows.one {w:World} {G:Nat→Prop}:∀ {l:List α} {vs:List Value},Rows r w G vs l→∀ v∈vs,v.oneCell'=true
 | [],vs,h=>by cases h;simp
 | x :: l,vs,⟨u,t,e,hu,ht⟩=>by
  intro v hv
  rw [e,List.mem_append] at hv
  rcases hv with hv | hv
  ·exact r.one hu v hv
  ·exact Rows.one ht v hv
theorem Rows.upd {w w':World} {F G:Nat→Prop} (k:Upd F w w') (hf:∀ b,G b→¬ F b):∀ {l:List α} {vs:List Value},Rows r w G vs l→Rows r w' G vs l
 | [],vs,h=>h
 | x :: l,vs,⟨u,t,e,hu,ht⟩=>⟨u,t,e,r.upd hu k hf,Rows.upd k hf ht⟩
theorem Rows.ext {w w':World} {G:Nat→Prop} {l:List α} {vs:List Value} (h:Rows r w G vs l) (k:Ext w w'):Rows r w' G vs l:=Rows.upd k (fun _ _ hf=>hf) h
theorem Rows.mono {w:World} {G G':Nat→Prop} (hg:∀ b,G b→G' b):∀ {l:List α} {vs:List Value},Rows r w G vs l→Rows r w G' vs l
 | [],vs,h=>h
 | x :: l,vs,⟨u,t,e,hu,ht⟩=>⟨u,t,e,r.mono hu hg,Rows.mono hg ht⟩
theorem Rows.cellsLe {w w':World} {G:Nat→Prop} (k:ye9 w w'):∀ {l:List α} {vs:List Value},Rows r w G vs l→Rows r w' G vs l
 | [],vs,h=>h
 | x :: l,vs,⟨u,t,e,hu,ht⟩=>⟨u,t,e,r.cells hu k,Rows.cellsLe k ht⟩
theorem Rows.append {w:World} {G:Nat→Prop}:∀ {l m:List α} {vs us:List Value},Rows r w G vs l→Rows r w G us m→Rows r w G (vs ++ us) (l ++ m)
 | [],m,vs,us,h,h2=>by cases h;simpa using h2
 | x :: l,m,vs,us,⟨u,t,e,hu,ht⟩,h2=>⟨u,t ++ us,by rw [e,List.append_assoc],hu,Rows.append ht h2⟩
theorem Rows.single {w:World} {G:Nat→Prop} {vs:List Value} {x:α} (h:r.R w G vs x):Rows r w G vs [x]:=⟨vs,[],by simp,h,rfl⟩
theorem Rows.drop {w:World} {G:Nat→Prop}:∀ {l:List α} {vs:List Value} (i:Nat),Rows r w G vs l→Rows r w G (vs.drop (i * r.k)) (l.drop i)
 | l,vs,0,h=>by simpa using h
 | [],vs,i+1,h=>by cases h;simp;rfl
 | x :: l,vs,i+1,⟨u,t,e,hu,ht⟩=>by
  have hl:=r.len hu
  rw [e,List.drop_succ_cons,Nat.succ_mul,Nat.add_comm,← List.drop_drop]
  have:(u ++ t).drop r.k=t:=by rw [← hl];simp
  rw [this]
  exact Rows.drop i ht
theorem Rows.take {w:World} {G:Nat→Prop}:∀ {l:List α} {vs:List Value} (i:Nat),Rows r w G vs l→Rows r w G (vs.take (i * r.k)) (l.take i)
 | l,vs,0,h=>by simp;rfl
 | [],vs,i+1,h=>by cases h;simp;rfl
 | x :: l,vs,i+1,⟨u,t,e,hu,ht⟩=>by
  have hl:=r.len hu
  rw [e,List.take_succ_cons,Nat.succ_mul,Nat.add_comm,List.take_append,hl]
  rw [List.take_of_length_le (by omega)]
  exact ⟨u,_,rfl,hu,by rw [Nat.add_sub_cancel_left];exact Rows.take i ht⟩
theorem Rows.get {w:World} {G:Nat→Prop} {l:List α} {vs:List Value} (h:Rows r w G vs l) {i:Nat} (hi:i<l.length):r.R w G ((vs.drop (i * r.k)).take r.k) l[i]:=by
 have h1:=Rows.drop i h
 rw [List.drop_eq_getElem_cons hi] at h1
 obtain ⟨u,t,e,hu,ht⟩:=h1
 have hl:=r.len hu
 rw [e,← hl]
 simpa using hu
theorem Rows.set {w:World} {G:Nat→Prop} {l:List α} {vs us:List Value} (h:Rows r w G vs l) {i:Nat} (hi:i<l.length) {x:α} (hx:r.R w G us x):Rows r w G (vs.take (i * r.k) ++ us ++ vs.drop (i * r.k+r.k)) (l.set i x):=by
 rw [List.set_eq_take_append_cons_drop,if_pos hi]
 have e:l.take i ++ x :: l.drop (i+1)=(l.take i ++ [x]) ++ l.drop (i+1):=by simp
 rw [e,← Nat.succ_mul]
 exact ((Rows.take i h).append (Rows.single hx)).append (Rows.drop (i+1) h)
variable (r)
def zb0 (w:World) (G:Nat→Prop) (a:Option Addr) (l:List α):Prop:=∃ vs,za6 w a vs∧Rows r w G vs l∧(l≠[]→∀ p,a=some p→G p.block)
def OwnS (w:World) (G:Nat→Prop) (a:Option Addr) (cap:Nat) (e:TypeId) (l:List α):Prop:=∃ vs,zb6 w a l.length cap e r.k vs∧Rows r w G vs l
variable {r}
theorem zb0.nil (w:World) (G:Nat→Prop) (a:Option Addr):zb0 r w G a []:=⟨[],za6.nil _ _,rfl,fun h=>(h rfl).elim⟩
theorem zb0.upd {w w':World} {F G:Nat→Prop} {a:Option Addr} {l:List α} (h:zb0 r w G a l) (k:Upd F w w') (hf:∀ b,G b→¬ F b):zb0 r w' G a l:=by
 obtain ⟨vs,h1,h2,h3⟩:=h
 cases l with
 | nil=>exact zb0.nil _ _ _
 | cons x l=>exact ⟨vs,za6.upd h1 k (fun p hp=>hf _ (h3 (by simp) p hp)),Rows.upd k hf h2,h3⟩
theorem zb0.ext {w w':World} {G:Nat→Prop} {a:Option Addr} {l:List α} (h:zb0 r w G a l) (k:Ext w w'):zb0 r w' G a l:=zb0.upd h k fun _ _ hf=>hf
theorem zb0.cellsLe {w w':World} {G:Nat→Prop} {a:Option Addr} {l:List α} (h:zb0 r w G a l) (k:ye9 w w'):zb0 r w' G a l:=by
 obtain ⟨vs,h1,h2,h3⟩:=h
 exact ⟨vs,za6.cellsLe h1 k,Rows.cellsLe k h2,h3⟩
theorem zb0.mono {w:World} {G G':Nat→Prop} {a:Option Addr} {l:List α} (h:zb0 r w G a l) (hg:∀ b,G b→G' b):zb0 r w G' a l:=by
 obtain ⟨vs,h1,h2,h3⟩:=h
 exact ⟨vs,h1,Rows.mono hg h2,fun hn p hp=>hg _ (h3 hn p hp)⟩
theorem zb0.take {w:World} {G:Nat→Prop} {a:Option Addr} {l:List α} (h:zb0 r w G a l) (i:Nat):zb0 r w G a (l.take i):=by
 obtain ⟨vs,h1,h2,h3⟩:=h
 exact ⟨_,za6.take h1 (i * r.k),Rows.take i h2,fun hn=>h3 (fun e=>hn (by rw [e];simp))⟩
theorem zb0.drop {w:World} {G:Nat→Prop} {b o:Nat} {l:List α} (h:zb0 r w G (some ⟨b,o,none⟩) l) (i:Nat):zb0 r w G (some ⟨b,o+i * r.k,none⟩) (l.drop i):=by
 obtain ⟨vs,h1,h2,h3⟩:=h
 refine ⟨_,za6.drop h1 (i * r.k),Rows.drop i h2,fun hn p hp=>?_⟩
 cases hp
 exact h3 (fun e=>hn (by rw [e];simp)) ⟨b,o,none⟩ rfl
theorem zb0.blk {w:World} {G:Nat→Prop} {a:Option Addr} {l:List α} (h:zb0 r w G a l) (hn:l≠[]):∃ b o,a=some ⟨b,o,none⟩∧b<w.heap.size∧G b:=by
 obtain ⟨vs,h1,h2,h3⟩:=h
 have hl:=Rows.len h2
 have:vs≠[]:=List.ne_nil_of_length_pos (by rw [hl];exact Nat.mul_pos (List.length_pos_iff.2 hn) r.pos)
 obtain ⟨b,o,e,hb⟩:=za6.blk h1 this
 exact ⟨b,o,e,hb,h3 hn _ e⟩
theorem zb0.idx {w:World} {G:Nat→Prop} {a:Option Addr} {l:List α} (h:zb0 r w G a l) {n i:Nat} (hn:n=l.length) (hi:i<l.length) {K:Addr→Prop}
  (hk:∀ b o vs,a=some ⟨b,o,none⟩→za6 w (some ⟨b,o+i * r.k,none⟩) vs→r.R w G vs l[i]→G b→K ⟨b,o+i * r.k,none⟩):idxP a n (i:Int) r.k K:=by
 subst hn
 refine ⟨by omega,by omega,?_⟩
 obtain ⟨b,o,rfl,hb,hG⟩:=h.blk (List.ne_nil_of_length_pos (by omega))
 obtain ⟨vs,h1,h2,h3⟩:=h
 simp only [nilC_some',add_lit,Int.toNat_natCast]
 exact hk b o _ rfl (za6.take (za6.drop h1 (i * r.k)) r.k) (h2.get hi) hG
theorem OwnS.nil (w:World) (G:Nat→Prop) (e:TypeId):OwnS r w G none 0 e []:=⟨[],zb6.nil _ _ _,rfl⟩
theorem OwnS.upd {w w':World} {F G:Nat→Prop} {a:Option Addr} {cap:Nat} {e:TypeId} {l:List α} (h:OwnS r w G a cap e l) (k:Upd F w w') (hf:∀ b,G b→¬ F b) (ha:∀ b,a=some ⟨b,0,none⟩→¬ F b):OwnS r w' G a cap e l:=by
 obtain ⟨vs,h1,h2⟩:=h
 exact ⟨vs,zb6.upd h1 k ha,Rows.upd k hf h2⟩
theorem OwnS.ext {w w':World} {G:Nat→Prop} {a:Option Addr} {cap:Nat} {e:TypeId} {l:List α} (h:OwnS r w G a cap e l) (k:Ext w w'):OwnS r w' G a cap e l:=OwnS.upd h k (fun _ _ hf=>hf) (fun _ _ hf=>hf)
theorem OwnS.cellsLe {w w':World} {G:Nat→Prop} {a:Option Addr} {cap:Nat} {e:TypeId} {l:List α} (h:OwnS r w G a cap e l) (k:ye9 w w'):OwnS r w' G a cap e l:=by
 obtain ⟨vs,h1,h2⟩:=h
 exact ⟨vs,h1.cellsLe k,Rows.cellsLe k h2⟩
theorem OwnS.mono {w:World} {G G':Nat→Prop} {a:Option Addr} {cap:Nat} {e:TypeId} {l:List α} (h:OwnS r w G a cap e l) (hg:∀ b,G b→G' b):OwnS r w G' a cap e l:=by
 obtain ⟨vs,h1,h2⟩:=h
 exact ⟨vs,h1,Rows.mono hg h2⟩
theorem OwnS.at_ {w:World} {G:Nat→Prop} {a:Option Addr} {cap:Nat} {e:TypeId} {l:List α} (h:OwnS r w G a cap e l) (hg:∀ p,a=some p→G p.block):zb0 r w G a l:=by
 obtain ⟨vs,h1,h2⟩:=h
 exact ⟨vs,h1.row,h2,fun _=>hg⟩
theorem OwnS.cap {w:World} {G:Nat→Prop} {a:Option Addr} {cap:Nat} {e:TypeId} {l:List α} (h:OwnS r w G a cap e l):l.length≤cap:=by
 obtain ⟨vs,h1,h2⟩:=h
 exact h1.2.1
theorem OwnS.blk {w:World} {G:Nat→Prop} {a:Option Addr} {cap:Nat} {e:TypeId} {l:List α} (h:OwnS r w G a cap e l) {q:Addr} (hq:a=some q):∃ b,a=some ⟨b,0,none⟩∧b<w.heap.size∧q=⟨b,0,none⟩:=by
 obtain ⟨vs,⟨_,_,hx⟩,h2⟩:=h
 rcases hx with ⟨hx,_⟩| ⟨b,cur,hx,hb,_⟩
 ·rw [hx] at hq;cases hq
 ·rw [hx] at hq;cases hq;exact ⟨b,hx,(Array.getElem?_eq_some_iff.1 hb).1,rfl⟩
theorem OwnS.push {w₀ w₁:World} {G:Nat→Prop} {a:Option Addr} {cap n bytes:Nat} {e:TypeId} {l:List α} {z:List Value} (h:OwnS r w₁ G a cap e l) {B:Nat} {x:α} {cs:Array Value} (hx:r.R w₁ G cs.toList x) (hn:New w₀ (.cells cs e) B w₁) (hnl:n=l.length)
  (hz:z.length=r.k) (hb:l.length≤1000000000) (hby:bytes≤10000) (hG:∀ b,a=some ⟨b,0,none⟩→¬ G b) {K:Option Addr→Nat→Nat→World→Prop}
  (hk:∀ a' c' w',Upd (fun b=>a=some ⟨b,0,none⟩) w₁ w'→OwnS r w' G a' c' e (l ++ [x])→(a'=a∨∃ b,a'=some ⟨b,0,none⟩∧w₁.heap.size≤b)→K a' (l ++ [x]).length c' w') :
  zb5 e r.k bytes z a n cap (.slice (some ⟨B,0,none⟩) 1 1) w₁ K:=by
 subst hnl
 obtain ⟨vs,ho,hr⟩:=h
 have hl:=r.len hx
 have hrow:za6 w₁ (some ⟨B,0,none⟩) cs.toList:=za6.of hn.get fun j v hj=>by simpa using hj
 refine yb0 ho rfl (zu8 hrow (by rw [hl];omega)) (by rw [hl];omega) (r.one hx) hz ?_ (by omega) fun a' c' w' hu ho' hf'=>?_
 ·have:(2 * (l.length+1)+192) * bytes≤(2 * (1000000000+1)+192) * 10000:=Nat.mul_le_mul (by omega) hby
  omega
 ·have:=hk a' c' w' hu ⟨_,by simpa using ho',Rows.upd hu (fun b hb hb'=>hG b hb' hb) (hr.append (Rows.single hx))⟩ hf'
  simpa using this
theorem OwnS.concat {w₁:World} {G:Nat→Prop} {a ax:Option Addr} {cap cx n m bytes:Nat} {e:TypeId} {l xs:List α} {z:List Value} (h:OwnS r w₁ G a cap e l) (hx:zb0 r w₁ G ax xs) (hnl:n=l.length) (hm:m=xs.length)
  (hz:z.length=r.k) (hb:l.length+xs.length≤1000000000) (hby:bytes≤10000) (hG:∀ b,a=some ⟨b,0,none⟩→¬ G b) {K:Option Addr→Nat→Nat→World→Prop}
  (hk:∀ a' c' w',Upd (fun b=>a=some ⟨b,0,none⟩) w₁ w'→OwnS r w' G a' c' e (l ++ xs)→(a'=a∨∃ b,a'=some ⟨b,0,none⟩∧w₁.heap.size≤b)→K a' (l ++ xs).length c' w') :
  zb5 e r.k bytes z a n cap (.slice ax m cx) w₁ K:=by
 subst hnl;subst hm
 obtain ⟨vs,ho,hr⟩:=h
 obtain ⟨us,hu1,hu2,hu3⟩:=hx
 refine yb0 ho rfl (zu8 hu1 (by rw [Rows.len hu2])) (by rw [Rows.len hu2]) (Rows.one hu2) hz ?_ (by omega) fun a' c' w' hu ho' hf'=>?_
 ·have:(2 * (l.length+xs.length)+192) * bytes≤(2 * 1000000000+192) * 10000:=Nat.mul_le_mul (by omega) hby
  omega
 ·have:=hk a' c' w' hu ⟨_,by simpa using ho',Rows.upd hu (fun b hb hb'=>hG b hb' hb) (hr.append hu2)⟩ hf'
  simpa using this
theorem OwnS.store {w:World} {G:Nat→Prop} {b cap:Nat} {e:TypeId} {l:List α} (h:OwnS r w G (some ⟨b,0,none⟩) cap e l) (hG:¬ G b) {i:Nat} (hi:i<l.length) {us:List Value} {x:α} (hx:r.R w G us x) {K:World→Prop}
  (hk:∀ w',Upd (·=b) w w'→OwnS r w' G (some ⟨b,0,none⟩) cap e (l.set i x)→K w'):za5 w ⟨b,i * r.k,none⟩ us K:=by
 obtain ⟨vs,ho,hr⟩:=h
 have hl:=r.len hx
 have hvl:=Rows.len hr
 have hin:i * r.k+r.k≤l.length * r.k:=by
  have:=Nat.mul_le_mul_right r.k (show i+1≤l.length from hi)
  rwa [Nat.succ_mul] at this
 refine yj6 ho (by omega) fun w' hu ho'=>hk w' hu ⟨vs.take (i * r.k) ++ us ++ vs.drop (i * r.k+us.length),?_,?_⟩
 ·rw [List.length_set];exact ho'
 ·have:=Rows.upd hu (fun b' hb hb'=>hG (by subst hb';exact hb)) (hr.set hi hx)
  rw [hl];exact this
end
def ut8 {α:Type} (f:α→List Value) (k:Nat) (hk:1≤k) (hl:∀ x,(f x).length=k) (h1:∀ x,∀ v∈f x,v.oneCell'=true):ERep α where
 k:=k
 R:=fun _ _ vs x=>vs=f x
 pos:=hk
 len:=fun h=>by rw [h,hl]
 one:=fun h=>by rw [h];exact h1 _
 upd:=fun h _ _=>h
 mono:=fun h _=>h
 cells:=fun h _=>h
def ERep.pair {α β γ:Type} (r:ERep β) (s:ERep γ) (f:α→β) (g:α→γ):ERep α where
 k:=r.k+s.k
 R:=fun w G vs x=>∃ u v,vs=u ++ v∧r.R w G u (f x)∧s.R w G v (g x)
 pos:=Nat.le_trans r.pos (Nat.le_add_right _ _)
 len:=fun ⟨u,v,e,hu,hv⟩=>by rw [e,List.length_append,r.len hu,s.len hv]
 one:=fun ⟨u,v,e,hu,hv⟩=>by
  rw [e]
  intro z hz
  rcases List.mem_append.1 hz with hz | hz
  ·exact r.one hu z hz
  ·exact s.one hv z hz
 upd:=fun ⟨u,v,e,hu,hv⟩ k hf=>⟨u,v,e,r.upd hu k hf,s.upd hv k hf⟩
 mono:=fun ⟨u,v,e,hu,hv⟩ hg=>⟨u,v,e,r.mono hu hg,s.mono hv hg⟩
 cells:=fun ⟨u,v,e,hu,hv⟩ k=>⟨u,v,e,r.cells hu k,s.cells hv k⟩
def un2 {β:Type} (r:ERep β):ERep (List β) where
 k:=1
 R:=fun w G vs x=>∃ a c,vs=[.slice a x.length c]∧x.length≤c∧zb0 r w G a x
 pos:=Nat.le_refl _
 len:=fun ⟨a,c,e,_⟩=>by rw [e];rfl
 one:=fun ⟨a,c,e,_⟩=>by
  rw [e]
  intro v hv
  simp at hv
  rw [hv];rfl
 upd:=fun ⟨a,c,e,hc,h⟩ k hf=>⟨a,c,e,hc,h.upd k hf⟩
 mono:=fun ⟨a,c,e,hc,h⟩ hg=>⟨a,c,e,hc,h.mono hg⟩
 cells:=fun ⟨a,c,e,hc,h⟩ k=>⟨a,c,e,hc,h.cellsLe k⟩
def xh2:ERep (List UInt8) where
 k:=1
 R:=fun w G vs x=>∃ a c,vs=[.slice a x.length c]∧x.length≤c∧za4 w a x∧(x≠[]→∀ p,a=some p→G p.block)
 pos:=Nat.le_refl _
 len:=fun ⟨a,c,e,_⟩=>by rw [e];rfl
 one:=fun ⟨a,c,e,_⟩=>by
  rw [e]
  intro v hv
  simp at hv
  rw [hv];rfl
 upd:=fun {w w' F G vs x} ⟨a,c,e,hc,hb,hg⟩ k hf=>⟨a,c,e,hc,za4.updM hb k hg hf,hg⟩
 mono:=fun ⟨a,c,e,hc,hb,hg⟩ hh=>⟨a,c,e,hc,hb,fun hn p hp=>hh _ (hg hn p hp)⟩
 cells:=fun ⟨a,c,e,hc,hb,hg⟩ k=>⟨a,c,e,hc,za6.cellsLe hb k,hg⟩
end
section
section
variable {α:Type}
def zb4 (r:ERep α) (Q:Nat→Prop) (S:Nat) (w:World) (a:Option Addr) (cap:Nat) (e:TypeId) (l:List α):Prop :=
 ∃ G,OwnS r w G a cap e l∧(∀ x,G x→(S≤x∨Q x)∧x<w.heap.size)∧∀ b,a=some ⟨b,0,none⟩→S≤b∧¬ G b
variable {r:ERep α} {Q:Nat→Prop} {S:Nat}
theorem zb4.nil (w:World) (e:TypeId):zb4 r Q S w none 0 e []:=⟨NoB,OwnS.nil _ _ _,fun _ h=>h.elim,fun _ h=>by cases h⟩
theorem zb4.ext {w w':World} {a:Option Addr} {cap:Nat} {e:TypeId} {l:List α} (h:zb4 r Q S w a cap e l) (k:Ext w w'):zb4 r Q S w' a cap e l:=by
 obtain ⟨G,h1,h2,h3⟩:=h
 exact ⟨G,h1.ext k,fun x hx=>⟨(h2 x hx).1,Nat.lt_of_lt_of_le (h2 x hx).2 k.size⟩,h3⟩
theorem zb4.cellsLe {w w':World} {a:Option Addr} {cap:Nat} {e:TypeId} {l:List α} (h:zb4 r Q S w a cap e l) (k:ye9 w w'):zb4 r Q S w' a cap e l:=by
 obtain ⟨G,h1,h2,h3⟩:=h
 exact ⟨G,h1.cellsLe k,fun x hx=>⟨(h2 x hx).1,Nat.lt_of_lt_of_le (h2 x hx).2 k.size⟩,h3⟩
theorem zb4.upd {w w':World} {F:Nat→Prop} {a:Option Addr} {cap:Nat} {e:TypeId} {l:List α} (h:zb4 r Q S w a cap e l) (k:Upd F w w') (hF:∀ x,F x→x<S∧¬ Q x):zb4 r Q S w' a cap e l:=by
 obtain ⟨G,h1,h2,h3⟩:=h
 refine ⟨G,h1.upd k (fun b hb hf=>?_) (fun b hb hf=>?_),fun x hx=>⟨(h2 x hx).1,Nat.lt_of_lt_of_le (h2 x hx).2 k.size⟩,h3⟩
 ·have hf':=hF b hf
  rcases (h2 b hb).1 with hq | hq
  ·omega
  ·exact hf'.2 hq
 ·have hf':=hF b hf
  have:=(h3 b hb).1
  omega
theorem zb4.lt {w:World} {a:Option Addr} {cap:Nat} {e:TypeId} {l:List α} (h:zb4 r Q S w a cap e l) {b:Nat} (hb:a=some ⟨b,0,none⟩):b<w.heap.size:=by
 obtain ⟨G,h1,_⟩:=h
 obtain ⟨b',h2,h3,h4⟩:=h1.blk hb
 cases h4
 exact h3
theorem zb4.cap {w:World} {a:Option Addr} {cap:Nat} {e:TypeId} {l:List α} (h:zb4 r Q S w a cap e l):l.length≤cap:=by
 obtain ⟨G,h1,_⟩:=h
 exact h1.cap
theorem zb4.slice {w:World} {a:Option Addr} {cap:Nat} {e:TypeId} {l:List α} (h:zb4 r Q S w a cap e l):∃ G,zb0 r w G a l∧∀ x,G x→(S≤x∨Q x)∧x<w.heap.size:=by
 obtain ⟨G,h1,h2,h3⟩:=h
 refine ⟨fun x=>G x∨a=some ⟨x,0,none⟩,(h1.mono fun _ hb=>.inl hb).at_ fun p hp=>?_,fun x hx=>?_⟩
 ·obtain ⟨b,hb,_,rfl⟩:=h1.blk hp
  exact .inr hb
 ·rcases hx with hx | hx
  ·exact h2 x hx
  ·obtain ⟨b,hb,hlt,e⟩:=h1.blk hx
   cases e
   exact ⟨.inl (h3 _ hx).1,hlt⟩
theorem zb4.weak {w:World} {Q':Nat→Prop} {S':Nat} {a:Option Addr} {cap:Nat} {e:TypeId} {l:List α} (h:zb4 r Q S w a cap e l) (hS:S'≤S) (hQ:∀ x,Q x→S'≤x∨Q' x):zb4 r Q' S' w a cap e l:=by
 obtain ⟨G,h1,h2,h3⟩:=h
 refine ⟨G,h1,fun x hx=>⟨?_,(h2 x hx).2⟩,fun b hb=>⟨Nat.le_trans hS (h3 b hb).1,(h3 b hb).2⟩⟩
 rcases (h2 x hx).1 with h | h
 ·exact .inl (Nat.le_trans hS h)
 ·exact hQ x h
theorem zb4.push {w₀ w₁:World} {H:Nat→Prop} {a:Option Addr} {cap n bytes:Nat} {e:TypeId} {l:List α} {z:List Value} (h:zb4 r Q S w₁ a cap e l) {B:Nat} {x:α} {cs:Array Value} (hx:r.R w₁ H cs.toList x) (hH:∀ b,H b→(S≤b∨Q b)∧b<w₁.heap.size∧a≠some ⟨b,0,none⟩) (hn:New w₀ (.cells cs e) B w₁) (hnl:n=l.length)
  (hz:z.length=r.k) (hb:l.length≤1000000000) (hby:bytes≤10000) (hS:S≤w₁.heap.size) {K:Option Addr→Nat→Nat→World→Prop}
  (hk:∀ a' c' w',Upd (fun b=>S≤b) w₁ w'→zb4 r Q S w' a' c' e (l ++ [x])→K a' (l ++ [x]).length c' w') :
  zb5 e r.k bytes z a n cap (.slice (some ⟨B,0,none⟩) 1 1) w₁ K:=by
 obtain ⟨G,h1,h2,h3⟩:=h
 have hG:∀ b,G b∨H b→(S≤b∨Q b)∧b<w₁.heap.size:=fun b hb=>by
  rcases hb with hb | hb
  ·exact h2 b hb
  ·exact ⟨(hH b hb).1,(hH b hb).2.1⟩
 have hno:∀ b,a=some ⟨b,0,none⟩→¬ (G b∨H b):=fun b hb hb'=>by
  rcases hb' with hb' | hb'
  ·exact (h3 b hb).2 hb'
  ·exact (hH b hb').2.2 hb
 refine OwnS.push (G:=fun b=>G b∨H b) (h1.mono fun _ hb=>.inl hb) (r.mono hx fun _ hb=>.inr hb) hn hnl hz hb hby hno fun a' c' w' hu ho hf=>?_
 refine hk a' c' w' (hu.mono fun b _ hb=>(h3 b hb).1) ⟨_,ho,fun b hb=>⟨(hG b hb).1,Nat.lt_of_lt_of_le (hG b hb).2 hu.size⟩,fun b hb=>?_⟩
 rcases hf with hf | ⟨b',hb',hl⟩
 ·subst hf;exact ⟨(h3 b hb).1,hno b hb⟩
 ·rw [hb'] at hb
  cases hb
  exact ⟨Nat.le_trans hS hl,fun hb=>absurd (hG _ hb).2 (by omega)⟩
theorem zb4.concat {w₁:World} {H:Nat→Prop} {a ax:Option Addr} {cap cx n m bytes:Nat} {e:TypeId} {l xs:List α} {z:List Value} (h:zb4 r Q S w₁ a cap e l) (hx:zb0 r w₁ H ax xs) (hH:∀ b,H b→(S≤b∨Q b)∧b<w₁.heap.size∧a≠some ⟨b,0,none⟩) (hnl:n=l.length) (hm:m=xs.length)
  (hz:z.length=r.k) (hb:l.length+xs.length≤1000000000) (hby:bytes≤10000) (hS:S≤w₁.heap.size) {K:Option Addr→Nat→Nat→World→Prop}
  (hk:∀ a' c' w',Upd (fun b=>S≤b) w₁ w'→zb4 r Q S w' a' c' e (l ++ xs)→K a' (l ++ xs).length c' w') :
  zb5 e r.k bytes z a n cap (.slice ax m cx) w₁ K:=by
 obtain ⟨G,h1,h2,h3⟩:=h
 have hG:∀ b,G b∨H b→(S≤b∨Q b)∧b<w₁.heap.size:=fun b hb=>by
  rcases hb with hb | hb
  ·exact h2 b hb
  ·exact ⟨(hH b hb).1,(hH b hb).2.1⟩
 have hno:∀ b,a=some ⟨b,0,none⟩→¬ (G b∨H b):=fun b hb hb'=>by
  rcases hb' with hb' | hb'
  ·exact (h3 b hb).2 hb'
  ·exact (hH b hb').2.2 hb
 refine OwnS.concat (G:=fun b=>G b∨H b) (h1.mono fun _ hb=>.inl hb) (hx.mono fun _ hb=>.inr hb) hnl hm hz hb hby hno fun a' c' w' hu ho hf=>?_
 refine hk a' c' w' (hu.mono fun b _ hb=>(h3 b hb).1) ⟨_,ho,fun b hb=>⟨(hG b hb).1,Nat.lt_of_lt_of_le (hG b hb).2 hu.size⟩,fun b hb=>?_⟩
 rcases hf with hf | ⟨b',hb',hl⟩
 ·subst hf;exact ⟨(h3 b hb).1,hno b hb⟩
 ·rw [hb'] at hb
  cases hb
  exact ⟨Nat.le_trans hS hl,fun hb=>absurd (hG _ hb).2 (by omega)⟩
end
theorem Ext.own {w w₁ w':World} {S:Nat} (h:Ext w w₁) (k:Upd (fun b=>S≤b) w₁ w') (hS:w.heap.size≤S):Ext w w':=h.beyond k fun x hx=>Nat.le_trans hS hx
end
abbrev St:=Option (List UInt8)
def zj7 (k:Nat):St→Nat×Nat×St
 | some l=>if l.length<k then (0,4,none) else (zd0 (l.take k),0,some (l.drop k))
 | none=>(0,4,none)
def cutS (k:Nat):St→List UInt8×Nat×St
 | some l=>if l.length<k then ([],4,none) else (l.take k,0,some (l.drop k))
 | none=>([],4,none)
def rowS (s:St):List UInt8×Nat×St:=if (zj7 1 s).2.1=0 then cutS (zj7 1 s).1 (zj7 1 s).2.2 else ([],4,none)
def vu9:St→Nat
 | some l=>l.length
 | none=>0
theorem xl6 (k:Nat) (s:St):zj7 k s=(0,4,none)∨∃ l,s=some l∧k≤l.length∧zj7 k s=(zd0 (l.take k),0,some (l.drop k)):=by
 cases s with
 | none=>exact .inl rfl
 | some l =>
  by_cases h:l.length<k
  ·exact .inl (by simp [zj7,h])
  ·exact .inr ⟨l,rfl,by omega,by simp [zj7,h]⟩
theorem yf0 (k:Nat) (s:St):(zj7 k s).1<256 ^ k:=by
 rcases xl6 k s with h | ⟨l,_,hk,h⟩
 ·rw [h];exact Nat.pow_pos (by omega)
 ·rw [h]
  have:=yo7 (l.take k)
  simpa [Nat.min_eq_left hk] using this
theorem yg4 {k:Nat} {s:St} (h:(zj7 k s).2.1≠0):zj7 k s=(0,4,none):=by
 rcases xl6 k s with h' | ⟨l,_,hk,h'⟩
 ·exact h'
 ·rw [h'] at h;exact absurd rfl h
theorem vr6 (k:Nat) (s:St):cutS k s=([],4,none)∨∃ l,s=some l∧k≤l.length∧cutS k s=(l.take k,0,some (l.drop k)):=by
 cases s with
 | none=>exact .inl rfl
 | some l =>
  by_cases h:l.length<k
  ·exact .inl (by simp [cutS,h])
  ·exact .inr ⟨l,rfl,by omega,by simp [cutS,h]⟩
theorem vb0 {s:St} (h:(rowS s).2.1≠0):rowS s=([],4,none):=by
 unfold rowS at h ⊢
 split
 ·rename_i h0
  rw [if_pos h0] at h
  rcases vr6 (zj7 1 s).1 (zj7 1 s).2.2 with h' | ⟨l,_,_,h'⟩
  ·exact h'
  ·rw [h'] at h;exact absurd rfl h
 ·rfl
theorem xi6 (s:St):(rowS s).1.length<256:=by
 unfold rowS
 split
 ·have hlt:=yf0 1 s
  rcases vr6 (zj7 1 s).1 (zj7 1 s).2.2 with h' | ⟨l,_,_,h'⟩
  ·rw [h'];decide
  ·rw [h']
   simp only [List.length_take]
   omega
 ·decide
def RdIn (G:Nat→Prop) (w:World) (r:Nat):St→Prop
 | some l=>zv9 G w r l false
 | none=>∃ l,zv9 G w r l true
theorem zv9.updG {F G:Nat→Prop} {w w':World} {r:Nat} {l:List UInt8} {no:Bool} (h:zv9 G w r l no) (k:Upd F w w') (hr:¬ F r) (hG:∀ x,G x→¬ F x):zv9 G w' r l no:=by
 obtain ⟨a,c,h1,h2,h3,h4⟩:=h.at_
 exact ⟨a,c,Upd.get k h1 hr,za6.upd h2 k fun p hp=>hG _ (h4 p hp),h3,h4⟩
theorem RdIn.upd {F G:Nat→Prop} {w w':World} {r:Nat}:∀ {s:St},RdIn G w r s→Upd F w w'→¬ F r→(∀ x,G x→¬ F x)→RdIn G w' r s
 | some l,h,k,hr,hG=>zv9.updG h k hr hG
 | none,⟨l,h⟩,k,hr,hG=>⟨l,h.updG k hr hG⟩
theorem RdIn.ext {G:Nat→Prop} {w w':World} {r:Nat} {s:St} (h:RdIn G w r s) (k:Ext w w'):RdIn G w' r s:=h.upd k (fun h=>h) fun _ _ h=>h
theorem ve2 {G:Nat→Prop} {w:World} {r k:Nat} {s:St} (hk:isSz k=true) (hG:¬ G r) (h:RdIn G w r s) :
  za0 prog K.zc3 #[.pointer (some ⟨r,0,none⟩),.int .i64 k] w fun v w'=>Upd (·=r) w w'∧v= .tuple #[.int .u64 ((zj7 k s).1:Nat),.int .i64 ((zj7 k s).2.1:Nat)]∧RdIn G w' r (zj7 k s).2.2:=by
 cases s with
 | none =>
  obtain ⟨l,h⟩:=h
  refine (yi0 r k l true w hk hG h).mono ?_
  rintro v w' ⟨hu,hv⟩
  rw [if_pos (.inl rfl)] at hv
  exact ⟨hu,hv.1,l,hv.2⟩
 | some l =>
  refine (yi0 r k l false w hk hG h).mono ?_
  rintro v w' ⟨hu,hv⟩
  refine ⟨hu,?_⟩
  unfold zj7
  by_cases hl:l.length<k
  ·rw [if_pos (.inr hl)] at hv
   simp only [if_pos hl]
   exact ⟨hv.1,l,hv.2⟩
  ·rw [if_neg (by rintro (h | h);cases h;exact hl h)] at hv
   simp only [if_neg hl]
   exact hv
theorem rdCut {G:Nat→Prop} {w:World} {r k:Nat} {s:St} (hG:¬ G r) (h:RdIn G w r s) :
  za0 prog K.zn2 #[.pointer (some ⟨r,0,none⟩),.int .i64 k] w fun v w'=>Upd (·=r) w w'∧(∃ a c,v= .tuple #[.slice a (cutS k s).1.length c,.int .i64 ((cutS k s).2.1:Nat)]∧za4 w' a (cutS k s).1)∧RdIn G w' r (cutS k s).2.2:=by
 cases s with
 | none =>
  obtain ⟨l,h⟩:=h
  refine (yk3 r k l true w hG h).mono ?_
  rintro v w' ⟨hu,hv⟩
  rw [if_pos (.inl rfl)] at hv
  exact ⟨hu,⟨none,0,hv.1,za4.nil _ _⟩,l,hv.2⟩
 | some l =>
  refine (yk3 r k l false w hG h).mono ?_
  rintro v w' ⟨hu,hv⟩
  refine ⟨hu,?_⟩
  unfold cutS
  by_cases hl:l.length<k
  ·rw [if_pos (.inr hl)] at hv
   simp only [if_pos hl]
   exact ⟨⟨none,0,hv.1,za4.nil _ _⟩,l,hv.2⟩
  ·rw [if_neg (by rintro (h | h);cases h;exact hl h)] at hv
   simp only [if_neg hl]
   obtain ⟨a,c,h1,h2,h3⟩:=hv
   have:(l.take k).length=k:=by simp;omega
   exact ⟨⟨a,c,by rw [this];exact h1,h2⟩,h3⟩
theorem qm0 {G:Nat→Prop} {w:World} {r:Nat} {s:St} (hG:¬ G r) (h:RdIn G w r s) :
  za0 prog K.zq4 #[.pointer (some ⟨r,0,none⟩)] w fun v w'=>Upd (·=r) w w'∧(∃ a c,v= .tuple #[.slice a (rowS s).1.length c,.int .i64 ((rowS s).2.1:Nat)]∧za4 w' a (rowS s).1∧(rowS s).1.length≤c∧∀ p,a=some p→w.heap.size≤p.block∧p.block<w'.heap.size)∧RdIn G w' r (rowS s).2.2:=by
 apply zq4.sh
 unfold zq4.body
 refine (ve2 (k:=1) (by decide) hG h).mono ?_
 rintro _ w₁ ⟨hu,rfl,hr⟩
 refine ⟨_,_,rfl,zg8 (fun he=>?_) fun he=>?_⟩
 ·have he':=yg4 (k:=1) (s:=s) (by omega)
  have hrow:rowS s=([],4,none):=by unfold rowS;rw [he'];rfl
  rw [he'] at hr ⊢
  rw [hrow]
  exact ⟨hu,⟨none,0,rfl,za4.nil _ _,Nat.le_refl _,fun _ h=>by cases h⟩,hr⟩
 ·have he0:(zj7 1 s).2.1=0:=by omega
  have hrow:rowS s=cutS (zj7 1 s).1 (zj7 1 s).2.2:=by unfold rowS;rw [if_pos he0]
  have hlt:=yf0 1 s
  rw [w64n (by omega)]
  refine (rdCut hG hr).mono ?_
  rintro _ w₂ ⟨hu2,⟨a,c,rfl,hb⟩,hr2⟩
  rw [← hrow] at hb hr2 ⊢
  have hlen:=xi6 s
  refine ⟨_,_,_,_,rfl,yi2 hb (by omega) fun a' c' w₃ he hb' hc hf hn=>?_⟩
  refine ⟨(hu.trans hu2).trans he.ext,⟨a',c',rfl,hb',hc,fun p hp=>⟨?_,?_⟩⟩,hr2.ext he⟩
  ·exact Nat.le_trans (Nat.le_trans hu.size hu2.size) (hf p hp)
  ·by_cases hl:(rowS s).1=[]
   ·rw [hn hl] at hp;cases hp
   ·obtain ⟨b,o,hab,hlt⟩:=za6.blk hb' (by simpa using hl)
    rw [hab] at hp;cases hp;exact hlt
theorem qm1 {G:Nat→Prop} {w:World} {r:Nat} {s:St} (h:RdIn G w r s) :
  za0 prog K.zr1 #[.pointer (some ⟨r,0,none⟩)] w fun v w'=>v= .int .i64 (vu9 s:Nat)∧w'=w:=by
 apply zr1.sh
 unfold zr1.body
 cases s with
 | none =>
  obtain ⟨l,h⟩:=h
  refine (yg1 r l true w h).mono ?_
  rintro _ _ ⟨rfl,rfl⟩
  obtain ⟨a,c,hr,_⟩:=h.at_
  refine ⟨_,rfl,?_⟩
  simp only [br_false,nilC_some',add_lit,Nat.zero_add]
  exact ⟨true,za2 hr rfl,by simp [vu9]⟩
 | some l =>
  refine (yg1 r l false w h).mono ?_
  rintro _ _ ⟨rfl,rfl⟩
  obtain ⟨a,c,hr,_⟩:=zv9.at_ h
  refine ⟨_,rfl,?_⟩
  simp only [br_false,nilC_some',add_lit,Nat.zero_add]
  exact ⟨false,za2 hr rfl,a,l.length,c,za2 hr rfl,by simp [vu9]⟩
def yy8 (G:Nat→Prop) (w:World) (r:Nat):St→Prop
 | some l=>yb2 G w r l false∧l.length≤1000000000000
 | none=>∃ l,yb2 G w r l true
theorem yb2.updG {F G:Nat→Prop} {w w':World} {r:Nat} {l:List UInt8} {no:Bool} (h:yb2 G w r l no) (k:Upd F w w') (hr:¬ F r) (hG:∀ x,G x→¬ F x):yb2 G w' r l no:=by
 obtain ⟨a,c,h1,h2,h3,h4⟩:=h.at_
 exact ⟨a,c,Upd.get k h1 hr,za6.upd h2 k fun p hp=>hG _ (h4 p hp),h3,h4⟩
theorem yy8.upd {F G:Nat→Prop} {w w':World} {r:Nat}:∀ {s:St},yy8 G w r s→Upd F w w'→¬ F r→(∀ x,G x→¬ F x)→yy8 G w' r s
 | some l,h,k,hr,hG=>⟨yb2.updG h.1 k hr hG,h.2⟩
 | none,⟨l,h⟩,k,hr,hG=>⟨l,h.updG k hr hG⟩
theorem yy8.ext {G:Nat→Prop} {w w':World} {r:Nat} {s:St} (h:yy8 G w r s) (k:Ext w w'):yy8 G w' r s:=h.upd k (fun h=>h) fun _ _ h=>h
theorem xt6 {G:Nat→Prop} {w:World} {r k:Nat} {s:St} (hk:isSz k=true) (hG:¬ G r) (h:yy8 G w r s) :
  za0 prog K.zb3 #[.pointer (some ⟨r,0,none⟩),.int .i64 k] w fun v w'=>Upd (·=r) w w'∧v= .tuple #[.int .u64 ((zj7 k s).1:Nat),.int .i64 ((zj7 k s).2.1:Nat)]∧yy8 G w' r (zj7 k s).2.2:=by
 cases s with
 | none =>
  obtain ⟨l,h⟩:=h
  refine (zy6 r k l true w hk hG h).mono ?_
  rintro v w' ⟨hu,hv⟩
  rw [if_pos (.inl rfl)] at hv
  exact ⟨hu,hv.1,l,hv.2⟩
 | some l =>
  refine (zy6 r k l false w hk hG h.1).mono ?_
  rintro v w' ⟨hu,hv⟩
  refine ⟨hu,?_⟩
  unfold zj7
  by_cases hl:l.length<k
  ·rw [if_pos (.inr hl)] at hv
   simp only [if_pos hl]
   exact ⟨hv.1,l,hv.2⟩
  ·rw [if_neg (by rintro (h | h);cases h;exact hl h)] at hv
   simp only [if_neg hl]
   exact ⟨hv.1,hv.2,by have:=h.2;rw [List.length_drop];omega⟩
theorem qi2 {G:Nat→Prop} {w:World} {r:Nat} {s:St} (h:yy8 G w r s) :
  za0 prog K.zg0 #[.pointer (some ⟨r,0,none⟩)] w fun v w'=>v= .int .i64 (vu9 s:Nat)∧w'=w:=by
 apply zg0.sh
 unfold zg0.body
 simp only [nilC_some',add_lit,Nat.zero_add]
 cases s with
 | none =>
  obtain ⟨l,h⟩:=h
  obtain ⟨a,c,hr,_⟩:=h.at_
  exact ⟨true,za2 hr rfl,by simp [vu9]⟩
 | some l =>
  obtain ⟨a,c,hr,_⟩:=h.1.at_
  exact ⟨false,za2 hr rfl,a,l.length,c,za2 hr rfl,by simp [vu9]⟩
theorem vy9 {l:List UInt8} (h1:1≤l.length):rowS (some l)=cutS (l.getD 0 0).toNat (some (l.drop 1)):=by
 have e1:zd0 (l.take 1)=(l.getD 0 0).toNat:=by cases l<;>simp [zd0]
 have e2:zj7 1 (some l)=((l.getD 0 0).toNat,0,some (l.drop 1)):=by simp [zj7,Nat.not_lt.2 h1,e1]
 unfold rowS
 rw [e2];rfl
theorem qg6 {G:Nat→Prop} {w:World} {r:Nat} {s:St} (hG:¬ G r) (h:yy8 G w r s) :
  za0 prog K.zf2 #[.pointer (some ⟨r,0,none⟩)] w fun v w'=>Upd (·=r) w w'∧(∃ a c,v= .tuple #[.slice a (rowS s).1.length c,.int .i64 ((rowS s).2.1:Nat)]∧za4 w' a (rowS s).1∧(rowS s).1.length≤c∧∀ p,a=some p→w.heap.size≤p.block∧p.block<w'.heap.size)∧yy8 G w' r (rowS s).2.2:=by
 apply zf2.sh
 unfold zf2.body
 simp only [nilC_some',add_lit,Nat.zero_add]
 have bad:∀ {u:World} {l:List UInt8} {no:Bool},yb2 G u r l no→Ext w u→rowS s=([],4,none)→za5 u ⟨r,1,none⟩ [.bool true] fun w'=>Upd (·=r) w w'∧(∃ a c,Value.tuple #[.slice none 0 0,.int .i64 4]= .tuple #[.slice a (rowS s).1.length c,.int .i64 ((rowS s).2.1:Nat)]∧za4 w' a (rowS s).1∧(rowS s).1.length≤c∧∀ p,a=some p→w.heap.size≤p.block∧p.block<w'.heap.size)∧yy8 G w' r (rowS s).2.2:=by
  intro u l no hr he hrow
  obtain ⟨a,c,h1,h2,h3,h4⟩:=hr.at_
  rw [hrow]
  refine zc8 h1 (by simp) fun w' hput=>⟨Upd.trans he.ext hput.upd1,⟨none,0,rfl,za4.nil _ _,Nat.le_refl _,fun _ h=>by cases h⟩,l,⟨a,c,hput.get,?_,h3,h4⟩⟩
  exact za6.upd h2 hput.upd1 fun p hp e=>hG (e ▸ h4 p hp)
 cases s with
 | none =>
  obtain ⟨l,h⟩:=h
  refine ⟨fun _=>False,fun w₁ hd=>?_,fun _ h=>h.elim⟩
  have hr:=h.updG hd.upd (fun h=>h) (fun _ _ h=>h)
  obtain ⟨a,c,h1,_⟩:=hr.at_
  refine ⟨(·=w₁),rfl,true,?_,?_⟩
  ·rintro u rfl;exact za2 h1 rfl
  ·exact bad hr hd.upd rfl
 | some l =>
  obtain ⟨hrd,hsz⟩:=h
  refine ⟨fun u=>yb2 G u r l false∧Ext w u∧1≤l.length∧(l.getD 0 0).toNat≤l.length - 1,fun w₁ hd=>?_,?_⟩
  ·have hr:=hrd.updG hd.upd (fun h=>h) (fun _ _ h=>h)
   obtain ⟨a,c,h1,h2,h3,h4⟩:=hr.at_
   refine ⟨(·=w₁),rfl,false,?_,?_⟩
   ·rintro u rfl;exact za2 h1 rfl
   ·refine ⟨a,l.length,c,?_,za8 (fun hl=>?_) fun hl=>?_⟩
    ·rintro u rfl;exact za2 h1 rfl
    ·refine bad hr hd.upd ?_
     have:zj7 1 (some l)=(0,4,none):=by simp only [zj7];rw [if_pos (by omega)]
     unfold rowS;rw [this];rfl
    ·have hl1:1≤l.length:=by omega
     refine ⟨a,l.length,c,?_,a,l.length,c,?_,?_⟩
     ·rintro u rfl;exact za2 h1 rfl
     ·rintro u rfl;exact za2 h1 rfl
     refine yc8 (S:=(·=w₁)) (l:=l) (i:=0) (a:=a) (by rintro u rfl;exact h2) ⟨_,rfl⟩ (by omega) (by omega) ?_
     have hbx:=(l.getD 0 0).toNat_lt
     have q1:IntKind.i64.wrap ((l.length:Int) - 1)=(l.length:Int) - 1:=w64 (by omega) (by omega)
     have q2:IntKind.i64.wrap ((l.getD (Int.toNat 0) 0).toNat:Int)=((l.getD 0 0).toNat:Int):=w64 (by simp only [Int.toNat_zero];omega) (by simp only [Int.toNat_zero];omega)
     simp only [q1,q2]
     refine za8 (fun hlt=>?_) fun hge=>?_
     ·refine bad hr hd.upd ?_
      rw [vy9 hl1]
      unfold cutS
      simp only []
      rw [if_pos (by rw [List.length_drop];omega)]
     ·exact ⟨hr,hd.upd,hl1,by omega⟩
  ·rintro w₅ ⟨hr,he,hl1,hle⟩
   obtain ⟨a,c,h1,h2,h3,h4⟩:=hr.at_
   have hbx:=(l.getD 0 0).toNat_lt
   have hrow:rowS (some l)=((l.drop 1).take (l.getD 0 0).toNat,0,some (l.drop (1+(l.getD 0 0).toNat))):=by
    rw [vy9 hl1]
    unfold cutS
    simp only []
    rw [if_neg (by rw [List.length_drop];omega),List.drop_drop]
   refine ⟨a,l.length,c,za2 h1 rfl,yn5 h2 (by omega) (by omega) ?_⟩
   have q2:IntKind.i64.wrap ((l.getD (Int.toNat 0) 0).toNat:Int)=((l.getD 0 0).toNat:Int):=w64 (by simp only [Int.toNat_zero];omega) (by simp only [Int.toNat_zero];omega)
   have q3:IntKind.i64.wrap ((1:Int)+((l.getD 0 0).toNat:Int))=1+((l.getD 0 0).toNat:Int):=w64 (by omega) (by omega)
   simp only [q2,q3]
   have q4:((1:Int)+((l.getD 0 0).toNat:Int)).toNat=1+(l.getD 0 0).toNat:=by omega
   refine ⟨a,l.length,c,za2 h1 rfl,yr8 h2 (by omega) (by omega) (by omega) h3 (.inl rfl) fun a6 c6 hb6 hc6=>?_⟩
   have em:(l.take ((1:Int)+((l.getD 0 0).toNat:Int)).toNat).drop (Int.toNat 1)=(rowS (some l)).1:=by
    rw [hrow,q4]
    show (l.take (1+(l.getD 0 0).toNat)).drop 1=(l.drop 1).take (l.getD 0 0).toNat
    rw [List.drop_take,Nat.add_sub_cancel_left]
   have hlen:=xi6 (some l)
   rw [em] at hb6 hc6 ⊢
   refine yi2 hb6 (by omega) fun a7 c7 w₆ he6 hb7 hc7 hf7 hn7=>?_
   have g1:=Ext.get he6 h1
   refine ⟨a,l.length,c,za2 g1 rfl,zu1 (h2.ext he6) (by omega) (by omega) h3 fun a9 c9 hb9 hc9 ha9 _ _=>?_⟩
   rw [q4] at hb9 hc9 ⊢
   refine zc8 g1 (by simp) fun w₇ hput=>⟨(he.trans he6).ext.trans hput.upd1,⟨a7,c7,?_,za6.upd hb7 hput.upd1 fun p hp e=>?_,hc7,fun p hp=>⟨Nat.le_trans he.size (hf7 p hp),?_⟩⟩,?_⟩
   ·rw [hrow];rfl
   ·have:=hf7 p hp
    have hr5:r<w₅.heap.size:=(Array.getElem?_eq_some_iff.1 h1).1
    omega
   ·by_cases hl:(rowS (some l)).1=[]
    ·rw [hn7 hl] at hp;cases hp
    ·obtain ⟨b,o,hab,hlt⟩:=za6.blk hb7 (by simpa using hl)
     rw [hab] at hp;cases hp;rw [hput.size];exact hlt
   ·rw [hrow]
    have hne:∀ p,a9=some p→G p.block:=by
     intro p hp
     rcases ha9 with ha9 | ha9
     ·exact h4 p (ha9 ▸ hp)
     ·rw [ha9] at hp
      cases a with
      | none=>simp at hp
      | some q =>
       simp at hp
       have:=h4 q rfl
       rw [← hp]
       unfold Addr.add
       split<;>exact this
    exact ⟨⟨a9,c9,hput.get,za6.upd hb9 hput.upd1 fun p hp e=>hG (e ▸ hne p hp),hc9,hne⟩,by rw [List.length_drop];omega⟩
end Go.Den
namespace Go.Den
def zv1 (c:UInt8):Bool:=(decide (97≤c.toNat) && decide (c.toNat≤122)) || (decide (48≤c.toNat) && decide (c.toNat≤57)) || decide (c.toNat=46) || decide (c.toNat=45)
def yf9 (s:List UInt8):Bool:=s.all zv1 && decide (1≤s.length) && decide (s.length≤12) && !(s == [46]) && !(s == [46,46])
structure Key where
 ino:Int
 what:UInt8
 name:ByteArray
 chunk:Int
 deriving DecidableEq
namespace Key
def zero:Key:=⟨0,0,ByteArray.empty,0⟩
def bytes (k:Key):List UInt8:=k.name.data.toList
def vals (k:Key):List Value:=[.int .i64 k.ino,bv k.what,.string k.name,.int .i64 k.chunk]
def may (k:Key):Bool:=decide (1≤k.ino) && decide (k.ino≤65535) &&
 ((decide (k.what.toNat=1) && decide (k.bytes=[]) && decide (k.chunk=0)) || (decide (k.what.toNat=2) && yf9 k.bytes && decide (k.chunk=0)) || (decide (k.what.toNat=3) && decide (k.bytes=[]) && decide (0≤k.chunk) && decide (k.chunk<8)))
def code (k:Key):List Int:=k.ino :: (k.what.toNat:Int) :: (k.bytes.map (fun b=>(b.toNat:Int)+1) ++ [0,k.chunk])
end Key
abbrev keyV (k:Key):Value:=.agg #[.int .i64 k.ino,bv k.what,.string k.name,.int .i64 k.chunk]
def yk0:List Int→List Int→Bool
 | [],[]=>false
 | [],_ :: _=>true
 | _ :: _,[]=>false
 | x :: xs,y :: ys=>decide (x<y) || (decide (x=y) && yk0 xs ys)
theorem xr2:∀ l,yk0 l l=false
 | []=>rfl
 | x :: l=>by simp [yk0,xr2 l]
theorem xx2:∀ {a b c},yk0 a b=true→yk0 b c=true→yk0 a c=true
 | [],[],_,h,_=>by cases h
 | [],_ :: _,[],_,h=>by cases h
 | [],_ :: _,_ :: _,_,_=>rfl
 | _ :: _,[],_,h,_=>by cases h
 | _ :: _,_ :: _,[],_,h=>by cases h
 | x :: xs,y :: ys,z :: zs,h,k=>by
  simp only [yk0,Bool.or_eq_true,Bool.and_eq_true,decide_eq_true_eq] at h k ⊢
  rcases h with h | ⟨h1,h2⟩
  ·rcases k with k | ⟨k1,k2⟩
   ·exact .inl (by omega)
   ·exact .inl (by omega)
  ·rcases k with k | ⟨k1,k2⟩
   ·exact .inl (by omega)
   ·exact .inr ⟨by omega,xx2 h2 k2⟩
theorem xx3:∀ {a b},yk0 a b=false→yk0 b a=false→a=b
 | [],[],_,_=>rfl
 | [],_ :: _,h,_=>by cases h
 | _ :: _,[],_,h=>by cases h
 | x :: xs,y :: ys,h,k=>by
  simp only [yk0,Bool.or_eq_false_iff,Bool.and_eq_false_iff,decide_eq_false_iff_not] at h k
  have e:x=y:=by omega
  subst e
  have h2:yk0 xs ys=false:=by rcases h.2 with h | h;exact absurd rfl h;exact h
  have k2:yk0 ys xs=false:=by rcases k.2 with h | h;exact absurd rfl h;exact h
  rw [xx3 h2 k2]
theorem xk9 {f:UInt8→Int} (hf:∀ x y,f x=f y→x=y) (h0:∀ x,f x≠0):∀ {a b:List UInt8} {x y:Int},a.map f ++ [0,x]=b.map f ++ [0,y]→a=b∧x=y
 | [],[],_,_,h=>by simpa using h
 | [],b :: bs,_,_,h=>by simp at h;exact absurd h.1.symm (h0 b)
 | a :: l,[],_,_,h=>by simp at h;exact absurd h.1 (h0 a)
 | a :: l,b :: bs,_,_,h=>by
  simp only [List.map_cons,List.cons_append,List.cons.injEq] at h
  obtain ⟨e1,e2⟩:=xk9 hf h0 h.2
  exact ⟨by rw [hf _ _ h.1,e1],e2⟩
theorem Key.code_inj {a b:Key} (h:a.code=b.code):a=b:=by
 obtain ⟨a1,a2,a3,a4⟩:=a
 obtain ⟨b1,b2,b3,b4⟩:=b
 simp only [Key.code,Key.bytes,List.cons.injEq] at h
 obtain ⟨h1,h2,h3⟩:=h
 obtain ⟨e1,e2⟩:=xk9 (f:=fun b:UInt8=>(b.toNat:Int)+1) (fun x y h=>UInt8.toNat_inj.1 (by have h':(x.toNat:Int)+1=(y.toNat:Int)+1:=h;omega)) (fun x=>by show (x.toNat:Int)+1≠0;omega) h3
 have e3:a3=b3:=by
  obtain ⟨⟨a3⟩⟩:=a3
  obtain ⟨⟨b3⟩⟩:=b3
  simp only at e1
  rw [e1]
 rw [h1,UInt8.toNat_inj.1 (by omega:a2.toNat=b2.toNat),e3,e2]
def zl9 (a b:Key):Bool:=yk0 a.code b.code
theorem yk8 (a:Key):zl9 a a=false:=xr2 _
theorem yb8 {a b c:Key} (h:zl9 a b=true) (k:zl9 b c=true):zl9 a c=true:=xx2 h k
theorem xh5 {a b:Key} (h:zl9 a b=false) (k:zl9 b a=false):a=b:=Key.code_inj (xx3 h k)
theorem ug0 {a b:Key} (h:zl9 a b=true):zl9 b a=false:=by
 cases hb:zl9 b a with
 | false=>rfl
 | true =>
  have:=yb8 h hb
  rw [yk8] at this
  cases this
structure Fact where
 key:Key
 val:List UInt8
 deriving DecidableEq
structure zb2 where
 key:Key
 val:List UInt8
 gone:Bool
 deriving DecidableEq
def zg6:List Fact→Bool
 | []=>true
 | [_]=>true
 | x :: y :: l=>zl9 x.key y.key && zg6 (y :: l)
def yg0 (l:List Fact):Prop:=l.Pairwise fun a b=>zl9 a.key b.key=true
theorem zq0:∀ {l:List Fact},zg6 l=true ↔ yg0 l
 | []=>by simp [zg6,yg0]
 | [x]=>by simp [zg6,yg0]
 | x :: y :: l=>by
  unfold zg6
  rw [Bool.and_eq_true,zq0 (l:=y :: l)]
  unfold yg0
  rw [List.pairwise_cons (a:=x)]
  constructor
  ·rintro ⟨h1,h2⟩
   refine ⟨fun z hz=>?_,h2⟩
   rcases List.mem_cons.1 hz with rfl | hz
   ·exact h1
   ·exact yb8 h1 ((List.pairwise_cons.1 h2).1 z hz)
  ·rintro ⟨h1,h2⟩
   exact ⟨h1 y (by simp),h2⟩
def putF (c:zb2):List Fact→List Fact
 | []=>if c.gone then [] else [⟨c.key,c.val⟩]
 | x :: l=>if x.key=c.key then (if c.gone then l else ⟨c.key,c.val⟩:: l) else if zl9 c.key x.key then (if c.gone then x :: l else ⟨c.key,c.val⟩:: x :: l) else x :: putF c l
def zt9 (l:List Fact) (cs:List zb2):List Fact:=cs.foldl (fun l c=>putF c l) l
def ze0 (l:List Fact) (cs:List zb2):List Fact:=if zg6 l then zt9 l cs else []
theorem xi9 {c:zb2} {y:Fact}:∀ {l:List Fact},y∈putF c l→y∈l∨(c.gone=false∧y=⟨c.key,c.val⟩)
 | [],h=>by
  unfold putF at h
  split at h
  ·cases h
  ·rename_i hg
   exact .inr ⟨by simpa using hg,by simpa using h⟩
 | x :: l,h=>by
  unfold putF at h
  split at h
  ·split at h
   ·exact .inl (by simp [h])
   ·rename_i hg
    rcases List.mem_cons.1 h with h | h
    ·exact .inr ⟨by simpa using hg,h⟩
    ·exact .inl (by simp [h])
  ·split at h
   ·split at h
    ·exact .inl h
    ·rename_i hg
     rcases List.mem_cons.1 h with h | h
     ·exact .inr ⟨by simpa using hg,h⟩
     ·exact .inl h
   ·rcases List.mem_cons.1 h with h | h
    ·exact .inl (by simp [h])
    ·rcases xi9 h with h | h
     ·exact .inl (by simp [h])
     ·exact .inr h
theorem xm7 {c:zb2}:∀ {l:List Fact},yg0 l→yg0 (putF c l)
 | [],h=>by
  unfold putF
  split
  ·exact List.Pairwise.nil
  ·exact List.pairwise_singleton _ _
 | x :: l,h=>by
  obtain ⟨h1,h2⟩:=List.pairwise_cons.1 h
  unfold putF
  split
  ·rename_i he
   split
   ·exact h2
   ·refine List.pairwise_cons.2 ⟨fun y hy=>?_,h2⟩
    have:=h1 y hy
    rw [he] at this
    exact this
  ·rename_i he
   split
   ·rename_i hb
    split
    ·exact h
    ·refine List.pairwise_cons.2 ⟨fun y hy=>?_,h⟩
     rcases List.mem_cons.1 hy with rfl | hy
     ·exact hb
     ·exact yb8 hb (h1 y hy)
   ·rename_i hb
    refine List.pairwise_cons.2 ⟨fun y hy=>?_,xm7 h2⟩
    rcases xi9 hy with hy | ⟨_,rfl⟩
    ·exact h1 y hy
    ·cases hx:zl9 x.key c.key with
     | true=>rfl
     | false=>exact absurd (xh5 hx (by simpa using hb)) he
theorem zz4:∀ {cs:List zb2} {l:List Fact},yg0 l→yg0 (zt9 l cs)
 | [],l,h=>h
 | c :: cs,l,h=>zz4 (cs:=cs) (xm7 h)
theorem ve5 (c:zb2):∀ (l:List Fact),(putF c l).length≤l.length+1
 | []=>by unfold putF;split<;>simp
 | x :: l=>by
  have:=ve5 c l
  unfold putF
  split
  ·split<;>simp<;>omega
  ·split
   ·split<;>simp<;>omega
   ·simp;omega
def zx8 (l:List Fact) (k:Key):Nat:=(l.takeWhile fun f=>zl9 f.key k).length
theorem vz8 (l:List Fact) (k:Key):zx8 l k≤l.length:=by
 unfold zx8
 induction l with
 | nil=>simp
 | cons x l ih =>
  rw [List.takeWhile_cons]
  split
  ·simp;exact ih
  ·simp
theorem vf2 (x:Fact) (l:List Fact) (k:Key):zx8 (x :: l) k=if zl9 x.key k then zx8 l k+1 else 0:=by
 unfold zx8
 rw [List.takeWhile_cons]
 split<;>simp
theorem vz9:∀ {l:List Fact} {k:Key},yg0 l→∀ (i:Nat) (hi:i<l.length),(zl9 l[i].key k=true ↔ i<zx8 l k)
 | x :: l,k,h,i,hi=>by
  obtain ⟨h1,h2⟩:=List.pairwise_cons.1 h
  rw [vf2]
  cases i with
  | zero =>
   simp only [List.getElem_cons_zero]
   split
   ·rename_i hb;simp [hb]
   ·rename_i hb;simp [hb]
  | succ i =>
   simp only [List.getElem_cons_succ]
   have:=vz9 h2 i (by simpa using hi) (k:=k)
   split
   ·rw [this];omega
   ·rename_i hb
    constructor
    ·intro hx
     have:=yb8 (h1 _ (List.getElem_mem _)) hx
     rw [this] at hb
     exact absurd rfl hb
    ·intro hx;omega
theorem vo9 {c:zb2}:∀ {l:List Fact},yg0 l→putF c l=(if hp:zx8 l c.key<l.length∧(∀ h:zx8 l c.key<l.length,l[zx8 l c.key].key=c.key) then
   (if c.gone then l.take (zx8 l c.key) ++ l.drop (zx8 l c.key+1) else l.set (zx8 l c.key) ⟨c.key,c.val⟩)
  else if c.gone then l else l.take (zx8 l c.key) ++ [⟨c.key,c.val⟩] ++ l.drop (zx8 l c.key))
 | [],h=>by
  unfold putF
  rw [dif_neg (by simp)]
  simp
 | x :: l,h=>by
  obtain ⟨h1,h2⟩:=List.pairwise_cons.1 h
  have hpc:=vf2 x l c.key
  unfold putF
  by_cases he:x.key=c.key
  ·have hp0:zx8 (x :: l) c.key=0:=by rw [hpc,if_neg (by rw [he,yk8];simp)]
   rw [if_pos he,dif_pos (by rw [hp0];exact ⟨by simp,fun _=>by simpa using he⟩),hp0]
   simp
  ·rw [if_neg he]
   by_cases hb:zl9 c.key x.key=true
   ·have hp0:zx8 (x :: l) c.key=0:=by rw [hpc,if_neg (by rw [ug0 hb];simp)]
    rw [if_pos hb,dif_neg (by rw [hp0];rintro ⟨_,hx⟩;exact he (hx (by simp))),hp0]
    simp
   ·rw [if_neg hb]
    have hbx:zl9 x.key c.key=true:=by
     cases hx:zl9 x.key c.key with
     | true=>rfl
     | false=>exact absurd (xh5 hx (by simpa using hb)) he
    have hp1:zx8 (x :: l) c.key=zx8 l c.key+1:=by rw [hpc,if_pos hbx]
    rw [vo9 h2]
    by_cases hcond:zx8 l c.key<l.length∧(∀ h:zx8 l c.key<l.length,l[zx8 l c.key].key=c.key)
    ·rw [dif_pos hcond,dif_pos (by rw [hp1];exact ⟨by simpa using hcond.1,fun _=>by simpa using hcond.2 hcond.1⟩),hp1]
     split<;>simp
    ·rw [dif_neg hcond,dif_neg (by
      rw [hp1]
      rintro ⟨k1,k2⟩
      exact hcond ⟨by simpa using k1,fun _=>by simpa using k2 k1⟩),hp1]
     split<;>simp
end Go.Den
namespace Go.Den
theorem vt3 (a b:ByteArray):(a.toList == b.toList)=(a.data.toList == b.data.toList):=by
 rw [ByteArray.toList_eq,ByteArray.toList_eq]
theorem vu1 (c:UInt8) (w:World):za0 prog K.yq9 #[bv c] w fun v w'=>v= .bool (zv1 c)∧w'=w:=by
 apply yq9.sh
 unfold yq9.body
 have fin:∀ {b:Bool},zv1 c=b→(fun v w'=>v=Value.bool (zv1 c)∧w'=w) (Value.bool b) w:=fun h=>⟨by rw [h],rfl⟩
 have e:∀ {b:Bool},(zv1 c=true ↔ b=true)→zv1 c=b:=fun h=>by rw [Bool.eq_iff_iff];exact h
 have hm:zv1 c=true ↔ (97≤c.toNat∧c.toNat≤122)∨(48≤c.toNat∧c.toNat≤57)∨c.toNat=46∨c.toNat=45:=by
  unfold zv1
  simp only [Bool.or_eq_true,Bool.and_eq_true,decide_eq_true_eq]
  constructor
  ·rintro (((h | h) | h) | h)
   ·exact .inl h
   ·exact .inr (.inl h)
   ·exact .inr (.inr (.inl h))
   ·exact .inr (.inr (.inr h))
  ·rintro (h | h | h | h)
   ·exact .inl (.inl (.inl h))
   ·exact .inl (.inl (.inr h))
   ·exact .inl (.inr h)
   ·exact .inr h
 have yes:(97≤c.toNat∧c.toNat≤122)∨(48≤c.toNat∧c.toNat≤57)∨c.toNat=46∨c.toNat=45→(fun v w'=>v=Value.bool (zv1 c)∧w'=w) (Value.bool true) w:=fun h=>fin (hm.2 h)
 have no:¬ ((97≤c.toNat∧c.toNat≤122)∨(48≤c.toNat∧c.toNat≤57)∨c.toNat=46∨c.toNat=45)→(fun v w'=>v=Value.bool (zv1 c)∧w'=w) (Value.bool false) w:=fun h=>fin (by
  cases hb:zv1 c with
  | false=>rfl
  | true=>exact absurd (hm.1 hb) h)
 have dots:¬ (97≤c.toNat∧c.toNat≤122)→¬ (48≤c.toNat∧c.toNat≤57)→br ((c.toNat:Int) == 46) (br ((c.toNat:Int) == 46) ((fun v w'=>v=Value.bool (zv1 c)∧w'=w) (Value.bool true) w) ((fun v w'=>v=Value.bool (zv1 c)∧w'=w) (Value.bool false) w))
   (br ((c.toNat:Int) == 45) ((fun v w'=>v=Value.bool (zv1 c)∧w'=w) (Value.bool true) w) ((fun v w'=>v=Value.bool (zv1 c)∧w'=w) (Value.bool false) w)):=fun h1 h2 =>
  zi1 (fun h=>zi1 (fun _=>yes (by omega)) fun h'=>absurd h h') fun h=>zi1 (fun h'=>yes (by omega)) fun h'=>no (by omega)
 refine za8 (fun h1=>za8 (fun h2=>za8 (fun _=>yes (by omega)) fun h=>absurd h2 h) fun h2=>za8 (fun h3=>za8 (fun h4=>by omega) fun h4=>dots (by omega) (by omega)) fun h3=>by omega) fun h1=>?_
 exact za8 (fun h3=>za8 (fun h4=>za8 (fun _=>yes (by omega)) fun h=>absurd h4 h) fun h4=>dots (by omega) (by omega)) fun h3=>dots (by omega) (by omega)
theorem xb8 {α:Type} {l:List α} {i:Nat} (hi:i<l.length) (p:α→Bool):(l.take (i+1)).all p=((l.take i).all p && p l[i]):=by
 rw [List.take_succ_eq_append_getElem hi,List.all_append]
 simp
theorem yg5 (s:ByteArray):s.size=s.data.toList.length:=by rw [Array.length_toList];rfl
theorem ub6 {s:ByteArray} (hall:s.data.toList.all zv1=true) {w w':World} {R:Value→World→Prop} (hR:R (.bool (yf9 s.data.toList)) w') {p:Prop} [Decidable p] (hp:p ↔ 1≤s.data.toList.length) :
  br (decide p) (br (decide (((s.size:Nat):Int)≤12)) (br (!(s.toList == (⟨#[46]⟩: ByteArray).toList)) (R (Value.bool (!(s.toList == (⟨#[46,46]⟩: ByteArray).toList))) w') (R (Value.bool false) w')) (R (Value.bool false) w')) (R (Value.bool false) w'):=by
 have hn:yf9 s.data.toList=(decide (1≤s.data.toList.length) && decide (s.data.toList.length≤12) && !(s.data.toList == [46]) && !(s.data.toList == [46,46])):=by
  unfold yf9
  rw [hall];rfl
 rw [hn] at hR
 have hsz:=yg5 s
 rw [vt3,vt3]
 refine za8 (fun h1=>za8 (fun h2=>zc0 (fun h3=>?_) fun h3=>?_) fun h2=>?_) fun h1=>?_
 ·have h3':(!(s.data.toList == [46]))=true:=h3
  rw [decide_eq_true (hp.1 h1),decide_eq_true (by omega:s.data.toList.length≤12),h3'] at hR
  exact hR
 ·have h3':(!(s.data.toList == [46]))=false:=h3
  rw [h3'] at hR
  simpa using hR
 ·rw [decide_eq_false (p:=s.data.toList.length≤12) (by omega)] at hR
  simpa using hR
 ·rw [decide_eq_false (p:=1≤s.data.toList.length) (fun h=>h1 (hp.2 h))] at hR
  simpa using hR
theorem xx5 {s:List UInt8} (h:s.all zv1=false):yf9 s=false:=by
 unfold yf9
 rw [h];rfl
theorem ug2 {l:List UInt8} {i:Nat} (hi:i<l.length) (h:zv1 l[i]=false):l.all zv1=false:=by
 rw [List.all_eq_false]
 exact ⟨l[i],List.getElem_mem hi,by rw [h];simp⟩
theorem vm6 (s:ByteArray) (hs:s.size<9223372036854775807) (w:World):za0 prog K.yj5 #[.string s] w fun v w'=>v= .bool (yf9 s.data.toList)∧w'=w:=by
 apply yj5.sh
 unfold yj5.body
 have hsz:=yg5 s
 refine ⟨fun x u=>∃ i:Nat,x=i∧i≤s.data.toList.length∧u=w∧(s.data.toList.take i).all zv1=true,fun x _=>(s.data.toList.length - x).toNat,⟨0,rfl,by omega,rfl,by simp⟩,?_⟩
 rintro x u ⟨i,rfl,hi,rfl,ha⟩
 refine za8 (fun hlt=>⟨by omega,?_⟩) fun hge=>?_
 ·have hi':i<s.data.toList.length:=by omega
  refine ⟨s.data.toList[i],by simp [hi'],?_⟩
  refine (vu1 _ _).mono ?_
  rintro _ _ ⟨rfl,rfl⟩
  refine ⟨_,rfl,zc0 (fun hb=>⟨?_,rfl⟩) fun hb=>?_⟩
  ·rw [xx5 (ug2 hi' (by simpa using hb))]
  ·have e1:IntKind.i64.wrap ((i:Int)+1)=((i+1:Nat):Int):=w64 (by omega) (by omega)
   rw [e1]
   exact ⟨⟨i+1,rfl,hi',rfl,by rw [xb8 hi',ha];simpa using hb⟩,meas hi'⟩
 ·have:i=s.data.toList.length:=by omega
  subst this
  rw [List.take_length] at ha
  exact ub6 (w:=u) ha (R:=fun v w'=>v= .bool (yf9 s.data.toList)∧w'=u) ⟨rfl,rfl⟩ (by omega)
theorem xd2 (s:ByteArray) (hs:s.size<9223372036854775807) (w:World):za0 prog K.zo7 #[.string s] w fun v w'=>v= .bool (yf9 s.data.toList)∧w'=w:=by
 apply zo7.sh
 unfold zo7.body
 have hsz:=yg5 s
 refine ⟨fun x u=>∃ i:Nat,x=i∧i≤s.data.toList.length∧u=w∧(s.data.toList.take i).all zv1=true,fun x _=>(s.data.toList.length - x).toNat,⟨0,rfl,by omega,rfl,by simp⟩,?_⟩
 rintro x u ⟨i,rfl,hi,rfl,ha⟩
 refine za8 (fun hlt=>⟨by omega,?_⟩) fun hge=>?_
 ·have hi':i<s.data.toList.length:=by omega
  refine ⟨s.data.toList[i],by simp [hi'],?_⟩
  have e1:IntKind.i64.wrap ((i:Int)+1)=((i+1:Nat):Int):=w64 (by omega) (by omega)
  rw [e1]
  generalize hc:s.data.toList[i]=c
  have hm:zv1 c=true ↔ (97≤c.toNat∧c.toNat≤122)∨(48≤c.toNat∧c.toNat≤57)∨c.toNat=46∨c.toNat=45:=by
   unfold zv1
   simp only [Bool.or_eq_true,Bool.and_eq_true,decide_eq_true_eq]
   constructor
   ·rintro (((h | h) | h) | h)
    ·exact .inl h
    ·exact .inr (.inl h)
    ·exact .inr (.inr (.inl h))
    ·exact .inr (.inr (.inr h))
   ·rintro (h | h | h | h)
    ·exact .inl (.inl (.inl h))
    ·exact .inl (.inl (.inr h))
    ·exact .inl (.inr h)
    ·exact .inr h
  have yes:(97≤c.toNat∧c.toNat≤122)∨(48≤c.toNat∧c.toNat≤57)∨c.toNat=46∨c.toNat=45→(∃ k:Nat,((i+1:Nat):Int)=k∧k≤s.data.toList.length∧u=u∧(s.data.toList.take k).all zv1=true)∧((s.data.toList.length:Int) - ((i+1:Nat):Int)).toNat<((s.data.toList.length:Int) - (i:Int)).toNat:=fun h =>
   ⟨⟨i+1,rfl,hi',rfl,by rw [xb8 hi',ha,hc,hm.2 h];rfl⟩,meas hi'⟩
  have no:¬ ((97≤c.toNat∧c.toNat≤122)∨(48≤c.toNat∧c.toNat≤57)∨c.toNat=46∨c.toNat=45)→(fun v w'=>v=Value.bool (yf9 s.data.toList)∧w'=u) (Value.bool false) u:=fun h=>⟨by
   rw [xx5 (ug2 hi' (by
    rw [hc]
    cases hb:zv1 c with
    | false=>rfl
    | true=>exact absurd (hm.1 hb) h))],rfl⟩
  have dots:¬ (97≤c.toNat∧c.toNat≤122)→¬ (48≤c.toNat∧c.toNat≤57)→br ((c.toNat:Int) == 46) ((∃ k:Nat,((i+1:Nat):Int)=k∧k≤s.data.toList.length∧u=u∧(s.data.toList.take k).all zv1=true)∧((s.data.toList.length:Int) - ((i+1:Nat):Int)).toNat<((s.data.toList.length:Int) - (i:Int)).toNat)
    (br (!((c.toNat:Int) == 45)) ((fun v w'=>v=Value.bool (yf9 s.data.toList)∧w'=u) (Value.bool false) u) ((∃ k:Nat,((i+1:Nat):Int)=k∧k≤s.data.toList.length∧u=u∧(s.data.toList.take k).all zv1=true)∧((s.data.toList.length:Int) - ((i+1:Nat):Int)).toNat<((s.data.toList.length:Int) - (i:Int)).toNat)):=fun h1 h2 =>
   zi1 (fun h=>yes (by omega)) fun h=>zc0 (fun h'=>no (by have h0:(c.toNat:Int)≠45:=(by simpa using h');omega)) fun h'=>yes (by have h0:(c.toNat:Int)=45:=(by simpa using h');omega)
  exact za8 (fun h1=>za8 (fun h2=>yes (by omega)) fun h2=>za8 (fun h3=>za8 (fun h4=>by omega) fun h4=>dots (by omega) (by omega)) fun h3=>by omega) fun h1 =>
   za8 (fun h3=>za8 (fun h4=>yes (by omega)) fun h4=>dots (by omega) (by omega)) fun h3=>dots (by omega) (by omega)
 ·have:i=s.data.toList.length:=by omega
  subst this
  rw [List.take_length] at ha
  exact ub6 (w:=u) ha (R:=fun v w'=>v= .bool (yf9 s.data.toList)∧w'=u) ⟨rfl,rfl⟩ (by omega)
theorem Key.may_ino {k:Key} (h:¬ (1≤k.ino∧k.ino≤65535)):k.may=false:=by
 unfold Key.may
 by_cases h1:1≤k.ino
 ·rw [decide_eq_false (p:=k.ino≤65535) (fun h2=>h ⟨h1,h2⟩)];simp
 ·rw [decide_eq_false h1];simp
theorem Key.may_in {k:Key} (h:1≤k.ino∧k.ino≤65535):k.may=((decide (k.what.toNat=1) && decide (k.bytes=[]) && decide (k.chunk=0)) || (decide (k.what.toNat=2) && yf9 k.bytes && decide (k.chunk=0)) || (decide (k.what.toNat=3) && decide (k.bytes=[]) && decide (0≤k.chunk) && decide (k.chunk<8))):=by
 unfold Key.may
 rw [decide_eq_true h.1,decide_eq_true h.2];rfl
theorem xs4 (k:Key):(k.name.toList == (⟨#[]⟩: ByteArray).toList)=decide (k.bytes=[]):=by
 rw [vt3,Bool.eq_iff_iff]
 unfold Key.bytes
 simp
theorem yh8 (k:Key) (hn:k.name.size<9223372036854775807) (w:World):za0 prog K.zv2 #[keyV k] w fun v w'=>v= .bool k.may∧Ext w w':=by
 apply zv2.sh
 unfold zv2.body
 simp only [add_lit,Nat.zero_add]
 intro B1 w1 hn1
 have g:=hn1.get
 have hE:=hn1.upd
 refine ⟨_,za2 g rfl,za8 (fun h=>⟨by rw [Key.may_ino (by omega)],hE⟩) fun h1=>⟨_,za2 g rfl,za8 (fun h=>⟨by rw [Key.may_ino (by omega)],hE⟩) fun h2=>?_⟩⟩
 rw [Key.may_in ⟨by omega,by omega⟩]
 refine ⟨_,za2 g rfl,zi1 (fun hw=>?_) fun hw1=>zi1 (fun hw=>?_) fun hw2=>zi1 (fun hw=>?_) fun hw3=>?_⟩
 ·refine ⟨_,_,_,_,zl2 (o:=0) g (fun j v hj=>by simpa using hj),_,za2 g rfl,_,za2 g rfl,?_,hE⟩
  have e1:k.what.toNat=1:=by omega
  rw [e1,xs4]
  simp only [beq_self_eq_true,Bool.true_and,Bool.and_true]
  congr 1
  rw [Bool.eq_iff_iff]
  simp
 ·refine ⟨_,za2 g rfl,?_⟩
  refine (vm6 k.name hn w1).mono ?_
  rintro _ _ ⟨rfl,rfl⟩
  rename_i w1
  have e2:k.what.toNat=2:=by omega
  rw [e2]
  have hb:yf9 k.bytes=yf9 k.name.data.toList:=rfl
  rw [hb]
  refine ⟨_,rfl,zc0 (fun h=>⟨_,za2 g rfl,?_,hE⟩) fun h=>⟨?_,hE⟩⟩
  ·rw [h]
   congr 1
   rw [Bool.eq_iff_iff]
   simp
  ·rw [h];simp
 ·have e3:k.what.toNat=3:=by omega
  rw [e3]
  refine ⟨_,za2 g rfl,?_⟩
  rw [xs4]
  refine za8 (fun h=>⟨_,za2 g rfl,za8 (fun h'=>⟨_,za2 g rfl,?_,hE⟩) fun h'=>⟨?_,hE⟩⟩) fun h=>⟨?_,hE⟩
  ·rw [decide_eq_true h,decide_eq_true (by omega:0≤k.chunk)];simp
  ·rw [decide_eq_false (p:=0≤k.chunk) (by omega)];simp
  ·rw [decide_eq_false h];simp
 ·refine ⟨?_,hE⟩
  rw [decide_eq_false (p:=k.what.toNat=1) (by omega),decide_eq_false (p:=k.what.toNat=2) (by omega),decide_eq_false (p:=k.what.toNat=3) (by omega)]
  simp
theorem zr5 (k:Key) (hn:k.name.size<9223372036854775807) (w:World):za0 prog K.ze7 #[keyV k] w fun v w'=>v= .bool k.may∧Ext w w':=by
 apply ze7.sh
 unfold ze7.body
 simp only [add_lit,Nat.zero_add]
 intro B1 w1 hn1
 have g:=hn1.get
 have hE:=hn1.upd
 refine ⟨_,za2 g rfl,za8 (fun h=>⟨by rw [Key.may_ino (by omega)],hE⟩) fun h1=>⟨_,za2 g rfl,za8 (fun h=>⟨by rw [Key.may_ino (by omega)],hE⟩) fun h2=>?_⟩⟩
 rw [Key.may_in ⟨by omega,by omega⟩]
 refine ⟨_,za2 g rfl,zi1 (fun hw=>?_) fun hw1=>zi1 (fun hw=>?_) fun hw2=>zi1 (fun hw=>?_) fun hw3=>?_⟩
 ·have e1:k.what.toNat=1:=by omega
  rw [e1]
  refine ⟨_,za2 g rfl,?_⟩
  rw [xs4]
  refine za8 (fun h=>⟨_,za2 g rfl,?_,hE⟩) fun h=>⟨?_,hE⟩
  ·rw [decide_eq_true h]
   congr 1
   rw [Bool.eq_iff_iff]
   simp
  ·rw [decide_eq_false h];simp
 ·refine ⟨_,za2 g rfl,?_⟩
  refine (xd2 k.name hn w1).mono ?_
  rintro _ _ ⟨rfl,rfl⟩
  rename_i w1
  have e2:k.what.toNat=2:=by omega
  rw [e2]
  have hb:yf9 k.bytes=yf9 k.name.data.toList:=rfl
  rw [hb]
  refine ⟨_,rfl,zc0 (fun h=>⟨_,za2 g rfl,?_,hE⟩) fun h=>⟨?_,hE⟩⟩
  ·rw [h]
   congr 1
   rw [Bool.eq_iff_iff]
   simp
  ·rw [h];simp
 ·have e3:k.what.toNat=3:=by omega
  rw [e3]
  refine ⟨_,za2 g rfl,?_⟩
  rw [xs4]
  refine za8 (fun h=>⟨_,za2 g rfl,za8 (fun h'=>⟨_,za2 g rfl,?_,hE⟩) fun h'=>⟨?_,hE⟩⟩) fun h=>⟨?_,hE⟩
  ·rw [decide_eq_true h,decide_eq_true (by omega:0≤k.chunk)];simp
  ·rw [decide_eq_false (p:=0≤k.chunk) (by omega)];simp
  ·rw [decide_eq_false h];simp
 ·refine ⟨?_,hE⟩
  rw [decide_eq_false (p:=k.what.toNat=1) (by omega),decide_eq_false (p:=k.what.toNat=2) (by omega),decide_eq_false (p:=k.what.toNat=3) (by omega)]
  simp
def ys3 (k:Key) (s:St):Key×Nat×St:=if k.may then (k,0,s) else (Key.zero,5,s)
def keyS (s:St):Key×Nat×St :=
 let a:=zj7 2 s
 let b:=zj7 1 a.2.2
 if b.2.1≠0 then (Key.zero,4,none)
 else if b.1=2 then
  let c:=rowS b.2.2
  if c.2.1≠0 then (Key.zero,4,none) else ys3 ⟨a.1,UInt8.ofNat b.1,⟨c.1.toArray⟩,0⟩ c.2.2
 else if b.1=3 then
  let c:=zj7 1 b.2.2
  if c.2.1≠0 then (Key.zero,4,none) else ys3 ⟨a.1,UInt8.ofNat b.1,ByteArray.empty,c.1⟩ c.2.2
 else ys3 ⟨a.1,UInt8.ofNat b.1,ByteArray.empty,0⟩ b.2.2
theorem qg5 {w:World} {a:Option Addr} {l:List UInt8} (h:za4 w a l) {K:ByteArray→Prop} (hk:K ⟨l.toArray⟩):vo4 w a l.length K:=by
 cases a with
 | none =>
  cases l with
  | nil=>exact hk
  | cons x l =>
   obtain ⟨b,o,e,_⟩:=za6.blk h (by simp)
   cases e
 | some q =>
  refine ⟨l,rfl,?_,hk⟩
  cases l with
  | nil=>trivial
  | cons x l =>
   obtain ⟨b,o,e,_⟩:=za6.blk h (by simp)
   cases e
   exact h.cells
theorem wu8n {x:Nat} (h:x<256):Value.int .u8 (IntKind.u8.wrap (x:Int))=bv (UInt8.ofNat x):=by rw [yq2,Nat.mod_eq_of_lt h]
abbrev zz5 (u:World) (B:Nat) (k:Key):Prop:=u.heap[B]?=some (.cells k.vals.toArray T.yc7 (0,0))
theorem qj1 {w:World} {B:Nat} {cs:Array Value} {k:Key} {K:World→Prop} (hc:w.heap[B]?=some (.cells cs T.yc7 (0,0))) (hs:cs.size=4) (hk:∀ w',Upd (·=B) w w'→w'.heap.size=w.heap.size→zz5 w' B k→K w') :
  za5 w ⟨B,0,none⟩ [.int .i64 k.ino,bv k.what,.string k.name,.int .i64 k.chunk] K:=ui1 hc (by rw [hs];rfl) hk
theorem zw8 {w:World} {B:Nat} {k:Key} (hc:zz5 w B k):za3 w ⟨B,0,none⟩ [.int .i64 k.ino,bv k.what,.string k.name,.int .i64 k.chunk] 0:=zz3 hc
theorem uo7 {w:World} {B:Nat} {k:Key} {n:ByteArray} {K:World→Prop} (hc:zz5 w B k) (hk:∀ w',Upd (·=B) w w'→zz5 w' B { k with name:=n }→K w'):za5 w ⟨B,2,none⟩ [.string n] K :=
 zc8 hc (by simp [Key.vals]) fun w' hp=>hk w' hp.upd1 hp.get
theorem uc2 {w:World} {B:Nat} {k:Key} {n:Int} {K:World→Prop} (hc:zz5 w B k) (hk:∀ w',Upd (·=B) w w'→zz5 w' B { k with chunk:=n }→K w'):za5 w ⟨B,3,none⟩ [.int .i64 n] K :=
 zc8 hc (by simp [Key.vals]) fun w' hp=>hk w' hp.upd1 hp.get
theorem xa5 {u:World} {B:Nat} {k k0:Key} {e:Int} {R:Value→World→Prop} (g:zz5 u B k0) (hR:∀ u',Upd (·=B) u u'→R (.tuple #[keyV k,.int .i64 e]) u') :
  za5 u ⟨B,0,none⟩ [.int .i64 k.ino,bv k.what,.string k.name,.int .i64 k.chunk] fun w'=>∃ x y:Int,∃ n:ByteArray,∃ z:Int,za3 w' ⟨B,0,none⟩ [.int .i64 x,.int .u8 y,.string n,.int .i64 z] 0∧R (.tuple #[.agg #[.int .i64 x,.int .u8 y,.string n,.int .i64 z],.int .i64 e]) w' :=
 qj1 g rfl fun w' hu _ hg=>⟨_,_,_,_,zw8 hg,hR w' hu⟩
theorem xu4 {f:FuncId} {u:World} {B1 B2:Nat} {k k0:Key} {R:Value→World→Prop} (hB:B1≠B2) (g1:zz5 u B1 k0) (g2:zz5 u B2 k) (hm:za0 prog f #[keyV k] u fun v w'=>v= .bool k.may∧Ext u w')
  (hR:∀ u',Upd (·=B1) u u'→R (.tuple #[keyV (if k.may then k else Key.zero),.int .i64 (if k.may then 0 else 5)]) u') :
  ∃ x y:Int,∃ n:ByteArray,∃ z:Int,za3 u ⟨B2,0,none⟩ [.int .i64 x,.int .u8 y,.string n,.int .i64 z] 0∧za0 prog f #[.agg #[.int .i64 x,.int .u8 y,.string n,.int .i64 z]] u fun v w'=>∃ b:Bool,v= .bool b∧br (!b)
   (za5 w' ⟨B1,0,none⟩ [.int .i64 Key.zero.ino,bv Key.zero.what,.string Key.zero.name,.int .i64 Key.zero.chunk] fun w'=>∃ x y:Int,∃ n:ByteArray,∃ z:Int,za3 w' ⟨B1,0,none⟩ [.int .i64 x,.int .u8 y,.string n,.int .i64 z] 0∧R (.tuple #[.agg #[.int .i64 x,.int .u8 y,.string n,.int .i64 z],.int .i64 5]) w')
   (∃ x y:Int,∃ n:ByteArray,∃ z:Int,za3 w' ⟨B2,0,none⟩ [.int .i64 x,.int .u8 y,.string n,.int .i64 z] 0∧za5 w' ⟨B1,0,none⟩ [.int .i64 x,.int .u8 y,.string n,.int .i64 z] fun w'=>∃ x y:Int,∃ n:ByteArray,∃ z:Int,za3 w' ⟨B1,0,none⟩ [.int .i64 x,.int .u8 y,.string n,.int .i64 z] 0∧R (.tuple #[.agg #[.int .i64 x,.int .u8 y,.string n,.int .i64 z],.int .i64 0]) w'):=by
 refine ⟨_,_,_,_,zw8 g2,hm.mono ?_⟩
 rintro _ w' ⟨rfl,he⟩
 refine ⟨_,rfl,zc0 (fun hb=>?_) fun hb=>?_⟩
 ·have hb':k.may=false:=by simpa using hb
  rw [hb'] at hR
  exact xa5 (Ext.get he g1) fun u' hu=>hR u' ((Upd.ext he).trans hu)
 ·have hb':k.may=true:=by simpa using hb
  rw [hb'] at hR
  exact ⟨_,_,_,_,zw8 (Ext.get he g2),xa5 (Ext.get he g1) fun u' hu=>hR u' ((Upd.ext he).trans hu)⟩
theorem xb0:ByteArray.empty.size<9223372036854775807:=by decide
theorem yx7 (k:Key) (s:St):ys3 k s=(if k.may then k else Key.zero,if k.may then 0 else 5,s):=by unfold ys3;split<;>rfl
theorem vr1 (b:Bool):(((if b=true then 0 else 5:Nat):Nat):Int)=if b=true then 0 else 5:=by cases b<;>rfl
theorem va3 {G:Nat→Prop} {w:World} {r:Nat} {s:St} (hG:¬ G r) (hGs:∀ x,G x→x<w.heap.size) (hrs:r<w.heap.size) (h:RdIn G w r s) :
  za0 prog K.ya1 #[.pointer (some ⟨r,0,none⟩)] w fun v w'=>v= .tuple #[keyV (keyS s).1,.int .i64 ((keyS s).2.1:Nat)]∧Upd (·=r) w w'∧RdIn G w' r (keyS s).2.2:=by
 apply ya1.sh
 suffices H:∀ R:Value→World→Prop,(∀ v w',v= .tuple #[keyV (keyS s).1,.int .i64 ((keyS s).2.1:Nat)]∧Upd (·=r) w w'∧RdIn G w' r (keyS s).2.2→R v w')→ya1.body (some ⟨r,0,none⟩) w R from H _ fun _ _ h=>h
 intro R hR
 unfold ya1.body
 simp only [add_lit,Nat.zero_add]
 intro B1 w₁ hn1
 have hb1:B1=w.heap.size:=hn1.num
 have g1:zz5 w₁ B1 Key.zero:=hn1.get
 have done:∀ {u u':World} {B:Nat} {s':St},Upd (·=r) w u→RdIn G u r s'→B1≤B→Upd (·=B) u u'→Upd (·=r) w u'∧RdIn G u' r s':=fun {u u' B s'} h1 h2 hB h3 =>
  ⟨Upd.mono (F:=fun x=>x=r∨x=B) ((h1.mono fun _ _ h=>.inl h).trans (h3.mono fun _ _ h=>.inr h)) fun x hx hor=>by
   rcases hor with h | h
   ·exact h
   ·omega,
   h2.upd h3 (by omega) fun x hx e=>by have:=hGs x hx;omega⟩
 refine (ve2 (k:=2) (by decide) hG (h.ext hn1.upd)).mono ?_
 rintro _ w₂ ⟨hu2,rfl,hr2⟩
 have u2:Upd (·=r) w w₂:=(Upd.ext hn1.upd).trans hu2
 have g2:zz5 w₂ B1 Key.zero:=hu2.get g1 (by omega)
 have hs2:B1<w₂.heap.size:=(Array.getElem?_eq_some_iff.1 g2).1
 have a2:=yf0 2 s
 have h256:(256:Nat) ^ 2=65536:=by decide
 refine ⟨_,_,rfl,zi1 (fun he=>?_) fun _=>?_⟩
 ·exfalso
  rcases xl6 2 s with e | ⟨l,_,_,e⟩
  ·rw [e] at he;exact absurd he (by decide)
  ·rw [e] at he;simp at he
 refine (ve2 (k:=1) (by decide) hG hr2).mono ?_
 rintro _ w₄ ⟨hu4,rfl,hr4⟩
 have u4:=u2.trans hu4
 have g4:zz5 w₄ B1 Key.zero:=hu4.get g2 (by omega)
 have hs4:=hu4.size
 have a4:=yf0 1 (zj7 2 s).2.2
 have hk:keyS s=keyS s:=rfl
 generalize ha:zj7 2 s=A at *
 generalize hb:zj7 1 A.2.2=B at *
 have hkey:keyS s=if B.2.1≠0 then (Key.zero,4,none)
   else if B.1=2 then (if (rowS B.2.2).2.1≠0 then (Key.zero,4,none) else ys3 ⟨A.1,UInt8.ofNat B.1,⟨(rowS B.2.2).1.toArray⟩,0⟩ (rowS B.2.2).2.2)
   else if B.1=3 then (if (zj7 1 B.2.2).2.1≠0 then (Key.zero,4,none) else ys3 ⟨A.1,UInt8.ofNat B.1,ByteArray.empty,(zj7 1 B.2.2).1⟩ (zj7 1 B.2.2).2.2)
   else ys3 ⟨A.1,UInt8.ofNat B.1,ByteArray.empty,0⟩ B.2.2:=by
  unfold keyS
  simp only [ha,hb]
 refine ⟨_,_,rfl,?_⟩
 rw [wu8n (by omega),w64n (by omega)]
 refine zu7 (vs:=Key.vals ⟨A.1,UInt8.ofNat B.1,ByteArray.empty,0⟩) rfl fun B2 w₆ hb2 hs6 he6 g6=>?_
 have u6:=u4.then he6
 have r6:=hr4.ext he6
 have g16:zz5 w₆ B1 Key.zero:=Ext.get he6 g4
 refine zg8 (fun hne=>?_) fun he=>?_
 ·refine zg8 (fun _=>?_) fun h=>absurd h hne
  have hB:B=(0,4,none):=by rw [← hb];exact yg4 (by rw [hb];omega)
  rw [if_pos (by omega)] at hkey;rw [hkey] at hR
  rw [hB] at r6 ⊢
  exact xa5 (k:=Key.zero) g16 fun u' hu=>hR _ _ ⟨rfl,done u6 r6 (Nat.le_refl _) hu⟩
 ·rw [if_neg (by omega)] at hkey
  refine zi1 (fun h2=>?_) fun h2=>?_
  ·rw [if_pos (by omega)] at hkey
   refine (qm0 hG r6).mono ?_
   rintro _ w₁₁ ⟨hu11,⟨a,c,rfl,hby,hc,hf⟩,hr11⟩
   have u11:=u6.trans hu11
   have hs11:=hu11.size
   have g11:zz5 w₁₁ B1 Key.zero:=hu11.get g16 (by omega)
   have g12:zz5 w₁₁ B2 ⟨A.1,UInt8.ofNat B.1,ByteArray.empty,0⟩:=hu11.get g6 (by omega)
   refine ⟨_,_,_,_,rfl,qg5 hby (uo7 g12 fun w₁₂ hu12 g22=>?_)⟩
   have g21:zz5 w₁₂ B1 Key.zero:=hu12.get g11 (by omega)
   obtain ⟨u12,r12⟩:=done u11 hr11 (by omega) hu12
   have hlen:=xi6 B.2.2
   refine zg8 (fun hne=>?_) fun he3=>?_
   ·have hrow:rowS B.2.2=([],4,none):=vb0 (by omega)
    rw [if_pos (by omega)] at hkey;rw [hkey] at hR
    rw [hrow] at r12 ⊢
    exact xa5 (k:=Key.zero) g21 fun u' hu=>hR _ _ ⟨rfl,done u12 r12 (Nat.le_refl _) hu⟩
   ·rw [if_neg (by omega),yx7] at hkey;rw [hkey] at hR;simp only [vr1] at hR
    exact xu4 (by omega) g21 g22 (yh8 _ (by simp [ByteArray.size];omega) _) fun u' hu=>hR _ _ ⟨rfl,done u12 r12 (Nat.le_refl _) hu⟩
  ·rw [if_neg (by omega)] at hkey
   refine zi1 (fun h3=>?_) fun h3=>?_
   ·rw [if_pos (by omega)] at hkey
    refine (ve2 (k:=1) (by decide) hG r6).mono ?_
    rintro _ w₁₁ ⟨hu11,rfl,hr11⟩
    have a11:=yf0 1 B.2.2
    have u11:=u6.trans hu11
    have hs11:=hu11.size
    have g11:zz5 w₁₁ B1 Key.zero:=hu11.get g16 (by omega)
    have g12:zz5 w₁₁ B2 ⟨A.1,UInt8.ofNat B.1,ByteArray.empty,0⟩:=hu11.get g6 (by omega)
    refine ⟨_,_,rfl,?_⟩
    rw [w64n (by omega)]
    refine uc2 g12 fun w₁₂ hu12 g22=>?_
    have g21:zz5 w₁₂ B1 Key.zero:=hu12.get g11 (by omega)
    obtain ⟨u12,r12⟩:=done u11 hr11 (by omega) hu12
    refine zg8 (fun hne=>?_) fun he3=>?_
    ·have hrow:zj7 1 B.2.2=(0,4,none):=yg4 (by omega)
     rw [if_pos (by omega)] at hkey;rw [hkey] at hR
     rw [hrow] at r12 ⊢
     exact xa5 (k:=Key.zero) g21 fun u' hu=>hR _ _ ⟨rfl,done u12 r12 (Nat.le_refl _) hu⟩
    ·rw [if_neg (by omega),yx7] at hkey;rw [hkey] at hR;simp only [vr1] at hR
     exact xu4 (by omega) g21 g22 (yh8 _ xb0 _) fun u' hu=>hR _ _ ⟨rfl,done u12 r12 (Nat.le_refl _) hu⟩
   ·rw [if_neg (by omega)] at hkey
    refine zg8 (fun hne=>absurd he hne) fun _=>?_
    rw [yx7] at hkey;rw [hkey] at hR;simp only [vr1] at hR
    exact xu4 (by omega) g16 g6 (yh8 _ xb0 _) fun u' hu=>hR _ _ ⟨rfl,done u6 r6 (Nat.le_refl _) hu⟩
theorem yy3 {G:Nat→Prop} {w:World} {r:Nat} {s:St} (hG:¬ G r) (hGs:∀ x,G x→x<w.heap.size) (hrs:r<w.heap.size) (h:yy8 G w r s) :
  za0 prog K.zj3 #[.pointer (some ⟨r,0,none⟩)] w fun v w'=>v= .tuple #[keyV (keyS s).1,.int .i64 ((keyS s).2.1:Nat)]∧Upd (·=r) w w'∧yy8 G w' r (keyS s).2.2:=by
 apply zj3.sh
 suffices H:∀ R:Value→World→Prop,(∀ v w',v= .tuple #[keyV (keyS s).1,.int .i64 ((keyS s).2.1:Nat)]∧Upd (·=r) w w'∧yy8 G w' r (keyS s).2.2→R v w')→zj3.body (some ⟨r,0,none⟩) w R from H _ fun _ _ h=>h
 intro R hR
 unfold zj3.body
 simp only [add_lit,Nat.zero_add]
 intro B1 w₁ hn1
 have hb1:B1=w.heap.size:=hn1.num
 have g1:zz5 w₁ B1 Key.zero:=hn1.get
 have done:∀ {u u':World} {B:Nat} {s':St},Upd (·=r) w u→yy8 G u r s'→B1≤B→Upd (·=B) u u'→Upd (·=r) w u'∧yy8 G u' r s':=fun {u u' B s'} h1 h2 hB h3 =>
  ⟨Upd.mono (F:=fun x=>x=r∨x=B) ((h1.mono fun _ _ h=>.inl h).trans (h3.mono fun _ _ h=>.inr h)) fun x hx hor=>by
   rcases hor with h | h
   ·exact h
   ·omega,
   h2.upd h3 (by omega) fun x hx e=>by have:=hGs x hx;omega⟩
 refine (xt6 (k:=2) (by decide) hG (h.ext hn1.upd)).mono ?_
 rintro _ w₂ ⟨hu2,rfl,hr2⟩
 have u2:Upd (·=r) w w₂:=(Upd.ext hn1.upd).trans hu2
 have g2:zz5 w₂ B1 Key.zero:=hu2.get g1 (by omega)
 have hs2:B1<w₂.heap.size:=(Array.getElem?_eq_some_iff.1 g2).1
 have a2:=yf0 2 s
 have h256:(256:Nat) ^ 2=65536:=by decide
 have hnone:keyS none=(Key.zero,4,none):=rfl
 refine ⟨_,_,rfl,zg8 (fun hne=>?_) fun _=>?_⟩
 ·have hA:zj7 2 s=(0,4,none):=yg4 (by omega)
  have hkey:keyS s=(Key.zero,4,none):=by unfold keyS;simp only [hA];rfl
  rw [hkey] at hR
  rw [hA] at hr2 ⊢
  exact xa5 (k:=Key.zero) g2 fun u' hu=>hR _ _ ⟨rfl,done u2 hr2 (Nat.le_refl _) hu⟩
 refine (xt6 (k:=1) (by decide) hG hr2).mono ?_
 rintro _ w₄ ⟨hu4,rfl,hr4⟩
 have u4:=u2.trans hu4
 have g4:zz5 w₄ B1 Key.zero:=hu4.get g2 (by omega)
 have hs4:=hu4.size
 have a4:=yf0 1 (zj7 2 s).2.2
 generalize ha:zj7 2 s=A at *
 generalize hb:zj7 1 A.2.2=B at *
 have hkey:keyS s=if B.2.1≠0 then (Key.zero,4,none)
   else if B.1=2 then (if (rowS B.2.2).2.1≠0 then (Key.zero,4,none) else ys3 ⟨A.1,UInt8.ofNat B.1,⟨(rowS B.2.2).1.toArray⟩,0⟩ (rowS B.2.2).2.2)
   else if B.1=3 then (if (zj7 1 B.2.2).2.1≠0 then (Key.zero,4,none) else ys3 ⟨A.1,UInt8.ofNat B.1,ByteArray.empty,(zj7 1 B.2.2).1⟩ (zj7 1 B.2.2).2.2)
   else ys3 ⟨A.1,UInt8.ofNat B.1,ByteArray.empty,0⟩ B.2.2:=by
  unfold keyS
  simp only [ha,hb]
 refine ⟨_,_,rfl,zg8 (fun hne=>?_) fun he=>?_⟩
 ·have hB:B=(0,4,none):=by rw [← hb];exact yg4 (by rw [hb];omega)
  rw [if_pos (by omega)] at hkey;rw [hkey] at hR
  rw [hB] at hr4 ⊢
  exact xa5 (k:=Key.zero) g4 fun u' hu=>hR _ _ ⟨rfl,done u4 hr4 (Nat.le_refl _) hu⟩
 rw [if_neg (by omega)] at hkey
 rw [wu8n (by omega),w64n (by omega)]
 refine zu7 (vs:=Key.vals ⟨A.1,UInt8.ofNat B.1,ByteArray.empty,0⟩) rfl fun B2 w₆ hb2 hs6 he6 g6=>?_
 have u6:=u4.then he6
 have r6:=hr4.ext he6
 have g16:zz5 w₆ B1 Key.zero:=Ext.get he6 g4
 refine zi1 (fun h2=>?_) fun h2=>?_
 ·rw [if_pos (by omega)] at hkey
  refine (qg6 hG r6).mono ?_
  rintro _ w₁₁ ⟨hu11,⟨a,c,rfl,hby,hc,hf⟩,hr11⟩
  have u11:=u6.trans hu11
  have hs11:=hu11.size
  have g11:zz5 w₁₁ B1 Key.zero:=hu11.get g16 (by omega)
  have g12:zz5 w₁₁ B2 ⟨A.1,UInt8.ofNat B.1,ByteArray.empty,0⟩:=hu11.get g6 (by omega)
  have hlen:=xi6 B.2.2
  refine ⟨_,_,_,_,rfl,zg8 (fun hne=>?_) fun he3=>?_⟩
  ·have hrow:rowS B.2.2=([],4,none):=vb0 (by omega)
   rw [if_pos (by omega)] at hkey;rw [hkey] at hR
   rw [hrow] at hr11 ⊢
   exact xa5 (k:=Key.zero) g11 fun u' hu=>hR _ _ ⟨rfl,done u11 hr11 (Nat.le_refl _) hu⟩
  ·refine qg5 hby (uo7 g12 fun w₁₂ hu12 g22=>?_)
   have g21:zz5 w₁₂ B1 Key.zero:=hu12.get g11 (by omega)
   obtain ⟨u12,r12⟩:=done u11 hr11 (by omega) hu12
   rw [if_neg (by omega),yx7] at hkey;rw [hkey] at hR;simp only [vr1] at hR
   exact xu4 (by omega) g21 g22 (zr5 _ (by simp [ByteArray.size];omega) _) fun u' hu=>hR _ _ ⟨rfl,done u12 r12 (Nat.le_refl _) hu⟩
 ·rw [if_neg (by omega)] at hkey
  refine zi1 (fun h3=>?_) fun h3=>?_
  ·rw [if_pos (by omega)] at hkey
   refine (xt6 (k:=1) (by decide) hG r6).mono ?_
   rintro _ w₁₁ ⟨hu11,rfl,hr11⟩
   have a11:=yf0 1 B.2.2
   have u11:=u6.trans hu11
   have hs11:=hu11.size
   have g11:zz5 w₁₁ B1 Key.zero:=hu11.get g16 (by omega)
   have g12:zz5 w₁₁ B2 ⟨A.1,UInt8.ofNat B.1,ByteArray.empty,0⟩:=hu11.get g6 (by omega)
   refine ⟨_,_,rfl,zg8 (fun hne=>?_) fun he3=>?_⟩
   ·have hrow:zj7 1 B.2.2=(0,4,none):=yg4 (by omega)
    rw [if_pos (by omega)] at hkey;rw [hkey] at hR
    rw [hrow] at hr11 ⊢
    exact xa5 (k:=Key.zero) g11 fun u' hu=>hR _ _ ⟨rfl,done u11 hr11 (Nat.le_refl _) hu⟩
   ·rw [w64n (by omega)]
    refine uc2 g12 fun w₁₂ hu12 g22=>?_
    have g21:zz5 w₁₂ B1 Key.zero:=hu12.get g11 (by omega)
    obtain ⟨u12,r12⟩:=done u11 hr11 (by omega) hu12
    rw [if_neg (by omega),yx7] at hkey;rw [hkey] at hR;simp only [vr1] at hR
    exact xu4 (by omega) g21 g22 (zr5 _ xb0 _) fun u' hu=>hR _ _ ⟨rfl,done u12 r12 (Nat.le_refl _) hu⟩
  ·rw [if_neg (by omega)] at hkey
   rw [yx7] at hkey;rw [hkey] at hR;simp only [vr1] at hR
   exact xu4 (by omega) g16 g6 (zr5 _ xb0 _) fun u' hu=>hR _ _ ⟨rfl,done u6 r6 (Nat.le_refl _) hu⟩
theorem xi5 {w:World} {b o:Nat} {vs:List Value} (h:za6 w (some ⟨b,o,none⟩) vs) {j:Nat} {v:Value} (hj:vs[j]?=some v):w.cell? ⟨b,o+j,none⟩= some v:=by
 obtain ⟨b',o',e,hc⟩:=h.cell hj
 cases e
 exact hc
theorem Key.oneCell (k:Key):∀ v∈k.vals,v.oneCell'=true:=by
 intro v hv
 simp only [Key.vals,List.mem_cons,List.not_mem_nil,or_false] at hv
 rcases hv with rfl | rfl | rfl | rfl<;>rfl
def keyR:ERep Key:=ut8 Key.vals 4 (by decide) (fun _=>rfl) Key.oneCell
def qg1:ERep Bool:=ut8 (fun b=>[.bool b]) 1 (by decide) (fun _=>rfl) (fun b v hv=>by simp at hv;rw [hv];rfl)
def intR:ERep Int:=ut8 (fun x=>[.int .i64 x]) 1 (by decide) (fun _=>rfl) (fun b v hv=>by simp at hv;rw [hv];rfl)
def u8R:ERep UInt8:=ut8 (fun x=>[bv x]) 1 (by decide) (fun _=>rfl) (fun b v hv=>by simp at hv;rw [hv];rfl)
def zc4:ERep zb2:=ERep.pair keyR (ERep.pair xh2 qg1 (fun x:List UInt8×Bool=>x.1) (fun x=>x.2)) (fun x:zb2=>x.key) (fun x=>(x.val,x.gone))
abbrev yn8 (k:Key) (a:Option Addr) (n c:Nat) (b:Bool):List Value:=[.int .i64 k.ino,bv k.what,.string k.name,.int .i64 k.chunk,.slice a n c,.bool b]
theorem zx5 {w:World} {G:Nat→Prop} {x:zb2} {a:Option Addr} {c:Nat} (hc:x.val.length≤c) (hb:za4 w a x.val) (hg:x.val≠[]→∀ p,a=some p→G p.block) :
  zc4.R w G (yn8 x.key a x.val.length c x.gone) x:=⟨x.key.vals,[.slice a x.val.length c,.bool x.gone],rfl,rfl,[.slice a x.val.length c],[.bool x.gone],rfl,⟨a,c,rfl,hc,hb,hg⟩,rfl⟩
theorem zp6 {w:World} {G:Nat→Prop} {x:zb2} {vs:List Value} (h:zc4.R w G vs x) :
  ∃ a c,vs=yn8 x.key a x.val.length c x.gone∧x.val.length≤c∧za4 w a x.val∧(x.val≠[]→∀ p,a=some p→G p.block):=by
 obtain ⟨u,v,rfl,hu,s,t,rfl,⟨a,c,hs,hc,hb,hg⟩,ht⟩:=h
 have hu':u=x.key.vals:=hu
 have ht':t=[.bool x.gone]:=ht
 subst hu';subst ht'
 have hs':s=[.slice a x.val.length c]:=hs
 subst hs'
 exact ⟨a,c,rfl,hc,hb,hg⟩
def zb2.zero:zb2:=⟨Key.zero,[],false⟩
def oneS (s:St):zb2×Nat×St :=
 let a:=zj7 1 s
 if a.2.1≠0 then (zb2.zero,4,none)
 else if 1<a.1 then (zb2.zero,5,a.2.2)
 else
  let k:=keyS a.2.2
  if k.2.1≠0 then (zb2.zero,k.2.1,k.2.2)
  else if a.1=0 then (⟨k.1,[],true⟩,0,k.2.2)
  else
   let v:=rowS k.2.2
   if v.2.1≠0 then (zb2.zero,4,none) else if v.1.length=0 then (zb2.zero,5,v.2.2) else (⟨k.1,v.1,false⟩,0,v.2.2)
def goS:Nat→St→List zb2→List zb2×Nat
 | 0,s,acc=>if 0<vu9 s then ([],5) else (acc,0)
 | n+1,s,acc=>if (oneS s).2.1≠0 then ([],(oneS s).2.1) else goS n (oneS s).2.2 (acc ++ [(oneS s).1])
def getS (b:List UInt8):List zb2×Nat :=
 if (zj7 1 (some b)).2.1≠0 then ([],4) else if (zj7 1 (some b)).1=0 then ([],5) else goS (zj7 1 (some b)).1 (zj7 1 (some b)).2.2 []
def yi1 (b:List UInt8):Nat×Nat:=if b.length≠8 then (0,5) else if zd0 b=0 then (0,5) else (zd0 b,0)
theorem xo6 {u:World} {B:Nat} {cs:Array Value} {k:Key} {a:Option Addr} {n c:Nat} {b:Bool} {e:Int} {R:Value→World→Prop} (g:u.heap[B]?=some (.cells cs T.zc9 (0,0))) (hcs:cs.size=6)
  (hR:∀ u',Upd (·=B) u u'→R (.tuple #[.agg #[.int .i64 k.ino,bv k.what,.string k.name,.int .i64 k.chunk,.slice a n c,.bool b],.int .i64 e]) u') :
  za5 u ⟨B,0,none⟩ (yn8 k a n c b) fun w'=>∃ x y:Int,∃ m:ByteArray,∃ z:Int,∃ (a':Option Addr) (n' c':Nat),∃ b':Bool,za3 w' ⟨B,0,none⟩ [.int .i64 x,.int .u8 y,.string m,.int .i64 z,.slice a' n' c',.bool b'] 0∧R (.tuple #[.agg #[.int .i64 x,.int .u8 y,.string m,.int .i64 z,.slice a' n' c',.bool b'],.int .i64 e]) w' :=
 ui1 g (by rw [hcs];rfl) fun w' hu _ hg=>⟨_,_,_,_,_,_,_,_,zz3 hg,hR w' hu⟩
theorem xm5 {G:Nat→Prop} {w:World} {r:Nat} {s:St} (hG:¬ G r) (hGs:∀ x,G x→x<w.heap.size) (hrs:r<w.heap.size) (h:RdIn G w r s) :
  za0 prog K.zr9 #[.agg #[.pointer (some ⟨r,0,none⟩)]] w fun v w'=>Upd (·=r) w w'∧RdIn G w' r (oneS s).2.2∧∃ k a n c b,v= .tuple #[.agg #[.int .i64 k.ino,bv k.what,.string k.name,.int .i64 k.chunk,.slice a n c,.bool b],.int .i64 ((oneS s).2.1:Nat)]∧
   ((oneS s).2.1=0→k=(oneS s).1.key∧b=(oneS s).1.gone∧n=(oneS s).1.val.length∧n≤c∧za4 w' a (oneS s).1.val∧∀ p,a=some p→w.heap.size≤p.block∧p.block<w'.heap.size):=by
 apply zr9.sh
 suffices H:∀ R:Value→World→Prop,(∀ v w',(Upd (·=r) w w'∧RdIn G w' r (oneS s).2.2∧∃ k a n c b,v= .tuple #[.agg #[.int .i64 k.ino,bv k.what,.string k.name,.int .i64 k.chunk,.slice a n c,.bool b],.int .i64 ((oneS s).2.1:Nat)]∧
   ((oneS s).2.1=0→k=(oneS s).1.key∧b=(oneS s).1.gone∧n=(oneS s).1.val.length∧n≤c∧za4 w' a (oneS s).1.val∧∀ p,a=some p→w.heap.size≤p.block∧p.block<w'.heap.size))→R v w')→zr9.body (some ⟨r,0,none⟩) w R from H _ fun _ _ h=>h
 intro R hR
 unfold zr9.body
 intro B1 w₁ hn1 B2 w₂ hn2
 have hb1:B1=w.heap.size:=hn1.num
 have hb2:B2=w₁.heap.size:=hn2.num
 have hs1:=hn1.size
 have hs2:=hn2.size
 have e2:Ext w w₂:=hn1.upd.trans hn2.upd
 have done:∀ {u u':World} {s':St},Upd (·=r) w u→RdIn G u r s'→Upd (·=B2) u u'→Upd (·=r) w u'∧RdIn G u' r s':=fun {u u' s'} h1 h2 h3 =>
  ⟨Upd.mono (F:=fun x=>x=r∨x=B2) ((h1.mono fun _ _ h=>.inl h).trans (h3.mono fun _ _ h=>.inr h)) fun x hx hor=>by
   rcases hor with h | h
   ·exact h
   ·omega,
   h2.upd h3 (by omega) fun x hx e=>by have:=hGs x hx;omega⟩
 have g11:w₂.heap[B1]?=some (.cells #[.pointer (some ⟨r,0,none⟩)] T.xi8 (0,0)):=Ext.get hn2.upd hn1.get
 have g12:=hn2.get
 refine ⟨_,za2 g11 rfl,(ve2 (k:=1) (by decide) hG (h.ext e2)).mono ?_⟩
 rintro _ w₃ ⟨hu3,rfl,hr3⟩
 have u3:Upd (·=r) w w₃:=(Upd.ext e2).trans hu3
 have g31:=hu3.get g11 (by omega)
 have g32:=hu3.get g12 (by omega)
 have hs3:=hu3.size
 have a3:=yf0 1 s
 have hone:oneS s=oneS s:=rfl
 conv at hone=>rhs;unfold oneS
 refine ⟨_,_,rfl,zg8 (fun hne=>?_) fun he=>?_⟩
 ·have hA:zj7 1 s=(0,4,none):=yg4 (by omega)
  rw [hA] at hone
  replace hone:oneS s=(zb2.zero,4,none):=hone
  rw [hone] at hR
  rw [hA] at hr3 ⊢
  exact xo6 (k:=Key.zero) g32 rfl fun u' hu=>hR _ _ ⟨(done u3 hr3 hu).1,(done u3 hr3 hu).2,Key.zero,none,0,0,false,rfl,fun h=>by cases h⟩
 ·simp only [] at hone
  rw [if_neg (by omega)] at hone
  refine za8 (fun h1=>?_) fun h1=>?_
  ·rw [if_pos (by omega)] at hone
   rw [hone] at hR
   exact xo6 (k:=Key.zero) g32 rfl fun u' hu=>hR _ _ ⟨(done u3 hr3 hu).1,(done u3 hr3 hu).2,Key.zero,none,0,0,false,rfl,fun h=>by cases h⟩
  ·rw [if_neg (by omega)] at hone
   refine ⟨_,za2 g31 rfl,(va3 hG (fun x hx=>by have:=hGs x hx;omega) (by omega) hr3).mono ?_⟩
   rintro _ w₆ ⟨rfl,hu6,hr6⟩
   have u6:=u3.trans hu6
   have hs6:=hu6.size
   refine ⟨_,_,_,_,_,rfl,zu7 (vs:=Key.vals (keyS (zj7 1 s).2.2).1) rfl fun B3 w₈ hb3 hs8 he8 g83=>?_⟩
   have u8:=u6.then he8
   have r8:=hr6.ext he8
   have g81:=Ext.get he8 (hu6.get g31 (by omega))
   have g82:=Ext.get he8 (hu6.get g32 (by omega))
   refine zg8 (fun hne=>?_) fun he6=>?_
   ·rw [if_pos (by omega)] at hone
    rw [hone] at hR
    exact ⟨_,_,_,_,zw8 g83,xo6 g82 rfl fun u' hu=>hR _ _ ⟨(done u8 r8 hu).1,(done u8 r8 hu).2,_,_,_,_,_,rfl,fun h=>absurd h (by show ¬ (keyS (zj7 1 s).2.2).2.1=0;omega)⟩⟩
   ·rw [if_neg (by omega)] at hone
    refine zi1 (fun h0=>?_) fun h0=>?_
    ·rw [if_pos (by omega)] at hone
     rw [hone] at hR
     refine ⟨_,_,_,_,zw8 g83,xo6 g82 rfl fun u' hu=>hR _ _ ⟨(done u8 r8 hu).1,(done u8 r8 hu).2,_,none,0,0,true,?_,fun _=>⟨rfl,rfl,rfl,Nat.le_refl _,za4.nil _ none,fun _ hp=>by cases hp⟩⟩⟩
     rw [he6];rfl
    ·rw [if_neg (by omega)] at hone
     refine ⟨_,za2 g81 rfl,(qm0 hG r8).mono ?_⟩
     rintro _ w₁₁ ⟨hu11,⟨a,c,rfl,hby,hc,hf⟩,hr11⟩
     have u11:=u8.trans hu11
     have g112:=hu11.get g82 (by omega)
     have g113:=hu11.get g83 (by omega)
     refine ⟨_,_,_,_,rfl,zi1 (fun he11=>zi1 (fun hl=>?_) fun hl=>?_) fun hne=>?_⟩
     ·rw [if_neg (by omega),if_pos (by omega)] at hone
      rw [hone] at hR
      exact ⟨_,_,_,_,zw8 g113,xo6 g112 rfl fun u' hu=>hR _ _ ⟨(done u11 hr11 hu).1,(done u11 hr11 hu).2,_,_,_,_,_,rfl,fun h=>by cases h⟩⟩
     ·rw [if_neg (by omega),if_neg (by omega)] at hone
      rw [hone] at hR
      refine ⟨_,_,_,_,zw8 g113,xo6 g112 rfl fun u' hu=>hR _ _ ⟨(done u11 hr11 hu).1,(done u11 hr11 hu).2,_,a,_,c,false,?_,fun _=>⟨rfl,rfl,rfl,hc,?_,fun p hp=>?_⟩⟩⟩
      ·rw [he11];rfl
      ·refine za6.upd hby hu fun p hp e=>?_
       have:=(hf p hp).1
       omega
      ·have:=hf p hp
       have:=hu.size
       omega
     ·have hrow:=vb0 (s:=(keyS (zj7 1 s).2.2).2.2) (by omega)
      rw [if_pos (by omega)] at hone
      rw [hone] at hR
      rw [hrow] at hr11 ⊢
      exact ⟨_,_,_,_,zw8 g113,xo6 g112 rfl fun u' hu=>hR _ _ ⟨(done u11 hr11 hu).1,(done u11 hr11 hu).2,_,_,_,_,_,rfl,fun h=>by cases h⟩⟩
theorem uo9 {n i:Nat} {s:St} {acc:List zb2} (hi:i<n):goS (n - i) s acc=if (oneS s).2.1≠0 then ([],(oneS s).2.1) else goS (n - (i+1)) (oneS s).2.2 (acc ++ [(oneS s).1]):=by
 obtain ⟨m,hm⟩: ∃ m,n - i=m+1:=⟨n - i - 1,by omega⟩
 have hm':n - (i+1)=m:=by omega
 rw [hm,hm'];rfl
theorem ud4 {b:List UInt8} (h0:(zj7 1 (some b)).2.1=0) (h1:(zj7 1 (some b)).1≠0):getS b=goS ((zj7 1 (some b)).1 - 0) (zj7 1 (some b)).2.2 []:=by
 unfold getS
 rw [if_neg (by omega),if_neg (by omega)];rfl
def ya4 {α:Type} (r:ERep α) (e:TypeId) (w w':World) (v:Value) (l:List α) (x:Nat):Prop:=∃ a c,v= .tuple #[.slice a l.length c,.int .i64 (x:Nat)]∧zb4 r NoB w.heap.size w' a c e l∧Ext w w'
theorem ya4.none {α:Type} {r:ERep α} {e:TypeId} {w w':World} {x:Nat} {l:List α} (hl:l=[]) (h:Ext w w'):ya4 r e w w' (.tuple #[.slice .none 0 0,.int .i64 (x:Nat)]) l x:=by
 subst hl;exact ⟨.none,0,rfl,zb4.nil _ _,h⟩
theorem vz2 {w:World} {a:Option Addr} {b:List UInt8} {c:Nat} (hb:za4 w a b) (hn:b.length≤281474976710656) :
  za0 prog K.yu3 #[.slice a b.length c] w fun v w'=>ya4 zc4 T.zc9 w w' v (getS b).1 (getS b).2:=by
 apply yu3.sh
 suffices H:∀ R:Value→World→Prop,(∀ v w',ya4 zc4 T.zc9 w w' v (getS b).1 (getS b).2→R v w')→yu3.body a b.length c w R from H _ fun _ _ h=>h
 intro R hR
 unfold yu3.body
 refine (xo5 a b c w hb hn).mono ?_
 rintro _ w₁ ⟨r,rfl,hr1,hrd,he1⟩
 have hrs1:r<w₁.heap.size:=by obtain ⟨_,_,h,_⟩:=hrd.at_;exact (Array.getElem?_eq_some_iff.1 h).1
 refine ⟨_,rfl,zu7 (vs:=[.pointer (some ⟨r,0,none⟩)]) rfl fun B1 w₃ hb1 hs3 he3 g3=>?_⟩
 have hG:¬ (fun x=>w.heap.size≤x∧x<r) r:=by simp
 have hrd3:RdIn (fun x=>w.heap.size≤x∧x<r) w₃ r (some b):=zv9.updG hrd he3 (fun h=>h) (fun _ _ h=>h)
 have e3:Ext w w₃:=he1.trans he3
 refine ⟨_,za2 g3 rfl,(ve2 (k:=1) (by decide) hG hrd3).mono ?_⟩
 rintro _ w₄ ⟨hu4,rfl,hr4⟩
 have e4:Ext w w₄:=e3.beyond hu4 fun x hx=>by omega
 have hs4:=hu4.size
 have g4:=hu4.get g3 (by omega)
 have a4:=yf0 1 (some b)
 refine ⟨_,_,rfl,zg8 (fun hne=>?_) fun he=>zi1 (fun h0=>?_) fun h0=>?_⟩
 ·have hA:zj7 1 (some b)=(0,4,none):=yg4 (by omega)
  have hg:getS b=([],4):=by unfold getS;rw [hA];rfl
  rw [hg] at hR
  rw [hA]
  exact hR _ _ (ya4.none rfl e4)
 ·have hg:getS b=([],5):=by unfold getS;rw [if_neg (by omega),if_pos (by omega)]
  rw [hg] at hR
  exact hR _ _ (ya4.none (x:=5) rfl e4)
 have hget:=ud4 (b:=b) (by omega) (by omega)
 generalize zj7 1 (some b)=A at *
 refine ⟨fun a1 l1 c1 x u=>∃ (i:Nat) (s:St) (acc:List zb2),x=i∧i≤A.1∧l1=acc.length∧acc.length=i∧zb4 zc4 NoB w₃.heap.size u a1 c1 T.zc9 acc∧RdIn (fun x=>w.heap.size≤x∧x<r) u r s∧Ext w u∧w₃.heap.size≤u.heap.size∧u.heap[B1]?=some (.cells [Value.pointer (some ⟨r,0,none⟩)].toArray T.xi8 (0,0))∧getS b=goS (A.1 - i) s acc,
  fun _ _ _ x _=>((A.1:Int) - x).toNat,⟨0,_,[],rfl,by omega,rfl,rfl,zb4.nil _ _,hr4,e4,hu4.size,g4,hget⟩,?_⟩
 rintro a1 l1 c1 x u ⟨i,s,acc,rfl,hi,rfl,hacc,hl,hrd,heu,hsu,gu,hgo⟩
 refine za8 (fun hlt=>?_) fun hge=>?_
 ·have hi':i<A.1:=by omega
  rw [uo9 hi'] at hgo
  refine ⟨_,zz3 gu,(xm5 hG (fun x hx=>by omega) (by omega) hrd).mono ?_⟩
  rintro _ w₆ ⟨hu6,hr6,k,a2,n2,c2,b2,rfl,hok⟩
  have hs6:=hu6.size
  refine ⟨_,_,_,_,_,_,_,_,_,rfl,zu7 (vs:=yn8 k a2 n2 c2 b2) rfl fun B2 w₈ hb2 hs8 he8 g8=>?_⟩
  have e6:Ext w w₆:=heu.beyond hu6 fun x hx=>by omega
  have hl6:zb4 zc4 NoB w₃.heap.size w₆ a1 c1 T.zc9 acc:=hl.upd hu6 fun x hx=>⟨by omega,fun h=>h⟩
  have g6:=hu6.get gu (by omega)
  refine zg8 (fun hne=>?_) fun he6=>?_
  ·rw [if_pos (by omega)] at hgo
   rw [hgo] at hR
   exact hR _ _ (ya4.none rfl (e6.trans he8))
  ·rw [if_neg (by omega)] at hgo
   obtain ⟨rfl,rfl,rfl,hc2,hby,hf⟩:=hok (by omega)
   refine ⟨_,_,_,_,_,_,_,_,zz3 g8,fun B3 w₉ hn9=>?_⟩
   have he9:=hn9.upd
   have hs9:=hn9.size
   have hl9:=(hl6.ext he8).ext he9
   refine zb4.push (r:=zc4) (H:=fun b=>u.heap.size≤b∧b<w₆.heap.size) hl9 (zx5 hc2 ((hby.ext he8).ext he9) fun _ p hp=>hf p hp) (fun b hb=>⟨.inl (by omega),by omega,fun h=>?_⟩) hn9 rfl rfl (by omega) (by omega) (by omega) fun a' c' w₁₀ hu10 hl10=>?_
   ·have:=hl.lt h
    omega
   ·have e10:Ext w w₁₀:=((e6.trans he8).trans he9).beyond hu10 fun x hx=>by omega
    have hs10:=hu10.size
    have ew:IntKind.u64.wrap ((i:Int)+1)=((i+1:Nat):Int):=wu64 (by omega) (by omega)
    simp only [ew]
    refine ⟨⟨i+1,_,_,rfl,hi',rfl,by simp [hacc],hl10,(((hr6.ext he8).ext he9).upd hu10 (by omega) fun x hx=>by omega),e10,by omega,hu10.get (Ext.get he9 (Ext.get he8 g6)) (by omega),hgo⟩,meas hi'⟩
 ·have hin:i=A.1:=by omega
  subst hin
  rw [Nat.sub_self] at hgo
  refine ⟨_,za2 gu rfl,(qm1 hrd).mono ?_⟩
  rintro _ _ ⟨rfl,rfl⟩
  refine ⟨_,rfl,za8 (fun hl0=>?_) fun hl0=>?_⟩
  ·have hg:getS b=([],5):=by rw [hgo];unfold goS;rw [if_pos (by omega)]
   rw [hg] at hR
   exact hR _ _ (ya4.none (x:=5) rfl heu)
  ·have hg:getS b=(acc,0):=by rw [hgo];unfold goS;rw [if_neg (by omega)]
   rw [hg] at hR
   exact hR _ _ ⟨a1,c1,rfl,hl.weak (by omega) (fun _ h=>h.elim),heu⟩
theorem xg8 {w:World} {a:Option Addr} {b:List UInt8} {c:Nat} (hb:za4 w a b) (hn:b.length≤1000000000000) :
  za0 prog K.zn7 #[.slice a b.length c] w fun v w'=>ya4 zc4 T.zc9 w w' v (getS b).1 (getS b).2:=by
 apply zn7.sh
 suffices H:∀ R:Value→World→Prop,(∀ v w',ya4 zc4 T.zc9 w w' v (getS b).1 (getS b).2→R v w')→zn7.body a b.length c w R from H _ fun _ _ h=>h
 intro R hR
 unfold zn7.body
 refine yi2 hb (by omega) fun a1 c1 w₁ he1 hb1 hc1 hf1 hnil B1 w₂ hn2=>?_
 have hs2:=hn2.size
 have hB1:B1=w₁.heap.size:=hn2.num
 have hs1:=he1.size
 have e2:Ext w w₂:=he1.trans hn2.upd
 have hG:¬ (fun x=>w.heap.size≤x∧x<B1) B1:=by simp
 have hrd2:yy8 (fun x=>w.heap.size≤x∧x<B1) w₂ B1 (some b):=⟨⟨a1,c1,hn2.get,hb1.ext hn2.upd,hc1,fun p hp=>⟨hf1 p hp,by
  by_cases hl0:b=[]
  ·rw [hnil hl0] at hp;cases hp
  ·obtain ⟨b',o,hab,hlt⟩:=za6.blk hb1 (by simpa using hl0)
   rw [hab] at hp;cases hp;rw [hB1];exact hlt⟩⟩,hn⟩
 refine (xt6 (k:=1) (by decide) hG hrd2).mono ?_
 rintro _ w₄ ⟨hu4,rfl,hr4⟩
 have e4:Ext w w₄:=e2.beyond hu4 fun x hx=>by omega
 have hs4:=hu4.size
 have a4:=yf0 1 (some b)
 refine ⟨_,_,rfl,zg8 (fun hne=>?_) fun he=>zi1 (fun h0=>?_) fun h0=>?_⟩
 ·have hA:zj7 1 (some b)=(0,4,none):=yg4 (by omega)
  have hg:getS b=([],4):=by unfold getS;rw [hA];rfl
  rw [hg] at hR
  rw [hA]
  exact hR _ _ (ya4.none rfl e4)
 ·have hg:getS b=([],5):=by unfold getS;rw [if_neg (by omega),if_pos (by omega)]
  rw [hg] at hR
  exact hR _ _ (ya4.none (x:=5) rfl e4)
 have hget:=ud4 (b:=b) (by omega) (by omega)
 generalize zj7 1 (some b)=A at *
 have hsB:B1<w₄.heap.size:=by omega
 refine ⟨fun a1 l1 c1 x u=>∃ (i:Nat) (s:St) (acc:List zb2),x=i∧i≤A.1∧l1=acc.length∧acc.length=i∧zb4 zc4 NoB w₄.heap.size u a1 c1 T.zc9 acc∧yy8 (fun x=>w.heap.size≤x∧x<B1) u B1 s∧Ext w u∧w₄.heap.size≤u.heap.size∧getS b=goS (A.1 - i) s acc,
  fun _ _ _ x _=>((A.1:Int) - x).toNat,⟨0,_,[],rfl,by omega,rfl,rfl,zb4.nil _ _,hr4,e4,Nat.le_refl _,hget⟩,?_⟩
 rintro a1 l1 c1 x u ⟨i,s,acc,rfl,hi,rfl,hacc,hl,hrd,heu,hsu,hgo⟩
 refine za8 (fun hlt=>?_) fun hge=>?_
 ·have hi':i<A.1:=by omega
  have ew:IntKind.u64.wrap ((i:Int)+1)=((i+1:Nat):Int):=wu64 (by omega) (by omega)
  simp only [ew]
  rw [uo9 hi'] at hgo
  refine (xt6 (k:=1) (by decide) hG hrd).mono ?_
  rintro _ w₅ ⟨hu5,rfl,hr5⟩
  have e5:Ext w w₅:=heu.beyond hu5 fun x hx=>by omega
  have hl5:zb4 zc4 NoB w₄.heap.size w₅ a1 c1 T.zc9 acc:=hl.upd hu5 fun x hx=>⟨by omega,fun h=>h⟩
  have hs5:=hu5.size
  have a5:=yf0 1 s
  have hone:oneS s=oneS s:=rfl
  conv at hone=>rhs;unfold oneS
  refine ⟨_,_,rfl,zg8 (fun hne=>?_) fun he=>?_⟩
  ·have hA:zj7 1 s=(0,4,none):=yg4 (by omega)
   rw [hA] at hone
   replace hone:oneS s=(zb2.zero,4,none):=hone
   rw [hone,if_pos (by simp)] at hgo
   rw [hgo] at hR
   rw [hA]
   exact hR _ _ (ya4.none rfl e5)
  simp only [] at hone
  rw [if_neg (by omega)] at hone
  refine za8 (fun h1=>?_) fun h1=>?_
  ·rw [if_pos (by omega)] at hone
   rw [hone,if_pos (by simp)] at hgo
   rw [hgo] at hR
   exact hR _ _ (ya4.none (x:=5) rfl e5)
  rw [if_neg (by omega)] at hone
  refine (yy3 hG (fun x hx=>by omega) (by omega) hr5).mono ?_
  rintro _ w₆ ⟨rfl,hu6,hr6⟩
  have e6:Ext w w₆:=e5.beyond hu6 fun x hx=>by omega
  have hl6:zb4 zc4 NoB w₄.heap.size w₆ a1 c1 T.zc9 acc:=hl5.upd hu6 fun x hx=>⟨by omega,fun h=>h⟩
  have hs6:=hu6.size
  refine ⟨_,_,_,_,_,rfl,zu7 (vs:=Key.vals (keyS (zj7 1 s).2.2).1) rfl fun B2 w₈ hb2 hs8 he8 g8=>?_⟩
  have e8:=e6.trans he8
  have hl8:=hl6.ext he8
  have hr8:=hr6.ext he8
  refine zg8 (fun hne=>?_) fun he6=>?_
  ·rw [if_pos (by omega)] at hone
   rw [hone,if_pos (by show (keyS (zj7 1 s).2.2).2.1≠0;omega)] at hgo
   rw [hgo] at hR
   exact hR _ _ (ya4.none rfl e8)
  rw [if_neg (by omega)] at hone
  refine zi1 (fun h0=>?_) fun h0=>?_
  ·rw [if_pos (by omega)] at hone
   rw [hone,if_neg (by simp)] at hgo
   refine ⟨_,_,_,_,zw8 g8,fun B3 w₉ hn9=>?_⟩
   have he9:=hn9.upd
   have hs9:=hn9.size
   refine zb4.push (r:=zc4) (H:=NoB) (hl8.ext he9) (x:=⟨(keyS (zj7 1 s).2.2).1,[],true⟩) (zx5 (a:=none) (c:=0) (x:=⟨(keyS (zj7 1 s).2.2).1,[],true⟩) (Nat.le_refl _) (za4.nil _ _) fun h=>absurd rfl h) (fun b hb=>hb.elim) hn9 rfl rfl (by omega) (by omega) (by omega) fun a' c' w₁₀ hu10 hl10=>?_
   have e10:Ext w w₁₀:=(e8.trans he9).beyond hu10 fun x hx=>by omega
   have hs10:=hu10.size
   exact ⟨⟨i+1,_,_,rfl,hi',rfl,by simp [hacc],hl10,((hr8.ext he9).upd hu10 (by omega) fun x hx=>by omega),e10,by omega,hgo⟩,meas hi'⟩
  ·rw [if_neg (by omega)] at hone
   refine (qg6 hG hr8).mono ?_
   rintro _ w₁₁ ⟨hu11,⟨a4,c4,rfl,hby,hc4,hf4⟩,hr11⟩
   have e11:Ext w w₁₁:=e8.beyond hu11 fun x hx=>by omega
   have hl11:zb4 zc4 NoB w₄.heap.size w₁₁ a1 c1 T.zc9 acc:=hl8.upd hu11 fun x hx=>⟨by omega,fun h=>h⟩
   have hs11:=hu11.size
   have g11:=hu11.get g8 (by omega)
   refine ⟨_,_,_,_,rfl,zg8 (fun hne=>?_) fun he11=>zi1 (fun hl0=>?_) fun hl0=>?_⟩
   ·have hrow:=vb0 (s:=(keyS (zj7 1 s).2.2).2.2) (by omega)
    rw [if_pos (by omega)] at hone
    rw [hone,if_pos (by simp)] at hgo
    rw [hgo] at hR
    rw [hrow]
    exact hR _ _ (ya4.none (x:=4) rfl e11)
   ·rw [if_neg (by omega),if_pos (by omega)] at hone
    rw [hone,if_pos (by simp)] at hgo
    rw [hgo] at hR
    exact hR _ _ (ya4.none (x:=5) rfl e11)
   ·rw [if_neg (by omega),if_neg (by omega)] at hone
    rw [hone,if_neg (by simp)] at hgo
    refine ⟨_,_,_,_,zw8 g11,fun B3 w₁₂ hn12=>?_⟩
    have he12:=hn12.upd
    have hs12:=hn12.size
    refine zb4.push (r:=zc4) (H:=fun b=>w₈.heap.size≤b∧b<w₁₁.heap.size) (hl11.ext he12) (x:=⟨(keyS (zj7 1 s).2.2).1,(rowS (keyS (zj7 1 s).2.2).2.2).1,false⟩) (zx5 (x:=⟨(keyS (zj7 1 s).2.2).1,(rowS (keyS (zj7 1 s).2.2).2.2).1,false⟩) hc4 (hby.ext he12) fun _ p hp=>hf4 p hp) (fun b hb=>⟨.inl (by omega),by omega,fun h=>?_⟩) hn12 rfl rfl (by omega) (by omega) (by omega) fun a' c' w₁₃ hu13 hl13=>?_
    ·have:=hl.lt h
     omega
    ·have e13:Ext w w₁₃:=(e11.trans he12).beyond hu13 fun x hx=>by omega
     have hs13:=hu13.size
     exact ⟨⟨i+1,_,_,rfl,hi',rfl,by simp [hacc],hl13,((hr11.ext he12).upd hu13 (by omega) fun x hx=>by omega),e13,by omega,hgo⟩,meas hi'⟩
 ·have hin:i=A.1:=by omega
  subst hin
  rw [Nat.sub_self] at hgo
  refine (qi2 hrd).mono ?_
  rintro _ _ ⟨rfl,rfl⟩
  refine ⟨_,rfl,za8 (fun hl0=>?_) fun hl0=>?_⟩
  ·have hg:getS b=([],5):=by rw [hgo];unfold goS;rw [if_pos (by omega)]
   rw [hg] at hR
   exact hR _ _ (ya4.none (x:=5) rfl heu)
  ·have hg:getS b=(acc,0):=by rw [hgo];unfold goS;rw [if_neg (by omega)]
   rw [hg] at hR
   exact hR _ _ ⟨a1,c1,rfl,hl.weak (by omega) (fun _ h=>h.elim),heu⟩
theorem vc3 {b:List UInt8} (h:b.length=8):zj7 8 (some b)=(zd0 b,0,some []):=by
 unfold zj7
 simp only []
 rw [if_neg (by omega),List.take_of_length_le (by omega),List.drop_of_length_le (by omega)]
theorem xz3 {w:World} {a:Option Addr} {b:List UInt8} {c:Nat} (hb:za4 w a b) (hn:b.length≤281474976710656) :
  za0 prog K.zz7 #[.slice a b.length c] w fun v w'=>v= .tuple #[.int .u64 ((yi1 b).1:Nat),.int .i64 ((yi1 b).2:Nat)]∧Ext w w':=by
 apply zz7.sh
 suffices H:∀ R:Value→World→Prop,(∀ v w',v= .tuple #[.int .u64 ((yi1 b).1:Nat),.int .i64 ((yi1 b).2:Nat)]∧Ext w w'→R v w')→zz7.body a b.length c w R from H _ fun _ _ h=>h
 intro R hR
 unfold zz7.body
 refine (xo5 a b c w hb hn).mono ?_
 rintro _ w₁ ⟨r,rfl,hr1,hrd,he1⟩
 have hG:¬ (fun x=>w.heap.size≤x∧x<r) r:=by simp
 refine ⟨_,rfl,(ve2 (s:=some b) (k:=8) (by decide) hG hrd).mono ?_⟩
 rintro _ w₂ ⟨hu2,rfl,_⟩
 have e2:Ext w w₂:=he1.beyond hu2 fun x hx=>by omega
 refine ⟨_,_,rfl,zg8 (fun hne=>?_) fun he=>zg8 (fun h8=>?_) fun h8=>?_⟩
 ·have hg:yi1 b=(0,5):=by
   unfold yi1
   rw [if_pos]
   intro h
   rw [vc3 h] at hne
   exact hne rfl
  rw [hg] at hR
  exact hR _ _ ⟨rfl,e2⟩
 ·have hg:yi1 b=(0,5):=by unfold yi1;rw [if_pos (by omega)]
  rw [hg] at hR
  exact hR _ _ ⟨rfl,e2⟩
 ·have h8':b.length=8:=by omega
  rw [vc3 h8']
  refine zi1 (fun h0=>?_) fun h0=>?_
  ·have hg:yi1 b=(0,5):=by unfold yi1;rw [if_neg (by omega),if_pos (by have:((zd0 b:Nat):Int)=0:=h0;omega)]
   rw [hg] at hR
   exact hR _ _ ⟨rfl,e2⟩
  ·have hg:yi1 b=(zd0 b,0):=by unfold yi1;rw [if_neg (by omega),if_neg (by have:¬ ((zd0 b:Nat):Int)=0:=h0;omega)]
   rw [hg] at hR
   exact hR _ _ ⟨rfl,e2⟩
theorem yv4 {w:World} {a:Option Addr} {b:List UInt8} {c:Nat} (hb:za4 w a b) (hc:b.length≤c) :
  za0 prog K.ze8 #[.slice a b.length c] w fun v w'=>v= .tuple #[.int .u64 ((yi1 b).1:Nat),.int .i64 ((yi1 b).2:Nat)]∧Ext w w':=by
 apply ze8.sh
 suffices H:∀ R:Value→World→Prop,(∀ v w',v= .tuple #[.int .u64 ((yi1 b).1:Nat),.int .i64 ((yi1 b).2:Nat)]∧Ext w w'→R v w')→ze8.body a b.length c w R from H _ fun _ _ h=>h
 intro R hR
 unfold ze8.body
 refine zg8 (fun h8=>?_) fun h8=>?_
 ·have hg:yi1 b=(0,5):=by unfold yi1;rw [if_pos (by omega)]
  rw [hg] at hR
  exact hR _ _ ⟨rfl,Upd.refl _ _⟩
 ·have h8':b.length=8:=by omega
  intro B1 w₁ hn1
  have hB1:B1=w.heap.size:=hn1.num
  have hG:¬ (fun x=>x≠B1) B1:=by simp
  have hrd:yy8 (fun x=>x≠B1) w₁ B1 (some b):=⟨⟨a,c,hn1.get,hb.ext hn1.upd,hc,fun p hp=>by
   obtain ⟨b',o,hab,hlt⟩:=za6.blk hb (by intro h;have:=congrArg List.length h;simp at this;rw [this] at h8';simp at h8')
   rw [hab] at hp;cases hp
   show b'≠B1
   omega⟩,by omega⟩
  refine (xt6 (G:=fun x=>x≠B1) (k:=8) (by decide) hG hrd).mono ?_
  rintro _ w₂ ⟨hu2,rfl,_⟩
  have e2:Ext w w₂:=(hn1.upd).beyond hu2 fun x hx=>by omega
  rw [vc3 h8']
  refine ⟨_,_,rfl,zi1 (fun h0=>?_) fun h0=>?_⟩
  ·have hg:yi1 b=(0,5):=by unfold yi1;rw [if_neg (by omega),if_pos (by have:((zd0 b:Nat):Int)=0:=h0;omega)]
   rw [hg] at hR
   exact hR _ _ ⟨rfl,e2⟩
  ·have hg:yi1 b=(zd0 b,0):=by unfold yi1;rw [if_neg (by omega),if_neg (by have:¬ ((zd0 b:Nat):Int)=0:=h0;omega)]
   rw [hg] at hR
   exact hR _ _ ⟨rfl,e2⟩
def zr8 (S:Nat) (w:World) (a:Option Addr) (cap:Nat) (l:List UInt8):Prop:=zb6 w a l.length cap T.zf7 1 (l.map bv)∧∀ b,a=some ⟨b,0,none⟩→S≤b
theorem zr8.nil (S:Nat) (w:World):zr8 S w none 0 []:=⟨zb6.nil _ _ _,fun _ h=>by cases h⟩
theorem zr8.bytes {S:Nat} {w:World} {a:Option Addr} {cap:Nat} {l:List UInt8} (h:zr8 S w a cap l):za4 w a l:=h.1.row
theorem zr8.weak {S S':Nat} {w:World} {a:Option Addr} {cap:Nat} {l:List UInt8} (h:zr8 S w a cap l) (hS:S'≤S):zr8 S' w a cap l:=⟨h.1,fun b hb=>Nat.le_trans hS (h.2 b hb)⟩
theorem zr8.ext {S:Nat} {w w':World} {a:Option Addr} {cap:Nat} {l:List UInt8} (h:zr8 S w a cap l) (k:Ext w w'):zr8 S w' a cap l:=⟨h.1.ext k,h.2⟩
theorem zr8.lt {S:Nat} {w:World} {a:Option Addr} {cap:Nat} {l:List UInt8} (h:zr8 S w a cap l) {p:Addr} (hp:a=some p):S≤p.block∧p.block<w.heap.size:=by
 have hb:=h.1.2.2
 rcases hb with ⟨hx,_⟩| ⟨b,cur,hx,hb,_⟩
 ·rw [hx] at hp;cases hp
 ·have hs:=h.2 b hx
  rw [hx] at hp;cases hp
  exact ⟨hs,(Array.getElem?_eq_some_iff.1 hb).1⟩
theorem zr8.new {S:Nat} {w w':World} {B:Nat} {cs:Array Value} (h:New w (.cells cs T.zf7) B w') {l:List UInt8} (hl:cs.toList=l.map bv) (hS:S≤w.heap.size):zr8 S w' (some ⟨B,0,none⟩) l.length l:=by
 have hsz:cs.size=l.length * 1:=by rw [← Array.length_toList,hl];simp
 have:=zb6.new h (n:=l.length) (size:=1) hsz
 rw [hl] at this
 exact ⟨this,fun b hb=>by cases hb;rw [h.num];exact hS⟩
theorem zr8.cat {S:Nat} {w:World} {a ax:Option Addr} {cap n m cx:Nat} {l xs:List UInt8} (h:zr8 S w a cap l) (hn:n=l.length) (hm:m=xs.length) (hx:za4 w ax xs) (hb:l.length+xs.length≤140737488355232) (hS:S≤w.heap.size) {K:Option Addr→Nat→Nat→World→Prop}
  (hk:∀ a' c' w',Upd (fun b=>S≤b) w w'→zr8 S w' a' c' (l ++ xs)→K a' (l ++ xs).length c' w'):zb5 T.zf7 1 1 [Value.int .u8 0] a n cap (.slice ax m cx) w K:=by
 subst hn;subst hm
 refine ye8 h.1 hx hb fun a' c' w' hu ho hf=>hk a' c' w' (hu.mono fun b _ hb=>h.2 b hb) ⟨ho,fun b hb=>?_⟩
 rcases hf with hf | ⟨b',hb',hl⟩
 ·subst hf;exact h.2 b hb
 ·rw [hb'] at hb;cases hb;omega
theorem zr8.push {S:Nat} {w w₁:World} {a:Option Addr} {cap n:Nat} {l:List UInt8} {B:Nat} {x:UInt8} (h:zr8 S w a cap l) (hn:n=l.length) (hnew:New w (.cells #[bv x] T.zf7) B w₁) (hb:l.length+1≤140737488355232) (hS:S≤w.heap.size) {K:Option Addr→Nat→Nat→World→Prop}
  (hk:∀ a' c' w',Upd (fun b=>S≤b) w w'→zr8 S w' a' c' (l ++ [x])→K a' (l ++ [x]).length c' w'):zb5 T.zf7 1 1 [Value.int .u8 0] a n cap (.slice (some ⟨B,0,none⟩) 1 1) w₁ K :=
 zr8.cat (xs:=[x]) (h.ext hnew.upd) hn rfl (za6.of hnew.get fun j v hj=>by simpa using hj) (by simpa using hb) (by have:=hnew.size;omega) fun a' c' w' hu hl=>hk a' c' w' ((Upd.ext hnew.upd).trans hu) hl
theorem zr8.catX {G:Nat→Prop} {S:Nat} {w:World} {a ax:Option Addr} {cap n m cx:Nat} {l xs:List UInt8} (h:zr8 S w a cap l) (hG:∀ b,a=some ⟨b,0,none⟩→¬ G b) (hGs:∀ x,G x→x<w.heap.size) (hn:n=l.length) (hm:m=xs.length) (hx:za4 w ax xs) (hb:l.length+xs.length≤140737488355232) (hS:S≤w.heap.size) {K:Option Addr→Nat→Nat→World→Prop}
  (hk:∀ a' c' w',Upd (fun b=>S≤b∧¬ G b) w w'→zr8 S w' a' c' (l ++ xs)→(∀ b,a'=some ⟨b,0,none⟩→¬ G b)→K a' (l ++ xs).length c' w'):zb5 T.zf7 1 1 [Value.int .u8 0] a n cap (.slice ax m cx) w K:=by
 subst hn;subst hm
 refine ye8 h.1 hx hb fun a' c' w' hu ho hf=>hk a' c' w' (hu.mono fun b _ hb=>⟨h.2 b hb,hG b hb⟩) ⟨ho,fun b hb=>?_⟩ fun b hb hg=>?_
 ·rcases hf with hf | ⟨b',hb',hl⟩
  ·subst hf;exact h.2 b hb
  ·rw [hb'] at hb;cases hb;omega
 ·rcases hf with hf | ⟨b',hb',hl⟩
  ·subst hf;exact hG b hb hg
  ·rw [hb'] at hb;cases hb
   have:=hGs _ hg
   omega
theorem zr8.pushX {G:Nat→Prop} {S:Nat} {w w₁:World} {a:Option Addr} {cap n:Nat} {l:List UInt8} {B:Nat} {x:UInt8} (h:zr8 S w a cap l) (hG:∀ b,a=some ⟨b,0,none⟩→¬ G b) (hGs:∀ x,G x→x<w.heap.size) (hn:n=l.length) (hnew:New w (.cells #[bv x] T.zf7) B w₁) (hb:l.length+1≤140737488355232) (hS:S≤w.heap.size) {K:Option Addr→Nat→Nat→World→Prop}
  (hk:∀ a' c' w',Upd (fun b=>S≤b∧¬ G b) w w'→zr8 S w' a' c' (l ++ [x])→(∀ b,a'=some ⟨b,0,none⟩→¬ G b)→K a' (l ++ [x]).length c' w'):zb5 T.zf7 1 1 [Value.int .u8 0] a n cap (.slice (some ⟨B,0,none⟩) 1 1) w₁ K :=
 zr8.catX (G:=G) (xs:=[x]) (h.ext hnew.upd) hG (fun x hx=>by have:=hGs x hx;have:=hnew.size;omega) hn rfl (za6.of hnew.get fun j v hj=>by simpa using hj) (by simpa using hb) (by have:=hnew.size;omega) fun a' c' w' hu hl=>hk a' c' w' ((Upd.ext hnew.upd).trans hu) hl
def zw3 (w w':World) (v:Value) (l:List UInt8) (e:Nat):Prop:=∃ a c,v= .tuple #[.slice a l.length c,.int .i64 (e:Nat)]∧zr8 w.heap.size w' a c l∧Ext w w'
theorem zw3.none {w w':World} {e:Nat} (h:Ext w w'):zw3 w w' (.tuple #[.slice .none 0 0,.int .i64 (e:Nat)]) [] e:=⟨.none,0,rfl,zr8.nil _ _,h⟩
def rowB (b:List UInt8):List UInt8×Nat:=if b.length≤255 then (UInt8.ofNat b.length :: b,0) else ([],3)
theorem xh0 {w:World} {a:Option Addr} {b:List UInt8} {c:Nat} (hb:za4 w a b) :
  za0 prog K.zo0 #[.slice a b.length c] w fun v w'=>zw3 w w' v (rowB b).1 (rowB b).2:=by
 apply zo0.sh
 suffices H:∀ R:Value→World→Prop,(∀ v w',zw3 w w' v (rowB b).1 (rowB b).2→R v w')→zo0.body a b.length c w R from H _ fun _ _ h=>h
 intro R hR
 unfold zo0.body
 refine za8 (fun hl=>?_) fun hl=>?_
 ·have h:rowB b=([],3):=by unfold rowB;rw [if_neg (by omega)]
  rw [h] at hR
  exact hR _ _ (zw3.none (e:=3) (Upd.refl _ _))
 ·have h:rowB b=(UInt8.ofNat b.length :: b,0):=by unfold rowB;rw [if_pos (by omega)]
  rw [h] at hR
  intro B1 w₁ hn1
  rw [yq2,Nat.mod_eq_of_lt (by omega)] at hn1
  have hs1:=hn1.size
  refine zr8.cat (l:=[UInt8.ofNat b.length]) (S:=w.heap.size) (zr8.new hn1 rfl (Nat.le_refl _)) rfl rfl (hb.ext hn1.upd) (by simp;omega) (by omega) fun a' c' w' hu hl'=>?_
  exact hR _ _ ⟨a',c',rfl,hl',hn1.upd.own hu (Nat.le_refl _)⟩
def keyB (k:Key):List UInt8:=leB k.ino.toNat 2 ++ [k.what] ++ (if k.what=2 then UInt8.ofNat k.bytes.length :: k.bytes else if k.what=3 then [UInt8.ofNat k.chunk.toNat] else [])
def ya7 (k:Key):List UInt8×Nat:=if k.may then (keyB k,0) else ([],2)
theorem Key.may_elim {k:Key} (h:k.may=true):1≤k.ino∧k.ino≤65535∧((k.what=1∧k.bytes=[]∧k.chunk=0)∨(k.what=2∧yf9 k.bytes=true∧k.chunk=0)∨(k.what=3∧k.bytes=[]∧0≤k.chunk∧k.chunk<8)):=by
 unfold Key.may at h
 simp only [Bool.and_eq_true,Bool.or_eq_true,decide_eq_true_eq] at h
 obtain ⟨⟨h1,h2⟩,h3⟩:=h
 refine ⟨h1,h2,?_⟩
 rcases h3 with (⟨⟨h,h'⟩,h''⟩| ⟨⟨h,h'⟩,h''⟩) | ⟨⟨⟨h,h'⟩,h''⟩,h'''⟩
 ·exact .inl ⟨UInt8.toNat_inj.1 h,h',h''⟩
 ·exact .inr (.inl ⟨UInt8.toNat_inj.1 h,h',h''⟩)
 ·exact .inr (.inr ⟨UInt8.toNat_inj.1 h,h',h'',h'''⟩)
theorem yx3 {s:List UInt8} (h:yf9 s=true):1≤s.length∧s.length≤12:=by
 unfold yf9 at h
 simp only [Bool.and_eq_true,decide_eq_true_eq] at h
 exact ⟨h.1.1.1.2,h.1.1.2⟩
theorem xr3 {k:Key} (h:k.may=true):3≤(keyB k).length∧(keyB k).length≤16:=by
 obtain ⟨_,_,h3⟩:=Key.may_elim h
 unfold keyB
 simp only [List.length_append,zf3,List.length_cons,List.length_nil]
 rcases h3 with ⟨h,_⟩| ⟨h,h',_⟩| ⟨h,_⟩
 ·rw [h,if_neg (by decide),if_neg (by decide)];simp
 ·have:=yx3 h'
  rw [h,if_pos rfl]
  simp only [List.length_cons]
  omega
 ·rw [h,if_neg (by decide),if_pos rfl];simp
theorem qd5 {n:Nat}:Int.tmod (n:Int) 256=((n % 256:Nat):Int):=xi0 n 256
theorem qd6 {n:Nat}:Int.tdiv (n:Int) 256=((n / 256:Nat):Int):=va8 n 256
theorem yy2 (k:Key) (hn:k.name.size<9223372036854775807) (w:World) :
  za0 prog K.zj2 #[keyV k] w fun v w'=>zw3 w w' v (ya7 k).1 (ya7 k).2:=by
 apply zj2.sh
 suffices H:∀ R:Value→World→Prop,(∀ v w',zw3 w w' v (ya7 k).1 (ya7 k).2→R v w')→zj2.body k.ino k.what.toNat k.name k.chunk w R from H _ fun _ _ h=>h
 intro R hR
 unfold zj2.body
 simp only [add_lit,Nat.zero_add]
 intro B1 w₁ hn1
 have g1:zz5 w₁ B1 k:=hn1.get
 have hb1:B1=w.heap.size:=hn1.num
 have hs1:=hn1.size
 refine ⟨_,_,_,_,zw8 g1,(zr5 k hn w₁).mono ?_⟩
 rintro _ w₂ ⟨rfl,he2⟩
 have g2:zz5 w₂ B1 k:=Ext.get he2 g1
 have e2:Ext w w₂:=hn1.upd.trans he2
 have hs2:=he2.size
 refine ⟨_,rfl,zc0 (fun hm=>?_) fun hm=>?_⟩
 ·have h:ya7 k=([],2):=by unfold ya7;rw [if_neg (by simpa using hm)]
  rw [h] at hR
  exact hR _ _ (zw3.none (e:=2) e2)
 have hm':k.may=true:=by simpa using hm
 have h:ya7 k=(keyB k,0):=by unfold ya7;rw [if_pos hm']
 rw [h] at hR
 obtain ⟨h1,h2,h3⟩:=Key.may_elim hm'
 obtain ⟨n,hn0⟩: ∃ n:Nat,k.ino=n:=⟨k.ino.toNat,by omega⟩
 refine ⟨_,za2 g2 rfl,by decide,_,za2 g2 rfl,by decide,_,za2 g2 rfl,fun B2 w₃ hn3=>?_⟩
 rw [hn0,qd5,qd6,w64n (by omega),yq2,yq2,Nat.mod_mod] at hn3
 have hbl:(leB k.ino.toNat 2 ++ [k.what]).length=3:=by simp [zf3]
 have hbase:zr8 w₂.heap.size w₃ (some ⟨B2,0,none⟩) 3 (leB k.ino.toNat 2 ++ [k.what]):=by
  have:=zr8.new (S:=w₂.heap.size) (l:=leB k.ino.toNat 2 ++ [k.what]) hn3 (by rw [hn0,uz9];rfl) (Nat.le_refl _)
  rw [hbl] at this
  exact this
 have hs3:=hn3.size
 have e3:Ext w w₃:=e2.trans hn3.upd
 have g3:zz5 w₃ B1 k:=Ext.get hn3.upd g2
 refine ⟨_,za2 g3 rfl,zi1 (fun hw=>?_) fun hw=>zi1 (fun hw3=>?_) fun hw3=>?_⟩
 ·have hw':k.what=2:=UInt8.toNat_inj.1 (by show k.what.toNat=2;omega)
  have hname:yf9 k.bytes=true:=by
   rcases h3 with ⟨h,_⟩| ⟨_,h,_⟩| ⟨h,_⟩
   ·rw [hw'] at h;cases h
   ·exact h
   ·rw [hw'] at h;cases h
  have hlen:=yx3 hname
  have hbs:k.name.size=k.bytes.length:=yg5 _
  have hkey:keyB k=leB k.ino.toNat 2 ++ [k.what] ++ [UInt8.ofNat k.bytes.length] ++ k.bytes:=by unfold keyB;rw [if_pos hw'];simp
  have hpl:(leB k.ino.toNat 2 ++ [k.what] ++ [UInt8.ofNat k.bytes.length]).length=4:=by simp [zf3]
  refine ⟨_,za2 g3 rfl,fun B3 w₄ hn4=>?_⟩
  rw [hbs,yq2,Nat.mod_eq_of_lt (by omega)] at hn4
  refine zr8.push hbase hbl.symm hn4 (by omega) (by omega) fun a1 c1 w₅ hu5 hl5=>?_
  have e5:Ext w w₅:=Ext.own e3 hu5 (by omega)
  have hs5:=hu5.size
  generalize hpre:leB k.ino.toNat 2 ++ [k.what] ++ [UInt8.ofNat k.bytes.length]=pre at *
  refine ⟨fun a l c x u=>∃ i:Nat,x=i∧i≤k.bytes.length∧l=(pre ++ k.bytes.take i).length∧zr8 w₂.heap.size u a c (pre ++ k.bytes.take i)∧Ext w u∧zz5 u B1 k∧w₂.heap.size≤u.heap.size,fun _ _ _ x _=>((k.bytes.length:Int) - x).toNat,
   ⟨0,rfl,by omega,by simp,by simpa using hl5,e5,hu5.get g3 (by omega),by omega⟩,?_⟩
  rintro a l c x u ⟨i,rfl,hi,rfl,hl,heu,gu,hsu⟩
  refine ⟨_,za2 gu rfl,?_⟩
  rw [hbs]
  refine za8 (fun hlt=>?_) fun hge=>?_
  ·have hi':i<k.bytes.length:=by omega
   refine ⟨_,za2 gu rfl,by omega,k.bytes[i],by rw [Int.toNat_natCast];exact List.getElem?_eq_getElem hi',fun B4 w₇ hn7=>?_⟩
   have hplen:(pre ++ k.bytes.take i).length≤20:=by simp [hpl];omega
   refine zr8.push hl rfl hn7 (by omega) hsu fun a' c' w₈ hu8 hl8=>?_
   have ew:IntKind.i64.wrap ((i:Int)+1)=((i+1:Nat):Int):=w64 (by omega) (by omega)
   simp only [ew]
   have htk:pre ++ k.bytes.take i ++ [k.bytes[i]]=pre ++ k.bytes.take (i+1):=by rw [List.append_assoc,List.take_succ_eq_append_getElem hi']
   rw [htk] at hl8 ⊢
   exact ⟨⟨i+1,rfl,hi',rfl,hl8,Ext.own heu hu8 (by omega),hu8.get gu (by omega),by have:=hu8.size;omega⟩,meas hi'⟩
  ·have:i=k.bytes.length:=by omega
   subst this
   rw [List.take_length] at hl ⊢
   rw [hkey] at hR
   exact hR _ _ ⟨a,c,rfl,hl.weak (by omega),heu⟩
 ·have hw':k.what=3:=UInt8.toNat_inj.1 (by show k.what.toNat=3;omega)
  have hch:0≤k.chunk∧k.chunk<8:=by
   rcases h3 with ⟨h,_⟩| ⟨h,_⟩| ⟨_,_,h⟩
   ·rw [hw'] at h;cases h
   ·rw [hw'] at h;cases h
   ·exact h
  obtain ⟨m,hm0⟩: ∃ m:Nat,k.chunk=m:=⟨k.chunk.toNat,by omega⟩
  have hkey:keyB k=leB k.ino.toNat 2 ++ [k.what] ++ [UInt8.ofNat m]:=by unfold keyB;rw [if_neg (by rw [hw'];decide),if_pos hw',hm0];rfl
  refine ⟨_,za2 g3 rfl,fun B5 w₉ hn9=>?_⟩
  rw [hm0,yq2,Nat.mod_eq_of_lt (by omega)] at hn9
  refine zr8.push hbase hbl.symm hn9 (by omega) (by omega) fun a1 c1 w₅ hu5 hl5=>?_
  rw [← hkey] at hl5 ⊢
  exact hR _ _ ⟨a1,c1,rfl,hl5.weak (by omega),Ext.own e3 hu5 (by omega)⟩
 ·have hkey:keyB k=leB k.ino.toNat 2 ++ [k.what]:=by
   unfold keyB
   rw [if_neg (by intro h;rw [h] at hw;exact hw rfl),if_neg (by intro h;rw [h] at hw3;exact hw3 rfl),List.append_nil]
  rw [← hkey] at hbase hbl
  refine hR _ _ ⟨some ⟨B2,0,none⟩,3,?_,hbase.weak (by omega),e3⟩
  rw [hbl];rfl
def mayC (c:zb2):Bool:=c.key.may && (if c.gone then decide (c.val.length=0) else decide (1≤c.val.length) && decide (c.val.length≤255))
def mayL (l:List zb2):Bool:=decide (1≤l.length) && decide (l.length≤255) && l.all mayC
def chgB (c:zb2):List UInt8:=if c.gone then 0 :: keyB c.key else 1 :: (keyB c.key ++ UInt8.ofNat c.val.length :: c.val)
def yv9 (l:List zb2):List UInt8:=UInt8.ofNat l.length :: l.flatMap chgB
def yw0 (l:List zb2):Prop:=∀ x∈l,x.key.name.size<9223372036854775807
theorem xg6 (x:zb2) {w:World} {a:Option Addr} {c:Nat} (hn:x.key.name.size<9223372036854775807) :
  za0 prog K.zn6 #[.agg #[.int .i64 x.key.ino,bv x.key.what,.string x.key.name,.int .i64 x.key.chunk,.slice a x.val.length c,.bool x.gone]] w fun v w'=>v= .bool (mayC x)∧Ext w w':=by
 apply zn6.sh
 suffices H:∀ R:Value→World→Prop,(∀ v w',v= .bool (mayC x)∧Ext w w'→R v w')→zn6.body x.key.ino x.key.what.toNat x.key.name x.key.chunk a x.val.length c x.gone w R from H _ fun _ _ h=>h
 intro R hR
 unfold zn6.body
 simp only [add_lit,Nat.zero_add]
 intro B1 w₁ hn1
 have g1:w₁.heap[B1]?=some (.cells (yn8 x.key a x.val.length c x.gone).toArray T.zc9 (0,0)):=hn1.get
 refine ⟨_,_,_,_,zl2 (o:=0) (vs:=x.key.vals) g1 (fun j v hj=>by
  rcases j with _ | _ | _ | _ | j
  all_goals simp [Key.vals] at hj ⊢
  all_goals exact hj),(zr5 x.key hn w₁).mono ?_⟩
 rintro _ w₂ ⟨rfl,he2⟩
 have g2:=Ext.get he2 g1
 have e2:Ext w w₂:=hn1.upd.trans he2
 refine ⟨_,rfl,zc0 (fun hm=>?_) fun hm=>?_⟩
 ·exact hR _ _ ⟨by unfold mayC;rw [show x.key.may=false by simpa using hm];rfl,e2⟩
 have hm':x.key.may=true:=by simpa using hm
 refine ⟨_,za2 g2 rfl,zc0 (fun hg=>?_) fun hg=>?_⟩
 ·refine ⟨_,_,_,za2 g2 rfl,hR _ _ ⟨?_,e2⟩⟩
  unfold mayC
  rw [hm',if_pos hg,Bool.true_and]
  congr 1
  rw [Bool.eq_iff_iff];simp
 ·have hmc:mayC x=(decide (1≤x.val.length) && decide (x.val.length≤255)):=by
   unfold mayC
   rw [hm',if_neg (by rw [hg];decide),Bool.true_and]
  rw [hmc] at hR
  refine ⟨_,_,_,za2 g2 rfl,za8 (fun h1=>⟨_,_,_,za2 g2 rfl,hR _ _ ⟨?_,e2⟩⟩) fun h1=>hR _ _ ⟨?_,e2⟩⟩
  ·rw [decide_eq_true (by omega:1≤x.val.length),Bool.true_and]
   congr 1
   rw [Bool.eq_iff_iff];simp;omega
  ·rw [decide_eq_false (by omega:¬ 1≤x.val.length),Bool.false_and]
theorem yo8 {l:List zb2} {w:World} {G:Nat→Prop} {a:Option Addr} {c:Nat} (h:zb0 zc4 w G a l) (hs:yw0 l) :
  za0 prog K.zl0 #[.slice a l.length c] w fun v w'=>v= .bool (mayL l)∧Ext w w':=by
 apply zl0.sh
 suffices H:∀ R:Value→World→Prop,(∀ v w',v= .bool (mayL l)∧Ext w w'→R v w')→zl0.body a l.length c w R from H _ fun _ _ h=>h
 intro R hR
 unfold zl0.body
 refine za8 (fun h1=>hR _ _ ⟨by unfold mayL;rw [decide_eq_false (by omega:¬ 1≤l.length)];rfl,Upd.refl _ _⟩) fun h1=>za8 (fun h2=>hR _ _ ⟨by unfold mayL;rw [decide_eq_false (by omega:¬ l.length≤255)];simp,Upd.refl _ _⟩) fun h2=>?_
 have hml:mayL l=l.all mayC:=by unfold mayL;rw [decide_eq_true (by omega:1≤l.length),decide_eq_true (by omega:l.length≤255)];rfl
 rw [hml] at hR
 refine ⟨fun x u=>∃ i:Nat,x=i∧i≤l.length∧Ext w u∧(l.take i).all mayC=true,fun x _=>((l.length:Int) - x).toNat,⟨0,rfl,by omega,Upd.refl _ _,by simp⟩,?_⟩
 rintro x u ⟨i,rfl,hi,heu,hall⟩
 refine za8 (fun hlt=>?_) fun hge=>?_
 ·have hi':i<l.length:=by omega
  refine zb0.idx (r:=zc4) (h.ext heu) rfl hi' fun b o vs ha hrow hR' hG=>?_
  obtain ⟨a',c',rfl,hc',hb',hg'⟩:=zp6 hR'
  refine ⟨_,_,_,_,_,_,_,_,hrow.cells,(xg6 l[i] (hs _ (List.getElem_mem _))).mono ?_⟩
  rintro _ w₂ ⟨rfl,he2⟩
  have ew:IntKind.i64.wrap ((i:Int)+1)=((i+1:Nat):Int):=w64 (by omega) (by omega)
  simp only [ew]
  refine ⟨_,rfl,zc0 (fun hm=>?_) fun hm=>?_⟩
  ·refine hR _ _ ⟨?_,heu.trans he2⟩
   have:l.all mayC=false:=by
    rw [List.all_eq_false]
    exact ⟨l[i],List.getElem_mem _,by simpa using hm⟩
   rw [this]
  ·exact ⟨⟨i+1,rfl,hi',heu.trans he2,by rw [List.take_succ_eq_append_getElem hi',List.all_append,hall];simpa using hm⟩,meas hi'⟩
 ·have:i=l.length:=by omega
  subst this
  rw [List.take_length] at hall
  exact hR _ _ ⟨by rw [hall],heu⟩
theorem vb3 {x:zb2} (h:mayC x=true):(chgB x).length≤300:=by
 unfold mayC at h
 rw [Bool.and_eq_true] at h
 have hk:=xr3 h.1
 unfold chgB
 split
 ·simp;omega
 ·rename_i hg
  rw [if_neg hg,Bool.and_eq_true,decide_eq_true_eq,decide_eq_true_eq] at h
  simp;omega
theorem xa7 {α:Type} {f:α→List UInt8} {n:Nat}:∀ (l:List α),(∀ x∈l,(f x).length≤n)→(l.flatMap f).length≤l.length * n
 | [],_=>by simp
 | x :: l,h=>by
  rw [List.flatMap_cons,List.length_append,List.length_cons,Nat.succ_mul]
  have:=h x (by simp)
  have:=xa7 l fun y hy=>h y (by simp [hy])
  omega
theorem ub8 {l:List zb2} (h:mayL l=true):1≤l.length∧l.length≤255∧∀ x∈l,mayC x=true:=by
 unfold mayL at h
 simp only [Bool.and_eq_true,decide_eq_true_eq,List.all_eq_true] at h
 exact ⟨h.1.1,h.1.2,h.2⟩
theorem uf7 {l:List zb2} (h:mayL l=true):(yv9 l).length≤100000:=by
 obtain ⟨h1,h2,h3⟩:=ub8 h
 unfold yv9
 have:=xa7 (f:=chgB) l (fun x hx=>vb3 (h3 x hx))
 simp only [List.length_cons]
 omega
theorem xd1 {l:List zb2} {w:World} {G:Nat→Prop} {a:Option Addr} {c:Nat} (h:zb0 zc4 w G a l) (hs:yw0 l) (hm:mayL l=true) :
  za0 prog K.zl4 #[.slice a l.length c] w fun v w'=>∃ a' c',v= .slice a' (yv9 l).length c'∧zr8 w.heap.size w' a' c' (yv9 l)∧Ext w w':=by
 apply zl4.sh
 suffices H:∀ R:Value→World→Prop,(∀ v w',(∃ a' c',v= .slice a' (yv9 l).length c'∧zr8 w.heap.size w' a' c' (yv9 l)∧Ext w w')→R v w')→zl4.body a l.length c w R from H _ fun _ _ h=>h
 intro R hR
 unfold zl4.body
 obtain ⟨h1,h2,h3⟩:=ub8 hm
 intro B1 w₁ hn1
 rw [yq2,Nat.mod_eq_of_lt (by omega)] at hn1
 have hs1:=hn1.size
 refine ⟨fun a' l' c' x u=>∃ i:Nat,x=i∧i≤l.length∧l'=(UInt8.ofNat l.length :: (l.take i).flatMap chgB).length∧zr8 w.heap.size u a' c' (UInt8.ofNat l.length :: (l.take i).flatMap chgB)∧Ext w u,fun _ _ _ x _=>((l.length:Int) - x).toNat,
  ⟨0,rfl,by omega,by simp,zr8.new (l:=[UInt8.ofNat l.length]) hn1 rfl (Nat.le_refl _),hn1.upd⟩,?_⟩
 rintro a1 l1 c1 x u ⟨i,rfl,hi,rfl,hl,heu⟩
 have hsu:=heu.size
 refine za8 (fun hlt=>?_) fun hge=>?_
 ·have hi':i<l.length:=by omega
  have ew:IntKind.i64.wrap ((i:Int)+1)=((i+1:Nat):Int):=w64 (by omega) (by omega)
  simp only [ew]
  have hmx:=h3 l[i] (List.getElem_mem _)
  have hacc:(UInt8.ofNat l.length :: (l.take i).flatMap chgB).length≤100000:=by
   have:=xa7 (f:=chgB) (l.take i) (fun x hx=>vb3 (h3 x (List.mem_of_mem_take hx)))
   simp only [List.length_cons,List.length_take] at this ⊢
   have:min i l.length * 300≤255 * 300:=Nat.mul_le_mul_right _ (by omega)
   omega
  have hsucc:UInt8.ofNat l.length :: (l.take (i+1)).flatMap chgB=(UInt8.ofNat l.length :: (l.take i).flatMap chgB) ++ chgB l[i]:=by
   rw [List.take_succ_eq_append_getElem hi',List.flatMap_append];simp
  generalize hpre:UInt8.ofNat l.length :: (l.take i).flatMap chgB=pre at *
  have hkm:l[i].key.may=true:=by unfold mayC at hmx;rw [Bool.and_eq_true] at hmx;exact hmx.1
  have hkl:=xr3 hkm
  refine zb0.idx (r:=zc4) (h.ext heu) rfl hi' fun b o vs ha hrow hR' hG=>?_
  obtain ⟨av,cv,rfl,hcv,hbv,hgv⟩:=zp6 hR'
  refine ⟨_,_,_,_,(za6.take hrow 4).cells,(yy2 l[i].key (hs _ (List.getElem_mem _)) u).mono ?_⟩
  rintro _ w₃ ⟨a2,c2,rfl,hl2,he3⟩
  have hpk:ya7 l[i].key=(keyB l[i].key,0):=by unfold ya7;rw [if_pos hkm]
  rw [hpk] at hl2 ⊢
  simp only [] at hl2 ⊢
  have hs3:=he3.size
  have e3:=heu.trans he3
  have hl3:=hl.ext he3
  refine ⟨_,_,_,_,rfl,zb0.idx (r:=zc4) (h.ext e3) rfl hi' fun b' o' vs' ha' hrow' hR'' hG'=>?_⟩
  obtain ⟨av',cv',rfl,hcv',hbv',hgv'⟩:=zp6 hR''
  simp only [add_lit]
  refine ⟨_,xi5 hrow' (j:=5) rfl,zc0 (fun hg=>?_) fun hg=>?_⟩
  ·have hcb:chgB l[i]=[0] ++ keyB l[i].key:=by unfold chgB;rw [if_pos hg];rfl
   intro B2 w₄ hn4
   have hs4:=hn4.size
   refine zr8.pushX (G:=fun b=>u.heap.size≤b∧b<w₃.heap.size) (x:=0) hl3 (fun b hb hg=>by have:=(hl.lt hb).2;have:b<u.heap.size:=this;omega) (fun x hx=>hx.2) rfl hn4 (by omega) (by omega) fun a3 c3 w₅ hu5 hl5 hg5=>?_
   have hs5:=hu5.size
   have hkb:za4 w₅ a2 (keyB l[i].key):=za6.upd hl2.bytes hu5 fun p hp hF=>hF.2 (hl2.lt hp)
   have e5:Ext w w₅:=e3.beyond hu5 fun x hx=>hx.1
   refine zr8.catX (G:=NoB) hl5 (fun _ _ h=>h) (fun _ h=>h.elim) rfl rfl hkb (by simp;omega) (by omega) fun a4 c4 w₆ hu6 hl6 _=>?_
   rw [List.append_assoc,← hcb,← hsucc] at hl6 ⊢
   exact ⟨⟨i+1,rfl,hi',rfl,hl6,e5.beyond hu6 fun x hx=>hx.1⟩,meas hi'⟩
  ·have hmv:1≤l[i].val.length∧l[i].val.length≤255:=by
    unfold mayC at hmx
    rw [hkm,if_neg (by rw [hg];decide),Bool.true_and,Bool.and_eq_true,decide_eq_true_eq,decide_eq_true_eq] at hmx
    exact hmx
   have hcb:chgB l[i]=[1] ++ keyB l[i].key ++ (UInt8.ofNat l[i].val.length :: l[i].val):=by unfold chgB;rw [if_neg (by rw [hg];decide)];simp
   refine zb0.idx (r:=zc4) (h.ext e3) rfl hi' fun b' o' vs' ha' hrow' hR'' hG'=>?_
   obtain ⟨av',cv',rfl,hcv',hbv',hgv'⟩:=zp6 hR''
   simp only [add_lit]
   refine ⟨_,_,_,xi5 hrow' (j:=4) rfl,(xh0 hbv').mono ?_⟩
   rintro _ w₇ ⟨a6,c6,rfl,hl6,he7⟩
   have hrb:rowB l[i].val=(UInt8.ofNat l[i].val.length :: l[i].val,0):=by unfold rowB;rw [if_pos hmv.2]
   rw [hrb] at hl6 ⊢
   simp only [] at hl6 ⊢
   have hs7:=he7.size
   have e7:=e3.trans he7
   refine ⟨_,_,_,_,rfl,fun B3 w₈ hn8=>?_⟩
   have hs8:=hn8.size
   refine zr8.pushX (G:=fun b=>u.heap.size≤b∧b<w₇.heap.size) (x:=1) (hl3.ext he7) (fun b hb hg=>by have:b<u.heap.size:=(hl.lt hb).2;omega) (fun x hx=>hx.2) rfl hn8 (by omega) (by omega) fun a3 c3 w₉ hu9 hl9 hg9=>?_
   have hs9:=hu9.size
   have hkb:za4 w₉ a2 (keyB l[i].key):=za6.upd (hl2.bytes.ext he7) hu9 fun p hp hF=>hF.2 (by have:=hl2.lt hp;omega)
   have hvb:za4 w₉ a6 (UInt8.ofNat l[i].val.length :: l[i].val):=za6.upd hl6.bytes hu9 fun p hp hF=>hF.2 (by have:=hl6.lt hp;omega)
   have e9:Ext w w₉:=e7.beyond hu9 fun x hx=>hx.1
   refine zr8.catX (G:=fun b=>u.heap.size≤b∧b<w₇.heap.size) hl9 hg9 (fun x hx=>by omega) rfl rfl hkb (by simp;omega) (by omega) fun a4 c4 w₁₀ hu10 hl10 _=>?_
   have hs10:=hu10.size
   have hvb10:za4 w₁₀ a6 (UInt8.ofNat l[i].val.length :: l[i].val):=za6.upd hvb hu10 fun p hp hF=>hF.2 (by have:=hl6.lt hp;omega)
   have e10:Ext w w₁₀:=e9.beyond hu10 fun x hx=>hx.1
   refine zr8.catX (G:=NoB) hl10 (fun _ _ h=>h) (fun _ h=>h.elim) rfl rfl hvb10 (by simp;omega) (by omega) fun a5 c5 w₁₁ hu11 hl11 _=>?_
   have hassoc:pre ++ [1] ++ keyB l[i].key ++ (UInt8.ofNat l[i].val.length :: l[i].val)=UInt8.ofNat l.length :: (l.take (i+1)).flatMap chgB:=by rw [hsucc,hcb];simp
   rw [hassoc] at hl11 ⊢
   exact ⟨⟨i+1,rfl,hi',rfl,hl11,e10.beyond hu11 fun x hx=>hx.1⟩,meas hi'⟩
 ·have:i=l.length:=by omega
  subst this
  rw [List.take_length] at hl ⊢
  exact hR _ _ ⟨a1,c1,rfl,hl,heu⟩
def ya6 (size:Int) (kind:UInt8) (body:List UInt8):List UInt8×Nat :=
 if zh0 size=false∨kind<1∨kind > 7 then ([],2) else if (body.length:Int) > size - 5 then ([],3) else (zp9 size.toNat kind body,0)
def putL (size:Int) (l:List zb2):List UInt8×Nat:=if mayL l then ya6 size 2 (yv9 l) else ([],2)
def zq9 (size:Int) (seq:Nat):List UInt8×Nat:=if seq=0 then ([],2) else ya6 size 3 (leB seq 8)
theorem ui2 {size k:Int} {kind:UInt8} (hk:k=(kind.toNat:Int)) {a:Option Addr} {body:List UInt8} {c:Nat} {w:World} (h:za4 w a body) (hn:body.length≤281474976710656) (hsz:size<9223372036854775808) (hsz0: -9223372036854775808≤size) :
  za0 prog K.zr2 #[.int .i64 size,.int .u8 k,.slice a body.length c] w fun v w'=>zw3 w w' v (ya6 size kind body).1 (ya6 size kind body).2:=by
 refine (xj6 size k kind hk h hn hsz hsz0).mono ?_
 rintro v w' ⟨he,hv⟩
 unfold ya6
 by_cases h1:zh0 size=false∨kind<1∨kind > 7
 ·rw [if_pos h1] at hv
  rw [if_pos h1,hv]
  exact zw3.none (e:=2) he
 ·rw [if_neg h1] at hv
  rw [if_neg h1]
  by_cases h2:(body.length:Int) > size - 5
  ·rw [if_pos h2] at hv
   rw [if_pos h2,hv]
   exact zw3.none (e:=3) he
  ·rw [if_neg h2] at hv
   rw [if_neg h2]
   obtain ⟨a',c',rfl,hb,hf,hc⟩:=hv
   have hl:(zp9 size.toNat kind body).length=size.toNat:=zt3 _ _ _ (by omega)
   exact ⟨a',c',by rw [hl];rfl,⟨by rw [hl];exact hb,fun b hb=>hf _ hb⟩,he⟩
theorem xg7 {l:List zb2} {w:World} {G:Nat→Prop} {a:Option Addr} {c:Nat} (h:zb0 zc4 w G a l) (hs:yw0 l) (size:Int) (hsz:size<9223372036854775808) (hsz0: -9223372036854775808≤size) :
  za0 prog K.zk9 #[.int .i64 size,.slice a l.length c] w fun v w'=>zw3 w w' v (putL size l).1 (putL size l).2:=by
 apply zk9.sh
 suffices H:∀ R:Value→World→Prop,(∀ v w',zw3 w w' v (putL size l).1 (putL size l).2→R v w')→zk9.body size a l.length c w R from H _ fun _ _ h=>h
 intro R hR
 unfold zk9.body
 refine (yo8 h hs).mono ?_
 rintro _ w₁ ⟨rfl,he1⟩
 refine ⟨_,rfl,zc0 (fun hm=>?_) fun hm=>?_⟩
 ·have hp:putL size l=([],2):=by unfold putL;rw [if_neg (by simpa using hm)]
  rw [hp] at hR
  exact hR _ _ (zw3.none (e:=2) he1)
 ·have hm':mayL l=true:=by simpa using hm
  have hp:putL size l=ya6 size 2 (yv9 l):=by unfold putL;rw [if_pos hm']
  rw [hp] at hR
  refine (xd1 (h.ext he1) hs hm').mono ?_
  rintro _ w₂ ⟨a2,c2,rfl,hl2,he2⟩
  have:=uf7 hm'
  refine ⟨_,_,_,rfl,(ui2 (kind:=2) rfl hl2.bytes (by omega) hsz hsz0).mono ?_⟩
  rintro _ w₃ ⟨a3,c3,rfl,hb3,he3⟩
  exact ⟨_,_,_,_,rfl,hR _ _ ⟨a3,c3,rfl,hb3.weak (he1.trans he2).size,(he1.trans he2).trans he3⟩⟩
end Go.Den
namespace Go.Den
def zv3 (f:Fact):Nat:=if f.key.may then 2+(keyB f.key).length+f.val.length else 0
def mayF (f:Fact):Bool:=f.key.may && decide (1≤f.val.length) && decide (f.val.length≤255)
def zo3 (size:Int):Int:=(if zh0 size=true then size - 5 else 0) - 1
def yj1 (room:Int) (i from_ used:Nat):List Fact→List Nat
 | []=>[]
 | f :: l=>if i=0∨room<((used+zv3 f:Nat):Int)∨i - from_=255 then i :: yj1 room (i+1) i (zv3 f) l else yj1 room (i+1) from_ (used+zv3 f) l
def yl0 (size:Int) (l:List Fact):List Nat×Nat :=
 if zo3 size<0 then ([],2)
 else if l.all mayF=false∨zg6 l=false then ([],2)
 else if l.all (fun f=>decide ((zv3 f:Int)≤zo3 size))=false then ([],3)
 else (yj1 (zo3 size) 0 0 0 l,0)
def ze4 (f:Fact):zb2:=⟨f.key,f.val,false⟩
def zx2 (size:Int) (l:List Fact):List Nat→List (List UInt8)→List (List UInt8)×Nat
 | [],acc=>(acc,0)
 | a :: at_,acc =>
  let p:=putL size (((l.take (match at_ with | []=>l.length | b :: _=>b)).drop a).map ze4)
  if p.2≠0 then ([],p.2) else zx2 size l at_ (acc ++ [p.1])
def yo4 (size:Int) (l:List Fact):List (List UInt8)×Nat :=
 if (yl0 size l).2≠0 then ([],(yl0 size l).2) else zx2 size l (yl0 size l).1 []
theorem xg4 (room:Int):∀ (l:List Fact) (i from_ used:Nat),(yj1 room i from_ used l).Pairwise (· < ·)∧∀ x∈yj1 room i from_ used l,i≤x∧x<i+l.length
 | [],i,from_,used=>⟨List.Pairwise.nil,fun _ h=>by cases h⟩
 | f :: l,i,from_,used=>by
  unfold yj1
  split
  ·obtain ⟨h1,h2⟩:=xg4 room l (i+1) i (zv3 f)
   refine ⟨List.pairwise_cons.2 ⟨fun y hy=>by have:=h2 y hy;omega,h1⟩,fun x hx=>?_⟩
   rcases List.mem_cons.1 hx with rfl | hx
   ·simp
   ·have:=h2 x hx;simp;omega
  ·obtain ⟨h1,h2⟩:=xg4 room l (i+1) from_ (used+zv3 f)
   exact ⟨h1,fun x hx=>by have:=h2 x hx;simp;omega⟩
theorem qf8 {f:Fact} (h:mayF f=true):zv3 f≤300:=by
 unfold mayF at h
 simp only [Bool.and_eq_true,decide_eq_true_eq] at h
 unfold zv3
 rw [if_pos h.1.1]
 have:=xr3 h.1.1
 omega
structure LogS where
 pool:Pool
 chip:Chip
 era:Nat
 facts:List Fact
 block:Int
 page:Nat
def ownL (era:Nat) (l:List zb7):List zb7:=l.filter fun t=>decide (t.head.kind=1) && decide (t.head.era=era)
namespace LogS
def take (s:LogS):LogS×Nat :=
 let r:=zf0 s.pool s.chip 1 s.era
 if r.err=0 then ({ s with pool:=r.pool,chip:=r.chip,block:=r.block,page:=1 },0) else ({ s with pool:=r.pool,chip:=r.chip },r.err)
def write (b:List UInt8):Nat→LogS→LogS×Nat
 | 0,s=>(s,0)
 | n+1,s =>
  let t:=if s.block= -1∨s.page≥s.chip.np then s.take else (s,0)
  if t.2≠0 then t else
   let q:=t.1.chip.program t.1.block t.1.page b
   if q.2≠9 then ({ t.1 with chip:=q.1,page:=t.1.page+1 },q.2) else write b n { t.1 with chip:=q.1,page:=t.1.page+1,block:= -1 }
def fuel (s:LogS):Nat:=s.chip.hits.length+2
def writeAll:List (List UInt8)→LogS→LogS×Nat
 | [],s=>(s,0)
 | b :: l,s=>if (s.write b s.fuel).2≠0 then s.write b s.fuel else writeAll l (s.write b s.fuel).1
def freeAll (first:Nat):List zb7→LogS→LogS×Nat
 | [],s=>(s,0)
 | t :: l,s=>if t.head.seq≥first∨t.bad=true then freeAll first l s
  else
   let r:=zd1 s.pool s.chip t.block
   if r.2.2≠0 then ({ s with pool:=r.1,chip:=r.2.1 },r.2.2) else freeAll first l { s with pool:=r.1,chip:=r.2.1 }
def anew (s:LogS):LogS×Nat :=
 let p:=yo4 s.chip.sz s.facts
 if p.2≠0 then (s,p.2) else
  let t:=s.take
  if t.2≠0 then t else
   let u:=writeAll (p.1 ++ [(zq9 s.chip.sz t.1.pool.last).1]) t.1
   if u.2≠0 then u else freeAll t.1.pool.last (ownL s.era (zc1 u.1.pool u.1.chip)) u.1
def low (s:LogS) (facts:Nat):Bool:=decide (zh3 s.pool s.chip<(facts+2+(s.chip.np - 1) - 1) / (s.chip.np - 1)+2+s.chip.sp)
def put (s:LogS) (cs:List zb2):LogS×Nat :=
 if s.chip.ask 0 0≠0 then (s,s.chip.ask 0 0) else
  let p:=putL s.chip.sz cs
  if p.2≠0 then (s,p.2) else
   let fs:=ze0 s.facts cs
   let t:=if s.low fs.length then s.anew else (s,0)
   if t.2=10 then t else
    let u:=t.1.write p.1 t.1.fuel
    if u.2≠0 then u else ({ u.1 with facts:=fs },0)
def tidy (s:LogS) (blanks:Int):LogS×Nat :=
 if s.chip.ask 0 0≠0 then (s,s.chip.ask 0 0)
 else if (zh3 s.pool s.chip:Int)≥blanks then (s,0)
 else if s.anew.2≠0 then s.anew
 else if (zh3 s.anew.1.pool s.anew.1.chip:Int)<blanks then (s.anew.1,11) else (s.anew.1,0)
end LogS
theorem vn5 (c:Chip):c.strike.1.hits.length≤c.hits.length∧(c.strike.2≠none→c.strike.1.hits.length<c.hits.length)∧∀ j,c.strike.1.isBad j=c.isBad j:=by
 unfold Chip.strike
 split
 ·rename_i h
  exact ⟨Nat.le_refl _,fun h=>absurd rfl h,fun _=>rfl⟩
 ·rename_i h r hh
  split
  ·exact ⟨Nat.le_refl _,fun h=>absurd rfl h,fun _=>rfl⟩
  ·rw [hh]
   exact ⟨by simp,fun _=>by simp,fun _=>rfl⟩
theorem xx4 (c:Chip) (b off n:Nat) (new:List UInt8):(c.done b off n new).1.hits.length≤c.hits.length∧((c.done b off n new).2≠0→(c.done b off n new).1.hits.length<c.hits.length)∧((c.done b off n new).2=0→∀ j,(c.done b off n new).1.isBad j=c.isBad j):=by
 obtain ⟨h1,h2,h3⟩:=vn5 c
 unfold Chip.done Chip.finish
 cases hs:c.strike.2 with
 | none=>exact ⟨h1,fun h=>absurd rfl h,fun _ j=>h3 j⟩
 | some h =>
  have h2':=h2 (by rw [hs];simp)
  simp only
  split
  ·exact ⟨h1,fun _=>h2',fun h=>by cases h⟩
  ·exact ⟨h1,fun _=>h2',fun h=>by cases h⟩
theorem us9 (c:Chip) (i j:Int):c.ask i j≠9:=by
 unfold Chip.ask
 split
 ·decide
 ·split<;>decide
theorem xf2 (c:Chip) (i k:Int) (b:List UInt8):(c.program i k b).1.hits.length≤c.hits.length∧((c.program i k b).2=9→c.isBad i.toNat=false→(c.program i k b).1.hits.length<c.hits.length)∧((c.program i k b).2=0→∀ j,(c.program i k b).1.isBad j=c.isBad j):=by
 unfold Chip.program
 split
 ·exact ⟨Nat.le_refl _,fun h=>absurd h (us9 _ _ _),fun _ _=>rfl⟩
 ·split
  ·exact ⟨Nat.le_refl _,(fun h=>by cases h),fun _ _=>rfl⟩
  ·split
   ·rename_i hb
    exact ⟨Nat.le_refl _,fun _ h=>(by rw [h] at hb;cases hb),fun _ _=>rfl⟩
   ·split
    ·exact ⟨Nat.le_refl _,(fun h=>by cases h),fun _ _=>rfl⟩
    ·obtain ⟨h1,h2,h3⟩:=xx4 c i.toNat (k.toNat * c.sz) c.sz b
     exact ⟨h1,fun h _=>h2 (by rw [h];decide),h3⟩
theorem vu8 (c:Chip) (i:Int):(c.erase i).1.hits.length≤c.hits.length∧((c.erase i).2=0→∀ j,(c.erase i).1.isBad j=c.isBad j):=by
 unfold Chip.erase
 split
 ·exact ⟨Nat.le_refl _,fun _ _=>rfl⟩
 ·split
  ·exact ⟨Nat.le_refl _,fun _ _=>rfl⟩
  ·obtain ⟨h1,_,h3⟩:=xx4 c i.toNat 0 (c.np * c.sz) (List.replicate (c.np * c.sz) 255)
   exact ⟨h1,h3⟩
theorem uj8 (P:Pool) (c:Chip) (i:Nat) (kind:UInt8) (era:Nat):(zo2 P c i kind era).2.1.hits.length≤c.hits.length∧((zo2 P c i kind era).2.2=0→∀ j,(zo2 P c i kind era).2.1.isBad j=c.isBad j):=by
 have wh:∀ (P:Pool) (c:Chip),(zg3 P c i kind era).2.1.hits.length≤c.hits.length∧((zg3 P c i kind era).2.2=0→∀ j,(zg3 P c i kind era).2.1.isBad j=c.isBad j):=fun P c=>by
  obtain ⟨h1,_,h3⟩:=xf2 c i 0 (zx0 c.sz ⟨kind,era,P.raise.last⟩).1
  exact ⟨h1,h3⟩
 unfold zo2
 split
 ·obtain ⟨e1,e2⟩:=vu8 c i
  split
  ·rename_i hne
   exact ⟨e1,fun h=>absurd h hne⟩
  ·rename_i hz
   obtain ⟨h1,h2⟩:=wh (P.relook (c.erase i).1 i) (c.erase i).1
   exact ⟨Nat.le_trans h1 e1,fun h j=>(h2 h j).trans (e2 (by omega) j)⟩
 ·exact wh P c
theorem yu8 (kind:UInt8) (era:Nat):∀ (ks:List Nat) (P:Pool) (c:Chip),(zp3 kind era P c ks).chip.hits.length≤c.hits.length∧((zp3 kind era P c ks).err=0→(zp3 kind era P c ks).chip.isBad (zp3 kind era P c ks).block=false)
 | [],P,c=>⟨Nat.le_refl _,fun h=>by cases h⟩
 | k :: ks,P,c=>by
  unfold zp3
  split
  ·exact yu8 kind era ks P c
  ·rename_i hgood
   obtain ⟨h1,h2⟩:=uj8 P c ((P.turn+k) % c.nb) kind era
   split
   ·rename_i h0
    refine ⟨h1,fun _=>?_⟩
    show (zo2 P c ((P.turn+k) % c.nb) kind era).2.1.isBad ((P.turn+k) % c.nb)=false
    rw [h2 h0]
    cases hb:c.isBad ((P.turn+k) % c.nb) with
    | false=>rfl
    | true=>exact absurd (.inl hb) hgood
   ·split
    ·exact ⟨h1,fun h=>by cases h⟩
    ·obtain ⟨h3,h4⟩:=yu8 kind era ks (zo2 P c ((P.turn+k) % c.nb) kind era).1 (zo2 P c ((P.turn+k) % c.nb) kind era).2.1
     exact ⟨Nat.le_trans h3 h1,h4⟩
theorem xz9 (P:Pool) (c:Chip) (kind:UInt8) (era:Nat):(zf0 P c kind era).chip.hits.length≤c.hits.length∧((zf0 P c kind era).err=0→(zf0 P c kind era).chip.isBad (zf0 P c kind era).block=false):=by
 unfold zf0
 split
 ·exact ⟨Nat.le_refl _,fun h=>by cases h⟩
 ·split
  ·rename_i h
   exact ⟨Nat.le_refl _,fun h'=>absurd h' h⟩
  ·exact yu8 kind era _ P c
def LogS.left (s:LogS):Nat:=s.chip.hits.length+(if s.block= -1 then 1 else 2)
end Go.Den
namespace Go.Den
def getF:List Fact→Key→Option (List UInt8)
 | [],_=>none
 | x :: l,k=>if x.key=k then some x.val else getF l k
theorem vh9:∀ {l:List Fact} {k:Key},(∀ y∈l,y.key≠k)→getF l k=none
 | [],_,_=>rfl
 | x :: l,k,h=>by
  unfold getF
  rw [if_neg (h x (by simp))]
  exact vh9 fun y hy=>h y (by simp [hy])
theorem xs9 {a b:Key} (h:zl9 a b=true):a≠b:=fun e=>by rw [e,yk8] at h;cases h
theorem xr6 {x:Fact} {l:List Fact} (h:yg0 (x :: l)):getF l x.key=none :=
 vh9 fun y hy e=>xs9 ((List.pairwise_cons.1 h).1 y hy) e.symm
theorem xu7 {l:List Fact} {k:Key} (h:∀ y∈l,zl9 k y.key=true):getF l k=none :=
 vh9 fun y hy e=>xs9 (h y hy) e.symm
theorem xr9:∀ {l m:List Fact},yg0 l→yg0 m→(∀ k,getF l k=getF m k)→l=m
 | [],[],_,_,_=>rfl
 | [],y :: m,_,_,h=>by have:=h y.key;simp [getF] at this
 | x :: l,[],_,_,h=>by have:=h x.key;simp [getF] at this
 | x :: l,y :: m,hl,hm,h=>by
  obtain ⟨l1,l2⟩:=List.pairwise_cons.1 hl
  obtain ⟨m1,m2⟩:=List.pairwise_cons.1 hm
  have hk:x.key=y.key:=by
   by_cases h1:zl9 x.key y.key=true
   ·have h2:=h x.key
    rw [xu7 (l:=y :: m) (fun z hz=>by
     rcases List.mem_cons.1 hz with rfl | hz
     ·exact h1
     ·exact yb8 h1 (m1 z hz))] at h2
    simp [getF] at h2
   ·by_cases h1':zl9 y.key x.key=true
    ·have h2:=h y.key
     rw [xu7 (l:=x :: l) (fun z hz=>by
      rcases List.mem_cons.1 hz with rfl | hz
      ·exact h1'
      ·exact yb8 h1' (l1 z hz))] at h2
     simp [getF] at h2
    ·exact xh5 (by simpa using h1) (by simpa using h1')
  have hv:x.val=y.val:=by
   have:=h x.key
   unfold getF at this
   rw [if_pos rfl,if_pos hk.symm] at this
   simpa using this
  have hxy:x=y:=by
   cases x;cases y
   simp only at hk hv
   rw [hk,hv]
  subst hxy
  rw [xr9 l2 m2 fun k=>?_]
  by_cases e:x.key=k
  ·rw [← e,xr6 hl,xr6 hm]
  ·have:=h k
   unfold getF at this
   rwa [if_neg e,if_neg e] at this
theorem ud5 {c:zb2} {k:Key}:∀ {l:List Fact},yg0 l→getF (putF c l) k=if c.key=k then (if c.gone then none else some c.val) else getF l k
 | [],h=>by
  unfold putF
  cases c.gone<;>simp [getF]
 | x :: l,h=>by
  obtain ⟨h1,h2⟩:=List.pairwise_cons.1 h
  unfold putF
  by_cases he:x.key=c.key
  ·rw [if_pos he]
   have hh:=xr6 h
   by_cases hk:c.key=k
   ·rw [if_pos hk]
    cases c.gone
    ·simp [getF,hk]
    ·simp only [if_true]
     rw [← hk,← he];exact hh
   ·rw [if_neg hk]
    have hx:¬ x.key=k:=by rw [he];exact hk
    cases c.gone<;>simp [getF,hk,hx]
  ·rw [if_neg he]
   by_cases hb:zl9 c.key x.key=true
   ·rw [if_pos hb]
    have hh:getF (x :: l) c.key=none:=xu7 fun z hz=>by
     rcases List.mem_cons.1 hz with rfl | hz
     ·exact hb
     ·exact yb8 hb (h1 z hz)
    by_cases hk:c.key=k
    ·rw [if_pos hk]
     cases c.gone
     ·simp [getF,hk]
     ·simp only [if_true]
      rw [← hk];exact hh
    ·rw [if_neg hk]
     cases c.gone<;>simp [getF,hk]
   ·rw [if_neg hb]
    have ih:=ud5 (c:=c) (k:=k) h2
    unfold getF
    by_cases hx:x.key=k
    ·have hk:¬ c.key=k:=fun e=>he (hx.trans e.symm)
     rw [if_pos hx,if_neg hk,if_pos hx]
    ·rw [if_neg hx,ih,if_neg hx]
def yx8 (cs:List zb2) (k:Key) (d:Option (List UInt8)):Option (List UInt8):=cs.foldl (fun d c=>if c.key=k then (if c.gone then none else some c.val) else d) d
theorem ys1 {k:Key}:∀ {cs:List zb2} {l:List Fact},yg0 l→getF (zt9 l cs) k=yx8 cs k (getF l k)
 | [],l,h=>rfl
 | c :: cs,l,h=>by
  show getF (zt9 (putF c l) cs) k=yx8 cs k (if c.key=k then (if c.gone then none else some c.val) else getF l k)
  rw [ys1 (xm7 h),ud5 h]
theorem xy2 (k:Key):∀ cs:List zb2,(∃ v,∀ d,yx8 cs k d=v)∨∀ d,yx8 cs k d=d
 | []=>.inr fun _=>rfl
 | c :: cs=>by
  rcases xy2 k cs with ⟨v,h⟩| h
  ·exact .inl ⟨v,fun d=>h _⟩
  ·by_cases e:c.key=k
   ·refine .inl ⟨if c.gone then none else some c.val,fun d=>?_⟩
    show yx8 cs k (if c.key=k then (if c.gone then none else some c.val) else d)=_
    rw [h,if_pos e]
   ·refine .inr fun d=>?_
    show yx8 cs k (if c.key=k then (if c.gone then none else some c.val) else d)=_
    rw [h,if_neg e]
theorem ue7 (cs:List zb2) (k:Key) (d:Option (List UInt8)):yx8 cs k (yx8 cs k d)=yx8 cs k d:=by
 rcases xy2 k cs with ⟨v,h⟩| h
 ·rw [h,h]
 ·rw [h]
theorem yh4 {l:List Fact} (h:zg6 l=true) (cs:List zb2):ze0 l cs=zt9 l cs:=by unfold ze0;rw [if_pos h]
theorem yh3 (l:List Fact) (cs:List zb2):zg6 (ze0 l cs)=true:=by
 unfold ze0
 split
 ·rename_i h
  exact zq0.2 (zz4 (zq0.1 h))
 ·rfl
theorem yr5 {l:List Fact} (h:zg6 l=true):ze0 l []=l:=by rw [yh4 h];rfl
theorem xt1 {l:List Fact} (h:zg6 l=true) (cs ds:List zb2):ze0 (ze0 l cs) ds=ze0 l (cs ++ ds):=by
 rw [yh4 (yh3 l cs),yh4 h,yh4 h]
 unfold zt9
 rw [List.foldl_append]
theorem ug1 {l:List Fact} (h:zg6 l=true) (cs:List zb2):ze0 (ze0 l cs) cs=ze0 l cs:=by
 have h':=zq0.1 h
 rw [yh4 (yh3 l cs),yh4 h]
 have h1:=zz4 (cs:=cs) h'
 refine xr9 (zz4 h1) h1 fun k=>?_
 rw [ys1 h1,ys1 h',ue7]
theorem up2 {f:Fact}:∀ {l:List Fact},yg0 l→f∈l→getF l f.key=some f.val
 | x :: l,h,hf=>by
  unfold getF
  rcases List.mem_cons.1 hf with rfl | hf
  ·rw [if_pos rfl]
  ·rw [if_neg (xs9 ((List.pairwise_cons.1 h).1 f hf))]
   exact up2 (List.pairwise_cons.1 h).2 hf
theorem um3 {l:List Fact} (h:zg6 l=true) {m:List Fact} (hm:∀ f∈m,f∈l):ze0 l (m.map ze4)=l:=by
 have h':=zq0.1 h
 rw [yh4 h]
 refine xr9 (zz4 h') h' fun k=>?_
 rw [ys1 h']
 have:∀ (m:List Fact),(∀ f∈m,f∈l)→yx8 (m.map ze4) k (getF l k)=getF l k:=by
  intro m
  induction m with
  | nil=>intro _;rfl
  | cons x m ih =>
   intro hm
   show yx8 (m.map ze4) k (if x.key=k then (if false=true then none else some x.val) else getF l k)=_
   have hx:(if x.key=k then (if false=true then none else some x.val) else getF l k)=getF l k:=by
    split
    ·rename_i e
     rw [if_neg (by decide),← e,up2 h' (hm x (by simp))]
    ·rfl
   rw [hx]
   exact ih fun f hf=>hm f (by simp [hf])
 exact this m hm
theorem uu7 {l:List Fact} (h:zg6 l=true):ze0 [] (l.map ze4)=l:=by
 have h':=zq0.1 h
 have h0:yg0 []:=List.Pairwise.nil
 rw [yh4 rfl]
 refine xr9 (zz4 h0) h' fun k=>?_
 rw [ys1 h0]
 have:∀ (m:List Fact) (d:Option (List UInt8)),yg0 m→yx8 (m.map ze4) k d=(getF m k).or d:=by
  intro m
  induction m with
  | nil=>intro d _;rfl
  | cons x m ih =>
   intro d hs
   show yx8 (m.map ze4) k (if x.key=k then (if false=true then none else some x.val) else d)=_
   rw [ih _ (List.pairwise_cons.1 hs).2]
   show (getF m k).or _=(if x.key=k then some x.val else getF m k).or d
   by_cases e:x.key=k
   ·rw [if_pos e,if_pos e,if_neg (by decide),← e,xr6 hs];rfl
   ·rw [if_neg e,if_neg e]
 rw [this l _ h']
 show (getF l k).or none=getF l k
 cases getF l k<;>rfl
def bit (x:UInt8) (k:Nat):Bool:=x.toBitVec.getLsbD k
theorem um1 (x:UInt8) (k:Nat):bit x k=x.toNat.testBit k:=rfl
theorem qk3 (x:UInt8) (k:Nat):(x.toNat / 2 ^ k % 2 == 0)= !bit x k:=by
 rw [um1,Nat.testBit_eq_decide_div_mod_eq]
 have:x.toNat / 2 ^ k % 2=0∨x.toNat / 2 ^ k % 2=1:=by omega
 rcases this with h | h<;>rw [h]<;>rfl
theorem vw7 (x:UInt8) {k:Nat} (h:8≤k):bit x k=false:=by
 unfold bit
 exact BitVec.getLsbD_of_ge _ _ h
theorem qb8 {x y:UInt8} (h:∀ k,k<8→bit x k=bit y k):x=y:=by
 have:x.toBitVec=y.toBitVec:=BitVec.eq_of_getLsbD_eq fun k hk=>h k hk
 exact UInt8.toBitVec_inj.1 this
theorem vb7 (x:UInt8):yg3 x=((List.range 8).filter fun k=> !bit x k).length:=by
 unfold yg3
 congr 2
 funext k
 exact qk3 x k
theorem ud9 {α:Type} {p q:α→Bool}:∀ {l:List α},(∀ a∈l,p a=true→q a=true)→(l.filter p).length≤(l.filter q).length∧((l.filter p).length=(l.filter q).length→∀ a∈l,q a=true→p a=true)
 | [],_=>by simp
 | a :: l,h=>by
  obtain ⟨h1,h2⟩:=ud9 (l:=l) fun b hb=>h b (by simp [hb])
  have ha:=h a (by simp)
  simp only [List.filter_cons]
  cases hp:p a with
  | true =>
   have hq:=ha hp
   simp only [hq,if_true,List.length_cons]
   refine ⟨by omega,fun he b hb hqb=>?_⟩
   rcases List.mem_cons.1 hb with rfl | hb
   ·exact hp
   ·exact h2 (by omega) b hb hqb
  | false =>
   cases hq:q a with
   | true =>
    simp only [Bool.false_eq_true,if_false,if_true,List.length_cons]
    exact ⟨by omega,fun he=>by omega⟩
   | false =>
    simp only [Bool.false_eq_true,if_false]
    refine ⟨h1,fun he b hb hqb=>?_⟩
    rcases List.mem_cons.1 hb with rfl | hb
    ·rw [hq] at hqb;cases hqb
    ·exact h2 he b hb hqb
def sub8 (y x:UInt8):Prop:=∀ k,bit y k=true→bit x k=true
theorem uq4 {y x:UInt8} (h:sub8 y x):yg3 x≤yg3 y∧(yg3 x=yg3 y→x=y):=by
 rw [vb7,vb7]
 obtain ⟨h1,h2⟩:=ud9 (p:=fun k=> !bit x k) (q:=fun k=> !bit y k) (l:=List.range 8) (fun k _ hk=>by
  cases hy:bit y k with
  | false=>rfl
  | true=>rw [h k hy] at hk;cases hk)
 refine ⟨h1,fun he=>qb8 fun k hk=>?_⟩
 have:=h2 he k (by simpa using hk)
 cases hy:bit y k with
 | true=>exact h k hy
 | false =>
  rw [hy] at this
  simpa using this
theorem qi0 {y x:UInt8} (h:sub8 y x):y.toNat≤x.toNat:=by
 have:y.toNat &&& x.toNat=y.toNat:=by
  apply Nat.eq_of_testBit_eq
  intro k
  rw [Nat.testBit_and]
  have:=h k
  rw [um1,um1] at this
  cases hy:y.toNat.testBit k with
  | false=>rfl
  | true=>rw [this hy];rfl
 rw [← this]
 exact Nat.and_le_right
theorem uq6 {x y z:UInt8} (h:sub8 x y) (k:sub8 y z):sub8 x z:=fun i hi=>k i (h i hi)
theorem um2 (m o n:UInt8) {k:Nat} (hk:k<8):bit (mix m o n) k=((bit o k && !bit m k) || (bit n k && bit m k)):=by
 unfold bit mix
 rw [UInt8.toBitVec_or,UInt8.toBitVec_and,UInt8.toBitVec_and,UInt8.toBitVec_not,BitVec.getLsbD_or,BitVec.getLsbD_and,BitVec.getLsbD_and,BitVec.getLsbD_not]
 simp [hk]
theorem vw8 {k:Nat} (hk:k<8):bit 255 k=true:=by
 match k,hk with
 | 0,_ | 1,_ | 2,_ | 3,_ | 4,_ | 5,_ | 6,_ | 7,_=>rfl
theorem uq7 (m o:UInt8):sub8 o (mix m o 255):=by
 intro k hk
 by_cases h8:k<8
 ·rw [um2 _ _ _ h8,hk,vw8 h8]
  cases bit m k<;>rfl
 ·rw [vw7 _ (by omega)] at hk;cases hk
theorem uq5 (m n:UInt8):sub8 n (mix m 255 n):=by
 intro k hk
 by_cases h8:k<8
 ·rw [um2 _ _ _ h8,hk,vw8 h8]
  cases bit m k<;>rfl
 ·rw [vw7 _ (by omega)] at hk;cases hk
theorem qe8 (o n:UInt8):mix 255 o n=n:=by
 apply qb8
 intro k hk
 rw [um2 _ _ _ hk,vw8 hk]
 simp
def SubL (Q X:List UInt8):Prop:=Q.length=X.length∧∀ i,i<Q.length→sub8 (Q.getD i 0) (X.getD i 0)
theorem SubL.trans {A B C:List UInt8} (h:SubL A B) (k:SubL B C):SubL A C:=⟨h.1.trans k.1,fun i hi=>uq6 (h.2 i hi) (k.2 i (by rw [← h.1];exact hi))⟩
theorem SubL.cons {y x:UInt8} {ys xs:List UInt8} (h:SubL (y :: ys) (x :: xs)):sub8 y x∧SubL ys xs:=by
 obtain ⟨hl,hb⟩:=h
 refine ⟨hb 0 (by simp),by simpa using hl,fun i hi=>?_⟩
 exact hb (i+1) (by simpa using hi)
theorem SubL.take {A B:List UInt8} (h:SubL A B) (n:Nat):SubL (A.take n) (B.take n):=by
 refine ⟨by simp [h.1],fun i hi=>?_⟩
 have hi':i<A.length∧i<n:=by simp at hi;omega
 have hb:=h.2 i hi'.1
 have hl:=h.1
 simpa [List.getD,List.getElem?_take,hi'.2] using hb
theorem SubL.drop {A B:List UInt8} (h:SubL A B) (n:Nat):SubL (A.drop n) (B.drop n):=by
 refine ⟨by simp [h.1],fun i hi=>?_⟩
 have hb:=h.2 (n+i) (by simp at hi;omega)
 simpa [List.getD] using hb
theorem SubL.nts:∀ {Q X:List UInt8},SubL Q X→zg4 X≤zg4 Q∧(zg4 X=zg4 Q→X=Q)
 | [],[],_=>⟨Nat.le_refl _,fun _=>rfl⟩
 | [],_ :: _,h=>by have:=h.1;simp at this
 | _ :: _,[],h=>by have:=h.1;simp at this
 | y :: ys,x :: xs,h=>by
  obtain ⟨h1,h2⟩:=h.cons
  obtain ⟨a1,a2⟩:=uq4 h1
  obtain ⟨b1,b2⟩:=SubL.nts h2
  have e1:zg4 (x :: xs)=yg3 x+zg4 xs:=by simp [Go.Den.zg4]
  have e2:zg4 (y :: ys)=yg3 y+zg4 ys:=by simp [Go.Den.zg4]
  rw [e1,e2]
  refine ⟨by omega,fun he=>?_⟩
  rw [a2 (by omega),b2 (by omega)]
theorem SubL.fle:∀ {Q X:List UInt8},SubL Q X→zd0 Q≤zd0 X
 | [],[],_=>Nat.le_refl _
 | [],_ :: _,h=>by have:=h.1;simp at this
 | _ :: _,[],h=>by have:=h.1;simp at this
 | y :: ys,x :: xs,h=>by
  obtain ⟨h1,h2⟩:=h.cons
  have a:=qi0 h1
  have b:=SubL.fle h2
  simp only [Go.Den.zd0]
  omega
theorem SubL.antisymm {A B:List UInt8} (h:SubL A B) (k:SubL B A):A=B:=by
 have h1:=h.nts
 have h2:=k.nts
 exact (h1.2 (by omega)).symm
def xv7 (Q:List UInt8):Prop:=2≤Q.length∧zd0 (Q.take 2)=zg4 (Q.drop 2)
def Safe (X:List UInt8):Prop:=∃ Q,xv7 Q∧SubL Q X
theorem up6 {Q X:List UInt8} (h:SubL Q X) (hq:xv7 Q) (hx:xv7 X):X=Q:=by
 have h1:=(h.drop 2).nts
 have h2:=(h.take 2).fle
 have e1:=hq.2
 have e2:=hx.2
 have hd:X.drop 2=Q.drop 2:=h1.2 (by omega)
 have hf:zd0 (X.take 2)=zd0 (Q.take 2):=by rw [e1,e2,hd]
 have hl:(X.take 2).length=(Q.take 2).length:=by simp [h.1]
 have ht:X.take 2=Q.take 2:=by
  have a:=vq4 (X.take 2)
  have b:=vq4 (Q.take 2)
  rw [hf,hl,b] at a
  exact a.symm
 rw [← List.take_append_drop 2 X,ht,hd,List.take_append_drop]
theorem Safe.up {X Y:List UInt8} (h:Safe X) (k:SubL X Y):Safe Y:=by
 obtain ⟨Q,hq,hs⟩:=h
 exact ⟨Q,hq,hs.trans k⟩
theorem Safe.same {X Y:List UInt8} (h:Safe X) (k:SubL X Y) (hy:xv7 Y):Y=X:=by
 obtain ⟨Q,hq,hs⟩:=h
 have e:=up6 (hs.trans k) hq hy
 subst e
 exact SubL.antisymm hs k
theorem xa6 {b:List UInt8} (h:(zk7 b).2=0):xv7 b:=by
 have hp:(zc2 b).2.2=0:=by
  unfold zk7 at h
  split at h
  ·exact absurd h (by assumption)
  ·rename_i hc;exact Classical.byContradiction hc
 unfold zc2 at hp
 split at hp
 ·cases hp
 ·rename_i hs
  split at hp
  ·cases hp
  ·split at hp
   ·cases hp
   ·rename_i hn
    have hs':zh0 b.length=true:=by simpa using hs
    simp [zh0] at hs'
    exact ⟨by omega,Classical.byContradiction hn⟩
theorem yi6 {size:Nat} {kind:UInt8} {body:List UInt8} (hb:body.length+5≤size) (hs:size≤8000):xv7 (zp9 size kind body):=by
 have hl:=zt3 size kind body hb
 have hrl:=ye5 size kind body hb
 have hn:=yr4 (zh6 size kind body)
 have h2:=zf3 2 (zg4 (zh6 size kind body))
 have e:(256:Nat) ^ 2=65536:=by decide
 refine ⟨by omega,?_⟩
 unfold zp9
 rw [List.take_append_of_le_length (by omega),List.take_of_length_le (by omega),List.drop_append_of_le_length (by omega),List.drop_of_length_le (by omega),List.nil_append]
 exact ym5 2 _ (by omega)
theorem ub7 (h:Option Hit) (old new:List UInt8) {i:Nat} (hi:i<old.length):(mixL h old new).getD i 0=mix (xq7 h i) (old.getD i 0) (new.getD i 0):=by
 simp [mixL,List.getD,hi]
theorem vg3 (old new:List UInt8) (hl:new.length=old.length):mixL none old new=new:=by
 apply List.ext_getElem
 ·simp [zw4,hl]
 ·intro i h1 h2
  simp only [mixL,List.getElem_map,List.getElem_range,xq7,qe8]
  simp [List.getD,h2]
theorem vq0 (h:Option Hit) (old:List UInt8) (n:Nat) (hn:old.length≤n):SubL old (mixL h old (List.replicate n 255)):=by
 refine ⟨(zw4 _ _ _).symm,fun i hi=>?_⟩
 rw [ub7 _ _ _ hi]
 have:(List.replicate n (255:UInt8)).getD i 0=255:=by simp [List.getD,show i<n by omega]
 rw [this]
 exact uq7 _ _
theorem vp9 (h:Option Hit) (n:Nat) (new:List UInt8) (hl:new.length=n):SubL new (mixL h (List.replicate n 255) new):=by
 refine ⟨by rw [zw4];simp [hl],fun i hi=>?_⟩
 rw [ub7 _ _ _ (by simp;omega)]
 have:(List.replicate n (255:UInt8)).getD i 0=255:=by simp [List.getD,show i<n by omega]
 rw [this]
 exact uq5 _ _
theorem zr4 (n:Nat):zc7 (List.replicate n 255)=true:=by simp [zc7]
theorem yu9 {size:Nat} {kind:UInt8} {body:List UInt8} (hs:zh0 size=true) (hk1:¬ kind<1) (hk7:¬ kind > 7) (hb:body.length+5≤size):zc2 (zp9 size kind body)=(kind,body,0):=by
 have hs':=hs
 simp [zh0] at hs'
 have hlen:=zt3 size kind body hb
 have hrl:=ye5 size kind body hb
 have hn:=yr4 (zh6 size kind body)
 have h2:=zf3 2 (zg4 (zh6 size kind body))
 have h3:=zf3 2 body.length
 have e256:(256:Nat) ^ 2=65536:=by decide
 obtain ⟨n0,n1,hN⟩: ∃ n0 n1,leB (zg4 (zh6 size kind body)) 2=[n0,n1]:=⟨_,_,rfl⟩
 obtain ⟨m0,m1,hM⟩: ∃ m0 m1,leB body.length 2=[m0,m1]:=⟨_,_,rfl⟩
 have hp:zp9 size kind body=n0 :: n1 :: kind :: m0 :: m1 :: (body ++ List.replicate (size - 5 - body.length) 255):=by
  unfold zp9
  rw [hN]
  unfold zh6
  rw [hM]
  simp
 have hr:zh6 size kind body=kind :: m0 :: m1 :: (body ++ List.replicate (size - 5 - body.length) 255):=by
  unfold zh6
  rw [hM]
  simp
 have f1:zd0 [n0,n1]=zg4 (zh6 size kind body):=by rw [← hN];exact ym5 2 _ (by omega)
 have f2:zd0 [m0,m1]=body.length:=by rw [← hM];exact ym5 2 _ (by omega)
 have hkb:kind≠255:=fun e=>hk7 (by rw [e];decide)
 have hnb:zc7 (zp9 size kind body)=false:=by
  rw [hp]
  simp [zc7,hkb]
 unfold zc2
 rw [hlen,if_neg (by rw [hs];simp),if_neg (by rw [hnb];simp)]
 have d2:(zp9 size kind body).drop 2=zh6 size kind body:=by rw [hp,hr];rfl
 have t2:(zp9 size kind body).take 2=[n0,n1]:=by rw [hp];rfl
 have g2:(zp9 size kind body).getD 2 0=kind:=by rw [hp];rfl
 have t3:((zp9 size kind body).drop 3).take 2=[m0,m1]:=by rw [hp];rfl
 rw [d2,t2,f1,if_neg (by simp),g2,t3,f2]
 have d5:(zp9 size kind body).drop (5+body.length)=List.replicate (size - 5 - body.length) 255:=by
  rw [hp,← List.drop_drop]
  show (body ++ List.replicate (size - 5 - body.length) 255).drop body.length=_
  simp
 have t5:((zp9 size kind body).take (5+body.length)).drop 5=body:=by
  rw [hp,Nat.add_comm]
  show ((n0 :: n1 :: kind :: m0 :: m1 :: (body ++ List.replicate (size - 5 - body.length) 255)).take (body.length+5)).drop 5=body
  simp
 rw [d5,t5,zr4,if_neg]
 rintro (h | h | h | h)
 ·exact hk1 h
 ·exact hk7 h
 ·omega
 ·cases h
theorem xl3 {size:Nat} {h:Head} (hs:zh0 size=true) (ho:h.Ok) (hm:h.may=true):zk7 (zp9 size 1 h.body)=(h,0):=by
 have hbl:=h.body_length
 have hsz:=xw6 hs
 have hg:=yu9 (kind:=1) (body:=h.body) hs (by decide) (by decide) (by omega)
 unfold zk7
 rw [hg]
 simp only []
 rw [if_neg (by simp),if_neg (by rw [hbl];simp)]
 have e4:(256:Nat) ^ 4=4294967296:=by decide
 have e8:(256:Nat) ^ 8=18446744073709551616:=by decide
 have h4:=zf3 4 h.era
 have h8:=zf3 8 h.seq
 have b0:h.body.getD 0 0=h.kind:=rfl
 have b1:(h.body.drop 1).take 4=leB h.era 4:=by
  show (leB h.era 4 ++ leB h.seq 8).take 4=_
  rw [List.take_append_of_le_length (by omega),List.take_of_length_le (by omega)]
 have b5:(h.body.drop 5).take 8=leB h.seq 8:=by
  show ((leB h.era 4 ++ leB h.seq 8).drop 4).take 8=_
  rw [List.drop_append_of_le_length (by omega),List.drop_of_length_le (by omega),List.nil_append,List.take_of_length_le (by omega)]
 have f1:zd0 (leB h.era 4)=h.era:=ym5 4 _ (by have:=ho.1;omega)
 have f2:zd0 (leB h.seq 8)=h.seq:=ym5 8 _ (by have:=ho.2;omega)
 rw [b0,b1,b5,f1,f2]
 have e:(Head.mk h.kind h.era h.seq)=h:=rfl
 rw [e,hm]
 rfl
end Go.Den
