/- Plain: what a taking leaves of all pages, and which blocks live. (Merged and shortened by program: MDeed MPlay MPlay2 MPlay3 MPlay4 MRises MCuts MPage MJour MJour2 SJour SJour2 SScan MRound SScan2 SLoad SLaw12 SChip MLaw12 SScan3 SFact2 SFact3 SFact4 Rep8 SOwn SApply SPlay SPlay2 SJour3 SScan4 MTell MTell2 MTell3.) -/
import Derived.Test.YtnjiiijdgijahaaGreatQ4
import Derived.Lib.Overlaps
set_option linter.unusedVariables false
set_option linter.unusedSimpArgs false
set_option maxRecDepth 20000
namespace Go.Den
structure Deed (c c':Chip) (i e:Nat):Prop where
 geo:c.SameGeo c'
 ok:c'.Ok
 blk:∀ j,j≠i→c'.blk j=c.blk j
 bad:∀ j,j≠i→c'.isBad j=c.isBad j
 cases:(e=0∧c'.dead=c.dead∧c'.bad=c.bad)∨(e=9∧c'.dead=c.dead∧c'.isBad i=true)∨(e=10∧c'.dead=true∧c'.bad=c.bad)
 calm:(∀ t∈c.hits,t.fails=false)→e≠9∧(∀ t∈c'.hits,t.fails=false)∧c'.bad=c.bad
 quiet:c.hits=[]→e=0∧c'.hits=[]
theorem vc6 (c:Chip):c.strike.1.nb=c.nb∧c.strike.1.np=c.np∧c.strike.1.sz=c.sz∧c.strike.1.blocks=c.blocks∧c.strike.1.bad=c.bad∧c.strike.1.dead=c.dead∧(∀ t∈c.strike.1.hits,t∈c.hits)∧(∀ t,c.strike.2=some t→t∈c.hits)∧(c.hits=[]→c.strike.2=none∧c.strike.1.hits=[]):=by
 unfold Chip.strike
 split
 ·rename_i h
  exact ⟨rfl,rfl,rfl,rfl,rfl,rfl,(fun t ht=>ht),(fun t ht=>by cases ht),fun _=>⟨rfl,h⟩⟩
 ·rename_i t r h
  split
  ·exact ⟨rfl,rfl,rfl,rfl,rfl,rfl,(fun t ht=>ht),(fun t ht=>by cases ht),fun h'=>by rw [h] at h';cases h'⟩
  ·exact ⟨rfl,rfl,rfl,rfl,rfl,rfl,(fun t ht=>by rw [h];simp [ht]),(fun t ht=>by cases ht;rw [h];simp),fun h'=>by rw [h] at h';cases h'⟩
theorem getD_set_ne {α:Type} {l:List α} {i j:Nat} {x d:α} (h:j≠i):(l.set i x).getD j d=l.getD j d:=by
 simp [List.getD,List.getElem?_set_ne (Ne.symm h)]
theorem xn7 {α:Type} {l:List α} {i:Nat} {x d:α} (h:i<l.length):(l.set i x).getD i d=x:=by
 simp [List.getD,h]
def zz9 (c:Chip) (b off n:Nat) (new:List UInt8):List UInt8:=(c.blk b).take off ++ mixL c.strike.2 (((c.blk b).drop off).take n) new ++ (c.blk b).drop (off+n)
theorem yy0 {c:Chip} (h:c.Ok) {b off n:Nat} (hb:b<c.nb) (ho:off+n≤c.np * c.sz) (new:List UInt8) :
  Deed c (c.done b off n new).1 b (c.done b off n new).2∧(c.done b off n new).1.blk b=zz9 c b off n new∧(c.done b off n new).1.dead=(if (c.done b off n new).2=10 then true else c.dead):=by
 obtain ⟨s1,s2,s3,s4,s5,s6,s7,s8,s9⟩:=vc6 c
 have hbl:=h.blk_len hb
 have hml:(zz9 c b off n new).length=c.np * c.sz:=by simp [zz9,zw4];omega
 have hbb:b<c.blocks.length:=by rw [h.bl];exact hb
 have hbd:b<c.bad.length:=by rw [h.bad];exact hb
 have hdone:c.done b off n new=(c.strike.1.setBlk b (zz9 c b off n new)).finish b c.strike.2:=rfl
 have hmid:∀ (bad:List Bool) (dead:Bool),bad.length=c.nb→({ c.strike.1.setBlk b (zz9 c b off n new) with bad:=bad,dead:=dead }:Chip).Ok:=by
  intro bad dead hl
  refine ⟨by show 8≤c.strike.1.nb;rw [s1];exact h.nb1,by show c.strike.1.nb≤64;rw [s1];exact h.nb2,by show 4≤c.strike.1.np;rw [s2];exact h.np1,by show c.strike.1.np≤32;rw [s2];exact h.np2,by show 128≤c.strike.1.sz;rw [s3];exact h.sz1,by show c.strike.1.sz≤256;rw [s3];exact h.sz2,?_,?_,?_⟩
  ·show (c.strike.1.blocks.set b _).length=c.strike.1.nb
   rw [List.length_set,s4,s1];exact h.bl
  ·intro x hx
   have hx':x∈c.strike.1.blocks.set b (zz9 c b off n new):=hx
   show x.length=c.strike.1.np * c.strike.1.sz
   rw [s2,s3]
   rw [s4] at hx'
   rcases List.mem_or_eq_of_mem_set hx' with hx' | hx'
   ·exact h.bl2 x hx'
   ·rw [hx'];exact hml
  ·show bad.length=c.strike.1.nb
   rw [s1];exact hl
 have hblk:∀ (bad:List Bool) (dead:Bool) j,({ c.strike.1.setBlk b (zz9 c b off n new) with bad:=bad,dead:=dead }:Chip).blk j=if j=b then zz9 c b off n new else c.blk j:=by
  intro bad dead j
  show (c.strike.1.blocks.set b _).getD j []=_
  rw [s4]
  split
  ·rename_i e;subst e;exact xn7 hbb
  ·rename_i e;exact getD_set_ne e
 rw [hdone]
 cases hh:c.strike.2 with
 | none =>
  have e:(c.strike.1.setBlk b (zz9 c b off n new)).finish b none=({ c.strike.1.setBlk b (zz9 c b off n new) with bad:=c.strike.1.bad,dead:=c.strike.1.dead },0):=rfl
  rw [e]
  refine ⟨⟨⟨s1,s2,s3,(c.strike_geo).2.2.2⟩,hmid _ _ (by rw [s5];exact h.bad),fun j hj=>by rw [hblk,if_neg hj],fun j hj=>by show c.strike.1.bad.getD j false=_;rw [s5];rfl,.inl ⟨rfl,s6,s5⟩,fun hc=>⟨by simp,fun t ht=>hc t (s7 t ht),s5⟩,fun hq=>⟨rfl,(s9 hq).2⟩⟩,by rw [hblk,if_pos rfl],?_⟩
  simp only [if_neg (show ¬ (0=10) by omega)]
  exact s6
 | some t =>
  have htm:=s8 t hh
  have hnq:¬ c.hits=[]:=fun hq=>by rw [(s9 hq).1] at hh;cases hh
  cases hf:t.fails with
  | true =>
   have e:(c.strike.1.setBlk b (zz9 c b off n new)).finish b (some t)=({ c.strike.1.setBlk b (zz9 c b off n new) with bad:=c.strike.1.bad.set b true,dead:=c.strike.1.dead },9):=by
    simp only [Chip.finish,hf,if_true];rfl
   rw [e]
   refine ⟨⟨⟨s1,s2,s3,(c.strike_geo).2.2.2⟩,hmid _ _ (by rw [List.length_set,s5];exact h.bad),fun j hj=>by rw [hblk,if_neg hj],fun j hj=>?_,.inr (.inl ⟨rfl,s6,?_⟩),fun hc=>?_,fun hq=>absurd hq hnq⟩,by rw [hblk,if_pos rfl],?_⟩
   ·show (c.strike.1.bad.set b true).getD j false=_
    rw [s5];exact getD_set_ne hj
   ·show (c.strike.1.bad.set b true).getD b false=true
    rw [s5];exact xn7 hbd
   ·rw [hc t htm] at hf;cases hf
   ·simp only [if_neg (show ¬ (9=10) by omega)];exact s6
  | false =>
   have e:(c.strike.1.setBlk b (zz9 c b off n new)).finish b (some t)=({ c.strike.1.setBlk b (zz9 c b off n new) with bad:=c.strike.1.bad,dead:=true },10):=by
    simp only [Chip.finish,hf];rfl
   rw [e]
   refine ⟨⟨⟨s1,s2,s3,(c.strike_geo).2.2.2⟩,hmid _ _ (by rw [s5];exact h.bad),fun j hj=>by rw [hblk,if_neg hj],fun j hj=>by show c.strike.1.bad.getD j false=_;rw [s5];rfl,.inr (.inr ⟨rfl,rfl,s5⟩),fun hc=>⟨by simp,fun t ht=>hc t (s7 t ht),s5⟩,fun hq=>absurd hq hnq⟩,by rw [hblk,if_pos rfl],?_⟩
   simp only [if_true]
def hd (c:Chip) (i:Nat):Head×Nat:=zk7 (c.page i 0)
def isHd (c:Chip) (i:Nat):Prop:=(hd c i).2=0
def view (c:Chip) (i:Nat):Blk:=if (hd c i).2=0 then ⟨2,(hd c i).1⟩ else if zc7 (c.blk i) then ⟨0,Head.none⟩ else ⟨1,Head.none⟩
theorem xa1 (c:Chip) (i:Nat) (old:Blk):vg9 c i old=if c.dead then old else view c i:=rfl
theorem vy1 (c:Chip) (i:Nat):(view c i).what=2 ↔ isHd c i:=by
 unfold view isHd
 split
 ·rename_i h;simp [h]
 ·rename_i h;split<;>simp [h]
theorem yo6 {c c':Chip} (hg:c.SameGeo c') {i:Nat} (h:c'.blk i=c.blk i):hd c' i=hd c i:=by
 unfold hd Chip.page
 rw [h,hg.2.2.1]
theorem qd1 {c c':Chip} (hg:c.SameGeo c') {i:Nat} (h:c'.blk i=c.blk i):view c' i=view c i:=by
 unfold view
 rw [yo6 hg h,h]
structure CI (c:Chip):Prop where
 ok:c.Ok
 safe:∀ i,i<c.nb→Safe (c.page i 0)
 uniq:∀ i j,i<c.nb→j<c.nb→i≠j→isHd c i→isHd c j→(hd c i).1.seq≠(hd c j).1.seq
structure Inv (P:Pool) (c:Chip):Prop where
 ci:CI c
 len:P.blocks.length=c.nb
 known:c.dead=false→∀ i,i<c.nb→P.blk i=view c i
 last:∀ i,i<c.nb→isHd c i→(hd c i).1.seq≤P.last
theorem xi3 {P:Pool} {i j:Nat} {b:Blk} (hi:i<P.blocks.length):(P.setBlk i b).blk j=if j=i then b else P.blk j:=by
 show (P.blocks.set i b).getD j Blk.zero=_
 split
 ·rename_i e;subst e;exact xn7 hi
 ·rename_i e;exact getD_set_ne e
theorem Inv.deed {P P':Pool} {c c':Chip} {i e:Nat} (h:Inv P c) (hd0:c.dead=false) (hi:i<c.nb) (hde:Deed c c' i e) (hs:Safe (c'.page i 0)) (hbl:P'.blocks=(P.relook c' i).blocks) (hl:P.last≤P'.last)
  (hnew:isHd c' i→(isHd c i∧hd c' i=hd c i)∨(P.last<(hd c' i).1.seq∧(hd c' i).1.seq≤P'.last)):Inv P' c':=by
 have hnb:=hde.geo.1
 have hoth:∀ j,j≠i→hd c' j=hd c j:=fun j hj=>yo6 hde.geo (hde.blk j hj)
 have hothH:∀ j,j≠i→(isHd c' j ↔ isHd c j):=fun j hj=>by unfold isHd;rw [hoth j hj]
 have hpg:∀ j,j≠i→c'.page j 0=c.page j 0:=fun j hj=>by unfold Chip.page;rw [hde.blk j hj,hde.geo.2.2.1]
 have hil:i<P.blocks.length:=by rw [h.len];exact hi
 refine ⟨⟨hde.ok,fun j hj=>?_,fun j k hj hk hjk h1 h2=>?_⟩,?_,fun hd' j hj=>?_,fun j hj h1=>?_⟩
 ·by_cases hji:j=i
  ·subst hji;exact hs
  ·rw [hpg j hji];exact h.ci.safe j (by rw [← hnb];exact hj)
 ·rw [hnb] at hj hk
  by_cases hji:j=i
  ·subst hji
   have hkj:k≠j:=fun e=>hjk e.symm
   have h2':=(hothH k hkj).1 h2
   rw [hoth k hkj]
   rcases hnew h1 with ⟨ho,he⟩| ⟨hlt,_⟩
   ·rw [he];exact h.ci.uniq j k hj hk hjk ho h2'
   ·have:=h.last k hk h2';omega
  ·by_cases hki:k=i
   ·subst hki
    have h1':=(hothH j hji).1 h1
    rw [hoth j hji]
    rcases hnew h2 with ⟨ho,he⟩| ⟨hlt,_⟩
    ·rw [he];exact h.ci.uniq j k hj hk hjk h1' ho
    ·have:=h.last j hj h1';omega
   ·rw [hoth j hji,hoth k hki]
    exact h.ci.uniq j k hj hk hjk ((hothH j hji).1 h1) ((hothH k hki).1 h2)
 ·rw [hbl,hnb]
  show (P.blocks.set i _).length=_
  rw [List.length_set];exact h.len
 ·rw [hnb] at hj
  have:P'.blk j=(P.relook c' i).blk j:=by unfold Pool.blk;rw [hbl]
  rw [this]
  unfold Pool.relook
  rw [xi3 hil,xa1]
  by_cases hji:j=i
  ·subst hji
   rw [if_pos rfl,if_neg (by rw [hd'];simp)]
  ·rw [if_neg hji,h.known hd0 j hj]
   exact (qd1 hde.geo (hde.blk j hji)).symm
 ·rw [hnb] at hj
  by_cases hji:j=i
  ·subst hji
   rcases hnew h1 with ⟨ho,he⟩| ⟨_,hle⟩
   ·rw [he];have:=h.last j hj ho;omega
   ·exact hle
  ·rw [hoth j hji]
   have:=h.last j hj ((hothH j hji).1 h1)
   omega
theorem vj5 {c:Chip} {b off n:Nat} {new:List UInt8} (h:(c.done b off n new).2=0):c.strike.2=none:=by
 unfold Chip.done Chip.finish at h
 cases hh:c.strike.2 with
 | none=>rfl
 | some t =>
  rw [hh] at h
  simp only [] at h
  split at h<;>cases h
theorem vq5 {l:List UInt8} (h:zc7 l=true):l=List.replicate l.length 255:=by
 refine List.eq_replicate_iff.2 ⟨rfl,fun b hb=>?_⟩
 simp only [zc7,List.all_eq_true,beq_iff_eq] at h
 exact h b hb
theorem uj4 {c:Chip} (i:Nat):c.page i 0=(c.blk i).take c.sz:=by simp [Chip.page]
theorem xj3 {c:Chip} (h:c.Ok) (hd0:c.dead=false) {i:Nat} (hi:i<c.nb) (hb:c.isBad i=false):c.erase i=c.done i 0 (c.np * c.sz) (List.replicate (c.np * c.sz) 255):=by
 unfold Chip.erase
 have:=h.np1
 have ha:c.ask i 0=0:=yu0 (k:=0) hd0 hi (by omega)
 rw [if_neg (by omega)]
 simp only [Int.toNat_natCast]
 rw [if_neg (by rw [hb];simp)]
theorem xg1 {P:Pool} {c:Chip} (h:Inv P c) (hd0:c.dead=false) {i:Nat} (hi:i<c.nb) (hb:c.isBad i=false) :
  Deed c (c.erase i).1 i (c.erase i).2∧Inv (P.relook (c.erase i).1 i) (c.erase i).1∧((c.erase i).2=0→(c.erase i).1.blk i=List.replicate (c.np * c.sz) 255)∧(isHd (c.erase i).1 i→isHd c i∧hd (c.erase i).1 i=hd c i):=by
 rw [xj3 h.ci.ok hd0 hi hb]
 obtain ⟨hde,hbl,hdd⟩:=yy0 h.ci.ok hi (off:=0) (n:=c.np * c.sz) (by omega) (List.replicate (c.np * c.sz) 255)
 have hz:=@vj5 c i 0 (c.np * c.sz) (List.replicate (c.np * c.sz) 255)
 generalize hr:c.done i 0 (c.np * c.sz) (List.replicate (c.np * c.sz) 255)=r at *
 have hlen:=h.ci.ok.blk_len hi
 have hmb:zz9 c i 0 (c.np * c.sz) (List.replicate (c.np * c.sz) 255)=mixL c.strike.2 (c.blk i) (List.replicate (c.np * c.sz) 255):=by
  unfold zz9
  rw [Nat.zero_add,List.drop_zero,List.take_zero,List.nil_append,List.take_of_length_le (show (c.blk i).length≤c.np * c.sz by omega),List.drop_of_length_le (show (c.blk i).length≤c.np * c.sz by omega),List.append_nil]
 rw [hmb] at hbl
 have hsub:SubL (c.blk i) (r.1.blk i):=by rw [hbl];exact vq0 _ _ _ (by omega)
 have hsp:SubL (c.page i 0) (r.1.page i 0):=by rw [uj4,uj4,hde.geo.2.2.1];exact hsub.take _
 have hsafe:=h.ci.safe i hi
 have hkeep:isHd r.1 i→isHd c i∧hd r.1 i=hd c i:=by
  intro hh
  have e:=hsafe.same hsp (xa6 hh)
  have:hd r.1 i=hd c i:=by unfold hd;rw [e]
  exact ⟨by unfold isHd;rw [← this];exact hh,this⟩
 refine ⟨hde,h.deed hd0 hi hde (hsafe.up hsp) rfl (Nat.le_refl _) (fun hh=>.inl (hkeep hh)),fun h0=>?_,hkeep⟩
 rw [hbl,hz h0,vg3 _ _ (by simp;omega)]
theorem xp1 {c:Chip} {i:Nat} (h:(view c i).what=0):zc7 (c.blk i)=true:=by
 unfold view at h
 split at h
 ·cases h
 ·split at h
  ·assumption
  ·cases h
theorem va6 {c:Chip} {i:Nat} (h:(view c i).what≠2) (h1:(view c i).what≠1):(view c i).what=0:=by
 unfold view at h h1 ⊢
 split
 ·rename_i hh;rw [if_pos hh] at h;exact absurd rfl h
 ·rename_i hh
  rw [if_neg hh] at h1
  split
  ·rfl
  ·rename_i hb;rw [if_neg hb] at h1;exact absurd rfl h1
theorem vx8 {P:Pool} {c:Chip} (h:Inv P c) (hd0:c.dead=false) {i:Nat} (hi:i<c.nb) (hb:c.isBad i=false) (hbl:zc7 (c.blk i)=true) {kind:UInt8} {era:Nat} (hk1:1≤kind.toNat) (hk3:kind.toNat≤3) (he1:1≤era) (he2:era<4294967296) (hl:P.last+1<18446744073709551616) :
  (zg3 P c i kind era).1.last=P.last+1∧(zg3 P c i kind era).1.turn=P.turn∧Deed c (zg3 P c i kind era).2.1 i (zg3 P c i kind era).2.2∧Inv (zg3 P c i kind era).1 (zg3 P c i kind era).2.1∧
   ((zg3 P c i kind era).2.2=0→hd (zg3 P c i kind era).2.1 i=(⟨kind,era,P.last+1⟩,0)):=by
 have hok:=h.ci.ok
 have hlast:P.raise.last=P.last+1:=Nat.mod_eq_of_lt hl
 have hsz:zh0 (c.sz:Int)=true:=by
  have:=hok.sz1
  have:=hok.sz2
  simp [zh0];omega
 have hm:(Head.mk kind era (P.last+1)).may=true:=by
  simp [Head.may];omega
 have hHok:(Head.mk kind era (P.last+1)).Ok:=⟨he2,hl⟩
 have hput:zx0 c.sz ⟨kind,era,P.raise.last⟩= (zp9 c.sz 1 (Head.mk kind era (P.last+1)).body,0):=by
  unfold zx0
  rw [hlast,if_neg (by rw [hm,hsz];simp)]
  simp
 have hbody:=(Head.mk kind era (P.last+1)).body_length
 have hpl:(zp9 c.sz 1 (Head.mk kind era (P.last+1)).body).length=c.sz:=zt3 _ _ _ (by have:=hok.sz1;omega)
 have hpg:=xl3 hsz hHok hm
 generalize hpage:zp9 c.sz 1 (Head.mk kind era (P.last+1)).body=pg at *
 have hprog:c.program i 0 pg=c.done i 0 c.sz pg:=by
  have:=hok.np1
  have ha:c.ask i 0=0:=yu0 (k:=0) hd0 hi (by omega)
  unfold Chip.program
  rw [if_neg (by omega),if_neg (by omega)]
  simp only [Int.toNat_natCast,tn0,Nat.zero_mul,List.drop_zero]
  rw [if_neg (by rw [hb];simp),if_neg (by rw [hbl];simp)]
 have hw:zg3 P c i kind era=(P.raise.relook (c.done i 0 c.sz pg).1 i,(c.done i 0 c.sz pg).1,(c.done i 0 c.sz pg).2):=by
  unfold zg3
  rw [hput,hprog]
 rw [hw]
 have hfit:c.sz≤c.np * c.sz:=Nat.le_mul_of_pos_left _ (by have:=hok.np1;omega)
 obtain ⟨hde,hblk,hdd⟩:=yy0 hok hi (off:=0) (n:=c.sz) (by omega) pg
 have hz:=@vj5 c i 0 c.sz pg
 generalize hr:c.done i 0 c.sz pg=r at *
 have hlen:=hok.blk_len hi
 have hrep:=vq5 hbl
 have htk:(c.blk i).take c.sz=List.replicate c.sz 255:=by rw [hrep,hlen,List.take_replicate,Nat.min_eq_left hfit]
 have hpage0:r.1.page i 0=mixL c.strike.2 (List.replicate c.sz 255) pg:=by
  rw [uj4,hde.geo.2.2.1,hblk]
  unfold zz9
  rw [Nat.zero_add,List.drop_zero,htk,List.take_zero,List.nil_append,List.take_append_of_le_length (by simp [zw4]),List.take_of_length_le (by simp [zw4])]
 have hsub:SubL pg (r.1.page i 0):=by rw [hpage0];exact vp9 _ _ _ hpl
 have hsound:xv7 pg:=by rw [← hpage];exact yi6 (by have:=hok.sz1;omega) (by have:=hok.sz2;omega)
 have hnew:isHd r.1 i→hd r.1 i=(⟨kind,era,P.last+1⟩,0):=by
  intro hh
  have e:=up6 hsub hsound (xa6 hh)
  unfold hd
  rw [e];exact hpg
 refine ⟨hlast,rfl,hde,h.deed hd0 hi hde ⟨pg,hsound,hsub⟩ rfl (by show P.last≤P.raise.last;omega) (fun hh=>.inr ?_),fun h0=>?_⟩
 ·rw [hnew hh]
  show P.last<P.last+1∧P.last+1≤P.raise.last
  omega
 ·have e:r.1.page i 0=pg:=by rw [hpage0,hz h0,vg3 _ _ (by simp [hpl])]
  unfold hd
  rw [e];exact hpg
theorem Deed.trans {c c1 c2:Chip} {i e:Nat} (h:Deed c c1 i 0) (k:Deed c1 c2 i e):Deed c c2 i e:=by
 obtain ⟨hd1,hb1⟩: c1.dead=c.dead∧c1.bad=c.bad:=by
  rcases h.cases with ⟨_,a,b⟩| ⟨a,_⟩| ⟨a,_⟩
  ·exact ⟨a,b⟩
  ·cases a
  ·cases a
 refine ⟨h.geo.trans k.geo,k.ok,fun j hj=>(k.blk j hj).trans (h.blk j hj),fun j hj=>(k.bad j hj).trans (h.bad j hj),?_,fun hc=>?_,fun hq=>k.quiet (h.quiet hq).2⟩
 ·rcases k.cases with ⟨a,b,d⟩| ⟨a,b,d⟩| ⟨a,b,d⟩
  ·exact .inl ⟨a,by rw [b,hd1],by rw [d,hb1]⟩
  ·exact .inr (.inl ⟨a,by rw [b,hd1],d⟩)
  ·exact .inr (.inr ⟨a,b,by rw [d,hb1]⟩)
 ·have h1:=h.calm hc
  have k1:=k.calm h1.2.1
  exact ⟨k1.1,k1.2.1,by rw [k1.2.2,hb1]⟩
structure TryR (P:Pool) (c:Chip) (i:Nat) (kind:UInt8) (era:Nat) (P':Pool) (c':Chip) (e:Nat):Prop where
 deed:Deed c c' i e
 inv:Inv P' c'
 lo:P.last≤P'.last
 hi:P'.last≤P.last+1
 turn:P'.turn=P.turn
 ok:e=0→hd c' i=(⟨kind,era,P'.last⟩,0)∧P'.last=P.last+1
theorem vs9 {P:Pool} {c:Chip} (h:Inv P c) (hd0:c.dead=false) {i:Nat} (hi:i<c.nb) (hb:c.isBad i=false) (hw:(P.blk i).what≠2) {kind:UInt8} {era:Nat} (hk1:1≤kind.toNat) (hk3:kind.toNat≤3) (he1:1≤era) (he2:era<4294967296) (hl:P.last+1<18446744073709551616) :
  TryR P c i kind era (zo2 P c i kind era).1 (zo2 P c i kind era).2.1 (zo2 P c i kind era).2.2:=by
 have hkn:=h.known hd0 i hi
 unfold zo2
 split
 ·rename_i h1
  obtain ⟨hde,hinv,hz,hk⟩:=xg1 h hd0 hi hb
  split
  ·rename_i hne
   exact ⟨hde,hinv,Nat.le_refl _,Nat.le_succ _,rfl,fun h0=>absurd h0 hne⟩
  ·rename_i heq
   have h0:(c.erase i).2=0:=Classical.byContradiction heq
   have hdd:(c.erase i).1.dead=c.dead∧(c.erase i).1.bad=c.bad:=by
    rcases hde.cases with ⟨_,a,b⟩| ⟨a,_⟩| ⟨a,_⟩
    ·exact ⟨a,b⟩
    ·omega
    ·omega
   rw [h0] at hde
   have hnb:=hde.geo.1
   obtain ⟨w1,w2,w3,w4,w5⟩:=vx8 (i:=i) hinv (by rw [hdd.1];exact hd0) (by rw [hnb];exact hi) (by unfold Chip.isBad;rw [hdd.2];exact hb) (by rw [hz h0];exact zr4 _) hk1 hk3 he1 he2 hl
   refine ⟨hde.trans w3,w4,by rw [w1];exact Nat.le_succ _,by rw [w1];exact Nat.le_refl _,w2,fun e=>⟨?_,w1⟩⟩
   rw [w5 e,w1]
 ·rename_i h1
  have hbk:zc7 (c.blk i)=true:=by
   rw [hkn] at h1 hw
   exact xp1 (va6 hw h1)
  obtain ⟨w1,w2,w3,w4,w5⟩:=vx8 h hd0 hi hb hbk hk1 hk3 he1 he2 hl
  exact ⟨w3,w4,by rw [w1];exact Nat.le_succ _,by rw [w1];exact Nat.le_refl _,w2,fun e=>⟨by rw [w5 e,w1],w1⟩⟩
theorem yh7 {c c':Chip} (hg:c.SameGeo c') {i:Nat} (h:c'.blk i=c.blk i):isHd c' i ↔ isHd c i:=by
 unfold isHd
 rw [yo6 hg h]
theorem Inv.what {P:Pool} {c:Chip} (h:Inv P c) (hd0:c.dead=false) {i:Nat} (hi:i<c.nb):(P.blk i).what=2 ↔ isHd c i:=by
 rw [h.known hd0 i hi];exact vy1 c i
structure TakeP (kind:UInt8) (era:Nat) (ks:List Nat) (P:Pool) (c:Chip) (R:qk9):Prop where
 inv:Inv R.pool R.chip
 geo:c.SameGeo R.chip
 lo:P.last≤R.pool.last
 hi:R.pool.last≤P.last+ks.length
 turn:P.turn≤c.nb→R.pool.turn≤c.nb
 kept:∀ j,j<c.nb→isHd c j→R.chip.blk j=c.blk j∧R.chip.isBad j=c.isBad j
 bads:∀ j,j<c.nb→c.isBad j=true→R.chip.isBad j=true
 cases:(R.err=0∧R.chip.dead=false∧R.block<c.nb∧¬ isHd c R.block∧R.chip.isBad R.block=false∧hd R.chip R.block=(⟨kind,era,R.pool.last⟩,0)∧P.last<R.pool.last)∨
  (R.err=10∧R.chip.dead=true)∨(R.err=11∧R.chip.dead=false∧∀ k∈ks,R.chip.isBad ((P.turn+k) % c.nb)=true∨isHd R.chip ((P.turn+k) % c.nb))
 calm:(∀ t∈c.hits,t.fails=false)→(∀ t∈R.chip.hits,t.fails=false)∧R.chip.bad=c.bad∧∃ i0,∀ j,j≠i0→R.chip.blk j=c.blk j
 quiet:c.hits=[]→R.chip.hits=[]∧R.err≠10∧(R.err=11→R.chip=c∧R.pool=P)∧(R.err=0→∀ j,j≠R.block→R.chip.blk j=c.blk j∧R.chip.isBad j=c.isBad j)
theorem yr2 {kind:UInt8} {era:Nat} (hk1:1≤kind.toNat) (hk3:kind.toNat≤3) (he1:1≤era) (he2:era<4294967296):∀ (ks:List Nat) {P:Pool} {c:Chip},Inv P c→c.dead=false→P.last+ks.length<18446744073709551616→TakeP kind era ks P c (zp3 kind era P c ks)
 | [],P,c,h,hd0,hl=>by
  rw [zp3]
  exact ⟨h,.refl _,Nat.le_refl _,by simp,fun h=>h,fun _ _ _=>⟨rfl,rfl⟩,fun _ _ h=>h,.inr (.inr ⟨rfl,hd0,fun k hk=>by simp at hk⟩),fun hc=>⟨hc,rfl,0,fun _ _=>rfl⟩,fun hq=>⟨hq,by simp,fun _=>⟨rfl,rfl⟩,fun h0=>by cases h0⟩⟩
 | k :: ks,P,c,h,hd0,hl=>by
  have hnb:=h.ci.ok.nb1
  have hmod:(P.turn+k) % c.nb<c.nb:=Nat.mod_lt _ (by omega)
  simp only [List.length_cons] at hl
  rw [zp3]
  by_cases hcnd:c.isBad ((P.turn+k) % c.nb)=true∨(P.blk ((P.turn+k) % c.nb)).what=2
  ·rw [if_pos hcnd]
   have r:=yr2 hk1 hk3 he1 he2 ks h hd0 (by omega)
   refine ⟨r.inv,r.geo,r.lo,by have:=r.hi;simp;omega,r.turn,r.kept,r.bads,?_,r.calm,r.quiet⟩
   rcases r.cases with h0 | h10 | ⟨h1,h2,h3⟩
   ·exact .inl h0
   ·exact .inr (.inl h10)
   ·refine .inr (.inr ⟨h1,h2,fun x hx=>?_⟩)
    rcases List.mem_cons.1 hx with rfl | hx
    ·rcases hcnd with hb | hw
     ·exact .inl (r.bads _ hmod hb)
     ·have hh:=(h.what hd0 hmod).1 hw
      exact .inr ((yh7 r.geo (r.kept _ hmod hh).1).2 hh)
    ·exact h3 x hx
  ·rw [if_neg hcnd]
   have hb:c.isBad ((P.turn+k) % c.nb)=false:=by
    cases hb:c.isBad ((P.turn+k) % c.nb) with
    | false=>rfl
    | true=>exact absurd (.inl hb) hcnd
   have hw:(P.blk ((P.turn+k) % c.nb)).what≠2:=fun hw=>hcnd (.inr hw)
   have hnh:¬ isHd c ((P.turn+k) % c.nb):=fun hh=>hw ((h.what hd0 hmod).2 hh)
   have t:=vs9 h hd0 hmod hb hw hk1 hk3 he1 he2 (by omega)
   generalize hi:(P.turn+k) % c.nb=i at *
   generalize hT:zo2 P c i kind era=T at *
   have hkept:∀ j,isHd c j→T.2.1.blk j=c.blk j∧T.2.1.isBad j=c.isBad j:=fun j hj=>by
    have hji:j≠i:=fun e=>hnh (e ▸ hj)
    exact ⟨t.deed.blk j hji,t.deed.bad j hji⟩
   have hbads:∀ j,c.isBad j=true→T.2.1.isBad j=true:=fun j hj=>by
    have hji:j≠i:=fun e=>by rw [e,hb] at hj;cases hj
    rw [t.deed.bad j hji];exact hj
   by_cases h0:T.2.2=0
   ·rw [if_pos h0]
    obtain ⟨hhd,hls⟩:=t.ok h0
    obtain ⟨hdd,hbad⟩: T.2.1.dead=c.dead∧T.2.1.bad=c.bad:=by
     rcases t.deed.cases with ⟨_,a,b⟩| ⟨a,_⟩| ⟨a,_⟩
     ·exact ⟨a,b⟩
     ·omega
     ·omega
    refine ⟨⟨t.inv.ci,t.inv.len,t.inv.known,t.inv.last⟩,t.deed.geo,t.lo,by have:=t.hi;simp;omega,fun _=>by show i+1≤c.nb;omega,fun j _ hj=>hkept j hj,fun j _ hj=>hbads j hj,.inl ⟨rfl,by rw [← hd0];exact hdd,hmod,hnh,?_,hhd,by show P.last<T.1.last;omega⟩,fun hc=>⟨(t.deed.calm hc).2.1,(t.deed.calm hc).2.2,i,fun j hj=>t.deed.blk j hj⟩,
     fun hq=>⟨(t.deed.quiet hq).2,by simp,(fun h=>by cases h),fun _ j hj=>⟨t.deed.blk j hj,t.deed.bad j hj⟩⟩⟩
    show T.2.1.isBad i=false
    unfold Chip.isBad;rw [hbad];exact hb
   ·rw [if_neg h0]
    by_cases h10:T.2.2=10
    ·rw [if_pos h10]
     have hdd:T.2.1.dead=true:=by
      rcases t.deed.cases with ⟨a,_⟩| ⟨a,_⟩| ⟨_,a,_⟩
      ·omega
      ·omega
      ·exact a
     refine ⟨t.inv,t.deed.geo,t.lo,by have:=t.hi;simp;omega,fun h=>by show T.1.turn≤c.nb;rw [t.turn];exact h,fun j _ hj=>hkept j hj,fun j _ hj=>hbads j hj,.inr (.inl ⟨rfl,hdd⟩),fun hc=>⟨(t.deed.calm hc).2.1,(t.deed.calm hc).2.2,i,fun j hj=>t.deed.blk j hj⟩,fun hq=>absurd (t.deed.quiet hq).1 h0⟩
    ·rw [if_neg h10]
     obtain ⟨h9,hdd,hbi⟩: T.2.2=9∧T.2.1.dead=c.dead∧T.2.1.isBad i=true:=by
      rcases t.deed.cases with ⟨a,_⟩| a | ⟨a,_⟩
      ·exact absurd a h0
      ·exact a
      ·exact absurd a h10
     have r:=yr2 hk1 hk3 he1 he2 ks t.inv (by rw [hdd];exact hd0) (by have:=t.hi;omega)
     have hnbT:T.2.1.nb=c.nb:=t.deed.geo.1
     have hhT:∀ j,isHd c j→isHd T.2.1 j:=fun j hj=>(yh7 t.deed.geo (hkept j hj).1).2 hj
     refine ⟨r.inv,t.deed.geo.trans r.geo,Nat.le_trans t.lo r.lo,by have:=r.hi;have:=t.hi;simp;omega,fun h=>by have:=r.turn (by rw [t.turn,hnbT];exact h);rw [hnbT] at this;exact this,fun j hj hh=>?_,fun j hj hh=>r.bads j (by rw [hnbT];exact hj) (hbads j hh),?_,fun hc=>absurd h9 (t.deed.calm hc).1,fun hq=>absurd (t.deed.quiet hq).1 h0⟩
     ·obtain ⟨a,b⟩:=r.kept j (by rw [hnbT];exact hj) (hhT j hh)
      exact ⟨a.trans (hkept j hh).1,b.trans (hkept j hh).2⟩
     ·rcases r.cases with ⟨a1,a2,a3,a4,a5,a6,a7⟩| a | ⟨a1,a2,a3⟩
      ·refine .inl ⟨a1,a2,by rw [← hnbT];exact a3,fun hh=>a4 (hhT _ hh),a5,a6,by have:=t.lo;omega⟩
      ·exact .inr (.inl a)
      ·refine .inr (.inr ⟨a1,a2,fun x hx=>?_⟩)
       rcases List.mem_cons.1 hx with rfl | hx
       ·rw [hi];exact .inl (r.bads i (by rw [hnbT];exact hmod) hbi)
       ·have:=a3 x hx
        rw [t.turn,hnbT] at this
        exact this
theorem qi9 {n t j:Nat} (ht:t≤n) (hj:j<n):∃ k,k<n∧(t+k) % n=j:=by
 by_cases h:t≤j
 ·exact ⟨j - t,by omega,by rw [show t+(j - t)=j by omega];exact Nat.mod_eq_of_lt hj⟩
 ·by_cases h2:t=n
  ·exact ⟨j,hj,by rw [h2,Nat.add_mod_left];exact Nat.mod_eq_of_lt hj⟩
  ·exact ⟨j+n - t,by omega,by rw [show t+(j+n - t)=j+n by omega,Nat.add_mod_right];exact Nat.mod_eq_of_lt hj⟩
theorem ug9 {P:Pool} {c:Chip} (h:c.Ok) (hd0:c.dead=false) {kind:UInt8} {era:Nat} (hk1:1≤kind.toNat) (hk3:kind.toNat≤3) (he1:1≤era):zf0 P c kind era=zp3 kind era P c (List.range c.nb):=by
 unfold zf0
 rw [if_neg (by omega),if_neg (by rw [qn3 h,hd0];simp)]
theorem vk1 {c:Chip} (h:c.Ok) {i:Nat} (hi:i<c.nb) (hb:zc7 (c.blk i)=true):¬ isHd c i:=by
 have hlen:=h.blk_len hi
 have hpg:zc7 (c.page i 0)=true:=by
  rw [uj4]
  simp only [zc7,List.all_eq_true] at hb ⊢
  exact fun x hx=>hb x (List.mem_of_mem_take hx)
 have hpl:(c.page i 0).length=c.sz:=yt5 h hi (by have:=h.np1;omega)
 have hsz:zh0 ((c.page i 0).length:Int)=true:=by
  have:=h.sz1
  have:=h.sz2
  rw [hpl];simp [zh0];omega
 intro hh
 have hg:(zc2 (c.page i 0)).2.2=6:=by
  unfold zc2
  rw [if_neg (by rw [hsz];simp),if_pos hpg]
 unfold isHd hd zk7 at hh
 rw [if_pos (by omega)] at hh
 omega
def Mine (c:Chip) (i:Int):Prop:=0≤i∧i<c.nb∧isHd c i.toNat∧c.isBad i.toNat=false
theorem qf5 {P:Pool} {c:Chip} (h:Inv P c) (hd0:c.dead=false) {i:Int} (hm:¬ Mine c i):zd1 P c i=(P,c,12):=by
 unfold zd1
 refine if_pos (Classical.byContradiction fun hn=>hm ?_)
 have h1:¬ i<0:=fun h=>hn (.inl h)
 have h2:¬ i≥c.nb:=fun h=>hn (.inr (.inl h))
 have hlt:i.toNat<c.nb:=by omega
 have h3:(P.blk i.toNat).what=2:=Classical.byContradiction fun h=>hn (.inr (.inr (.inl h)))
 have h4:¬ c.isBad i.toNat=true:=fun h=>hn (.inr (.inr (.inr h)))
 exact ⟨by omega,by omega,(h.what hd0 hlt).1 h3,by simpa using h4⟩
structure FreeP (P:Pool) (c:Chip) (i:Nat) (r:Pool×Chip×Nat) (e:Nat):Prop where
 deed:Deed c r.2.1 i e
 inv:Inv r.1 r.2.1
 last:r.1.last=P.last
 turn:r.1.turn=P.turn
 err:r.2.2=if e=9 then 0 else e
 gone:e=0→¬ isHd r.2.1 i
 keep:isHd r.2.1 i→isHd c i∧hd r.2.1 i=hd c i
theorem qa5 {P:Pool} {c:Chip} (h:Inv P c) (hd0:c.dead=false) {i:Int} (hm:Mine c i):∃ e,FreeP P c i.toNat (zd1 P c i) e:=by
 obtain ⟨h0,h1,h2,h3⟩:=hm
 have hlt:i.toNat<c.nb:=by omega
 have hei:c.erase i=c.erase (i.toNat:Int):=by rw [Int.toNat_of_nonneg h0]
 have hf:zd1 P c i=(P.relook (c.erase i).1 i.toNat,(c.erase i).1,if (c.erase i).2=9 then 0 else (c.erase i).2):=by
  unfold zd1
  rw [if_neg]
  rintro (a | a | a | a)
  ·omega
  ·omega
  ·exact a ((h.what hd0 hlt).2 h2)
  ·rw [h3] at a;cases a
 rw [hf,hei]
 obtain ⟨hde,hinv,hz,hk⟩:=xg1 h hd0 hlt h3
 refine ⟨_,hde,hinv,rfl,rfl,rfl,fun h0=>?_,hk⟩
 exact vk1 hde.ok (by rw [hde.geo.1];exact hlt) (by show zc7 ((c.erase (i.toNat:Int)).1.blk i.toNat)=true;rw [hz h0];exact zr4 _)
theorem yw2 {α:Type} {f:α→Nat}:∀ {l m:List α},l.Pairwise (fun a b=>f a<f b)→m.Pairwise (fun a b=>f a<f b)→(∀ x,x∈l ↔ x∈m)→l=m
 | [],[],_,_,_=>rfl
 | [],b :: m,_,_,h=>by have:=(h b).2 (by simp);simp at this
 | a :: l,[],_,_,h=>by have:=(h a).1 (by simp);simp at this
 | a :: l,b :: m,hl,hm,h=>by
  obtain ⟨l1,l2⟩:=List.pairwise_cons.1 hl
  obtain ⟨m1,m2⟩:=List.pairwise_cons.1 hm
  have hab:a=b:=by
   rcases List.mem_cons.1 ((h a).1 (by simp)) with e | ha
   ·exact e
   ·rcases List.mem_cons.1 ((h b).2 (by simp)) with e | hb
    ·exact e.symm
    ·have:=l1 b hb;have:=m1 a ha;omega
  subst hab
  rw [yw2 l2 m2 fun x=>?_]
  constructor
  ·intro hx
   rcases List.mem_cons.1 ((h x).1 (by simp [hx])) with e | hx'
   ·have:=l1 x hx;rw [e] at this;omega
   ·exact hx'
  ·intro hx
   rcases List.mem_cons.1 ((h x).2 (by simp [hx])) with e | hx'
   ·have:=m1 x hx;rw [e] at this;omega
   ·exact hx'
theorem vc9 {x:zb7}:∀ {l:List zb7},l.Pairwise (fun a b=>b.head.seq<a.head.seq)→(∀ y∈l,y.head.seq≠x.head.seq)→(sink zh1 x l).Pairwise (fun a b=>b.head.seq<a.head.seq)
 | [],_,_=>by simp [sink]
 | y :: l,hl,hx=>by
  obtain ⟨l1,l2⟩:=List.pairwise_cons.1 hl
  have hyx:=hx y (by simp)
  unfold sink
  split
  ·rename_i hlt
   have hxy:x.head.seq<y.head.seq:=by
    simp [zh1] at hlt
    omega
   refine List.pairwise_cons.2 ⟨fun z hz=>?_,vc9 l2 fun z hz=>hx z (by simp [hz])⟩
   rcases (xi2 zh1 x z l).1 hz with rfl | hz
   ·exact hxy
   ·exact l1 z hz
  ·rename_i hlt
   have hxy:y.head.seq<x.head.seq:=by
    have:zh1 x y=false:=by simpa using hlt
    simp [zh1] at this
    omega
   refine List.pairwise_cons.2 ⟨fun z hz=>?_,hl⟩
   rcases List.mem_cons.1 hz with rfl | hz
   ·exact hxy
   ·have:=l1 z hz;omega
theorem uc5 {l:List zb7} (h:l.Pairwise (fun a b=>a.head.seq≠b.head.seq)):(yx1 zh1 l).Pairwise (fun a b=>a.head.seq<b.head.seq):=by
 unfold yx1
 rw [List.pairwise_reverse]
 have key:∀ (l acc:List zb7),acc.Pairwise (fun a b=>b.head.seq<a.head.seq)→l.Pairwise (fun a b=>a.head.seq≠b.head.seq)→(∀ a∈acc,∀ b∈l,a.head.seq≠b.head.seq)→(l.foldl (fun acc x=>sink zh1 x acc) acc).Pairwise (fun a b=>b.head.seq<a.head.seq):=by
  intro l
  induction l with
  | nil=>intro acc ha _ _;exact ha
  | cons x l ih =>
   intro acc ha hl hx
   obtain ⟨l1,l2⟩:=List.pairwise_cons.1 hl
   rw [List.foldl_cons]
   refine ih _ (vc9 ha fun y hy=>hx y hy x (by simp)) l2 fun a ha' b hb=>?_
   rcases (xi2 zh1 x a acc).1 ha' with rfl | ha'
   ·exact l1 b hb
   ·exact hx a ha' b (by simp [hb])
 exact key l [] List.Pairwise.nil h fun a ha=>by simp at ha
theorem xu6 (t y:zb7) (l:List zb7):xr5 t (y :: l)=if y.head.seq≤t.head.seq then y :: xr5 t l else t :: y :: l:=by
 unfold xr5 ui4
 rw [List.takeWhile_cons]
 split<;>rename_i h
 ·have:y.head.seq≤t.head.seq:=by simpa using h
  rw [if_pos this];simp
 ·have:¬ y.head.seq≤t.head.seq:=by simpa using h
  rw [if_neg this];simp
theorem xf5 (t x:zb7):∀ (l:List zb7),x∈xr5 t l ↔ x=t∨x∈l
 | []=>by simp [xr5,ui4]
 | y :: l=>by
  rw [xu6]
  split
  ·simp only [List.mem_cons,xf5 t x l]
   constructor
   ·rintro (h | h | h)
    ·exact .inr (.inl h)
    ·exact .inl h
    ·exact .inr (.inr h)
   ·rintro (h | h | h)
    ·exact .inr (.inl h)
    ·exact .inl h
    ·exact .inr (.inr h)
  ·simp
theorem xx6 {t:zb7}:∀ {l:List zb7},l.Pairwise (fun a b=>a.head.seq<b.head.seq)→(∀ y∈l,y.head.seq≠t.head.seq)→(xr5 t l).Pairwise (fun a b=>a.head.seq<b.head.seq)
 | [],_,_=>by simp [xr5,ui4]
 | y :: l,hl,hx=>by
  obtain ⟨l1,l2⟩:=List.pairwise_cons.1 hl
  have hyt:=hx y (by simp)
  rw [xu6]
  split
  ·refine List.pairwise_cons.2 ⟨fun z hz=>?_,xx6 l2 fun z hz=>hx z (by simp [hz])⟩
   rcases (xf5 t z l).1 hz with rfl | hz
   ·omega
   ·exact l1 z hz
  ·refine List.pairwise_cons.2 ⟨fun z hz=>?_,hl⟩
   rcases List.mem_cons.1 hz with rfl | hz
   ·omega
   ·have:=l1 z hz;omega
theorem yy9 {c:Chip} {i:Nat} (h:isHd c i):view c i=⟨2,(hd c i).1⟩:=if_pos h
theorem qd0 {c:Chip} {i:Nat} (h:¬ isHd c i):(view c i).head=Head.none:=by
 unfold view
 rw [if_neg (show ¬ (hd c i).2=0 from h)]
 split<;>rfl
def yg2 (c:Chip) (n:Nat) (t:zb7):Prop:=t.block<n∧isHd c t.block∧t.head=(hd c t.block).1∧t.bad=c.isBad t.block
theorem uh9 {P:Pool} {c:Chip} (h:Inv P c) (hd0:c.dead=false) {n:Nat} (hn:n≤c.nb) (t:zb7):t∈zt0 P c n ↔ yg2 c n t:=by
 unfold zt0 yg2
 rw [List.mem_filterMap]
 constructor
 ·rintro ⟨i,hi,e⟩
  have hi':i<n:=by simpa using hi
  split at e
  ·rename_i hw
   cases e
   have hh:=(h.what hd0 (by omega)).1 hw
   refine ⟨hi',hh,?_,rfl⟩
   rw [h.known hd0 i (by omega),yy9 hh]
  ·cases e
 ·rintro ⟨h1,h2,h3,h4⟩
  refine ⟨t.block,by simpa using h1,?_⟩
  rw [if_pos ((h.what hd0 (by omega)).2 h2)]
  obtain ⟨b,hh,bad⟩:=t
  simp only [] at h1 h2 h3 h4 ⊢
  rw [h.known hd0 b (by omega),yy9 h2,h3,h4]
theorem xw4 {P:Pool} {c:Chip} (h:Inv P c) (hd0:c.dead=false):∀ n,n≤c.nb→(zt0 P c n).Pairwise (fun a b=>a.head.seq≠b.head.seq)
 | 0,_=>by simp [zt0]
 | n+1,hn=>by
  rw [yq4]
  rw [List.pairwise_append]
  refine ⟨xw4 h hd0 n (by omega),?_,fun a ha b hb=>?_⟩
  ·split<;>simp
  ·obtain ⟨a1,a2,a3,_⟩:=(uh9 h hd0 (by omega) a).1 ha
   have hb':b∈zt0 P c (n+1):=by rw [yq4];exact List.mem_append.2 (.inr hb)
   obtain ⟨b1,b2,b3,_⟩:=(uh9 h hd0 hn b).1 hb'
   have hbn:b.block=n:=by
    split at hb
    ·simp at hb;rw [hb]
    ·simp at hb
   rw [a3,b3]
   exact h.ci.uniq _ _ (by omega) (by omega) (by omega) a2 b2
theorem yo0 {P:Pool} {c:Chip} (h:Inv P c) (hd0:c.dead=false) (t:zb7):t∈zc1 P c ↔ yg2 c c.nb t:=by
 unfold zc1
 rw [yx0]
 exact uh9 h hd0 (Nat.le_refl _) t
theorem yt2 {P:Pool} {c:Chip} (h:Inv P c) (hd0:c.dead=false):(zc1 P c).Pairwise (fun a b=>a.head.seq<b.head.seq):=uc5 (xw4 h hd0 _ (Nat.le_refl _))
theorem xi7 {c:Chip} (h:c.Ok) (hd0:c.dead=false) {i:Nat} (hi:i<c.nb):zw9 c i=((hd c i).1,decide ((hd c i).2=0)):=by
 have:=h.np1
 have ha:c.ask i 0=0:=yu0 (k:=0) hd0 hi (by omega)
 unfold zw9
 rw [if_neg (by omega)]
 rfl
theorem uw5 {c:Chip} (h:CI c) (hd0:c.dead=false):∀ n,n≤c.nb→(∀ t,t∈yf2 c n ↔ yg2 c n t)∧(yf2 c n).Pairwise (fun a b=>a.head.seq<b.head.seq)
 | 0,_=>⟨fun t=>by simp [yf2,yg2],by simp [yf2]⟩
 | n+1,hn=>by
  obtain ⟨h1,h2⟩:=uw5 h hd0 n (by omega)
  have hr:=xi7 h.ok hd0 (i:=n) (by omega)
  rw [yf2,hr]
  simp only [decide_eq_true_eq]
  split
  ·rename_i hh
   refine ⟨fun t=>?_,xx6 h2 fun y hy=>?_⟩
   ·rw [xf5,h1]
    constructor
    ·rintro (rfl | ⟨a,b⟩)
     ·exact ⟨Nat.lt_succ_self _,hh,rfl,rfl⟩
     ·exact ⟨by omega,b⟩
    ·rintro ⟨a,b,d,e⟩
     by_cases hb:t.block=n
     ·left
      obtain ⟨tb,th,tbad⟩:=t
      simp only [] at hb d e
      subst hb
      rw [d,e]
     ·exact .inr ⟨by omega,b,d,e⟩
   ·obtain ⟨a,b,d,_⟩:=(h1 y).1 hy
    rw [d]
    exact h.uniq _ _ (by omega) (by omega) (by omega) b hh
  ·rename_i hh
   refine ⟨fun t=>?_,h2⟩
   rw [h1]
   constructor
   ·rintro ⟨a,b⟩;exact ⟨by omega,b⟩
   ·rintro ⟨a,b,d⟩
    have:t.block≠n:=fun e=>hh (e ▸ b)
    exact ⟨by omega,b,d⟩
theorem vc1 {P:Pool} {c:Chip} (h:Inv P c) (hd0:c.dead=false):zc1 P c=zc5 c:=by
 obtain ⟨h1,h2⟩:=uw5 h.ci hd0 c.nb (Nat.le_refl _)
 exact yw2 (f:=fun t:zb7=>t.head.seq) (yt2 h hd0) h2 fun t=>by rw [yo0 h hd0];exact (h1 t).symm
theorem vw1 {α:Type} {p q:α→Bool} {l:List α} (h:∀ a∈l,p a=q a):l.filter p=l.filter q:=by
 induction l with
 | nil=>rfl
 | cons a l ih=>rw [List.filter_cons,List.filter_cons,h a (by simp),ih fun b hb=>h b (by simp [hb])]
theorem vr7 {P:Pool} {c:Chip} (h:Inv P c) (hd0:c.dead=false):zh3 P c=xe1 c:=by
 unfold zh3 xe1
 congr 1
 refine vw1 fun i hi=>?_
 have hi':i<c.nb:=by simpa using hi
 congr 1
 rw [xi7 h.ci.ok hd0 hi']
 have:=h.what hd0 hi'
 by_cases hh:isHd c i
 ·have e1:decide ((P.blk i).what≠2)=false:=decide_eq_false (fun h=>h (this.2 hh))
  have e2:decide ((hd c i).2=0)=true:=decide_eq_true hh
  rw [e1,e2];rfl
 ·have e1:decide ((P.blk i).what≠2)=true:=decide_eq_true (fun h=>hh (this.1 h))
  have e2:decide ((hd c i).2=0)=false:=decide_eq_false hh
  rw [e1,e2];rfl
theorem um0 {c:Chip} (h:CI c) (hd0:c.dead=false) (hall:∀ j,j<c.nb→c.isBad j=true∨isHd c j):xe1 c=0:=by
 unfold xe1
 rw [List.length_eq_zero_iff,List.filter_eq_nil_iff]
 intro i hi
 have hi':i<c.nb:=by simpa using hi
 rw [xi7 h.ok hd0 hi']
 rcases hall i hi' with hb | hh
 ·rw [hb];simp
 ·simp only []
  rw [decide_eq_true (show (hd c i).2=0 from hh)];simp
theorem vo5 {c:Chip} (h:CI c) (hd0:c.dead=false):∀ n,n≤c.nb→(zl7 c n).blocks.length=c.nb∧(∀ i,i<n→(zl7 c n).blk i=view c i)∧(∀ i,i<n→isHd c i→(hd c i).1.seq≤(zl7 c n).last)∧
  ((zl7 c n).last=0∨∃ i,i<n∧isHd c i∧(zl7 c n).last=(hd c i).1.seq)
 | 0,_=>⟨by simp [zl7],fun i hi=>by omega,fun i hi=>by omega,.inl rfl⟩
 | n+1,hn=>by
  obtain ⟨h1,h2,h3,h4⟩:=vo5 h hd0 n (by omega)
  have hb:∀ i,i<n+1→((zl7 c n).relook c n).blk i=view c i:=by
   intro i hi
   unfold Pool.relook
   rw [xi3 (by omega),xa1,hd0]
   by_cases e:i=n
   ·rw [if_pos e,e];rfl
   ·rw [if_neg e];exact h2 i (by omega)
  have hl:((zl7 c n).relook c n).blocks.length=c.nb:=by
   show ((zl7 c n).blocks.set n _).length=_
   rw [List.length_set];exact h1
  have hbn:=hb n (by omega)
  rw [zl7,hbn]
  have hseq:isHd c n→(view c n).head.seq=(hd c n).1.seq:=fun hh=>by rw [yy9 hh]
  have hseq0:¬ isHd c n→(view c n).head.seq=0:=fun hh=>by rw [qd0 hh];rfl
  split
  ·rename_i hc
   have hh:isHd c n:=Classical.byContradiction fun hn'=>by rw [hseq0 hn'] at hc;omega
   refine ⟨hl,hb,fun i hi hi'=>?_,.inr ⟨n,by omega,hh,hseq hh⟩⟩
   show _≤(view c n).head.seq
   rw [hseq hh]
   by_cases e:i=n
   ·rw [e];exact Nat.le_refl _
   ·have:=h3 i (by omega) hi'
    rw [hseq hh] at hc
    omega
  ·rename_i hc
   refine ⟨hl,hb,fun i hi hi'=>?_,?_⟩
   ·show _≤(zl7 c n).last
    by_cases e:i=n
    ·rw [e] at hi' ⊢
     rw [hseq hi'] at hc
     omega
    ·exact h3 i (by omega) hi'
   ·rcases h4 with h4 | ⟨i,a,b,d⟩
    ·exact .inl h4
    ·exact .inr ⟨i,by omega,b,d⟩
theorem yq5 {c:Chip} (h:CI c) (hd0:c.dead=false):Inv (zh5 c) c∧(∀ m,(∀ i,i<c.nb→isHd c i→(hd c i).1.seq≤m)→(zh5 c).last≤m):=by
 obtain ⟨h1,h2,h3,h4⟩:=vo5 h hd0 c.nb (Nat.le_refl _)
 refine ⟨⟨h,h1,fun _=>h2,h3⟩,fun m hm=>?_⟩
 show (zl7 c c.nb).last≤m
 rcases h4 with h4 | ⟨i,a,b,d⟩
 ·omega
 ·rw [d];exact hm i a b
theorem vt9 {c:Chip} (h:CI c):CI c.power:=⟨⟨h.ok.nb1,h.ok.nb2,h.ok.np1,h.ok.np2,h.ok.sz1,h.ok.sz2,h.ok.bl,h.ok.bl2,h.ok.bad⟩,h.safe,h.uniq⟩
theorem xh4 (n:Nat) (hn:128≤n) (hn2:n≤256):Safe (List.replicate n 255):=by
 refine ⟨zp9 n 1 [],yi6 (by simp;omega) (by omega),?_⟩
 have hl:=zt3 n 1 [] (by simp;omega)
 refine ⟨by simp [hl],fun i hi=>?_⟩
 have:(List.replicate n (255:UInt8)).getD i 0=255:=by simp [List.getD,show i<n by omega]
 rw [this]
 intro k hk
 by_cases h8:k<8
 ·exact vw8 h8
 ·rw [vw7 _ (by omega)] at hk;cases hk
theorem qm7 {nb np sz sp:Nat} (nb1:8≤nb) (nb2:nb≤64) (np1:4≤np) (np2:np≤32) (sz1:128≤sz) (sz2:sz≤256) (c:Chip) (hc:c=⟨nb,np,sz,sp,List.replicate nb (List.replicate (np * sz) 255),List.replicate nb false,[],0,false,0⟩):CI c∧∀ i,i<c.nb→¬ isHd c i:=by
 subst hc
 have hok:Chip.Ok ⟨nb,np,sz,sp,List.replicate nb (List.replicate (np * sz) 255),List.replicate nb false,[],0,false,0⟩:=by
  refine ⟨nb1,nb2,np1,np2,sz1,sz2,by simp,fun b hb=>?_,by simp⟩
  rw [List.eq_of_mem_replicate hb];simp
 have hblk:∀ i,i<nb→Chip.blk ⟨nb,np,sz,sp,List.replicate nb (List.replicate (np * sz) 255),List.replicate nb false,[],0,false,0⟩ i=List.replicate (np * sz) 255:=fun i hi=>by
  simp [Chip.blk,List.getD,hi]
 have hfit:sz≤np * sz:=Nat.le_mul_of_pos_left _ (by omega)
 have hno:∀ i,i<nb→¬ isHd ⟨nb,np,sz,sp,List.replicate nb (List.replicate (np * sz) 255),List.replicate nb false,[],0,false,0⟩ i:=fun i hi=>vk1 hok hi (by rw [hblk i hi];exact zr4 _)
 refine ⟨⟨hok,fun i hi=>?_,fun i j hi _ _ h _=>absurd h (hno i hi)⟩,hno⟩
 rw [uj4,hblk i hi]
 show Safe ((List.replicate (np * sz) 255).take sz)
 rw [List.take_replicate,Nat.min_eq_left hfit]
 exact xh4 sz sz1 sz2
theorem xm3 (c:Chip) (hs:List Hit):c.SameGeo (c.setHits hs).1∧(c.setHits hs).1.dead=c.dead∧(hs=[]→c.hits=[]→(c.setHits hs).1.hits=[]):=by
 unfold Chip.setHits
 split
 ·exact ⟨.refl _,rfl,fun _ h=>h⟩
 ·exact ⟨⟨rfl,rfl,rfl,rfl⟩,rfl,fun h _=>h⟩
theorem ui3 {P:Pool} {c:Chip} (h:Inv P c) {i k:Nat} (hi:i<c.nb) (hk:1≤k) (hkn:k<c.np) (hh:c.dead=false→isHd c i) (b:List UInt8) :
  Inv P (c.program i k b).1∧(c.hits=[]→(c.program i k b).1.hits=[]∧(c.program i k b).1.dead=c.dead):=by
 have hok:=h.ci.ok
 unfold Chip.program
 split
 ·exact ⟨h,fun hq=>⟨hq,rfl⟩⟩
 rename_i hask
 have hask0:c.ask i k=0:=Classical.byContradiction hask
 obtain ⟨hd0,_⟩:=xt0 hask0
 split
 ·exact ⟨h,fun hq=>⟨hq,rfl⟩⟩
 rename_i hl
 split
 ·exact ⟨h,fun hq=>⟨hq,rfl⟩⟩
 split
 ·exact ⟨h,fun hq=>⟨hq,rfl⟩⟩
 simp only [Int.toNat_natCast]
 have hfit:=xe5 hkn
 obtain ⟨hde,hblk,hdd⟩:=yy0 hok hi (off:=k * c.sz) (n:=c.sz) hfit b
 generalize hr:c.done i (k * c.sz) c.sz b=r at *
 have hlen:=hok.blk_len hi
 have hks:c.sz≤k * c.sz:=Nat.le_mul_of_pos_left _ hk
 have hp0:r.1.page i 0=c.page i 0:=by
  rw [uj4,uj4,hde.geo.2.2.1,hblk]
  unfold zz9
  rw [List.append_assoc,List.take_append_of_le_length (by simp;omega),List.take_take,Nat.min_eq_left hks]
 have hhd:hd r.1 i=hd c i:=by unfold hd;rw [hp0]
 have hisd:isHd r.1 i:=by unfold isHd;rw [hhd];exact hh hd0
 have hil:i<P.blocks.length:=by rw [h.len];exact hi
 have hinv:=h.deed hd0 hi hde (by rw [hp0];exact h.ci.safe i hi) (P':=P.relook r.1 i) rfl (Nat.le_refl _) (fun _=>.inl ⟨hh hd0,hhd⟩)
 refine ⟨⟨hinv.ci,by rw [h.len];exact hde.geo.1.symm,fun hdr j hj=>?_,hinv.last⟩,fun hq=>⟨(hde.quiet hq).2,?_⟩⟩
 ·have:=hinv.known hdr j hj
  rw [← this]
  unfold Pool.relook
  rw [xi3 hil]
  split
  ·rename_i e
   subst e
   rw [xa1,hdr,h.known hd0 j hi,yy9 (hh hd0)]
   show _=view r.1 j
   rw [yy9 hisd,hhd]
  ·rfl
 ·rw [hdd,if_neg (by have:=(hde.quiet hq).1;omega)]
theorem vc5 {α:Type}:∀ {l m:List α},l.Nodup→(∀ x∈l,x∈m)→l.length≤m.length
 | [],m,_,_=>by simp
 | x :: l,m,hn,hs=>by
  obtain ⟨s,t,rfl⟩:=List.append_of_mem (hs x (by simp))
  obtain ⟨h1,h2⟩:=List.nodup_cons.1 hn
  have:=vc5 (l:=l) (m:=s ++ t) h2 fun y hy=>by
   have hne:y≠x:=fun e=>h1 (e ▸ hy)
   have:=hs y (by simp [hy])
   simp only [List.mem_append,List.mem_cons] at this ⊢
   rcases this with h | h | h
   ·exact .inl h
   ·exact absurd h hne
   ·exact .inr h
  simp at this ⊢
  omega
theorem qi8 {c:Chip} (h:CI c) (t:zb7):t∈zc1 (zh5 c.power) c.power ↔ yg2 c c.nb t:=by
 rw [yo0 (yq5 (vt9 h) rfl).1 rfl]
 exact Iff.rfl
theorem xn2 {j k sz:Nat} (h:j<k):j * sz+sz≤k * sz:=by
 have:=Nat.mul_le_mul_right sz (show j+1≤k by omega)
 rwa [Nat.succ_mul] at this
theorem ux3 {B M:List UInt8} {k j sz:Nat} (hM:M.length=sz) (hB:k * sz+sz≤B.length) :
  ((B.take (k * sz) ++ M ++ B.drop (k * sz+sz)).drop (j * sz)).take sz=if j=k then M else (B.drop (j * sz)).take sz:=by
 apply List.ext_getElem?
 intro x
 rw [List.getElem?_take]
 by_cases hx:x<sz
 ·rw [if_pos hx,List.getElem?_drop]
  have hl:(B.take (k * sz)).length=k * sz:=by simp;omega
  rcases Nat.lt_trichotomy j k with h | h | h
  ·have:=xn2 (sz:=sz) h
   rw [if_neg (by omega),List.getElem?_append_left (by simp;omega),List.getElem?_append_left (by omega),List.getElem?_take,if_pos (by omega),List.getElem?_take,if_pos hx,List.getElem?_drop]
  ·subst h
   rw [if_pos rfl,List.getElem?_append_left (by simp;omega),List.getElem?_append_right (by omega),hl]
   congr 1
   omega
  ·have:=xn2 (sz:=sz) h
   rw [if_neg (by omega),List.getElem?_append_right (by simp;omega),List.getElem?_drop,List.getElem?_take,if_pos hx,List.getElem?_drop]
   congr 1
   simp
   omega
 ·rw [if_neg hx]
  split
  ·rw [List.getElem?_eq_none (by omega)]
  ·rw [List.getElem?_take,if_neg hx]
def zi3 (c:Chip) (i k:Nat):Prop:=zc7 ((c.blk i).drop (k * c.sz))=true
theorem zi3.mono {c:Chip} {i k m:Nat} (h:zi3 c i k) (hkm:k≤m):zi3 c i m:=by
 unfold zi3 zc7 at *
 obtain ⟨d,rfl⟩:=Nat.exists_eq_add_of_le hkm
 rw [Nat.add_mul,← List.drop_drop]
 rw [List.all_eq_true] at h ⊢
 exact fun x hx=>h x (List.mem_of_mem_drop hx)
theorem zi3.page {c:Chip} (ho:c.Ok) {i k m:Nat} (hi:i<c.nb) (h:zi3 c i k) (hkm:k≤m) (hm:m<c.np):c.page i m=List.replicate c.sz 255:=by
 have h':=h.mono hkm
 have hlen:=ho.blk_len hi
 have hp:=xe5 hm
 unfold zi3 at h'
 have:=vq5 h'
 unfold Chip.page
 rw [this,List.take_replicate,List.length_drop,hlen]
 congr 1
 omega
theorem zi3.blk {c c':Chip} (hg:c.SameGeo c') {i k:Nat} (h:zi3 c i k) (hb:c'.blk i=c.blk i):zi3 c' i k:=by
 unfold zi3 at *
 rw [hb,hg.2.2.1];exact h
theorem xq5 {c c':Chip} (hg:c.SameGeo c') {i k:Nat} (hb:c'.blk i=c.blk i):c'.page i k=c.page i k:=by
 unfold Chip.page
 rw [hb,hg.2.2.1]
theorem zi3.of_blank {c:Chip} {i k:Nat} (h:zc7 (c.blk i)=true):zi3 c i k:=by
 have:zi3 c i 0:=by unfold zi3;simpa using h
 exact this.mono (Nat.zero_le _)
structure qn4 (c c':Chip) (i k e:Nat) (pg:List UInt8):Prop where
 deed:Deed c c' i e
 dead:c'.dead=if e=10 then true else c.dead
 sub:SubL pg (c'.page i k)
 ok:e=0→c'.page i k=pg
 other:∀ j,j≠k→c'.page i j=c.page i j
 open_:zi3 c' i (k+1)
 hits:c'.hits.length≤c.hits.length
 less:e≠0→c'.hits.length<c.hits.length
theorem uh0 (c:Chip):c.strike.1.hits.length≤c.hits.length∧(c.strike.2≠none→c.strike.1.hits.length<c.hits.length):=by
 unfold Chip.strike
 split
 ·simp
 ·rename_i h r he
  split
  ·simp
  ·simp [he]
theorem uk6 (c:Chip) (b:Nat) (h:Option Hit):(c.finish b h).1.hits=c.hits∧((c.finish b h).2≠0→h≠none):=by
 unfold Chip.finish
 split
 ·simp
 ·split<;>simp
theorem uf0 (c:Chip) (b off n:Nat) (new:List UInt8):(c.done b off n new).1.hits.length≤c.hits.length∧((c.done b off n new).2≠0→(c.done b off n new).1.hits.length<c.hits.length):=by
 unfold Chip.done
 obtain ⟨h1,h2⟩:=uh0 c
 obtain ⟨f1,f2⟩:=uk6 (c.strike.1.setBlk b ((c.blk b).take off ++ mixL c.strike.2 (((c.blk b).drop off).take n) new ++ (c.blk b).drop (off+n))) b c.strike.2
 rw [f1]
 exact ⟨h1,fun h=>h2 (f2 h)⟩
theorem vz5 {c:Chip} (hd0:c.dead=false) {i k:Nat} (hi:i<c.nb) (hk:k<c.np) (hb:c.isBad i=false) (hop:zi3 c i k) {pg:List UInt8} (hl:pg.length=c.sz):c.program i k pg=c.done i (k * c.sz) c.sz pg:=by
 have ha:c.ask i k=0:=yu0 hd0 hi hk
 unfold zi3 at hop
 unfold Chip.program
 rw [if_neg (by omega),if_neg (by omega)]
 simp only [Int.toNat_natCast]
 rw [if_neg (by rw [hb];simp),if_neg (by rw [hop];simp)]
theorem yq8 {c:Chip} (hok:c.Ok) (hd0:c.dead=false) {i k:Nat} (hi:i<c.nb) (hk:k<c.np) (hb:c.isBad i=false) (hop:zi3 c i k) {pg:List UInt8} (hl:pg.length=c.sz) :
  qn4 c (c.program i k pg).1 i k (c.program i k pg).2 pg:=by
 rw [vz5 hd0 hi hk hb hop hl]
 obtain ⟨hde,hblk,hdd⟩:=yy0 hok hi (off:=k * c.sz) (n:=c.sz) (xe5 hk) pg
 have hz:=@vj5 c i (k * c.sz) c.sz pg
 obtain ⟨hh1,hh2⟩:=uf0 c i (k * c.sz) c.sz pg
 generalize hr:c.done i (k * c.sz) c.sz pg=r at *
 have hlen:=hok.blk_len hi
 have hin:=xe5 hk
 have hpo:=hop.page hok hi (Nat.le_refl _) hk
 have hold:((c.blk i).drop (k * c.sz)).take c.sz=List.replicate c.sz 255:=hpo
 have hml:(mixL c.strike.2 (List.replicate c.sz 255) pg).length=c.sz:=by simp [zw4]
 have hb':r.1.blk i=(c.blk i).take (k * c.sz) ++ mixL c.strike.2 (List.replicate c.sz 255) pg ++ (c.blk i).drop (k * c.sz+c.sz):=by
  rw [hblk]
  unfold zz9
  rw [hold]
 have hpg:∀ j,r.1.page i j=if j=k then mixL c.strike.2 (List.replicate c.sz 255) pg else c.page i j:=by
  intro j
  show ((r.1.blk i).drop (j * r.1.sz)).take r.1.sz=_
  rw [hde.geo.2.2.1,hb',ux3 hml (by omega)]
  rfl
 refine ⟨hde,hdd,?_,fun h0=>?_,fun j hj=>by rw [hpg,if_neg hj],?_,hh1,hh2⟩
 ·rw [hpg,if_pos rfl];exact vp9 _ _ _ hl
 ·rw [hpg,if_pos rfl,hz h0,vg3 _ _ (by simp [hl])]
 ·unfold zi3
  rw [hde.geo.2.2.1,hb',Nat.succ_mul,List.drop_append_of_le_length (by simp;omega),List.drop_of_length_le (by simp;omega),List.nil_append]
  have:=hop.mono (Nat.le_succ k)
  unfold zi3 at this
  rwa [Nat.succ_mul] at this
theorem vo1 {P:Pool} {c:Chip} (hok:c.Ok) (hd0:c.dead=false) {i:Nat} (hi:i<c.nb) (hb:c.isBad i=false) (hbl:zc7 (c.blk i)=true) (kind:UInt8) (era:Nat) (hp:(zx0 c.sz ⟨kind,era,P.raise.last⟩).1.length=c.sz) :
  zi3 (zg3 P c i kind era).2.1 i 1∧(zg3 P c i kind era).2.1.hits.length≤c.hits.length:=by
 have hnp:=hok.np1
 have w:=yq8 hok hd0 hi (k:=0) (by omega) hb (zi3.of_blank hbl) hp
 exact ⟨w.open_,w.hits⟩
theorem yz1 {c:Chip} (hok:c.Ok) {P:Pool} {kind:UInt8} {era:Nat} (hk1:1≤kind.toNat) (hk3:kind.toNat≤3) (he1:1≤era) (hl:P.last+1<18446744073709551616):(zx0 c.sz ⟨kind,era,P.raise.last⟩).1.length=c.sz:=by
 have hlast:P.raise.last=P.last+1:=Nat.mod_eq_of_lt hl
 have hsz:zh0 (c.sz:Int)=true:=by
  have:=hok.sz1
  have:=hok.sz2
  simp [zh0];omega
 have hm:(Head.mk kind era (P.last+1)).may=true:=by
  simp [Head.may];omega
 have hput:zx0 c.sz ⟨kind,era,P.raise.last⟩= (zp9 c.sz 1 (Head.mk kind era (P.last+1)).body,0):=by
  unfold zx0
  rw [hlast,if_neg (by rw [hm,hsz];simp)]
  simp
 have hbody:=(Head.mk kind era (P.last+1)).body_length
 rw [hput]
 exact zt3 _ _ _ (by have:=hok.sz1;omega)
theorem vr3 {c:Chip} (hok:c.Ok) (hd0:c.dead=false) {i:Nat} (hi:i<c.nb) (hb:c.isBad i=false):(c.erase i).1.hits.length≤c.hits.length:=by
 rw [xj3 hok hd0 hi hb]
 exact (uf0 _ _ _ _ _).1
theorem qd3 {P:Pool} {c:Chip} (h:Inv P c) (hd0:c.dead=false) {i:Nat} (hi:i<c.nb) (hb:c.isBad i=false) (hw:(P.blk i).what≠2) {kind:UInt8} {era:Nat} (hk1:1≤kind.toNat) (hk3:kind.toNat≤3) (he1:1≤era) (hl:P.last+1<18446744073709551616) :
  (isHd (zo2 P c i kind era).2.1 i→zi3 (zo2 P c i kind era).2.1 i 1)∧(zo2 P c i kind era).2.1.hits.length≤c.hits.length:=by
 have hkn:=h.known hd0 i hi
 have hnh:¬ isHd c i:=fun e=>hw ((h.what hd0 hi).2 e)
 unfold zo2
 split
 ·rename_i h1
  obtain ⟨hde,hinv,hz,hk⟩:=xg1 h hd0 hi hb
  have hhe:=vr3 h.ci.ok hd0 hi hb
  split
  ·rename_i hne
   exact ⟨fun e=>absurd (hk e).1 hnh,hhe⟩
  ·rename_i heq
   have h0:(c.erase i).2=0:=Classical.byContradiction heq
   have hdd:(c.erase i).1.dead=c.dead∧(c.erase i).1.bad=c.bad:=by
    rcases hde.cases with ⟨_,a,b⟩| ⟨a,_⟩| ⟨a,_⟩
    ·exact ⟨a,b⟩
    ·omega
    ·omega
   have hnb:=hde.geo.1
   have hsz:=hde.geo.2.2.1
   have hh:=yz1 (c:=(c.erase i).1) (P:=P.relook (c.erase i).1 i) (kind:=kind) (era:=era) hde.ok hk1 hk3 he1 hl
   obtain ⟨w1,w2⟩:=vo1 (P:=P.relook (c.erase i).1 i) hde.ok (by rw [hdd.1];exact hd0) (by rw [hnb];exact hi) (by unfold Chip.isBad;rw [hdd.2];exact hb) (by rw [hz h0];exact zr4 _) kind era hh
   exact ⟨fun _=>w1,Nat.le_trans w2 hhe⟩
 ·rename_i h1
  have hbk:zc7 (c.blk i)=true:=by
   rw [hkn] at h1 hw
   exact xp1 (va6 hw h1)
  obtain ⟨w1,w2⟩:=vo1 (P:=P) h.ci.ok hd0 hi hb hbk kind era (yz1 h.ci.ok hk1 hk3 he1 hl)
  exact ⟨fun _=>w1,w2⟩
theorem xl8 {kind:UInt8} {era:Nat} (hk1:1≤kind.toNat) (hk3:kind.toNat≤3) (he1:1≤era) (he2:era<4294967296):∀ (ks:List Nat) {P:Pool} {c:Chip},Inv P c→c.dead=false→P.last+ks.length<18446744073709551616→
  (∀ j,j<c.nb→¬ isHd c j→isHd (zp3 kind era P c ks).chip j→zi3 (zp3 kind era P c ks).chip j 1)∧(zp3 kind era P c ks).chip.hits.length≤c.hits.length
 | [],P,c,h,hd0,hl=>⟨fun j _ hn hh=>absurd hh hn,Nat.le_refl _⟩
 | k :: ks,P,c,h,hd0,hl=>by
  have hnb:=h.ci.ok.nb1
  have hmod:(P.turn+k) % c.nb<c.nb:=Nat.mod_lt _ (by omega)
  simp only [List.length_cons] at hl
  unfold zp3
  split
  ·exact xl8 hk1 hk3 he1 he2 ks h hd0 (by omega)
  ·rename_i hno
   have hb:c.isBad ((P.turn+k) % c.nb)=false:=by
    cases hbb:c.isBad ((P.turn+k) % c.nb) with
    | false=>rfl
    | true=>exact absurd (.inl hbb) hno
   have hw:(P.blk ((P.turn+k) % c.nb)).what≠2:=fun e=>hno (.inr e)
   obtain ⟨o1,o2⟩:=qd3 h hd0 hmod hb hw hk1 hk3 he1 (by omega)
   have tr:=vs9 h hd0 hmod hb hw hk1 hk3 he1 he2 (by omega)
   generalize hi:(P.turn+k) % c.nb=i at *
   generalize hT:zo2 P c i kind era=T at *
   have one:∀ j,j<c.nb→¬ isHd c j→isHd T.2.1 j→zi3 T.2.1 j 1:=by
    intro j hj hn hh
    by_cases e:j=i
    ·subst e;exact o1 hh
    ·exact absurd ((yh7 tr.deed.geo (tr.deed.blk j e)).1 hh) hn
   split
   ·exact ⟨one,o2⟩
   split
   ·exact ⟨one,o2⟩
   ·rename_i h0 h10
    have hd1:T.2.1.dead=false:=by
     rcases tr.deed.cases with ⟨_,a,_⟩| ⟨_,a,_⟩| ⟨a,_⟩
     ·rw [a];exact hd0
     ·rw [a];exact hd0
     ·exact absurd a h10
    have hhi:=tr.hi
    obtain ⟨r1,r2⟩:=xl8 hk1 hk3 he1 he2 ks tr.inv hd1 (by omega)
    have tp:=yr2 hk1 hk3 he1 he2 ks tr.inv hd1 (by omega)
    refine ⟨fun j hj hn hh=>?_,Nat.le_trans r2 o2⟩
    have hj1:j<T.2.1.nb:=by rw [tr.deed.geo.1];exact hj
    by_cases hh1:isHd T.2.1 j
    ·exact (one j hj hn hh1).blk tp.geo (tp.kept j hj1 hh1).1
    ·exact r1 j hj1 hh1 hh
end Go.Den
namespace Go.Den
structure Turn where
 from_:UInt8
 to:UInt8
 phase:UInt8
 deriving DecidableEq
namespace Turn
def zero:Turn:=⟨0,0,0⟩
def body (t:Turn):List UInt8:=[t.from_,t.to,t.phase]
def vals (t:Turn):List Value:=[bv t.from_,bv t.to,bv t.phase]
def may (t:Turn):Bool:=((t.from_ == 1 && t.to == 2) || (t.from_ == 2 && t.to == 1)) && (t.phase == 1 || t.phase == 2)
end Turn
end Go.Den
namespace Go.Den
theorem vx7 {P:Pool} {c:Chip} (hok:c.Ok) (hd0:c.dead=false) {i:Nat} (hi:i<c.nb) (hb:c.isBad i=false) (hbl:zc7 (c.blk i)=true) {kind:UInt8} {era:Nat} (hk1:1≤kind.toNat) (hk3:kind.toNat≤3) (he1:1≤era) (he2:era<4294967296) (hl:P.last+1<18446744073709551616)
  (hh:isHd (zg3 P c i kind era).2.1 i):(hd (zg3 P c i kind era).2.1 i).1=⟨kind,era,P.last+1⟩:=by
 have hnp:=hok.np1
 have hlast:P.raise.last=P.last+1:=Nat.mod_eq_of_lt hl
 have hsz:zh0 (c.sz:Int)=true:=by
  have:=hok.sz1
  have:=hok.sz2
  simp [zh0];omega
 have hm:(Head.mk kind era (P.last+1)).may=true:=by
  simp [Head.may];omega
 have hput:zx0 c.sz ⟨kind,era,P.raise.last⟩= (zp9 c.sz 1 (Head.mk kind era (P.last+1)).body,0):=by
  unfold zx0
  rw [hlast,if_neg (by rw [hm,hsz];simp)]
  simp
 have hbody:=(Head.mk kind era (P.last+1)).body_length
 have w:=yq8 hok hd0 hi (k:=0) (by omega) hb (zi3.of_blank hbl) (yz1 hok (P:=P) hk1 hk3 he1 hl)
 have e:(zg3 P c i kind era).2.1=(c.program i ((0:Nat):Int) (zx0 c.sz ⟨kind,era,P.raise.last⟩).1).1:=rfl
 rw [e] at hh ⊢
 have hsub:=w.sub
 rw [hput] at hsub hh ⊢
 have hsound:xv7 (zp9 c.sz 1 (Head.mk kind era (P.last+1)).body):=yi6 (by have:=hok.sz1;omega) (by have:=hok.sz2;omega)
 have e2:=up6 hsub hsound (xa6 hh)
 have hhd:=xl3 hsz ⟨he2,hl⟩ hm
 show (zk7 _).1=_
 rw [e2,show (zp9 c.sz 1 (Head.mk kind era (P.last+1)).body)=zp9 (c.sz:Int).toNat 1 (Head.mk kind era (P.last+1)).body from rfl]
 exact congrArg Prod.fst hhd
theorem qh7 {P:Pool} {c:Chip} (h:Inv P c) (hd0:c.dead=false) {i:Nat} (hi:i<c.nb) (hb:c.isBad i=false) (hw:(P.blk i).what≠2) {kind:UInt8} {era:Nat} (hk1:1≤kind.toNat) (hk3:kind.toNat≤3) (he1:1≤era) (he2:era<4294967296) (hl:P.last+1<18446744073709551616)
  (hh:isHd (zo2 P c i kind era).2.1 i):(hd (zo2 P c i kind era).2.1 i).1=⟨kind,era,P.last+1⟩:=by
 have hkn:=h.known hd0 i hi
 have hnh:¬ isHd c i:=fun e=>hw ((h.what hd0 hi).2 e)
 revert hh
 unfold zo2
 split
 ·rename_i h1
  obtain ⟨hde,hinv,hz,hk⟩:=xg1 h hd0 hi hb
  split
  ·rename_i hne
   exact fun e=>absurd (hk e).1 hnh
  ·rename_i heq
   have h0:(c.erase i).2=0:=Classical.byContradiction heq
   have hdd:(c.erase i).1.dead=c.dead∧(c.erase i).1.bad=c.bad:=by
    rcases hde.cases with ⟨_,a,b⟩| ⟨a,_⟩| ⟨a,_⟩
    ·exact ⟨a,b⟩
    ·omega
    ·omega
   have hnb:=hde.geo.1
   exact vx7 (P:=P.relook (c.erase i).1 i) hde.ok (by rw [hdd.1];exact hd0) (by rw [hnb];exact hi) (by unfold Chip.isBad;rw [hdd.2];exact hb) (by rw [hz h0];exact zr4 _) hk1 hk3 he1 he2 hl
 ·rename_i h1
  have hbk:zc7 (c.blk i)=true:=by
   rw [hkn] at h1 hw
   exact xp1 (va6 hw h1)
  exact vx7 h.ci.ok hd0 hi hb hbk hk1 hk3 he1 he2 hl
theorem xt5 {kind:UInt8} {era:Nat} (hk1:1≤kind.toNat) (hk3:kind.toNat≤3) (he1:1≤era) (he2:era<4294967296):∀ (ks:List Nat) {P:Pool} {c:Chip},Inv P c→c.dead=false→P.last+ks.length<18446744073709551616→
  ∀ j,j<c.nb→¬ isHd c j→isHd (zp3 kind era P c ks).chip j→(hd (zp3 kind era P c ks).chip j).1.kind=kind∧(hd (zp3 kind era P c ks).chip j).1.era=era∧P.last<(hd (zp3 kind era P c ks).chip j).1.seq
 | [],P,c,h,hd0,hl=>fun j _ hn hh=>absurd hh hn
 | k :: ks,P,c,h,hd0,hl=>by
  have hnb:=h.ci.ok.nb1
  have hmod:(P.turn+k) % c.nb<c.nb:=Nat.mod_lt _ (by omega)
  simp only [List.length_cons] at hl
  unfold zp3
  split
  ·exact xt5 hk1 hk3 he1 he2 ks h hd0 (by omega)
  ·rename_i hno
   have hb:c.isBad ((P.turn+k) % c.nb)=false:=by
    cases hbb:c.isBad ((P.turn+k) % c.nb) with
    | false=>rfl
    | true=>exact absurd (.inl hbb) hno
   have hw:(P.blk ((P.turn+k) % c.nb)).what≠2:=fun e=>hno (.inr e)
   have o1:=qh7 h hd0 hmod hb hw hk1 hk3 he1 he2 (by omega)
   have tr:=vs9 h hd0 hmod hb hw hk1 hk3 he1 he2 (by omega)
   generalize hi:(P.turn+k) % c.nb=i at *
   generalize hT:zo2 P c i kind era=T at *
   have one:∀ j,j<c.nb→¬ isHd c j→isHd T.2.1 j→(hd T.2.1 j).1.kind=kind∧(hd T.2.1 j).1.era=era∧P.last<(hd T.2.1 j).1.seq:=by
    intro j hj hn hh
    by_cases e:j=i
    ·subst e
     rw [o1 hh]
     exact ⟨rfl,rfl,Nat.lt_succ_self _⟩
    ·exact absurd ((yh7 tr.deed.geo (tr.deed.blk j e)).1 hh) hn
   split
   ·exact one
   split
   ·exact one
   ·rename_i h0 h10
    have hd1:T.2.1.dead=false:=by
     rcases tr.deed.cases with ⟨_,a,_⟩| ⟨_,a,_⟩| ⟨a,_⟩
     ·rw [a];exact hd0
     ·rw [a];exact hd0
     ·exact absurd a h10
    have hhi:=tr.hi
    have hlo:=tr.lo
    have r1:=xt5 hk1 hk3 he1 he2 ks tr.inv hd1 (by omega)
    have tp:=yr2 hk1 hk3 he1 he2 ks tr.inv hd1 (by omega)
    intro j hj hn hh
    have hj1:j<T.2.1.nb:=by rw [tr.deed.geo.1];exact hj
    by_cases hh1:isHd T.2.1 j
    ·have e:=yo6 tp.geo (tp.kept j hj1 hh1).1
     rw [e]
     exact one j hj hn hh1
    ·obtain ⟨a,b,d⟩:=r1 j hj1 hh1 hh
     exact ⟨a,b,by omega⟩
theorem qa6 {P:Pool} {c:Chip} (h:Inv P c) (hd0:c.dead=false) (i:Int):(zd1 P c i).2.1.hits.length≤c.hits.length:=by
 by_cases hm:Mine c i
 ·unfold zd1
  split
  ·exact Nat.le_refl _
  ·have e:i=(i.toNat:Int):=by have:=hm.1;omega
   rw [e]
   exact vr3 h.ci.ok hd0 (by have:=hm.2.1;omega) hm.2.2.2
 ·rw [qf5 h hd0 hm]
  exact Nat.le_refl _
theorem cGeo {F:Nat→Prop} {A:Nat} {w:World} {p:Nat} {c:Chip} (h:CIn F A w p c) :
  za0 prog K.ze2 #[.pointer (some ⟨p,0,none⟩)] w fun v w'=>v= .agg #[.int .i64 c.nb,.int .i64 c.np,.int .i64 c.sz,.int .i64 c.sp]∧Ext w w':=by
 obtain ⟨L,G,hr,_⟩:=h
 exact yc2 hr
theorem ul8 {F:Nat→Prop} {A:Nat} {w:World} {p:Nat} {c:Chip} (h:CIn F A w p c) (block page:Int) :
  za0 prog K.zf1 #[.pointer (some ⟨p,0,none⟩),.int .i64 block,.int .i64 page] w fun v w'=>Ext w w'∧
   if c.ask block page=0 then ∃ a cp,v= .tuple #[.slice a c.sz cp,.int .i64 0]∧za4 w' a (c.page block.toNat page.toNat)∧c.sz≤cp∧zm9 w a
   else v= .tuple #[.slice none 0 0,.int .i64 (c.ask block page:Nat)]:=by
 obtain ⟨L,G,hr,_⟩:=h
 exact yh0 hr block page
theorem qk0 {F:Nat→Prop} {A:Nat} {w:World} {p:Nat} {c:Chip} (h:CIn F A w p c) (hd0:c.dead=false) {i k:Nat} (hi:i<c.nb) (hk:k<c.np) :
  za0 prog K.zf1 #[.pointer (some ⟨p,0,none⟩),.int .i64 i,.int .i64 k] w fun v w'=>Ext w w'∧∃ a cp,v= .tuple #[.slice a (c.page i k).length cp,.int .i64 0]∧za4 w' a (c.page i k)∧(c.page i k).length≤cp∧zm9 w a:=by
 refine (ul8 h i k).mono ?_
 rintro v w' ⟨he,hv⟩
 rw [if_pos (yu0 hd0 hi hk)] at hv
 obtain ⟨a,cp,rfl,hb,hc,hf⟩:=hv
 simp only [Int.toNat_natCast] at hb
 rw [← yt5 h.ok hi hk]
 exact ⟨he,a,cp,rfl,hb,by rw [yt5 h.ok hi hk];exact hc,hf⟩
structure zr7 where
 page:Int
 changes:List zb2
 drop:Nat
def u64R:ERep Nat:=ut8 (fun x=>[.int .u64 (x:Nat)]) 1 (by decide) (fun _=>rfl) (fun b v hv=>by simp at hv;rw [hv];rfl)
def yu4:ERep zr7:=ERep.pair intR (ERep.pair (un2 zc4) u64R (fun x:List zb2×Nat=>x.1) (fun x=>x.2)) (fun x:zr7=>x.page) (fun x=>(x.changes,x.drop))
abbrev xw9 (n:Int) (a:Option Addr) (l c:Nat) (d:Nat):List Value:=[.int .i64 n,.slice a l c,.int .u64 d]
theorem vf7 {w:World} {G:Nat→Prop} {x:zr7} {a:Option Addr} {c:Nat} (hc:x.changes.length≤c) (h:zb0 zc4 w G a x.changes):yu4.R w G (xw9 x.page a x.changes.length c x.drop) x :=
 ⟨[.int .i64 x.page],[.slice a x.changes.length c,.int .u64 (x.drop:Nat)],rfl,rfl,[.slice a x.changes.length c],[.int .u64 (x.drop:Nat)],rfl,⟨a,c,rfl,hc,h⟩,rfl⟩
theorem xj0 {w:World} {G:Nat→Prop} {x:zr7} {vs:List Value} (h:yu4.R w G vs x):∃ a c,vs=xw9 x.page a x.changes.length c x.drop∧x.changes.length≤c∧zb0 zc4 w G a x.changes:=by
 obtain ⟨u,v,rfl,hu,s,t,rfl,⟨a,c,hs,hc,hb⟩,ht⟩:=h
 have hu':u=[.int .i64 x.page]:=hu
 have ht':t=[.int .u64 (x.drop:Nat)]:=ht
 have hs':s=[.slice a x.changes.length c]:=hs
 subst hu';subst ht';subst hs'
 exact ⟨a,c,rfl,hc,hb⟩
def yb3 (n:Int) (b:List UInt8):Option zr7 :=
 if (zc2 b).2.2≠0 then none
 else if (zc2 b).1=2 then (if (getS (zc2 b).2.1).2=0 then some ⟨n,(getS (zc2 b).2.1).1,0⟩ else none)
 else if (zc2 b).1=3 then (if (yi1 (zc2 b).2.1).2=0 then some ⟨n,[],(yi1 (zc2 b).2.1).1⟩ else none)
 else none
theorem vh8 (b:List UInt8):(zc2 b).2.1.length≤b.length:=by
 unfold zc2
 repeat' split
 all_goals simp
 all_goals omega
theorem un6 {u:World} {B1 B2:Nat} {cs:Array Value} {n:Int} {a:Option Addr} {l c:Nat} {d:Nat} {b:Bool} {R:Value→World→Prop} (g1:u.heap[B1]?=some (.cells cs T.zm7 (0,0))) (hcs:cs.size=3) (g2:u.heap[B2]?=some (.cells (xw9 n a l c d).toArray T.zm7 (0,0)))
  (hR:∀ u',Upd (·=B1) u u'→R (.tuple #[.agg #[.int .i64 n,.slice a l c,.int .u64 d],.bool b]) u') :
  ∃ x:Int,∃ (a':Option Addr) (n' c':Nat),∃ y:Int,za3 u ⟨B2,0,none⟩ [.int .i64 x,.slice a' n' c',.int .u64 y] 0∧za5 u ⟨B1,0,none⟩ [.int .i64 x,.slice a' n' c',.int .u64 y] fun w' =>
   ∃ x:Int,∃ (a':Option Addr) (n' c':Nat),∃ y:Int,za3 w' ⟨B1,0,none⟩ [.int .i64 x,.slice a' n' c',.int .u64 y] 0∧R (.tuple #[.agg #[.int .i64 x,.slice a' n' c',.int .u64 y],.bool b]) w' :=
 ⟨_,_,_,_,_,zz3 g2,ui1 g1 (by rw [hcs];rfl) fun w' hu _ hg=>⟨_,_,_,_,_,zz3 hg,hR w' hu⟩⟩
def xh6 (w w':World) (v:Value) (o:Option zr7):Prop:=Ext w w'∧∃ (m:Int) (a:Option Addr) (l c d:Nat) (b:Bool),v= .tuple #[.agg #[.int .i64 m,.slice a l c,.int .u64 d],.bool b]∧b=o.isSome∧
 ∀ P,o=some P→m=P.page∧d=P.drop∧l=P.changes.length∧l≤c∧∃ G,zb0 zc4 w' G a P.changes∧∀ x,G x→w.heap.size≤x∧x<w'.heap.size
theorem xh6.none {w w':World} {o:Option zr7} (ho:o= .none) (h:Ext w w') {m:Int} {a:Option Addr} {l c d:Nat} {b:Bool} (hb:b=false):xh6 w w' (.tuple #[.agg #[.int .i64 m,.slice a l c,.int .u64 d],.bool b]) o:=by
 subst ho
 exact ⟨h,m,a,l,c,d,b,rfl,hb,fun P hP=>by cases hP⟩
theorem vm0 {w:World} {n:Int} {a:Option Addr} {b:List UInt8} {c:Nat} (hb:za4 w a b) (hc:b.length≤c) (hn:b.length≤100000) :
  za0 prog K.yg7 #[.int .i64 n,.slice a b.length c] w fun v w'=>xh6 w w' v (yb3 n b):=by
 apply yg7.sh
 suffices H:∀ R:Value→World→Prop,(∀ v w',xh6 w w' v (yb3 n b)→R v w')→yg7.body n a b.length c w R from H _ fun _ _ h=>h
 intro R hR
 unfold yg7.body
 simp only [add_lit,Nat.zero_add]
 intro B1 w₁ hn1
 have hb1:B1=w.heap.size:=hn1.num
 have hs1:=hn1.size
 refine (xq0 (hb.ext hn1.upd) hc).mono ?_
 rintro _ w₂ ⟨he2,a2,c2,rfl,hb2,hc2⟩
 have hs2:=he2.size
 have hlen:=vh8 b
 have g2:=Ext.get he2 hn1.get
 have hS:yb3 n b=yb3 n b:=rfl
 conv at hS=>rhs;unfold yb3
 refine ⟨_,_,_,_,_,rfl,zu7 (vs:=xw9 n none 0 0 0) rfl fun B2 w₄ hb4 hs4 he4 g4=>?_⟩
 have e4:Ext w w₄:=(hn1.upd.trans he2).trans he4
 have g14:=Ext.get he4 g2
 have own:∀ {u u':World},Ext w u→Upd (·=B1) u u'→Ext w u':=fun h k=>h.beyond k fun x hx=>by omega
 refine zg8 (fun hne=>?_) fun he=>?_
 ·rw [if_pos (by omega)] at hS
  exact un6 g14 rfl g4 fun u' hu=>hR _ _ (xh6.none hS (own e4 hu) (by simpa using hne))
 rw [if_neg (by omega)] at hS
 refine zi1 (fun h2=>?_) fun h2=>?_
 ·have k2:(zc2 b).1=2:=UInt8.toNat_inj.1 (by have:((zc2 b).1.toNat:Int)=2:=h2;show (zc2 b).1.toNat=2;omega)
  rw [if_pos k2] at hS
  refine (vz2 (hb2.ext he4) (by omega)).mono ?_
  rintro _ w₆ ⟨a6,c6,rfl,hl6,he6⟩
  have hs6:=he6.size
  refine ⟨_,_,_,_,rfl,zc8 (Ext.get he6 g4) (by simp) fun w₇ hp7=>?_⟩
  have hu7:=hp7.upd1
  have e7:Ext w w₇:=(e4.trans he6).beyond hu7 fun x hx=>by omega
  refine un6 (hu7.get (Ext.get he6 g14) (by omega)) rfl hp7.get fun u' hu=>hR _ _ ?_
  by_cases hz:(getS (zc2 b).2.1).2=0
  ·rw [if_pos hz] at hS
   refine ⟨own e7 hu,_,_,_,_,_,_,rfl,by rw [hS,hz];rfl,fun P hP=>?_⟩
   rw [hS] at hP
   cases hP
   refine ⟨rfl,rfl,rfl,hl6.cap,?_⟩
   have hlu:=(hl6.upd hu7 fun x hx=>⟨by omega,fun h=>h⟩).upd hu fun x hx=>⟨by omega,fun h=>h⟩
   obtain ⟨G,h1,h2⟩:=hlu.slice
   exact ⟨G,h1,fun x hx=>⟨by have h5:=(h2 x hx).1;have h6:=e4.size;rcases h5 with h | h;exact Nat.le_trans h6 h;exact h.elim,(h2 x hx).2⟩⟩
  ·rw [if_neg hz] at hS
   exact xh6.none hS (own e7 hu) (by simpa using hz)
 have k2:¬ (zc2 b).1=2:=fun h=>h2 (by show ((zc2 b).1.toNat:Int)=2;rw [h];rfl)
 rw [if_neg k2] at hS
 refine zi1 (fun h3=>?_) fun h3=>?_
 ·have k3:(zc2 b).1=3:=UInt8.toNat_inj.1 (by have:((zc2 b).1.toNat:Int)=3:=h3;show (zc2 b).1.toNat=3;omega)
  rw [if_pos k3] at hS
  refine (xz3 (hb2.ext he4) (by omega)).mono ?_
  rintro _ w₆ ⟨rfl,he6⟩
  have hs6:=he6.size
  refine ⟨_,_,rfl,zc8 (Ext.get he6 g4) (by simp) fun w₇ hp7=>?_⟩
  have hu7:=hp7.upd1
  have e7:Ext w w₇:=(e4.trans he6).beyond hu7 fun x hx=>by omega
  refine un6 (d:=(yi1 (zc2 b).2.1).1) (hu7.get (Ext.get he6 g14) (by omega)) rfl hp7.get fun u' hu=>hR _ _ ?_
  by_cases hz:(yi1 (zc2 b).2.1).2=0
  ·rw [if_pos hz] at hS
   refine ⟨own e7 hu,_,_,_,_,_,_,rfl,by rw [hS,hz];rfl,fun P hP=>?_⟩
   rw [hS] at hP
   cases hP
   exact ⟨rfl,rfl,rfl,Nat.le_refl _,NoB,zb0.nil _ _ _,fun _ h=>h.elim⟩
  ·rw [if_neg hz] at hS
   exact xh6.none hS (own e7 hu) (by simpa using hz)
 ·have k3:¬ (zc2 b).1=3:=fun h=>h3 (by show ((zc2 b).1.toNat:Int)=3;rw [h];rfl)
  rw [if_neg k3] at hS
  exact un6 g14 rfl g4 fun u' hu=>hR _ _ (xh6.none hS (own e4 hu) rfl)
def zk8 (c:Chip) (i k:Nat):List zr7:=(List.range k).filterMap fun k:Nat=>if k=0 then none else yb3 k (c.page i k)
def zk1 (c:Chip) (i:Nat):List zr7:=zk8 c i c.np
theorem ys0 (c:Chip) (i:Nat):zk8 c i 1=[]:=rfl
theorem zx9 (c:Chip) (i k:Nat) (hk:1≤k):zk8 c i (k+1)=zk8 c i k ++ (yb3 k (c.page i k)).toList:=by
 unfold zk8
 rw [List.range_succ,List.filterMap_append]
 congr 1
 rw [List.filterMap_cons,if_neg (by omega)]
 cases yb3 k (c.page i k)<;>rfl
theorem zz8 (c:Chip) (i k:Nat):(zk8 c i k).length≤k:=by
 have:=List.length_filterMap_le (fun k:Nat=>if k=0 then none else yb3 k (c.page i k)) (List.range k)
 simpa [zk8] using this
theorem qb9 {c:Chip} {i j:Int} (h:c.ask i j=0):c.dead=false∧0≤i∧i<c.nb∧0≤j∧j<c.np:=by
 unfold Chip.ask at h
 split at h
 ·cases h
 ·rename_i hd
  split at h
  ·cases h
  ·rename_i hx
   refine ⟨by simpa using hd,?_⟩
   omega
def yz3 (c:Chip) (block:Int):List zr7:=if c.ask block 0=0 then zk1 c block.toNat else []
theorem vd1 {F:Nat→Prop} {A:Nat} {w:World} {p:Nat} {c:Chip} (h:CIn F A w p c) (block:Int) :
  za0 prog K.yd1 #[.pointer (some ⟨p,0,none⟩),.int .i64 block] w fun v w'=>ya4 yu4 T.zm7 w w' v (yz3 c block) (c.ask block 0):=by
 apply yd1.sh
 suffices H:∀ R:Value→World→Prop,(∀ v w',ya4 yu4 T.zm7 w w' v (yz3 c block) (c.ask block 0)→R v w')→yd1.body (some ⟨p,0,none⟩) block w R from H _ fun _ _ h=>h
 intro R hR
 unfold yd1.body
 refine (ul8 h block 0).mono ?_
 rintro v w₁ ⟨he1,hv⟩
 have hs1:=he1.size
 by_cases h0:c.ask block 0=0
 ·rw [if_pos h0] at hv
  obtain ⟨a,cp,rfl,_⟩:=hv
  obtain ⟨hd0,hb0,hb1,_,hp1⟩:=qb9 h0
  obtain ⟨i,rfl⟩: ∃ i:Nat,block=i:=⟨block.toNat,by omega⟩
  have hok:=h.ok
  have hnp:=hok.np2
  have hnp1:=hok.np1
  refine ⟨_,_,_,_,rfl,zg8 (fun hne=>absurd rfl hne) fun _=>?_⟩
  refine ⟨fun a l cc x u=>∃ k:Nat,x=k∧1≤k∧k≤c.np∧l=(zk8 c i k).length∧zb4 yu4 NoB w.heap.size u a cc T.zm7 (zk8 c i k)∧Ext w u∧w₁.heap.size≤u.heap.size,fun _ _ _ x _=>((c.np:Int) - x).toNat,
   ⟨1,rfl,Nat.le_refl _,by omega,rfl,zb4.nil _ _,he1,Nat.le_refl _⟩,?_⟩
  rintro a1 l1 c1 x u ⟨k,rfl,hk1,hk,rfl,hl,heu,hsu⟩
  have hcu:=h.ext heu
  have hlen:=zz8 c i k
  refine (cGeo hcu).mono ?_
  rintro _ w₃ ⟨rfl,he3⟩
  have e3:=heu.trans he3
  refine ⟨_,_,_,_,rfl,za8 (fun hlt=>?_) fun hge=>?_⟩
  ·have hk':k<c.np:=by omega
   refine (qk0 (h.ext e3) hd0 (by omega:i<c.nb) hk').mono ?_
   rintro _ w₄ ⟨he4,a4,c4,rfl,hb4,hc4,hf4⟩
   have hsz:=yt5 hok (by omega:i<c.nb) hk'
   have hsz2:=hok.sz2
   refine ⟨_,_,_,_,rfl,(vm0 hb4 hc4 (by omega)).mono ?_⟩
   rintro _ w₅ ⟨he5,m,a5,l5,c5,d5,b5,rfl,hb5,hP⟩
   have e5:=(e3.trans he4).trans he5
   refine ⟨_,_,_,_,_,_,rfl,zu7 (vs:=xw9 m a5 l5 c5 d5) rfl fun B1 w₇ hb7 hs7 he7 g7=>?_⟩
   have ew:IntKind.i64.wrap ((k:Int)+1)=((k+1:Nat):Int):=w64 (by omega) (by omega)
   simp only [ew]
   have hl7:zb4 yu4 NoB w.heap.size w₇ a1 c1 T.zm7 (zk8 c i k):=(((hl.ext he3).ext he4).ext he5).ext he7
   have hs3:=he3.size
   have hs4:=he4.size
   have hs5:=he5.size
   have hs0:=heu.size
   refine zc0 (fun hb=>?_) fun hb=>?_
   ·rw [hb5] at hb
    obtain ⟨P,hPs⟩:=Option.isSome_iff_exists.1 hb
    obtain ⟨rfl,rfl,rfl,hlc,G,hG1,hG2⟩:=hP P hPs
    have hsucc:zk8 c i (k+1)=zk8 c i k ++ [P]:=by rw [zx9 c i k hk1,hPs];rfl
    refine ⟨_,_,_,_,_,zz3 g7,fun B2 w₈ hn8=>?_⟩
    have he8:=hn8.upd
    have hs8:=hn8.size
    refine zb4.push (r:=yu4) (H:=G) (x:=P) (hl7.ext he8) (vf7 hlc ((hG1.ext he7).ext he8)) (fun b hb=>⟨.inl (by have:=hG2 b hb;omega),by have:=hG2 b hb;omega,fun hab=>?_⟩) hn8 rfl rfl (by omega) (by omega) (by omega) fun a' c' w₉ hu9 hl9=>?_
    ·have:=hG2 b hb
     have:=hl.lt hab
     omega
    ·rw [← hsucc] at hl9 ⊢
     exact ⟨⟨k+1,rfl,by omega,hk',rfl,hl9,Ext.own ((e5.trans he7).trans he8) hu9 (Nat.le_refl _),by have:=hu9.size;omega⟩,meas hk'⟩
   ·have hPn:yb3 k (c.page i k)=none:=by rw [hb5] at hb;simpa using hb
    have hsucc:zk8 c i (k+1)=zk8 c i k:=by rw [zx9 c i k hk1,hPn];simp
    refine ⟨⟨k+1,rfl,by omega,hk',by rw [hsucc],by rw [hsucc];exact hl7,e5.trans he7,by omega⟩,meas hk'⟩
  ·have hk':k=c.np:=by omega
   subst hk'
   refine hR _ _ ⟨a1,c1,?_,?_,e3⟩
   ·unfold yz3;rw [if_pos h0,h0];rfl
   ·unfold yz3;rw [if_pos h0];exact hl.ext he3
 ·rw [if_neg h0] at hv
  subst hv
  refine ⟨_,_,_,_,rfl,zg8 (fun hne=>?_) fun he=>absurd he (by omega)⟩
  exact hR _ _ (ya4.none (by unfold yz3;rw [if_neg h0]) he1)
theorem ux4 {n:Int} {b:List UInt8} (h0:(zc2 b).2.2=0) (h2:(zc2 b).1=2):yb3 n b=if (getS (zc2 b).2.1).2=0 then some ⟨n,(getS (zc2 b).2.1).1,0⟩ else none:=by
 unfold yb3
 rw [if_neg (by omega),if_pos h2]
theorem uj0 {n:Int} {b:List UInt8} (h0:(zc2 b).2.2=0) (h3:(zc2 b).1=3):yb3 n b=if (yi1 (zc2 b).2.1).2=0 then some ⟨n,[],(yi1 (zc2 b).2.1).1⟩ else none:=by
 unfold yb3
 rw [if_neg (by omega),if_neg (by rw [h3];decide),if_pos h3]
theorem uj2 {n:Int} {b:List UInt8} (h2:(zc2 b).1≠2) (h3:(zc2 b).1≠3):yb3 n b=none:=by
 unfold yb3
 rw [if_neg h2,if_neg h3]
 split<;>rfl
theorem vh3 {x:UInt8} {n:Nat} (hn:n<256) (h:(x.toNat:Int)=n):x=UInt8.ofNat n:=by
 apply UInt8.toNat_inj.1
 rw [UInt8.toNat_ofNat']
 omega
theorem uo6 {x:UInt8} {n:Nat} (hn:n<256) (h:(x.toNat:Int)≠n):x≠UInt8.ofNat n:=by
 rintro rfl
 apply h
 rw [UInt8.toNat_ofNat']
 omega
theorem yk6 {F:Nat→Prop} {A:Nat} {w:World} {p:Nat} {c:Chip} (h:CIn F A w p c) (hd0:c.dead=false) {i:Nat} (hi:i<c.nb) :
  za0 prog K.zi7 #[.pointer (some ⟨p,0,none⟩),.int .i64 i] w fun v w'=>∃ a cap,v= .slice a (zk1 c i).length cap∧zb4 yu4 NoB w.heap.size w' a cap T.zm7 (zk1 c i)∧Ext w w':=by
 apply zi7.sh
 suffices H:∀ R:Value→World→Prop,(∀ v w',(∃ a cap,v= .slice a (zk1 c i).length cap∧zb4 yu4 NoB w.heap.size w' a cap T.zm7 (zk1 c i)∧Ext w w')→R v w')→zi7.body (some ⟨p,0,none⟩) i w R from H _ fun _ _ h=>h
 intro R hR
 unfold zi7.body
 have hok:=h.ok
 have hnp:=hok.np2
 have hnp1:=hok.np1
 have hsz2:=hok.sz2
 refine ⟨fun a l cc x u=>∃ k:Nat,x=k∧1≤k∧k≤c.np∧l=(zk8 c i k).length∧zb4 yu4 NoB w.heap.size u a cc T.zm7 (zk8 c i k)∧Ext w u,fun _ _ _ x _=>((c.np:Int) - x).toNat,
  ⟨1,rfl,Nat.le_refl _,by omega,rfl,zb4.nil _ _,Upd.refl _ _⟩,?_⟩
 rintro a1 l1 c1 x u ⟨k,rfl,hk1,hk,rfl,hl,heu⟩
 have hlen:=zz8 c i k
 refine (cGeo (h.ext heu)).mono ?_
 rintro _ w₂ ⟨rfl,he2⟩
 have e2:=heu.trans he2
 refine ⟨_,_,_,_,rfl,za8 (fun hlt=>?_) fun hge=>?_⟩
 ·have hk':k<c.np:=by omega
  have ew:IntKind.i64.wrap ((k:Int)+1)=((k+1:Nat):Int):=w64 (by omega) (by omega)
  simp only [ew]
  refine (qk0 (h.ext e2) hd0 hi hk').mono ?_
  rintro _ w₃ ⟨he3,a3,c3,rfl,hb3,hc3,hf3⟩
  have hsz:=yt5 hok hi hk'
  refine ⟨_,_,_,_,rfl,(yo9 hb3 hc3).mono ?_⟩
  rintro _ w₄ ⟨he4,a4,c4,rfl,hb4,hc4⟩
  have hs0:=heu.size
  have hs2:=he2.size
  have hs3:=he3.size
  have hs4:=he4.size
  have e4:=(e2.trans he3).trans he4
  have hl4:zb4 yu4 NoB w.heap.size w₄ a1 c1 T.zm7 (zk8 c i k):=((hl.ext he2).ext he3).ext he4
  have hbl:=vh8 (c.page i k)
  have same:∀ {u':World},yb3 k (c.page i k)=none→Ext w₄ u'→(∃ k':Nat,((k+1:Nat):Int)=k'∧1≤k'∧k'≤c.np∧(zk8 c i k).length=(zk8 c i k').length∧zb4 yu4 NoB w.heap.size u' a1 c1 T.zm7 (zk8 c i k')∧Ext w u')∧((c.np:Int) - ((k+1:Nat):Int)).toNat<((c.np:Int) - (k:Int)).toNat:=by
   intro u' hP he
   have hsucc:zk8 c i (k+1)=zk8 c i k:=by rw [zx9 c i k hk1,hP];simp
   exact ⟨⟨k+1,rfl,by omega,hk',by rw [hsucc],by rw [hsucc];exact hl4.ext he,e4.trans he⟩,meas hk'⟩
  have more:∀ {u':World} {P:zr7} {B cp:Nat} {a5:Option Addr} {G:Nat→Prop} {w₀:World} {K:Option Addr→Nat→Nat→World→Prop},yb3 k (c.page i k)=some P→Ext w₄ w₀→P.changes.length≤cp→zb0 zc4 w₀ G a5 P.changes→(∀ x,G x→w₄.heap.size≤x∧x<w₀.heap.size)→
    New w₀ (.cells (xw9 P.page a5 P.changes.length cp P.drop).toArray T.zm7) B u'→(∀ a' c' w',((∃ k':Nat,((k+1:Nat):Int)=k'∧1≤k'∧k'≤c.np∧(zk8 c i k ++ [P]).length=(zk8 c i k').length∧zb4 yu4 NoB w.heap.size w' a' c' T.zm7 (zk8 c i k')∧Ext w w')∧((c.np:Int) - ((k+1:Nat):Int)).toNat<((c.np:Int) - (k:Int)).toNat)→K a' (zk8 c i k ++ [P]).length c' w')→
    zb5 T.zm7 3 40 [.int .i64 0,.slice none 0 0,.int .u64 0] a1 (zk8 c i k).length c1 (.slice (some ⟨B,0,none⟩) 1 1) u' K:=by
   intro u' P B cp a5 G w₀ K hP he hcp hsl hG hn hK
   have hsucc:zk8 c i (k+1)=zk8 c i k ++ [P]:=by rw [zx9 c i k hk1,hP];rfl
   have hsn:=hn.size
   have hse:=he.size
   refine zb4.push (r:=yu4) (H:=G) (x:=P) ((hl4.ext he).ext hn.upd) (vf7 hcp (hsl.ext hn.upd)) (fun b hb=>⟨.inl (by have:=hG b hb;omega),by have:=hG b hb;omega,fun hab=>?_⟩) hn rfl rfl (by omega) (by omega) (by omega) fun a' c' w' hu' hl'=>hK a' c' w' ?_
   ·have:=hG b hb
    have:=hl4.lt hab
    omega
   ·rw [← hsucc] at hl' ⊢
    exact ⟨⟨k+1,rfl,by omega,hk',rfl,hl',Ext.own ((e4.trans he).trans hn.upd) hu' (Nat.le_refl _)⟩,meas hk'⟩
  refine ⟨_,_,_,_,_,rfl,zg8 (fun hne=>?_) fun he0=>?_⟩
  ·exact same (by unfold yb3;rw [if_pos (by omega)]) (Upd.refl _ _)
  have he0':(zc2 (c.page i k)).2.2=0:=by omega
  refine zi1 (fun h2=>?_) fun h2=>?_
  ·have k2:(zc2 (c.page i k)).1=2:=vh3 (n:=2) (by decide) h2
   have hpg:=ux4 (n:=k) he0' k2
   have k3:¬ (((zc2 (c.page i k)).1.toNat:Nat):Int)=3:=by rw [h2];decide
   refine (xg8 hb4 (by omega)).mono ?_
   rintro _ w₅ ⟨a5,c5,rfl,hl5,he5⟩
   refine ⟨_,_,_,_,rfl,zi1 (fun hz=>?_) fun hz=>?_⟩
   ·rw [if_pos (by omega)] at hpg
    intro B1 w₆ hn6
    obtain ⟨G,hG1,hG2⟩:=hl5.slice
    refine more (P:=⟨k,(getS (zc2 (c.page i k)).2.1).1,0⟩) hpg he5 hl5.cap hG1 (fun x hx=>⟨by rcases (hG2 x hx).1 with h | h;exact h;exact h.elim,(hG2 x hx).2⟩) hn6 fun a' c' w' hK=>zi1 (fun h3=>absurd h3 k3) fun _=>hK
   ·rw [if_neg (by omega)] at hpg
    exact zi1 (fun h3=>absurd h3 k3) fun _=>same hpg he5
  ·have k2:(zc2 (c.page i k)).1≠2:=uo6 (n:=2) (by decide) h2
   refine zi1 (fun h3=>?_) fun h3=>?_
   ·have k3:(zc2 (c.page i k)).1=3:=vh3 (n:=3) (by decide) h3
    have hpg:=uj0 (n:=k) he0' k3
    refine (yv4 hb4 hc4).mono ?_
    rintro _ w₅ ⟨rfl,he5⟩
    refine ⟨_,_,rfl,zi1 (fun hz=>?_) fun hz=>?_⟩
    ·rw [if_pos (by omega)] at hpg
     intro B1 w₆ hn6
     exact more (P:=⟨k,[],(yi1 (zc2 (c.page i k)).2.1).1⟩) (G:=NoB) hpg he5 (Nat.le_refl _) (zb0.nil _ _ _) (fun x hx=>hx.elim) hn6 fun a' c' w' hK=>hK
    ·rw [if_neg (by omega)] at hpg
     exact same hpg he5
   ·have k3:(zc2 (c.page i k)).1≠3:=uo6 (n:=3) (by decide) h3
    exact same (uj2 k2 k3) (Upd.refl _ _)
 ·have hk':k=c.np:=by omega
  subst hk'
  exact hR _ _ ⟨a1,c1,rfl,hl.ext he2,e2⟩
theorem vy3 {a l:List UInt8} {k:Nat} (h:a.length=k):zj7 k (some (a ++ l))=(zd0 a,0,some l):=by
 unfold zj7
 simp only
 rw [if_neg (by simp;omega)]
 subst h
 simp
theorem ofNat_toNat {n:Nat} (h:n<256):(UInt8.ofNat n).toNat=n:=by
 rw [UInt8.toNat_ofNat']
 exact Nat.mod_eq_of_lt h
theorem yw1 (b:UInt8) (l:List UInt8):zj7 1 (some (b :: l))=(b.toNat,0,some l):=by
 have:=vy3 (a:=[b]) (l:=l) (k:=1) rfl
 rw [vq9] at this
 exact this
theorem un4 {a l:List UInt8} (h:a.length<256):rowS (some (UInt8.ofNat a.length :: (a ++ l)))=(a,0,some l):=by
 unfold rowS
 rw [yw1,if_pos rfl,ofNat_toNat h]
 unfold cutS
 simp only
 rw [if_neg (by simp)]
 simp
theorem uz1 (k:Key):(⟨k.bytes.toArray⟩: ByteArray)=k.name:=by
 obtain ⟨_,_,⟨⟨a⟩⟩,_⟩:=k
 rfl
theorem xj4 {k:Key} (h:k.bytes=[]):k.name=ByteArray.empty:=by
 rw [← uz1,h];rfl
theorem uc4 {k:Key} (h:k.may=true) (l:List UInt8):keyS (some (keyB k ++ l))=(k,0,some l):=by
 obtain ⟨h1,h2,h3⟩:=Key.may_elim h
 have hino:zd0 (leB k.ino.toNat 2)=k.ino.toNat:=ym5 2 _ (by omega)
 have hfin:ys3 k (some l)=(k,0,some l):=by unfold ys3;rw [if_pos h]
 have hin:((k.ino.toNat:Nat):Int)=k.ino:=by omega
 unfold keyS keyB
 rw [List.append_assoc,List.append_assoc,vy3 (zf3 2 _),hino]
 simp only [List.cons_append,List.nil_append]
 rw [yw1]
 simp only
 rcases h3 with ⟨w,hb,hc⟩| ⟨w,hn,hc⟩| ⟨w,hb,hc,hc2⟩
 ·have hk:(⟨(k.ino.toNat:Nat),UInt8.ofNat k.what.toNat,ByteArray.empty,0⟩: Key)=k:=by
   rw [← xj4 hb,← hc,hin]
   simp
  rw [w]
  simp only [show ((1:UInt8)=2)=False by simp,show ((1:UInt8)=3)=False by simp,if_false,List.nil_append]
  rw [if_neg (by decide),if_neg (by decide),if_neg (by decide)]
  rw [w] at hk
  rw [hk,hfin]
 ·have hl:=yx3 hn
  have hk:(⟨(k.ino.toNat:Nat),UInt8.ofNat k.what.toNat,⟨k.bytes.toArray⟩,0⟩: Key)=k:=by
   rw [uz1,← hc,hin]
   simp
  rw [w]
  simp only [if_true,List.cons_append]
  rw [if_neg (by decide),if_pos (by decide),un4 (by omega)]
  simp only
  rw [if_neg (by decide)]
  rw [w] at hk
  rw [hk,hfin]
 ·have hk:(⟨(k.ino.toNat:Nat),UInt8.ofNat k.what.toNat,ByteArray.empty,(k.chunk.toNat:Nat)⟩: Key)=k:=by
   rw [← xj4 hb,hin,show ((k.chunk.toNat:Nat):Int)=k.chunk by omega]
   simp
  rw [w]
  simp only [show ((3:UInt8)=2)=False by simp,if_false,if_true,List.cons_append,List.nil_append]
  rw [if_neg (by decide),if_neg (by decide),if_pos (by decide),yw1,ofNat_toNat (by omega)]
  simp only
  rw [if_neg (by decide)]
  rw [w] at hk
  rw [hk,hfin]
theorem uy7 {c:zb2} (h:mayC c=true) (l:List UInt8):oneS (some (chgB c ++ l))=(c,0,some l):=by
 have hm:c.key.may=true∧(if c.gone then decide (c.val.length=0) else decide (1≤c.val.length) && decide (c.val.length≤255))=true:=by
  unfold mayC at h
  simpa using h
 obtain ⟨key,val,gone⟩:=c
 simp only at hm
 unfold oneS chgB
 cases gone with
 | true =>
  simp only [if_true] at hm
  have hv:val=[]:=List.eq_nil_of_length_eq_zero (of_decide_eq_true hm.2)
  subst hv
  simp only [if_true,List.cons_append]
  rw [yw1]
  simp only
  rw [uc4 hm.1,if_neg (by decide),if_neg (by decide),if_neg (fun h=>h rfl),if_pos (by decide)]
 | false =>
  have hv:=hm.2
  simp only [Bool.and_eq_true,decide_eq_true_eq,Bool.false_eq_true,if_false] at hv
  simp only [Bool.false_eq_true,if_false,List.cons_append,List.append_assoc]
  rw [yw1]
  simp only
  rw [uc4 hm.1,if_neg (by decide),if_neg (by decide),if_neg (fun h=>h rfl),if_neg (by decide),un4 (by omega)]
  simp only
  rw [if_neg (by decide),if_neg (by omega)]
theorem up1:∀ (cs acc:List zb2),(∀ x∈cs,mayC x=true)→goS cs.length (some (cs.flatMap chgB)) acc=(acc ++ cs,0)
 | [],acc,_=>by
  show (if 0<vu9 (some []) then ([],5) else (acc,0))=_
  rw [if_neg (by simp [vu9]),List.append_nil]
 | c :: cs,acc,h=>by
  rw [List.length_cons,List.flatMap_cons]
  have e:=uy7 (h c (by simp)) (cs.flatMap chgB)
  show (if (oneS (some (chgB c ++ cs.flatMap chgB))).2.1≠0 then ([],(oneS (some (chgB c ++ cs.flatMap chgB))).2.1) else goS cs.length (oneS (some (chgB c ++ cs.flatMap chgB))).2.2 (acc ++ [(oneS (some (chgB c ++ cs.flatMap chgB))).1]))=_
  rw [e]
  simp only
  rw [if_neg (fun h=>h rfl),up1 cs _ fun x hx=>h x (by simp [hx])]
  simp
theorem ut3 {cs:List zb2} (h:mayL cs=true):getS (yv9 cs)=(cs,0):=by
 unfold mayL at h
 simp only [Bool.and_eq_true,decide_eq_true_eq,List.all_eq_true] at h
 unfold getS yv9
 rw [yw1,ofNat_toNat (by omega)]
 simp only
 rw [if_neg (by decide),if_neg (by omega),up1 cs [] h.2,List.nil_append]
theorem qb4 {seq:Nat} (h0:seq≠0) (h:seq<18446744073709551616):yi1 (leB seq 8)=(seq,0):=by
 have e:zd0 (leB seq 8)=seq:=ym5 8 _ h
 unfold yi1
 rw [if_neg (by rw [zf3];decide),e,if_neg h0]
structure um9 (sz:Nat) (pg:List UInt8) (cs:List zb2) (d:Nat):Prop where
 len:pg.length=sz
 sound:xv7 pg
 say:∀ n,yb3 n pg=some ⟨n,cs,d⟩
theorem xq3 {sz:Nat} (h1:128≤sz) (h2:sz≤256) {cs:List zb2} (h:(putL sz cs).2=0):um9 sz (putL sz cs).1 cs 0∧mayL cs=true:=by
 have hsz:zh0 (sz:Int)=true:=by simp [zh0];omega
 unfold putL at h ⊢
 split at h
 ·rename_i hm
  rw [if_pos hm]
  unfold ya6 at h ⊢
  split at h
  ·cases h
  ·split at h
   ·cases h
   ·rename_i hn hb
    rw [if_neg hn,if_neg hb]
    have hbl:(yv9 cs).length+5≤sz:=by omega
    refine ⟨⟨zt3 _ _ _ (by simpa using hbl),yi6 (by simpa using hbl) (by simpa using (by omega:sz≤8000)),fun n=>?_⟩,hm⟩
    have hg:zc2 (zp9 sz 2 (yv9 cs))=(2,yv9 cs,0):=yu9 hsz (by decide) (by decide) hbl
    show yb3 n (zp9 sz 2 (yv9 cs))=_
    unfold yb3
    rw [hg]
    simp only
    rw [if_neg (by decide),if_pos trivial,ut3 hm,if_pos rfl]
 ·cases h
theorem vz4 {sz:Nat} (h1:128≤sz) (h2:sz≤256) {seq:Nat} (h0:seq≠0) (h:seq<18446744073709551616):(zq9 sz seq).2=0∧um9 sz (zq9 sz seq).1 [] seq:=by
 have hsz:zh0 (sz:Int)=true:=by simp [zh0];omega
 have hlen:=zf3 8 seq
 have hp:zq9 sz seq=(zp9 sz 3 (leB seq 8),0):=by
  unfold zq9 ya6
  rw [if_neg h0,if_neg (by rw [hsz];decide),if_neg (by omega)]
  simp
 rw [hp]
 refine ⟨rfl,zt3 _ _ _ (by omega),yi6 (by omega) (by omega),fun n=>?_⟩
 have hg:zc2 (zp9 sz 3 (leB seq 8))=(3,leB seq 8,0):=yu9 hsz (by decide) (by decide) (by omega)
 show yb3 n (zp9 sz 3 (leB seq 8))=_
 unfold yb3
 rw [hg]
 simp only
 rw [if_neg (by decide),if_neg (by decide),if_pos trivial,qb4 h0 h,if_pos rfl]
theorem vn6 {b:List UInt8} (hp:(zc2 b).2.2=0):xv7 b:=by
 unfold zc2 at hp
 split at hp
 ·cases hp
 ·rename_i hs
  split at hp
  ·cases hp
  ·split at hp
   ·cases hp
   ·rename_i hn
    have hs':zh0 b.length=true:=by simpa using hs
    simp [zh0] at hs'
    exact ⟨by omega,Classical.byContradiction hn⟩
theorem vf6 {n:Int} {b:List UInt8} (h:yb3 n b≠none):xv7 b:=by
 refine vn6 ?_
 unfold yb3 at h
 split at h
 ·exact absurd rfl h
 ·rename_i h0;omega
theorem uj3 (n:Int) (k:Nat):yb3 n (List.replicate k 255)=none:=by
 have:(zc2 (List.replicate k 255)).2.2≠0:=by
  unfold zc2
  split
  ·simp
  ·rw [if_pos (zr4 k)];simp
 unfold yb3
 rw [if_pos this]
theorem um9.sub {sz:Nat} {pg X:List UInt8} {cs:List zb2} {d:Nat} (h:um9 sz pg cs d) (hX:SubL pg X) (n:Int):yb3 n X=none∨X=pg:=by
 by_cases hx:yb3 n X=none
 ·exact .inl hx
 ·exact .inr (up6 hX h.sound (vf6 hx))
structure Part where
 block:Int
 seq:Nat
 pages:List zr7
abbrev ua0 (b:Int) (s:Nat) (a:Option Addr) (l c:Nat):List Value:=[.int .i64 b,.int .u64 s,.slice a l c]
def ua1:ERep Part:=ERep.pair intR (ERep.pair u64R (un2 yu4) (fun x:Nat×List zr7=>x.1) (fun x=>x.2)) (fun x:Part=>x.block) (fun x=>(x.seq,x.pages))
theorem ui6 {w:World} {G:Nat→Prop} {x:Part} {a:Option Addr} {c:Nat} (hc:x.pages.length≤c) (h:zb0 yu4 w G a x.pages):ua1.R w G (ua0 x.block x.seq a x.pages.length c) x :=
 ⟨[.int .i64 x.block],[.int .u64 (x.seq:Nat),.slice a x.pages.length c],rfl,rfl,[.int .u64 (x.seq:Nat)],[.slice a x.pages.length c],rfl,rfl,a,c,rfl,hc,h⟩
theorem ur1 {w:World} {G:Nat→Prop} {x:Part} {vs:List Value} (h:ua1.R w G vs x):∃ a c,vs=ua0 x.block x.seq a x.pages.length c∧x.pages.length≤c∧zb0 yu4 w G a x.pages:=by
 obtain ⟨u,v,rfl,hu,s,t,rfl,ht,a,c,hs,hc,hb⟩:=h
 have hu':u=[.int .i64 x.block]:=hu
 have ht':s=[.int .u64 (x.seq:Nat)]:=ht
 have hs':t=[.slice a x.pages.length c]:=hs
 subst hu';subst ht';subst hs'
 exact ⟨a,c,rfl,hc,hb⟩
def ys8 (era:Nat) (t:zb7):Bool:=decide (t.head.kind=1) && decide (t.head.era=era)
def zu2 (c:Chip) (t:zb7):Part:=⟨t.block,t.head.seq,zk1 c t.block⟩
def partsL (c:Chip) (era:Nat) (l:List zb7):List Part:=(l.filter (ys8 era)).map (zu2 c)
def lowP (n:Nat) (l:List zr7):Nat:=l.foldl (fun n p=>max n p.drop) n
def lowL (l:List Part):Nat:=l.foldl (fun n x=>lowP n x.pages) 0
def ym1 (c:Chip) (era:Nat):Nat:=if c.dead then 10 else if era=0 then 2 else 0
def zf5 (c:Chip) (era:Nat):List Part:=if ym1 c era≠0 then [] else partsL c era (zc1 (zh5 c) c)
theorem ui5 (c:Chip) (era:Nat) {l:List zb7} {i:Nat} (hi:i<l.length):partsL c era (l.take (i+1))=partsL c era (l.take i) ++ if ys8 era l[i] then [zu2 c l[i]] else []:=by
 unfold partsL
 rw [List.take_succ_eq_append_getElem hi,List.filter_append,List.map_append]
 congr 1
 rw [List.filter_cons]
 split<;>rfl
theorem xq8 (l:List Part) (x:Part):lowL (l ++ [x])=lowP (lowL l) x.pages:=by unfold lowL;rw [List.foldl_append];rfl
theorem uc0 (n:Nat) {l:List zr7} {i:Nat} (hi:i<l.length):lowP n (l.take (i+1))=max (lowP n (l.take i)) l[i].drop:=by
 unfold lowP
 rw [List.take_succ_eq_append_getElem hi,List.foldl_append];rfl
theorem xq4 (c:Chip) (era:Nat) (l:List zb7):(partsL c era l).length≤l.length:=by
 unfold partsL
 rw [List.length_map]
 exact List.length_filter_le _ _
theorem qg8 (a b:Nat):(if (b:Int) > (a:Int) then (b:Int) else (a:Int))=((max a b:Nat):Int):=by
 split<;>omega
theorem vl9 {F:Nat→Prop} {A:Nat} {w:World} {p:Nat} {c:Chip} (h:CIn F A w p c) (hnb:c.nb<20) (era:Nat) :
  za0 prog K.yg6 #[.pointer (some ⟨p,0,none⟩),.int .u32 era] w fun v w'=>∃ a cap,v= .tuple #[.slice a (zf5 c era).length cap,.int .u64 (lowL (zf5 c era):Nat),.int .i64 (ym1 c era:Nat)]∧zb4 ua1 NoB w.heap.size w' a cap T.yj4 (zf5 c era)∧Ext w w':=by
 apply yg6.sh
 suffices H:∀ R:Value→World→Prop,(∀ v w',(∃ a cap,v= .tuple #[.slice a (zf5 c era).length cap,.int .u64 (lowL (zf5 c era):Nat),.int .i64 (ym1 c era:Nat)]∧zb4 ua1 NoB w.heap.size w' a cap T.yj4 (zf5 c era)∧Ext w w')→R v w')→yg6.body (some ⟨p,0,none⟩) era w R from H _ fun _ _ h=>h
 intro R hR
 unfold yg6.body
 refine (qn2 h).mono ?_
 rintro _ w₁ ⟨he1,hv⟩
 have hs1:=he1.size
 split at hv
 ·rename_i hd
  subst hv
  have he:ym1 c era=10:=by unfold ym1;rw [if_pos hd]
  have hp:zf5 c era=[]:=by unfold zf5;rw [he];rfl
  rw [hp,he] at hR
  exact ⟨_,_,rfl,zg8 (fun _=>hR _ _ ⟨none,0,rfl,zb4.nil _ _,he1⟩) fun h=>by cases h⟩
 rename_i hd
 have hd0:c.dead=false:=by simpa using hd
 obtain ⟨M,rfl,rfl,hp2⟩:=hv
 refine ⟨_,_,rfl,zg8 (fun h=>(h rfl).elim) fun _=>zi1 (fun he0=>?_) fun he0=>?_⟩
 ·have he:ym1 c era=2:=by unfold ym1;rw [if_neg hd,if_pos (by omega)]
  have hp:zf5 c era=[]:=by unfold zf5;rw [he];rfl
  rw [hp,he] at hR
  exact hR _ _ ⟨none,0,rfl,zb4.nil _ _,he1⟩
 have he:ym1 c era=0:=by unfold ym1;rw [if_neg hd,if_neg (by omega)]
 have hp:zf5 c era=partsL c era (zc1 (zh5 c) c):=by unfold zf5;rw [he];rfl
 rw [hp,he] at hR
 refine (qg7 hp2 hnb rfl).mono ?_
 rintro _ w₂ ⟨he2,a1,c1,rfl,ho2,hf2⟩
 have e2:Ext w w₂:=he1.trans he2
 have hs2:=he2.size
 have hll:(zc1 (zh5 c) c).length≤c.nb:=by
  unfold zc1
  rw [yb6]
  exact zs9 _ _ _
 have hlb:∀ x∈zc1 (zh5 c) c,x.block<c.nb:=by
  intro x hx
  unfold zc1 at hx
  rw [yx0] at hx
  exact ym6 hx
 generalize zc1 (zh5 c) c=l at *
 have hrow:za6 w₂ a1 (l.flatMap zb7.vals):=ho2.row
 refine ⟨_,_,_,rfl,fun a2 l2 c2 x2 x3 u=>∃ i:Nat,x3=i∧i≤l.length∧l2=(partsL c era (l.take i)).length∧x2=(lowL (partsL c era (l.take i)):Nat)∧zb4 ua1 NoB w₂.heap.size u a2 c2 T.yj4 (partsL c era (l.take i))∧Ext w₂ u,fun _ _ _ _ x _=>((l.length:Int) - x).toNat,
  ⟨0,rfl,by omega,rfl,rfl,zb4.nil _ _,Upd.refl _ _⟩,?_⟩
 rintro a2 l2 c2 x2 x3 u ⟨i,rfl,hi,rfl,rfl,hl,heu⟩
 have hpl:=xq4 c era (l.take i)
 rw [List.length_take] at hpl
 refine za8 (fun hlt=>?_) fun hge=>?_
 ·have hi':i<l.length:=by omega
  have ew:IntKind.i64.wrap ((i:Int)+1)=((i+1:Nat):Int):=w64 (by omega) (by omega)
  simp only [ew]
  have hsu:=heu.size
  have hsucc:=ui5 c era hi'
  refine zx3 (f:=zb7.vals) (k:=5) (fun _=>rfl) (by decide) (hrow.ext heu) rfl hi' fun b o ha hr=>?_
  refine ⟨_,_,_,_,_,hr.cells,zu7 (vs:=l[i].vals) rfl fun B1 w₅ hb5 hs5 he5 g5=>?_⟩
  have e5:=heu.trans he5
  have hl5:=hl.ext he5
  refine ⟨_,za2 g5 rfl,zg8 (fun hk=>?_) fun hk=>?_⟩
  ·have hlog:ys8 era l[i]=false:=by
    unfold ys8
    rw [decide_eq_false (fun e=>hk (by rw [e];rfl))];rfl
   rw [hlog] at hsucc
   simp only [Bool.false_eq_true,if_false,List.append_nil] at hsucc
   exact ⟨⟨i+1,rfl,hi',by rw [hsucc],by rw [hsucc],by rw [hsucc];exact hl5,e5⟩,meas hi'⟩
  simp only [add_lit,Nat.zero_add]
  refine ⟨_,za2 g5 rfl,zg8 (fun hk2=>?_) fun hk2=>?_⟩
  ·have hlog:ys8 era l[i]=false:=by
    unfold ys8
    rw [decide_eq_false (p:=l[i].head.era=era) (fun e=>hk2 (by rw [e]))];simp
   rw [hlog] at hsucc
   simp only [Bool.false_eq_true,if_false,List.append_nil] at hsucc
   exact ⟨⟨i+1,rfl,hi',by rw [hsucc],by rw [hsucc],by rw [hsucc];exact hl5,e5⟩,meas hi'⟩
  have hlog:ys8 era l[i]=true:=by
   unfold ys8
   rw [decide_eq_true (show l[i].head.kind=1 from vh3 (n:=1) (by decide) hk),decide_eq_true (p:=l[i].head.era=era) (by omega)];rfl
  rw [hlog] at hsucc
  simp only [if_true] at hsucc
  refine ⟨_,za2 g5 rfl,_,za2 g5 rfl,zu7 (vs:=ua0 l[i].block l[i].head.seq none 0 0) rfl fun B2 w₇ hb7 hs7 he7 g7=>?_⟩
  have e7:=e5.trans he7
  have hbk:=hlb _ (List.getElem_mem hi')
  refine ⟨_,za2 (Ext.get he7 g5) rfl,(vd1 (h.ext (e2.trans e7)) l[i].block).mono ?_⟩
  have hask:c.ask l[i].block 0=0:=yu0 (k:=0) hd0 hbk (by have:=h.ok.np1;omega)
  have hpo:yz3 c l[i].block=zk1 c l[i].block:=by unfold yz3;rw [if_pos hask,Int.toNat_natCast]
  rw [hpo,hask]
  rintro _ w₈ ⟨a3,c3,rfl,hl8,he8⟩
  have hs8:=he8.size
  have hpgl:=zz8 c l[i].block c.np
  have hnp2:=h.ok.np2
  change (zk1 c l[i].block).length≤c.np at hpgl
  have hpt:zu2 c l[i]=⟨l[i].block,l[i].head.seq,zk1 c l[i].block⟩:=rfl
  generalize zk1 c l[i].block=pg at *
  refine ⟨_,_,_,_,rfl,zc8 (Ext.get he8 g7) (by simp) fun w₉ hp9=>?_⟩
  have g9:w₉.heap[B2]?=some (.cells (ua0 l[i].block l[i].head.seq a3 pg.length c3).toArray T.yj4 (0,0)):=hp9.get
  have hu9:=hp9.upd1
  have hs9:=hu9.size
  have hl9:=hl8.upd hu9 fun x hx=>⟨by omega,fun h=>h⟩
  have hlu9:zb4 ua1 NoB w₂.heap.size w₉ a2 c2 T.yj4 (partsL c era (l.take i)):=by
   obtain ⟨G,h1,h2,h3⟩:=((hl5.ext he7).ext he8)
   obtain ⟨G',h1',h2',h3'⟩:=hl5
   refine ⟨G',(((h1'.ext he7).ext he8).upd hu9 (fun b hb e=>?_) fun b hb e=>?_),fun x hx=>⟨(h2' x hx).1,by have:=(h2' x hx).2;have:=he7.size;omega⟩,h3'⟩
   ·have:=(h2' b hb).2;omega
   ·have:=hl.lt hb;omega
  have e9:Ext w₂ w₉:=(e7.trans he8).beyond hu9 fun x hx=>by omega
  obtain ⟨G3,hG3,hG3'⟩:=hl9.slice
  refine ⟨_,_,_,za2 g9 rfl,fun x14 x15 v=>∃ k:Nat,x15=k∧k≤pg.length∧x14=(lowP (lowL (partsL c era (l.take i))) (pg.take k):Nat)∧Ext w₉ v,fun _ x _=>((pg.length:Int) - x).toNat,⟨0,rfl,by omega,rfl,Upd.refl _ _⟩,?_⟩
  rintro x14 x15 v ⟨k,rfl,hk,rfl,hev⟩
  refine za8 (fun hltk=>?_) fun hgek=>?_
  ·have hk':k<pg.length:=by omega
   have ewk:IntKind.i64.wrap ((k:Int)+1)=((k+1:Nat):Int):=w64 (by omega) (by omega)
   refine zb0.idx (r:=yu4) (hG3.ext hev) rfl hk' fun b o vs ha hrow' hR' hG=>?_
   obtain ⟨ac,cc,rfl,_,_⟩:=xj0 hR'
   refine ⟨_,_,_,_,_,hrow'.cells,zu7 (vs:=xw9 pg[k].page ac pg[k].changes.length cc pg[k].drop) rfl fun B3 w₁₂ hb12 hs12 he12 g12=>?_⟩
   simp only [add_lit,Nat.zero_add]
   refine ⟨_,za2 g12 rfl,?_⟩
   rw [ewk,qg8]
   exact ⟨⟨k+1,rfl,hk',by rw [uc0 _ hk'],hev.trans he12⟩,meas hk'⟩
  ·have hkk:k=pg.length:=by omega
   subst hkk
   rw [List.take_length]
   refine ⟨_,_,_,_,_,zz3 (Ext.get hev g9),fun B4 w₁₃ hn13=>?_⟩
   have hs13:=hn13.size
   have hsv:=hev.size
   refine zb4.push (r:=ua1) (H:=G3) (x:=zu2 c l[i]) ((hlu9.ext hev).ext hn13.upd) (ui6 (x:=zu2 c l[i]) (by rw [hpt];exact hl9.cap) (by rw [hpt];exact (hG3.ext hev).ext hn13.upd)) (fun b hb=>⟨?_,?_,fun hab=>?_⟩) (by rw [hpt];exact hn13) rfl rfl (by omega) (by omega) (by omega) fun a' c' w₁₄ hu14 hl14=>?_
   ·have:=(hG3' b hb).1
    rcases this with h | h
    ·left;have:=e7.size;omega
    ·exact h.elim
   ·have:=(hG3' b hb).2;omega
   ·have h5:=(hG3' b hb).1
    have h6:=hl.lt hab
    rcases h5 with h | h
    ·have:=e7.size;have:=e5.size;have:=he5.size;have:=he7.size;omega
    ·exact h
   ·rw [← hsucc] at hl14 ⊢
    refine ⟨⟨i+1,rfl,hi',rfl,?_,hl14,Ext.own ((e9.trans hev).trans hn13.upd) hu14 (Nat.le_refl _)⟩,meas hi'⟩
    rw [hsucc,xq8,hpt]
 ·have hii:i=l.length:=by omega
  subst hii
  rw [List.take_length] at hl ⊢
  exact hR _ _ ⟨a2,c2,rfl,hl.weak e2.size fun _ h=>h.elim,e2.trans heu⟩
def yh5 (S:Nat) (w:World) (a:Option Addr) (cap:Nat) (l:List Int):Prop:=zb6 w a l.length cap T.int 1 (l.map (Value.int .i64))∧∀ b,a=some ⟨b,0,none⟩→S≤b
theorem yh5.nil (S:Nat) (w:World):yh5 S w none 0 []:=⟨zb6.nil _ _ _,fun _ h=>by cases h⟩
theorem yh5.ext {S:Nat} {w w':World} {a:Option Addr} {cap:Nat} {l:List Int} (h:yh5 S w a cap l) (k:Ext w w'):yh5 S w' a cap l:=⟨h.1.ext k,h.2⟩
theorem yh5.weak {S S':Nat} {w:World} {a:Option Addr} {cap:Nat} {l:List Int} (h:yh5 S w a cap l) (hS:S'≤S):yh5 S' w a cap l:=⟨h.1,fun b hb=>Nat.le_trans hS (h.2 b hb)⟩
section
set_option maxRecDepth 100000
def w12:Chip:=zf8 16 8 128 0
def h12:List UInt8×Nat:=zx0 128 ⟨1,1,1⟩
def x12:Chip×Nat:=w12.program 3 0 h12.1
end
theorem yh5.pushX {G:Nat→Prop} {S:Nat} {w w₁:World} {a:Option Addr} {cap n:Nat} {l:List Int} {B:Nat} {x:Int} (h:yh5 S w a cap l) (hG:∀ b,a=some ⟨b,0,none⟩→¬ G b) (hGs:∀ x,G x→x<w.heap.size) (hn:n=l.length) (hnew:New w (.cells #[.int .i64 x] T.int) B w₁) (hb:l.length+1≤17592186044000) (hS:S≤w.heap.size) {K:Option Addr→Nat→Nat→World→Prop}
  (hk:∀ a' c' w',Upd (fun b=>S≤b∧¬ G b) w w'→yh5 S w' a' c' (l ++ [x])→(∀ b,a'=some ⟨b,0,none⟩→¬ G b)→K a' (l ++ [x]).length c' w'):zb5 T.int 1 8 [Value.int .i64 0] a n cap (.slice (some ⟨B,0,none⟩) 1 1) w₁ K:=by
 subst hn
 have hrow:za6 w₁ (some ⟨B,0,none⟩) [.int .i64 x]:=za6.of hnew.get fun j v hj=>by simpa using hj
 refine yb0 (h.1.ext hnew.upd) rfl (zu8 hrow rfl) rfl (fun v hv=>by simp at hv;rw [hv];rfl) rfl (by omega) (by omega) fun a' c' w' hu ho hf=>?_
 have hs:=hnew.size
 have:=hk a' c' w' ((Upd.ext hnew.upd).trans (hu.mono fun b _ hb=>⟨h.2 b hb,hG b hb⟩)) ⟨by simpa using ho,fun b hb=>by
  rcases hf with hf | ⟨b',hb',hl⟩
  ·subst hf;exact h.2 b hb
  ·rw [hb'] at hb;cases hb;omega⟩ (fun b hb hg=>by
  rcases hf with hf | ⟨b',hb',hl⟩
  ·subst hf;exact hG b hb hg
  ·rw [hb'] at hb;cases hb;have:=hGs _ hg;omega)
 simpa using this
theorem yh5.lt {S:Nat} {w:World} {a:Option Addr} {cap:Nat} {l:List Int} (h:yh5 S w a cap l) {b:Nat} (hb:a=some ⟨b,0,none⟩):b<w.heap.size:=h.1.blk hb
def yk5 (low:Nat) (l:List Part):List Int:=(l.filter fun x=>decide (low≤x.seq)).map (·.block)
def xc5 (low:Nat) (l:List Part):List Int:=(l.filter fun x=> !decide (low≤x.seq)).map (·.block)
theorem yv1 {α β:Type} (p:α→Bool) (f:α→β) (l:List α):((l.filter p).map f).length≤l.length:=by
 rw [List.length_map]
 exact List.length_filter_le _ _
theorem xc0 {c:Chip} (era:Nat):(zf5 c era).length≤c.nb:=by
 unfold zf5
 split
 ·exact Nat.zero_le _
 ·refine Nat.le_trans (xq4 _ _ _) ?_
  unfold zc1
  rw [yb6]
  exact zs9 _ _ _
theorem zlt:(0:Nat)<256:=by decide
theorem us2 (s:St):(oneS s).1.val.length<256:=by
 unfold oneS
 simp only []
 split
 ·exact zlt
 ·split
  ·exact zlt
  ·split
   ·exact zlt
   ·split
    ·exact zlt
    ·split
     ·exact zlt
     ·split
      ·exact zlt
      ·exact xi6 _
theorem ud3:∀ (n:Nat) (s:St) (acc:List zb2),(∀ x∈acc,x.val.length<256)→∀ x∈(goS n s acc).1,x.val.length<256
 | 0,s,acc,h=>by
  unfold goS
  split
  ·simp
  ·exact h
 | n+1,s,acc,h=>by
  unfold goS
  split
  ·simp
  ·refine ud3 n _ _ fun x hx=>?_
   rcases List.mem_append.1 hx with hx | hx
   ·exact h x hx
   ·simp at hx;subst hx;exact us2 s
theorem ut2 (b:List UInt8):∀ x∈(getS b).1,x.val.length<256:=by
 unfold getS
 split
 ·simp
 ·split
  ·simp
  ·exact ud3 _ _ _ (by simp)
theorem vq8:∀ (n:Nat) (s:St) (acc:List zb2),(goS n s acc).1.length≤acc.length+n
 | 0,s,acc=>by
  unfold goS
  split
  ·simp
  ·simp
 | n+1,s,acc=>by
  unfold goS
  split
  ·simp
  ·have:=vq8 n (oneS s).2.2 (acc ++ [(oneS s).1])
   simp at this
   omega
theorem uk3 (b:List UInt8):(getS b).1.length≤255:=by
 unfold getS
 split
 ·simp
 ·split
  ·simp
  ·have:=vq8 (zj7 1 (some b)).1 (zj7 1 (some b)).2.2 []
   have h2:=yf0 1 (some b)
   simp at this
   omega
theorem uj1 {n:Int} {b:List UInt8} {P:zr7} (h:yb3 n b=some P):(∀ x∈P.changes,x.val.length<256)∧P.changes.length≤255:=by
 unfold yb3 at h
 split at h
 ·cases h
 ·split at h
  ·split at h
   ·cases h;exact ⟨ut2 _,uk3 _⟩
   ·cases h
  ·split at h
   ·split at h
    ·cases h;exact ⟨by simp,by simp⟩
    ·cases h
   ·cases h
theorem xw7 {c:Chip} {i:Nat} {P:zr7} (h:P∈zk1 c i):(∀ x∈P.changes,x.val.length<256)∧P.changes.length≤255:=by
 unfold zk1 zk8 at h
 obtain ⟨k,_,hk⟩:=List.mem_filterMap.1 h
 split at hk
 ·cases hk
 ·exact uj1 hk
theorem uf4 (c d:Int):∀ (x y:List UInt8),yk0 (x.map (fun b=>(b.toNat:Int)+1) ++ [0,c]) (y.map (fun b=>(b.toNat:Int)+1) ++ [0,d])=(Op.bytesLess x y || (decide (x=y) && decide (c<d)))
 | [],[]=>by simp [yk0,Op.bytesLess]
 | [],b :: ys=>by
  have:(0:Int)<(b.toNat:Int)+1:=by omega
  simp [yk0,Op.bytesLess,this]
 | a :: xs,[]=>by
  have h1:¬ ((a.toNat:Int)+1<0):=by omega
  have h2:¬ ((a.toNat:Int)+1=0):=by omega
  simp [yk0,Op.bytesLess,h1,h2]
 | a :: xs,b :: ys=>by
  have ih:=uf4 c d xs ys
  have h1:decide ((a.toNat:Int)+1<(b.toNat:Int)+1)=decide (a<b):=by
   rw [decide_eq_decide,UInt8.lt_iff_toNat_lt];omega
  have h2:decide ((a.toNat:Int)+1=(b.toNat:Int)+1)=decide (a=b):=by
   rw [decide_eq_decide,← UInt8.toNat_inj];omega
  simp only [List.map_cons,List.cons_append,yk0,ih,h1,h2,Op.bytesLess,List.cons.injEq]
  by_cases hab:a=b
  ·subst hab
   simp
  ·simp [hab]
theorem uf9 (a b:Key):zl9 a b=(decide (a.ino<b.ino) || (decide (a.ino=b.ino) && (decide (a.what<b.what) || (decide (a.what=b.what) && (Op.bytesLess a.bytes b.bytes || (decide (a.bytes=b.bytes) && decide (a.chunk<b.chunk))))))):=by
 unfold zl9 Key.code
 simp only [yk0,uf4]
 have h1:decide ((a.what.toNat:Int)<(b.what.toNat:Int))=decide (a.what<b.what):=by
  rw [decide_eq_decide,UInt8.lt_iff_toNat_lt];omega
 have h2:decide ((a.what.toNat:Int)=(b.what.toNat:Int))=decide (a.what=b.what):=by
  rw [decide_eq_decide,← UInt8.toNat_inj];omega
 rw [h1,h2]
theorem xa3:∀ x:List UInt8,Op.bytesLess x x=false
 | []=>rfl
 | a :: x=>by simp [Op.bytesLess,xa3 x]
def cmpI (x y:Int):Int:=if x<y then -1 else if x > y then 1 else 0
def cmpS (x y:List UInt8):Int:=if Op.bytesLess x y then -1 else if x=y then 0 else 1
def xf9:List Int→Int
 | []=>0
 | x :: l=>if x≠0 then x else xf9 l
def un8 (a b:Key):Int:=xf9 [cmpI a.ino b.ino,cmpI a.what.toNat b.what.toNat,cmpS a.bytes b.bytes,cmpI a.chunk b.chunk]
theorem ux7 (a b:Key):decide (un8 a b<0)=zl9 a b:=by
 rw [uf9]
 unfold un8 cmpI cmpS
 simp only [xf9]
 have hw:a.what<b.what ↔ a.what.toNat<b.what.toNat:=UInt8.lt_iff_toNat_lt
 have hw2:a.what=b.what ↔ a.what.toNat=b.what.toNat:=UInt8.toNat_inj.symm
 by_cases h1:a.ino<b.ino
 ·simp [h1]
 by_cases h2:a.ino > b.ino
 ·have:a.ino≠b.ino:=by omega
  simp [h1,h2,this]
 have h3:a.ino=b.ino:=by omega
 by_cases h4:a.what.toNat<b.what.toNat
 ·have h4':(a.what.toNat:Int)<(b.what.toNat:Int):=by omega
  simp [h3,hw,h4,h4']
 by_cases h5:a.what.toNat > b.what.toNat
 ·have h5':¬ (a.what.toNat:Int)<(b.what.toNat:Int):=by omega
  have h5'':(b.what.toNat:Int)<(a.what.toNat:Int):=by omega
  have h6:¬ a.what.toNat=b.what.toNat:=by omega
  simp [h3,hw,hw2,h4,h5,h5',h5'',h6]
 have h6:a.what.toNat=b.what.toNat:=by omega
 have h7:a.what=b.what:=hw2.2 h6
 cases hb:Op.bytesLess a.bytes b.bytes with
 | true=>simp [h3,h7,hb]
 | false =>
  by_cases he:a.bytes=b.bytes
  ·by_cases hc:a.chunk<b.chunk
   ·simp [h3,h7,he,hc,xa3]
   ·by_cases hc2:a.chunk > b.chunk
    ·simp [h3,h7,he,hc,hc2,xa3]
    ·simp [h3,h7,he,hc,hc2,xa3]
  ·simp [h3,h7,hb,he]
theorem xy3 (x y:Int) (w:World):za0 prog K.zq6 #[.int .i64 x,.int .i64 y] w fun v w'=>v= .int .i64 (cmpI x y)∧w'=w:=by
 apply zq6.sh
 unfold zq6.body
 have nan:∀ x:Int,za0 prog K.zv8 #[.int .i64 x] w fun v w'=>v= .bool false∧w'=w:=fun x=>by
  apply zv8.sh
  unfold zv8.body
  exact ⟨by simp,rfl⟩
 refine (nan x).mono ?_
 rintro _ _ ⟨rfl,rfl⟩
 refine ⟨_,rfl,(nan y).mono ?_⟩
 rintro _ _ ⟨rfl,rfl⟩
 refine ⟨_,rfl,?_⟩
 simp only [br_false]
 unfold cmpI
 refine za8 (fun h=>⟨by rw [if_pos h],by trivial⟩) fun h=>za8 (fun h2=>⟨by rw [if_neg h,if_pos h2],by trivial⟩) fun h2=>⟨by rw [if_neg h,if_neg h2],by trivial⟩
theorem ul2 (x y:UInt8) (w:World):za0 prog K.zo6 #[bv x,bv y] w fun v w'=>v= .int .i64 (cmpI x.toNat y.toNat)∧w'=w:=by
 apply zo6.sh
 unfold zo6.body
 have nan:∀ x:UInt8,za0 prog K.zq5 #[bv x] w fun v w'=>v= .bool false∧w'=w:=fun x=>by
  apply zq5.sh
  unfold zq5.body
  exact ⟨by simp,rfl⟩
 refine (nan x).mono ?_
 rintro _ _ ⟨rfl,rfl⟩
 refine ⟨_,rfl,(nan y).mono ?_⟩
 rintro _ _ ⟨rfl,rfl⟩
 refine ⟨_,rfl,?_⟩
 simp only [br_false]
 unfold cmpI
 refine za8 (fun h=>⟨by rw [if_pos h],by trivial⟩) fun h=>za8 (fun h2=>⟨by rw [if_neg h,if_pos h2],by trivial⟩) fun h2=>⟨by rw [if_neg h,if_neg h2],by trivial⟩
theorem ug7 (s:ByteArray):s.toList=s.data.toList:=by rw [ByteArray.toList_eq]
theorem uf5 (x y:ByteArray) (w:World):za0 prog K.zm3 #[.string x,.string y] w fun v w'=>v= .int .i64 (cmpS x.data.toList y.data.toList)∧w'=w:=by
 apply zm3.sh
 unfold zm3.body
 have nan:∀ x:ByteArray,za0 prog K.zn5 #[.string x] w fun v w'=>v= .bool false∧w'=w:=fun x=>by
  apply zn5.sh
  unfold zn5.body
  exact ⟨by simp,rfl⟩
 refine (nan x).mono ?_
 rintro _ _ ⟨rfl,rfl⟩
 refine ⟨_,rfl,(nan y).mono ?_⟩
 rintro _ _ ⟨rfl,rfl⟩
 refine ⟨_,rfl,?_⟩
 simp only [br_false,ug7]
 unfold cmpS
 refine zc0 (fun h=>⟨by rw [if_pos h],by trivial⟩) fun h=>zc0 (fun h2=>⟨?_,by trivial⟩) fun h2=>⟨?_,by trivial⟩
 ·rw [if_neg (by rw [h];decide)]
  have:¬ x.data.toList=y.data.toList:=by intro e;rw [e] at h2;simp at h2
  rw [if_neg this]
 ·rw [if_neg (by rw [h];decide)]
  have:x.data.toList=y.data.toList:=by rw [h] at h2;simpa using h2
  rw [if_pos this]
theorem ul3 {w:World} {b:Nat} {l:List Int} (hr:za6 w (some ⟨b,0,none⟩) (l.map (Value.int .i64))) (hn:l.length<1000000) (c:Nat):za0 prog K.yf5 #[.slice (some ⟨b,0,none⟩) l.length c] w fun v w'=>v= .int .i64 (xf9 l)∧w'=w:=by
 apply yf5.sh
 unfold yf5.body
 refine ⟨fun x u=>∃ i:Nat,x=i∧i≤l.length∧u=w∧xf9 l=xf9 (l.drop i),fun x _=>((l.length:Int) - x).toNat,⟨0,rfl,by omega,rfl,rfl⟩,?_⟩
 rintro x u ⟨i,rfl,hi,rfl,hf⟩
 refine za8 (fun hlt=>?_) fun hge=>?_
 ·have hi':i<l.length:=by omega
  refine ⟨by omega,by omega,?_⟩
  simp only [nilC_some',add_lit,Nat.zero_add,Nat.mul_one,Int.toNat_natCast]
  have hd:l.drop i=l[i] :: l.drop (i+1):=List.drop_eq_getElem_cons hi'
  have hcell:=xi5 hr (j:=i) (v:=.int .i64 l[i]) (by simp [hi'])
  rw [Nat.zero_add] at hcell
  refine ⟨_,hcell,zg8 (fun h=>⟨?_,by trivial⟩) fun h=>?_⟩
  ·rw [hf,hd];simp only [xf9];rw [if_pos h]
  ·rw [w64 (by omega) (by omega)]
   exact ⟨⟨i+1,by omega,hi',by trivial,by rw [hf,hd];simp only [xf9];rw [if_neg (by simpa using h)]⟩,by omega⟩
 ·have:l.drop i=[]:=List.drop_of_length_le (by omega)
  rw [this] at hf
  exact ⟨by rw [hf];rfl,rfl⟩
theorem vj0 (a b:Key) (w:World):za0 prog K.yd6 #[keyV a,keyV b] w fun v w'=>v= .int .i64 (un8 a b)∧Ext w w':=by
 apply yd6.sh
 suffices H:∀ R:Value→World→Prop,(∀ v w',v= .int .i64 (un8 a b)∧Ext w w'→R v w')→yd6.body a.ino a.what.toNat a.name a.chunk b.ino b.what.toNat b.name b.chunk w R from H _ fun _ _ h=>h
 intro R hR
 unfold yd6.body
 simp only [add_lit,Nat.zero_add]
 intro B1 w₁ hn1 B2 w₂ hn2 w₃ hd3
 have g1:zz5 w₃ B1 a:=Ext.get hd3.upd (Ext.get hn2.upd hn1.get)
 have g2:zz5 w₃ B2 b:=Ext.get hd3.upd hn2.get
 have e3:Ext w w₃:=(hn1.upd.trans hn2.upd).trans hd3.upd
 refine ⟨fun u=>Ext w₃ u,Upd.refl _ _,_,fun u h=>za2 (Ext.get h g1) rfl,_,fun u h=>za2 (Ext.get h g2) rfl,_,fun u h=>za2 (Ext.get h g1) rfl,_,fun u h=>za2 (Ext.get h g2) rfl,_,fun u h=>za2 (Ext.get h g1) rfl,_,fun u h=>za2 (Ext.get h g2) rfl,_,fun u h=>za2 (Ext.get h g1) rfl,_,fun u h=>za2 (Ext.get h g2) rfl,?_⟩
 refine (xy3 _ _ w₃).mono ?_
 rintro _ _ ⟨rfl,rfl⟩
 refine ⟨_,rfl,Upd.refl _ _,(ul2 _ _ _).mono ?_⟩
 rintro _ _ ⟨rfl,rfl⟩
 refine ⟨_,rfl,Upd.refl _ _,(uf5 _ _ _).mono ?_⟩
 rintro _ _ ⟨rfl,rfl⟩
 refine ⟨_,rfl,Upd.refl _ _,(xy3 _ _ _).mono ?_⟩
 rintro _ _ ⟨rfl,rfl⟩
 refine ⟨_,rfl,Upd.refl _ _,fun B3 w₈ hn8=>⟨hn8.upd,?_⟩⟩
 refine (ul3 (l:=[cmpI a.ino b.ino,cmpI a.what.toNat b.what.toNat,cmpS a.bytes b.bytes,cmpI a.chunk b.chunk]) (za6.of hn8.get fun j v hj=>by simpa [Key.bytes] using hj) (by simp) 4).mono ?_
 rintro _ _ ⟨rfl,rfl⟩
 exact ⟨_,rfl,hn8.upd,hR _ _ ⟨rfl,e3.trans hn8.upd⟩⟩
theorem yp3 (a b:Key) (w:World):za0 prog K.zw6 #[keyV a,keyV b] w fun v w'=>v= .bool (zl9 a b)∧Ext w w':=by
 apply zw6.sh
 suffices H:∀ R:Value→World→Prop,(∀ v w',v= .bool (zl9 a b)∧Ext w w'→R v w')→zw6.body a.ino a.what.toNat a.name a.chunk b.ino b.what.toNat b.name b.chunk w R from H _ fun _ _ h=>h
 intro R hR
 unfold zw6.body
 intro B1 w₁ hn1 B2 w₂ hn2
 have g1:zz5 w₂ B1 a:=Ext.get hn2.upd hn1.get
 have g2:zz5 w₂ B2 b:=hn2.get
 refine ⟨_,_,_,_,zw8 g1,_,_,_,_,zw8 g2,(vj0 a b w₂).mono ?_⟩
 rintro _ w₃ ⟨rfl,he3⟩
 exact ⟨_,rfl,hR _ _ ⟨by rw [ux7],(hn1.upd.trans hn2.upd).trans he3⟩⟩
def zg2:ERep Fact:=ERep.pair keyR xh2 (fun x:Fact=>x.key) (fun x=>x.val)
abbrev xl4 (k:Key) (a:Option Addr) (n c:Nat):List Value:=[.int .i64 k.ino,bv k.what,.string k.name,.int .i64 k.chunk,.slice a n c]
theorem ys6 {w:World} {G:Nat→Prop} {x:Fact} {a:Option Addr} {c:Nat} (hc:x.val.length≤c) (hb:za4 w a x.val) (hg:x.val≠[]→∀ p,a=some p→G p.block):zg2.R w G (xl4 x.key a x.val.length c) x :=
 ⟨x.key.vals,[.slice a x.val.length c],rfl,rfl,a,c,rfl,hc,hb,hg⟩
theorem zp8 {w:World} {G:Nat→Prop} {x:Fact} {vs:List Value} (h:zg2.R w G vs x):∃ a c,vs=xl4 x.key a x.val.length c∧x.val.length≤c∧za4 w a x.val∧(x.val≠[]→∀ p,a=some p→G p.block):=by
 obtain ⟨u,v,rfl,hu,a,c,hs,hc,hb,hg⟩:=h
 have hu':u=x.key.vals:=hu
 have hs':v=[.slice a x.val.length c]:=hs
 subst hu';subst hs'
 exact ⟨a,c,rfl,hc,hb,hg⟩
theorem xe6 (l:List Fact) {i:Nat} (hi:i+1<l.length):zg6 (l.take (i+2))=(zg6 (l.take (i+1)) && zl9 (l[i]'(by omega)).key l[i+1].key):=by
 induction l generalizing i with
 | nil=>simp at hi
 | cons x l ih =>
  cases l with
  | nil=>simp at hi
  | cons y l =>
   cases i with
   | zero=>simp [zg6]
   | succ i =>
    have:=ih (i:=i) (by simpa using hi)
    simp only [List.take_succ_cons,zg6,List.getElem_cons_succ] at this ⊢
    rw [this,Bool.and_assoc]
theorem yz4 {l:List Fact} (h:l.length≤1):zg6 l=true:=by
 match l,h with
 | [],_=>rfl
 | [x],_=>rfl
theorem yz5 {l:List Fact}:∀ {n:Nat},zg6 (l.take n)=false→zg6 l=false:=by
 intro n h
 cases ho:zg6 l with
 | false=>rfl
 | true =>
  have:=zq0.1 ho
  have h2:zg6 (l.take n)=true:=zq0.2 (List.Pairwise.sublist (List.take_sublist _ _) this)
  rw [h] at h2;cases h2
theorem xo0 {w:World} {G:Nat→Prop} {a:Option Addr} {c:Nat} {l:List Fact} (h:zb0 zg2 w G a l) (hn:l.length<9000000000000000000) :
  za0 prog K.zv7 #[.slice a l.length c] w fun v w'=>v= .bool (zg6 l)∧Ext w w':=by
 apply zv7.sh
 unfold zv7.body
 refine ⟨fun x u=>∃ i:Nat,x=((i+1:Nat):Int)∧(i+1≤l.length∨i=0)∧Ext w u∧zg6 (l.take (i+1))=true,fun x _=>((l.length:Int) - x).toNat,⟨0,rfl,.inr rfl,Upd.refl _ _,yz4 (by rw [List.length_take];omega)⟩,?_⟩
 rintro x u ⟨i,rfl,hi,heu,ho⟩
 refine za8 (fun hlt=>?_) fun hge=>⟨?_,heu⟩
 ·have hi':i+1<l.length:=by omega
  have hi0:i<l.length:=by omega
  intro w₂ hd2
  have e2:=heu.trans hd2.upd
  have q1:IntKind.i64.wrap (((i+1:Nat):Int) - 1)=(i:Int):=by rw [w64 (by omega) (by omega)];omega
  have q2:IntKind.i64.wrap (((i+1:Nat):Int)+1)=((i+1+1:Nat):Int):=by rw [w64 (by omega) (by omega)];omega
  simp only [q1,q2]
  refine ⟨fun u=>Ext w₂ u,Upd.refl _ _,zb0.idx (r:=zg2) (h.ext e2) rfl hi0 fun b o vs _ hrow hR _=>?_⟩
  obtain ⟨_,_,rfl,_,_,_⟩:=zp8 hR
  refine ⟨_,_,_,_,fun u1 hu1=>(za6.take (hrow.ext hu1) 4).cells,zb0.idx (r:=zg2) (h.ext e2) rfl hi' fun b o vs _ hrow hR _=>?_⟩
  obtain ⟨_,_,rfl,_,_,_⟩:=zp8 hR
  refine ⟨_,_,_,_,fun u1 hu1=>(za6.take (hrow.ext hu1) 4).cells,(yp3 l[i].key l[i+1].key w₂).mono ?_⟩
  rintro _ w₃ ⟨rfl,he3⟩
  have hstep:=xe6 l hi'
  rw [ho,Bool.true_and] at hstep
  refine ⟨_,rfl,zc0 (fun hb=>⟨?_,e2.trans he3⟩) fun hb=>⟨⟨i+1,rfl,.inl hi',e2.trans he3,by rw [hstep];simpa using hb⟩,by omega⟩⟩
  rw [yz5 (n:=i+2) (by rw [hstep];simpa using hb)]
 ·rw [List.take_of_length_le (by omega)] at ho
  rw [ho]
theorem xa4 (a b:UInt8) (x y:List UInt8):Op.bytesLess (a :: x) (b :: y)=(decide (a<b) || (a == b && Op.bytesLess x y)):=rfl
theorem uz8:∀ {x y:List UInt8} (i:Nat) (hx:i<x.length) (hy:i<y.length),x.take i=y.take i→x[i]≠y[i]→Op.bytesLess x y=decide (x[i]<y[i])
 | a :: x,b :: y,0,_,_,_,hne=>by
  simp only [List.getElem_cons_zero] at hne ⊢
  rw [xa4]
  simp [hne]
 | a :: x,b :: y,i+1,hx,hy,ht,hne=>by
  simp only [List.take_succ_cons,List.cons.injEq] at ht
  obtain ⟨rfl,ht⟩:=ht
  simp only [List.getElem_cons_succ] at hne ⊢
  rw [xa4,uz8 i (by simpa using hx) (by simpa using hy) ht hne]
  have:¬ a<a:=by rw [UInt8.lt_iff_toNat_lt];omega
  simp [this]
theorem uo5:∀ {x y:List UInt8} (i:Nat),x.take i=y.take i→(i=x.length∨i=y.length)→i≤x.length→i≤y.length→Op.bytesLess x y=decide (x.length<y.length)∧(x.length=y.length→x=y)
 | [],[],_,_,_,_,_=>⟨rfl,fun _=>rfl⟩
 | [],b :: y,i,_,h,h1,h2=>⟨by simp [Op.bytesLess],fun e=>by simp at e⟩
 | a :: x,[],i,_,h,h1,h2=>⟨by simp [Op.bytesLess],fun e=>by simp at e⟩
 | a :: x,b :: y,0,_,h,_,_=>by simp at h
 | a :: x,b :: y,i+1,ht,h,h1,h2=>by
  simp only [List.take_succ_cons,List.cons.injEq] at ht
  obtain ⟨rfl,ht⟩:=ht
  have ih:=uo5 i ht (by simpa using h) (by simpa using h1) (by simpa using h2)
  rw [xa4,ih.1]
  have:¬ a<a:=by rw [UInt8.lt_iff_toNat_lt];omega
  exact ⟨by simp [this],fun e=>by rw [ih.2 (by simpa using e)]⟩
theorem xb3 (s t:ByteArray) (hs:s.size<9223372036854775807) (ht:t.size<9223372036854775807) (w:World) :
  za0 prog K.zm4 #[.string s,.string t] w fun v w'=>Ext w w'∧∃ n:Int,v= .int .i64 n∧(decide (n<0)=Op.bytesLess s.data.toList t.data.toList)∧(n=0 ↔ s.data.toList=t.data.toList):=by
 apply zm4.sh
 unfold zm4.body
 have e1:=yg5 s
 have e2:=yg5 t
 rw [e1,e2]
 generalize s.data.toList=x at *
 generalize t.data.toList=y at *
 refine ⟨fun z u=>∃ i:Nat,z=i∧i≤x.length∧i≤y.length∧Ext w u∧x.take i=y.take i,fun z _=>((x.length:Int) - z).toNat,⟨0,rfl,by omega,by omega,Upd.refl _ _,rfl⟩,?_⟩
 rintro z u ⟨i,rfl,hx,hy,heu,heq⟩
 have fin:(i=x.length∨i=y.length)→(Ext w u∧∃ n:Int,Value.int .i64 (IntKind.i64.wrap (((x.length:Nat):Int) - ((y.length:Nat):Int)))= .int .i64 n∧(decide (n<0)=Op.bytesLess x y)∧(n=0 ↔ x=y)):=fun h=>by
  obtain ⟨p1,p2⟩:=uo5 i heq h hx hy
  refine ⟨heu,_,rfl,?_,?_⟩
  ·rw [w64 (by omega) (by omega),p1,decide_eq_decide];omega
  ·rw [w64 (by omega) (by omega)]
   exact ⟨fun e=>p2 (by omega),fun e=>by rw [e];omega⟩
 refine za8 (fun hlt=>za8 (fun hlt2=>?_) fun h=>fin (.inr (by omega))) fun h=>fin (.inl (by omega))
 have hx':i<x.length:=by omega
 have hy':i<y.length:=by omega
 intro w₂ hd2
 refine ⟨(·=w₂),rfl,by omega,x[i],by simp [hx'],by omega,y[i],by simp [hy'],zg8 (fun hne=>?_) fun heq'=>?_⟩
 ·intro w₃ hd3
  refine ⟨(·=w₃),rfl,by omega,x[i],by simp [hx'],by omega,y[i],by simp [hy'],(heu.trans hd2.upd).trans hd3.upd,_,rfl,?_,?_⟩
  ·have hne':x[i]≠y[i]:=fun e=>hne (by rw [e])
   rw [uz8 i hx' hy' heq hne',w64n (by have:=x[i].toNat_lt;omega),w64n (by have:=y[i].toNat_lt;omega),w64 (by have:=x[i].toNat_lt;have:=y[i].toNat_lt;omega) (by have:=x[i].toNat_lt;have:=y[i].toNat_lt;omega),decide_eq_decide,UInt8.lt_iff_toNat_lt]
   omega
  ·rw [w64n (by have:=x[i].toNat_lt;omega),w64n (by have:=y[i].toNat_lt;omega),w64 (by have:=x[i].toNat_lt;have:=y[i].toNat_lt;omega) (by have:=x[i].toNat_lt;have:=y[i].toNat_lt;omega)]
   constructor
   ·intro e;exact absurd (by omega) hne
   ·rintro rfl;exact absurd rfl hne
 ·rw [w64 (by omega) (by omega)]
  have hxy:x[i]=y[i]:=UInt8.toNat_inj.1 (by have:(x[i].toNat:Int)=(y[i].toNat:Int):=heq';omega)
  exact ⟨⟨i+1,rfl,hx',hy',heu.trans hd2.upd,by rw [List.take_succ_eq_append_getElem hx',List.take_succ_eq_append_getElem hy',heq,hxy]⟩,meas hx'⟩
theorem yi9 (a b:Key) (ha:a.name.size<9223372036854775807) (hb:b.name.size<9223372036854775807) (w:World):za0 prog K.zh4 #[keyV a,keyV b] w fun v w'=>v= .bool (zl9 a b)∧Ext w w':=by
 apply zh4.sh
 suffices H:∀ R:Value→World→Prop,(∀ v w',v= .bool (zl9 a b)∧Ext w w'→R v w')→zh4.body a.ino a.what.toNat a.name a.chunk b.ino b.what.toNat b.name b.chunk w R from H _ fun _ _ h=>h
 intro R hR
 unfold zh4.body
 simp only [add_lit,Nat.zero_add]
 intro B1 w₁ hn1 B2 w₂ hn2
 have g1:zz5 w₂ B1 a:=Ext.get hn2.upd hn1.get
 have g2:zz5 w₂ B2 b:=hn2.get
 have e2:=hn1.upd.trans hn2.upd
 rw [uf9] at hR
 refine ⟨_,za2 g1 rfl,_,za2 g2 rfl,zg8 (fun hne=>⟨_,za2 g1 rfl,_,za2 g2 rfl,hR _ _ ⟨?_,e2⟩⟩) fun h1=>?_⟩
 ·rw [decide_eq_false (p:=a.ino=b.ino) hne];simp
 rw [decide_eq_false (p:=a.ino<b.ino) (by omega),decide_eq_true (p:=a.ino=b.ino) h1,Bool.false_or,Bool.true_and] at hR
 refine ⟨_,za2 g1 rfl,_,za2 g2 rfl,zg8 (fun hne=>⟨_,za2 g1 rfl,_,za2 g2 rfl,hR _ _ ⟨?_,e2⟩⟩) fun h2=>?_⟩
 ·have hne':a.what≠b.what:=fun e=>hne (by rw [e])
  rw [decide_eq_false (p:=a.what=b.what) hne']
  simp only [Bool.false_and,Bool.or_false]
  congr 1
  rw [decide_eq_decide,UInt8.lt_iff_toNat_lt];omega
 have h2':a.what=b.what:=UInt8.toNat_inj.1 (by have:(a.what.toNat:Int)=(b.what.toNat:Int):=h2;omega)
 rw [decide_eq_false (p:=a.what<b.what) (by rw [UInt8.lt_iff_toNat_lt];omega),decide_eq_true (p:=a.what=b.what) h2',Bool.false_or,Bool.true_and] at hR
 refine ⟨_,za2 g1 rfl,_,za2 g2 rfl,(xb3 a.name b.name ha hb w₂).mono ?_⟩
 rintro _ w₃ ⟨he3,n,rfl,hn1',hn2'⟩
 have hbl:Op.bytesLess a.bytes b.bytes=decide (n<0):=hn1'.symm
 have hbe:n=0 ↔ a.bytes=b.bytes:=hn2'
 refine ⟨_,rfl,zg8 (fun hne=>hR _ _ ⟨?_,e2.trans he3⟩) fun h3=>⟨_,za2 (Ext.get he3 g1) rfl,_,za2 (Ext.get he3 g2) rfl,hR _ _ ⟨?_,e2.trans he3⟩⟩⟩
 ·rw [hbl,decide_eq_false (p:=a.bytes=b.bytes) (fun e=>hne (hbe.2 e))];simp
 ·rw [hbl,decide_eq_true (p:=a.bytes=b.bytes) (hbe.1 h3),decide_eq_false (p:=n<0) (by omega)];simp
def yl7 (c:zb2) (s:List Fact×Bool) (x:Fact):List Fact×Bool :=
 if x.key=c.key then (if s.2 then s else (s.1 ++ [⟨c.key,c.val⟩],true))
 else if !s.2 && zl9 c.key x.key then (s.1 ++ [⟨c.key,c.val⟩] ++ [x],true)
 else (s.1 ++ [x],s.2)
def ym3 (c:zb2) (l:List Fact):List Fact×Bool:=l.foldl (yl7 c) ([],c.gone)
def oneF (c:zb2) (l:List Fact):List Fact:=cond (ym3 c l).2 (ym3 c l).1 ((ym3 c l).1 ++ [⟨c.key,c.val⟩])
theorem yo2 {c:zb2}:∀ {l:List Fact} {acc:List Fact},(∀ x∈l,x.key≠c.key)→l.foldl (yl7 c) (acc,true)=(acc ++ l,true)
 | [],acc,_=>by simp
 | x :: l,acc,h=>by
  have hx:=h x (by simp)
  rw [List.foldl_cons]
  have:yl7 c (acc,true) x=(acc ++ [x],true):=by unfold yl7;rw [if_neg hx];simp
  rw [this,yo2 fun y hy=>h y (by simp [hy])]
  simp
theorem uf8 {x:Fact} {l:List Fact} {k:Key} (h:∀ y∈l,zl9 x.key y.key=true) (hk:x.key=k∨zl9 k x.key=true):∀ y∈l,y.key≠k:=fun y hy e=>by
 have h1:=h y hy
 rcases hk with hk | hk
 ·rw [e,hk,yk8] at h1;cases h1
 ·have:=yb8 hk h1
  rw [e,yk8] at this;cases this
theorem ub1 {c:zb2}:∀ {l:List Fact} {acc:List Fact},yg0 l→
  cond (l.foldl (yl7 c) (acc,c.gone)).2 (l.foldl (yl7 c) (acc,c.gone)).1 ((l.foldl (yl7 c) (acc,c.gone)).1 ++ [⟨c.key,c.val⟩])=acc ++ putF c l
 | [],acc,_=>by
  simp only [List.foldl_nil]
  cases hg:c.gone<;>simp [putF,hg]
 | x :: l,acc,h=>by
  obtain ⟨h1,h2⟩:=List.pairwise_cons.1 h
  rw [List.foldl_cons]
  unfold putF
  by_cases he:x.key=c.key
  ·rw [if_pos he]
   have hne:=uf8 (k:=c.key) h1 (.inl he)
   by_cases hg:c.gone=true
   ·have:yl7 c (acc,c.gone) x=(acc,true):=by unfold yl7;rw [if_pos he,if_pos hg,hg]
    rw [this,yo2 hne,if_pos hg];rfl
   ·have:yl7 c (acc,c.gone) x=(acc ++ [⟨c.key,c.val⟩],true):=by unfold yl7;rw [if_pos he,if_neg hg]
    rw [this,yo2 hne,if_neg hg];simp
  ·rw [if_neg he]
   by_cases hb:zl9 c.key x.key=true
   ·rw [if_pos hb]
    have hne:∀ y∈l,y.key≠c.key:=uf8 h1 (.inr hb)
    by_cases hg:c.gone=true
    ·have:yl7 c (acc,c.gone) x=(acc ++ [x],true):=by unfold yl7;rw [if_neg he,hg];simp
     rw [this,yo2 hne,if_pos hg];simp
    ·have hg':c.gone=false:=by simpa using hg
     have:yl7 c (acc,c.gone) x=(acc ++ [⟨c.key,c.val⟩] ++ [x],true):=by unfold yl7;rw [if_neg he,hg',hb];simp
     rw [this,yo2 hne,if_neg hg];simp
   ·rw [if_neg hb]
    have hb':zl9 c.key x.key=false:=by simpa using hb
    have:yl7 c (acc,c.gone) x=(acc ++ [x],c.gone):=by unfold yl7;rw [if_neg he,hb'];simp
    rw [this,ub1 h2];simp
theorem qe5 {c:zb2} {l:List Fact} (h:yg0 l):oneF c l=putF c l:=by
 exact ub1 (c:=c) (acc:=[]) h
theorem vp6 (c:zb2) {l:List Fact} {i:Nat} (hi:i<l.length):ym3 c (l.take (i+1))=yl7 c (ym3 c (l.take i)) l[i]:=by
 unfold ym3
 rw [List.take_succ_eq_append_getElem hi,List.foldl_append];rfl
theorem uv8 (c:zb2) (s:List Fact×Bool) (x:Fact):(yl7 c s x).1.length≤s.1.length+2:=by
 unfold yl7
 split
 ·split<;>simp
 ·split<;>simp
theorem vg1 (c:zb2) (l:List Fact):∀ i,(ym3 c (l.take i)).1.length≤2 * i
 | 0=>by simp [ym3]
 | i+1=>by
  by_cases hi:i<l.length
  ·rw [vp6 c hi]
   have:=uv8 c (ym3 c (l.take i)) l[i]
   have:=vg1 c l i
   omega
  ·have:l.take (i+1)=l.take i:=by rw [List.take_of_length_le (by omega),List.take_of_length_le (by omega)]
   rw [this]
   have:=vg1 c l i
   omega
theorem qa0 (a b:Key):((a.ino == b.ino) && (((a.what.toNat:Int) == (b.what.toNat:Int)) && ((a.name.toList == b.name.toList) && ((a.chunk == b.chunk) && true))))=decide (a=b):=by
 rw [u8b,vt3,Bool.eq_iff_iff]
 simp only [Bool.and_eq_true,beq_iff_eq,and_true,decide_eq_true_eq]
 constructor
 ·rintro ⟨h1,h2,h3,h4⟩
  obtain ⟨a1,a2,⟨⟨a3⟩⟩,a4⟩:=a
  obtain ⟨b1,b2,⟨⟨b3⟩⟩,b4⟩:=b
  simp only at h1 h2 h3 h4
  subst h1;subst h2;subst h3;subst h4;rfl
 ·rintro rfl;exact ⟨rfl,rfl,rfl,rfl⟩
theorem xg9 {w:World} {G:Nat→Prop} {a av:Option Addr} {cp cv:Nat} {l:List Fact} {x:zb2} (h:zb0 zg2 w G a l) (hG:∀ b,G b→b<w.heap.size) (hb:za4 w av x.val) (hbl:x.val.length≤140737488355232) (hn:l.length≤100000000)
  (hnl:∀ f∈l,f.key.name.size<9223372036854775807) (hnx:x.key.name.size<9223372036854775807) :
  za0 prog K.zn8 #[.slice a l.length cp,.agg #[.int .i64 x.key.ino,bv x.key.what,.string x.key.name,.int .i64 x.key.chunk,.slice av x.val.length cv,.bool x.gone]] w fun v w'=>∃ a' c',v= .slice a' (oneF x l).length c'∧zb4 zg2 G w.heap.size w' a' c' T.za9 (oneF x l)∧Ext w w':=by
 apply zn8.sh
 suffices H:∀ R:Value→World→Prop,(∀ v w',(∃ a' c',v= .slice a' (oneF x l).length c'∧zb4 zg2 G w.heap.size w' a' c' T.za9 (oneF x l)∧Ext w w')→R v w')→zn8.body a l.length cp x.key.ino x.key.what.toNat x.key.name x.key.chunk av x.val.length cv x.gone w R from H _ fun _ _ h=>h
 intro R hR
 unfold zn8.body
 simp only [add_lit,Nat.zero_add]
 intro B1 w₁ hn1
 have hb1:B1=w.heap.size:=hn1.num
 have hs1:=hn1.size
 have g1:w₁.heap[B1]?=some (.cells (yn8 x.key av x.val.length cv x.gone).toArray T.zc9 (0,0)):=hn1.get
 refine ⟨_,za2 g1 rfl,_,_,_,za2 g1 rfl,yi2 (hb.ext hn1.upd) (by omega) fun a2 c2 w₂ he2 hb2 hc2 hf2 hnil=>?_⟩
 have e2:=hn1.upd.trans he2
 have hs2:=he2.size
 have g2:=Ext.get he2 g1
 have hf2':∀ p,a2=some p→w₁.heap.size≤p.block∧p.block<w₂.heap.size:=fun p hp=>⟨hf2 p hp,by
  by_cases hl0:x.val=[]
  ·rw [hnil hl0] at hp;cases hp
  ·obtain ⟨b',o,hab,hlt⟩:=za6.blk hb2 (by simpa using hl0)
   rw [hab] at hp;cases hp;exact hlt⟩
 have kcell:∀ {u:World},Ext w₂ u→za3 u ⟨B1,0,none⟩ [.int .i64 x.key.ino,bv x.key.what,.string x.key.name,.int .i64 x.key.chunk] 0:=fun he=>zl2 (o:=0) (vs:=x.key.vals) (Ext.get he g2) (fun j v hj=>by
  rcases j with _ | _ | _ | _ | j
  all_goals simp [Key.vals] at hj ⊢
  all_goals exact hj)
 refine ⟨fun a3 l3 c3 b2 x1 u=>∃ i:Nat,x1=i∧i≤l.length∧l3=(ym3 x (l.take i)).1.length∧b2=(ym3 x (l.take i)).2∧zb4 zg2 (fun b=>G b∨(w₁.heap.size≤b∧b<w₂.heap.size)) w₂.heap.size u a3 c3 T.za9 (ym3 x (l.take i)).1∧Ext w₂ u,fun _ _ _ _ y _=>((l.length:Int) - y).toNat,
  ⟨0,rfl,by omega,rfl,rfl,zb4.nil _ _,Upd.refl _ _⟩,?_⟩
 rintro a3 l3 c3 b2 x1 u ⟨i,rfl,hi,rfl,rfl,hl,heu⟩
 have hlen:=vg1 x l i
 have hsu:=heu.size
 have pushNew:∀ {u u':World} {B:Nat} {a3:Option Addr} {c3:Nat} {acc:List Fact} {K:Option Addr→Nat→Nat→World→Prop},zb4 zg2 (fun b=>G b∨(w₁.heap.size≤b∧b<w₂.heap.size)) w₂.heap.size u a3 c3 T.za9 acc→acc.length≤900000000→Ext w₂ u→New u (.cells #[.int .i64 x.key.ino,bv x.key.what,.string x.key.name,.int .i64 x.key.chunk,.slice a2 x.val.length c2] T.za9) B u'→
   (∀ a' c' w',zb4 zg2 (fun b=>G b∨(w₁.heap.size≤b∧b<w₂.heap.size)) w₂.heap.size w' a' c' T.za9 (acc ++ [(⟨x.key,x.val⟩: Fact)])→Ext w₂ w'→K a' (acc ++ [(⟨x.key,x.val⟩: Fact)]).length c' w')→zb5 T.za9 5 64 [.int .i64 0,.int .u8 0,.string ByteArray.empty,.int .i64 0,.slice none 0 0] a3 acc.length c3 (.slice (some ⟨B,0,none⟩) 1 1) u' K:=by
  intro u u' B a3 c3 acc K hl hal he hn hK
  have hs:=hn.size
  have hse:=he.size
  refine zb4.push (r:=zg2) (H:=fun b=>w₁.heap.size≤b∧b<w₂.heap.size) (x:=⟨x.key,x.val⟩) (hl.ext hn.upd) (ys6 (x:=⟨x.key,x.val⟩) hc2 ((hb2.ext he).ext hn.upd) fun _ p hp=>hf2' p hp) (fun b hb=>⟨.inr (.inr hb),by omega,fun hab=>?_⟩) hn rfl rfl (by omega) (by omega) (by omega) fun a' c' w' hu hl'=>hK a' c' w' hl' (Ext.own (he.trans hn.upd) hu (Nat.le_refl _))
  obtain ⟨_,_,_,h3⟩:=hl
  have:=(h3 b hab).1
  omega
 have pushOld:∀ {u u':World} {B:Nat} {a3 ao:Option Addr} {c3 co:Nat} {acc:List Fact} {f:Fact} {K:Option Addr→Nat→Nat→World→Prop},f.val.length≤co→za4 u ao f.val→(f.val≠[]→∀ p,ao=some p→G p.block)→zb4 zg2 (fun b=>G b∨(w₁.heap.size≤b∧b<w₂.heap.size)) w₂.heap.size u a3 c3 T.za9 acc→acc.length≤900000000→Ext w₂ u→New u (.cells (xl4 f.key ao f.val.length co).toArray T.za9) B u'→
   (∀ a' c' w',zb4 zg2 (fun b=>G b∨(w₁.heap.size≤b∧b<w₂.heap.size)) w₂.heap.size w' a' c' T.za9 (acc ++ [f])→Ext w₂ w'→K a' (acc ++ [f]).length c' w')→zb5 T.za9 5 64 [.int .i64 0,.int .u8 0,.string ByteArray.empty,.int .i64 0,.slice none 0 0] a3 acc.length c3 (.slice (some ⟨B,0,none⟩) 1 1) u' K:=by
  intro u u' B a3 ao c3 co acc f K hco hbo hgo hl hal he hn hK
  have hs:=hn.size
  have hse:=he.size
  refine zb4.push (r:=zg2) (H:=fun b=>G b) (x:=f) (hl.ext hn.upd) (ys6 hco (hbo.ext hn.upd) hgo) (fun b hb=>⟨.inr (.inl hb),by have:=hG b hb;omega,fun hab=>?_⟩) hn rfl rfl (by omega) (by omega) (by omega) fun a' c' w' hu hl'=>hK a' c' w' hl' (Ext.own (he.trans hn.upd) hu (Nat.le_refl _))
  obtain ⟨_,_,_,h3⟩:=hl
  have:=(h3 b hab).1
  have:=hG b hb
  omega
 refine za8 (fun hlt=>?_) fun hge=>?_
 ·have hi':i<l.length:=by omega
  have ew:IntKind.i64.wrap ((i:Int)+1)=((i+1:Nat):Int):=w64 (by omega) (by omega)
  simp only [ew]
  have hsucc:=vp6 x hi'
  intro w₄ hd4
  have e4:=heu.trans hd4.upd
  have hl4:=hl.ext hd4.upd
  have step:∀ {a':Option Addr} {l' c':Nat} {b':Bool} {w':World} {acc:List Fact},(acc,b')=yl7 x (ym3 x (l.take i)) l[i]→l'=acc.length→zb4 zg2 (fun b=>G b∨(w₁.heap.size≤b∧b<w₂.heap.size)) w₂.heap.size w' a' c' T.za9 acc→Ext w₂ w'→
    (∃ k:Nat,((i+1:Nat):Int)=k∧k≤l.length∧l'=(ym3 x (l.take k)).1.length∧b'=(ym3 x (l.take k)).2∧zb4 zg2 (fun b=>G b∨(w₁.heap.size≤b∧b<w₂.heap.size)) w₂.heap.size w' a' c' T.za9 (ym3 x (l.take k)).1∧Ext w₂ w')∧((l.length:Int) - ((i+1:Nat):Int)).toNat<((l.length:Int) - (i:Int)).toNat:=fun {a' l' c' b' w' acc} hacc hll hla he=>by
   have h1:ym3 x (l.take (i+1))=(acc,b'):=by rw [hsucc,← hacc]
   exact ⟨⟨i+1,rfl,hi',by rw [h1];exact hll,by rw [h1],by rw [h1];exact hla,he⟩,meas hi'⟩
  refine ⟨fun u=>Ext w₄ u,Upd.refl _ _,zb0.idx (r:=zg2) (h.ext (e2.trans e4)) rfl hi' fun b1 o1 vs1 _ hrow1 hR1 _=>?_⟩
  obtain ⟨a1,c1,rfl,hc1,hb1',hg1'⟩:=zp8 hR1
  refine ⟨_,_,_,_,fun u1 hu1=>(za6.take (hrow1.ext hu1) 4).cells,_,_,_,_,fun u1 hu1=>kcell (e4.trans hu1),?_⟩
  rw [qa0]
  have hal:(ym3 x (l.take i)).1.length≤200000000:=by omega
  generalize hst:ym3 x (l.take i)=st at *
  have old:∀ {v:World} {a5:Option Addr} {c5:Nat} {acc:List Fact} {b':Bool} {l5:Nat},l5=acc.length→acc.length≤800000000→(acc ++ [l[i]],b')=yl7 x st l[i]→Ext w₂ v→zb4 zg2 (fun b=>G b∨(w₁.heap.size≤b∧b<w₂.heap.size)) w₂.heap.size v a5 c5 T.za9 acc→
    idxP a l.length (i:Int) 5 fun q=>∃ x8 x9:Int,∃ s3:ByteArray,∃ x10:Int,∃ (a6:Option Addr) (l6 c6:Nat),za3 v q [.int .i64 x8,.int .u8 x9,.string s3,.int .i64 x10,.slice a6 l6 c6] 0∧
     ∀ B4 v',New v (.cells #[.int .i64 x8,.int .u8 x9,.string s3,.int .i64 x10,.slice a6 l6 c6] T.za9) B4 v'→zb5 T.za9 5 64 [.int .i64 0,.int .u8 0,.string ByteArray.empty,.int .i64 0,.slice none 0 0] a5 l5 c5 (.slice (some ⟨B4,0,none⟩) 1 1) v' fun a7 l7 c7 v'' =>
      (∃ k:Nat,((i+1:Nat):Int)=k∧k≤l.length∧l7=(ym3 x (l.take k)).1.length∧b'=(ym3 x (l.take k)).2∧zb4 zg2 (fun b=>G b∨(w₁.heap.size≤b∧b<w₂.heap.size)) w₂.heap.size v'' a7 c7 T.za9 (ym3 x (l.take k)).1∧Ext w₂ v'')∧((l.length:Int) - ((i+1:Nat):Int)).toNat<((l.length:Int) - (i:Int)).toNat:=by
   intro v a5 c5 acc b' l5 hl5 hacc hstep hev hla
   subst hl5
   refine zb0.idx (r:=zg2) (h.ext (e2.trans hev)) rfl hi' fun b1 o1 vs1 _ hrow1 hR1 _=>?_
   obtain ⟨ao,co,rfl,hco,hbo,hgo⟩:=zp8 hR1
   refine ⟨_,_,_,_,_,_,_,hrow1.cells,fun B4 v' hn'=>?_⟩
   exact pushOld hco hbo hgo hla (by omega) hev hn' fun a' c' w' hl' he'=>step hstep rfl hl' he'
  have new:∀ {v:World} {K:Option Addr→Nat→Nat→World→Prop},Ext w₄ v→(∀ a' c' w',zb4 zg2 (fun b=>G b∨(w₁.heap.size≤b∧b<w₂.heap.size)) w₂.heap.size w' a' c' T.za9 (st.1 ++ [(⟨x.key,x.val⟩: Fact)])→Ext w₂ w'→K a' (st.1 ++ [(⟨x.key,x.val⟩: Fact)]).length c' w')→
    ∃ x8 x9:Int,∃ s3:ByteArray,∃ x10:Int,za3 v ⟨B1,0,none⟩ [.int .i64 x8,.int .u8 x9,.string s3,.int .i64 x10] 0∧∀ B2 v',New v (.cells #[.int .i64 x8,.int .u8 x9,.string s3,.int .i64 x10,.slice a2 x.val.length c2] T.za9) B2 v'→
     zb5 T.za9 5 64 [.int .i64 0,.int .u8 0,.string ByteArray.empty,.int .i64 0,.slice none 0 0] a3 st.1.length c3 (.slice (some ⟨B2,0,none⟩) 1 1) v' K:=by
   intro v K hev hK
   exact ⟨_,_,_,_,kcell (e4.trans hev),fun B2 v' hn'=>pushNew (hl4.ext hev) (by omega) (e4.trans hev) hn' hK⟩
  refine za8 (fun hkey=>zc0 (fun hd=>?_) fun hd=>?_) fun hkey=>?_
  ·have hd':st.2=false:=by simpa using hd
   refine new (Upd.refl _ _) fun a' c' w' hl' he'=>step (acc:=st.1 ++ [⟨x.key,x.val⟩]) ?_ rfl hl' he'
   unfold yl7
   rw [if_pos hkey,hd'];rfl
  ·have hd':st.2=true:=by simpa using hd
   refine step (acc:=st.1) ?_ rfl hl4 e4
   unfold yl7
   rw [if_pos hkey,hd',if_pos rfl]
   rw [← hd']
  ·intro w₇ hd7
   have e7:=e4.trans hd7.upd
   refine ⟨fun u=>Ext w₇ u,Upd.refl _ _,zc0 (fun hd=>?_) fun hd=>?_⟩
   ·have hd':st.2=false:=by simpa using hd
    refine ⟨_,_,_,_,fun u3 hu3=>kcell (e7.trans hu3),zb0.idx (r:=zg2) (h.ext (e2.trans e7)) rfl hi' fun b1 o1 vs1 _ hrow1 hR1 _=>?_⟩
    obtain ⟨ao,co,rfl,hco,hbo,hgo⟩:=zp8 hR1
    refine ⟨_,_,_,_,fun u3 hu3=>(za6.take (hrow1.ext hu3) 4).cells,(yi9 x.key l[i].key hnx (hnl _ (List.getElem_mem _)) w₇).mono ?_⟩
    rintro _ w₈ ⟨rfl,he8⟩
    refine ⟨_,rfl,zc0 (fun hbf=>?_) fun hbf=>?_⟩
    ·refine new (hd7.upd.trans he8) fun a' c' w' hl' he'=>old (acc:=st.1 ++ [⟨x.key,x.val⟩]) (b':=true) rfl (by simp;omega) ?_ he' hl'
     unfold yl7
     rw [if_neg hkey,hd',hbf];rfl
    ·refine old (acc:=st.1) (b':=st.2) rfl (by omega) ?_ (e7.trans he8) (hl4.ext (hd7.upd.trans he8))
     unfold yl7
     rw [if_neg hkey,hbf];simp
   ·have hd':st.2=true:=by simpa using hd
    refine old (acc:=st.1) (b':=st.2) rfl (by omega) ?_ e7 (hl4.ext hd7.upd)
    unfold yl7
    rw [if_neg hkey,hd'];simp
 ·have hii:i=l.length:=by omega
  subst hii
  rw [List.take_length] at hl hlen ⊢
  have hw:∀ {u a c acc},zb4 zg2 (fun b=>G b∨(w₁.heap.size≤b∧b<w₂.heap.size)) w₂.heap.size u a c T.za9 acc→zb4 zg2 G w.heap.size u a c T.za9 acc:=fun h=>h.weak (by omega) fun b hb=>by
   rcases hb with hb | hb
   ·exact .inr hb
   ·exact .inl (by omega)
  have hone:oneF x l=cond (ym3 x l).2 (ym3 x l).1 ((ym3 x l).1 ++ [⟨x.key,x.val⟩]):=rfl
  refine zc0 (fun hd=>?_) fun hd=>?_
  ·have hd':(ym3 x l).2=false:=by simpa using hd
   rw [hd'] at hone
   rw [hone] at hR
   refine ⟨_,_,_,_,kcell heu,fun B7 v' hn'=>pushNew hl (by omega) heu hn' fun a' c' w' hl' he'=>hR _ _ ⟨a',c',rfl,hw hl',e2.trans he'⟩⟩
  ·have hd':(ym3 x l).2=true:=by simpa using hd
   rw [hd'] at hone
   rw [hone] at hR
   exact hR _ _ ⟨a3,c3,rfl,hw hl,e2.trans heu⟩
def xh7 (l:List Fact):Prop:=∀ f∈l,f.key.name.size<9223372036854775807
def up8 (l:List zb2):Prop:=∀ x∈l,x.key.name.size<9223372036854775807∧x.val.length≤140737488355232
theorem xh7.put {c:zb2} {l:List Fact} (h:xh7 l) (hc:c.key.name.size<9223372036854775807):xh7 (putF c l):=fun f hf=>by
 rcases xi9 hf with hf | ⟨_,rfl⟩
 ·exact h f hf
 ·exact hc
theorem xb7 (l:List Fact) {cs:List zb2} {i:Nat} (hi:i<cs.length):zt9 l (cs.take (i+1))=putF cs[i] (zt9 l (cs.take i)):=by
 unfold zt9
 rw [List.take_succ_eq_append_getElem hi,List.foldl_append];rfl
theorem yk9 (l:List Fact) (cs:List zb2):∀ i,(zt9 l (cs.take i)).length≤l.length+i
 | 0=>by simp [zt9]
 | i+1=>by
  by_cases hi:i<cs.length
  ·rw [xb7 l hi]
   have:=ve5 cs[i] (zt9 l (cs.take i))
   have:=yk9 l cs i
   omega
  ·have:cs.take (i+1)=cs.take i:=by rw [List.take_of_length_le (by omega),List.take_of_length_le (by omega)]
   rw [this]
   have:=yk9 l cs i
   omega
theorem yu1 {l:List Fact} {cs:List zb2} (h:xh7 l) (hc:up8 cs):∀ i,xh7 (zt9 l (cs.take i))
 | 0=>by simpa [zt9] using h
 | i+1=>by
  by_cases hi:i<cs.length
  ·rw [xb7 l hi]
   exact (yu1 h hc i).put (hc _ (List.getElem_mem _)).1
  ·have:cs.take (i+1)=cs.take i:=by rw [List.take_of_length_le (by omega),List.take_of_length_le (by omega)]
   rw [this]
   exact yu1 h hc i
theorem yv5 {w:World} {G:Nat→Prop} {a:Option Addr} {c:Nat} {l:List Fact} (h:zb0 zg2 w G a l) (hn:l.length<9000000000000000000) (hnl:xh7 l) :
  za0 prog K.zj4 #[.slice a l.length c] w fun v w'=>v= .bool (zg6 l)∧Ext w w':=by
 apply zj4.sh
 unfold zj4.body
 refine ⟨fun x u=>∃ i:Nat,x=((i+1:Nat):Int)∧(i+1≤l.length∨i=0)∧Ext w u∧zg6 (l.take (i+1))=true,fun x _=>((l.length:Int) - x).toNat,⟨0,rfl,.inr rfl,Upd.refl _ _,yz4 (by rw [List.length_take];omega)⟩,?_⟩
 rintro x u ⟨i,rfl,hi,heu,ho⟩
 refine za8 (fun hlt=>?_) fun hge=>⟨?_,heu⟩
 ·have hi':i+1<l.length:=by omega
  have hi0:i<l.length:=by omega
  intro w₂ hd2
  have e2:=heu.trans hd2.upd
  have q1:IntKind.i64.wrap (((i+1:Nat):Int) - 1)=(i:Int):=by rw [w64 (by omega) (by omega)];omega
  have q2:IntKind.i64.wrap (((i+1:Nat):Int)+1)=((i+1+1:Nat):Int):=by rw [w64 (by omega) (by omega)];omega
  simp only [q1,q2]
  refine ⟨fun u=>Ext w₂ u,Upd.refl _ _,zb0.idx (r:=zg2) (h.ext e2) rfl hi0 fun b o vs _ hrow hR _=>?_⟩
  obtain ⟨_,_,rfl,_,_,_⟩:=zp8 hR
  refine ⟨_,_,_,_,fun u1 hu1=>(za6.take (hrow.ext hu1) 4).cells,zb0.idx (r:=zg2) (h.ext e2) rfl hi' fun b o vs _ hrow hR _=>?_⟩
  obtain ⟨_,_,rfl,_,_,_⟩:=zp8 hR
  refine ⟨_,_,_,_,fun u1 hu1=>(za6.take (hrow.ext hu1) 4).cells,(yi9 l[i].key l[i+1].key (hnl _ (List.getElem_mem _)) (hnl _ (List.getElem_mem _)) w₂).mono ?_⟩
  rintro _ w₃ ⟨rfl,he3⟩
  have hstep:=xe6 l hi'
  rw [ho,Bool.true_and] at hstep
  refine ⟨_,rfl,zc0 (fun hb=>⟨?_,e2.trans he3⟩) fun hb=>⟨⟨i+1,rfl,.inl hi',e2.trans he3,by rw [hstep];simpa using hb⟩,by omega⟩⟩
  rw [yz5 (n:=i+2) (by rw [hstep];simpa using hb)]
 ·rw [List.take_of_length_le (by omega)] at ho
  rw [ho]
theorem zt7 {w:World} {G Gc:Nat→Prop} {a ac:Option Addr} {c cc:Nat} {l:List Fact} {cs:List zb2} (h:zb0 zg2 w G a l) (hG:∀ b,G b→b<w.heap.size) (hc:zb0 zc4 w Gc ac cs) (hn:l.length+cs.length≤100000000) (hnl:xh7 l) (hnc:up8 cs) :
  za0 prog K.zd3 #[.slice a l.length c,.slice ac cs.length cc] w fun v w'=>∃ a' c',v= .slice a' (ze0 l cs).length c'∧zb4 zg2 G w.heap.size w' a' c' T.za9 (ze0 l cs)∧Ext w w':=by
 apply zd3.sh
 suffices H:∀ R:Value→World→Prop,(∀ v w',(∃ a' c',v= .slice a' (ze0 l cs).length c'∧zb4 zg2 G w.heap.size w' a' c' T.za9 (ze0 l cs)∧Ext w w')→R v w')→zd3.body a l.length c ac cs.length cc w R from H _ fun _ _ h=>h
 intro R hR
 unfold zd3.body
 refine (yv5 h (by omega) hnl).mono ?_
 rintro _ w₁ ⟨rfl,he1⟩
 have hs1:=he1.size
 refine ⟨_,rfl,zc0 (fun ho=>?_) fun ho=>?_⟩
 ·have ho':zg6 l=false:=by simpa using ho
  have hap:ze0 l cs=[]:=by unfold ze0;rw [if_neg (by rw [ho'];decide)]
  rw [hap] at hR
  exact hR _ _ ⟨none,0,rfl,zb4.nil _ _,he1⟩
 have ho':zg6 l=true:=by simpa using ho
 have hsorted:=zq0.1 ho'
 have hap:ze0 l cs=zt9 l cs:=by unfold ze0;rw [if_pos ho']
 rw [hap] at hR
 refine zb4.concat (r:=zg2) (H:=G) (Q:=G) (S:=w.heap.size) (l:=[]) (zb4.nil _ _) (h.ext he1) (fun b hb=>⟨.inr hb,by have:=hG b hb;omega,fun hab=>by cases hab⟩) rfl rfl rfl (by simp;omega) (by omega) hs1 fun a1 c1 w₂ hu2 hl2=>?_
 have e2:=Ext.own he1 hu2 (Nat.le_refl _)
 rw [List.nil_append] at hl2 ⊢
 refine ⟨fun a2 l2 c2 x u=>∃ i:Nat,x=i∧i≤cs.length∧l2=(zt9 l (cs.take i)).length∧zb4 zg2 G w.heap.size u a2 c2 T.za9 (zt9 l (cs.take i))∧Ext w u,fun _ _ _ x _=>((cs.length:Int) - x).toNat,
  ⟨0,rfl,by omega,rfl,hl2,e2⟩,?_⟩
 rintro a2 l2 c2 x u ⟨i,rfl,hi,rfl,hl,heu⟩
 refine za8 (fun hlt=>?_) fun hge=>?_
 ·have hi':i<cs.length:=by omega
  have ew:IntKind.i64.wrap ((i:Int)+1)=((i+1:Nat):Int):=w64 (by omega) (by omega)
  simp only [ew]
  have hcs:=hnc _ (List.getElem_mem hi')
  have hlen:=yk9 l cs i
  refine zb0.idx (r:=zc4) (hc.ext heu) rfl hi' fun b o vs _ hrow hR' _=>?_
  obtain ⟨av,cv,rfl,hcv,hbv,_⟩:=zp6 hR'
  obtain ⟨G',hG1,hG2⟩:=hl.slice
  refine ⟨_,_,_,_,_,_,_,_,hrow.cells,(xg9 (x:=cs[i]) hG1 (fun b hb=>(hG2 b hb).2) hbv hcs.2 (by omega) (yu1 hnl hnc i) hcs.1).mono ?_⟩
  rintro _ w₄ ⟨a',c',rfl,hl4,he4⟩
  have hput:oneF cs[i] (zt9 l (cs.take i))=zt9 l (cs.take (i+1)):=by
   rw [xb7 l hi',qe5 (zz4 hsorted)]
  rw [hput] at hl4 ⊢
  exact ⟨_,_,_,rfl,⟨i+1,rfl,hi',rfl,hl4.weak heu.size fun b hb=>(hG2 b hb).1,heu.trans he4⟩,meas hi'⟩
 ·have hii:i=cs.length:=by omega
  subst hii
  rw [List.take_length] at hl ⊢
  exact hR _ _ ⟨a2,c2,rfl,hl,heu⟩
theorem half {lo hi:Nat} (h:lo+hi<9000000000000000000):IntKind.i64.wrap (Int.fdiv (IntKind.u64.wrap (IntKind.i64.wrap ((lo:Int)+(hi:Int)))) (2 ^ (min (Int.toNat (1:Int)) (IntKind.bits .u64))))=(((lo+hi) / 2:Nat):Int):=by
 have e1:IntKind.i64.wrap ((lo:Int)+(hi:Int))=((lo+hi:Nat):Int):=by rw [w64 (by omega) (by omega)];omega
 have e2:min (Int.toNat (1:Int)) (IntKind.bits .u64)=1:=by decide
 rw [e1,ql5 (by omega),e2]
 have e3:Int.fdiv ((lo+hi:Nat):Int) (2 ^ 1)=(((lo+hi) / 2:Nat):Int):=by
  rw [Int.fdiv_eq_ediv_of_nonneg _ (by decide)];omega
 rw [e3,w64n (by omega)]
theorem xy9 {n m:Nat} (hm:m≤n) (hn:n<4000000000000000000) {f:Value} {w:World} (hf:∀ u,Ext w u→∀ i,i<n→yp7 f [.int .i64 i] u fun v u'=>v= .bool (decide (m≤i))∧Ext u u') :
  za0 prog K.yb9 #[.int .i64 n,f] w fun v w'=>v= .int .i64 m∧Ext w w':=by
 apply yb9.sh
 unfold yb9.body
 refine ⟨fun x y u=>∃ lo hi:Nat,x=lo∧y=hi∧lo≤m∧m≤hi∧hi≤n∧Ext w u,fun x y _=>(y - x).toNat,⟨0,n,rfl,rfl,by omega,hm,by omega,Upd.refl _ _⟩,?_⟩
 rintro x y u ⟨lo,hi,rfl,rfl,h1,h2,h3,heu⟩
 refine za8 (fun hlt=>⟨by decide,?_⟩) fun hge=>⟨by rw [show lo=m by omega],heu⟩
 have hh:=half (lo:=lo) (hi:=hi) (by omega)
 simp only [hh]
 have hmid:(lo+hi) / 2<hi:=by omega
 have hmid2:lo≤(lo+hi) / 2:=by omega
 refine (hf u heu ((lo+hi) / 2) (by omega)).mono ?_
 rintro _ u' ⟨rfl,he'⟩
 have ew:IntKind.i64.wrap ((((lo+hi) / 2:Nat):Int)+1)=(((lo+hi) / 2+1:Nat):Int):=by rw [w64 (by omega) (by omega)];omega
 refine ⟨_,rfl,zc0 (fun hb=>?_) fun hb=>?_⟩
 ·have hb':¬ m≤(lo+hi) / 2:=by simpa using hb
  rw [ew]
  exact ⟨⟨(lo+hi) / 2+1,hi,rfl,rfl,by omega,h2,h3,heu.trans he'⟩,by omega⟩
 ·have hb':m≤(lo+hi) / 2:=by simpa using hb
  exact ⟨⟨lo,(lo+hi) / 2,rfl,rfl,h1,hb',by omega,heu.trans he'⟩,by omega⟩
theorem vi8 {w:World} {G:Nat→Prop} {a:Option Addr} {c:Nat} {l:List Fact} {k:Key} (h:zb0 zg2 w G a l) (hs:yg0 l) (hn:l.length<4000000000000000000) :
  za0 prog K.yd5 #[.slice a l.length c,keyV k] w fun v w'=>v= .tuple #[.int .i64 (zx8 l k:Nat),.bool (decide (∃ h:zx8 l k<l.length,l[zx8 l k].key=k))]∧Ext w w':=by
 apply yd5.sh
 suffices H:∀ R:Value→World→Prop,(∀ v w',v= .tuple #[.int .i64 (zx8 l k:Nat),.bool (decide (∃ h:zx8 l k<l.length,l[zx8 l k].key=k))]∧Ext w w'→R v w')→yd5.body a l.length c k.ino k.what.toNat k.name k.chunk w R from H _ fun _ _ h=>h
 intro R hR
 unfold yd5.body
 intro B1 w₁ hn1 B2 w₂ hn2
 have g1:w₂.heap[B1]?=some (.cells #[.slice a l.length c] T.zp2 (0,0)):=Ext.get hn2.upd hn1.get
 have g2:zz5 w₂ B2 k:=hn2.get
 have e2:=hn1.upd.trans hn2.upd
 have hm:=vz8 l k
 refine ⟨_,_,_,za2 g1 rfl,(xy9 hm hn fun u hu i hi=>?_).mono ?_⟩
 ·refine ⟨by kernel_rfl,?_⟩
  apply yb7.sh
  unfold yb7.body
  intro w₃ hd3
  have e3:=hu.trans hd3.upd
  refine ⟨fun v=>Ext w₃ v,Upd.refl _ _,_,_,_,fun v hv=>za2 (Ext.get (e3.trans hv) g1) rfl,?_⟩
  refine zb0.idx (r:=zg2) (h.ext (e2.trans e3)) rfl hi fun b o vs _ hrow hR' _=>?_
  obtain ⟨_,_,rfl,_,_,_⟩:=zp8 hR'
  refine ⟨_,_,_,_,fun v hv=>(za6.take (hrow.ext hv) 4).cells,_,_,_,_,fun v hv=>zw8 (Ext.get (e3.trans hv) g2),(yp3 l[i].key k w₃).mono ?_⟩
  rintro _ w₄ ⟨rfl,he4⟩
  refine ⟨_,rfl,he4,?_,hd3.upd.trans he4⟩
  congr 1
  have:=vz9 hs i hi (k:=k)
  rw [Bool.eq_iff_iff]
  simp only [Bool.not_eq_true',decide_eq_true_eq]
  rw [← Bool.not_eq_true,this]
  omega
 ·rintro _ w₃ ⟨rfl,he3⟩
  refine ⟨_,rfl,fun w₄ hd4=>?_⟩
  have e34:=he3.trans hd4.upd
  refine ⟨fun v=>Ext w₄ v,Upd.refl _ _,_,_,_,fun v hv=>za2 (Ext.get (e34.trans hv) g1) rfl,za8 (fun hlt=>?_) fun hge=>?_⟩
  ·have hlt':zx8 l k<l.length:=by omega
   refine ⟨_,_,_,fun v hv=>za2 (Ext.get (e34.trans hv) g1) rfl,zb0.idx (r:=zg2) (h.ext (e2.trans e34)) rfl hlt' fun b o vs _ hrow hR' _=>?_⟩
   obtain ⟨_,_,rfl,_,_,_⟩:=zp8 hR'
   refine ⟨_,_,_,_,fun v hv=>(za6.take (hrow.ext hv) 4).cells,_,_,_,_,fun v hv=>zw8 (Ext.get (e34.trans hv) g2),hR _ _ ⟨?_,e2.trans e34⟩⟩
   rw [qa0]
   have hd:decide (l[zx8 l k].key=k)=decide (∃ h:zx8 l k<l.length,l[zx8 l k].key=k):=by
    rw [decide_eq_decide]
    exact ⟨fun h=>⟨hlt',h⟩,fun ⟨_,h⟩=>h⟩
   rw [hd]
  ·refine hR _ _ ⟨?_,e2.trans e34⟩
   rw [decide_eq_false (fun ⟨hx,_⟩=>hge (by omega))]
def spl (C:List Value) (o:Nat) (vs:List Value):List Value:=C.take o ++ vs ++ C.drop (o+vs.length)
theorem yd0 {C:List Value} {o:Nat} {vs:List Value} (h:o+vs.length≤C.length):(spl C o vs).length=C.length:=by
 unfold spl
 simp only [List.length_append,List.length_take,List.length_drop]
 omega
theorem xm1 {C:List Value} {o:Nat} {vs:List Value} (h:o≤C.length):(spl C o vs).take (o+vs.length)=C.take o ++ vs:=by
 unfold spl
 have:(C.take o ++ vs).length=o+vs.length:=by simp;omega
 rw [← this,List.take_append_of_le_length (Nat.le_refl _),List.take_length]
theorem xm0 {C:List Value} {o q:Nat} {vs:List Value} (hq:q≤o) (h:o≤C.length):(spl C o vs).take q=C.take q:=by
 unfold spl
 rw [List.append_assoc,List.take_append_of_le_length (by simp;omega),List.take_take]
 congr 1
 omega
theorem uh3 {C:List Value} {o:Nat} {vs:List Value} (h:o≤C.length):(spl C o vs).drop o=vs ++ C.drop (o+vs.length):=by
 unfold spl
 have:(C.take o).length=o:=by simp;omega
 rw [List.append_assoc,List.drop_append,this,List.drop_eq_nil_of_le (by omega)]
 simp
def Full (w:World) (b:Nat) (e:TypeId) (C:List Value):Prop:=w.heap[b]?=some (.cells C.toArray e (0,0))
theorem zb6.full {w:World} {b len cap size:Nat} {e:TypeId} {cells:List Value} (h:zb6 w (some ⟨b,0,none⟩) len cap e size cells):∃ C,Full w b e C∧C.length=cap * size∧C.take (len * size)=cells:=by
 obtain ⟨hl,hc,h⟩:=h
 rcases h with ⟨hx,_⟩| ⟨b',cur,hx,hb,hs,ht⟩
 ·cases hx
 ·cases hx
  exact ⟨cur.toList,by unfold Full;rw [hb],by simpa using hs,ht⟩
theorem Full.own {w:World} {b len cap size:Nat} {e:TypeId} {C:List Value} (h:Full w b e C) (hs:C.length=cap * size) (hl:len≤cap):zb6 w (some ⟨b,0,none⟩) len cap e size (C.take (len * size)) :=
 ⟨by rw [List.length_take,hs];exact Nat.min_eq_left (Nat.mul_le_mul_right _ hl),hl,.inr ⟨b,C.toArray,rfl,h,by simpa using hs,by simp⟩⟩
theorem Full.row {w:World} {b:Nat} {e:TypeId} {C:List Value} (h:Full w b e C) (o m:Nat):za6 w (some ⟨b,o,none⟩) ((C.drop o).take m):=by
 refine za6.take (za6.of h fun j v hj=>?_) m
 rw [List.getElem?_drop] at hj
 simpa using hj
theorem Full.store {w:World} {b:Nat} {e:TypeId} {C:List Value} (h:Full w b e C) {o:Nat} {vs:List Value} (hf:o+vs.length≤C.length) {K:World→Prop} (hk:∀ w',Upd (·=b) w w'→Full w' b e (spl C o vs)→K w'):za5 w ⟨b,o,none⟩ vs K :=
 zc8 h (by simpa using hf) fun w' hp=>hk w' hp.upd1 hp.get
theorem zw7 {size b len cap lo hi mx:Nat} {lo' hi' mx':Option Int} (e1:lo'.getD 0=lo) (e2:hi'.getD len=hi) (e3:mx'.getD cap=mx) (h1:lo≤hi) (h2:hi≤mx) (h3:mx≤cap) (h4:mx'.isSome=true→hi'.isSome=true) {K:Option Addr→Nat→Nat→Prop}
  (hk:∀ a,(a=some ⟨b,lo * size,none⟩∨(mx=lo∧a=some ⟨b,0,none⟩))→K a (hi - lo) (mx - lo)):zi0 size (some ⟨b,0,none⟩) len cap lo' hi' mx' K:=by
 unfold zi0
 rw [e1,e2,e3]
 refine ⟨by omega,by omega,by omega,by omega,by omega,by omega,h4,?_⟩
 simp only [Int.toNat_natCast]
 split
 ·rename_i h;exact hk _ (.inr ⟨h,rfl⟩)
 ·refine hk _ (.inl ?_)
  simp
theorem Full.append_in {w:World} {b:Nat} {e:TypeId} {C:List Value} (h:Full w b e C) {len cap size bytes:Nat} {z:List Value} {x:Value} {m:Nat} {new:List Value} (hC:C.length=cap * size) (hx:lenV x=some m) (hr:xe2 w size x m new) (hm:new.length=m * size) (h1:∀ v∈new,v.oneCell'=true) (hroom:len+m≤cap)
  {K:Option Addr→Nat→Nat→World→Prop} (hk:∀ w',Upd (·=b) w w'→Full w' b e (spl C (len * size) new)→K (some ⟨b,0,none⟩) (len+m) cap w'):zb5 e size bytes z (some ⟨b,0,none⟩) len cap x w K:=by
 refine ⟨m,hx,new,hr,h1,fun _=>?_,fun hg=>absurd hg (by omega)⟩
 simp only [add_lit,Nat.zero_add]
 refine h.store ?_ fun w' hu hf=>hk w' hu hf
 rw [hm,hC,← Nat.add_mul]
 exact Nat.mul_le_mul_right _ hroom
theorem vb5 {z:List Value} (h:∀ v∈z,v.oneCell'=true):∀ n,∀ v∈zs8 z n,v.oneCell'=true
 | 0,v,hv=>by cases hv
 | n+1,v,hv=>by
  simp only [zs8,List.mem_append] at hv
  rcases hv with hv | hv
  ·exact h v hv
  ·exact vb5 h n v hv
theorem Rows.cut {α:Type} {r:ERep α} {w:World} {G:Nat→Prop} {l:List α} {vs:List Value} (h:Rows r w G vs l) (i:Nat):Rows r w G (vs.take (i * r.k) ++ vs.drop ((i+1) * r.k)) (l.take i ++ l.drop (i+1)):=(Rows.take i h).append (Rows.drop (i+1) h)
theorem Rows.insert {α:Type} {r:ERep α} {w:World} {G:Nat→Prop} {l:List α} {vs us:List Value} {x:α} (h:Rows r w G vs l) (hx:r.R w G us x) (i:Nat):Rows r w G (vs.take (i * r.k) ++ us ++ vs.drop (i * r.k)) (l.take i ++ [x] ++ l.drop i):=((Rows.take i h).append (Rows.single hx)).append (Rows.drop i h)
theorem zb4.push' {α:Type} {r:ERep α} {Q:Nat→Prop} {S:Nat} {w₀ w₁:World} {H:Nat→Prop} {a:Option Addr} {cap n bytes:Nat} {e:TypeId} {l:List α} {z:List Value} (h:zb4 r Q S w₁ a cap e l) {B:Nat} {x:α} {cs:Array Value} (hx:r.R w₁ H cs.toList x) (hH:∀ b,H b→(S≤b∨Q b)∧b<w₁.heap.size∧a≠some ⟨b,0,none⟩) (hn:New w₀ (.cells cs e) B w₁) (hnl:n=l.length)
  (hz:z.length=r.k) (hb:l.length≤1000000000) (hby:bytes≤10000) (hS:S≤w₁.heap.size) {K:Option Addr→Nat→Nat→World→Prop}
  (hk:∀ a' c' w',Upd (fun b=>a=some ⟨b,0,none⟩) w₁ w'→zb4 r Q S w' a' c' e (l ++ [x])→K a' (l ++ [x]).length c' w') :
  zb5 e r.k bytes z a n cap (.slice (some ⟨B,0,none⟩) 1 1) w₁ K:=by
 obtain ⟨G,h1,h2,h3⟩:=h
 have hG:∀ b,G b∨H b→(S≤b∨Q b)∧b<w₁.heap.size:=fun b hb=>by
  rcases hb with hb | hb
  ·exact h2 b hb
  ·exact ⟨(hH b hb).1,(hH b hb).2.1⟩
 have hno:∀ b,a=some ⟨b,0,none⟩→¬ (G b∨H b):=fun b hb hb'=>by
  rcases hb' with hb' | hb'
  ·exact (h3 b hb).2 hb'
  ·exact (hH b hb').2.2 hb
 refine OwnS.push (G:=fun b=>G b∨H b) (h1.mono fun _ hb=>.inl hb) (r.mono hx fun _ hb=>.inr hb) hn hnl hz hb hby hno fun a' c' w' hu ho hf=>?_
 refine hk a' c' w' hu ⟨_,ho,fun b hb=>⟨(hG b hb).1,Nat.lt_of_lt_of_le (hG b hb).2 hu.size⟩,fun b hb=>?_⟩
 rcases hf with hf | ⟨b',hb',hl⟩
 ·subst hf;exact ⟨(h3 b hb).1,hno b hb⟩
 ·rw [hb'] at hb
  cases hb
  exact ⟨Nat.le_trans hS hl,fun hb=>absurd (hG _ hb).2 (by omega)⟩
theorem Upd.over {F F':Nat→Prop} {a b c:World} (h:Upd F a b) (k:Upd F' b c) (hF:∀ x,F' x→F x∨a.heap.size≤x):Upd F a c :=
 ⟨Nat.le_trans h.size k.size,fun i hi hf=>(k.blk i (Nat.lt_of_lt_of_le hi h.size) (fun hx=>by rcases hF i hx with h | h;exact hf h;omega)).trans (h.blk i hi hf),k.os.trans h.os,k.tape.trans h.tape,k.output.trans h.output,fun b o hb ho=>k.book b o (h.book b o hb ho) ho⟩
theorem vw3 (a:Option Addr) (n c:Nat) (w:World):za0 prog K.yr1 #[.slice a n c] w fun v w'=>∃ B,v= .func (.func K.ya9) #[] #[.pointer (some ⟨B,0,none⟩)]∧New w (.cells #[.slice a n c] T.zp2) B w':=by
 apply yr1.sh
 unfold yr1.body
 intro B w1 hn
 exact ⟨B,rfl,hn⟩
theorem key4 {w:World} {b:Nat} {cs:Array Value} {T:TypeId} {k:Key} (h:w.heap[b]?=some (.cells cs T (0,0))) (hc:cs.toList.take 4=[.int .i64 k.ino,bv k.what,.string k.name,.int .i64 k.chunk]):za3 w ⟨b,0,none⟩ [.int .i64 k.ino,bv k.what,.string k.name,.int .i64 k.chunk] 0:=by
 refine zl2 h fun j v hj=>?_
 rw [← hc,List.getElem?_take] at hj
 split at hj
 ·simpa using hj
 ·cases hj
theorem vi9 {w:World} {B l:Nat} {a:Option Addr} {c:Nat} {fs:List Fact} {J:Nat→World→Prop} (hn:fs.length<4000000000000000000)
  (hB:∀ i W,J i W→W.heap[B]?=some (.cells #[.slice a fs.length c] T.zp2 (0,0)))
  (hfs:∀ i W,J i W→∃ G,zb0 zg2 W G a fs) (hval:∀ f∈fs,f.val.length≤140737488355232)
  (hJ:∀ i W W',J i W→Ext W W'→J i W')
  (hY:∀ (i:Nat) (hi:i<fs.length) (W W':World) (av:Option Addr) (cv:Nat),J i W→Ext W W'→zb6 W' av fs[i].val.length cv T.zf7 1 (fs[i].val.map bv)→zm9 W av→
   vb9 prog l [.agg #[.int .i64 fs[i].key.ino,bv fs[i].key.what,.string fs[i].key.name,.int .i64 fs[i].key.chunk,.slice av fs[i].val.length cv]] W' fun v w'=>v= .bool true∧J (i+1) w'∧∀ b,W.heap.size≤b→b<W'.heap.size→w'.heap[b]?=W'.heap[b]?)
  (h0:J 0 w):za0 prog K.ya9 #[.func (.yield l) #[] #[],.pointer (some ⟨B,0,none⟩)] w fun _ w'=>J fs.length w':=by
 apply ya9.sh
 suffices H:∀ R:Value→World→Prop,(∀ v w',J fs.length w'→R v w')→ya9.body (.func (.yield l) #[] #[]) ⟨B,0,none⟩ w R from H _ fun _ _ h=>h
 intro R hR
 unfold ya9.body
 refine ⟨_,_,_,za2 (hB 0 w h0) rfl,fun x u=>∃ i:Nat,x=i∧i≤fs.length∧J i u,fun x _=>((fs.length:Int) - x).toNat,⟨0,rfl,by omega,h0⟩,?_⟩
 rintro x u ⟨i,rfl,hi,hj⟩
 refine za8 (fun hlt=>?_) fun hge=>?_
 ·have hi':i<fs.length:=by omega
  have ew:IntKind.i64.wrap ((i:Int)+1)=((i+1:Nat):Int):=w64 (by omega) (by omega)
  simp only [ew]
  obtain ⟨G,hs⟩:=hfs i u hj
  refine zb0.idx (r:=zg2) hs rfl hi' fun b o vs _ hrow hR' _=>?_
  obtain ⟨av,cv,rfl,hcv,hbv,hg⟩:=zp8 hR'
  refine ⟨_,_,_,_,_,_,_,hrow.cells,zu7 rfl fun B1 w3 hB1 hs3 e3 g3=>?_⟩
  intro w4 hd4
  have g4:=Ext.get hd4.upd g3
  have e4:Ext u w4:=e3.trans hd4.upd
  refine ⟨fun v=>v.heap[B1]?=some (.cells #[.int .i64 fs[i].key.ino,bv fs[i].key.what,.string fs[i].key.name,.int .i64 fs[i].key.chunk,.slice av fs[i].val.length cv] T.za9 (0,0)),g4,fs[i].key.ino,(fs[i].key.what.toNat:Int),fs[i].key.name,fs[i].key.chunk,fun v hv=>key4 hv rfl,_,_,_,fun v hv=>za2 hv rfl,?_⟩
  refine (zp7 (c:=cv) (za6.ext hbv e4) (hval _ (List.getElem_mem hi'))).mono ?_
  rintro _ w5 ⟨he5,av',cv',rfl,ho5,hf5⟩
  refine ⟨_,_,_,rfl,Ext.get he5 g4,rfl,rfl,?_⟩
  have hy:=hY i hi' u w5 av' cv' hj (e4.trans he5) ho5 (hf5.mono e4.size)
  intro F m hF
  obtain ⟨fn,tmps,ac,bd,h1,h2⟩:=hy F m hF
  refine ⟨fn,tmps,ac,bd,h1,h2.mono fun e w6 he=>?_⟩
  obtain ⟨v,rfl,rfl,hj',hkeep⟩:=he
  have g6:=(hkeep B1 (by omega) (by have:=he5.size;have:=hd4.upd.size;omega)).trans (Ext.get he5 g4)
  exact ⟨_,rfl,_,rfl,g6,⟨i+1,rfl,hi',hj'⟩,meas hi'⟩
 ·have:i=fs.length:=by omega
  subst this
  exact hR _ _ hj
theorem uf1 {C cells new zs:List Value} {p q:Nat} (hp:p≤C.length) (hq:q=p+new.length) (hq2:q≤C.length):(spl (spl C p new) q zs).take q=C.take p ++ new:=by
 have hl:(spl C p new).length=C.length:=yd0 (by omega)
 rw [xm0 (Nat.le_refl _) (by omega),hq,xm1 hp]
theorem xp6 {w:World} {G:Nat→Prop} {b cap:Nat} {l:List Fact} {i:Nat} (h:OwnS zg2 w G (some ⟨b,0,none⟩) cap T.za9 l) (hG:¬ G b) (hi:i<l.length) (hn:l.length≤1000000000) :
  za0 prog K.ze5 #[.slice (some ⟨b,0,none⟩) l.length cap,.int .i64 i,.int .i64 ((i+1:Nat):Int)] w fun v w'=>v= .slice (some ⟨b,0,none⟩) (l.length - 1) cap∧OwnS zg2 w' G (some ⟨b,0,none⟩) cap T.za9 (l.take i ++ l.drop (i+1))∧Upd (·=b) w w':=by
 obtain ⟨vs,ho,hr⟩:=h
 have hcap:=ho.2.1
 obtain ⟨C,hC,hCl,hCt⟩:=ho.full
 have hvl:=Rows.len hr
 have hk5:zg2.k=5:=rfl
 rw [hk5] at hCl hCt hvl
 apply ze5.sh
 suffices H:∀ R:Value→World→Prop,(∀ v w',v= .slice (some ⟨b,0,none⟩) (l.length - 1) cap∧OwnS zg2 w' G (some ⟨b,0,none⟩) cap T.za9 (l.take i ++ l.drop (i+1))∧Upd (·=b) w w'→R v w')→
   ze5.body (some ⟨b,0,none⟩) l.length cap i ((i+1:Nat):Int) w R from H _ fun _ _ h=>h
 intro R hR
 unfold ze5.body
 refine zw7 (lo:=i) (hi:=i+1) (mx:=l.length) (by simp) (by simp) (by simp) (by omega) (by omega) (by omega) (by simp) fun a0 _=>?_
 refine zi1 (fun e=>by omega) fun _=>?_
 intro w1 hd1
 have hC1:Full w1 b T.za9 C:=Ext.get hd1.upd hC
 refine ⟨fun v=>Ext w1 v,Upd.refl _ _,?_⟩
 refine zw7 (lo:=0) (hi:=i) (mx:=cap) (by simp) (by simp) (by simp) (by omega) (by omega) (by omega) (by simp) fun a2 ha2=>?_
 have ha2:a2=some ⟨b,0,none⟩:=by rcases ha2 with h | ⟨_,h⟩<;>simpa using h
 subst ha2
 refine zw7 (lo:=i+1) (hi:=l.length) (mx:=cap) (by simp) (by simp) (by simp) (by omega) (by omega) (by omega) (by simp) fun a3 ha3=>?_
 have hnewl:((C.drop ((i+1) * 5)).take ((l.length - (i+1)) * 5)).length=(l.length - (i+1)) * 5:=by rw [List.length_take,List.length_drop,hCl];omega
 have hrow:za6 w1 a3 ((C.drop ((i+1) * 5)).take ((l.length - (i+1)) * 5)):=by
  rcases ha3 with rfl | ⟨h0,rfl⟩
  ·exact hC1.row _ _
  ·have:l.length - (i+1)=0:=by omega
   rw [this]
   exact za6.nil _ _
 have hone:∀ v∈(C.drop ((i+1) * 5)).take ((l.length - (i+1)) * 5),v.oneCell'=true:=by
  have e:(C.drop ((i+1) * 5)).take ((l.length - (i+1)) * 5)=vs.drop ((i+1) * 5):=by
   rw [← hCt,List.drop_take]
   congr 1
   omega
  rw [e]
  intro v hv
  exact Rows.one hr v (List.mem_of_mem_drop hv)
 simp only [Nat.sub_zero]
 refine hC1.append_in hCl rfl (zu8 hrow hnewl) hnewl hone (by omega) fun w2 hu2 hC2=>?_
 have hl4:i+(l.length - (i+1))=l.length - 1:=by omega
 rw [hl4]
 refine zw7 (lo:=l.length - 1) (hi:=l.length) (mx:=cap) (by simp) (by simp) (by simp) (by omega) (by omega) (by omega) (by simp) fun a5 ha5=>?_
 have ha5:a5=some ⟨b,(l.length - 1) * 5,none⟩:=by
  rcases ha5 with h | ⟨h,_⟩
  ·exact h
  ·omega
 subst ha5
 have e1:l.length - (l.length - 1)=1:=by omega
 rw [e1]
 have hsl:(spl C (i * 5) ((C.drop ((i+1) * 5)).take ((l.length - (i+1)) * 5))).length=C.length:=yd0 (by omega)
 refine ⟨by decide,hC2.store (by rw [hsl];simp [zs8];omega) fun w3 hu3 hC3=>hR _ _ ⟨rfl,?_,?_⟩⟩
 ·have hlen2:(l.take i ++ l.drop (i+1)).length=l.length - 1:=by simp;omega
  refine ⟨_,by rw [hlen2];exact hC3.own (len:=l.length - 1) (by rw [yd0 (by rw [hsl];simp [zs8];omega),hsl,hCl];rfl) (by omega),?_⟩
  have e2:=fun zs=>uf1 (C:=C) (cells:=vs) (new:=(C.drop ((i+1) * 5)).take ((l.length - (i+1)) * 5)) (zs:=zs) (p:=i * 5) (q:=(l.length - 1) * 5) (by omega) (by rw [hnewl];omega) (by omega)
  rw [hk5,e2]
  have e3:C.take (i * 5) ++ (C.drop ((i+1) * 5)).take ((l.length - (i+1)) * 5)=vs.take (i * 5) ++ vs.drop ((i+1) * 5):=by
   rw [← hCt,List.take_take,List.drop_take,Nat.min_eq_left (by omega)]
   congr 2
   omega
  rw [e3]
  have:=Rows.upd (hd1.upd.ext.trans (hu2.trans hu3)) (fun x hx hb=>hG (by rw [← hb];exact hx)) (Rows.cut hr i)
  exact this
 ·exact (Upd.ext hd1.upd).trans (hu2.trans hu3)
theorem vm9 {w:World} {B b o:Nat} {cs:Array Value} {C:List Value} {lb cb:Nat} (hB:w.heap[B]?=some (.cells cs T.za9 (0,0))) (hb:Full w b T.za9 C) (hne:B≠b) (hC:C.length≠0) :
  extV prog 132 [.slice (some ⟨B,0,none⟩) 1 1,.slice (some ⟨b,o,none⟩) lb cb] w (.bool false):=by
 unfold extV
 have hb':w.heap[b]?=some (.cells C.toArray T.za9 (0,0)):=hb
 rw [run_callFunc_extern (P:=prog) Go.Proofs.Tryz.func132 (by kernel_rfl) (by kernel_rfl) (by kernel_rfl) (e:=Extern.SlicesOverlaps.overlaps #[T.zp2,T.zp2] #[T.bool]) (by kernel_rfl)]
 have:=Lib.run_overlaps_apart (P:=prog) w T.zp2 T.bool T.za9 (by kernel_rfl) 5 (zg5 (by kernel_rfl:yj0 prog T.za9=some 5)) ⟨B,0,none⟩ ⟨b,o,none⟩ 1 1 lb cb hne T.za9 T.za9 cs.size C.toArray.size
  (by simp [World.shape?,hB]) (by simp [World.shape?,hb']) (by simpa using hC) (by simp [World.frozen?,hB]) (by simp [World.frozen?,hB])
 rw [show ([Value.slice (some ⟨B,0,none⟩) 1 1,Value.slice (some ⟨b,o,none⟩) lb cb]:List Value).toArray=#[Value.slice (some ⟨B,0,none⟩) 1 1,Value.slice (some ⟨b,o,none⟩) lb cb] from rfl,this]
 rfl
theorem uc6 {C mid X:List Value} {p:Nat} (hp:p+X.length+mid.length≤C.length):(spl (spl C (p+X.length) mid) p X).take (p+X.length+mid.length)=C.take p ++ X ++ mid:=by
 have h1:(spl C (p+X.length) mid).length=C.length:=yd0 (by omega)
 unfold spl
 have e1:=xm0 (C:=C) (vs:=mid) (o:=p+X.length) (q:=p) (by omega) (by omega)
 have e2:=uh3 (C:=C) (vs:=mid) (o:=p+X.length) (by omega)
 unfold spl at e1 e2
 rw [e1,e2,← List.append_assoc]
 have:(C.take p ++ X ++ mid).length=p+X.length+mid.length:=by simp;omega
 rw [← this,List.take_append_of_le_length (Nat.le_refl _),List.take_length]
theorem vv4 {C mid X:List Value} {p:Nat} (hp:p+X.length+mid.length≤C.length):(spl (spl C p X) (p+X.length) mid).take (p+X.length+mid.length)=C.take p ++ X ++ mid:=by
 have h1:(spl C p X).length=C.length:=yd0 (by omega)
 rw [xm1 (by omega),xm1 (by omega)]
theorem xs7 {w:World} {b:Nat} {e:TypeId} {C:List Value} (h:Full w b e C) {size o dLen n m:Nat} {x:Value} {new:List Value} (hx:lenV x=some n) (hm:min n dLen=m) (hr:xe2 w size x m new) (h1:∀ v∈new,v.oneCell'=true) (hf:o+new.length≤C.length) {K:Int→World→Prop}
  (hk:∀ w',Upd (·=b) w w'→Full w' b e (spl C o new)→K (m:Nat) w'):xg5 size (some ⟨b,o,none⟩) dLen x w K:=by
 subst hm
 exact ⟨n,hx,new,hr,h1,h.store hf fun w' hu hf'=>hk w' hu hf'⟩
theorem xp5 {w₀ w:World} {G:Nat→Prop} {a:Option Addr} {cap:Nat} {l:List Fact} {i B:Nat} {cs:Array Value} {x:Fact} (h:OwnS zg2 w G a cap T.za9 l) (hG:∀ b,a=some ⟨b,0,none⟩→¬ G b) (hx:zg2.R w G cs.toList x) (hn:New w₀ (.cells cs T.za9) B w) (hB:a≠some ⟨B,0,none⟩) (hi:i≤l.length) (hl:l.length≤200000000) :
  za0 prog K.zd4 #[.slice a l.length cap,.int .i64 i,.slice (some ⟨B,0,none⟩) 1 1] w fun v w'=>∃ a' c',v= .slice a' (l.length+1) c'∧OwnS zg2 w' G a' c' T.za9 (l.take i ++ [x] ++ l.drop i)∧Upd (fun b=>a=some ⟨b,0,none⟩) w w'∧(a'=a∨∃ b,a'=some ⟨b,0,none⟩∧w.heap.size≤b):=by
 apply zd4.sh
 suffices H:∀ R:Value→World→Prop,(∀ v w',(∃ a' c',v= .slice a' (l.length+1) c'∧OwnS zg2 w' G a' c' T.za9 (l.take i ++ [x] ++ l.drop i)∧Upd (fun b=>a=some ⟨b,0,none⟩) w w'∧(a'=a∨∃ b,a'=some ⟨b,0,none⟩∧w.heap.size≤b))→R v w')→
   zd4.body a l.length cap i (some ⟨B,0,none⟩) 1 1 w R from H _ fun _ _ h=>h
 intro R hR
 unfold zd4.body
 have hcap:=h.cap
 have hXl:=zg2.len hx
 have hk5:zg2.k=5:=rfl
 rw [hk5] at hXl
 refine ⟨by simp,by simp,by simp<;>omega,by simp<;>omega,by simp,by simp<;>omega,by simp,?_⟩
 refine zi1 (fun e=>by simp at e) fun _=>?_
 by_cases hil:i=l.length
 ·subst hil
  refine zi1 (fun _=>?_) fun e=>absurd rfl e
  refine OwnS.push (r:=zg2) h hx hn rfl rfl (by omega) (by omega) hG fun a' c' w' hu ho hf=>?_
  rw [List.take_length,List.drop_length,List.append_nil] at hR
  rw [List.length_append]
  exact hR _ _ ⟨a',c',rfl,ho,hu,hf⟩
 ·refine zi1 (fun e=>absurd (by omega) hil) fun _=>?_
  have hi':i<l.length:=by omega
  obtain ⟨vs,ho,hr⟩:=h
  obtain ⟨b,rfl⟩: ∃ b,a=some ⟨b,0,none⟩:=by
   obtain ⟨_,_,hx⟩:=ho
   rcases hx with ⟨_,h0,_⟩| ⟨b,_,h,_⟩
   ·omega
   ·exact ⟨b,h⟩
  have hbs:=ho.blk rfl
  have hGb:=hG b rfl
  have hBb:B≠b:=fun e=>hB (by rw [e])
  obtain ⟨C,hC,hCl,hCt⟩:=ho.full
  have hvl:=Rows.len hr
  rw [hk5] at hCl hCt hvl
  have hw1:IntKind.i64.wrap ((l.length:Int)+((1:Nat):Int))=((l.length+1:Nat):Int):=by rw [w64 (by omega) (by omega)];omega
  have hw2:IntKind.i64.wrap ((i:Int)+((1:Nat):Int))=((i+1:Nat):Int):=by rw [w64 (by omega) (by omega)];omega
  simp only [hw1,hw2]
  have hrowX:∀ u,Upd (fun x=>x≠B) w u→za6 u (some ⟨B,0,none⟩) cs.toList:=fun u hu=>za6.of (hu.get hn.get (by simp)) fun j v hj=>by simpa using hj
  have hmid:∀ u,Full u b T.za9 C→za6 u (some ⟨b,i * 5,none⟩) ((C.drop (i * 5)).take ((l.length - i) * 5)):=fun u hu=>hu.row _ _
  have hmidl:((C.drop (i * 5)).take ((l.length - i) * 5)).length=(l.length - i) * 5:=by rw [List.length_take,List.length_drop,hCl];omega
  have hmidv:(C.drop (i * 5)).take ((l.length - i) * 5)=vs.drop (i * 5):=by
   rw [← hCt,List.drop_take]
   congr 1
   omega
  have hmid1:∀ v∈(C.drop (i * 5)).take ((l.length - i) * 5),v.oneCell'=true:=by
   rw [hmidv]
   intro v hv
   exact Rows.one hr v (List.mem_of_mem_drop hv)
  have hlen2:(l.take i ++ [x] ++ l.drop i).length=l.length+1:=by simp;omega
  have hres:vs.take (i * 5) ++ cs.toList ++ (C.drop (i * 5)).take ((l.length - i) * 5)=C.take (i * 5) ++ cs.toList ++ (C.drop (i * 5)).take ((l.length - i) * 5):=by
   rw [← hCt,List.take_take,Nat.min_eq_left (by omega)]
  refine za8 (fun hgt=>?_) fun hle=>?_
  ·refine zw7 (lo:=0) (hi:=i) (mx:=cap) (by simp) (by simp) (by simp) (by omega) (by omega) (by omega) (by simp) fun a3 ha3=>?_
   have ha3:a3=some ⟨b,0,none⟩:=by rcases ha3 with h | ⟨_,h⟩<;>simpa using h
   subst ha3
   simp only [Nat.sub_zero]
   have hw3:IntKind.i64.wrap (((l.length+1:Nat):Int) - (i:Int))=((l.length+1 - i:Nat):Int):=by rw [w64 (by omega) (by omega)];omega
   rw [hw3]
   have hcl:cap=l.length:=by omega
   have hsum:i+(l.length+1 - i)=l.length+1:=by omega
   refine ⟨by omega,by omega,?_,by decide,rfl,fun hroom=>?_,fun hgrow=>⟨?_,?_,(C.take (i * 5)),?_,fun cap' b' w2 hc' hn2=>?_⟩⟩
   ·have:((l.length+1 - i:Nat):Int) * 64≤200000001 * 64:=by omega
    omega
   ·exfalso
    simp only [Int.toNat_natCast] at hroom
    omega
   ·simp only [Int.toNat_natCast];omega
   ·simp only [Int.toNat_natCast] at hgrow ⊢
    have:=xu3 hgrow
    have h2:Builtin.nextslicecap (i+(l.length+1 - i)) cap * 64≤(2 * (i+(l.length+1 - i))+192) * 64:=Nat.mul_le_mul_right _ this
    omega
   ·refine zu8 ?_ (by rw [List.length_take,hCl];omega)
    have:=hC.row 0 (i * 5)
    simpa using this
   simp only [Int.toNat_natCast,hsum] at hc' hn2 ⊢
   have hb':b'=w.heap.size:=hn2.num
   have e2:Ext w w2:=(xs5 w).trans hn2.upd
   obtain ⟨C2,hC2e⟩: ∃ C2,C2=C.take (i * 5) ++ zs8 [Value.int .i64 0,.int .u8 0,.string ByteArray.empty,.int .i64 0,.slice none 0 0] (l.length+1 - i) ++ zs8 [Value.int .i64 0,.int .u8 0,.string ByteArray.empty,.int .i64 0,.slice none 0 0] (cap' - (l.length+1)):=⟨_,rfl⟩
   have hC2l:C2.length=cap' * 5:=by
    rw [hC2e]
    simp only [List.length_append,List.length_take,zv4,hCl,List.length_cons,List.length_nil]
    omega
   have hC2t:C2.take (i * 5)=C.take (i * 5):=by
    rw [hC2e,List.append_assoc]
    have:(C.take (i * 5)).length=i * 5:=by rw [List.length_take,hCl];omega
    have h2:=List.take_left (l₁:=C.take (i * 5)) (l₂:=zs8 [Value.int .i64 0,.int .u8 0,.string ByteArray.empty,.int .i64 0,.slice none 0 0] (l.length+1 - i) ++ zs8 [Value.int .i64 0,.int .u8 0,.string ByteArray.empty,.int .i64 0,.slice none 0 0] (cap' - (l.length+1)))
    rwa [this] at h2
   have g2:Full w2 b' T.za9 C2:=by
    unfold Full
    rw [hn2.get,hC2e]
    rfl
   refine zw7 (lo:=i) (hi:=l.length+1) (mx:=cap') (by simp) (by simp) (by simp) (by omega) (by omega) (by omega) (by simp) fun a5 ha5=>?_
   have ha5:a5=some ⟨b',i * 5,none⟩:=by
    rcases ha5 with h | ⟨h,_⟩
    ·exact h
    ·omega
   subst ha5
   refine xs7 g2 (m:=1) rfl (by omega) (zu8 (hrowX w2 (Upd.ext e2)) (by rw [hXl])) (zg2.one hx) (by rw [hXl,hC2l];omega) fun w3 hu3 g3=>?_
   intro w4 hd4
   have g4:Full w4 b' T.za9 (spl C2 (i * 5) cs.toList):=Ext.get hd4.upd g3
   refine ⟨fun v=>Ext w4 v,Upd.refl _ _,?_⟩
   have hs3:=e2.size
   have e24:Upd (·=b') w2 w4:=hu3.then hd4.upd
   have hCw4:Full w4 b T.za9 C:=by
    have h2:Full w2 b T.za9 C:=Ext.get e2 hC
    exact e24.get h2 (by omega)
   refine zw7 (lo:=i+1) (hi:=l.length+1) (mx:=cap') (by simp) (by simp) (by simp) (by omega) (by omega) (by omega) (by simp) fun a6 ha6=>?_
   have ha6:a6=some ⟨b',(i+1) * 5,none⟩:=by
    rcases ha6 with h | ⟨h,_⟩
    ·exact h
    ·omega
   subst ha6
   refine zw7 (lo:=i) (hi:=l.length) (mx:=cap) (by simp) (by simp) (by simp) (by omega) (by omega) (by omega) (by simp) fun a7 ha7=>?_
   have ha7:a7=some ⟨b,i * 5,none⟩:=by
    rcases ha7 with h | ⟨h,_⟩
    ·exact h
    ·omega
   subst ha7
   have hspl:(spl C2 (i * 5) cs.toList).length=C2.length:=yd0 (by rw [hXl,hC2l];omega)
   refine xs7 g4 (m:=l.length - i) rfl (by omega) (zu8 (hmid w4 hCw4) hmidl) hmid1 (by rw [hmidl,hspl,hC2l];omega) fun w5 hu5 g5=>?_
   have hall:Upd (fun x=>x=b') w2 w5:=e24.trans hu5
   have he5:Ext w w5:=Upd.beyond e2 hall fun x hx=>by rw [hx];omega
   refine hR _ _ ⟨some ⟨b',0,none⟩,cap',rfl,?_,?_,.inr ⟨b',rfl,by omega⟩⟩
   ·refine ⟨_,by rw [hlen2];exact g5.own (len:=l.length+1) (by rw [yd0 (by rw [hmidl,hspl,hC2l];omega),hspl,hC2l];rfl) (by omega),?_⟩
    have e5:=vv4 (C:=C2) (mid:=(C.drop (i * 5)).take ((l.length - i) * 5)) (X:=cs.toList) (p:=i * 5) (by rw [hXl,hmidl,hC2l];omega)
    rw [hXl,hmidl] at e5
    rw [hk5,show (l.length+1) * 5=i * 5+5+(l.length - i) * 5 by omega,show (i+1) * 5=i * 5+5 by omega,e5,hC2t,← hres,hmidv]
    exact Rows.ext (Rows.insert hr hx i) he5
   ·exact he5.ext
  ·refine zw7 (lo:=0) (hi:=l.length+1) (mx:=cap) (by simp) (by simp) (by simp) (by omega) (by omega) (by omega) (by simp) fun a8 ha8=>?_
   have ha8:a8=some ⟨b,0,none⟩:=by rcases ha8 with h | ⟨_,h⟩<;>simpa using h
   subst ha8
   simp only [Nat.sub_zero]
   refine zw7 (lo:=i+1) (hi:=l.length+1) (mx:=cap) (by simp) (by simp) (by simp) (by omega) (by omega) (by omega) (by simp) fun a9 ha9=>?_
   have ha9:a9=some ⟨b,(i+1) * 5,none⟩:=by
    rcases ha9 with h | ⟨h,_⟩
    ·exact h
    ·omega
   subst ha9
   refine ⟨_,vm9 hn.get hC hBb (by omega),zc0 (fun _=>?_) fun h=>by cases h⟩
   intro w6 hd6
   have g6:Full w6 b T.za9 C:=Ext.get hd6.upd hC
   refine ⟨fun v=>Ext w6 v,Upd.refl _ _,?_⟩
   refine zw7 (lo:=i+1) (hi:=l.length+1) (mx:=cap) (by simp) (by simp) (by simp) (by omega) (by omega) (by omega) (by simp) fun a9 ha9=>?_
   have ha9:a9=some ⟨b,(i+1) * 5,none⟩:=by
    rcases ha9 with h | ⟨h,_⟩
    ·exact h
    ·omega
   subst ha9
   refine zw7 (lo:=i) (hi:=l.length+1) (mx:=cap) (by simp) (by simp) (by simp) (by omega) (by omega) (by omega) (by simp) fun a9 ha9=>?_
   have ha9:a9=some ⟨b,i * 5,none⟩:=by
    rcases ha9 with h | ⟨h,_⟩
    ·exact h
    ·omega
   subst ha9
   refine xs7 (size:=5) (o:=(i+1) * 5) (dLen:=l.length+1 - (i+1)) (n:=l.length+1 - i) g6 (m:=l.length - i) rfl (by omega) (by have hrr:=zu8 (len:=l.length - i) (cap:=0) (hmid w6 g6) hmidl;exact hrr) hmid1 (by rw [hmidl,hCl];omega) fun w7 hu7 g7=>?_
   have hspl:(spl C ((i+1) * 5) ((C.drop (i * 5)).take ((l.length - i) * 5))).length=C.length:=yd0 (by rw [hmidl,hCl];omega)
   refine zw7 (lo:=i) (hi:=l.length+1) (mx:=cap) (by simp) (by simp) (by simp) (by omega) (by omega) (by omega) (by simp) fun a9 ha9=>?_
   have ha9:a9=some ⟨b,i * 5,none⟩:=by
    rcases ha9 with h | ⟨h,_⟩
    ·exact h
    ·omega
   subst ha9
   have u7:Upd (·=b) w w7:=(Upd.ext hd6.upd).trans hu7
   refine xs7 (size:=5) (o:=i * 5) (dLen:=l.length+1 - i) (n:=1) g7 (m:=1) rfl (by omega) (zu8 (hrowX w7 (u7.mono fun x _ hx e=>hBb (by rw [← e,hx]))) (by rw [hXl])) (zg2.one hx) (by rw [hXl,hspl,hCl];omega) fun w8 hu8 g8=>?_
   have u8:Upd (·=b) w w8:=u7.trans hu8
   refine hR _ _ ⟨some ⟨b,0,none⟩,cap,rfl,?_,u8.mono fun x _ hx=>by rw [hx],.inl rfl⟩
   have h8:i * 5+cs.toList.length≤(spl C ((i+1) * 5) ((C.drop (i * 5)).take ((l.length - i) * 5))).length:=by rw [hXl,hspl,hCl];omega
   refine ⟨_,by rw [hlen2];exact g8.own (len:=l.length+1) (by rw [yd0 h8,hspl,hCl];rfl) (by omega),?_⟩
   have e5:=uc6 (C:=C) (mid:=(C.drop (i * 5)).take ((l.length - i) * 5)) (X:=cs.toList) (p:=i * 5) (by rw [hXl,hmidl,hCl];omega)
   rw [hXl,hmidl] at e5
   rw [hk5,show (l.length+1) * 5=i * 5+5+(l.length - i) * 5 by omega,show (i+1) * 5=i * 5+5 by omega,e5,← hres,hmidv]
   exact Rows.upd u8 (fun x hx hb=>hGb (by rw [← hb];exact hx)) (Rows.insert hr hx i)
theorem xz8 {w:World} {Q:Nat→Prop} {S:Nat} {a:Option Addr} {cap:Nat} {l:List Fact} {i:Nat} (h:zb4 zg2 Q S w a cap T.za9 l) (hi:i<l.length) (hn:l.length≤1000000000) :
  za0 prog K.ze5 #[.slice a l.length cap,.int .i64 i,.int .i64 ((i+1:Nat):Int)] w fun v w'=>v= .slice a (l.take i ++ l.drop (i+1)).length cap∧zb4 zg2 Q S w' a cap T.za9 (l.take i ++ l.drop (i+1))∧Upd (fun b=>a=some ⟨b,0,none⟩) w w':=by
 obtain ⟨G,h1,h2,h3⟩:=h
 obtain ⟨b,rfl⟩: ∃ b,a=some ⟨b,0,none⟩:=by
  obtain ⟨vs,⟨_,_,hx⟩,_⟩:=h1
  rcases hx with ⟨_,h0,_⟩| ⟨b,_,h,_⟩
  ·omega
  ·exact ⟨b,h⟩
 refine (xp6 h1 (h3 b rfl).2 hi hn).mono ?_
 rintro _ w' ⟨rfl,ho,hu⟩
 have hlen:(l.take i ++ l.drop (i+1)).length=l.length - 1:=by simp;omega
 exact ⟨by rw [hlen],⟨G,ho,fun x hx=>⟨(h2 x hx).1,Nat.lt_of_lt_of_le (h2 x hx).2 hu.size⟩,h3⟩,hu.mono fun x _ hx=>by rw [hx]⟩
theorem xz7 {w₀ w:World} {Q H:Nat→Prop} {S:Nat} {a:Option Addr} {cap:Nat} {l:List Fact} {i B:Nat} {cs:Array Value} {x:Fact} (h:zb4 zg2 Q S w a cap T.za9 l) (hx:zg2.R w H cs.toList x) (hH:∀ b,H b→(S≤b∨Q b)∧b<w.heap.size∧a≠some ⟨b,0,none⟩) (hn:New w₀ (.cells cs T.za9) B w) (hB:a≠some ⟨B,0,none⟩) (hi:i≤l.length) (hl:l.length≤200000000) (hS:S≤w.heap.size) :
  za0 prog K.zd4 #[.slice a l.length cap,.int .i64 i,.slice (some ⟨B,0,none⟩) 1 1] w fun v w'=>∃ a' c',v= .slice a' (l.take i ++ [x] ++ l.drop i).length c'∧zb4 zg2 Q S w' a' c' T.za9 (l.take i ++ [x] ++ l.drop i)∧Upd (fun b=>a=some ⟨b,0,none⟩) w w':=by
 obtain ⟨G,h1,h2,h3⟩:=h
 have hG:∀ b,G b∨H b→(S≤b∨Q b)∧b<w.heap.size:=fun b hb=>by
  rcases hb with hb | hb
  ·exact h2 b hb
  ·exact ⟨(hH b hb).1,(hH b hb).2.1⟩
 have hno:∀ b,a=some ⟨b,0,none⟩→¬ (G b∨H b):=fun b hb hb'=>by
  rcases hb' with hb' | hb'
  ·exact (h3 b hb).2 hb'
  ·exact (hH b hb').2.2 hb
 refine (xp5 (G:=fun b=>G b∨H b) (h1.mono fun _ hb=>.inl hb) hno (zg2.mono hx fun _ hb=>.inr hb) hn hB hi hl).mono ?_
 rintro _ w' ⟨a',c',rfl,ho,hu,hf⟩
 have hlen:(l.take i ++ [x] ++ l.drop i).length=l.length+1:=by simp;omega
 refine ⟨a',c',by rw [hlen],⟨_,ho,fun b hb=>⟨(hG b hb).1,Nat.lt_of_lt_of_le (hG b hb).2 hu.size⟩,fun b hb=>?_⟩,hu⟩
 rcases hf with hf | ⟨b',hb',hl⟩
 ·subst hf;exact ⟨(h3 b hb).1,hno b hb⟩
 ·rw [hb'] at hb
  cases hb
  exact ⟨Nat.le_trans hS hl,fun hb=>absurd (hG _ hb).2 (by omega)⟩
theorem us8 {w:World} {Q H:Nat→Prop} {S:Nat} {a:Option Addr} {cap:Nat} {l:List Fact} {i:Nat} {us:List Value} {x:Fact} (h:zb4 zg2 Q S w a cap T.za9 l) (hx:zg2.R w H us x) (hH:∀ b,H b→(S≤b∨Q b)∧b<w.heap.size∧a≠some ⟨b,0,none⟩) (hi:i<l.length) {K:World→Prop}
  (hk:∀ w',Upd (fun b=>a=some ⟨b,0,none⟩) w w'→zb4 zg2 Q S w' a cap T.za9 (l.set i x)→K w'):idxP a l.length (i:Int) 5 fun q=>za5 w q us K:=by
 obtain ⟨G,h1,h2,h3⟩:=h
 have hG:∀ b,G b∨H b→(S≤b∨Q b)∧b<w.heap.size:=fun b hb=>by
  rcases hb with hb | hb
  ·exact h2 b hb
  ·exact ⟨(hH b hb).1,(hH b hb).2.1⟩
 have hno:∀ b,a=some ⟨b,0,none⟩→¬ (G b∨H b):=fun b hb hb'=>by
  rcases hb' with hb' | hb'
  ·exact (h3 b hb).2 hb'
  ·exact (hH b hb').2.2 hb
 obtain ⟨b,rfl⟩: ∃ b,a=some ⟨b,0,none⟩:=by
  obtain ⟨vs,⟨_,_,hx⟩,_⟩:=h1
  rcases hx with ⟨_,h0,_⟩| ⟨b,_,h,_⟩
  ·omega
  ·exact ⟨b,h⟩
 refine ⟨by omega,by omega,?_⟩
 simp only [nilC_some',add_lit,Int.toNat_natCast,Nat.zero_add]
 refine OwnS.store (r:=zg2) (G:=fun b=>G b∨H b) (h1.mono fun _ hb=>.inl hb) (hno b rfl) hi (zg2.mono hx fun _ hb=>.inr hb) fun w' hu ho=>hk w' (hu.mono fun x _ hx=>by rw [hx]) ⟨_,ho,fun b hb=>⟨(hG b hb).1,Nat.lt_of_lt_of_le (hG b hb).2 hu.size⟩,fun b hb=>⟨(h3 b hb).1,hno b hb⟩⟩
theorem ys5 {w:World} {G Gc:Nat→Prop} {a ac:Option Addr} {c cc:Nat} {l:List Fact} {cs:List zb2} (h:zb0 zg2 w G a l) (hG:∀ b,G b→b<w.heap.size) (hc:zb0 zc4 w Gc ac cs) (hn:l.length+cs.length≤100000000) (hvl:∀ f∈l,f.val.length≤140737488355232) (hnc:up8 cs) :
  za0 prog K.zy8 #[.slice a l.length c,.slice ac cs.length cc] w fun v w'=>∃ a' c',v= .slice a' (ze0 l cs).length c'∧zb4 zg2 NoB w.heap.size w' a' c' T.za9 (ze0 l cs)∧Ext w w':=by
 apply zy8.sh
 suffices H:∀ R:Value→World→Prop,(∀ v w',(∃ a' c',v= .slice a' (ze0 l cs).length c'∧zb4 zg2 NoB w.heap.size w' a' c' T.za9 (ze0 l cs)∧Ext w w')→R v w')→zy8.body a l.length c ac cs.length cc w R from H _ fun _ _ h=>h
 intro R hR
 unfold zy8.body
 refine (xo0 h (by omega)).mono ?_
 rintro _ w1 ⟨rfl,he1⟩
 have hs1:=he1.size
 refine ⟨_,rfl,zc0 (fun ho=>?_) fun ho=>?_⟩
 ·have ho':zg6 l=false:=by simpa using ho
  have hap:ze0 l cs=[]:=by unfold ze0;rw [if_neg (by rw [ho'];decide)]
  rw [hap] at hR
  exact hR _ _ ⟨none,0,rfl,zb4.nil _ _,he1⟩
 have ho':zg6 l=true:=by simpa using ho
 have hsorted:=zq0.1 ho'
 have hap:ze0 l cs=zt9 l cs:=by unfold ze0;rw [if_pos ho']
 rw [hap] at hR
 intro B1 w2 hn2
 have e2:Ext w w2:=he1.trans hn2.upd
 have hB1:B1=w1.heap.size:=hn2.num
 have hs2:=hn2.size
 refine (vw3 a l.length c w2).mono ?_
 rintro _ w3 ⟨B,rfl,hn3⟩
 have hB:B=w2.heap.size:=hn3.num
 have hs3:=hn3.size
 refine ⟨_,rfl,rfl,by kernel_rfl,?_⟩
 intro D lr r w4 w5 hn4 hn5 HY
 have hD:D=w3.heap.size:=hn4.num
 have hs4:=hn4.size
 have hlr:lr=w4.heap.size:=hn5.num
 have hs5:=hn5.size
 have e5:Ext w w5:=((e2.trans hn3.upd).trans hn4.upd).trans hn5.upd
 have gl:w5.heap[lr]?=some (.loop r):=hn5.get
 have gD:w5.heap[D]?=some (.deferred (some [])):=Ext.get hn5.upd hn4.get
 have gB:w5.heap[B]?=some (.cells #[.slice a l.length c] T.zp2 (0,0)):=Ext.get (hn4.upd.trans hn5.upd) hn3.get
 have gB1:w5.heap[B1]?=some (.cells #[.slice none 0 0] T.zp2 (0,0)):=Ext.get (hn3.upd.trans (hn4.upd.trans hn5.upd)) hn2.get
 refine (vi9 (B:=B) (l:=lr) (a:=a) (c:=c) (fs:=l) (J:=fun i W=>Upd (·=B1) w5 W∧∃ a2 c2,W.heap[B1]?=some (.cells #[.slice a2 i c2] T.zp2 (0,0))∧zb4 zg2 NoB w5.heap.size W a2 c2 T.za9 (l.take i)) (by omega)
  (fun i W hj=>hj.1.get gB (by show ¬ B=B1;omega)) (fun i W hj=>⟨G,zb0.upd (h.ext e5) hj.1 (fun b hb hb'=>by have:=hG b hb;omega)⟩) hvl (fun i W W' hj he=>⟨hj.1.then he,by obtain ⟨a2,c2,g2,hl⟩:=hj.2;exact ⟨a2,c2,Ext.get he g2,hl.ext he⟩⟩) ?_
  ⟨Upd.refl _ _,none,0,gB1,zb4.nil _ _⟩).mono ?_
 ·rintro i hi W W' av cv ⟨hu,a2,c2,g2,hl⟩ he ho hf
  have hu':Upd (·=B1) w5 W':=hu.then he
  have gl':W'.heap[lr]?=some (.loop r):=hu'.book lr _ gl rfl
  have hsW:=hu.size
  have hsW':=he.size
  refine HY _ W' _ gl' ⟨_,_,_,_,_,_,_,rfl,zu7 rfl fun B2 w7 hB2 hs7 e7 g7=>?_⟩
  have gl7:=Ext.get e7 gl'
  refine ⟨gl7,?_⟩
  generalize hw8:w7.putObj lr (.loop { r with state:=.busy })=w8
  have cl:ye9 w7 w8:=by rw [← hw8];exact ye9.turn gl7 rfl
  have hs8:w8.heap.size=w7.heap.size:=by rw [← hw8,yh9]
  have gl8:w8.heap[lr]?=some (.loop { r with state:=.busy }):=by rw [← hw8];exact World.putObj_heap_same (Array.getElem?_eq_some_iff.1 gl7).1
  have g28:w8.heap[B1]?=some (.cells #[.slice a2 i c2] T.zp2 (0,0)):=cl.get _ _ _ _ (Ext.get (he.trans e7) g2)
  have g88:w8.heap[B2]?=some (.cells (xl4 l[i].key av l[i].val.length cv).toArray T.za9 (0,0)):=cl.get _ _ _ _ g7
  refine ⟨_,_,_,za2 g28 rfl,l[i].key.ino,(l[i].key.what.toNat:Int),l[i].key.name,l[i].key.chunk,av,l[i].val.length,cv,zl2 g88 (fun j v hj=>by simpa using hj),?_⟩
  intro B3 w9 hn9
  have hs9:=hn9.size
  have hl9:zb4 zg2 NoB w5.heap.size w9 a2 c2 T.za9 (l.take i):=((hl.ext (he.trans e7)).cellsLe cl).ext hn9.upd
  have ho9:zb6 w9 av l[i].val.length cv T.zf7 1 (l[i].val.map bv):=((ho.ext e7).cellsLe cl).ext hn9.upd
  have hil:(l.take i).length=i:=by rw [List.length_take];omega
  have ha2:∀ b,a2=some ⟨b,0,none⟩→w5.heap.size≤b∧b<W.heap.size:=fun b hb=>by
   refine ⟨?_,hl.lt hb⟩
   obtain ⟨_,_,_,h3⟩:=hl
   exact (h3 b hb).1
  refine zb4.push' (r:=zg2) (H:=fun b=>av=some ⟨b,0,none⟩) (x:=l[i]) hl9 (ys6 ho9.2.1 ho9.row (fun _ p hp=>?_)) (fun b hb=>⟨.inl ?_,?_,fun hab=>?_⟩) hn9 hil.symm rfl (by omega) (by omega) (by omega) fun a' c' w10 hu10 hl10=>?_
  ·obtain ⟨_,_,hx⟩:=ho9
   rcases hx with ⟨hx,_⟩| ⟨b',_,hx,_⟩
   ·rw [hx] at hp;cases hp
   ·rw [hx] at hp ⊢;cases hp;rfl
  ·have:=hf _ hb
   show w5.heap.size≤b
   have h2:W.heap.size≤b:=this
   omega
  ·exact ho9.blk hb
  ·have h2:W.heap.size≤b:=hf _ hb
   have:=ha2 b hab
   omega
  have hne:∀ b,a2=some ⟨b,0,none⟩→B1≠b:=fun b hb=>by have:=ha2 b hb;omega
  have g210:w10.heap[B1]?=some (.cells #[.slice a2 i c2] T.zp2 (0,0)):=hu10.get (Ext.get hn9.upd g28) (fun hb=>hne _ hb rfl)
  refine zc8 g210 (by simp) fun w11 hp=>?_
  have u811:Upd (fun b=>b=B1∨a2=some ⟨b,0,none⟩) w8 w11:=(Upd.ext hn9.upd).trans ((hu10.mono fun x _ hx=>.inr hx).trans (hp.upd1.mono fun x _ hx=>.inl hx))
  have gl11:w11.heap[lr]?=some (.loop { r with state:=.busy }):=u811.book lr _ gl8 rfl
  have urnd:Upd (fun b=>b=B1∨a2=some ⟨b,0,none⟩) W' (w11.putObj lr (.loop r)):=Upd.round gl' (Upd.ext e7) (by rw [hw8];exact u811)
  have cl11:ye9 w11 (w11.putObj lr (.loop r)):=ye9.turn gl11 rfl
  refine ⟨gl11,rfl,⟨hu'.over urnd fun x hx=>?_,a',c',?_,?_⟩,fun b hb1 hb2=>urnd.blk b hb2 fun hx=>?_⟩
  ·rcases hx with hx | hx
   ·exact .inl hx
   ·exact .inr (ha2 x hx).1
  ·have:=cl11.get _ _ _ _ hp.get
   rw [this]
   have e:(l.take i ++ [l[i]]).length=i+1:=by simp;omega
   rw [e]
   rfl
  ·rw [List.take_succ_eq_append_getElem hi]
   exact (hl10.upd hp.upd1 (fun x hx=>⟨by rw [hx];omega,fun h=>h⟩)).cellsLe cl11
  ·rcases hx with hx | hx
   ·omega
   ·have:=ha2 b hx;omega
 ·rintro _ w6 ⟨hu6,a2,c2,g2,hl6⟩
  rw [List.take_length] at hl6
  have gl6:=hu6.book lr _ gl rfl
  refine ⟨gl6,fun o=>?_⟩
  have hs6:=hu6.size
  have cl6:ye9 w6 (w6.putObj lr o):=ye9.turn gl6 rfl
  have ew6:Ext w w6:=Upd.beyond e5 hu6 fun x hx=>by rw [hx];omega
  have eu0:Ext w (w6.putObj lr o):=ew6.turn (by have:=e5.size;omega)
  have gD0:(w6.putObj lr o).heap[D]?=some (.deferred (some [])):=by rw [World.putObj_heap_other (by omega)];exact hu6.book D _ gD rfl
  have g20:=cl6.get _ _ _ _ g2
  have hl0:=hl6.cellsLe cl6
  have hs0:w5.heap.size≤(w6.putObj lr o).heap.size:=by rw [yh9];exact hs6
  generalize w6.putObj lr o=u0 at eu0 gD0 g20 hl0 hs0 ⊢
  have hww:=e5.size
  refine ⟨fun x u=>∃ i:Nat,x=i∧i≤cs.length∧Ext w u∧u.heap[D]?=some (.deferred (some []))∧w5.heap.size≤u.heap.size∧∃ a2 c2,u.heap[B1]?=some (.cells #[.slice a2 (zt9 l (cs.take i)).length c2] T.zp2 (0,0))∧zb4 zg2 NoB w5.heap.size u a2 c2 T.za9 (zt9 l (cs.take i)),fun x _=>((cs.length:Int) - x).toNat,
   ⟨0,rfl,by omega,eu0,gD0,hs0,a2,c2,g20,hl0⟩,?_⟩
  rintro x u ⟨i,rfl,hi,heu,gDu,hSu,a2,c2,g2,hl⟩
  refine za8 (fun hlt=>?_) fun hge=>?_
  ·have hi':i<cs.length:=by omega
   have ew:IntKind.i64.wrap ((i:Int)+1)=((i+1:Nat):Int):=w64 (by omega) (by omega)
   simp only [ew]
   have hcs:=hnc _ (List.getElem_mem hi')
   have hlen:=yk9 l cs i
   have hso:yg0 (zt9 l (cs.take i)):=zz4 hsorted
   have hsucc:=xb7 l hi'
   rw [vo9 hso] at hsucc
   obtain ⟨l',hl'⟩: ∃ l',l'=zt9 l (cs.take i):=⟨_,rfl⟩
   rw [← hl'] at hl hlen hso hsucc g2
   obtain ⟨p,hp⟩: ∃ p,p=zx8 l' cs[i].key:=⟨_,rfl⟩
   have hple:p≤l'.length:=by rw [hp];exact vz8 _ _
   refine zb0.idx (r:=zc4) (hc.ext heu) rfl hi' fun b o vs _ hrow hR' _=>?_
   obtain ⟨av,cv,rfl,hcv,hbv,_⟩:=zp6 hR'
   refine ⟨_,_,_,_,_,_,_,_,hrow.cells,zu7 rfl fun B4 w14 hB4 hs14 e14 g4=>?_⟩
   refine ⟨_,_,_,za2 (Ext.get e14 g2) rfl,cs[i].key.ino,(cs[i].key.what.toNat:Int),cs[i].key.name,cs[i].key.chunk,key4 g4 rfl,?_⟩
   obtain ⟨G',hG1,hG2⟩:=(hl.ext e14).slice
   refine (vi8 hG1 hso (by omega)).mono ?_
   rintro _ w15 ⟨rfl,he15⟩
   rw [← hp]
   have hs15:=he15.size
   refine ⟨_,_,rfl,fun q u=>∃ B5 av' cv',q=⟨B5,0,none⟩∧Ext w15 u∧w15.heap.size≤B5∧B5<u.heap.size∧u.heap[B5]?=some (.cells (xl4 cs[i].key av' cs[i].val.length cv').toArray T.za9 (0,0))∧zb6 u av' cs[i].val.length cv' T.zf7 1 (cs[i].val.map bv)∧zm9 w15 av',?_,?_⟩
   ·intro w16 hd16
    have hs16:=hd16.upd.size
    have g416:=Ext.get (he15.trans hd16.upd) g4
    have hbv16:za4 w16 av cs[i].val:=za6.ext hbv (e14.trans (he15.trans hd16.upd))
    refine ⟨fun v=>Ext w16 v,Upd.refl _ _,cs[i].key.ino,(cs[i].key.what.toNat:Int),cs[i].key.name,cs[i].key.chunk,fun v hv=>key4 (Ext.get hv g416) rfl,_,_,_,fun v hv=>za2 (Ext.get hv g416) rfl,?_,?_⟩
    ·refine (zp7 (c:=cv) hbv16 hcs.2).mono ?_
     rintro _ w17 ⟨he17,av',cv',rfl,ho17,hf17⟩
     refine ⟨_,_,_,rfl,he17,fun B5 w18 hn18=>⟨he17.trans hn18.upd,zc8 hn18.get (by simp) fun w19 hp19=>?_⟩⟩
     have hB5:B5=w17.heap.size:=hn18.num
     have hs17:=he17.size
     have hs18:=hn18.size
     refine ⟨B5,av',cv',rfl,Put.upd ((hd16.upd.trans he17).trans hn18.upd) hp19 (.inl (by omega)),by omega,by rw [hp19.size];omega,hp19.get,zb6.upd (ho17.ext hn18.upd) hp19.upd1 (fun b hb hb'=>?_),hf17.mono hs16⟩
     have:=ho17.blk hb
     omega
    ·intro B6 w20 hn20
     have hB6:B6=w16.heap.size:=hn20.num
     have hs20:=hn20.size
     refine ⟨hn20.upd,(zp7 (c:=cv) (za6.ext hbv16 hn20.upd) hcs.2).mono ?_⟩
     rintro _ w21 ⟨he21,av',cv',rfl,ho21,hf21⟩
     have hs21:=he21.size
     refine ⟨_,_,_,rfl,hn20.upd.trans he21,zc8 (Ext.get he21 hn20.get) (by simp) fun w22 hp22=>?_⟩
     refine ⟨B6,av',cv',rfl,Put.upd ((hd16.upd.trans hn20.upd).trans he21) hp22 (.inl (by omega)),by omega,by rw [hp22.size];omega,hp22.get,zb6.upd ho21 hp22.upd1 (fun b hb hb'=>?_),hf21.mono (by omega)⟩
     have:w20.heap.size≤b:=hf21 _ hb
     omega
   ·rintro _ w23 ⟨B5,av',cv',rfl,e23,hB5,hB5',g5,ho5,hf5⟩
    have hs23:=e23.size
    have e1423:=he15.trans e23
    have euu:=e14.trans e1423
    have hsu:=euu.size
    have ew23:=heu.trans euu
    have hl23:=hl.ext euu
    have g223:=Ext.get euu g2
    have g423:=Ext.get e1423 g4
    have gD23:=euu.book D _ gDu rfl
    have ha2:∀ b,a2=some ⟨b,0,none⟩→w5.heap.size≤b∧b<u.heap.size:=fun b hb=>by
     refine ⟨?_,hl.lt hb⟩
     obtain ⟨_,_,_,h3⟩:=hl
     exact (h3 b hb).1
    have hav:∀ b,av'=some ⟨b,0,none⟩→w15.heap.size≤b∧b<w23.heap.size:=fun b hb=>⟨hf5 _ hb,ho5.blk hb⟩
    have hgv:∀ q,av'=some q→av'=some ⟨q.block,0,none⟩:=fun q hq=>by
     obtain ⟨_,_,hx⟩:=ho5
     rcases hx with ⟨hx,_⟩| ⟨b',_,hx,_⟩
     ·rw [hx] at hq;cases hq
     ·rw [hx] at hq ⊢;cases hq;rfl
    have next:∀ {a':Option Addr} {c':Nat} {v:World} {lst:List Fact},lst=zt9 l (cs.take (i+1))→Upd (fun b=>a2=some ⟨b,0,none⟩) w23 v→zb4 zg2 NoB w5.heap.size v a' c' T.za9 lst→
      za5 v ⟨B1,0,none⟩ [.slice a' lst.length c'] fun w''=>(∃ k:Nat,((i+1:Nat):Int)=k∧k≤cs.length∧Ext w w''∧w''.heap[D]?=some (.deferred (some []))∧w5.heap.size≤w''.heap.size∧∃ a2 c2,w''.heap[B1]?=some (.cells #[.slice a2 (zt9 l (cs.take k)).length c2] T.zp2 (0,0))∧zb4 zg2 NoB w5.heap.size w'' a2 c2 T.za9 (zt9 l (cs.take k)))∧
       ((cs.length:Int) - ((i+1:Nat):Int)).toNat<((cs.length:Int) - (i:Int)).toNat:=by
     intro a' c' v lst hlst huv hlv
     have hsv:=huv.size
     refine zc8 (huv.get g223 fun hb=>by have:=ha2 _ hb;omega) (by simp) fun w'' hpp=>?_
     have hspp:=hpp.size
     refine ⟨⟨i+1,rfl,hi',Put.upd (Upd.beyond ew23 huv fun x hx=>by have:=ha2 x hx;omega) hpp (.inl (by omega)),hpp.upd1.book D _ (huv.book D _ gD23 rfl) rfl,by omega,a',c',?_,?_⟩,meas hi'⟩
     ·rw [hpp.get,← hlst];rfl
     ·rw [← hlst];exact hlv.upd hpp.upd1 fun x hx=>⟨by rw [hx];omega,fun h=>h⟩
    have stay:l'=zt9 l (cs.take (i+1))→(∃ k:Nat,((i+1:Nat):Int)=k∧k≤cs.length∧Ext w w23∧w23.heap[D]?=some (.deferred (some []))∧w5.heap.size≤w23.heap.size∧∃ a2 c2,w23.heap[B1]?=some (.cells #[.slice a2 (zt9 l (cs.take k)).length c2] T.zp2 (0,0))∧zb4 zg2 NoB w5.heap.size w23 a2 c2 T.za9 (zt9 l (cs.take k)))∧
       ((cs.length:Int) - ((i+1:Nat):Int)).toNat<((cs.length:Int) - (i:Int)).toNat:=fun hst =>
     ⟨⟨i+1,rfl,hi',ew23,gD23,by omega,a2,c2,by rw [← hst];exact g223,by rw [← hst];exact hl23⟩,meas hi'⟩
    have hfv:za3 w23 ⟨B5,0,none⟩ (xl4 cs[i].key av' cs[i].val.length cv') 0:=zl2 g5 fun j v hj=>by simpa using hj
    have hgone:w23.cell? ⟨B4,5,none⟩= some (.bool cs[i].gone):=za2 g423 rfl
    simp only [add_lit,Nat.zero_add]
    have ewp:IntKind.i64.wrap ((p:Int)+1)=((p+1:Nat):Int):=w64 (by omega) (by omega)
    rw [← hp] at hsucc
    simp only [ewp]
    have doSet:p<l'.length→(l'.set p ⟨cs[i].key,cs[i].val⟩)=zt9 l (cs.take (i+1))→idxP a2 l'.length (p:Int) 5 fun q2=>za5 w23 q2 (xl4 cs[i].key av' cs[i].val.length cv') fun w26=>(∃ k:Nat,((i+1:Nat):Int)=k∧k≤cs.length∧Ext w w26∧w26.heap[D]?=some (.deferred (some []))∧w5.heap.size≤w26.heap.size∧∃ a2 c2,w26.heap[B1]?=some (.cells #[.slice a2 (zt9 l (cs.take k)).length c2] T.zp2 (0,0))∧zb4 zg2 NoB w5.heap.size w26 a2 c2 T.za9 (zt9 l (cs.take k)))∧
       ((cs.length:Int) - ((i+1:Nat):Int)).toNat<((cs.length:Int) - (i:Int)).toNat:=fun hpl hst=>by
     refine us8 (H:=fun b=>av'=some ⟨b,0,none⟩) (x:=⟨cs[i].key,cs[i].val⟩) hl23 (ys6 (x:=⟨cs[i].key,cs[i].val⟩) ho5.2.1 ho5.row fun _ q hq=>hgv q hq) (fun b hb=>⟨.inl (by have:=hav b hb;omega),(hav b hb).2,fun hab=>by have:=hav b hb;have:=ha2 b hab;omega⟩) hpl fun w' hu hlw=>?_
     have hsw:=hu.size
     refine ⟨⟨i+1,rfl,hi',Upd.beyond ew23 hu fun x hx=>by have:=ha2 x hx;omega,hu.book D _ gD23 rfl,by omega,a2,c2,?_,by rw [← hst];exact hlw⟩,meas hi'⟩
     rw [← hst,List.length_set]
     exact hu.get g223 fun hb=>by have:=ha2 _ hb;omega
    have doIns:(l'.take p ++ [⟨cs[i].key,cs[i].val⟩] ++ l'.drop p)=zt9 l (cs.take (i+1))→∀ (B7:Nat) (w27:World),New w23 (.cells (xl4 cs[i].key av' cs[i].val.length cv').toArray T.za9) B7 w27→za0 prog K.zd4 #[.slice a2 l'.length c2,.int .i64 p,.slice (some ⟨B7,0,none⟩) 1 1] w27 fun v w28=>∃ (a':Option Addr) (n' c':Nat),v= .slice a' n' c'∧za5 w28 ⟨B1,0,none⟩ [.slice a' n' c'] fun w''=>(∃ k:Nat,((i+1:Nat):Int)=k∧k≤cs.length∧Ext w w''∧w''.heap[D]?=some (.deferred (some []))∧w5.heap.size≤w''.heap.size∧∃ a2 c2,w''.heap[B1]?=some (.cells #[.slice a2 (zt9 l (cs.take k)).length c2] T.zp2 (0,0))∧zb4 zg2 NoB w5.heap.size w'' a2 c2 T.za9 (zt9 l (cs.take k)))∧
       ((cs.length:Int) - ((i+1:Nat):Int)).toNat<((cs.length:Int) - (i:Int)).toNat:=fun hst B7 w27 hn27=>by
     have hB7:B7=w23.heap.size:=hn27.num
     have hs27:=hn27.size
     refine (xz7 (H:=fun b=>av'=some ⟨b,0,none⟩) (x:=⟨cs[i].key,cs[i].val⟩) (hl23.ext hn27.upd) (ys6 (x:=⟨cs[i].key,cs[i].val⟩) ho5.2.1 (ho5.row.ext hn27.upd) fun _ q hq=>hgv q hq) (fun b hb=>⟨.inl (by have:=hav b hb;omega),by have:=hav b hb;omega,fun hab=>by have:=hav b hb;have:=ha2 b hab;omega⟩) hn27 (fun hab=>by have:=ha2 B7 hab;omega) hple (by omega) (by omega)).mono ?_
     rintro _ w28 ⟨a',c',rfl,hl28,hu28⟩
     exact ⟨_,_,_,rfl,next hst ((Upd.ext hn27.upd).trans hu28) hl28⟩
    refine zc0 (fun hb3=>?_) fun hb3=>?_
    ·obtain ⟨hpl,hpk⟩:=of_decide_eq_true hb3
     rw [dif_pos ⟨hpl,fun _=>hpk⟩] at hsucc
     refine ⟨_,hgone,zc0 (fun hg=>?_) fun hg=>?_⟩
     ·rw [if_pos hg] at hsucc
      refine ⟨_,_,_,za2 g223 rfl,(xz8 hl23 hpl (by omega)).mono ?_⟩
      rintro _ w24 ⟨rfl,hl24,hu24⟩
      exact ⟨_,_,_,rfl,next hsucc.symm hu24 hl24⟩
     ·rw [if_neg (by rw [hg];decide)] at hsucc
      exact zc0 (fun _=>⟨_,_,_,za2 g223 rfl,_,_,_,_,_,_,_,hfv,doSet hpl hsucc.symm⟩) fun h=>absurd (hb3.symm.trans h) (by decide)
    ·have hnp:¬ (p<l'.length∧∀ h:p<l'.length,l'[p].key=cs[i].key):=fun ⟨hx,hy⟩=>of_decide_eq_false hb3 ⟨hx,hy hx⟩
     rw [dif_neg hnp] at hsucc
     refine zc0 (fun h=>absurd (h.symm.trans hb3) (by decide)) fun _=>⟨_,hgone,zc0 (fun hg=>?_) fun hg=>?_⟩
     ·rw [if_neg (by intro h;rw [h] at hg;cases hg)] at hsucc
      exact ⟨_,_,_,za2 g223 rfl,_,_,_,_,_,_,_,hfv,doIns hsucc.symm⟩
     ·rw [if_pos (by cases h:cs[i].gone with | true=>rfl | false=>rw [h] at hg;cases hg)] at hsucc
      exact stay hsucc.symm
  ·have hii:i=cs.length:=by omega
   subst hii
   rw [List.take_length] at hl g2
   have hcl:ye9 u (u.putObj D (.deferred none)):=ye9.turn gDu rfl
   exact ⟨_,_,_,za2 g2 rfl,gDu,hR _ _ ⟨a2,c2,rfl,(hl.cellsLe hcl).weak hww (fun x hx=>hx.elim),heu.turn (by omega)⟩⟩
end Go.Den
namespace Go.Den
structure Act where
 act:Int
 kind:UInt8
 era:Nat
 block:Int
 page:Int
 fill:UInt8
namespace Act
def vals (a:Act):List Value:=[.int .i64 a.act,bv a.kind,.int .u32 a.era,.int .i64 a.block,.int .i64 a.page,bv a.fill]
end Act
end Go.Den
namespace Go.Den
def yo5 (kind:UInt8) (era:Nat) (t:zb7):Bool:=decide (t.head.kind=kind) && decide (t.head.era=era)
theorem va1 {α:Type} (p:α→Bool) {l:List α} {i:Nat} (hi:i<l.length):(l.take (i+1)).filter p=if p l[i] then (l.take i).filter p ++ [l[i]] else (l.take i).filter p:=by
 rw [List.take_succ_eq_append_getElem hi,List.filter_append]
 cases h:p l[i]<;>simp [h]
theorem vi2 {α:Type} (p:α→Bool) (l:List α) (i:Nat):((l.take i).filter p).length≤i:=by
 have:=List.length_filter_le p (l.take i)
 have:=List.length_take_le i l
 omega
theorem yq1 {F:Nat→Prop} {A:Nat} {w:World} {p:Nat} {c:Chip} (h:CIn F A w p c) (kind:UInt8) (era:Nat) :
  za0 prog K.zq7 #[.pointer (some ⟨p,0,none⟩),bv kind,.int .u32 era] w fun v w'=>Ext w w'∧vx4 w w' v ((zc5 c).filter (yo5 kind era)):=by
 apply zq7.sh
 unfold zq7.body
 refine (qm2 h).mono ?_
 rintro _ w1 ⟨he1,a1,c1,rfl,ho1,hf1⟩
 have hs1:=he1.size
 have hll:(zc5 c).length≤64:=by
  have:=xw2 c c.nb
  have:=h.ok.nb2
  unfold zc5
  omega
 generalize zc5 c=l at *
 refine ⟨_,_,_,rfl,fun a n cp x u=>∃ i:Nat,x=i∧i≤l.length∧Ext w1 u∧n=((l.take i).filter (yo5 kind era)).length∧zb6 u a ((l.take i).filter (yo5 kind era)).length cp T.zc6 5 (((l.take i).filter (yo5 kind era)).flatMap zb7.vals)∧zm9 w1 a,
  fun _ _ _ x _=>(l.length - x).toNat,⟨0,rfl,by omega,Upd.refl _ _,by simp,by simpa using zb6.nil _ _ _,zm9.none _⟩,?_⟩
 rintro a n cp x u ⟨i,rfl,hil,hu,rfl,ho,hfa⟩
 refine za8 (fun hlt=>?_) fun hge=>?_
 ·have hi':i<l.length:=by omega
  have e1:IntKind.i64.wrap ((i:Int)+1)=((i+1:Nat):Int):=w64 (by omega) (by omega)
  rw [e1]
  have hsucc:=va1 (yo5 kind era) hi'
  have hrow:=za6.ext ho1.row hu
  have same:yo5 kind era l[i]=false→(∃ k:Nat,((i+1:Nat):Int)=k∧k≤l.length∧Ext w1 u∧((l.take i).filter (yo5 kind era)).length=((l.take k).filter (yo5 kind era)).length∧zb6 u a ((l.take k).filter (yo5 kind era)).length cp T.zc6 5 (((l.take k).filter (yo5 kind era)).flatMap zb7.vals)∧zm9 w1 a)∧((l.length:Int) - ((i+1:Nat):Int)).toNat<((l.length:Int) - (i:Int)).toNat:=by
   intro hn
   rw [hn] at hsucc
   simp only [Bool.false_eq_true,if_false] at hsucc
   exact ⟨⟨i+1,rfl,hi',hu,by rw [hsucc],by rw [hsucc];exact ho,hfa⟩,meas hi'⟩
  refine zx3 (f:=zb7.vals) zb7.vals_length (by omega) hrow rfl hi' fun b o hab hr=>?_
  obtain ⟨b',o',hab',hc⟩:=za6.cell hr (i:=1) (v:=bv l[i].head.kind) rfl
  cases hab'
  simp only [add_lit]
  refine ⟨_,hc,zi1 (fun hk=>?_) fun hk=>same (by unfold yo5;rw [decide_eq_false (fun e=>hk (by rw [e]))];rfl)⟩
  refine zx3 (f:=zb7.vals) zb7.vals_length (by omega) hrow rfl hi' fun b o hab hr=>?_
  obtain ⟨b',o',hab',hc⟩:=za6.cell hr (i:=2) (v:=.int .u32 l[i].head.era) rfl
  cases hab'
  simp only [add_lit]
  refine ⟨_,hc,zi1 (fun hk2=>?_) fun hk2=>same (by unfold yo5;rw [decide_eq_false (p:=l[i].head.era=era) (fun e=>hk2 (by rw [e]))];simp)⟩
  have hyes:yo5 kind era l[i]=true:=by
   unfold yo5
   rw [decide_eq_true (UInt8.toNat_inj.1 (by omega)),decide_eq_true (by omega)]
   rfl
  rw [hyes] at hsucc
  simp only [if_true] at hsucc
  refine zx3 (f:=zb7.vals) zb7.vals_length (by omega) hrow rfl hi' fun b o hab hr=>?_
  refine ⟨l[i].block,l[i].head.kind.toNat,l[i].head.era,l[i].head.seq,l[i].bad,za6.cells hr,fun B1 w3 hn3=>?_⟩
  have hlen:=vi2 (yo5 kind era) l i
  have ho3:=zb6.ext ho hn3.upd
  generalize (l.take i).filter (yo5 kind era)=m at *
  refine xo7 (f:=zb7.vals) zb7.vals_length ho3 (x:=l[i]) rfl hn3 rfl (yr0 _) rfl (by omega) (by omega) fun a' c' w4 hu4 ho4 hf4=>?_
  have hB:=hn3.num
  refine ⟨⟨i+1,rfl,hi',Upd.beyond (hu.trans hn3.upd) hu4 (fun x hx=>by have:=hfa _ hx;exact this),by rw [hsucc],by rw [hsucc];exact ho4,?_⟩,meas hi'⟩
  rcases hf4 with rfl | ⟨b,rfl,hb⟩
  ·exact hfa
  ·exact zm9.some (by have:=hu.size;have:=hn3.size;omega)
 ·have hil':i=l.length:=by omega
  subst hil'
  rw [List.take_length] at ho ⊢
  exact ⟨he1.trans hu,a,cp,rfl,ho,hfa.mono hs1⟩
theorem xn8 {k:Key} {s:St} (h:k.name.size<256):(ys3 k s).1.name.size<256:=by
 unfold ys3
 split
 ·exact h
 ·exact (by decide:Key.zero.name.size<256)
theorem uc3 (s:St):(keyS s).1.name.size<256:=by
 unfold keyS
 simp only []
 split
 ·exact (by decide:Key.zero.name.size<256)
 ·split
  ·split
   ·exact (by decide:Key.zero.name.size<256)
   ·refine xn8 ?_
    have:=xi6 (zj7 1 (zj7 2 s).2.2).2.2
    rw [yg5]
    simpa using this
  ·split
   ·split
    ·exact (by decide:Key.zero.name.size<256)
    ·exact xn8 (by show ByteArray.empty.size<256;decide)
   ·exact xn8 (by show ByteArray.empty.size<256;decide)
theorem uy6 (s:St):(oneS s).1.key.name.size<256:=by
 have hz:zb2.zero.key.name.size<256:=by decide
 unfold oneS
 simp only []
 split
 ·exact hz
 ·split
  ·exact hz
  ·split
   ·exact hz
   ·split
    ·exact uc3 _
    ·split
     ·exact hz
     ·split
      ·exact hz
      ·exact uc3 _
theorem up0:∀ (n:Nat) (s:St) (acc:List zb2),(∀ x∈acc,x.key.name.size<256)→∀ x∈(goS n s acc).1,x.key.name.size<256
 | 0,s,acc,h=>by
  unfold goS
  split
  ·simp
  ·exact h
 | n+1,s,acc,h=>by
  unfold goS
  split
  ·simp
  ·refine up0 n _ _ fun x hx=>?_
   rcases List.mem_append.1 hx with hx | hx
   ·exact h x hx
   ·simp at hx;subst hx;exact uy6 s
theorem qa2 (b:List UInt8):∀ x∈(getS b).1,x.key.name.size<256:=by
 unfold getS
 split
 ·simp
 ·split
  ·simp
  ·exact up0 _ _ _ (by simp)
theorem ur3 {n:Int} {b:List UInt8} {P:zr7} (h:yb3 n b=some P):∀ x∈P.changes,x.key.name.size<256:=by
 unfold yb3 at h
 split at h
 ·cases h
 ·split at h
  ·split at h
   ·cases h;exact qa2 _
   ·cases h
  ·split at h
   ·split at h
    ·cases h;simp
    ·cases h
   ·cases h
theorem ui9 {c:Chip} {i:Nat} {P:zr7} (h:P∈zk1 c i):∀ x∈P.changes,x.key.name.size<256:=by
 unfold zk1 zk8 at h
 obtain ⟨k,_,hk⟩:=List.mem_filterMap.1 h
 split at hk
 ·cases hk
 ·exact ur3 hk
structure vl4 (cs:List zb2):Prop where
 len:cs.length≤255
 ok:∀ x∈cs,x.key.name.size<256∧x.val.length<256
structure ye0 (n:Nat) (l:List Fact):Prop where
 len:l.length≤n
 names:xh7 l
 vals:∀ f∈l,f.val.length<256
theorem xm8 {c:Chip} {i:Nat} {P:zr7} (h:P∈zk1 c i):vl4 P.changes:=⟨(xw7 h).2,fun x hx=>⟨ui9 h x hx,(xw7 h).1 x hx⟩⟩
theorem vl4.small {cs:List zb2} (h:vl4 cs):up8 cs:=fun x hx=>by have:=h.ok x hx;omega
theorem ye0.nil:ye0 0 []:=⟨Nat.le_refl _,fun _ h=>(by cases h),fun _ h=>(by cases h)⟩
theorem vk3:∀ {cs:List zb2} {l:List Fact},(∀ f∈l,f.val.length<256)→(∀ x∈cs,x.val.length<256)→∀ f∈zt9 l cs,f.val.length<256
 | [],l,h,_=>h
 | c :: cs,l,h,hc=>vk3 (cs:=cs) (l:=putF c l) (fun f hf=>by
  rcases xi9 hf with hf | ⟨_,rfl⟩
  ·exact h f hf
  ·exact hc c (by simp)) fun x hx=>hc x (by simp [hx])
theorem ye0.apply {n:Nat} {l:List Fact} {cs:List zb2} (h:ye0 n l) (hc:vl4 cs):ye0 (n+255) (ze0 l cs):=by
 unfold ze0
 split
 ·have h1:=yk9 l cs cs.length
  have h2:=yu1 h.names hc.small cs.length
  rw [List.take_length] at h1 h2
  exact ⟨by have:=h.len;have:=hc.len;omega,h2,vk3 h.vals fun x hx=>(hc.ok x hx).2⟩
 ·exact ⟨Nat.zero_le _,fun _ h=>(by cases h),fun _ h=>(by cases h)⟩
def addP (acc:List Fact) (pg:List zr7):List Fact:=pg.foldl (fun a p=>ze0 a p.changes) acc
theorem vk9 (acc:List Fact) {pg:List zr7} {k:Nat} (hk:k<pg.length):addP acc (pg.take (k+1))=ze0 (addP acc (pg.take k)) pg[k].changes:=by
 unfold addP
 rw [List.take_succ_eq_append_getElem hk,List.foldl_append];rfl
theorem ye0.pages {n:Nat} {acc:List Fact} {pg:List zr7} (h:ye0 n acc) (hp:∀ P∈pg,vl4 P.changes):∀ k,k≤pg.length→ye0 (n+k * 255) (addP acc (pg.take k))
 | 0,_=>by simpa [addP] using h
 | k+1,hk=>by
  rw [vk9 acc hk]
  have:=(ye0.pages h hp k (by omega)).apply (hp _ (List.getElem_mem hk))
  rwa [show n+(k+1) * 255=n+k * 255+255 by omega]
theorem ye0.mono {n m:Nat} {l:List Fact} (h:ye0 n l) (hm:n≤m):ye0 m l:=⟨Nat.le_trans h.len hm,h.names,h.vals⟩
def zk3 (low:Nat) (l:List Part):List Fact:=(l.filter fun x=>decide (low≤x.seq)).foldl (fun a x=>addP a x.pages) []
theorem vi4 (low:Nat) {l:List Part} {i:Nat} (hi:i<l.length):zk3 low (l.take (i+1))=if low≤l[i].seq then addP (zk3 low (l.take i)) l[i].pages else zk3 low (l.take i):=by
 unfold zk3
 rw [List.take_succ_eq_append_getElem hi,List.filter_append,List.foldl_append,List.filter_cons]
 by_cases h:low≤l[i].seq<;>simp [h]
def qn8 (l:List Part):Prop:=∀ x∈l,x.pages.length≤32∧∀ P∈x.pages,vl4 P.changes
theorem xn9 {low:Nat} {l:List Part} (h:qn8 l):∀ i,i≤l.length→ye0 (i * 8160) (zk3 low (l.take i))
 | 0,_=>by simpa [zk3] using ye0.nil
 | i+1,hi=>by
  have ih:=xn9 (low:=low) h i (by omega)
  have hx:=h l[i] (List.getElem_mem _)
  rw [vi4 low hi]
  split
  ·have:=ih.pages hx.2 l[i].pages.length (Nat.le_refl _)
   rw [List.take_length] at this
   exact this.mono (by have:=hx.1;omega)
  ·exact ih.mono (by omega)
theorem xk1 {c:Chip} (hk:c.np≤32) (era:Nat):qn8 (zf5 c era):=by
 intro x hx
 unfold zf5 at hx
 split at hx
 ·cases hx
 ·unfold partsL at hx
  obtain ⟨t,_,rfl⟩:=List.mem_map.1 hx
  exact ⟨Nat.le_trans (zz8 c t.block c.np) hk,fun P hP=>xm8 hP⟩
theorem vd2 {F:Nat→Prop} {A:Nat} {w:World} {p:Nat} {c:Chip} (h:CIn F A w p c) (hnb:c.nb<20) (era:Nat) :
  za0 prog K.yd2 #[.pointer (some ⟨p,0,none⟩),.int .u32 era] w fun v w'=>∃ a ca,v= .tuple #[.slice a (zk3 (lowL (zf5 c era)) (zf5 c era)).length ca,.int .i64 (ym1 c era:Nat)]∧zb4 zg2 NoB w.heap.size w' a ca T.za9 (zk3 (lowL (zf5 c era)) (zf5 c era))∧Ext w w':=by
 apply yd2.sh
 suffices H:∀ R:Value→World→Prop,(∀ v w',(∃ a ca,v= .tuple #[.slice a (zk3 (lowL (zf5 c era)) (zf5 c era)).length ca,.int .i64 (ym1 c era:Nat)]∧zb4 zg2 NoB w.heap.size w' a ca T.za9 (zk3 (lowL (zf5 c era)) (zf5 c era))∧Ext w w')→R v w')→yd2.body (some ⟨p,0,none⟩) era w R from H _ fun _ _ h=>h
 intro R hR
 unfold yd2.body
 refine (vl9 h hnb era).mono ?_
 have hlen:=xc0 (c:=c) era
 have hgood:=xk1 h.ok.np2 era
 generalize zf5 c era=l at *
 generalize lowL l=low at *
 rintro _ w₁ ⟨a1,c1,rfl,hl,he1⟩
 have hs1:=he1.size
 obtain ⟨G,hG1,hG2⟩:=hl.slice
 refine ⟨_,_,_,_,_,rfl,fun a2 l2 c2 x u=>∃ i:Nat,x=i∧i≤l.length∧l2=(zk3 low (l.take i)).length∧zb4 zg2 NoB w₁.heap.size u a2 c2 T.za9 (zk3 low (l.take i))∧Ext w₁ u,fun _ _ _ x _=>((l.length:Int) - x).toNat,
  ⟨0,rfl,by omega,rfl,zb4.nil _ _,Upd.refl _ _⟩,?_⟩
 rintro a2 l2 c2 x u ⟨i,rfl,hi,rfl,hf,heu⟩
 have hgi:=xn9 (low:=low) hgood i hi
 refine za8 (fun hlt=>?_) fun hge=>?_
 ·have hi':i<l.length:=by omega
  have ew:IntKind.i64.wrap ((i:Int)+1)=((i+1:Nat):Int):=w64 (by omega) (by omega)
  simp only [ew]
  have hsucc:=vi4 low hi'
  have hgl:=hgood _ (List.getElem_mem hi')
  refine zb0.idx (r:=ua1) (hG1.ext heu) rfl hi' fun b o vs ha hrow hR' hG=>?_
  obtain ⟨ac,cc,rfl,hcc,hpg⟩:=ur1 hR'
  refine ⟨_,_,_,_,_,hrow.cells,zu7 (vs:=ua0 l[i].block l[i].seq ac l[i].pages.length cc) rfl fun B1 w₄ hb4 hs4 he4 g4=>?_⟩
  simp only [add_lit,Nat.zero_add]
  have hsu:=heu.size
  have e4:=heu.trans he4
  refine ⟨_,za2 g4 rfl,za8 (fun hlt'=>?_) fun hge'=>?_⟩
  ·rw [if_neg (by omega)] at hsucc
   exact ⟨⟨i+1,rfl,hi',by rw [hsucc],by rw [hsucc];exact hf.ext he4,e4⟩,meas hi'⟩
  rw [if_pos (by omega)] at hsucc
  generalize hpgg:l[i].pages=pg at *
  refine ⟨_,_,_,za2 g4 rfl,fun a5 l5 c5 y v=>∃ k:Nat,y=k∧k≤pg.length∧l5=(addP (zk3 low (l.take i)) (pg.take k)).length∧zb4 zg2 NoB w₁.heap.size v a5 c5 T.za9 (addP (zk3 low (l.take i)) (pg.take k))∧Ext w₄ v,fun _ _ _ y _=>((pg.length:Int) - y).toNat,
   ⟨0,rfl,by omega,rfl,hf.ext he4,Upd.refl _ _⟩,?_⟩
  rintro a5 l5 c5 y v ⟨k,rfl,hk,rfl,hfk,hev⟩
  refine za8 (fun hltk=>?_) fun hgek=>?_
  ·have hk':k<pg.length:=by omega
   have ewk:IntKind.i64.wrap ((k:Int)+1)=((k+1:Nat):Int):=w64 (by omega) (by omega)
   simp only [ewk]
   have hgk:=hgi.pages hgl.2 k hk
   have hgc:=hgl.2 _ (List.getElem_mem hk')
   have hsv:=hev.size
   refine zb0.idx (r:=yu4) ((hpg.ext he4).ext hev) rfl hk' fun b2 o2 vs2 _ hrow2 hR2 _=>?_
   obtain ⟨ap,cp,rfl,hcp,hch⟩:=xj0 hR2
   refine ⟨_,_,_,_,_,hrow2.cells,zu7 (vs:=xw9 pg[k].page ap pg[k].changes.length cp pg[k].drop) rfl fun B2 w₇ hb7 hs7 he7 g7=>?_⟩
   obtain ⟨G',hG1',hG2'⟩:=(hfk.ext he7).slice
   have hgl1:=hgl.1
   refine ⟨_,_,_,za2 g7 rfl,(ys5 hG1' (fun b hb=>(hG2' b hb).2) (hch.ext he7) (by have:=hgk.len;have:=hgc.len;omega) (fun f hff=>by have:=hgk.vals f hff;omega) hgc.small).mono ?_⟩
   rintro _ w₈ ⟨a',c',rfl,hl8,he8⟩
   have hadd:=vk9 (zk3 low (l.take i)) hk'
   refine ⟨_,_,_,rfl,⟨k+1,rfl,hk',by rw [hadd],by rw [hadd];exact hl8.weak (by omega) (fun x hx=>hx.elim),(hev.trans he7).trans he8⟩,meas hk'⟩
  ·have hkk:k=pg.length:=by omega
   subst hkk
   rw [List.take_length] at hfk ⊢
   exact ⟨⟨i+1,rfl,hi',by rw [hsucc],by rw [hsucc];exact hfk,e4.trans hev⟩,meas hi'⟩
 ·have hii:i=l.length:=by omega
  subst hii
  rw [List.take_length] at hf ⊢
  exact hR _ _ ⟨a2,c2,rfl,hf.weak hs1 fun _ h=>h.elim,he1.trans heu⟩
theorem qc3 (a:List Fact) (pg:List zr7) (P:zr7):addP a (pg ++ [P])=ze0 (addP a pg) P.changes:=by
 unfold addP
 rw [List.foldl_append];rfl
theorem xy6:∀ (pg:List zr7) {a:List Fact},zg6 a=true→zg6 (addP a pg)=true
 | [],a,h=>h
 | P :: pg,a,h=>xy6 pg (a:=ze0 a P.changes) (yh3 _ _)
theorem xr7:∀ (l:List Part) {a:List Fact},zg6 a=true→zg6 (l.foldl (fun a x=>addP a x.pages) a)=true
 | [],a,h=>h
 | x :: l,a,h=>xr7 l (a:=addP a x.pages) (xy6 _ h)
theorem yn7 (n:Nat) (l:List Part):zg6 (zk3 n l)=true:=xr7 _ rfl
theorem xs0 (n:Nat) (l m:List Part):zk3 n (l ++ m)=(m.filter fun x=>decide (n≤x.seq)).foldl (fun a x=>addP a x.pages) (zk3 n l):=by
 unfold zk3
 rw [List.filter_append,List.foldl_append]
theorem ud7:∀ {l:List Part} (a:List Fact),(∀ x∈l,x.pages=[])→l.foldl (fun a x=>addP a x.pages) a=a
 | [],a,_=>rfl
 | x :: l,a,h=>by
  rw [List.foldl_cons,h x (by simp)]
  exact ud7 (l:=l) a fun y hy=>h y (by simp [hy])
theorem ys4 {n:Nat} {l m:List Part} (h:∀ x∈m,x.pages=[]):zk3 n (l ++ m)=zk3 n l:=by
 rw [xs0]
 exact ud7 _ fun x hx=>h x (List.mem_filter.1 hx).1
theorem vi5 (n:Nat) (l:List Part) (x:Part):zk3 n (l ++ [x])=if n≤x.seq then addP (zk3 n l) x.pages else zk3 n l:=by
 rw [xs0,List.filter_cons]
 by_cases h:n≤x.seq<;>simp [h]
theorem ue1 {n:Nat} {l m:List Part} (h:(l.filter fun x=>decide (n≤x.seq))=m.filter fun x=>decide (n≤x.seq)):zk3 n l=zk3 n m:=by
 unfold zk3
 rw [h]
theorem vw2 {n:Nat} {l:List Part} (h:∀ x∈l,x.seq<n):zk3 n l=[]:=by
 unfold zk3
 have:(l.filter fun x=>decide (n≤x.seq))=[]:=List.filter_eq_nil_iff.2 fun x hx=>by have:=h x hx;simp;omega
 rw [this];rfl
theorem uz4:∀ (pg:List zr7) (a n:Nat),lowP a pg≤n ↔ a≤n∧∀ P∈pg,P.drop≤n
 | [],a,n=>by simp [lowP]
 | P :: pg,a,n=>by
  show lowP (max a P.drop) pg≤n ↔ _
  rw [uz4 pg]
  simp only [List.mem_cons]
  constructor
  ·rintro ⟨h1,h2⟩
   refine ⟨by omega,?_⟩
   rintro Q (rfl | hQ)
   ·omega
   ·exact h2 Q hQ
  ·rintro ⟨h1,h2⟩
   exact ⟨by have:=h2 P (.inl rfl);omega,fun Q hQ=>h2 Q (.inr hQ)⟩
theorem vq1:∀ (l:List Part) (a n:Nat),l.foldl (fun n x=>lowP n x.pages) a≤n ↔ a≤n∧∀ p∈l,∀ P∈p.pages,P.drop≤n
 | [],a,n=>by simp
 | p :: l,a,n=>by
  rw [List.foldl_cons,vq1 l,uz4]
  simp only [List.mem_cons]
  constructor
  ·rintro ⟨⟨h1,h2⟩,h3⟩
   refine ⟨h1,?_⟩
   rintro q (rfl | hq)
   ·exact h2
   ·exact h3 q hq
  ·rintro ⟨h1,h2⟩
   exact ⟨⟨h1,h2 p (.inl rfl)⟩,fun q hq=>h2 q (.inr hq)⟩
theorem xn3 {l:List Part} {n:Nat}:lowL l≤n ↔ ∀ p∈l,∀ P∈p.pages,P.drop≤n:=by
 unfold lowL
 rw [vq1]
 simp
theorem vg8 {l:List Part} {p:Part} (hp:p∈l) {P:zr7} (hP:P∈p.pages):P.drop≤lowL l:=xn3.1 (Nat.le_refl _) p hp P hP
theorem qj0 (l:List Part):lowL l=0∨∃ p∈l,∃ P∈p.pages,P.drop=lowL l:=by
 by_cases h0:lowL l=0
 ·exact .inl h0
 ·refine .inr (Classical.byContradiction fun hn=>?_)
  have:lowL l≤lowL l - 1:=xn3.2 fun p hp P hP=>by
   have h1:=vg8 hp hP
   have h2:P.drop≠lowL l:=fun e=>hn ⟨p,hp,P,hP,e⟩
   omega
  omega
theorem vg7 {l m:List Part} (h:∀ x∈m,x.pages=[]):lowL (l ++ m)=lowL l:=by
 refine Nat.le_antisymm (xn3.2 fun p hp P hP=>?_) (xn3.2 fun p hp P hP=>vg8 (List.mem_append_left m hp) hP)
 rcases List.mem_append.1 hp with hp | hp
 ·exact vg8 hp hP
 ·rw [h p hp] at hP;cases hP
theorem uz5 (l:List Part) (p:Part) (P:zr7):lowL (l ++ [{ p with pages:=p.pages ++ [P] }])=max (lowL (l ++ [p])) P.drop:=by
 rw [xq8,xq8]
 unfold lowP
 simp only
 rw [List.foldl_append];rfl
def told (l:List Part):List Fact:=zk3 (lowL l) l
def yy6 (l:List Part):Prop:=l.Pairwise fun a b=>a.seq<b.seq
def qc5 (l:List Part):Prop:=∀ p∈l,∀ P∈p.pages,P.drop≤p.seq
structure vl5 (l l':List Part) (n:Nat):Prop where
 ex:∃ m,l'=l ++ m∧(∀ x∈m,x.pages=[])∧∀ x∈m,n<x.seq
theorem vl5.facts {l l':List Part} {n:Nat} (h:vl5 l l' n):(∀ k,zk3 k l'=zk3 k l)∧lowL l'=lowL l∧told l'=told l:=by
 obtain ⟨m,rfl,h1,_⟩:=h.ex
 have e:=vg7 (l:=l) h1
 refine ⟨fun k=>ys4 h1,e,?_⟩
 unfold told
 rw [e,ys4 h1]
theorem ux2 {i t:List Part} {p:Part} (ht:∀ x∈t,x.pages=[]) (P:zr7) :
  (∀ n,n≤p.seq→zk3 n (i ++ { p with pages:=p.pages ++ [P] } :: t)=ze0 (zk3 n (i ++ p :: t)) P.changes)∧lowL (i ++ { p with pages:=p.pages ++ [P] } :: t)=max (lowL (i ++ p :: t)) P.drop:=by
 have e:∀ x:Part,i ++ x :: t=(i ++ [x]) ++ t:=fun x=>by simp
 rw [e,e,vg7 ht,vg7 ht]
 refine ⟨fun n hn=>?_,uz5 _ _ _⟩
 rw [ys4 ht,ys4 ht,vi5,vi5]
 simp only
 rw [if_pos hn,if_pos hn,qc3]
theorem qj6 {l l':List Part} (hd:qc5 l) (hl:∀ p∈l',∃ q∈l,q.seq=p.seq∧∀ P∈p.pages,P∈q.pages) (hf:(l'.filter fun x=>decide (lowL l≤x.seq))=l.filter fun x=>decide (lowL l≤x.seq)) :
  lowL l'=lowL l∧told l'=told l∧qc5 l':=by
 have e:lowL l'=lowL l:=by
  refine Nat.le_antisymm (xn3.2 fun p hp P hP=>?_) ?_
  ·obtain ⟨q,hq,_,hs⟩:=hl p hp
   exact vg8 hq (hs P hP)
  ·rcases qj0 l with h0 | ⟨p,hp,P,hP,e⟩
   ·omega
   ·have h1:=hd p hp P hP
    have h2:p∈l'.filter fun x=>decide (lowL l≤x.seq):=by
     rw [hf,List.mem_filter]
     exact ⟨hp,by simp;omega⟩
    rw [← e]
    exact vg8 (List.mem_filter.1 h2).1 hP
 refine ⟨e,?_,fun p hp P hP=>?_⟩
 ·unfold told
  rw [e]
  exact ue1 hf
 ·obtain ⟨q,hq,hs,hpg⟩:=hl p hp
  rw [← hs]
  exact hd q hq P (hpg P hP)
def heads (c:Chip):List zb7:=zc1 (zh5 c.power) c.power
theorem vh6 {c:Chip} (h:CI c) (t:zb7):t∈heads c ↔ yg2 c c.nb t:=qi8 h t
theorem xx7 {c:Chip} (h:CI c):(heads c).Pairwise (fun a b=>a.head.seq<b.head.seq):=yt2 (yq5 (vt9 h) rfl).1 rfl
theorem yx5 {P:Pool} {c:Chip} (h:Inv P c) (hd0:c.dead=false):zc1 P c=heads c :=
 yw2 (f:=fun t:zb7=>t.head.seq) (yt2 h hd0) (xx7 h.ci) fun x=>by rw [yo0 h hd0,vh6 h.ci]
def partsC (c:Chip) (era:Nat):List Part:=partsL c era (heads c)
theorem zj9 {c:Chip} (h:CI c) {era:Nat} {p:Part}:p∈partsC c era ↔ ∃ i,i<c.nb∧isHd c i∧(hd c i).1.kind=1∧(hd c i).1.era=era∧p=⟨i,(hd c i).1.seq,zk1 c i⟩:=by
 unfold partsC partsL
 rw [List.mem_map]
 constructor
 ·rintro ⟨t,ht,rfl⟩
  obtain ⟨h1,h2⟩:=List.mem_filter.1 ht
  obtain ⟨m1,m2,m3,m4⟩:=(vh6 h t).1 h1
  unfold ys8 at h2
  simp only [Bool.and_eq_true,decide_eq_true_eq] at h2
  rw [m3] at h2
  exact ⟨t.block,m1,m2,h2.1,h2.2,by unfold zu2;rw [m3]⟩
 ·rintro ⟨i,h1,h2,h3,h4,rfl⟩
  refine ⟨⟨i,(hd c i).1,c.isBad i⟩,List.mem_filter.2 ⟨(vh6 h _).2 ⟨h1,h2,rfl,rfl⟩,?_⟩,rfl⟩
  unfold ys8
  simp only [Bool.and_eq_true,decide_eq_true_eq]
  exact ⟨h3,h4⟩
theorem zt2 {c:Chip} (h:CI c) (era:Nat):yy6 (partsC c era):=by
 unfold partsC partsL yy6
 rw [List.pairwise_map]
 exact (xx7 h).filter _
theorem vf4 {l m:List Part} (hl:yy6 l) (hm:yy6 m) (h:∀ p,p∈l ↔ p∈m):l=m:=yw2 (f:=Part.seq) hl hm h
theorem vz3 {c:Chip} (h:CI c) (hd0:c.dead=false) {era:Nat} (he:era≠0):zf5 c era=partsC c era:=by
 have hr:ym1 c era=0:=by unfold ym1;rw [if_neg (by rw [hd0];decide),if_neg he]
 unfold zf5
 rw [hr,if_neg (fun h=>h rfl),yx5 (yq5 h hd0).1 hd0]
 rfl
theorem yt4 {c c':Chip} (hn:c'.np=c.np) {i:Nat} (h:∀ k,1≤k→k<c.np→c'.page i k=c.page i k):zk1 c' i=zk1 c i:=by
 unfold zk1
 rw [hn]
 have:∀ m,m≤c.np→zk8 c' i m=zk8 c i m:=by
  intro m
  induction m with
  | zero=>intro _;rfl
  | succ m ih =>
   intro hm
   by_cases h0:m=0
   ·subst h0;rw [ys0,ys0]
   ·rw [zx9 _ _ _ (by omega),zx9 _ _ _ (by omega),ih (by omega),h m (by omega) (by omega)]
 exact this _ (Nat.le_refl _)
theorem yt3 {c:Chip} (ho:c.Ok) {i k:Nat} (hi:i<c.nb) (hop:zi3 c i k) (hk:1≤k):∀ m,k≤m→m≤c.np→zk8 c i m=zk8 c i k
 | 0,h,_=>by omega
 | m+1,h,hm=>by
  by_cases e:k=m+1
  ·subst e;rfl
  ·rw [zx9 _ _ _ (by omega),yt3 ho hi hop hk m (by omega) (by omega),hop.page ho hi (by omega) (by omega),uj3]
   simp
theorem vp3 {c:Chip} (ho:c.Ok) {i:Nat} (hi:i<c.nb) (hop:zi3 c i 1):zk1 c i=[]:=by
 have:=ho.np1
 unfold zk1
 rw [yt3 ho hi hop (Nat.le_refl _) _ (by omega) (Nat.le_refl _),ys0]
theorem ut1 {c c':Chip} (h:CI c) (h':CI c') (hg:c.SameGeo c') {n:Nat} (hn:∀ j,j<c.nb→isHd c j→(hd c j).1.seq≤n) (kept:∀ j,j<c.nb→isHd c j→c'.blk j=c.blk j)
  (new:∀ j,j<c.nb→¬ isHd c j→isHd c' j→n<(hd c' j).1.seq∧zi3 c' j 1) (era:Nat):vl5 (partsC c era) (partsC c' era) n:=by
 have old:∀ j,j<c.nb→isHd c j→isHd c' j∧hd c' j=hd c j∧zk1 c' j=zk1 c j:=fun j hj hh=>by
  have e:=kept j hj hh
  exact ⟨(yh7 hg e).2 hh,yo6 hg e,yt4 hg.2.1 fun k _ _=>xq5 hg e⟩
 have hr:=zt2 h era
 have hr':=zt2 h' era
 have hle:∀ p∈partsC c era,p.seq≤n:=fun p hp=>by
  obtain ⟨i,h1,h2,_,_,rfl⟩:=(zj9 h).1 hp
  exact hn i h1 h2
 refine ⟨⟨(partsC c' era).filter fun p=>decide (n<p.seq),vf4 hr' ?_ fun p=>?_,fun x hx=>?_,fun x hx=>?_⟩⟩
 ·unfold yy6
  rw [List.pairwise_append]
  refine ⟨hr,hr'.filter _,fun a ha b hb=>?_⟩
  have h1:=hle a ha
  have h2:=of_decide_eq_true (List.mem_filter.1 hb).2
  omega
 ·rw [List.mem_append,List.mem_filter,decide_eq_true_eq]
  constructor
  ·intro hp
   obtain ⟨i,h1,h2,h3,h4,e⟩:=(zj9 h').1 hp
   rw [hg.1] at h1
   by_cases hh:isHd c i
   ·obtain ⟨_,o2,o3⟩:=old i h1 hh
    rw [o2] at h3 h4 e
    rw [o3] at e
    exact .inl ((zj9 h).2 ⟨i,h1,hh,h3,h4,e⟩)
   ·have:=(new i h1 hh h2).1
    refine .inr ⟨hp,?_⟩
    rw [e];exact this
  ·rintro (hp | hp)
   ·obtain ⟨i,h1,h2,h3,h4,e⟩:=(zj9 h).1 hp
    obtain ⟨o1,o2,o3⟩:=old i h1 h2
    rw [← o2] at h3 h4 e
    rw [← o3] at e
    exact (zj9 h').2 ⟨i,by rw [hg.1];exact h1,o1,h3,h4,e⟩
   ·exact hp.1
 ·obtain ⟨hx1,hx2⟩:=List.mem_filter.1 hx
  have hx2:=of_decide_eq_true hx2
  obtain ⟨i,h1,h2,h3,h4,rfl⟩:=(zj9 h').1 hx1
  have h1':=h1
  rw [hg.1] at h1'
  have hh:¬ isHd c i:=fun hh=>by
   have:=hn i h1' hh
   rw [(old i h1' hh).2.1] at hx2
   have hx2':n<(hd c i).1.seq:=hx2
   omega
  exact vp3 h'.ok h1 (new i h1' hh h2).2
 ·exact of_decide_eq_true (List.mem_filter.1 hx).2
theorem ug6 {c c':Chip} (h:CI c) (h':CI c') (hg:c.SameGeo c') {i k:Nat} (hi:i<c.nb) (hk:1≤k) (hkn:k<c.np) (hh:isHd c i) (hhd:hd c' i=hd c i) (hoth:∀ j,j≠i→c'.blk j=c.blk j) (hpg:∀ j,j≠k→c'.page i j=c.page i j)
  (hop:zi3 c i k) (hop':zi3 c' i (k+1)) {era:Nat} {a t:List Part} {p:Part} (hp:partsC c era=a ++ p :: t) (hpb:p.block=i) :
  partsC c' era=a ++ { p with pages:=p.pages ++ (yb3 k (c'.page i k)).toList } :: t:=by
 have hr:=zt2 h era
 have hr':=zt2 h' era
 have hpm:p∈partsC c era:=by rw [hp];simp
 have hpe:p=⟨i,(hd c i).1.seq,zk1 c i⟩:=by
  obtain ⟨j,_,_,_,_,e⟩:=(zj9 h).1 hpm
  have:j=i:=by
   have h1:p.block=(j:Int):=by rw [e]
   omega
  rw [← this];exact e
 have hpages:zk1 c' i=zk1 c i ++ (yb3 k (c'.page i k)).toList:=by
  unfold zk1
  rw [yt3 h.ok hi hop hk _ (by omega) (Nat.le_refl _),yt3 h'.ok (by rw [hg.1];exact hi) hop' (by omega) _ (by rw [hg.2.1];omega) (Nat.le_refl _),zx9 _ _ _ hk]
  congr 1
  have:∀ m,m≤k→zk8 c' i m=zk8 c i m:=by
   intro m
   induction m with
   | zero=>intro _;rfl
   | succ m ih =>
    intro hm
    by_cases h0:m=0
    ·subst h0;rw [ys0,ys0]
    ·rw [zx9 _ _ _ (by omega),zx9 _ _ _ (by omega),ih (by omega),hpg m (by omega)]
  exact this _ (Nat.le_refl _)
 have hrise:yy6 (a ++ { p with pages:=p.pages ++ (yb3 k (c'.page i k)).toList } :: t):=by
  unfold yy6 at hr ⊢
  rw [hp] at hr
  rw [List.pairwise_append,List.pairwise_cons] at hr ⊢
  obtain ⟨r1,⟨r2,r3⟩,r4⟩:=hr
  refine ⟨r1,⟨r2,r3⟩,fun x hx y hy=>?_⟩
  rcases List.mem_cons.1 hy with rfl | hy
  ·exact r4 x hx p (by simp)
  ·exact r4 x hx y (by simp [hy])
 have hnew:({ p with pages:=p.pages ++ (yb3 k (c'.page i k)).toList }:Part)=⟨i,(hd c' i).1.seq,zk1 c' i⟩:=by
  rw [hpages,hhd,hpe]
 have hother:∀ q,q∈a∨q∈t→q.seq≠p.seq:=by
  rw [hp] at hr
  unfold yy6 at hr
  rw [List.pairwise_append,List.pairwise_cons] at hr
  obtain ⟨_,⟨r2,_⟩,r4⟩:=hr
  rintro q (hq | hq)
  ·have:=r4 q hq p (by simp);omega
  ·have:=r2 q hq;omega
 refine vf4 hr' hrise fun q=>?_
 have hin:q∈a∨q∈t ↔ ∃ j,j≠i∧j<c.nb∧isHd c j∧(hd c j).1.kind=1∧(hd c j).1.era=era∧q=⟨j,(hd c j).1.seq,zk1 c j⟩:=by
  constructor
  ·intro hq
   have hq':q∈partsC c era:=by
    rw [hp]
    rcases hq with hq | hq
    ·exact List.mem_append_left _ hq
    ·simp [hq]
   obtain ⟨j,h1,h2,h3,h4,e⟩:=(zj9 h).1 hq'
   refine ⟨j,fun ej=>hother q hq ?_,h1,h2,h3,h4,e⟩
   rw [e,hpe,ej]
  ·rintro ⟨j,hji,h1,h2,h3,h4,e⟩
   have hq':q∈partsC c era:=(zj9 h).2 ⟨j,h1,h2,h3,h4,e⟩
   rw [hp] at hq'
   rcases List.mem_append.1 hq' with hq' | hq'
   ·exact .inl hq'
   ·rcases List.mem_cons.1 hq' with e' | hq'
    ·rw [e',hpe] at e
     have:(i:Int)=(j:Int):=by injection e
     omega
    ·exact .inr hq'
 rw [zj9 h',List.mem_append,List.mem_cons,hnew]
 constructor
 ·rintro ⟨j,h1,h2,h3,h4,e⟩
  rw [hg.1] at h1
  by_cases hji:j=i
  ·subst hji;exact .inr (.inl e)
  ·have eb:=hoth j hji
   have e1:=yo6 hg eb
   have e2:=yh7 hg eb
   have e3:zk1 c' j=zk1 c j:=yt4 hg.2.1 fun k _ _=>xq5 hg eb
   rw [e1] at h3 h4 e
   rw [e3] at e
   rcases hin.2 ⟨j,hji,h1,e2.1 h2,h3,h4,e⟩ with hq | hq
   ·exact .inl hq
   ·exact .inr (.inr hq)
 ·intro hq
  have back:(q∈a∨q∈t)→∃ j,j<c'.nb∧isHd c' j∧(hd c' j).1.kind=1∧(hd c' j).1.era=era∧q=⟨j,(hd c' j).1.seq,zk1 c' j⟩:=fun hq=>by
   obtain ⟨j,hji,h1,h2,h3,h4,e⟩:=hin.1 hq
   have eb:=hoth j hji
   have e3:zk1 c' j=zk1 c j:=yt4 hg.2.1 fun k _ _=>xq5 hg eb
   exact ⟨j,by rw [hg.1];exact h1,(yh7 hg eb).2 h2,by rw [yo6 hg eb];exact h3,by rw [yo6 hg eb];exact h4,by rw [yo6 hg eb,e3];exact e⟩
  rcases hq with hq | hq | hq
  ·exact back (.inl hq)
  ·obtain ⟨j,h1,h2,h3,h4,e⟩:=(zj9 h).1 hpm
   have hji:j=i:=by
    rw [hpe] at e
    have:(i:Int)=(j:Int):=by injection e
    omega
   subst hji
   exact ⟨j,by rw [hg.1];exact hi,by unfold isHd;rw [hhd];exact hh,by rw [hhd];exact h3,by rw [hhd];exact h4,hq⟩
  ·exact back (.inr hq)
theorem uk8 {c c':Chip} (h:CI c) (h':CI c') (hg:c.SameGeo c') {i:Nat} (hoth:∀ j,j≠i→c'.blk j=c.blk j) (keep:isHd c' i→isHd c i∧hd c' i=hd c i) (hpg:∀ P∈zk1 c' i,P∈zk1 c i) (era:Nat) :
  (∀ p∈partsC c' era,∃ q∈partsC c era,q.seq=p.seq∧∀ P∈p.pages,P∈q.pages)∧
   ∀ n,(isHd c i→(hd c i).1.seq<n)→((partsC c' era).filter fun x=>decide (n≤x.seq))=(partsC c era).filter fun x=>decide (n≤x.seq):=by
 have same:∀ j,j≠i→hd c' j=hd c j∧(isHd c' j ↔ isHd c j)∧zk1 c' j=zk1 c j:=fun j hj =>
  ⟨yo6 hg (hoth j hj),yh7 hg (hoth j hj),yt4 hg.2.1 fun k _ _=>xq5 hg (hoth j hj)⟩
 refine ⟨fun p hp=>?_,fun n hn=>?_⟩
 ·obtain ⟨j,h1,h2,h3,h4,e⟩:=(zj9 h').1 hp
  rw [hg.1] at h1
  by_cases hji:j=i
  ·subst hji
   obtain ⟨k1,k2⟩:=keep h2
   rw [k2] at h3 h4
   refine ⟨_,(zj9 h).2 ⟨j,h1,k1,h3,h4,rfl⟩,by rw [e,k2],fun P hP=>?_⟩
   rw [e] at hP
   exact hpg P hP
  ·obtain ⟨s1,s2,s3⟩:=same j hji
   rw [s1] at h3 h4
   exact ⟨_,(zj9 h).2 ⟨j,h1,s2.1 h2,h3,h4,rfl⟩,by rw [e,s1],fun P hP=>by rw [e] at hP;rw [← s3];exact hP⟩
 ·refine vf4 ((zt2 h' era).filter _) ((zt2 h era).filter _) fun p=>?_
  rw [List.mem_filter,List.mem_filter,zj9 h',zj9 h,decide_eq_true_eq]
  constructor
  ·rintro ⟨⟨j,h1,h2,h3,h4,e⟩,hs⟩
   rw [hg.1] at h1
   have hji:j≠i:=fun ej=>by
    subst ej
    obtain ⟨k1,k2⟩:=keep h2
    have:=hn k1
    rw [e,k2] at hs
    have hs':n≤(hd c j).1.seq:=hs
    omega
   obtain ⟨s1,s2,s3⟩:=same j hji
   rw [s1] at h3 h4 e
   rw [s3] at e
   exact ⟨⟨j,h1,s2.1 h2,h3,h4,e⟩,hs⟩
  ·rintro ⟨⟨j,h1,h2,h3,h4,e⟩,hs⟩
   have hji:j≠i:=fun ej=>by
    subst ej
    have:=hn h2
    rw [e] at hs
    have hs':n≤(hd c j).1.seq:=hs
    omega
   obtain ⟨s1,s2,s3⟩:=same j hji
   exact ⟨⟨j,by rw [hg.1];exact h1,s2.2 h2,by rw [s1];exact h3,by rw [s1];exact h4,by rw [s1,s3];exact e⟩,hs⟩
def yi4 (c:Chip):Prop:=∀ i k,i<c.nb→k<c.np→Safe (c.page i k)
theorem yi4.up {c c':Chip} (h:yi4 c) (hg:c.SameGeo c') {i:Nat} (hoth:∀ j,j≠i→c'.blk j=c.blk j) (hi:i<c.nb→∀ k,k<c.np→Safe (c'.page i k)):yi4 c':=fun j k hj hk=>by
 rw [hg.1] at hj
 rw [hg.2.1] at hk
 by_cases e:j=i
 ·subst e;exact hi hj k hk
 ·rw [xq5 hg (hoth j e)];exact h j k hj hk
theorem ue4 {c:Chip} (h:c.Ok) (hd0:c.dead=false) {i:Nat} (hi:i<c.nb) (hb:c.isBad i=false) (k:Nat):SubL (c.page i k) ((c.erase i).1.page i k):=by
 rw [xj3 h hd0 hi hb]
 obtain ⟨hde,hbl,_⟩:=yy0 h hi (off:=0) (n:=c.np * c.sz) (by omega) (List.replicate (c.np * c.sz) 255)
 generalize c.done i 0 (c.np * c.sz) (List.replicate (c.np * c.sz) 255)=r at *
 have hlen:=h.blk_len hi
 have hmb:zz9 c i 0 (c.np * c.sz) (List.replicate (c.np * c.sz) 255)=mixL c.strike.2 (c.blk i) (List.replicate (c.np * c.sz) 255):=by
  unfold zz9
  rw [Nat.zero_add,List.drop_zero,List.take_zero,List.nil_append,List.take_of_length_le (show (c.blk i).length≤c.np * c.sz by omega),List.drop_of_length_le (show (c.blk i).length≤c.np * c.sz by omega),List.append_nil]
 rw [hmb] at hbl
 have hsub:SubL (c.blk i) (r.1.blk i):=by rw [hbl];exact vq0 _ _ _ (by omega)
 unfold Chip.page
 rw [hde.geo.2.2.1]
 exact (hsub.drop _).take _
theorem uu2 {c:Chip} (h:CI c) (hs:yi4 c) (hd0:c.dead=false) {i:Nat} (hi:i<c.nb) (hb:c.isBad i=false):yi4 (c.erase i).1:=by
 have hde:Deed c (c.erase i).1 i (c.erase i).2:=by
  rw [xj3 h.ok hd0 hi hb]
  exact (yy0 h.ok hi (off:=0) (n:=c.np * c.sz) (by omega) _).1
 exact hs.up hde.geo hde.blk fun _ k hk=>(hs i k hi hk).up (ue4 h.ok hd0 hi hb k)
theorem vn9 {c c':Chip} {i k e:Nat} {pg:List UInt8} (hs:yi4 c) (w:qn4 c c' i k e pg) (hpg:xv7 pg):yi4 c' :=
 hs.up w.deed.geo w.deed.blk fun hi j hj=>by
  by_cases e:j=k
  ·subst e;exact ⟨pg,hpg,w.sub⟩
  ·rw [w.other j e];exact hs i j hi hj
theorem ut0 {c:Chip} (hok:c.Ok) {P:Pool} {kind:UInt8} {era:Nat} (hk1:1≤kind.toNat) (hk3:kind.toNat≤3) (he1:1≤era) (hl:P.last+1<18446744073709551616):xv7 (zx0 c.sz ⟨kind,era,P.raise.last⟩).1:=by
 have hlast:P.raise.last=P.last+1:=Nat.mod_eq_of_lt hl
 have h1:=hok.sz1
 have h2:=hok.sz2
 have hsz:zh0 (c.sz:Int)=true:=by simp [zh0];omega
 have hm:(Head.mk kind era (P.last+1)).may=true:=by
  simp [Head.may];omega
 have hput:zx0 c.sz ⟨kind,era,P.raise.last⟩= (zp9 c.sz 1 (Head.mk kind era (P.last+1)).body,0):=by
  unfold zx0
  rw [hlast,if_neg (by rw [hm,hsz];simp)]
  simp
 have hbody:=(Head.mk kind era (P.last+1)).body_length
 rw [hput]
 exact yi6 (by omega) (by omega)
theorem vo0 {P:Pool} {c:Chip} (h:CI c) (hs:yi4 c) (hd0:c.dead=false) {i:Nat} (hi:i<c.nb) (hb:c.isBad i=false) (hbl:zc7 (c.blk i)=true) {kind:UInt8} {era:Nat} (hk1:1≤kind.toNat) (hk3:kind.toNat≤3) (he1:1≤era) (hl:P.last+1<18446744073709551616):yi4 (zg3 P c i kind era).2.1:=by
 have hnp:=h.ok.np1
 exact vn9 hs (yq8 h.ok hd0 hi (k:=0) (by omega) hb (zi3.of_blank hbl) (yz1 h.ok (P:=P) hk1 hk3 he1 hl)) (ut0 h.ok hk1 hk3 he1 hl)
theorem qd2 {P:Pool} {c:Chip} (h:Inv P c) (hs:yi4 c) (hd0:c.dead=false) {i:Nat} (hi:i<c.nb) (hb:c.isBad i=false) (hw:(P.blk i).what≠2) {kind:UInt8} {era:Nat} (hk1:1≤kind.toNat) (hk3:kind.toNat≤3) (he1:1≤era) (hl:P.last+1<18446744073709551616):yi4 (zo2 P c i kind era).2.1:=by
 have hkn:=h.known hd0 i hi
 unfold zo2
 split
 ·obtain ⟨hde,hinv,hz,hk⟩:=xg1 h hd0 hi hb
  have h1:=uu2 h.ci hs hd0 hi hb
  split
  ·exact h1
  ·rename_i heq
   have h0:(c.erase i).2=0:=Classical.byContradiction heq
   have hdd:(c.erase i).1.dead=c.dead∧(c.erase i).1.bad=c.bad:=by
    rcases hde.cases with ⟨_,a,b⟩| ⟨a,_⟩| ⟨a,_⟩
    ·exact ⟨a,b⟩
    ·omega
    ·omega
   exact vo0 (P:=P.relook (c.erase i).1 i) hinv.ci h1 (by rw [hdd.1];exact hd0) (by rw [hde.geo.1];exact hi) (by unfold Chip.isBad;rw [hdd.2];exact hb) (by rw [hz h0];exact zr4 _) hk1 hk3 he1 hl
 ·rename_i h1
  have hbk:zc7 (c.blk i)=true:=by
   rw [hkn] at h1 hw
   exact xp1 (va6 hw h1)
  exact vo0 h.ci hs hd0 hi hb hbk hk1 hk3 he1 hl
theorem xl7 {kind:UInt8} {era:Nat} (hk1:1≤kind.toNat) (hk3:kind.toNat≤3) (he1:1≤era) (he2:era<4294967296):∀ (ks:List Nat) {P:Pool} {c:Chip},Inv P c→yi4 c→c.dead=false→P.last+ks.length<18446744073709551616→
  yi4 (zp3 kind era P c ks).chip∧((zp3 kind era P c ks).err≠10→∀ j,j<c.nb→¬ isHd c j→isHd (zp3 kind era P c ks).chip j→(zp3 kind era P c ks).chip.isBad j=true∨((zp3 kind era P c ks).err=0∧j=(zp3 kind era P c ks).block))
 | [],P,c,h,hs,hd0,hl=>⟨hs,fun _ j _ hn hh=>absurd hh hn⟩
 | k :: ks,P,c,h,hs,hd0,hl=>by
  have hnb:=h.ci.ok.nb1
  have hmod:(P.turn+k) % c.nb<c.nb:=Nat.mod_lt _ (by omega)
  simp only [List.length_cons] at hl
  unfold zp3
  split
  ·exact xl7 hk1 hk3 he1 he2 ks h hs hd0 (by omega)
  ·rename_i hno
   have hb:c.isBad ((P.turn+k) % c.nb)=false:=by
    cases hbb:c.isBad ((P.turn+k) % c.nb) with
    | false=>rfl
    | true=>exact absurd (.inl hbb) hno
   have hw:(P.blk ((P.turn+k) % c.nb)).what≠2:=fun e=>hno (.inr e)
   have o1:=qd2 h hs hd0 hmod hb hw hk1 hk3 he1 (by omega)
   have tr:=vs9 h hd0 hmod hb hw hk1 hk3 he1 he2 (by omega)
   generalize hi:(P.turn+k) % c.nb=i at *
   generalize hT:zo2 P c i kind era=T at *
   have one:∀ j,j<c.nb→¬ isHd c j→isHd T.2.1 j→j=i:=fun j hj hn hh =>
    Classical.byContradiction fun e=>hn ((yh7 tr.deed.geo (tr.deed.blk j e)).1 hh)
   split
   ·exact ⟨o1,fun _ j hj hn hh=>.inr ⟨rfl,one j hj hn hh⟩⟩
   split
   ·exact ⟨o1,fun h10=>absurd rfl h10⟩
   ·rename_i h0 h10
    obtain ⟨hd1,hbi⟩: T.2.1.dead=false∧T.2.1.isBad i=true:=by
     rcases tr.deed.cases with ⟨a,_⟩| ⟨_,a,b⟩| ⟨a,_⟩
     ·exact absurd a h0
     ·exact ⟨by rw [a];exact hd0,b⟩
     ·exact absurd a h10
    have hhi:=tr.hi
    obtain ⟨r1,r2⟩:=xl7 hk1 hk3 he1 he2 ks tr.inv o1 hd1 (by omega)
    have tp:=yr2 hk1 hk3 he1 he2 ks tr.inv hd1 (by omega)
    have hnbT:T.2.1.nb=c.nb:=tr.deed.geo.1
    refine ⟨r1,fun hne j hj hn hh=>?_⟩
    by_cases hh1:isHd T.2.1 j
    ·have e:=one j hj hn hh1
     subst e
     exact .inl (tp.bads _ (by rw [hnbT];exact hj) hbi)
    ·exact r2 hne j (by rw [hnbT];exact hj) hh1 hh
def vh4 (c:Chip) (j:Nat):Bool:=decide ((hd c j).2=0)
theorem yx4 {c:Chip} {j:Nat}:vh4 c j=true ↔ isHd c j:=by unfold vh4 isHd;simp
def zy4 (n:Nat) (c:Chip):Nat:=((List.range c.nb).filter fun j=>(vh4 c j && !c.isBad j) && decide (n≤(hd c j).1.seq)).length
def zr6 (c:Chip):Nat:=((List.range c.nb).filter fun j=>c.isBad j).length
theorem yi8 {n:Nat} {p q:Nat→Bool} (h:∀ j,j<n→p j=true→q j=true):((List.range n).filter p).length≤((List.range n).filter q).length :=
 vc5 (List.Pairwise.filter _ List.nodup_range) fun x hx=>by
  obtain ⟨h1,h2⟩:=List.mem_filter.1 hx
  exact List.mem_filter.2 ⟨h1,h x (by simpa using h1) h2⟩
theorem va2 {n i:Nat} {p q:Nat→Bool} (h:∀ j,j<n→p j=true→q j=true∨j=i):((List.range n).filter p).length≤((List.range n).filter q).length+1:=by
 have h1:((List.range n).filter p).length≤(i :: (List.range n).filter q).length:=vc5 (List.Pairwise.filter _ List.nodup_range) fun x hx=>by
  obtain ⟨h1,h2⟩:=List.mem_filter.1 hx
  rcases h x (by simpa using h1) h2 with h3 | h3
  ·exact List.mem_cons_of_mem _ (List.mem_filter.2 ⟨h1,h3⟩)
  ·rw [h3];simp
 simpa using h1
theorem xv0 {n i:Nat} {p q:Nat→Bool} (hi:i<n) (h:∀ j,j<n→p j=true→q j=true∧j≠i) (hq:q i=true):((List.range n).filter p).length+1≤((List.range n).filter q).length:=by
 have h1:(i :: (List.range n).filter p).length≤((List.range n).filter q).length:=by
  refine vc5 (List.nodup_cons.2 ⟨fun hx=>?_,List.Pairwise.filter _ List.nodup_range⟩) fun x hx=>?_
  ·obtain ⟨h1,h2⟩:=List.mem_filter.1 hx
   exact (h i hi h2).2 rfl
  ·rcases List.mem_cons.1 hx with rfl | hx
   ·exact List.mem_filter.2 ⟨by simpa using hi,hq⟩
   ·obtain ⟨h1,h2⟩:=List.mem_filter.1 hx
    exact List.mem_filter.2 ⟨h1,(h x (by simpa using h1) h2).1⟩
 simpa using h1
theorem ug8 (n:Nat) (p q:Nat→Bool):((List.range n).filter fun j=>p j && !q j).length+((List.range n).filter fun j=>q j).length+((List.range n).filter fun j=> !p j && !q j).length=n:=by
 induction n with
 | zero=>rfl
 | succ n ih =>
  rw [List.range_succ]
  simp only [List.filter_append,List.length_append,List.filter_cons,List.filter_nil]
  cases p n<;>cases q n<;>simp<;>omega
theorem yp0 {P:Pool} {c:Chip} (h:Inv P c) (hd0:c.dead=false):zy4 0 c+zr6 c+zh3 P c=c.nb:=by
 have e:zh3 P c=((List.range c.nb).filter fun j=> !vh4 c j && !c.isBad j).length:=by
  unfold zh3
  congr 1
  refine List.filter_congr fun j hj=>?_
  have hj':j<c.nb:=by simpa using hj
  congr 1
  rw [Bool.eq_iff_iff,decide_eq_true_eq,Bool.not_eq_true',← Bool.not_eq_true,yx4]
  exact not_congr (h.what hd0 hj')
 have e2:zy4 0 c=((List.range c.nb).filter fun j=>vh4 c j && !c.isBad j).length:=by
  unfold zy4
  congr 1
  exact List.filter_congr fun j _=>by simp
 rw [e,e2]
 exact ug8 c.nb (vh4 c) c.isBad
end Go.Den
