/- How layer 14's arguments are opened. (Merged and shortened by program: MTell4 MTell5 MPackF MTell6 MTell7 SLog7 SLog8 MLaw14 SFacts0 SLog9 MTell8 MFierce SCopy SLaw14 LPoolNil SLog10 MRoom SRoom SLawP MRoom2 SLawQ SFresh14 MCut14 Frame Frame2 Frame3 Frame4 Open14.) -/
import Derived.Test.YtnjiiijdgijahaaGreatQ5
import Derived.ProofKit
import Derived.Carry
import Derived.OpenShut
import Derived.SizedLaws
import Derived.Test.YtnjiiijdgijahaaGreatRows
set_option linter.unusedVariables false
set_option linter.unusedSimpArgs false
set_option maxRecDepth 20000
namespace Go.Den
structure Well (c:Chip) (era:Nat):Prop where
 ci:CI c
 safe:AllSafe c
 drops:Drops (partsC c era)
 mine:∀ i,i<c.nb→isHd c i→(hd c i).1.kind=1∧(hd c i).1.era=era
structure Open (s:LogS) (i:Nat) (a t:List Part) (p:Part):Prop where
 blk:s.block=i
 parts:partsC s.chip s.era=a ++ p :: t
 pb:p.block=i
 quiet:∀ x∈t,x.pages=[]
 good:s.chip.isBad i=false
 page:1≤s.page
 open_:OpenFrom s.chip i s.page
structure LogOk (s:LogS):Prop where
 inv:Inv s.pool s.chip
 alive:s.chip.dead=false
 turn:s.pool.turn≤s.chip.nb
 era1:1≤s.era
 era2:s.era<4294967296
 well:Well s.chip s.era
 open_:s.block= -1∨s.chip.np≤s.page∨∃ i a t p,Open s i a t p
def Cov (s:LogS) (n:Nat):Prop:=n≤s.pool.last+1∧∀ i a t p,s.page<s.chip.np→Open s i a t p→n≤p.seq
theorem part_unique {c:Chip} (h:CI c) {era:Nat} {p q:Part} (hp:p∈partsC c era) (hq:q∈partsC c era) (e:p.block=q.block):p=q:=by
 obtain ⟨i,_,_,_,_,rfl⟩:=(partsC_mem h).1 hp
 obtain ⟨j,_,_,_,_,rfl⟩:=(partsC_mem h).1 hq
 have e':(i:Int)=(j:Int):=e
 have:i=j:=by omega
 rw [this]
theorem Open.mem {s:LogS} {i:Nat} {a t:List Part} {p:Part} (h:Open s i a t p):p∈partsC s.chip s.era:=by rw [h.parts];simp
theorem Open.hd {s:LogS} {i:Nat} {a t:List Part} {p:Part} (h:Open s i a t p) (hc:CI s.chip):i<s.chip.nb∧isHd s.chip i∧p.seq=(hd s.chip i).1.seq:=by
 obtain ⟨j,h1,h2,_,_,e⟩:=(partsC_mem hc).1 h.mem
 have e1:p.block=(j:Int):=by rw [e]
 have e2:=h.pb
 have:j=i:=by omega
 subst this
 exact ⟨h1,h2,by rw [e]⟩
theorem LogOk.seqs {s:LogS} (h:LogOk s) {p:Part} (hp:p∈partsC s.chip s.era):p.seq≤s.pool.last:=by
 obtain ⟨i,h1,h2,_,_,rfl⟩:=(partsC_mem h.well.ci).1 hp
 exact h.inv.last i h1 h2
theorem cov_low {s:LogS} (h:LogOk s):Cov s (lowL (partsC s.chip s.era)):=by
 have hr:=partsC_rising h.well.ci s.era
 refine ⟨?_,fun i a t p _ ho=>?_⟩
 ·have:lowL (partsC s.chip s.era)≤s.pool.last:=lowL_le.2 fun p hp P hP=>Nat.le_trans (h.well.drops p hp P hP) (h.seqs hp)
  omega
 ·refine lowL_le.2 fun q hq P hP=>?_
  have hd1:=h.well.drops q hq P hP
  rw [ho.parts] at hq hr
  unfold Rising at hr
  rw [List.pairwise_append,List.pairwise_cons] at hr
  rcases List.mem_append.1 hq with hq | hq
  ·have:=hr.2.2 q hq p (by simp)
   omega
  ·rcases List.mem_cons.1 hq with rfl | hq
   ·exact hd1
   ·rw [ho.quiet q hq] at hP;cases hP
structure TakeOk (s:LogS) (y:LogS×Nat):Prop where
 err:y.2=0∨y.2=10∨y.2=11
 keeps:s.Keeps y.1
 well:Well y.1.chip s.era
 behind:Behind (partsC s.chip s.era) (partsC y.1.chip s.era) s.pool.last
 lo:s.pool.last≤y.1.pool.last
 hi:y.1.pool.last≤s.pool.last+s.chip.nb
 dead:y.2=10→y.1.chip.dead=true
 log:y.2≠10→LogOk y.1
 ok:y.2=0→∃ i a p,Open y.1 i a [] p∧y.1.page=1∧p.pages=[]∧p.seq=y.1.pool.last∧s.pool.last<p.seq
 stay:y.2=11→blanksPool y.1.pool y.1.chip=0∧y.1.block=s.block∧y.1.page=s.page
 live:∀ n,y.2≠10→lives n y.1.chip≤lives n s.chip+(if y.2=0 then 1 else 0)
 cov:∀ n,Cov s n→y.2≠10→Cov y.1 n
 hits:y.1.chip.hits.length≤s.chip.hits.length
 calm:(∀ t∈s.chip.hits,t.fails=false)→(∀ t∈y.1.chip.hits,t.fails=false)∧y.1.chip.bad=s.chip.bad
 still:s.chip.hits=[]→y.1.chip.hits=[]∧y.2≠10
 bads:badsC s.chip≤badsC y.1.chip
 inv:Inv y.1.pool y.1.chip
theorem take_ok {s:LogS} (h:LogOk s) (hl:s.pool.last+s.chip.nb<18446744073709551616):TakeOk s s.take:=by
 have hk:=s.take_keeps
 have hnb:=h.inv.ci.ok.nb1
 have hlen:(List.range s.chip.nb).length=s.chip.nb:=by simp
 have hgo:=takePool_go (P:=s.pool) h.inv.ci.ok h.alive (kind:=1) (era:=s.era) (by decide) (by decide) h.era1
 have tp:=takeGo_inv (kind:=1) (by decide) (by decide) h.era1 h.era2 (List.range s.chip.nb) h.inv h.alive (by omega)
 obtain ⟨op,hhi⟩:=takeGo_open (kind:=1) (by decide) (by decide) h.era1 h.era2 (List.range s.chip.nb) h.inv h.alive (by omega)
 have nw:=takeGo_new (kind:=1) (by decide) (by decide) h.era1 h.era2 (List.range s.chip.nb) h.inv h.alive (by omega)
 obtain ⟨sf,lv⟩:=takeGo_safe (kind:=1) (by decide) (by decide) h.era1 h.era2 (List.range s.chip.nb) h.inv h.well.safe h.alive (by omega)
 have ht:s.take=if (takePool s.pool s.chip 1 s.era).err=0 then ({ s with pool:=(takePool s.pool s.chip 1 s.era).pool,chip:=(takePool s.pool s.chip 1 s.era).chip,block:=(takePool s.pool s.chip 1 s.era).block,page:=1 },0) else ({ s with pool:=(takePool s.pool s.chip 1 s.era).pool,chip:=(takePool s.pool s.chip 1 s.era).chip },(takePool s.pool s.chip 1 s.era).err):=rfl
 rw [ht] at hk ⊢
 rw [hgo] at hk ⊢
 generalize takeGo 1 s.era s.pool s.chip (List.range s.chip.nb)=R at *
 have hbeh:Behind (partsC s.chip s.era) (partsC R.chip s.era) s.pool.last :=
  grow_parts h.inv.ci tp.inv.ci tp.geo (fun j hj hh=>h.inv.last j hj hh) (fun j hj hh=>(tp.kept j hj hh).1) (fun j hj hn hh=>⟨(nw j hj hn hh).2.2,op j hj hn hh⟩) s.era
 have hmine:∀ i,i<R.chip.nb→isHd R.chip i→(hd R.chip i).1.kind=1∧(hd R.chip i).1.era=s.era:=fun i hi hh=>by
  rw [tp.geo.1] at hi
  by_cases hh0:isHd s.chip i
  ·rw [hd_blk tp.geo (tp.kept i hi hh0).1]
   exact h.well.mine i hi hh0
  ·exact ⟨(nw i hi hh0 hh).1,(nw i hi hh0 hh).2.1⟩
 have hdrops:Drops (partsC R.chip s.era):=fun p hp P hP=>by
  obtain ⟨m,e,h1,_⟩:=hbeh.ex
  rw [e] at hp
  rcases List.mem_append.1 hp with hp | hp
  ·exact h.well.drops p hp P hP
  ·rw [h1 p hp] at hP;cases hP
 have hwell:Well R.chip s.era:=⟨tp.inv.ci,sf,hdrops,hmine⟩
 have hhi2:=tp.hi
 rw [hlen] at hhi2
 have hbads:badsC s.chip≤badsC R.chip:=by
  unfold badsC
  rw [tp.geo.1]
  exact filter_count fun j hj hb=>tp.bads j hj hb
 have hlives:∀ n,R.err≠10→lives n R.chip≤lives n s.chip+(if R.err=0 then 1 else 0):=fun n hne=>by
  unfold lives
  rw [tp.geo.1]
  have key:∀ j,j<s.chip.nb→((isHdB R.chip j && !R.chip.isBad j) && decide (n≤(hd R.chip j).1.seq))=true→((isHdB s.chip j && !s.chip.isBad j) && decide (n≤(hd s.chip j).1.seq))=true∨(R.err=0∧j=R.block):=fun j hj hh=>by
   simp only [Bool.and_eq_true,isHdB_iff,Bool.not_eq_true',decide_eq_true_eq] at hh ⊢
   by_cases hh0:isHd s.chip j
   ·exact .inl ⟨⟨hh0,by rw [← (tp.kept j hj hh0).2];exact hh.1.2⟩,by rw [← hd_blk tp.geo (tp.kept j hj hh0).1];exact hh.2⟩
   ·rcases lv hne j hj hh0 hh.1.1 with hb | hb
    ·rw [hh.1.2] at hb;cases hb
    ·exact .inr hb
  by_cases h0:R.err=0
  ·rw [if_pos h0]
   exact filter_count_one (i:=R.block) fun j hj hh=>by
    rcases key j hj hh with hh | hh
    ·exact .inl hh
    ·exact .inr hh.2
  ·rw [if_neg h0]
   exact filter_count fun j hj hh=>by
    rcases key j hj hh with hh | hh
    ·exact hh
    ·exact absurd hh.1 h0
 have hcalm:(∀ t∈s.chip.hits,t.fails=false)→(∀ t∈R.chip.hits,t.fails=false)∧R.chip.bad=s.chip.bad:=fun hc=>⟨(tp.calm hc).1,(tp.calm hc).2.1⟩
 by_cases h0:R.err=0
 ·rw [if_pos h0] at hk ⊢
  obtain ⟨_,hdR,hb,hnh,hbad,hhd,hlt⟩: R.err=0∧R.chip.dead=false∧R.block<s.chip.nb∧¬ isHd s.chip R.block∧R.chip.isBad R.block=false∧hd R.chip R.block=(⟨1,s.era,R.pool.last⟩,0)∧s.pool.last<R.pool.last:=by
   rcases tp.cases with b | ⟨b,_⟩| ⟨b,_⟩
   ·exact b
   ·omega
   ·omega
  have hisd:isHd R.chip R.block:=by unfold isHd;rw [hhd]
  have hop1:=op _ hb hnh hisd
  have hbR:R.block<R.chip.nb:=by rw [tp.geo.1];exact hb
  have hpm:(⟨R.block,R.pool.last,[]⟩: Part)∈partsC R.chip s.era:=by
   refine (partsC_mem tp.inv.ci).2 ⟨R.block,hbR,hisd,by rw [hhd],by rw [hhd],?_⟩
   rw [hhd,pagesS_new tp.inv.ci.ok hbR hop1]
  have hrise:=partsC_rising tp.inv.ci s.era
  have hseq:∀ q∈partsC R.chip s.era,q.seq≤R.pool.last:=fun q hq=>by
   obtain ⟨j,j1,j2,_,_,rfl⟩:=(partsC_mem tp.inv.ci).1 hq
   exact tp.inv.last j j1 j2
  obtain ⟨a,t,hat⟩:=List.append_of_mem hpm
  have ht0:t=[]:=by
   cases t with
   | nil=>rfl
   | cons x t =>
    have h1:=hseq x (by rw [hat];simp)
    rw [hat] at hrise
    unfold Rising at hrise
    rw [List.pairwise_append,List.pairwise_cons] at hrise
    have h2:=hrise.2.1.1 x (by simp)
    have h2':R.pool.last<x.seq:=h2
    omega
  subst ht0
  have hopen:Open ({ s with pool:=R.pool,chip:=R.chip,block:=R.block,page:=1 }:LogS) R.block a [] ⟨R.block,R.pool.last,[]⟩:=⟨rfl,hat,rfl,(fun _ h=>by cases h),hbad,Nat.le_refl _,hop1⟩
  have hlog:LogOk ({ s with pool:=R.pool,chip:=R.chip,block:=R.block,page:=1 }:LogS):=⟨tp.inv,hdR,by show R.pool.turn≤R.chip.nb;rw [tp.geo.1];exact tp.turn h.turn,h.era1,h.era2,hwell,.inr (.inr ⟨_,_,_,_,hopen⟩)⟩
  refine ⟨.inl rfl,hk,hwell,hbeh,tp.lo,hhi2,(fun h=>by cases h),fun _=>hlog,fun _=>⟨R.block,a,_,hopen,rfl,rfl,rfl,hlt⟩,(fun h=>by cases h),(fun n _=>by have:=hlives n (by omega);rw [if_pos h0] at this;exact this),fun n hn _=>?_,hhi,hcalm,fun hq=>⟨(tp.quiet hq).1,(fun h=>by cases h)⟩,hbads,tp.inv⟩
  refine ⟨Nat.le_trans hn.1 (by show s.pool.last+1≤R.pool.last+1;omega),fun i a' t' p' _ ho=>?_⟩
  have e:=part_unique tp.inv.ci ho.mem hpm (by
   have h1:=ho.pb
   have h2:=ho.blk
   have h2':(R.block:Int)=i:=h2
   show p'.block=(R.block:Int)
   omega)
  rw [e]
  have:=hn.1
  show n≤R.pool.last
  omega
 ·rw [if_neg h0] at hk ⊢
  have h1011:R.err=10∧R.chip.dead=true∨R.err=11∧R.chip.dead=false∧∀ k∈List.range s.chip.nb,R.chip.isBad ((s.pool.turn+k) % s.chip.nb)=true∨isHd R.chip ((s.pool.turn+k) % s.chip.nb):=by
   rcases tp.cases with ⟨b,_⟩| b | b
   ·exact absurd b h0
   ·exact .inl b
   ·exact .inr b
  have hlog:R.err≠10→LogOk ({ s with pool:=R.pool,chip:=R.chip }:LogS):=fun hne=>by
   obtain ⟨_,hdR,_⟩:=h1011.resolve_left fun h=>hne h.1
   refine ⟨tp.inv,hdR,by show R.pool.turn≤R.chip.nb;rw [tp.geo.1];exact tp.turn h.turn,h.era1,h.era2,hwell,?_⟩
   rcases h.open_ with ho | ho | ⟨i,a,t,p,ho⟩
   ·exact .inl ho
   ·exact .inr (.inl (by show R.chip.np≤s.page;rw [tp.geo.2.1];exact ho))
   ·obtain ⟨m,e,m1,m2⟩:=hbeh.ex
    obtain ⟨o1,o2,o3⟩:=ho.hd h.well.ci
    have hkept:=tp.kept i o1 o2
    refine .inr (.inr ⟨i,a,t ++ m,p,ho.blk,?_,ho.pb,fun x hx=>?_,?_,ho.page,?_⟩)
    ·show partsC R.chip s.era=_
     rw [e,ho.parts];simp
    ·rcases List.mem_append.1 hx with hx | hx
     ·exact ho.quiet x hx
     ·exact m1 x hx
    ·show R.chip.isBad i=false
     rw [hkept.2];exact ho.good
    ·exact ho.open_.blk tp.geo hkept.1
  refine ⟨?_,hk,hwell,hbeh,tp.lo,hhi2,fun h=>?_,hlog,fun h=>absurd h h0,fun h11=>?_,fun n hne=>hlives n hne,fun n hn hne=>?_,hhi,hcalm,fun hq=>⟨(tp.quiet hq).1,(tp.quiet hq).2.1⟩,hbads,tp.inv⟩
  ·rcases h1011 with ⟨h,_⟩| ⟨h,_⟩
   ·exact .inr (.inl h)
   ·exact .inr (.inr h)
  ·rcases h1011 with ⟨_,h'⟩| ⟨h',_⟩
   ·exact h'
   ·have h'':R.err=10:=h
    omega
  ·have h11':R.err=11:=h11
   obtain ⟨_,hdR,hall⟩:=h1011.resolve_left fun h=>by omega
   refine ⟨?_,rfl,rfl⟩
   show blanksPool R.pool R.chip=0
   rw [blanks_ref tp.inv hdR]
   refine blanks_zero tp.inv.ci hdR fun j hj=>?_
   rw [tp.geo.1] at hj
   obtain ⟨k,hk1,hk2⟩:=mod_all h.turn hj
   have:=hall k (by simpa using hk1)
   rw [hk2] at this
   exact this
  ·refine ⟨Nat.le_trans hn.1 (by show s.pool.last+1≤R.pool.last+1;have:=tp.lo;omega),fun i a t p hpg ho=>?_⟩
   have hpg':s.page<s.chip.np:=by rw [← tp.geo.2.1];exact hpg
   rcases h.open_ with h1 | h1 | ⟨j,a',t',p',ho'⟩
   ·have:=ho.blk
    have hb:s.block=i:=this
    omega
   ·omega
   ·have hji:j=i:=by
     have h1:=ho.blk
     have h1':s.block=i:=h1
     have h2:=ho'.blk
     omega
    subst hji
    obtain ⟨m,e,_⟩:=hbeh.ex
    have hp':p'∈partsC R.chip s.era:=by rw [e];exact List.mem_append_left _ ho'.mem
    have:=part_unique tp.inv.ci ho.mem hp' (by rw [ho.pb,ho'.pb])
    rw [this]
    exact hn.2 _ _ _ _ hpg' ho'
def Same (l l':List Part):Prop:=(∀ n,factsP n l'=factsP n l)∧lowL l'=lowL l
def Done (C:Nat→Prop) (cs:List Change) (d:Nat) (l l':List Part):Prop:=(∀ n,C n→factsP n l'=applyF (factsP n l) cs)∧lowL l'=max (lowL l) d
theorem Same.refl (l:List Part):Same l l:=⟨fun _=>rfl,rfl⟩
theorem Same.trans {a b c:List Part} (h:Same a b) (k:Same b c):Same a c:=⟨fun n=>(k.1 n).trans (h.1 n),k.2.trans h.2⟩
theorem Same.done {C:Nat→Prop} {cs:List Change} {d:Nat} {a b c:List Part} (h:Same a b) (k:Done C cs d b c):Done C cs d a c:=⟨fun n hn=>by rw [k.1 n hn,h.1],by rw [k.2,h.2]⟩
theorem Done.same {C:Nat→Prop} {cs:List Change} {d:Nat} {a b c:List Part} (h:Done C cs d a b) (k:Same b c):Done C cs d a c:=⟨fun n hn=>by rw [k.1 n,h.1 n hn],by rw [k.2,h.2]⟩
theorem Done.twice {C:Nat→Prop} {cs:List Change} {d:Nat} {a b c:List Part} (h:Done C cs d a b) (k:Done C cs d b c):Done C cs d a c :=
 ⟨fun n hn=>by rw [k.1 n hn,h.1 n hn,applyF_twice (factsP_ordered n a)],by rw [k.2,h.2];omega⟩
theorem Done.mono {C C':Nat→Prop} {cs:List Change} {d:Nat} {a b:List Part} (h:Done C cs d a b) (hc:∀ n,C' n→C n):Done C' cs d a b:=⟨fun n hn=>h.1 n (hc n hn),h.2⟩
theorem Behind.same {l l':List Part} {n:Nat} (h:Behind l l' n):Same l l':=⟨h.facts.1,h.facts.2.1⟩
structure PageOk (s:LogS) (i:Nat) (a t:List Part) (p:Part) (cs:List Change) (d:Nat) (q:Chip×Nat):Prop where
 err:q.2=0∨q.2=9∨q.2=10
 geo:s.chip.SameGeo q.1
 well:Well q.1 s.era
 inv:Inv s.pool q.1
 dead:q.1.dead=if q.2=10 then true else false
 says:(Same (partsC s.chip s.era) (partsC q.1 s.era)∧q.2≠0)∨Done (·≤p.seq) cs d (partsC s.chip s.era) (partsC q.1 s.era)
 ok:q.2=0→∃ p',p'.seq=p.seq∧Open { s with chip:=q.1,page:=s.page+1 } i a t p'
 live:∀ n,q.2=0→lives n q.1=lives n s.chip
 less:q.2=9→(∀ n,n≤p.seq→lives n q.1+1≤lives n s.chip)∧q.1.hits.length<s.chip.hits.length
 hits:q.1.hits.length≤s.chip.hits.length
 calm:(∀ t∈s.chip.hits,t.fails=false)→q.2≠9∧(∀ t∈q.1.hits,t.fails=false)∧q.1.bad=s.chip.bad
 still:s.chip.hits=[]→q.2=0∧q.1.hits=[]
 bads:badsC s.chip≤badsC q.1
 blanks:blanksPool s.pool q.1≤blanksPool s.pool s.chip
theorem page_ok {s:LogS} (h:LogOk s) {i:Nat} {a t:List Part} {p:Part} (ho:Open s i a t p) (hpg:s.page<s.chip.np) {pg:List UInt8} {cs:List Change} {d:Nat} (hs:SaysP s.chip.sz pg cs d) (hdp:d≤p.seq) :
  PageOk s i a t p cs d (s.chip.program s.block (s.page:Nat) pg):=by
 have hci:=h.well.ci
 obtain ⟨hi,hh,hseq⟩:=ho.hd hci
 have hpage:=ho.page
 rw [ho.blk]
 have w:=program_wrote hci.ok h.alive hi hpg ho.good ho.open_ hs.len
 obtain ⟨pi,_⟩:=program_inv h.inv hi hpage hpg (fun _=>hh) pg
 generalize s.chip.program (i:Int) (s.page:Nat) pg=q at *
 have hde:=w.deed
 have hhd:hd q.1 i=hd s.chip i:=by unfold Go.Den.hd;rw [w.other 0 (by omega)]
 have hparts:=write_parts hci pi.ci hde.geo hi hpage hpg hh hhd hde.blk w.other ho.open_ w.open_ ho.parts ho.pb
 have hsafe:=wrote_safe h.well.safe w hs.sound
 have hmine:∀ j,j<q.1.nb→isHd q.1 j→(hd q.1 j).1.kind=1∧(hd q.1 j).1.era=s.era:=fun j hj hjh=>by
  rw [hde.geo.1] at hj
  by_cases e:j=i
  ·subst e
   rw [hhd]
   exact h.well.mine j hi hh
  ·have eb:=hde.blk j e
   rw [hd_blk hde.geo eb]
   exact h.well.mine j hj ((isHd_blk hde.geo eb).1 hjh)
 have hmore:=page_more (i:=a) (t:=t) (p:=p) ho.quiet ⟨(s.page:Nat),cs,d⟩
 rw [← ho.parts] at hmore
 have hcase:pageS (s.page:Nat) (q.1.page i s.page)=none∧q.2≠0∨pageS (s.page:Nat) (q.1.page i s.page)=some ⟨(s.page:Nat),cs,d⟩:=by
  by_cases h0:q.2=0
  ·right
   rw [w.ok h0];exact hs.say _
  ·rcases hs.sub w.sub (s.page:Nat) with hn | hn
   ·exact .inl ⟨hn,h0⟩
   ·right
    rw [hn];exact hs.say _
 have hsays:(Same (partsC s.chip s.era) (partsC q.1 s.era)∧q.2≠0)∨Done (·≤p.seq) cs d (partsC s.chip s.era) (partsC q.1 s.era):=by
  rcases hcase with ⟨hn,h0⟩| hn
  ·left
   refine ⟨?_,h0⟩
   rw [hparts,hn,ho.parts]
   simp only [Option.toList_none,List.append_nil]
   exact Same.refl _
  ·right
   rw [hparts,hn]
   exact ⟨fun n hnn=>hmore.1 n hnn,hmore.2⟩
 have hdrops:Drops (partsC q.1 s.era):=fun x hx P hP=>by
  rw [hparts] at hx
  have old:∀ y,y∈partsC s.chip s.era→∀ P∈y.pages,P.drop≤y.seq:=h.well.drops
  rw [ho.parts] at old
  rcases List.mem_append.1 hx with hx | hx
  ·exact old x (List.mem_append_left _ hx) P hP
  ·rcases List.mem_cons.1 hx with rfl | hx
   ·rcases List.mem_append.1 hP with hP | hP
    ·exact old p (by simp) P hP
    ·rcases hcase with ⟨hn,_⟩| hn
     ·rw [hn] at hP;cases hP
     ·rw [hn] at hP
      simp at hP
      subst hP
      exact hdp
   ·exact old x (by simp [hx]) P hP
 have hdead:q.1.dead=if q.2=10 then true else false:=by rw [w.dead,h.alive]
 have hbadj:∀ j,s.chip.isBad j=true→q.1.isBad j=true:=fun j hj=>by
  rw [hde.bad j fun e=>by rw [e,ho.good] at hj;cases hj];exact hj
 have hisd:∀ j,isHdB q.1 j=isHdB s.chip j:=fun j=>by
  unfold isHdB
  by_cases e:j=i
  ·rw [e,hhd]
  ·rw [hd_blk hde.geo (hde.blk j e)]
 have hseqs:∀ j,(hd q.1 j).1.seq=(hd s.chip j).1.seq:=fun j=>by
  by_cases e:j=i
  ·rw [e,hhd]
  ·rw [hd_blk hde.geo (hde.blk j e)]
 refine ⟨?_,hde.geo,⟨pi.ci,hsafe,hdrops,hmine⟩,pi,hdead,hsays,fun h0=>?_,fun n h0=>?_,fun h9=>⟨fun n hn=>?_,w.less (by omega)⟩,w.hits,fun hc=>⟨(hde.calm hc).1,(hde.calm hc).2.1,(hde.calm hc).2.2⟩,fun hq=>hde.quiet hq,?_,?_⟩
 ·rcases hde.cases with ⟨e,_⟩| ⟨e,_⟩| ⟨e,_⟩
  ·exact .inl e
  ·exact .inr (.inl e)
  ·exact .inr (.inr e)
 ·have hb:q.1.isBad i=false:=by
   rcases hde.cases with ⟨_,_,e⟩| ⟨e,_⟩| ⟨e,_⟩
   ·have:=ho.good
    unfold Chip.isBad at this ⊢
    rw [e];exact this
   ·omega
   ·omega
  exact ⟨_,by rfl,⟨ho.blk,hparts,ho.pb,ho.quiet,hb,Nat.le_add_left _ _,w.open_⟩⟩
 ·have hb:q.1.bad=s.chip.bad:=by
   rcases hde.cases with ⟨_,_,e⟩| ⟨e,_⟩| ⟨e,_⟩
   ·exact e
   ·omega
   ·omega
  unfold lives
  rw [hde.geo.1]
  congr 1
  refine List.filter_congr fun j _=>?_
  rw [hisd,hseqs]
  unfold Chip.isBad
  rw [hb]
 ·have hbi:q.1.isBad i=true:=by
   rcases hde.cases with ⟨e,_⟩| ⟨_,_,e⟩| ⟨e,_⟩
   ·omega
   ·exact e
   ·omega
  unfold lives
  rw [hde.geo.1]
  refine filter_count_less hi (fun j hj hh'=>?_) ?_
  ·rw [hisd,hseqs] at hh'
   simp only [Bool.and_eq_true,Bool.not_eq_true',decide_eq_true_eq] at hh' ⊢
   have hji:j≠i:=fun e=>by rw [e,hbi] at hh';cases hh'.1.2
   exact ⟨⟨⟨hh'.1.1,by rw [← hde.bad j hji];exact hh'.1.2⟩,hh'.2⟩,hji⟩
  ·simp only [Bool.and_eq_true,Bool.not_eq_true',decide_eq_true_eq]
   exact ⟨⟨isHdB_iff.2 hh,ho.good⟩,by rw [← hseq];exact hn⟩
 ·unfold badsC
  rw [hde.geo.1]
  exact filter_count fun j _=>hbadj j
 ·unfold blanksPool
  rw [hde.geo.1]
  refine filter_count fun j _ hj=>?_
  simp only [Bool.and_eq_true,Bool.not_eq_true'] at hj ⊢
  refine ⟨hj.1,?_⟩
  cases hb:s.chip.isBad j with
  | false=>rfl
  | true=>rw [hbadj j hb] at hj;exact hj.2
structure WriteOk (s:LogS) (cs:List Change) (d:Nat) (m:Nat) (r:LogS×Nat):Prop where
 err:r.2=0∨r.2=10∨r.2=11
 era:r.1.era=s.era
 facts:r.1.facts=s.facts
 geo:s.chip.SameGeo r.1.chip
 well:Well r.1.chip s.era
 lo:s.pool.last≤r.1.pool.last
 hi:r.1.pool.last≤s.pool.last+s.chip.nb * m
 dead:r.2=10→r.1.chip.dead=true
 log:r.2≠10→LogOk r.1
 open_:r.2=0→(∃ i a t p,Open r.1 i a t p)∧(r.1.page=2∨(s.block≠-1∧s.page<s.chip.np∧r.1.page=s.page+1))
 cov:∀ n,Cov s n→r.2≠10→Cov r.1 n
 says:(Same (partsC s.chip s.era) (partsC r.1.chip s.era)∧r.2≠0)∨Done (Cov s) cs d (partsC s.chip s.era) (partsC r.1.chip s.era)
 full:r.2=11→blanksPool r.1.pool r.1.chip=0
 live:∀ n,Cov s n→r.2≠10→lives n r.1.chip+(if r.2=11 then 1 else 0)≤lives n s.chip+(if s.block= -1∨s.page≥s.chip.np then 1 else 0)
 hits:r.1.chip.hits.length≤s.chip.hits.length
 calm:(∀ t∈s.chip.hits,t.fails=false)→(∀ t∈r.1.chip.hits,t.fails=false)∧r.1.chip.bad=s.chip.bad∧(r.2=11→Same (partsC s.chip s.era) (partsC r.1.chip s.era))
 still:s.chip.hits=[]→r.1.chip.hits=[]∧r.2≠10
 bads:badsC s.chip≤badsC r.1.chip
 inv:Inv r.1.pool r.1.chip
theorem write_ok {pg:List UInt8} {cs:List Change} {d:Nat}:∀ (m:Nat) {s:LogS},LogOk s→SaysP s.chip.sz pg cs d→Cov s d→s.left≤m→s.pool.last+s.chip.nb * m<18446744073709551616→WriteOk s cs d m (s.write pg m)
 | 0,s,h,hs,hc,hm,hl=>by unfold LogS.left at hm;split at hm<;>omega
 | m+1,s,h,hs,hc,hm,hl=>by
  rw [LogS.write_step]
  rw [Nat.mul_succ] at hl
  obtain ⟨y,hy⟩: ∃ y,y=(if s.block= -1∨s.page≥s.chip.np then s.take else (s,0)):=⟨_,rfl⟩
  rw [← hy]
  have hY:(y.2=0∨y.2=10∨y.2=11)∧s.Keeps y.1∧Well y.1.chip s.era∧Same (partsC s.chip s.era) (partsC y.1.chip s.era)∧s.pool.last≤y.1.pool.last∧y.1.pool.last≤s.pool.last+s.chip.nb∧(y.2=10→y.1.chip.dead=true)∧(y.2≠10→LogOk y.1)∧
    (y.2=0→(∃ i a t p,Open y.1 i a t p)∧y.1.page<y.1.chip.np∧(y.1.page+1=2∨(s.block≠-1∧s.page<s.chip.np∧y.1.page+1=s.page+1)))∧(y.2=11→blanksPool y.1.pool y.1.chip=0)∧
    (∀ n,y.2≠10→lives n y.1.chip+(if y.2=11 then 1 else 0)≤lives n s.chip+(if s.block= -1∨s.page≥s.chip.np then 1 else 0))∧(∀ n,Cov s n→y.2≠10→Cov y.1 n)∧y.1.chip.hits.length≤s.chip.hits.length∧
    ((∀ t∈s.chip.hits,t.fails=false)→(∀ t∈y.1.chip.hits,t.fails=false)∧y.1.chip.bad=s.chip.bad)∧(s.chip.hits=[]→y.1.chip.hits=[]∧y.2≠10)∧badsC s.chip≤badsC y.1.chip∧(y.2=0→y.1.chip.hits.length+1≤m+1)∧Inv y.1.pool y.1.chip:=by
   by_cases hcond:s.block= -1∨s.page≥s.chip.np
   ·rw [if_pos hcond] at hy
    have Tk:=take_ok h (by omega)
    have hnp:=h.inv.ci.ok.np1
    subst hy
    refine ⟨Tk.err,Tk.keeps,Tk.well,Tk.behind.same,Tk.lo,Tk.hi,Tk.dead,Tk.log,fun h0=>?_,fun h11=>(Tk.stay h11).1,fun n hne=>?_,Tk.cov,Tk.hits,Tk.calm,Tk.still,Tk.bads,fun h0=>?_,Tk.inv⟩
    ·obtain ⟨i,a,p,o,h1,_⟩:=Tk.ok h0
     have:=Tk.keeps.geo.2.1
     exact ⟨⟨i,a,[],p,o⟩,by omega,.inl (by omega)⟩
    ·have h1:=Tk.live n hne
     rw [if_pos hcond]
     by_cases h0:s.take.2=0
     ·rw [if_pos h0] at h1;rw [if_neg (by omega)];omega
     ·rw [if_neg h0] at h1
      have:=Tk.err
      rw [if_pos (by omega)];omega
    ·have hh:=Tk.hits
     unfold LogS.left at hm
     split at hm<;>omega
   ·rw [if_neg hcond] at hy
    subst hy
    refine ⟨.inl rfl,.refl s,h.well,Same.refl _,Nat.le_refl _,Nat.le_add_right _ _,(fun h=>by cases h),fun _=>h,fun _=>?_,(fun h=>by cases h),fun n _=>?_,fun n hn _=>hn,Nat.le_refl _,fun hc=>⟨hc,rfl⟩,fun hq=>⟨hq,(fun h=>by cases h)⟩,Nat.le_refl _,fun _=>?_,h.inv⟩
    ·rcases h.open_ with h1 | h1 | h1
     ·exact absurd (.inl h1) hcond
     ·exact absurd (.inr h1) hcond
     ·exact ⟨h1,by show s.page<s.chip.np;omega,.inr ⟨fun e=>hcond (.inl e),by omega,rfl⟩⟩
    ·rw [if_neg hcond,if_neg (fun h=>by cases h)]
     exact Nat.le_refl _
    ·unfold LogS.left at hm
     rw [if_neg (fun e=>hcond (.inl e))] at hm
     show s.chip.hits.length+1≤m+1
     omega
  clear hy
  obtain ⟨y1,y2,y3,y4,y5,y6,y7,y8,y9,y10,y11,y12,y13,y14,y15,y16,y17,y18⟩:=hY
  have hT:(y.2=0→y.2≠10):=fun h0=>by omega
  have hnb1:s.chip.nb * (m+1)=s.chip.nb * m+s.chip.nb:=Nat.mul_succ _ _
  split
  ·rename_i hne
   refine ⟨y1,y2.era,y2.facts,y2.geo,y3,y5,by rw [hnb1];omega,y7,y8,fun h0=>absurd h0 hne,y12,.inl ⟨y4,hne⟩,y10,fun n _=>y11 n,y13,fun hc=>⟨(y14 hc).1,(y14 hc).2,fun _=>y4⟩,y15,y16,y18⟩
  ·rename_i hz
   have h0:y.2=0:=Classical.byContradiction hz
   have hlog:=y8 (hT h0)
   obtain ⟨⟨i,a,t,p,ho⟩,hpg,hpage⟩:=y9 h0
   have hhit:=y17 h0
   have hcd:=(y12 d hc (hT h0)).2 i a t p hpg ho
   have Q:=page_ok hlog ho hpg (cs:=cs) (d:=d) (pg:=pg) (by rw [y2.geo.2.2.1];exact hs) hcd
   have hlive:∀ n,lives n y.1.chip≤lives n s.chip+(if s.block= -1∨s.page≥s.chip.np then 1 else 0):=fun n=>by
    have:=y11 n (hT h0)
    rw [if_neg (by omega),Nat.add_zero] at this
    exact this
   have hera:y.1.era=s.era:=y2.era
   have hsays:=Q.says
   have hwell:=Q.well
   rw [hera] at hsays hwell
   generalize y.1.chip.program y.1.block (y.1.page:Nat) pg=q at *
   have hcov:∀ n,Cov s n→n≤p.seq:=fun n hn=>(y12 n hn (hT h0)).2 i a t p hpg ho
   split
   ·rename_i h9
    have h010:q.2=0∨q.2=10:=by have:=Q.err;omega
    refine ⟨by omega,hera,y2.facts,y2.geo.trans Q.geo,hwell,y5,by show y.1.pool.last≤_;rw [hnb1];omega,fun h10=>?_,fun hne=>?_,fun hq0=>?_,fun n hn hne=>?_,?_,fun h11=>?_,fun n hn hne=>?_,Nat.le_trans Q.hits y13,fun hc'=>?_,fun hq=>?_,Nat.le_trans y16 Q.bads,Q.inv⟩
    ·show q.1.dead=true
     rw [Q.dead,if_pos h10]
    ·have hq0:q.2=0:=by have hne':q.2≠10:=hne;omega
     obtain ⟨p',_,o'⟩:=Q.ok hq0
     refine ⟨Q.inv,?_,?_,hlog.era1,hlog.era2,Q.well,.inr (.inr ⟨i,a,t,p',o'⟩)⟩
     ·show q.1.dead=false
      rw [Q.dead,if_neg (by omega)]
     ·show y.1.pool.turn≤q.1.nb
      rw [Q.geo.1];exact hlog.turn
    ·obtain ⟨p',_,o'⟩:=Q.ok hq0
     exact ⟨⟨i,a,t,p',o'⟩,hpage⟩
    ·have hq0:q.2=0:=by have hne':q.2≠10:=hne;omega
     obtain ⟨p',hp',o'⟩:=Q.ok hq0
     have hy12:=y12 n hn (hT h0)
     refine ⟨hy12.1,fun i2 a2 t2 p2 _ o2=>?_⟩
     have e:=part_unique Q.well.ci o2.mem o'.mem (by
      have h1:=o2.pb
      have h2:y.1.block=(i2:Int):=o2.blk
      have h3:=o'.pb
      have h4:y.1.block=(i:Int):=o'.blk
      omega)
     rw [e,hp']
     exact hcov n hn
    ·rcases hsays with ⟨h1,h2⟩| h1
     ·exact .inl ⟨y4.trans h1,h2⟩
     ·exact .inr (y4.done (h1.mono hcov))
    ·have h11':q.2=11:=h11
     omega
    ·have hq0:q.2=0:=by have hne':q.2≠10:=hne;omega
     have h1:=Q.live n hq0
     have h2:=hlive n
     show lives n q.1+(if q.2=11 then 1 else 0)≤_
     rw [if_neg (by omega)]
     omega
    ·have:=Q.calm (y14 hc').1
     refine ⟨this.2.1,this.2.2.trans (y14 hc').2,fun h11=>?_⟩
     have h11':q.2=11:=h11
     omega
    ·have:=Q.still (y15 hq).1
     exact ⟨this.2,by show q.2≠10;omega⟩
   ·rename_i hn9
    have h9:q.2=9:=Classical.byContradiction hn9
    obtain ⟨l1,l2⟩:=Q.less h9
    have hgeo:=y2.geo.trans Q.geo
    have hlog2:LogOk ({ y.1 with chip:=q.1,page:=y.1.page+1,block:= -1 }:LogS):=by
     refine ⟨Q.inv,?_,?_,hlog.era1,hlog.era2,Q.well,.inl rfl⟩
     ·show q.1.dead=false
      rw [Q.dead,if_neg (by omega)]
     ·show y.1.pool.turn≤q.1.nb
      rw [Q.geo.1];exact hlog.turn
    have hcov2:∀ n,Cov s n→Cov ({ y.1 with chip:=q.1,page:=y.1.page+1,block:= -1 }:LogS) n:=fun n hn=>by
     refine ⟨(y12 n hn (hT h0)).1,fun i2 a2 t2 p2 _ o2=>?_⟩
     have h1:=o2.blk
     have h1':(-1:Int)=i2:=h1
     omega
    have W:=write_ok (cs:=cs) (d:=d) (pg:=pg) m hlog2 (by show SaysP q.1.sz pg cs d;rw [hgeo.2.2.1];exact hs) (hcov2 d hc) (by
     unfold LogS.left
     rw [if_pos rfl]
     show q.1.hits.length+1≤m
     omega) (by
     show y.1.pool.last+q.1.nb * m < _
     rw [hgeo.1]
     omega)
    generalize LogS.write pg m ({ y.1 with chip:=q.1,page:=y.1.page+1,block:= -1 }:LogS)=r at *
    have whi:=W.hi
    have whi':r.1.pool.last≤y.1.pool.last+q.1.nb * m:=whi
    rw [hgeo.1] at whi'
    have wlo:y.1.pool.last≤r.1.pool.last:=W.lo
    have wera:r.1.era=y.1.era:=W.era
    have wwell:Well r.1.chip y.1.era:=W.well
    have wsays:(Same (partsC q.1 y.1.era) (partsC r.1.chip y.1.era)∧r.2≠0)∨Done (Cov ({ y.1 with chip:=q.1,page:=y.1.page+1,block:= -1 }:LogS)) cs d (partsC q.1 y.1.era) (partsC r.1.chip y.1.era):=W.says
    rw [hera] at wwell wsays
    refine ⟨W.err,wera.trans hera,(W.facts:r.1.facts=y.1.facts).trans y2.facts,hgeo.trans (W.geo:q.1.SameGeo r.1.chip),wwell,by omega,by rw [hnb1];omega,W.dead,W.log,fun hr0=>?_,fun n hn hne=>W.cov n (hcov2 n hn) hne,?_,W.full,fun n hn hne=>?_,?_,fun hc'=>?_,fun hq=>?_,Nat.le_trans y16 (Nat.le_trans Q.bads W.bads),W.inv⟩
    ·obtain ⟨w1,w2⟩:=W.open_ hr0
     refine ⟨w1,?_⟩
     rcases w2 with w2 | ⟨w2,_⟩
     ·exact .inl w2
     ·exact absurd rfl w2
    ·rcases hsays with ⟨h1,_⟩| h1
     ·rcases wsays with ⟨g1,g2⟩| g1
      ·exact .inl ⟨(y4.trans h1).trans g1,g2⟩
      ·exact .inr ((y4.trans h1).done (g1.mono hcov2))
     ·rcases wsays with ⟨g1,_⟩| g1
      ·exact .inr ((y4.done (h1.mono hcov)).same g1)
      ·exact .inr ((y4.done (h1.mono hcov)).twice (g1.mono hcov2))
    ·have w1:lives n r.1.chip+(if r.2=11 then 1 else 0)≤lives n q.1+(if ((-1:Int)= -1∨y.1.page+1≥q.1.np) then 1 else 0):=W.live n (hcov2 n hn) hne
     have h2:=hlive n
     have h3:=l1 n (hcov n hn)
     rw [if_pos (show (-1:Int)= -1∨y.1.page+1≥q.1.np from .inl rfl)] at w1
     omega
    ·have:=Q.hits
     have wh:r.1.chip.hits.length≤q.1.hits.length:=W.hits
     omega
    ·exact absurd h9 (Q.calm (y14 hc').1).1
    ·have:=(Q.still (y15 hq).1).1
     omega
def costs (l:List Fact):Nat:=(l.map costF).sum
structure SegOk (sz:Nat) (l:List Fact):Prop where
 one:1≤l.length
 len:l.length≤255
 may:∀ f∈l,mayF f=true
 fit:((costs l:Nat):Int)≤roomOf sz
theorem chgB_as {f:Fact} (h:mayF f=true):(chgB (asChange f)).length=costF f∧mayC (asChange f)=true:=by
 unfold mayF at h
 simp only [Bool.and_eq_true,decide_eq_true_eq] at h
 refine ⟨?_,?_⟩
 ·unfold chgB asChange costF
  rw [if_pos h.1.1]
  simp
  omega
 ·unfold mayC asChange
  simp only [Bool.false_eq_true,if_false,Bool.and_eq_true,decide_eq_true_eq]
  exact ⟨h.1.1,h.1.2,h.2⟩
theorem costs_append (l m:List Fact):costs (l ++ m)=costs l+costs m:=by unfold costs;simp
theorem flat_len_as:∀ {l:List Fact},(∀ f∈l,mayF f=true)→((l.map asChange).flatMap chgB).length=costs l
 | [],_=>rfl
 | f :: l,h=>by
  have h1:=(chgB_as (h f (by simp))).1
  have h2:=flat_len_as (l:=l) fun g hg=>h g (by simp [hg])
  rw [List.map_cons,List.flatMap_cons,List.length_append,h1,h2]
  unfold costs
  simp
theorem roomOf_eq {sz:Nat} (h1:128≤sz) (h2:sz≤256):roomOf sz=(sz:Int) - 6:=by
 have hsz:isSize (sz:Int)=true:=by simp [isSize];omega
 unfold roomOf
 rw [if_pos hsz];omega
theorem SegOk.put {sz:Nat} (h1:128≤sz) (h2:sz≤256) {l:List Fact} (h:SegOk sz l):(putL sz (l.map asChange)).2=0:=by
 have hsz:isSize (sz:Int)=true:=by simp [isSize];omega
 have hm:mayL (l.map asChange)=true:=by
  unfold mayL
  simp only [Bool.and_eq_true,decide_eq_true_eq,List.all_eq_true,List.length_map]
  refine ⟨⟨h.one,h.len⟩,fun x hx=>?_⟩
  obtain ⟨f,hf,rfl⟩:=List.mem_map.1 hx
  exact (chgB_as (h.may f hf)).2
 have hlen:(bodyB (l.map asChange)).length=1+costs l:=by
  unfold bodyB
  rw [List.length_cons,flat_len_as h.may];omega
 have hf:=h.fit
 rw [roomOf_eq h1 h2] at hf
 unfold putL putPage
 rw [if_pos hm,if_neg (by rw [hsz];decide),if_neg (by omega)]
def segs (F:List Fact):List Nat→List (List Fact)
 | []=>[]
 | a :: at_=>((F.take (match at_ with | []=>F.length | b :: _=>b)).drop a) :: segs F at_
theorem pagesGo_segs {sz:Nat} {F:List Fact}:∀ (cs:List Nat) (acc:List (List UInt8)),(∀ l∈segs F cs,(putL sz (l.map asChange)).2=0)→pagesGo sz F cs acc=(acc ++ (segs F cs).map fun l=>(putL sz (l.map asChange)).1,0)
 | [],acc,_=>by simp [pagesGo,segs]
 | a :: cs,acc,h=>by
  obtain ⟨g,hg⟩: ∃ g,g=(F.take (match cs with | []=>F.length | b :: _=>b)).drop a:=⟨_,rfl⟩
  have es:segs F (a :: cs)=g :: segs F cs:=by rw [hg];cases cs<;>rfl
  have ep:pagesGo sz F (a :: cs) acc=if (putL sz (g.map asChange)).2≠0 then ([],(putL sz (g.map asChange)).2) else pagesGo sz F cs (acc ++ [(putL sz (g.map asChange)).1]):=by rw [hg];cases cs<;>rfl
  rw [es] at h ⊢
  rw [ep,if_neg (by have:=h g (by simp);omega),pagesGo_segs cs _ fun l hl=>h l (by simp [hl])]
  simp
theorem drop_take_split {F:List Fact} {a b:Nat} (hab:a≤b):((F.take b).drop a) ++ F.drop b=F.drop a:=by
 have h1:F.take b ++ F.drop b=F:=List.take_append_drop b F
 by_cases hb:b≤F.length
 ·have:(F.take b ++ F.drop b).drop a=(F.take b).drop a ++ F.drop b:=List.drop_append_of_le_length (by rw [List.length_take];omega)
  rw [h1] at this
  exact this.symm
 ·rw [List.take_of_length_le (by omega),List.drop_of_length_le (i:=b) (by omega),List.append_nil]
theorem cutGo_segs {sz:Nat} {F:List Fact} (hmay:∀ f∈F,mayF f=true) (hcost:∀ f∈F,((costF f:Nat):Int)≤roomOf sz):∀ (l:List Fact) (i from_:Nat),i≤F.length→F.drop i=l→from_<i→i - from_≤255→((costs ((F.take i).drop from_):Nat):Int)≤roomOf sz→
  (∀ g∈segs F (from_ :: cutGo (roomOf sz) i from_ (costs ((F.take i).drop from_)) l),SegOk sz g)∧(segs F (from_ :: cutGo (roomOf sz) i from_ (costs ((F.take i).drop from_)) l)).flatten=F.drop from_
 | [],i,from_,hi,hl,hf,h255,hc=>by
  have hiF:i=F.length:=by
   have:=congrArg List.length hl
   simp at this
   omega
  subst hiF
  unfold cutGo segs
  simp only [List.take_length] at hc ⊢
  refine ⟨fun g hg=>?_,by simp [segs]⟩
  simp [segs] at hg
  subst hg
  exact ⟨by simp;omega,by simp;omega,fun f hf=>hmay f (List.mem_of_mem_drop hf),hc⟩
 | f :: l,i,from_,hi,hl,hf,h255,hc=>by
  have hiF:i<F.length:=by
   have:=congrArg List.length hl
   simp at this
   omega
  have hfi:F[i]=f:=by
   have:=List.drop_eq_getElem_cons hiF
   rw [hl] at this
   injection this with h1 h2
   exact h1.symm
  have hl1:F.drop (i+1)=l:=by
   have:=List.drop_eq_getElem_cons hiF
   rw [hl] at this
   injection this with h1 h2
   exact h2.symm
  have hfm:f∈F:=by rw [← hfi];exact List.getElem_mem _
  have htake:F.take (i+1)=F.take i ++ [f]:=by rw [List.take_succ_eq_append_getElem hiF,hfi]
  have hlen:(F.take i).length=i:=by rw [List.length_take];omega
  have hext:(F.take (i+1)).drop from_=(F.take i).drop from_ ++ [f]:=by
   rw [htake,List.drop_append_of_le_length (by omega)]
  have hone:costs [f]=costF f:=by simp [costs]
  unfold cutGo
  by_cases hcut:i=0∨roomOf sz<((costs ((F.take i).drop from_)+costF f:Nat):Int)∨i - from_=255
  ·rw [if_pos hcut]
   have hs:(F.take (i+1)).drop i=[f]:=by
    rw [htake,List.drop_append_of_le_length (by omega),List.drop_of_length_le (by omega)];rfl
   have ih:=cutGo_segs hmay hcost l (i+1) i (by omega) hl1 (by omega) (by omega) (by rw [hs,hone];exact hcost f hfm)
   rw [hs,hone] at ih
   have es:segs F (from_ :: i :: cutGo (roomOf sz) (i+1) i (costF f) l)=((F.take i).drop from_) :: segs F (i :: cutGo (roomOf sz) (i+1) i (costF f) l):=rfl
   rw [es]
   refine ⟨fun g hg=>?_,?_⟩
   ·rcases List.mem_cons.1 hg with rfl | hg
    ·exact ⟨by simp;omega,by simp;omega,fun x hx=>hmay x (List.mem_of_mem_take (List.mem_of_mem_drop hx)),hc⟩
    ·exact ih.1 g hg
   ·rw [List.flatten_cons,ih.2]
    exact drop_take_split (by omega)
  ·rw [if_neg hcut]
   have h1:¬ roomOf sz<((costs ((F.take i).drop from_)+costF f:Nat):Int):=fun h=>hcut (.inr (.inl h))
   have h2:i - from_≠255:=fun h=>hcut (.inr (.inr h))
   have he:costs ((F.take (i+1)).drop from_)=costs ((F.take i).drop from_)+costF f:=by rw [hext,costs_append,hone]
   have ih:=cutGo_segs hmay hcost l (i+1) from_ (by omega) hl1 (by omega) (by omega) (by rw [he];omega)
   rw [he] at ih
   exact ih
structure Fine (sz:Nat) (F:List Fact):Prop where
 ord:ordered F=true
 may:∀ f∈F,mayF f=true
 cost:∀ f∈F,((costF f:Nat):Int)≤roomOf sz
theorem packF_fine {sz:Nat} (h1:128≤sz) (h2:sz≤256) {F:List Fact} (h:Fine sz F):∃ gs:List (List Fact),packF sz F=(gs.map fun l=>(putL sz (l.map asChange)).1,0)∧gs.flatten=F∧(∀ g∈gs,(putL sz (g.map asChange)).2=0)∧gs.length≤F.length:=by
 have hroom:=roomOf_eq h1 h2
 have hc:cutsF sz F=(cutGo (roomOf sz) 0 0 0 F,0):=by
  unfold cutsF
  rw [if_neg (by omega),if_neg,if_neg]
  ·rw [Bool.not_eq_false,List.all_eq_true]
   exact fun f hf=>decide_eq_true (h.cost f hf)
  ·rw [h.ord]
   simp only [Bool.true_eq_false,or_false,Bool.not_eq_false,List.all_eq_true]
   exact h.may
 unfold packF
 rw [hc]
 simp only
 rw [if_neg (fun h=>h rfl)]
 cases F with
 | nil =>
  refine ⟨[],?_,rfl,(fun _ h=>by cases h),Nat.le_refl _⟩
  simp [cutGo,pagesGo]
 | cons f l =>
  have hone:costs [f]=costF f:=by simp [costs]
  have hcf:=h.cost f (by simp)
  have e:cutGo (roomOf sz) 0 0 0 (f :: l)=0 :: cutGo (roomOf sz) 1 0 (costF f) l:=by
   show (if (0:Nat)=0∨roomOf sz<((0+costF f:Nat):Int)∨0 - 0=255 then 0 :: cutGo (roomOf sz) (0+1) 0 (costF f) l else cutGo (roomOf sz) (0+1) 0 (0+costF f) l)=_
   rw [if_pos (.inl rfl)]
  obtain ⟨s1,s2⟩:=cutGo_segs (sz:=sz) (F:=f :: l) h.may h.cost l 1 0 (by simp) rfl (by omega) (by omega) (by show ((costs [f]:Nat):Int)≤_;rw [hone];exact hcf)
  have hc1:costs (((f :: l).take 1).drop 0)=costF f:=hone
  rw [hc1] at s1 s2
  rw [← e] at s1 s2
  have hput:∀ g∈segs (f :: l) (cutGo (roomOf sz) 0 0 0 (f :: l)),(putL sz (g.map asChange)).2=0:=fun g hg=>(s1 g hg).put h1 h2
  refine ⟨_,?_,s2,hput,?_⟩
  ·rw [pagesGo_segs _ _ hput];rfl
  ·have key:∀ gs:List (List Fact),(∀ g∈gs,1≤g.length)→gs.length≤gs.flatten.length:=by
    intro gs
    induction gs with
    | nil=>intro _;simp
    | cons g gs ih =>
     intro hg
     have h1:=hg g (by simp)
     have h2:=ih fun x hx=>hg x (by simp [hx])
     rw [List.flatten_cons,List.length_append,List.length_cons]
     omega
   have:=key _ fun g hg=>(s1 g hg).one
   rw [s2] at this
   exact this
theorem Fine.put {sz:Nat} (h1:128≤sz) (h2:sz≤256) {F:List Fact} (h:Fine sz F) {cs:List Change} (hp:(putL sz cs).2=0):Fine sz (applyF F cs):=by
 have hroom:=roomOf_eq h1 h2
 have hm:mayL cs=true∧((bodyB cs).length:Int)≤sz - 5:=by
  unfold putL at hp
  split at hp
  ·rename_i hm
   refine ⟨hm,?_⟩
   unfold putPage at hp
   split at hp
   ·cases hp
   ·split at hp
    ·cases hp
    ·omega
  ·cases hp
 obtain ⟨hm,hb⟩:=hm
 unfold mayL at hm
 simp only [Bool.and_eq_true,decide_eq_true_eq,List.all_eq_true] at hm
 have one:∀ c∈cs,c.gone=false→mayF ⟨c.key,c.val⟩= true∧((costF ⟨c.key,c.val⟩: Nat):Int)≤roomOf sz:=fun c hc hg=>by
  have hmc:=hm.2 c hc
  unfold mayC at hmc
  rw [hg] at hmc
  simp only [Bool.false_eq_true,if_false,Bool.and_eq_true,decide_eq_true_eq] at hmc
  have hmf:mayF ⟨c.key,c.val⟩= true:=by
   unfold mayF
   simp only [Bool.and_eq_true,decide_eq_true_eq]
   exact ⟨⟨hmc.1,hmc.2.1⟩,hmc.2.2⟩
  refine ⟨hmf,?_⟩
  have e:=(chgB_as hmf).1
  have ec:asChange ⟨c.key,c.val⟩= c:=by
   cases c
   simp only at hg
   subst hg;rfl
  rw [ec] at e
  have hle:(chgB c).length≤(cs.flatMap chgB).length:=by
   obtain ⟨a,t,rfl⟩:=List.append_of_mem hc
   simp
   omega
  unfold bodyB at hb
  rw [List.length_cons] at hb
  omega
 have mem:∀ (cs':List Change) (l:List Fact),(∀ c∈cs',c∈cs)→∀ f∈applyL l cs',f∈l∨∃ c∈cs,c.gone=false∧f=⟨c.key,c.val⟩:=by
  intro cs'
  induction cs' with
  | nil=>intro l _ f hf;exact .inl hf
  | cons c cs' ih =>
   intro l hc f hf
   rcases ih (putF c l) (fun x hx=>hc x (by simp [hx])) f hf with h | h
   ·rcases putF_mem h with h | ⟨h3,h4⟩
    ·exact .inl h
    ·exact .inr ⟨c,hc c (by simp),h3,h4⟩
   ·exact .inr h
 have mem':∀ f∈applyF F cs,f∈F∨∃ c∈cs,c.gone=false∧f=⟨c.key,c.val⟩:=fun f hf=>by
  rw [applyF_eq h.ord] at hf
  exact mem cs F (fun _ h=>h) f hf
 refine ⟨applyF_ordered _ _,fun f hf=>?_,fun f hf=>?_⟩
 ·rcases mem' f hf with hf | ⟨c,hc,hg,rfl⟩
  ·exact h.may f hf
  ·exact (one c hc hg).1
 ·rcases mem' f hf with hf | ⟨c,hc,hg,rfl⟩
  ·exact h.cost f hf
  ·exact (one c hc hg).2
theorem Fine.nil (sz:Nat):Fine sz []:=⟨rfl,(fun _ h=>by cases h),(fun _ h=>by cases h)⟩
structure AllOk (s:LogS) (gs:List (List Change)) (H:Nat) (r:LogS×Nat):Prop where
 err:r.2=0∨r.2=10∨r.2=11
 era:r.1.era=s.era
 facts:r.1.facts=s.facts
 geo:s.chip.SameGeo r.1.chip
 well:Well r.1.chip s.era
 lo:s.pool.last≤r.1.pool.last
 hi:r.1.pool.last≤s.pool.last+s.chip.nb * (H+2) * gs.length
 dead:r.2=10→r.1.chip.dead=true
 log:r.2≠10→LogOk r.1
 open_:r.2=0→(∃ i a t p,Open r.1 i a t p)∧r.1.page≤s.page+gs.length
 cov:∀ n,Cov s n→r.2≠10→Cov r.1 n
 says:∃ k,(r.2=0→k=gs.length)∧(∀ n,Cov s n→factsP n (partsC r.1.chip s.era)=applyF (factsP n (partsC s.chip s.era)) (gs.take k).flatten)∧lowL (partsC r.1.chip s.era)=lowL (partsC s.chip s.era)
 full:r.2=11→blanksPool r.1.pool r.1.chip=0
 live:s.page+gs.length≤s.chip.np→∀ n,Cov s n→r.2≠10→lives n r.1.chip+(if r.2=11 then 1 else 0)≤lives n s.chip
 hits:r.1.chip.hits.length≤s.chip.hits.length
 calm:(∀ t∈s.chip.hits,t.fails=false)→(∀ t∈r.1.chip.hits,t.fails=false)∧r.1.chip.bad=s.chip.bad
 still:s.chip.hits=[]→r.1.chip.hits=[]∧r.2≠10
 bads:badsC s.chip≤badsC r.1.chip
 inv:Inv r.1.pool r.1.chip
theorem writeAll_ok {H:Nat}:∀ (gs:List (List Change)) {s:LogS},LogOk s→(∃ i a t p,Open s i a t p)→(∀ g∈gs,(putL s.chip.sz g).2=0)→s.chip.hits.length≤H→s.pool.last+s.chip.nb * (H+2) * gs.length<18446744073709551616→
  AllOk s gs H (LogS.writeAll (gs.map fun g=>(putL s.chip.sz g).1) s)
 | [],s,h,ho,hg,hH,hl=>by
  refine ⟨.inl rfl,rfl,rfl,.refl _,h.well,Nat.le_refl _,Nat.le_add_right _ _,(fun h=>by cases h),fun _=>h,fun _=>⟨ho,Nat.le_refl _⟩,fun n hn _=>hn,⟨0,fun _=>rfl,fun n _=>?_,rfl⟩,(fun h=>by cases h),fun _ n _ _=>?_,Nat.le_refl _,fun hc=>⟨hc,rfl⟩,fun hq=>⟨hq,(fun h=>by cases h)⟩,Nat.le_refl _,h.inv⟩
  ·exact (applyF_nil (factsP_ordered n _)).symm
  ·exact Nat.le_refl _
 | g :: gs,s,h,ho,hg,hH,hl=>by
  have hok:=h.well.ci.ok
  have hnn:s.chip.nb * (H+2) * (g :: gs).length=s.chip.nb * (H+2) * gs.length+s.chip.nb * (H+2):=by rw [List.length_cons,Nat.mul_succ]
  have hmm:s.chip.nb * s.fuel≤s.chip.nb * (H+2):=Nat.mul_le_mul_left _ (by unfold LogS.fuel;omega)
  obtain ⟨i,a,t,p,ho⟩:=ho
  have hpage1:=ho.page
  have W:=write_ok (pg:=(putL s.chip.sz g).1) (cs:=g) (d:=0) s.fuel h (putL_says hok.sz1 hok.sz2 (hg g (by simp))).1 ⟨Nat.zero_le _,fun _ _ _ _ _ _=>Nat.zero_le _⟩ (by unfold LogS.left LogS.fuel;split<;>omega) (by omega)
  have hblk:s.block≠-1:=by have:=ho.blk;omega
  have e:LogS.writeAll ((g :: gs).map fun g=>(putL s.chip.sz g).1) s=if (s.write (putL s.chip.sz g).1 s.fuel).2≠0 then s.write (putL s.chip.sz g).1 s.fuel else LogS.writeAll (gs.map fun g=>(putL s.chip.sz g).1) (s.write (putL s.chip.sz g).1 s.fuel).1:=rfl
  rw [e]
  generalize s.write (putL s.chip.sz g).1 s.fuel=y at *
  have hyhi:=W.hi
  have hT:s.page+(g :: gs).length≤s.chip.np→(if s.block= -1∨s.page≥s.chip.np then 1 else 0)=0:=fun hp=>by
   rw [if_neg]
   rintro (h1 | h1)
   ·exact hblk h1
   ·simp only [List.length_cons] at hp;omega
  split
  ·rename_i hne
   refine ⟨W.err,W.era,W.facts,W.geo,W.well,W.lo,by rw [hnn];omega,W.dead,W.log,fun h0=>absurd h0 hne,W.cov,?_,W.full,fun hp n hn hne'=>?_,W.hits,fun hc=>⟨(W.calm hc).1,(W.calm hc).2.1⟩,W.still,W.bads,W.inv⟩
   ·rcases W.says with ⟨h1,_⟩| h1
    ·exact ⟨0,fun h0=>absurd h0 hne,fun n _=>by rw [h1.1 n];exact (applyF_nil (factsP_ordered n _)).symm,h1.2⟩
    ·exact ⟨1,fun h0=>absurd h0 hne,fun n hn=>by rw [h1.1 n hn];simp,by rw [h1.2];omega⟩
   ·have:=W.live n hn hne'
    rw [hT hp] at this
    exact this
  ·rename_i hz
   have h0:y.2=0:=Classical.byContradiction hz
   have hne10:y.2≠10:=by omega
   obtain ⟨o1,o2⟩:=W.open_ h0
   have hg2:=W.geo
   have hse:(gs.map fun g=>(putL s.chip.sz g).1)=gs.map fun g=>(putL y.1.chip.sz g).1:=by rw [hg2.2.2.1]
   rw [hse]
   have A:=writeAll_ok (H:=H) gs (W.log hne10) o1 (fun x hx=>by rw [hg2.2.2.1];exact hg x (by simp [hx])) (Nat.le_trans W.hits hH) (by rw [hg2.1];omega)
   generalize LogS.writeAll (gs.map fun g=>(putL y.1.chip.sz g).1) y.1=r at *
   have ahi:=A.hi
   rw [hg2.1] at ahi
   have awell:=A.well
   have asays:=A.says
   rw [W.era] at awell asays
   refine ⟨A.err,A.era.trans W.era,A.facts.trans W.facts,hg2.trans A.geo,awell,Nat.le_trans W.lo A.lo,by rw [hnn];omega,A.dead,A.log,fun hr0=>⟨(A.open_ hr0).1,?_⟩,fun n hn hne=>A.cov n (W.cov n hn hne10) hne,?_,A.full,fun hp n hn hne=>?_,Nat.le_trans A.hits W.hits,fun hc=>?_,fun hq=>A.still (W.still hq).1,Nat.le_trans W.bads A.bads,A.inv⟩
   ·have:=(A.open_ hr0).2
    rw [List.length_cons]
    rcases o2 with o2 | ⟨_,_,o2⟩<;>omega
   ·obtain ⟨k,k1,k2,k3⟩:=asays
    have hW:Done (Cov s) g 0 (partsC s.chip s.era) (partsC y.1.chip s.era):=by
     rcases W.says with ⟨_,h2⟩| h2
     ·exact absurd h0 h2
     ·exact h2
    refine ⟨k+1,fun hr0=>by rw [k1 hr0,List.length_cons],fun n hn=>?_,by rw [k3,hW.2];omega⟩
    rw [k2 n (W.cov n hn hne10),hW.1 n hn,List.take_succ_cons,List.flatten_cons,applyF_append (factsP_ordered n _)]
   ·have w1:=W.live n hn hne10
    rw [hT hp,if_neg (by omega)] at w1
    rw [List.length_cons] at hp
    have a1:=A.live (by
     rw [hg2.2.1]
     rcases o2 with o2 | ⟨_,_,o2⟩<;>omega) n (W.cov n hn hne10) hne
    omega
   ·have w1:=W.calm hc
    have a1:=A.calm w1.1
    exact ⟨a1.1,a1.2.trans w1.2.1⟩
theorem free_chip {P:Pool} {c:Chip} (h:Inv P c) (hd0:c.dead=false) {i:Nat} (hi:i<c.nb) (hh:isHd c i) (hb:c.isBad i=false):(freePool P c i).2.1=(c.erase i).1:=by
 unfold freePool
 rw [if_neg]
 rintro (a | a | a | a)
 ·omega
 ·omega
 ·rw [Int.toNat_natCast] at a
  exact a ((h.what hd0 hi).2 hh)
 ·rw [Int.toNat_natCast,hb] at a;cases a
structure FreeOk (s:LogS) (r:Pool×Chip×Nat) (t:Taken):Prop where
 err:r.2.2=0∨r.2.2=10
 geo:s.chip.SameGeo r.2.1
 well:Well r.2.1 s.era
 low:lowL (partsC r.2.1 s.era)=lowL (partsC s.chip s.era)
 told:told (partsC r.2.1 s.era)=told (partsC s.chip s.era)
 last:r.1.last=s.pool.last
 dead:r.2.2=10→r.2.1.dead=true
 log:r.2.2=0→LogOk { s with pool:=r.1,chip:=r.2.1 }
 gone:r.2.2=0→r.2.1.isBad t.block=true∨¬ isHd r.2.1 t.block
 keep:∀ j,isHd r.2.1 j→isHd s.chip j∧hd r.2.1 j=hd s.chip j
 other:∀ j,j≠t.block→r.2.1.blk j=s.chip.blk j∧r.2.1.isBad j=s.chip.isBad j
 bad:∀ j,s.chip.isBad j=true→r.2.1.isBad j=true
 hits:r.2.1.hits.length≤s.chip.hits.length
 calm:(∀ t∈s.chip.hits,t.fails=false)→(∀ t∈r.2.1.hits,t.fails=false)∧r.2.1.bad=s.chip.bad
 still:s.chip.hits=[]→r.2.1.hits=[]∧r.2.2=0
 inv:Inv r.1 r.2.1
theorem free_ok {s:LogS} (h:LogOk s) {t:Taken} (ht:IsTaken s.chip s.chip.nb t) (hb:t.bad=false) (hs:t.head.seq<lowL (partsC s.chip s.era)):FreeOk s (freePool s.pool s.chip t.block) t:=by
 obtain ⟨t1,t2,t3,t4⟩:=ht
 have hci:=h.well.ci
 rw [hb] at t4
 have hm:Mine s.chip t.block:=⟨by omega,by omega,by simpa using t2,by simpa using t4.symm⟩
 obtain ⟨e,F⟩:=free_mine h.inv h.alive hm
 rw [Int.toNat_natCast] at F
 have hch:=free_chip h.inv h.alive t1 t2 t4.symm
 have hhits:=free_hits h.inv h.alive t.block
 have hsub:∀ k,SubL (s.chip.page t.block k) ((freePool s.pool s.chip t.block).2.1.page t.block k):=fun k=>by
  rw [hch];exact erase_sub hci.ok h.alive t1 t4.symm k
 generalize freePool s.pool s.chip t.block=r at *
 have hde:=F.deed
 have hg:=hde.geo
 have hpg:∀ P∈pagesS r.2.1 t.block,P∈pagesS s.chip t.block:=fun P hP=>by
  unfold pagesS pagesTo at hP ⊢
  rw [List.mem_filterMap] at hP ⊢
  obtain ⟨k,hk1,hk2⟩:=hP
  rw [hg.2.1] at hk1
  refine ⟨k,hk1,?_⟩
  split at hk2
  ·cases hk2
  ·rename_i hk0
   rw [if_neg hk0]
   have hk:k<s.chip.np:=by simpa using hk1
   have:=(h.well.safe t.block k t1 hk).same (hsub k) (pageS_sound (n:=k) (by rw [hk2];simp))
   rw [← this];exact hk2
 obtain ⟨p1,p2⟩:=erase_parts hci F.inv.ci hg hde.blk F.keep hpg s.era
 have hf:=p2 (lowL (partsC s.chip s.era)) fun _=>by rw [← t3];exact hs
 obtain ⟨d1,d2,d3⟩:=dropped h.well.drops p1 hf
 have hkeep:∀ j,isHd r.2.1 j→isHd s.chip j∧hd r.2.1 j=hd s.chip j:=fun j hj=>by
  by_cases ej:j=t.block
  ·subst ej;exact F.keep hj
  ·exact ⟨(isHd_blk hg (hde.blk j ej)).1 hj,hd_blk hg (hde.blk j ej)⟩
 have hsafe:AllSafe r.2.1:=h.well.safe.up hg hde.blk fun _ k hk=>(h.well.safe t.block k t1 hk).up (hsub k)
 have hmine:∀ i,i<r.2.1.nb→isHd r.2.1 i→(hd r.2.1 i).1.kind=1∧(hd r.2.1 i).1.era=s.era:=fun i hi hh=>by
  obtain ⟨k1,k2⟩:=hkeep i hh
  rw [hg.1] at hi
  rw [k2]
  exact h.well.mine i hi k1
 have hwell:Well r.2.1 s.era:=⟨F.inv.ci,hsafe,d3,hmine⟩
 have herr:=F.err
 have hcases:=hde.cases
 refine ⟨?_,hg,hwell,d1,d2,F.last,fun h10=>?_,fun h0=>?_,fun h0=>?_,hkeep,fun j hj=>⟨hde.blk j hj,hde.bad j hj⟩,fun j hj=>?_,hhits,fun hc=>⟨(hde.calm hc).2.1,(hde.calm hc).2.2⟩,fun hq=>⟨(hde.quiet hq).2,?_⟩,F.inv⟩
 ·rcases hcases with ⟨a,_⟩| ⟨a,_⟩| ⟨a,_⟩
  ·rw [herr,if_neg (by omega)];exact .inl a
  ·rw [herr,if_pos a];exact .inl rfl
  ·rw [herr,if_neg (by omega)];exact .inr a
 ·rcases hcases with ⟨a,_⟩| ⟨a,_⟩| ⟨_,a,_⟩
  ·rw [herr,if_neg (by omega)] at h10;omega
  ·rw [herr,if_pos a] at h10;omega
  ·exact a
 ·have hal:r.2.1.dead=false:=by
   rcases hcases with ⟨_,a,_⟩| ⟨_,a,_⟩| ⟨a,_⟩
   ·rw [a];exact h.alive
   ·rw [a];exact h.alive
   ·rw [herr,if_neg (by omega)] at h0;omega
  refine ⟨F.inv,hal,by show r.1.turn≤r.2.1.nb;rw [F.turn,hg.1];exact h.turn,h.era1,h.era2,hwell,?_⟩
  by_cases hpgs:s.chip.np≤s.page
  ·exact .inr (.inl (by show r.2.1.np≤s.page;rw [hg.2.1];exact hpgs))
  rcases h.open_ with ho | ho | ⟨i,a,u,p,ho⟩
  ·exact .inl ho
  ·exact .inr (.inl (by show r.2.1.np≤s.page;rw [hg.2.1];exact ho))
  ·have hcov:=(cov_low h).2 i a u p (by omega) ho
   obtain ⟨o1,o2,o3⟩:=ho.hd hci
   have hne:i≠t.block:=fun ei=>by
    rw [t3,← ei,← o3] at hs
    omega
   have hblk:=hde.blk i hne
   have hpm:p∈partsC r.2.1 s.era:=by
    have:p∈(partsC r.2.1 s.era).filter fun x=>decide (lowL (partsC s.chip s.era)≤x.seq):=by
     rw [hf,List.mem_filter]
     exact ⟨ho.mem,decide_eq_true hcov⟩
    exact (List.mem_filter.1 this).1
   obtain ⟨a',u',hau⟩:=List.append_of_mem hpm
   refine .inr (.inr ⟨i,a',u',p,ho.blk,hau,ho.pb,fun x hx=>?_,?_,ho.page,ho.open_.blk hg hblk⟩)
   ·have hrise:=partsC_rising F.inv.ci s.era
    rw [hau] at hrise
    unfold Rising at hrise
    rw [List.pairwise_append,List.pairwise_cons] at hrise
    have hxs:=hrise.2.1.1 x hx
    have hxm:x∈partsC s.chip s.era:=by
     have:x∈(partsC s.chip s.era).filter fun x=>decide (lowL (partsC s.chip s.era)≤x.seq):=by
      rw [← hf,List.mem_filter]
      refine ⟨by rw [hau];simp [hx],decide_eq_true (by omega)⟩
     exact (List.mem_filter.1 this).1
    have hrise0:=partsC_rising hci s.era
    rw [ho.parts] at hrise0 hxm
    unfold Rising at hrise0
    rw [List.pairwise_append,List.pairwise_cons] at hrise0
    rcases List.mem_append.1 hxm with hxa | hxa
    ·have:=hrise0.2.2 x hxa p (by simp);omega
    ·rcases List.mem_cons.1 hxa with rfl | hxa
     ·omega
     ·exact ho.quiet x hxa
   ·show r.2.1.isBad i=false
    rw [hde.bad i hne];exact ho.good
 ·rcases hcases with ⟨a,_⟩| ⟨_,_,a⟩| ⟨a,_⟩
  ·exact .inr (F.gone a)
  ·exact .inl a
  ·rw [herr,if_neg (by omega)] at h0;omega
 ·rw [hde.bad j fun ej=>by rw [ej,← t4] at hj;cases hj];exact hj
 ·have:=(hde.quiet hq).1
  rw [herr,if_neg (by omega)];exact this
structure FreesOk (s:LogS) (first:Nat) (l:List Taken) (r:LogS×Nat):Prop where
 err:r.2=0∨r.2=10
 era:r.1.era=s.era
 facts:r.1.facts=s.facts
 geo:s.chip.SameGeo r.1.chip
 well:Well r.1.chip s.era
 low:lowL (partsC r.1.chip s.era)=lowL (partsC s.chip s.era)
 told:told (partsC r.1.chip s.era)=told (partsC s.chip s.era)
 last:r.1.pool.last=s.pool.last
 dead:r.2=10→r.1.chip.dead=true
 log:r.2=0→LogOk r.1
 gone:r.2=0→∀ t∈l,t.bad=false→t.head.seq<first→r.1.chip.isBad t.block=true∨¬ isHd r.1.chip t.block
 keep:∀ j,isHd r.1.chip j→isHd s.chip j∧hd r.1.chip j=hd s.chip j
 bad:∀ j,s.chip.isBad j=true→r.1.chip.isBad j=true
 hits:r.1.chip.hits.length≤s.chip.hits.length
 calm:(∀ t∈s.chip.hits,t.fails=false)→(∀ t∈r.1.chip.hits,t.fails=false)∧r.1.chip.bad=s.chip.bad
 still:s.chip.hits=[]→r.1.chip.hits=[]∧r.2=0
 inv:Inv r.1.pool r.1.chip
theorem freeAll_ok {first:Nat}:∀ (l:List Taken) {s:LogS},LogOk s→first≤lowL (partsC s.chip s.era)→(∀ t∈l,IsTaken s.chip s.chip.nb t)→l.Pairwise (fun a b=>a.block≠b.block)→FreesOk s first l (LogS.freeAll first l s)
 | [],s,h,hf,hl,hp=>⟨.inl rfl,rfl,rfl,.refl _,h.well,rfl,rfl,rfl,(fun h=>by cases h),fun _=>h,(fun _ _ ht=>by cases ht),fun _ hj=>⟨hj,rfl⟩,fun _ hj=>hj,Nat.le_refl _,fun hc=>⟨hc,rfl⟩,fun hq=>⟨hq,rfl⟩,h.inv⟩
 | x :: l,s,h,hf,hl,hp=>by
  obtain ⟨p1,p2⟩:=List.pairwise_cons.1 hp
  have e:LogS.freeAll first (x :: l) s=(if x.head.seq≥first∨x.bad=true then LogS.freeAll first l s else if (freePool s.pool s.chip x.block).2.2≠0 then ({ s with pool:=(freePool s.pool s.chip x.block).1,chip:=(freePool s.pool s.chip x.block).2.1 },(freePool s.pool s.chip x.block).2.2) else LogS.freeAll first l { s with pool:=(freePool s.pool s.chip x.block).1,chip:=(freePool s.pool s.chip x.block).2.1 }):=rfl
  rw [e]
  have hx:=hl x (by simp)
  split
  ·rename_i hc
   have R:=freeAll_ok l h hf (fun t ht=>hl t (by simp [ht])) p2
   refine ⟨R.err,R.era,R.facts,R.geo,R.well,R.low,R.told,R.last,R.dead,R.log,fun h0 t ht hb hs=>?_,R.keep,R.bad,R.hits,R.calm,R.still,R.inv⟩
   rcases List.mem_cons.1 ht with rfl | ht
   ·rcases hc with hc | hc
    ·omega
    ·rw [hb] at hc;cases hc
   ·exact R.gone h0 t ht hb hs
  ·rename_i hc
   have hb:x.bad=false:=by
    cases hb:x.bad with
    | false=>rfl
    | true=>exact absurd (.inr hb) hc
   have hs:x.head.seq<first:=by
    by_cases hs:x.head.seq<first
    ·exact hs
    ·exact absurd (.inl (by omega)) hc
   have F:=free_ok h hx hb (by omega)
   generalize freePool s.pool s.chip x.block=r at *
   split
   ·rename_i hne
    refine ⟨F.err,rfl,rfl,F.geo,F.well,F.low,F.told,F.last,F.dead,fun h0=>absurd h0 hne,fun h0=>absurd h0 hne,F.keep,F.bad,F.hits,F.calm,F.still,F.inv⟩
   ·rename_i hz
    have h0:r.2.2=0:=Classical.byContradiction hz
    have R:=freeAll_ok (first:=first) l (F.log h0) (by show first≤lowL (partsC r.2.1 s.era);rw [F.low];exact hf) (fun t ht=>by
     obtain ⟨t1,t2,t3,t4⟩:=hl t (by simp [ht])
     have hne:t.block≠x.block:=fun e=>p1 t ht e.symm
     obtain ⟨o1,o2⟩:=F.other t.block hne
     show IsTaken r.2.1 r.2.1.nb t
     exact ⟨by rw [F.geo.1];exact t1,(isHd_blk F.geo o1).2 t2,by rw [hd_blk F.geo o1];exact t3,by rw [o2];exact t4⟩) p2
    generalize LogS.freeAll first l { s with pool:=r.1,chip:=r.2.1 }=q at *
    refine ⟨R.err,R.era,R.facts,F.geo.trans R.geo,R.well,R.low.trans F.low,R.told.trans F.told,R.last.trans F.last,R.dead,R.log,fun hq0 t ht hb' hs'=>?_,fun j hj=>?_,fun j hj=>R.bad j (F.bad j hj),Nat.le_trans R.hits F.hits,fun hc'=>?_,fun hq=>?_,R.inv⟩
    ·rcases List.mem_cons.1 ht with rfl | ht
     ·rcases F.gone h0 with g | g
      ·exact .inl (R.bad _ g)
      ·exact .inr fun hh=>g (R.keep _ hh).1
     ·exact R.gone hq0 t ht hb' hs'
    ·obtain ⟨k1,k2⟩:=R.keep j hj
     obtain ⟨g1,g2⟩:=F.keep j k1
     exact ⟨g1,k2.trans g2⟩
    ·have f1:=F.calm hc'
     have r1:=R.calm f1.1
     exact ⟨r1.1,r1.2.trans f1.2⟩
    ·exact R.still (F.still hq).1
theorem LogS.writeAll_snoc (x:List UInt8):∀ (l:List (List UInt8)) (s:LogS),LogS.writeAll (l ++ [x]) s=if (LogS.writeAll l s).2≠0 then LogS.writeAll l s else (LogS.writeAll l s).1.write x (LogS.writeAll l s).1.fuel
 | [],s=>by
  show (if (s.write x s.fuel).2≠0 then s.write x s.fuel else ((s.write x s.fuel).1,0))=_
  rw [if_neg (show ¬ (LogS.writeAll [] s).2≠0 from fun h=>h rfl)]
  show _=s.write x s.fuel
  split
  ·rfl
  ·rename_i h
   have h0:(s.write x s.fuel).2=0:=Classical.byContradiction h
   rw [← h0]
 | b :: l,s=>by
  show (if (s.write b s.fuel).2≠0 then s.write b s.fuel else LogS.writeAll (l ++ [x]) (s.write b s.fuel).1)=_
  rw [LogS.writeAll_snoc x l]
  have e:LogS.writeAll (b :: l) s=if (s.write b s.fuel).2≠0 then s.write b s.fuel else LogS.writeAll l (s.write b s.fuel).1:=rfl
  rw [e]
  by_cases h:(s.write b s.fuel).2≠0
  ·rw [if_pos h,if_pos h]
   exact (if_pos h).symm
  ·rw [if_neg h,if_neg h]
theorem fine_flatten {sz:Nat} (h1:128≤sz) (h2:sz≤256):∀ (gs:List (List Change)) {X:List Fact},Fine sz X→(∀ g∈gs,(putL sz g).2=0)→Fine sz (applyF X gs.flatten)
 | [],X,h,_=>by
  rw [List.flatten_nil,applyF_nil h.ord];exact h
 | g :: gs,X,h,hg=>by
  rw [List.flatten_cons,← applyF_append h.ord]
  exact fine_flatten h1 h2 gs (h.put h1 h2 (hg g (by simp))) fun x hx=>hg x (by simp [hx])
theorem flatten_map_map {α β:Type} (f:α→β):∀ (l:List (List α)),(l.map fun g=>g.map f).flatten=l.flatten.map f
 | []=>rfl
 | x :: l=>by
  rw [List.map_cons,List.flatten_cons,List.flatten_cons,flatten_map_map f l,List.map_append]
structure AnewOk (s:LogS) (H:Nat) (r:LogS×Nat):Prop where
 err:r.2=0∨r.2=10∨r.2=11
 era:r.1.era=s.era
 facts:r.1.facts=s.facts
 geo:s.chip.SameGeo r.1.chip
 well:Well r.1.chip s.era
 told:told (partsC s.chip s.era)=s.facts→told (partsC r.1.chip s.era)=s.facts
 told0:r.2=0→Go.Den.told (partsC r.1.chip s.era)=s.facts
 fine:Fine s.chip.sz (Go.Den.told (partsC s.chip s.era))→Fine s.chip.sz (Go.Den.told (partsC r.1.chip s.era))
 low:lowL (partsC s.chip s.era)≤lowL (partsC r.1.chip s.era)
 low1:r.2=0→1≤lowL (partsC r.1.chip s.era)
 lo:s.pool.last≤r.1.pool.last
 hi:r.1.pool.last≤s.pool.last+s.chip.nb * (H+2) * (s.facts.length+2)
 dead:r.2=10→r.1.chip.dead=true
 log:r.2≠10→LogOk r.1
 full:r.2=11→blanksPool r.1.pool r.1.chip=0
 one:s.facts.length+2≤s.chip.np→r.2=0→lives 0 r.1.chip≤1
 live:s.facts.length+2≤s.chip.np→r.2=11→lives 0 r.1.chip≤lives 0 s.chip
 hits:r.1.chip.hits.length≤s.chip.hits.length
 calm:(∀ t∈s.chip.hits,t.fails=false)→(∀ t∈r.1.chip.hits,t.fails=false)∧r.1.chip.bad=s.chip.bad
 still:s.chip.hits=[]→r.1.chip.hits=[]∧r.2≠10
 bads:badsC s.chip≤badsC r.1.chip
 inv:Inv r.1.pool r.1.chip
theorem badsC_le {c d:Chip} (hg:c.SameGeo d) (h:∀ j,c.isBad j=true→d.isBad j=true):badsC c≤badsC d:=by
 unfold badsC
 rw [hg.1]
 exact filter_count fun j _=>h j
theorem told_same {l l':List Part} (h:Same l l'):told l'=told l:=by
 unfold told
 rw [h.2,h.1]
theorem anew_ok {s:LogS} {H:Nat} (h:LogOk s) (hfine:Fine s.chip.sz s.facts) (hH:s.chip.hits.length≤H) (hl:s.pool.last+s.chip.nb * (H+2) * (s.facts.length+2)<18446744073709551616):AnewOk s H s.anew:=by
 have hok:=h.well.ci.ok
 obtain ⟨gs,g1,g2,g3,g4⟩:=packF_fine hok.sz1 hok.sz2 hfine
 have Tk:=take_ok h (by
  have:s.chip.nb * 1≤s.chip.nb * (H+2) * (s.facts.length+2):=by
   rw [Nat.mul_assoc]
   exact Nat.mul_le_mul_left _ (Nat.le_trans (by omega:1≤1 * 2) (Nat.mul_le_mul (by omega) (by omega)))
  omega)
 have hne10:∀ {n:Nat},n=0→n≠10:=fun h=>by omega
 have hlow:=cov_low h
 rw [LogS.anew_eq]
 rw [g1]
 rw [if_neg (show ¬ ((gs.map fun l=>(putL s.chip.sz (l.map asChange)).1),0).2≠0 from fun h=>h rfl)]
 have hTl0:=Tk.live 0
 have hTsame:=Tk.behind.same
 have hA1:s.chip.nb * 1≤s.chip.nb * (H+2):=Nat.mul_le_mul_left _ (by omega)
 have hfl2:s.chip.nb * (H+2) * (s.facts.length+2)=s.chip.nb * (H+2) * s.facts.length+s.chip.nb * (H+2)+s.chip.nb * (H+2):=by
  rw [Nat.mul_succ,Nat.mul_succ]
 have hgl:s.chip.nb * (H+2) * gs.length≤s.chip.nb * (H+2) * s.facts.length:=Nat.mul_le_mul_left _ g4
 generalize hN:s.chip.nb * (H+2)=N at *
 split
 ·rename_i hne
  have ht':=told_same hTsame
  refine ⟨Tk.err,Tk.keeps.era,Tk.keeps.facts,Tk.keeps.geo,Tk.well,fun h=>by rw [ht'];exact h,fun h0=>absurd h0 hne,fun h=>by rw [ht'];exact h,Nat.le_of_eq hTsame.2.symm,fun h0=>absurd h0 hne,Tk.lo,by rw [hN];have:=Tk.hi;omega,Tk.dead,Tk.log,fun h11=>(Tk.stay h11).1,fun _ h0=>absurd h0 hne,fun _ h11=>?_,Tk.hits,Tk.calm,Tk.still,Tk.bads,Tk.inv⟩
  have:=hTl0 (by omega)
  rw [if_neg hne] at this
  exact this
 rename_i hz
 have h0:s.take.2=0:=Classical.byContradiction hz
 have hlog1:=Tk.log (hne10 h0)
 obtain ⟨i,a,p,ho,hpg,hpp,hps,hps2⟩:=Tk.ok h0
 have hthi:=Tk.hi
 have hera:s.take.1.era=s.era:=Tk.keeps.era
 have hgeo:=Tk.keeps.geo
 have hlive1:∀ n,lives n s.take.1.chip≤lives n s.chip+1:=fun n=>by
  have:=Tk.live n (hne10 h0)
  rw [if_pos h0] at this
  exact this
 have hcov1:=fun n hn=>Tk.cov n hn (hne10 h0)
 have hwell1:=Tk.well
 have hhits1:=Tk.hits
 have hcalm1:=Tk.calm
 have hstill1:=Tk.still
 have hbads1:=Tk.bads
 have hlo1:=Tk.lo
 have hf1:s.take.1.facts=s.facts:=Tk.keeps.facts
 clear Tk
 generalize s.take.1=s1 at *
 generalize hfirst:s1.pool.last=first at *
 have hsz1:s1.chip.sz=s.chip.sz:=hgeo.2.2.1
 have hnb1:s1.chip.nb=s.chip.nb:=hgeo.1
 have hfirst0:first≠0:=by omega
 have hfirstlt:first<18446744073709551616:=by omega
 obtain ⟨hdr0,hdr⟩:=putDrop_says (sz:=s.chip.sz) hok.sz1 hok.sz2 hfirst0 hfirstlt
 have hnone:factsP first (partsC s1.chip s.era)=[]:=by
  have hr:=partsC_rising hwell1.ci s.era
  have hpa:=ho.parts
  rw [hera] at hpa
  rw [hpa] at hr ⊢
  rw [factsP_none (fun x hx=>by simp at hx;rw [hx];exact hpp)]
  refine factsP_beyond fun x hx=>?_
  unfold Rising at hr
  rw [List.pairwise_append] at hr
  have:=hr.2.2 x hx p (by simp)
  omega
 have hlivef:lives first s.chip=0:=by
  unfold lives
  rw [List.length_eq_zero_iff,List.filter_eq_nil_iff]
  intro j hj hh
  simp only [Bool.and_eq_true,decide_eq_true_eq,isHdB_iff] at hh
  have:=h.inv.last j (by simpa using hj) hh.1.1
  omega
 have hcovf:Cov s1 first:=⟨by omega,fun i' a' t' p' _ o'=>by
  have:=part_unique hwell1.ci (era:=s.era) (p:=p') (q:=p) (by rw [← hera];exact o'.mem) (by rw [← hera];exact ho.mem) (by
   have e1:=o'.pb
   have e2:=o'.blk
   have e3:=ho.pb
   have e4:=ho.blk
   omega)
  rw [this,hps]
  exact Nat.le_refl _⟩
 obtain ⟨gc,hgc⟩: ∃ gc:List (List Change),gc=gs.map fun l=>l.map asChange:=⟨_,rfl⟩
 have hgcl:gc.length=gs.length:=by rw [hgc];simp
 have hgcok:∀ g∈gc,(putL s.chip.sz g).2=0:=fun g hg=>by
  rw [hgc] at hg
  obtain ⟨x,hx,rfl⟩:=List.mem_map.1 hg
  exact g3 x hx
 have hgcf:gc.flatten=s.facts.map asChange:=by rw [hgc,flatten_map_map,g2]
 have hpages:(gs.map fun l=>(putL s.chip.sz (l.map asChange)).1)=gc.map fun g=>(putL s1.chip.sz g).1:=by
  rw [hgc,List.map_map,hsz1];rfl
 have htold1:told (partsC s1.chip s.era)=told (partsC s.chip s.era):=told_same hTsame
 have A:=writeAll_ok (H:=H) gc hlog1 ⟨_,_,_,_,ho⟩ (by rw [hsz1];exact hgcok) (by omega) (by rw [hnb1,hN,hgcl];omega)
 simp only
 rw [LogS.writeAll_snoc,hpages]
 generalize LogS.writeAll (gc.map fun g=>(putL s1.chip.sz g).1) s1=u at *
 have ahi:=A.hi
 rw [hnb1,hN,hgcl] at ahi
 have asays:=A.says
 have awell:=A.well
 rw [hera] at asays awell
 obtain ⟨k,k1,k2,k3⟩:=asays
 have hlowu:lowL (partsC u.1.chip s.era)=lowL (partsC s.chip s.era):=k3.trans hTsame.2
 have htoldu:told (partsC u.1.chip s.era)=applyF (told (partsC s.chip s.era)) (gc.take k).flatten:=by
  unfold told
  rw [hlowu,k2 _ (hcov1 _ hlow),hTsame.1]
 have hpart:∀ f∈(gs.take k).flatten,f∈s.facts:=fun f hf=>by
  obtain ⟨g,hg,hfg⟩:=List.mem_flatten.1 hf
  rw [← g2]
  exact List.mem_flatten.2 ⟨g,List.mem_of_mem_take hg,hfg⟩
 have htk:(gc.take k).flatten=(gs.take k).flatten.map asChange:=by rw [hgc,← List.map_take,flatten_map_map]
 have htf:told (partsC s.chip s.era)=s.facts→told (partsC u.1.chip s.era)=s.facts:=fun hs=>by
  rw [htoldu,hs,htk]
  exact applyF_same hfine.ord hpart
 have hff:Fine s.chip.sz (told (partsC s.chip s.era))→Fine s.chip.sz (told (partsC u.1.chip s.era)):=fun hs=>by
  rw [htoldu]
  exact fine_flatten hok.sz1 hok.sz2 _ hs fun g hg=>hgcok g (List.mem_of_mem_take hg)
 have afacts:u.1.facts=s.facts:=A.facts.trans hf1
 have aera:u.1.era=s.era:=A.era.trans hera
 have ageo:=hgeo.trans A.geo
 have ahits:u.1.chip.hits.length≤s.chip.hits.length:=Nat.le_trans A.hits hhits1
 have alo:s.pool.last≤u.1.pool.last:=by have:=A.lo;omega
 have alive:s.facts.length+2≤s.chip.np→∀ n,Cov s1 n→u.2≠10→lives n u.1.chip+(if u.2=11 then 1 else 0)≤lives n s1.chip:=fun hp=>A.live (by rw [hpg,hgcl,hgeo.2.1];omega)
 have acalm:(∀ t∈s.chip.hits,t.fails=false)→(∀ t∈u.1.chip.hits,t.fails=false)∧u.1.chip.bad=s.chip.bad:=fun hc=>by
  have c1:=hcalm1 hc
  have c2:=A.calm c1.1
  exact ⟨c2.1,c2.2.trans c1.2⟩
 have astill:s.chip.hits=[]→u.1.chip.hits=[]∧u.2≠10:=fun hq=>A.still (hstill1 hq).1
 have abads:=Nat.le_trans hbads1 A.bads
 by_cases hu:u.2≠0
 ·rw [if_pos hu,if_pos hu]
  refine ⟨A.err,aera,afacts,ageo,awell,htf,fun h0=>absurd h0 hu,hff,Nat.le_of_eq hlowu.symm,fun h0=>absurd h0 hu,alo,by rw [hN];omega,A.dead,A.log,A.full,fun _ h0=>absurd h0 hu,fun hp h11=>?_,ahits,acalm,astill,abads,A.inv⟩
  have a1:=alive hp 0 ⟨Nat.zero_le _,fun _ _ _ _ _ _=>Nat.zero_le _⟩ (by omega)
  rw [if_pos h11] at a1
  have:=hlive1 0
  omega
 rw [if_neg hu]
 have hu0:u.2=0:=Classical.byContradiction hu
 have hlogu:=A.log (hne10 hu0)
 obtain ⟨⟨i2,a2,t2,p2,ho2⟩,hpage2⟩:=A.open_ hu0
 have hGu:factsP first (partsC u.1.chip s.era)=s.facts:=by
  rw [k2 first hcovf,hnone,k1 hu0,List.take_length,hgcf]
  exact applyF_all hfine.ord
 have hcovu:Cov u.1 first:=A.cov _ hcovf (hne10 hu0)
 have hcovlow:Cov u.1 (lowL (partsC s.chip s.era)):=A.cov _ (hcov1 _ hlow) (hne10 hu0)
 have hcov0:Cov u.1 0:=⟨Nat.zero_le _,fun _ _ _ _ _ _=>Nat.zero_le _⟩
 have afull:=A.full
 have hlivu:s.facts.length+2≤s.chip.np→∀ n,Cov s1 n→lives n u.1.chip≤lives n s1.chip:=fun hp n hn=>by
  have:=alive hp n hn (hne10 hu0)
  rw [if_neg (by omega)] at this
  exact this
 clear A
 generalize u.1=s2 at *
 have hnb2:s2.chip.nb=s.chip.nb:=ageo.1
 have hnp2:s2.chip.np=s.chip.np:=ageo.2.1
 have hfuel:s.chip.nb * s2.fuel≤N:=by rw [← hN];exact Nat.mul_le_mul_left _ (by unfold LogS.fuel;omega)
 have W:=write_ok (pg:=(putDropB s.chip.sz first).1) (cs:=[]) (d:=first) s2.fuel hlogu (by rw [ageo.2.2.1];exact hdr) hcovu (by unfold LogS.left LogS.fuel;split<;>omega) (by rw [hnb2];omega)
 have hT:s.facts.length+2≤s.chip.np→(if s2.block= -1∨s2.page≥s2.chip.np then 1 else 0)=0:=fun hp=>by
  rw [if_neg]
  rintro (h1 | h1)
  ·have:=ho2.blk;omega
  ·omega
 generalize s2.write (putDropB s.chip.sz first).1 s2.fuel=r at *
 have whi:=W.hi
 rw [hnb2] at whi
 have wsays:=W.says
 have wwell:=W.well
 rw [aera] at wsays wwell
 have wgeo:=ageo.trans W.geo
 have wcalm:(∀ t∈s.chip.hits,t.fails=false)→(∀ t∈r.1.chip.hits,t.fails=false)∧r.1.chip.bad=s.chip.bad:=fun hc=>by
  have c1:=acalm hc
  have c2:=W.calm c1.1
  exact ⟨c2.1,c2.2.1.trans c1.2⟩
 have wtell:(told (partsC r.1.chip s.era)=s.facts∧first≤lowL (partsC r.1.chip s.era))∨(r.2≠0∧told (partsC r.1.chip s.era)=told (partsC s2.chip s.era)):=by
  rcases wsays with ⟨h1,h2⟩| h1
  ·exact .inr ⟨h2,told_same h1⟩
  ·left
   have hlt:lowL (partsC s.chip s.era)≤first:=by have:=hlow.1;omega
   have e:lowL (partsC r.1.chip s.era)=first:=by rw [h1.2,hlowu];omega
   refine ⟨?_,by omega⟩
   unfold told
   rw [e,h1.1 first hcovu,hGu,applyF_nil hfine.ord]
 have wlow:lowL (partsC s.chip s.era)≤lowL (partsC r.1.chip s.era):=by
  rcases wsays with ⟨h1,_⟩| h1
  ·rw [h1.2,hlowu];exact Nat.le_refl _
  ·rw [h1.2,hlowu];omega
 have wlive:s.facts.length+2≤s.chip.np→∀ n,Cov s1 n→Cov s2 n→r.2≠10→lives n r.1.chip+(if r.2=11 then 1 else 0)≤lives n s.chip+1:=fun hp n hn1 hn2 hne=>by
  have w1:=W.live n hn2 hne
  rw [hT hp] at w1
  have w2:=hlivu hp n hn1
  have w3:=hlive1 n
  omega
 by_cases hr:r.2≠0
 ·rw [if_pos hr]
  refine ⟨W.err,W.era.trans aera,W.facts.trans afacts,wgeo,wwell,fun hs=>?_,fun h0=>absurd h0 hr,fun hs=>?_,wlow,fun h0=>absurd h0 hr,Nat.le_trans alo W.lo,by rw [hN];omega,W.dead,W.log,W.full,fun _ h0=>absurd h0 hr,fun hp h11=>?_,Nat.le_trans W.hits ahits,wcalm,fun hq=>W.still (astill hq).1,Nat.le_trans abads W.bads,W.inv⟩
  ·rcases wtell with ⟨h1,_⟩| ⟨_,h1⟩
   ·exact h1
   ·rw [h1];exact htf hs
  ·rcases wtell with ⟨h1,_⟩| ⟨_,h1⟩
   ·rw [h1];exact hfine
   ·rw [h1];exact hff hs
  ·have:=wlive hp 0 ⟨Nat.zero_le _,fun _ _ _ _ _ _=>Nat.zero_le _⟩ hcov0 (by omega)
   rw [if_pos h11] at this
   omega
 rw [if_neg hr]
 have hr0:r.2=0:=Classical.byContradiction hr
 have hlogr:=W.log (hne10 hr0)
 obtain ⟨wt1,wt2⟩:=wtell.resolve_right fun hx=>hx.1 hr0
 have hler:r.1.era=s.era:=W.era.trans aera
 have wlo:=W.lo
 have whits:=W.hits
 have wstill:=fun hq=>W.still (astill hq).1
 have wbads:=Nat.le_trans abads W.bads
 have wfacts:=W.facts.trans afacts
 clear W
 have R:=freeAll_ok (first:=first) (ownL s.era (takenPool r.1.pool r.1.chip)) hlogr (by rw [hler];exact wt2) (fun t ht=>(taken_mem hlogr.inv hlogr.alive t).1 (List.mem_filter.1 ht).1) (by
  have hs:=taken_sorted hlogr.inv hlogr.alive
  refine (List.Pairwise.filter _ ?_)
  refine hs.imp_of_mem fun {x y} hx hy hxy e=>?_
  obtain ⟨_,_,x3,_⟩:=(taken_mem hlogr.inv hlogr.alive x).1 hx
  obtain ⟨_,_,y3,_⟩:=(taken_mem hlogr.inv hlogr.alive y).1 hy
  rw [x3,y3,e] at hxy
  omega)
 generalize LogS.freeAll first (ownL s.era (takenPool r.1.pool r.1.chip)) r.1=q at *
 have rtold:=R.told
 have rlow:=R.low
 rw [hler] at rlow
 have rwell:=R.well
 rw [hler] at rtold rwell
 refine ⟨by rcases R.err with e | e;exact .inl e;exact .inr (.inl e),R.era.trans hler,R.facts.trans wfacts,wgeo.trans R.geo,rwell,fun _=>by rw [rtold];exact wt1,fun _=>by rw [rtold];exact wt1,fun _=>by rw [rtold,wt1];exact hfine,by rw [rlow];exact wlow,fun _=>by rw [rlow];omega,by rw [R.last];omega,by rw [R.last,hN];omega,R.dead,fun hne=>R.log (by have:=R.err;omega),fun h11=>(by have:=R.err;omega),fun hp hq0=>?_,fun _ h11=>(by have:=R.err;omega),by have:=R.hits;omega,fun hc=>?_,fun hq=>?_,Nat.le_trans wbads (badsC_le R.geo R.bad),R.inv⟩
 ·have key:lives 0 q.1.chip≤lives first r.1.chip:=by
   unfold lives
   rw [R.geo.1]
   refine filter_count fun j hj hh=>?_
   simp only [Bool.and_eq_true,decide_eq_true_eq,isHdB_iff,Bool.not_eq_true'] at hh ⊢
   obtain ⟨⟨hh1,hh2⟩,_⟩:=hh
   obtain ⟨e1,e2⟩:=R.keep j hh1
   have hb:r.1.chip.isBad j=false:=by
    cases hb:r.1.chip.isBad j with
    | false=>rfl
    | true=>rw [R.bad j hb] at hh2;cases hh2
   refine ⟨⟨e1,hb⟩,?_⟩
   by_cases hlt:(hd r.1.chip j).1.seq<first
   ·obtain ⟨m1,m2⟩:=hlogr.well.mine j hj e1
    have hmem:(⟨j,(hd r.1.chip j).1,false⟩: Taken)∈ownL s.era (takenPool r.1.pool r.1.chip):=by
     refine List.mem_filter.2 ⟨(taken_mem hlogr.inv hlogr.alive _).2 ⟨hj,e1,rfl,hb.symm⟩,?_⟩
     simp only [Bool.and_eq_true,decide_eq_true_eq]
     exact ⟨m1,by rw [m2,hler]⟩
    rcases R.gone hq0 _ hmem rfl hlt with g | g
    ·have g':q.1.chip.isBad j=true:=g
     rw [hh2] at g';cases g'
    ·exact absurd hh1 g
   ·omega
  have:=wlive hp first hcovf hcovu (hne10 hr0)
  rw [hlivef,if_neg (by omega)] at this
  omega
 ·have c1:=wcalm hc
  have c2:=R.calm c1.1
  exact ⟨c2.1,c2.2.trans c1.2⟩
 ·have:=R.still (wstill hq).1
  exact ⟨this.1,by omega⟩
section
theorem mayC_good {x:Change} (h:mayC x=true):x.key.name.size<256∧x.val.length<256:=by
 unfold mayC at h
 simp only [Bool.and_eq_true] at h
 obtain ⟨_,_,hk⟩:=Key.may_elim h.1
 refine ⟨?_,?_⟩
 ·have hbs:x.key.name.size=x.key.bytes.length:=size_data _
  rw [hbs]
  rcases hk with ⟨_,h,_⟩| ⟨_,h,_⟩| ⟨_,h,_⟩
  ·rw [h];decide
  ·have:=isName_len h;omega
  ·rw [h];decide
 ·have h2:=h.2
  split at h2
  ·have:=of_decide_eq_true h2;omega
  ·simp only [Bool.and_eq_true,decide_eq_true_eq] at h2;omega
theorem putL_good {size:Int} {cs:List Change} (h:(putL size cs).2=0):GoodC cs:=by
 unfold putL at h
 split at h
 ·rename_i hm
  unfold mayL at hm
  simp only [Bool.and_eq_true,decide_eq_true_eq,List.all_eq_true] at hm
  refine ⟨by omega,fun x hx=>?_⟩
  have hx':=hm.2 x hx
  exact mayC_good hx'
 ·cases h
theorem GoodF.vals' {n:Nat} {l:List Fact} (h:GoodF n l) {m:Nat} (hm:255≤m):∀ f∈l,f.val.length≤m:=fun f hf=>by
 have:=h.vals f hf
 omega
theorem LogS.put_eq (s:LogS) (cs:List Change):s.put cs=if s.chip.ask 0 0≠0 then (s,s.chip.ask 0 0) else
  if (putL s.chip.sz cs).2≠0 then (s,(putL s.chip.sz cs).2) else
   if (if s.low (applyF s.facts cs).length then s.anew else (s,0)).2=10 then (if s.low (applyF s.facts cs).length then s.anew else (s,0)) else
    if ((if s.low (applyF s.facts cs).length then s.anew else (s,0)).1.write (putL s.chip.sz cs).1 (if s.low (applyF s.facts cs).length then s.anew else (s,0)).1.fuel).2≠0 then ((if s.low (applyF s.facts cs).length then s.anew else (s,0)).1.write (putL s.chip.sz cs).1 (if s.low (applyF s.facts cs).length then s.anew else (s,0)).1.fuel)
    else ({ ((if s.low (applyF s.facts cs).length then s.anew else (s,0)).1.write (putL s.chip.sz cs).1 (if s.low (applyF s.facts cs).length then s.anew else (s,0)).1.fuel).1 with facts:=applyF s.facts cs },0):=rfl
section
variable {F X:Nat→Prop} {w w':World} {q:Nat} {M:PLoc} {s:LogS}
theorem LogIn.setFacts (h:LogIn F X w q M s) {S:Nat} (hF:∀ x,F x→x<S) (hq:q<S) {a':Option Addr} {c':Nat} {fs:List Fact} {G':Nat→Prop} (hG:SliceAt factR w G' a' fs) (hG':∀ b,G' b→S≤b∧b<w.heap.size) {K:World→Prop} (hk:∀ w',Upd (·=q) w w'→LogIn F (fun x=>X x∨(S≤x∧x<w.heap.size)) w' q M { s with facts:=fs }→K w'):storeP w ⟨q,2,none⟩ [.slice a' fs.length c'] K:=by
 obtain ⟨⟨a,c,g,G,h1,h2⟩,hp,ho',hx,he⟩:=h
 refine store_of g (by simp) fun w' hpt=>hk w' hpt.upd1 ?_
 have hu:=hpt.upd1
 have g':=hpt.get
 have hqS:∀ b,G' b→b≠q:=fun b hb e=>by have:=(hG' b hb).1;omega
 refine ⟨⟨a',c',g',G',hG.upd hu hqS,fun b hb=>⟨.inr (hG' b hb),fun hf=>?_,Nat.lt_of_lt_of_le (hG' b hb).2 hu.size⟩⟩,?_,ho',?_,he⟩
 ·have h1:=hF b hf
  have h2:=(hG' b hb).1
  omega
 ·obtain ⟨L,G0,hc,hF0,hG0⟩:=hp.upd hu (fun x hF e=>ho' (by rw [← e];exact hF)) fun x hX e=>hx (by rw [← e];exact hX)
  exact ⟨L,G0,hc,hF0,fun x hx=>⟨.inl (hG0 x hx).1,(hG0 x hx).2⟩⟩
 ·rintro (h | h)
  ·exact hx h
  ·omega
theorem log_Put_spec (h:LogIn F X w q M s) (hS:∀ x,F x→x<w.heap.size) (hXS:∀ x,X x→x<w.heap.size) (fit:s.Fit) {n:Nat} (hg:GoodF n s.facts) (hn:n≤90000000)
  {Gc:Nat→Prop} {ac:Option Addr} {cc:Nat} {cs:List Change} (hc:SliceAt changeR w Gc ac cs) (hs:Small cs) (hl:cs.length<9000000000000000000) :
  CallsR prog K.log_Log_Put #[.pointer (some ⟨q,0,none⟩),.slice ac cs.length cc] w fun v w'=>v= .int .i64 ((s.put cs).2:Nat)∧Upd (LogF F q) w w'∧∃ X',(∀ x,X x→X' x)∧(∀ x,X' x→X x∨w.heap.size≤x∧x<w'.heap.size)∧LogIn F X' w' q M (s.put cs).1:=by
 obtain ⟨r,hr⟩: ∃ r,r=s.put cs:=⟨_,rfl⟩
 rw [← hr]
 rw [LogS.put_eq] at hr
 apply log_Log_Put.sh
 suffices H:∀ R:Value→World→Prop,(∀ v w',(v= .int .i64 (r.2:Nat)∧Upd (LogF F q) w w'∧∃ X',(∀ x,X x→X' x)∧(∀ x,X' x→X x∨w.heap.size≤x∧x<w'.heap.size)∧LogIn F X' w' q M r.1)→R v w')→log_Log_Put.body (some ⟨q,0,none⟩) ac cs.length cc w R from H _ fun _ _ h=>h
 intro R hR
 have hql:=h.lt
 have same:∀ v w',v= .int .i64 (r.2:Nat)→Upd (LogF F q) w w'→LogIn F X w' q M r.1→R v w':=fun v w' h1 h2 h3=>hR v w' ⟨h1,h2,X,fun _ h=>h,fun _ h=>.inl h,h3⟩
 unfold log_Log_Put.body
 refine (log_alive_spec h).mono ?_
 rintro _ w1 ⟨rfl,he1⟩
 have h1:=h.ext he1
 refine ⟨_,rfl,br_ne (fun hne=>?_) fun h0=>?_⟩
 ·rw [if_pos (by omega)] at hr
  subst hr
  exact same _ _ rfl (Upd.ext he1) h1
 rw [if_neg (by omega)] at hr
 simp only [nilC_some',add_lit,Nat.zero_add]
 refine ⟨_,h1.cell (i:=0) (fun _ _=>rfl),(pChip h1.pool.pin).mono ?_⟩
 rintro _ u ⟨rfl,hu⟩
 obtain rfl:w1=u:=hu.symm
 refine ⟨_,rfl,(cGeo h1.pool.pin.chip).mono ?_⟩
 rintro _ w3 ⟨rfl,he3⟩
 refine ⟨_,_,_,_,rfl,(rec_Put_spec (hc.ext (he1.trans he3)) hs hl _).mono ?_⟩
 rintro _ w4 ⟨a4,c4,rfl,hb4,hf4,he4,_⟩
 have e4:=(he1.trans he3).trans he4
 have h4:=h.ext e4
 refine ⟨_,_,_,_,rfl,br_ne (fun hne=>?_) fun h0'=>?_⟩
 ·rw [if_pos (by omega)] at hr
  subst hr
  exact same _ _ rfl (Upd.ext e4) h4
 rw [if_neg (by omega)] at hr
 have hgc:=putL_good (size:=s.chip.sz) (cs:=cs) (by omega)
 obtain ⟨af,cf,gq,G,hG,hG'⟩:=h4.head
 have hcl:=hgc.len
 have hfl:=hg.len
 refine ⟨af,_,cf,cell_of gq rfl,(fact_Apply_spec hG (fun b hb=>(hG' b hb).2.2) (hc.ext e4) (by omega) (hg.vals' (by omega)) hgc.small).mono ?_⟩
 rintro _ w5 ⟨a5,c5,rfl,hl5,he5⟩
 have e5:=e4.trans he5
 have h5:=h.ext e5
 have hg5:=hg.apply hgc
 have hl5':=hg5.len
 generalize applyF s.facts cs=fs at *
 generalize hP:putL s.chip.sz cs=P at *
 have hs4:=e4.size
 have hs5:=e5.size
 refine ⟨_,_,_,rfl,(log_low_spec h5 fit.sp fs.length (by omega)).mono ?_⟩
 rintro _ w6 ⟨rfl,he6⟩
 have e6:=e5.trans he6
 have h6:=h.ext e6
 have hs6:=e6.size
 have hs3:=(he1.trans he3).size
 have tail:∀ (y:LogS×Nat) (u:World),y.1.page≤40→r=(if y.2=10 then y else if (y.1.write P.1 y.1.fuel).2≠0 then y.1.write P.1 y.1.fuel else ({ (y.1.write P.1 y.1.fuel).1 with facts:=fs },0))→y.2≠10→LogIn F X u q M y.1→Upd (LogF F q) w u→Upd (LogF F q) w6 u→
   CallsR prog K.log_Log_write #[.pointer (some ⟨q,0,none⟩),.slice a4 P.1.length c4] u fun v8 w8=>∃ x8:Int,v8= .int .i64 x8∧br (x8 != 0) (R (.int .i64 x8) w8) (storeP w8 ⟨q,2,none⟩ [.slice a5 fs.length c5] fun w9=>R (.int .i64 0) w9):=by
  intro y u hpg hry hy hu u0 u6
  have hb6:BytesAt u a4 P.1:=RowAt.upd (hb4.ext (he5.trans he6)) u6 fun p hp hx=>by
   have:=hf4 p hp
   rcases hx with hx | hx
   ·have:=hS _ hx;omega
   ·omega
  rw [if_neg hy] at hry
  refine (log_write_spec hu hb6 (fun p hp=>?_) (by omega)).mono ?_
  ·have:=hf4 p hp
   exact ⟨fun hx=>(by have:=hS _ hx;omega),by omega⟩
  rintro _ w8 ⟨rfl,hu8,h8⟩
  have u8:=u0.trans hu8
  refine ⟨_,rfl,br_ne (fun hne=>?_) fun h0''=>?_⟩
  ·rw [if_pos (by omega)] at hry
   subst hry
   exact same _ _ rfl u8 h8
  rw [if_neg (by omega)] at hry
  obtain ⟨G5,hG5,hG5'⟩:=hl5.slice
  have hG8:SliceAt factR w8 G5 a5 fs:=(hG5.ext he6).upd (u6.trans hu8) fun b hb hx=>by
   have h1:=(hG5' b hb).1.resolve_right (fun h=>h)
   rcases hx with hx | hx
   ·have:=hS _ hx;omega
   ·omega
  have hs68:=(u6.trans hu8).size
  refine h8.setFacts (S:=w.heap.size) hS hql hG8 (fun b hb=>?_) fun w9 hu9 h9=>?_
  ·have h1:=(hG5' b hb).1.resolve_right (fun h=>h)
   have h2:=(hG5' b hb).2
   have:=he6.size
   omega
  ·subst hry
   have:=hu9.size
   exact hR _ _ ⟨rfl,u8.trans (hu9.mono fun x _ hx=>.inr hx),_,fun _ h=>.inl h,fun x hx=>by
    rcases hx with hx | hx
    ·exact .inl hx
    ·exact .inr ⟨hx.1,by omega⟩,h9⟩
 refine ⟨_,rfl,br_intro (fun hlow=>?_) fun hlow=>?_⟩
 ·rw [if_pos hlow] at hr
  refine (log_anew_spec h6 (fun x hx=>Nat.lt_of_lt_of_le (hS x hx) hs6) (fun x hx=>Nat.lt_of_lt_of_le (hXS x hx) hs6) fit.nb fit.page hg.names (hg.vals' (by omega)) (by omega) (s.take_last fit.last)).mono ?_
  rintro _ w7 ⟨rfl,hu7,h7⟩
  have u7:=(Upd.ext e6).trans hu7
  have hfit:=(LogS.anew_fit fit).2.page
  generalize s.anew=y at *
  refine ⟨_,rfl,br_eq (fun h10=>?_) fun h10=>?_⟩
  ·rw [if_pos (by omega)] at hr
   subst hr
   exact same _ _ rfl u7 h7
  ·exact tail y w7 hfit hr (by omega) h7 u7 hu7
 ·have hlow':¬ (s.low fs.length=true):=by rw [hlow];exact Bool.false_ne_true
  rw [if_neg hlow'] at hr
  exact tail (s,0) w6 fit.page hr (fun h=>by cases h) h6 (Upd.ext e6) (Upd.refl _ _)
end
theorem log_Tidy_spec {F X:Nat→Prop} {w:World} {q:Nat} {M:PLoc} {s:LogS} (h:LogIn F X w q M s) (hS:∀ x,F x→x<w.heap.size) (hXS:∀ x,X x→x<w.heap.size) (fit:s.Fit) {n:Nat} (hg:GoodF n s.facts) (hn:n≤90000000) (blanks:Int) :
  CallsR prog K.log_Log_Tidy #[.pointer (some ⟨q,0,none⟩),.int .i64 blanks] w fun v w'=>v= .int .i64 ((s.tidy blanks).2:Nat)∧Upd (LogF F q) w w'∧LogIn F X w' q M (s.tidy blanks).1:=by
 obtain ⟨r,hr⟩: ∃ r,r=s.tidy blanks:=⟨_,rfl⟩
 rw [← hr]
 apply log_Log_Tidy.sh
 suffices H:∀ R:Value→World→Prop,(∀ v w',v= .int .i64 (r.2:Nat)∧Upd (LogF F q) w w'∧LogIn F X w' q M r.1→R v w')→log_Log_Tidy.body (some ⟨q,0,none⟩) blanks w R from H _ fun _ _ h=>h
 intro R hR
 unfold log_Log_Tidy.body
 unfold LogS.tidy at hr
 refine (log_alive_spec h).mono ?_
 rintro _ w1 ⟨rfl,he1⟩
 have h1:=h.ext he1
 refine ⟨_,rfl,br_ne (fun hne=>?_) fun h0=>?_⟩
 ·rw [if_pos (by omega)] at hr
  subst hr
  exact hR _ _ ⟨rfl,Upd.ext he1,h1⟩
 rw [if_neg (by omega)] at hr
 simp only [nilC_some',add_lit,Nat.zero_add]
 refine ⟨_,h1.cell (i:=0) (fun _ _=>rfl),(pBlanks h1.pool.pin).mono ?_⟩
 rintro _ w2 ⟨rfl,he2⟩
 have e2:=he1.trans he2
 have h2:=h.ext e2
 have hs2:=e2.size
 refine ⟨_,rfl,br_dec (fun hge=>?_) fun hlt=>?_⟩
 ·rw [if_pos hge] at hr
  subst hr
  exact hR _ _ ⟨rfl,Upd.ext e2,h2⟩
 rw [if_neg hlt] at hr
 have hl:=hg.len
 refine (log_anew_spec h2 (fun x hx=>Nat.lt_of_lt_of_le (hS x hx) hs2) (fun x hx=>Nat.lt_of_lt_of_le (hXS x hx) hs2) fit.nb fit.page hg.names (hg.vals' (by omega)) (by omega) (s.take_last fit.last)).mono ?_
 rintro _ w3 ⟨rfl,hu3,h3⟩
 have u3:=(Upd.ext e2).trans hu3
 generalize s.anew=y at *
 refine ⟨_,rfl,br_ne (fun hne=>?_) fun h0'=>?_⟩
 ·rw [if_pos (by omega)] at hr
  subst hr
  exact hR _ _ ⟨rfl,u3,h3⟩
 rw [if_neg (by omega)] at hr
 refine ⟨_,h3.cell (i:=0) (fun _ _=>rfl),(pBlanks h3.pool.pin).mono ?_⟩
 rintro _ w4 ⟨rfl,he4⟩
 have u4:=u3.then he4
 have h4:=h3.ext he4
 refine ⟨_,rfl,br_dec (fun hb=>?_) fun hb=>?_⟩
 ·rw [if_pos hb] at hr
  subst hr
  exact hR _ _ ⟨rfl,u4,h4⟩
 ·rw [if_neg hb] at hr
  subst hr
  exact hR _ _ ⟨rfl,u4,h4⟩
theorem LogS.put_fit {s:LogS} (h:s.Fit) (cs:List Change):(s.put cs).1.Fit∧(s.put cs).1.era=s.era∧s.chip.SameGeo (s.put cs).1.chip∧((s.put cs).1.facts=s.facts∨(s.put cs).2=0∧(s.put cs).1.facts=applyF s.facts cs∧GoodC cs):=by
 rw [LogS.put_eq]
 have hy:s.Keeps (if s.low (applyF s.facts cs).length then s.anew else (s,0)).1∧(if s.low (applyF s.facts cs).length then s.anew else (s,0)).1.Fit:=by
  split
  ·exact LogS.anew_fit h
  ·exact ⟨.refl s,h⟩
 generalize (if s.low (applyF s.facts cs).length then s.anew else (s,0))=y at *
 have hz:=LogS.write_fit hy.2 (putL s.chip.sz cs).1 y.1.fuel
 split
 ·exact ⟨h,rfl,.refl _,.inl rfl⟩
 ·split
  ·exact ⟨h,rfl,.refl _,.inl rfl⟩
  ·rename_i h2
   split
   ·exact ⟨hy.2,hy.1.era,hy.1.geo,.inl hy.1.facts⟩
   ·have hk:=hy.1.trans hz.1
    split
    ·exact ⟨hz.2,hk.era,hk.geo,.inl hk.facts⟩
    ·exact ⟨⟨hz.2.nb,hz.2.np,hz.2.sp,hz.2.page,hz.2.last⟩,hk.era,hk.geo,.inr ⟨rfl,rfl,putL_good (size:=s.chip.sz) (by omega)⟩⟩
theorem LogS.tidy_fit {s:LogS} (h:s.Fit) (n:Int):s.Keeps (s.tidy n).1∧(s.tidy n).1.Fit:=by
 have ha:=LogS.anew_fit h
 unfold LogS.tidy
 split
 ·exact ⟨.refl s,h⟩
 ·split
  ·exact ⟨.refl s,h⟩
  ·split
   ·exact ha
   ·split<;>exact ha
end
theorem lookAt_seq (c:Chip) (i:Nat) (old:Blk) (h:old.head.seq<18446744073709551616):(lookAt c i old).head.seq<18446744073709551616:=by
 unfold lookAt
 split
 ·exact h
 ·split
  ·exact (getHead_ok _).2
  ·split
   ·show (0:Nat)<18446744073709551616;decide
   ·show (0:Nat)<18446744073709551616;decide
theorem scanGo_seqs (c:Chip):∀ n,(∀ b∈(scanGo c n).blocks,b.head.seq<18446744073709551616)∧(scanGo c n).last<18446744073709551616
 | 0=>⟨fun b hb=>by rw [List.eq_of_mem_replicate hb];decide,by show (0:Nat) < _;decide⟩
 | n+1=>by
  obtain ⟨h1,h2⟩:=scanGo_seqs c n
  have hblk:∀ (P:Pool),(∀ b∈P.blocks,b.head.seq<18446744073709551616)→∀ i,(P.blk i).head.seq<18446744073709551616:=fun P hP i=>by
   unfold Pool.blk
   rw [List.getD_eq_getElem?_getD]
   cases hx:P.blocks[i]? with
   | none=>decide
   | some b=>exact hP b (List.mem_of_getElem? hx)
  have hb':∀ b∈((scanGo c n).relook c n).blocks,b.head.seq<18446744073709551616:=fun b hb=>by
   rcases List.mem_or_eq_of_mem_set hb with hb | rfl
   ·exact h1 b hb
   ·exact lookAt_seq _ _ _ (hblk _ h1 n)
  unfold scanGo
  split
  ·exact ⟨hb',hblk _ hb' n⟩
  ·exact ⟨hb',h2⟩
theorem scanPool_last (c:Chip):(scanPool c).last<18446744073709551616:=(scanGo_seqs c c.nb).2
theorem slices_ContainsFunc_Taken_spec {w:World} {a:Option Addr} {cp:Nat} {l:List Taken} (hr:RowAt w a (l.flatMap Taken.vals)) (hn:l.length≤1000000000) :
  CallsR prog K.slices_ContainsFunc_api_Taken #[.slice a l.length cp,.func (.func K.log_Make_1) #[] #[]] w fun v w'=>v= .bool (l.any fun t=> !t.bad)∧Ext w w':=by
 apply slices_ContainsFunc_api_Taken.sh
 unfold slices_ContainsFunc_api_Taken.body
 refine (slices_IndexFunc_Taken_spec (p:=fun t=> !t.bad) hr hn fun u hu t ht=>?_).mono ?_
 ·refine ⟨by kernel_rfl,?_⟩
  apply log_Make_1.sh
  intro B w1 hn1
  exact ⟨_,cell_of (v:=.bool t.bad) hn1.get rfl,rfl,hn1.upd⟩
 ·rintro _ w1 ⟨he1,⟨rfl,hno⟩| ⟨i,hi,rfl,_,hyes⟩⟩
  ·refine ⟨_,rfl,?_,he1⟩
   rw [List.any_eq_false.2 fun t ht=>by rw [hno t ht];decide];rfl
  ·refine ⟨_,rfl,?_,he1⟩
   rw [List.any_eq_true.2 ⟨l[i],List.getElem_mem hi,hyes⟩,decide_eq_true (by omega)]
def LogS.new (c:Chip) (era:Nat):LogS:=⟨scanPool c,c,era,[],-1,0⟩
def makeL (c:Chip) (era:Nat):LogS×Nat :=
 if c.dead=true then (.new c era,10) else if era=0 then (.new c era,2)
 else if ((ownL era (takenPool (scanPool c) c)).any fun t=> !t.bad)=true then (.new c era,2) else (LogS.new c era).anew
def openPage (c:Chip) (b:Nat) (k:Nat):Nat:=(List.range k).foldl (fun p j=>if isBlank (c.page b (j+1))=true then p else j+2) 1
def openL (c:Chip) (era:Nat):LogS×Nat :=
 if c.dead=true then (.new c era,10) else if era=0 then (.new c era,2) else
  match (ownL era (takenPool (scanPool c) c)).getLast? with
  | none=>(.new c era,16)
  | some t =>
   let fs:=factsP (lowL (readParts c era)) (readParts c era)
   if t.bad=true then ({ LogS.new c era with facts:=fs },0) else ({ LogS.new c era with facts:=fs,block:=t.block,page:=openPage c t.block (c.np - 1) },0)
theorem LogS.new_fit {c:Chip} {era:Nat} (hnb:c.nb<20) (hnp:c.np≤32) (hsp:c.sp≤4):(LogS.new c era).Fit:=⟨hnb,hnp,hsp,Nat.zero_le _,scanPool_last c⟩
theorem openPage_le (c:Chip) (b:Nat):∀ k,openPage c b k≤k+1
 | 0=>Nat.le_refl _
 | k+1=>by
  have h:=openPage_le c b k
  unfold openPage at h ⊢
  rw [List.range_succ,List.foldl_append]
  simp only [List.foldl_cons,List.foldl_nil]
  split<;>omega
theorem openPage_succ (c:Chip) (b k:Nat):openPage c b (k+1)=if isBlank (c.page b (k+1))=true then openPage c b k else k+2:=by
 unfold openPage
 rw [List.range_succ,List.foldl_append];rfl
def LogOut (F X:Nat→Prop) (p:Nat) (r:LogS×Nat) (w w':World) (v:Value):Prop :=
 (r.2≠0→v= .tuple #[.pointer none,.int .i64 (r.2:Nat)]∧CX (fun x=>F x∨(w.heap.size≤x∧x<w'.heap.size)) X w' p r.1.chip)∧
 (r.2=0→∃ (M:PLoc) (q:Nat),M.p=p∧v= .tuple #[.pointer (some ⟨q,0,none⟩),.int .i64 0]∧w.heap.size≤q∧q<w'.heap.size∧∃ X',(∀ x,X x→X' x)∧(∀ x,X' x→X x∨(w.heap.size≤x∧x<w'.heap.size))∧
  LogIn (fun x=>F x∨(w.heap.size≤x∧x<q)) X' w' q M r.1)
theorem log_Make_spec {F X:Nat→Prop} {w:World} {p:Nat} {c:Chip} (h:CX F X w p c) (hS:∀ x,F x→x<w.heap.size) (hXS:∀ x,X x→x<w.heap.size) (hnb:c.nb<20) (hnp:c.np≤32) (hsp:c.sp≤4) {era:Nat} (hera:era<4294967296) :
  CallsR prog K.log_Make #[.pointer (some ⟨p,0,none⟩),.int .u32 era] w fun v w'=>Upd F w w'∧LogOut F X p (makeL c era) w w' v:=by
 obtain ⟨r,hr⟩: ∃ r,r=makeL c era:=⟨_,rfl⟩
 rw [← hr]
 apply log_Make.sh
 suffices H:∀ R:Value→World→Prop,(∀ v w',Upd F w w'∧LogOut F X p r w w' v→R v w')→log_Make.body (some ⟨p,0,none⟩) era w R from H _ fun _ _ h=>h
 intro R hR
 unfold log_Make.body
 unfold makeL at hr
 refine (log_begin_spec h hnb era).mono ?_
 rintro _ w1 ⟨he1,hv⟩
 have hs1:=he1.size
 have bad:∀ (v:Value) (w':World) (n:Nat),n≠0→Ext w w'→r=(LogS.new c era,n)→v= .tuple #[.pointer none,.int .i64 (n:Nat)]→R v w':=by
  rintro v w' n hn0 he rfl rfl
  exact hR _ _ ⟨Upd.ext he,fun _=>⟨rfl,(h.ext he).mono (fun _ h=>.inl h) fun _ h=>h⟩,fun h0=>absurd h0 hn0⟩
 by_cases hd:c.dead=true
 ·rw [if_pos hd] at hv hr
  subst hv
  exact ⟨_,_,_,_,_,rfl,br_ne (fun _=>bad _ _ 10 (by decide) he1 hr rfl) fun h=>by cases h⟩
 rw [if_neg hd] at hv hr
 by_cases he0:era=0
 ·rw [if_pos he0] at hv hr
  subst hv
  exact ⟨_,_,_,_,_,rfl,br_ne (fun _=>bad _ _ 2 (by decide) he1 hr rfl) fun h=>by cases h⟩
 rw [if_neg he0] at hv hr
 obtain ⟨M,a,cap,hMp,rfl,hp,ho,hf⟩:=hv
 have hown:(ownL era (takenPool (scanPool c) c)).length≤20:=by
  have h1:(takenPool (scanPool c) c).length≤20:=by
   unfold takenPool
   rw [isort_length]
   have:=takenRaw_length (scanPool c) c c.nb
   omega
  exact Nat.le_trans (List.length_filter_le _ _) h1
 refine ⟨_,_,_,_,_,rfl,br_ne (fun h=>absurd rfl h) fun _=>(slices_ContainsFunc_Taken_spec ho.row (by omega)).mono ?_⟩
 rintro _ w2 ⟨rfl,he2⟩
 have e2:=he1.trans he2
 have hs2:=he2.size
 refine ⟨_,rfl,br_intro (fun hany=>?_) fun hany=>?_⟩
 ·rw [if_pos hany] at hr
  exact bad _ _ 2 (by decide) e2 hr rfl
 rw [if_neg (by rw [hany];decide)] at hr
 intro B w3 hn3
 have hB:B=w2.heap.size:=hn3.num
 have hs3:=hn3.size
 have he3:=hn3.upd
 have g3:=hn3.get
 have e3:=e2.trans he3
 have hp3:=hp.ext (he2.trans he3)
 have hF3:∀ x,(F x∨(w.heap.size≤x∧x<w1.heap.size))→x<B:=fun x hx=>by
  rcases hx with hx | hx
  ·have:=hS x hx;omega
  ·omega
 have h3:LogIn (fun x=>F x∨(w.heap.size≤x∧x<B)) X w3 B M (LogS.new c era):=by
  refine ⟨⟨none,0,g3,NoB,SliceAt.nil _ _ _,fun _ h=>h.elim⟩,hp3.mono (fun x hx=>?_) (fun _ h=>h),fun hx=>?_,fun hx=>?_,hera⟩
  ·rcases hx with hx | hx
   ·exact .inl hx
   ·exact .inr ⟨hx.1,by omega⟩
  ·rcases hx with hx | hx
   ·have:=hS B hx;omega
   ·omega
  ·have:=hXS B hx;omega
 have fit:=LogS.new_fit (era:=era) hnb hnp hsp
 refine (log_anew_spec h3 (fun x hx=>?_) (fun x hx=>Nat.lt_of_lt_of_le (hXS x hx) e3.size) hnb (Nat.zero_le _) (fun _ h=>(by cases h)) (fun _ h=>(by cases h)) (Nat.zero_le _) (LogS.take_last _ fit.last)).mono ?_
 ·rcases hx with hx | hx
  ·have:=hS x hx;omega
  ·omega
 rintro _ w4 ⟨rfl,hu4,h4⟩
 rw [← hr] at h4 ⊢
 have hs4:=hu4.size
 have u4:Upd F w w4:=((Upd.ext e3).trans hu4).mono fun x hlt hx=>by
  rcases hx with (hx | hx) | hx
  ·exact hx
  ·omega
  ·omega
 refine ⟨_,rfl,br_ne (fun hne=>?_) fun h0=>?_⟩
 ·refine hR _ _ ⟨u4,fun _=>⟨rfl,?_⟩,fun h0=>(by omega)⟩
  have:=h4.pool.chip
  rw [hMp] at this
  refine this.mono (fun x hx=>?_) fun _ h=>h
  rcases hx with hx | hx
  ·exact .inl hx
  ·exact .inr ⟨hx.1,by omega⟩
 ·exact hR _ _ ⟨u4,fun hne=>(by omega),fun _=>⟨M,B,hMp,rfl,by omega,by omega,X,fun _ h=>h,fun _ h=>.inl h,h4⟩⟩
theorem br_not {b:Bool} {X Y:Prop} (h1:b=false→X) (h2:b=true→Y):br (!b) X Y:=by
 cases b
 ·exact h1 rfl
 ·exact h2 rfl
theorem ownL_block {c:Chip} {era:Nat} {t:Taken} (h:t∈ownL era (takenPool (scanPool c) c)):t.block<c.nb:=by
 have:=(List.mem_filter.1 h).1
 unfold takenPool at this
 rw [isort_mem] at this
 exact takenRaw_block this
theorem log_Open_spec {F X:Nat→Prop} {w:World} {p:Nat} {c:Chip} (h:CX F X w p c) (hS:∀ x,F x→x<w.heap.size) (hXS:∀ x,X x→x<w.heap.size) (hnb:c.nb<20) {era:Nat} (hera:era<4294967296) :
  CallsR prog K.log_Open #[.pointer (some ⟨p,0,none⟩),.int .u32 era] w fun v w'=>Ext w w'∧LogOut F X p (openL c era) w w' v:=by
 obtain ⟨r,hr⟩: ∃ r,r=openL c era:=⟨_,rfl⟩
 rw [← hr]
 apply log_Open.sh
 suffices H:∀ R:Value→World→Prop,(∀ v w',Ext w w'∧LogOut F X p r w w' v→R v w')→log_Open.body (some ⟨p,0,none⟩) era w R from H _ fun _ _ h=>h
 intro R hR
 unfold log_Open.body
 unfold openL at hr
 refine (log_begin_spec h hnb era).mono ?_
 rintro _ w1 ⟨he1,hv⟩
 have hs1:=he1.size
 have bad:∀ (v:Value) (w':World) (n:Nat),n≠0→Ext w w'→r=(LogS.new c era,n)→v= .tuple #[.pointer none,.int .i64 (n:Nat)]→R v w':=by
  rintro v w' n hn0 he rfl rfl
  exact hR _ _ ⟨he,fun _=>⟨rfl,(h.ext he).mono (fun _ h=>.inl h) fun _ h=>h⟩,fun h0=>absurd h0 hn0⟩
 by_cases hd:c.dead=true
 ·rw [if_pos hd] at hv hr
  subst hv
  exact ⟨_,_,_,_,_,rfl,br_ne (fun _=>bad _ _ 10 (by decide) he1 hr rfl) fun h=>by cases h⟩
 rw [if_neg hd] at hv hr
 have hd0:c.dead=false:=by simpa using hd
 by_cases he0:era=0
 ·rw [if_pos he0] at hv hr
  subst hv
  exact ⟨_,_,_,_,_,rfl,br_ne (fun _=>bad _ _ 2 (by decide) he1 hr rfl) fun h=>by cases h⟩
 rw [if_neg he0] at hv hr
 obtain ⟨M,a,cap,hMp,rfl,hp,ho,hf⟩:=hv
 have hown:(ownL era (takenPool (scanPool c) c)).length≤20:=by
  have h1:(takenPool (scanPool c) c).length≤20:=by
   unfold takenPool
   rw [isort_length]
   have:=takenRaw_length (scanPool c) c c.nb
   omega
  exact Nat.le_trans (List.length_filter_le _ _) h1
 have hlb:=fun t=>ownL_block (c:=c) (era:=era) (t:=t)
 generalize ownL era (takenPool (scanPool c) c)=l at *
 refine ⟨_,_,_,_,_,rfl,br_ne (fun h=>absurd rfl h) fun _=>br_eq (fun hl0=>?_) fun hl0=>?_⟩
 ·have:l=[]:=List.eq_nil_of_length_eq_zero (by omega)
  subst this
  exact bad _ _ 16 (by decide) he1 hr rfl
 have hll:l.length - 1<l.length:=by omega
 have hlast:l.getLast?=some l[l.length - 1]:=by rw [List.getLast?_eq_getElem?,List.getElem?_eq_getElem hll]
 rw [hlast] at hr
 simp only at hr
 have htb:=hlb _ (List.getElem_mem hll)
 intro B w2 hn2
 have hB:B=w1.heap.size:=hn2.num
 have hs2:=hn2.size
 have g2:=hn2.get
 have e2:=he1.trans hn2.upd
 have h2:=h.ext e2
 refine (scan_Facts_spec h2.cin hnb era).mono ?_
 rintro _ w3 ⟨a3,c3,rfl,hl3,he3⟩
 have e3:=e2.trans he3
 have hs3:=he3.size
 have hp3:=hp.ext (hn2.upd.trans he3)
 generalize factsP (lowL (readParts c era)) (readParts c era)=fs at *
 have g3:=Ext.get he3 g2
 obtain ⟨G3,hG3,hG3'⟩:=hl3.slice
 refine ⟨_,_,_,_,rfl,?_⟩
 have hF3:∀ x,(F x∨(w.heap.size≤x∧x<w1.heap.size))→x<B:=fun x hx=>by
  rcases hx with hx | hx
  ·have:=hS x hx;omega
  ·omega
 have head0:LogIn (fun x=>F x∨(w.heap.size≤x∧x<B)) X w3 B M (LogS.new c era):=by
  refine ⟨⟨none,0,g3,NoB,SliceAt.nil _ _ _,fun _ h=>h.elim⟩,hp3.mono (fun x hx=>?_) (fun _ h=>h),fun hx=>?_,fun hx=>?_,hera⟩
  ·rcases hx with hx | hx
   ·exact .inl hx
   ·exact .inr ⟨hx.1,by omega⟩
  ·rcases hx with hx | hx
   ·have:=hS B hx;omega
   ·omega
  ·have:=hXS B hx;omega
 have hFB:∀ x,(F x∨(w.heap.size≤x∧x<B))→x<w2.heap.size:=fun x hx=>by
  rcases hx with hx | hx
  ·have:=hS x hx;omega
  ·omega
 refine head0.setFacts (S:=w2.heap.size) hFB (by omega) hG3 (fun b hb=>⟨(hG3' b hb).1.resolve_right (fun h=>h),(hG3' b hb).2⟩) fun w4 hu4 h4=>?_
 have hs4:=hu4.size
 generalize hX':(fun x=>X x∨(w2.heap.size≤x∧x<w3.heap.size))=X' at h4
 have hXX:∀ x,X x→X' x:=fun x hx=>by rw [← hX'];exact .inl hx
 have hXw:∀ x,X' x→X x∨(w.heap.size≤x∧x<w3.heap.size):=fun x hx=>by
  rw [← hX'] at hx
  rcases hx with hx | hx
  ·exact .inl hx
  ·exact .inr ⟨by omega,hx.2⟩
 have hXB:∀ x,X' x→x≠B→x<w3.heap.size:=fun x hx _=>by
  rcases hXw x hx with hx | hx
  ·have:=hXS x hx;omega
  ·omega
 have e4:Ext w w4:=e3.beyond hu4 fun x hx=>by omega
 have fin:∀ (u:World) (t:LogS),r=(t,0)→Ext w u→B<u.heap.size→w3.heap.size≤u.heap.size→LogIn (fun x=>F x∨(w.heap.size≤x∧x<B)) X' u B M t→R (.tuple #[.pointer (some ⟨B,0,none⟩),.int .i64 0]) u:=by
  rintro u t rfl hu hBu hsu ht
  refine hR _ _ ⟨hu,fun hne=>absurd rfl hne,fun _=>⟨M,B,hMp,rfl,by omega,hBu,X',hXX,fun x hx=>?_,ht⟩⟩
  rcases hXw x hx with hx | hx
  ·exact .inl hx
  ·exact .inr ⟨hx.1,by omega⟩
 have ew:IntKind.i64.wrap ((l.length:Int) - 1)=((l.length - 1:Nat):Int):=by rw [w64 (by omega) (by omega)];omega
 rw [ew]
 have ho4:RowAt w4 a (l.flatMap Taken.vals):=RowAt.upd ho.row ((Upd.ext (hn2.upd.trans he3)).trans hu4) fun p hp hx=>by
  obtain ⟨_,_,hx'⟩:=ho
  rcases hx' with ⟨hx',_⟩| ⟨b,cur,hx',hb,_⟩
  ·rw [hx'] at hp;cases hp
  ·have:=(Array.getElem?_eq_some_iff.1 hb).1
   rw [hx'] at hp
   cases hp
   have hx:b=B:=hx
   omega
 refine idx_flat (f:=Taken.vals) Taken.vals_length (by omega) ho4 rfl hll fun b o hab hrow=>?_
 refine ⟨l[l.length - 1].block,l[l.length - 1].head.kind.toNat,l[l.length - 1].head.era,l[l.length - 1].head.seq,l[l.length - 1].bad,RowAt.cells hrow,?_⟩
 generalize l[l.length - 1]=t at *
 refine new_put rfl fun B2 w6 hB2 hs6 he6 g6=>?_
 have e6:=e4.trans he6
 have h6:=h4.ext he6
 refine ⟨t.bad,cell_of g6 rfl,br_not (fun hgood=>?_) fun hbad=>?_⟩
 ·rw [if_neg (by rw [hgood];decide)] at hr
  refine ⟨t.block,cell_of g6 rfl,?_⟩
  refine h6.store (t:={ LogS.new c era with facts:=fs,block:=t.block }) ⟨rfl,rfl,rfl,rfl⟩ (o:=3) (fun _ _=>rfl) (by omega) fun w7 hu7 h7=>?_
  refine h7.store (t:={ LogS.new c era with facts:=fs,block:=t.block,page:=1 }) ⟨rfl,rfl,rfl,rfl⟩ (o:=4) (fun _ _=>rfl) (by omega) fun w8 hu8 h8=>?_
  have hs7:=hu7.size
  have hs8:=hu8.size
  have e8:Ext w w8:=(e6.beyond hu7 fun x hx=>by omega).beyond hu8 fun x hx=>by omega
  have g8:=hu8.get (hu7.get g6 (by omega)) (by omega)
  have hok:=h.cin.ok
  have hnp1:=hok.np1
  have hnp2:=hok.np2
  refine ⟨fun x u=>∃ k:Nat,x=((k+1:Nat):Int)∧k≤c.np - 1∧LogIn (fun x=>F x∨(w.heap.size≤x∧x<B)) X' u B M { LogS.new c era with facts:=fs,block:=t.block,page:=openPage c t.block k }∧Ext w u∧Upd (·=B) w8 u,fun x _=>((c.np:Int) - x).toNat,⟨0,rfl,by omega,h8,e8,Upd.refl _ _⟩,?_⟩
  rintro x u ⟨k,rfl,hk,hlu,heu,huu⟩
  have hcu:=hlu.pool.chip
  rw [hMp] at hcu
  refine (cGeo hcu.cin).mono ?_
  rintro _ w10 ⟨rfl,he10⟩
  have gu:=Ext.get he10 (huu.get g8 (by omega))
  have hl10:=hlu.ext he10
  refine ⟨_,_,_,_,rfl,br_dec (fun hlt=>?_) fun hge=>?_⟩
  ·have hlt':k+1<c.np:=by simp only [LogS.new] at hlt;omega
   refine ⟨t.block,cell_of gu rfl,(cPage (hcu.ext he10).cin hd0 htb hlt').mono ?_⟩
   rintro _ w11 ⟨he11,a11,c11,rfl,hb11,_,_⟩
   have hpl:=page_len hok htb hlt'
   have hsz:=hok.sz2
   have hpl':(c.page t.block (k+1)).length≤100000:=by omega
   refine ⟨_,_,_,_,rfl,(seal_Blank_spec hb11 hpl').mono ?_⟩
   rintro _ u12 ⟨rfl,hu12⟩
   obtain rfl:w11=u12:=hu12.symm
   have h12:=hl10.ext he11
   have ew:IntKind.i64.wrap (((k+1:Nat):Int)+1)=((k+1+1:Nat):Int):=w64 (by omega) (by omega)
   refine ⟨_,rfl,?_⟩
   rw [ew]
   have hop:=openPage_succ c t.block k
   refine br_not (fun hbl=>?_) fun hbl=>?_
   ·have hbl':isBlank (c.page t.block (k+1))=false:=hbl
    rw [if_neg (by rw [hbl'];decide)] at hop
    refine h12.store (t:={ LogS.new c era with facts:=fs,block:=t.block,page:=k+2 }) ⟨rfl,rfl,rfl,rfl⟩ (o:=4) (fun _ _=>rfl) (by omega) fun w13 hu13 h13=>?_
    rw [← hop] at h13
    exact ⟨⟨k+1,rfl,by omega,h13,((heu.trans he10).trans he11).beyond hu13 (fun x hx=>by omega),((huu.then he10).then he11).trans hu13⟩,meas hlt'⟩
   ·have hbl':isBlank (c.page t.block (k+1))=true:=hbl
    rw [if_pos hbl'] at hop
    rw [← hop] at h12
    exact ⟨⟨k+1,rfl,by omega,h12,(heu.trans he10).trans he11,(huu.then he10).then he11⟩,meas hlt'⟩
  ·have hkk:k=c.np - 1:=by simp only [LogS.new] at hge;omega
   subst hkk
   have hsz:=heu.size
   have h10:=he10.size
   have:=huu.size
   exact fin _ _ hr (heu.trans he10) (by omega) (by omega) hl10
 ·rw [if_pos hbad] at hr
  exact fin _ _ hr e6 (by omega) (by omega) h6
section
set_option maxRecDepth 100000
def five:Change:=⟨⟨1,1,ByteArray.empty,0⟩,[5],false⟩
def want14:List Fact:=applyF [] [five]
def l14 (era:Nat):LogS×Nat:=makeL (newChip 16 8 128 0) era
def p14:LogS×Nat:=(l14 1).1.put [five]
def works14:Bool:=decide ((l14 1).2=0) && decide (p14.2=0) && decide ((openL p14.1.chip.power 1).2=0) && decide ((openL p14.1.chip.power 2).2=16) && decide (want14.length=1) && decide (applyF p14.1.facts []=want14) && decide (applyF (openL p14.1.chip.power 1).1.facts []=want14)
theorem works14_true:works14=true:=by decide +kernel
end
theorem keys_beq (x y:Key):((x.ino == y.ino) && (((x.what.toNat:Int) == (y.what.toNat:Int)) && ((x.name.toList == y.name.toList) && ((x.chunk == y.chunk) && true))))=decide (x=y):=by
 rw [Bool.eq_iff_iff]
 simp only [Bool.and_eq_true,beq_iff_eq,Bool.and_true,decide_eq_true_eq]
 constructor
 ·rintro ⟨h1,h2,h3,h4⟩
  cases x;cases y
  simp only at h1 h2 h3 h4
  subst h1;subst h4
  have e2:=UInt8.toNat.inj (Int.ofNat.inj h2)
  have e3:=h3
  rw [ByteArray.toList_eq,ByteArray.toList_eq] at e3
  have e3':=ByteArray.ext (Array.ext' e3)
  subst e2;subst e3'
  rfl
 ·rintro rfl
  exact ⟨rfl,rfl,rfl,rfl⟩
theorem carrackref00_Facts_spec {w:World} {G H:Nat→Prop} {a b:Option Addr} {c d:Nat} {l m:List Fact} (ha:SliceAt factR w G a l) (hb:SliceAt factR w H b m) (hn:l.length≤100000000) (hv:∀ f∈l,f.val.length≤1000000000000) :
  CallsR prog K.carrackref00_Facts #[.slice a l.length c,.slice b m.length d] w fun v w'=>v= .bool (decide (l=m))∧Ext w w':=by
 apply carrackref00_Facts.sh
 unfold carrackref00_Facts.body
 refine br_ne (fun hne=>⟨?_,Upd.refl _ _⟩) fun hlm=>?_
 ·rw [decide_eq_false (p:=l=m) (fun e=>hne (by rw [e]))]
 have hlm':l.length=m.length:=by omega
 refine ⟨fun x u=>∃ i:Nat,x=i∧i≤l.length∧l.take i=m.take i∧Ext w u,fun x _=>((l.length:Int) - x).toNat,⟨0,rfl,by omega,by simp,Upd.refl _ _⟩,?_⟩
 rintro x u ⟨i,rfl,hi,hpre,heu⟩
 refine br_dec (fun hlt=>?_) fun hge=>?_
 ·have hi':i<l.length:=by omega
  have hi2:i<m.length:=by omega
  intro w2 hd2
  have e2:=heu.trans hd2.upd
  have ha2:=ha.ext e2
  have hb2:=hb.ext e2
  have hne:l[i]≠m[i]→decide (l=m)=false:=fun h=>decide_eq_false fun e=>h (by simp only [e])
  refine ⟨fun v=>Ext w2 v,Upd.refl _ _,SliceAt.idx (r:=factR) ha2 rfl hi' fun b1 o1 vs _ hrow hR _=>?_⟩
  obtain ⟨a1,c1,rfl,_,hba,_⟩:=factR_elim hR
  refine ⟨_,_,_,_,fun u1 hu1=>(RowAt.take (hrow.ext hu1) 4).cells,SliceAt.idx (r:=factR) hb2 rfl hi2 fun b2 o2 vs2 _ hrow2 hR2 _=>?_⟩
  obtain ⟨a2,c2,rfl,_,hbb,_⟩:=factR_elim hR2
  refine ⟨_,_,_,_,fun u1 hu1=>(RowAt.take (hrow2.ext hu1) 4).cells,?_⟩
  rw [keys_beq]
  refine br_intro (fun hk=>⟨Upd.refl _ _,by rw [hne fun e=>by rw [e] at hk;simp at hk],e2⟩) fun hk=>?_
  have hkey:l[i].key=m[i].key:=by simpa using hk
  refine SliceAt.idx (r:=factR) ha2 rfl hi' fun b3 o3 vs3 _ hrow3 hR3 _=>?_
  obtain ⟨a3,c3,rfl,_,hb3,_⟩:=factR_elim hR3
  refine ⟨a3,l[i].val.length,c3,fun u1 hu1=>?_,SliceAt.idx (r:=factR) hb2 rfl hi2 fun b4 o4 vs4 _ hrow4 hR4 _=>?_⟩
  ·obtain ⟨_,_,e,g⟩:=((hrow3.ext hu1).drop 4).cell (i:=0) (v:=.slice a3 l[i].val.length c3) rfl
   cases e
   exact g
  obtain ⟨a4,c4,rfl,_,hb4,_⟩:=factR_elim hR4
  refine ⟨a4,m[i].val.length,c4,fun u1 hu1=>?_,(carrackref00_Same_spec hb3 hb4 (hv _ (List.getElem_mem hi'))).mono ?_⟩
  ·obtain ⟨_,_,e,g⟩:=((hrow4.ext hu1).drop 4).cell (i:=0) (v:=.slice a4 m[i].val.length c4) rfl
   cases e
   exact g
  rintro _ w3 ⟨rfl,he3⟩
  refine ⟨_,rfl,he3,?_⟩
  have ew:IntKind.i64.wrap ((i:Int)+1)=((i+1:Nat):Int):=w64 (by omega) (by omega)
  rw [ew]
  refine br_intro (fun hs=>⟨by rw [hne fun e=>by rw [e] at hs;simp at hs],e2.trans he3⟩) fun hs=>?_
  have hval:l[i].val=m[i].val:=by simpa using hs
  refine ⟨⟨i+1,rfl,hi',?_,e2.trans he3⟩,meas hi'⟩
  rw [List.take_succ_eq_append_getElem hi',List.take_succ_eq_append_getElem hi2,hpre]
  have:l[i]=m[i]:=by
   generalize l[i]=x at *
   generalize m[i]=y at *
   cases x;cases y
   simp only at hkey hval
   rw [hkey,hval]
  rw [this]
 ·have:i=l.length:=by omega
  subst this
  rw [List.take_length,hlm',List.take_length] at hpre
  exact ⟨by rw [decide_eq_true hpre],heu⟩
abbrev Fr (w w':World):Nat→Prop:=fun x=>w.heap.size≤x∧x<w'.heap.size
theorem cxNew (w:World) {nb np sz sp:Nat} (nb1:8≤nb) (nb2:nb≤64) (np1:4≤np) (np2:np≤32) (sz1:128≤sz) (sz2:sz≤256) (sp2:sp≤4) :
  CallsR prog K.nand_New #[.agg #[.int .i64 nb,.int .i64 np,.int .i64 sz,.int .i64 sp]] w fun v w'=>Ext w w'∧∃ p,v= .tuple #[.pointer (some ⟨p,0,none⟩),.int .i64 0]∧CX (Fr w w') (Fr w w') w' p (newChip nb np sz sp):=by
 refine (nand_New_spec w nb1 nb2 np1 np2 sz1 sz2 sp2).mono ?_
 rintro v w' ⟨he,p,rfl,L,G,hc,h1,h2,h3⟩
 exact ⟨he,p,rfl,L,G,hc,h1,fun x hx=>⟨h2 x hx,(h2 x hx).2⟩⟩
theorem cxPower {F X:Nat→Prop} {w:World} {p:Nat} {c:Chip} (h:CX F X w p c) :
  CallsR prog K.nand_Chip_Power #[.pointer (some ⟨p,0,none⟩)] w fun v w'=>Ext w w'∧∃ p',v= .tuple #[.pointer (some ⟨p',0,none⟩),.int .i64 0]∧CX (Fr w w') (Fr w w') w' p' c.power:=by
 obtain ⟨L,G,hr,hF,hG⟩:=h
 refine (nand_Power_spec hr).mono ?_
 rintro v w' ⟨he,p',rfl,L',G',hc,h1,h2,h3⟩
 exact ⟨he,p',rfl,L',G',hc,h1,fun x hx=>⟨h2 x hx,(h2 x hx).2⟩⟩
theorem carracklaw14_geo_spec (sp:UInt8) (w:World):CallsR prog K.carracklaw14_geo #[bv sp] w fun v w'=>v= .agg #[.int .i64 (16:Nat),.int .i64 (8:Nat),.int .i64 (128:Nat),.int .i64 ((sp.toNat % 2:Nat):Int)]∧Ext w w':=by
 apply carracklaw14_geo.sh
 unfold carracklaw14_geo.body
 intro B w1 hn1
 have hs:=sp.toNat_lt
 have e:Int.tmod (sp.toNat:Int) 2=((sp.toNat % 2:Nat):Int):=(Int.ofNat_tmod _ _).symm
 have e2:IntKind.i64.wrap ((sp.toNat % 2:Nat):Int)=((sp.toNat % 2:Nat):Int):=w64 (by omega) (by omega)
 rw [e,e2]
 refine ⟨by decide,?_⟩
 refine store_of hn1.get (by simp) fun w2 hp=>?_
 have hB:=hn1.num
 have g:=hp.get
 rw [splice_all _ _ (by simp)] at g
 exact ⟨_,_,_,_,cells_all g,rfl,hn1.upd.beyond hp.upd1 fun x hx=>by omega⟩
theorem carracklaw14_five_spec (w:World):CallsR prog K.carracklaw14_five #[] w fun v w'=>∃ a,v= .slice a [five].length 1∧Ext w w'∧SliceAt changeR w' (Fr w w') a [five]:=by
 apply carracklaw14_five.sh
 unfold carracklaw14_five.body
 intro B1 w1 hn1 B2 w2 hn2
 have hB1:=hn1.num
 have hB2:=hn2.num
 have hs1:=hn1.size
 have hs2:=hn2.size
 have g1:=Ext.get hn2.upd hn1.get
 have g2:=hn2.get
 refine ⟨_,rfl,hn1.upd.trans hn2.upd,?_⟩
 have hrow:RowAt w2 (some ⟨B2,0,none⟩) (changeVs five.key (some ⟨B1,0,none⟩) five.val.length 1 five.gone):=RowAt.of g2 fun j v hj=>by rw [Nat.zero_add,← Array.getElem?_toList];exact hj
 have hb:BytesAt w2 (some ⟨B1,0,none⟩) five.val:=RowAt.of g1 fun j v hj=>by rw [Nat.zero_add,← Array.getElem?_toList];exact hj
 exact ⟨_,hrow,Rows.single (changeR_intro (by decide) hb fun _ p hp=>by cases hp;exact ⟨by show w.heap.size≤B1;omega,by show B1<w2.heap.size;omega⟩),fun _ p hp=>by cases hp;exact ⟨by show w.heap.size≤B2;omega,by show B2<w2.heap.size;omega⟩⟩
theorem five_small:Small [five]:=fun x hx=>by simp at hx;subst hx;decide
theorem makeL_keeps {c:Chip} {era:Nat} (hnb:c.nb<20) (hnp:c.np≤32) (hsp:c.sp≤4):(LogS.new c era).Keeps (makeL c era).1∧(makeL c era).1.Fit:=by
 have fit:=LogS.new_fit (era:=era) hnb hnp hsp
 unfold makeL
 split
 ·exact ⟨.refl _,fit⟩
 ·split
  ·exact ⟨.refl _,fit⟩
  ·split
   ·exact ⟨.refl _,fit⟩
   ·exact LogS.anew_fit fit
theorem openL_keeps {c:Chip} {era:Nat} (ok:c.Ok) (hnb:c.nb<20) (hsp:c.sp≤4):(openL c era).1.chip=c∧(openL c era).1.era=era∧(openL c era).1.pool=scanPool c∧(openL c era).1.Fit∧GoodF 163200 (openL c era).1.facts:=by
 have fit:=LogS.new_fit (era:=era) hnb ok.np2 hsp
 have g0:GoodF 163200 []:=GoodF.nil.mono (by omega)
 have hlen:=readParts_length (c:=c) era
 have hg:GoodF 163200 (factsP (lowL (readParts c era)) (readParts c era)):=by
  have:=factsP_good (low:=lowL (readParts c era)) (readParts_good ok.np2 era) (readParts c era).length (Nat.le_refl _)
  rw [List.take_length] at this
  exact this.mono (by omega)
 unfold openL
 split
 ·exact ⟨rfl,rfl,rfl,fit,g0⟩
 ·split
  ·exact ⟨rfl,rfl,rfl,fit,g0⟩
  ·split
   ·exact ⟨rfl,rfl,rfl,fit,g0⟩
   ·simp only
    split
    ·exact ⟨rfl,rfl,rfl,⟨fit.nb,fit.np,fit.sp,fit.page,fit.last⟩,hg⟩
    ·refine ⟨rfl,rfl,rfl,⟨fit.nb,fit.np,fit.sp,?_,fit.last⟩,hg⟩
     rename_i t _ _
     have h1:=openPage_le c t.block (c.np - 1)
     have h2:=ok.np2
     simp only
     omega
theorem LogS.put_good {s:LogS} (h:s.Fit) {n:Nat} (hg:GoodF n s.facts) (cs:List Change):GoodF (n+255) (s.put cs).1.facts:=by
 rcases (LogS.put_fit h cs).2.2.2 with h | ⟨_,h,hc⟩
 ·rw [h];exact hg.mono (by omega)
 ·rw [h];exact hg.apply hc
theorem carracklaw14_works_spec (w:World):CallsR prog K.carracklaw14_works #[] w fun v w'=>v= .bool true∧Ext w w':=by
 have hM:=works14_true
 simp only [works14,Bool.and_eq_true,decide_eq_true_eq] at hM
 obtain ⟨⟨⟨⟨⟨⟨m0,m1⟩,m2⟩,m3⟩,m4⟩,m5⟩,m6⟩:=hM
 apply carracklaw14_works.sh
 unfold carracklaw14_works.body
 refine (carracklaw14_geo_spec 0 w).mono ?_
 rintro _ w1 ⟨rfl,he1⟩
 refine ⟨_,_,_,_,rfl,(cxNew w1 (nb:=16) (np:=8) (sz:=128) (sp:=0) (by omega) (by omega) (by omega) (by omega) (by omega) (by omega) (by omega)).mono ?_⟩
 rintro _ w2 ⟨he2,p,rfl,hc2⟩
 have hs1:=he1.size
 have hs2:=he2.size
 obtain ⟨kp,fit⟩:=makeL_keeps (c:=newChip 16 8 128 0) (era:=1) (by decide) (by decide) (by decide)
 refine ⟨_,_,rfl,(log_Make_spec hc2 (fun x hx=>hx.2) (fun x hx=>hx.2) (by decide) (by decide) (by decide) (by decide)).mono ?_⟩
 rintro _ w3 ⟨hu3,_,hv⟩
 have hl:makeL (newChip 16 8 128 0) 1=l14 1:=rfl
 rw [hl] at hv kp fit
 obtain ⟨M,q,rfl,rfl,hq1,hq2,X,_,hX,h3⟩:=hv m0
 have hs3:=hu3.size
 generalize hF:(fun x=>Fr w1 w2 x∨(w2.heap.size≤x∧x<q))=F at h3
 have hFS:∀ x,F x→w.heap.size≤x∧x<w3.heap.size:=fun x hx=>by
  rw [← hF] at hx
  rcases hx with hx | hx
  ·have:=hx.1;have:=hx.2;omega
  ·omega
 have hXS:∀ x,X x→w.heap.size≤x∧x<w3.heap.size:=fun x hx=>by
  rcases hX x hx with hx | hx
  ·have:=hx.1;have:=hx.2;omega
  ·omega
 have e3:Ext w w3:=(he1.trans he2).beyond hu3 fun x hx=>by have:=hx.1;omega
 have hg:GoodF 0 (l14 1).1.facts:=by rw [kp.facts];exact GoodF.nil
 refine ⟨_,_,rfl,(carracklaw14_five_spec w3).mono ?_⟩
 rintro _ w4 ⟨a4,rfl,he4,hf4⟩
 have hs4:=he4.size
 refine ⟨_,_,_,rfl,(log_Put_spec (h3.ext he4) (fun x hx=>by have:=hFS x hx;omega) (fun x hx=>by have:=hXS x hx;omega) fit hg (by omega) hf4 five_small (by decide)).mono ?_⟩
 have hp:(l14 1).1.put [five]=p14:=rfl
 have hgp:=LogS.put_good fit hg [five]
 have hfp:=LogS.put_fit fit [five]
 rw [hp] at hgp hfp
 rw [hp]
 rintro _ w5 ⟨rfl,hu5,X5,_,hX5,h5⟩
 have hs5:=hu5.size
 have e5:Ext w w5:=(e3.trans he4).beyond hu5 fun x hx=>by
  rcases hx with hx | hx
  ·exact (hFS x hx).1
  ·omega
 have hok:=h5.pool.chip.cin.ok
 have hgeo:=hfp.1
 refine ⟨_,rfl,(cxPower h5.pool.chip).mono ?_⟩
 rintro _ w6 ⟨he6,p',rfl,hc6⟩
 have hs6:=he6.size
 obtain ⟨k1,k2,k3,k4,k5⟩:=openL_keeps (era:=1) hc6.cin.ok hgeo.nb hgeo.sp
 refine ⟨_,_,rfl,(log_Open_spec hc6 (fun x hx=>hx.2) (fun x hx=>hx.2) hgeo.nb (by decide)).mono ?_⟩
 rintro _ w7 ⟨he7,_,hv⟩
 obtain ⟨M2,q2,_,rfl,_,_,X7,_,_,h7⟩:=hv m2
 have hc7:=hc6.ext he7
 have hs7:=he7.size
 refine ⟨_,_,rfl,(log_Open_spec hc7 (fun x hx=>by have:=hx.2;omega) (fun x hx=>by have:=hx.2;omega) hgeo.nb (era:=2) (by decide)).mono ?_⟩
 rintro _ w8 ⟨he8,hv8,_⟩
 obtain ⟨rfl,_⟩:=hv8 (by rw [m3];decide)
 rw [m3]
 refine ⟨_,_,rfl,(carracklaw14_five_spec w8).mono ?_⟩
 rintro _ w9 ⟨a9,rfl,he9,hf9⟩
 refine ⟨_,_,_,rfl,(carrackref06_Apply_spec (G:=NoB) (a:=none) (c:=0) (l:=[]) (SliceAt.nil _ _ _) (fun _ h=>h.elim) hf9 (by decide) (fun _ h=>(by cases h)) (fun x hx=>by simp at hx;subst hx;decide)).mono ?_⟩
 have hw:applyF [] [five]=want14:=rfl
 rw [hw]
 rintro _ w10 ⟨a10,c10,rfl,hl10,he10⟩
 obtain ⟨G10,hG10,_⟩:=hl10.slice
 have e10:Ext w w10:=((((e5.trans he6).trans he7).trans he8).trans he9).trans he10
 have e510:Ext w5 w10:=(((he6.trans he7).trans he8).trans he9).trans he10
 have e710:Ext w7 w10:=(he8.trans he9).trans he10
 have hwl:=m4
 have hww:∀ f∈want14,f.val.length≤1000000000000:=by decide +kernel
 have hwl2:want14.length≤100000000:=by rw [m4];decide
 have hgl:=hgp.len
 have hgl2:=k5.len
 refine ⟨_,_,_,rfl,br_eq (fun _=>br_eq (fun _=>br_eq (fun _=>br_eq (fun _=>br_eq (fun _=>br_eq (fun _=>br_eq (fun _=>?_) fun h=>absurd (by rw [m4];rfl) h) fun h=>absurd rfl h) fun h=>absurd rfl h) fun h=>absurd rfl h) fun h=>absurd (by rw [m1];rfl) h) fun h=>absurd rfl h) fun h=>absurd rfl h⟩
 refine (log_Facts_spec (h5.ext e510) (by omega) (hgp.vals' (by omega))).mono ?_
 rw [m5]
 rintro _ w11 ⟨a11,c11,rfl,hl11,he11⟩
 obtain ⟨G11,hG11,_⟩:=hl11.slice
 refine ⟨_,_,_,rfl,(carrackref00_Facts_spec hG11 (hG10.ext he11) hwl2 hww).mono ?_⟩
 rintro _ w12 ⟨rfl,he12⟩
 rw [decide_eq_true (rfl:want14=want14)]
 refine ⟨_,rfl,?_⟩
 rw [br_true]
 have e712:Ext w7 w12:=(e710.trans he11).trans he12
 refine (log_Facts_spec (h7.ext e712) (Nat.le_trans k5.len (by decide)) (k5.vals' (by omega))).mono ?_
 rw [m6]
 rintro _ w13 ⟨a13,c13,rfl,hl13,he13⟩
 obtain ⟨G13,hG13,_⟩:=hl13.slice
 refine ⟨_,_,_,rfl,(carrackref00_Facts_spec hG13 (((hG10.ext he11).ext he12).ext he13) hwl2 hww).mono ?_⟩
 rintro _ w14 ⟨rfl,he14⟩
 rw [decide_eq_true (rfl:want14=want14)]
 exact ⟨_,rfl,rfl,(((e10.trans he11).trans he12).trans he13).trans he14⟩
def Room (c:Chip):Prop:=lives 0 c+2≤c.nb∨2≤badsC c
structure PutOk (s:LogS) (cs:List Change) (H:Nat) (r:LogS×Nat):Prop where
 err:r.2=0∨r.2=10∨r.2=11
 era:r.1.era=s.era
 geo:s.chip.SameGeo r.1.chip
 well:Well r.1.chip s.era
 facts:(r.2=0∧r.1.facts=applyF s.facts cs)∨(r.2≠0∧r.1.facts=s.facts)
 tell:told (partsC s.chip s.era)=s.facts→(r.2≠0∧told (partsC r.1.chip s.era)=s.facts)∨told (partsC r.1.chip s.era)=applyF s.facts cs
 fine:Fine s.chip.sz (told (partsC s.chip s.era))→Fine s.chip.sz (told (partsC r.1.chip s.era))
 low:lowL (partsC s.chip s.era)≤lowL (partsC r.1.chip s.era)
 lo:s.pool.last≤r.1.pool.last
 hi:r.1.pool.last≤s.pool.last+s.chip.nb * (H+2) * (s.facts.length+3)
 dead:r.2=10→r.1.chip.dead=true
 log:r.2≠10→LogOk r.1
 room:s.facts.length+2≤s.chip.np→Room s.chip→r.2≠10→Room r.1.chip∧(r.2=11→2≤badsC r.1.chip)
 hits:r.1.chip.hits.length≤s.chip.hits.length
 calm:(∀ t∈s.chip.hits,t.fails=false)→(∀ t∈r.1.chip.hits,t.fails=false)∧r.1.chip.bad=s.chip.bad∧(r.2=11→told (partsC s.chip s.era)=s.facts→told (partsC r.1.chip s.era)=s.facts)
 still:s.chip.hits=[]→r.1.chip.hits=[]∧r.2≠10
 bads:badsC s.chip≤badsC r.1.chip
 inv:Inv r.1.pool r.1.chip
theorem put_ok {s:LogS} {H:Nat} {cs:List Change} (h:LogOk s) (hfine:Fine s.chip.sz s.facts) (hp:(putL s.chip.sz cs).2=0) (hH:s.chip.hits.length≤H) (hl:s.pool.last+s.chip.nb * (H+2) * (s.facts.length+3)<18446744073709551616):PutOk s cs H (s.put cs):=by
 have hok:=h.well.ci.ok
 have hnb:=hok.nb1
 have hnp:=hok.np1
 have hask:s.chip.ask 0 0=0:=ask_ok (i:=0) (k:=0) h.alive (by omega) (by omega)
 have hN3:s.chip.nb * (H+2) * (s.facts.length+3)=s.chip.nb * (H+2) * (s.facts.length+2)+s.chip.nb * (H+2):=Nat.mul_succ _ _
 rw [LogS.put_eq,if_neg (by omega),if_neg (by omega)]
 obtain ⟨y,hy⟩: ∃ y,y=(if s.low (applyF s.facts cs).length then s.anew else (s,0)):=⟨_,rfl⟩
 rw [← hy]
 have hY:(y.2=0∨y.2=10∨y.2=11)∧s.Keeps y.1∧Well y.1.chip s.era∧(told (partsC s.chip s.era)=s.facts→told (partsC y.1.chip s.era)=s.facts)∧(Fine s.chip.sz (told (partsC s.chip s.era))→Fine s.chip.sz (told (partsC y.1.chip s.era)))∧lowL (partsC s.chip s.era)≤lowL (partsC y.1.chip s.era)∧
   s.pool.last≤y.1.pool.last∧y.1.pool.last≤s.pool.last+s.chip.nb * (H+2) * (s.facts.length+2)∧(y.2=10→y.1.chip.dead=true)∧(y.2≠10→LogOk y.1)∧y.1.chip.hits.length≤s.chip.hits.length∧
   ((∀ t∈s.chip.hits,t.fails=false)→(∀ t∈y.1.chip.hits,t.fails=false)∧y.1.chip.bad=s.chip.bad)∧(s.chip.hits=[]→y.1.chip.hits=[]∧y.2≠10)∧badsC s.chip≤badsC y.1.chip∧Inv y.1.pool y.1.chip∧
   (s.facts.length+2≤s.chip.np→Room s.chip→y.2≠10→2≤badsC y.1.chip∨(lives 0 y.1.chip+3≤s.chip.nb)):=by
  by_cases hlow:s.low (applyF s.facts cs).length=true
  ·rw [if_pos hlow] at hy
   have A:=anew_ok h hfine hH (by omega)
   subst hy
   refine ⟨A.err,⟨A.facts,A.era,A.geo⟩,A.well,A.told,A.fine,A.low,A.lo,A.hi,A.dead,A.log,A.hits,A.calm,A.still,A.bads,A.inv,fun hq hr hne=>?_⟩
   rcases hr with hr | hr
   ·rcases A.err with e | e | e
    ·have:=A.one hq e
     exact .inr (by omega)
    ·exact absurd e hne
    ·left
     have h1:=A.live hq e
     have hlog:=A.log hne
     have h2:=blocks_count hlog.inv hlog.alive
     rw [A.full e,A.geo.1] at h2
     omega
   ·exact .inl (Nat.le_trans hr A.bads)
  ·rw [if_neg hlow] at hy
   subst hy
   refine ⟨.inl rfl,.refl s,h.well,fun h=>h,fun h=>h,Nat.le_refl _,Nat.le_refl _,Nat.le_add_right _ _,(fun h=>by cases h),fun _=>h,Nat.le_refl _,fun hc=>⟨hc,rfl⟩,fun hq=>⟨hq,(fun h=>by cases h)⟩,Nat.le_refl _,h.inv,fun hq hr _=>?_⟩
   have hbl:3≤blanksPool s.pool s.chip:=by
    have e:s.low (applyF s.facts cs).length=decide (blanksPool s.pool s.chip<((applyF s.facts cs).length+2+(s.chip.np - 1) - 1) / (s.chip.np - 1)+2+s.chip.sp):=rfl
    rw [e] at hlow
    have h1:1≤((applyF s.facts cs).length+2+(s.chip.np - 1) - 1) / (s.chip.np - 1):=(Nat.le_div_iff_mul_le (by omega)).2 (by omega)
    have h2:¬ blanksPool s.pool s.chip<((applyF s.facts cs).length+2+(s.chip.np - 1) - 1) / (s.chip.np - 1)+2+s.chip.sp:=fun hx=>hlow (decide_eq_true hx)
    omega
   have h2:=blocks_count h.inv h.alive
   exact .inr (by show lives 0 s.chip+3≤s.chip.nb;omega)
 clear hy
 obtain ⟨y1,y2,y3,y4,y5,yl,y6,y7,y8,y9,y10,y11,y12,y13,y15,y14⟩:=hY
 split
 ·rename_i h10
  refine ⟨y1,y2.era,y2.geo,y3,.inr ⟨by omega,y2.facts⟩,fun hs=>.inl ⟨by omega,y4 hs⟩,y5,yl,y6,by omega,y8,y9,fun _ _ hne=>absurd h10 hne,y10,fun hc=>⟨(y11 hc).1,(y11 hc).2,fun h11=>(by omega)⟩,y12,y13,y15⟩
 rename_i h10
 have hlog:=y9 h10
 have hgeo:=y2.geo
 have hera:y.1.era=s.era:=y2.era
 have hfuel:y.1.chip.nb * y.1.fuel≤s.chip.nb * (H+2):=by
  rw [hgeo.1]
  exact Nat.mul_le_mul_left _ (by unfold LogS.fuel;omega)
 have W:=write_ok (pg:=(putL s.chip.sz cs).1) (cs:=cs) (d:=0) y.1.fuel hlog (by rw [hgeo.2.2.1];exact (putL_says hok.sz1 hok.sz2 hp).1) ⟨Nat.zero_le _,fun _ _ _ _ _ _=>Nat.zero_le _⟩ (by unfold LogS.left LogS.fuel;split<;>omega) (by omega)
 have hcl:=cov_low hlog
 have hyc:=y11
 generalize y.1.write (putL s.chip.sz cs).1 y.1.fuel=q at *
 have wsays:=W.says
 have wwell:=W.well
 rw [hera] at wsays wwell hcl
 have wgeo:=hgeo.trans W.geo
 have whi:=W.hi
 have wtell:(q.2≠0∧told (partsC q.1.chip s.era)=told (partsC y.1.chip s.era))∨told (partsC q.1.chip s.era)=applyF (told (partsC y.1.chip s.era)) cs:=by
  rcases wsays with ⟨h1,h2⟩| h1
  ·exact .inl ⟨h2,told_same h1⟩
  ·right
   have e:lowL (partsC q.1.chip s.era)=lowL (partsC y.1.chip s.era):=by rw [h1.2];omega
   unfold told
   rw [e,h1.1 _ hcl]
 have wfine:Fine s.chip.sz (told (partsC s.chip s.era))→Fine s.chip.sz (told (partsC q.1.chip s.era)):=fun hs=>by
  rcases wtell with ⟨_,e⟩| e
  ·rw [e];exact y5 hs
  ·rw [e];exact (y5 hs).put hok.sz1 hok.sz2 hp
 have wlow:lowL (partsC s.chip s.era)≤lowL (partsC q.1.chip s.era):=by
  rcases wsays with ⟨h1,_⟩| h1
  ·rw [h1.2];exact yl
  ·rw [h1.2];omega
 have wroom:s.facts.length+2≤s.chip.np→Room s.chip→q.2≠10→Room q.1.chip∧(q.2=11→2≤badsC q.1.chip):=fun hq hr hne=>by
  rcases y14 hq hr h10 with hb | hb
  ·have:=Nat.le_trans hb W.bads
   exact ⟨.inr this,fun _=>this⟩
  ·have w1:=W.live 0 ⟨Nat.zero_le _,fun _ _ _ _ _ _=>Nat.zero_le _⟩ hne
   have w2:(if y.1.block= -1∨y.1.page≥y.1.chip.np then 1 else 0)≤1:=by split<;>omega
   have hn:=wgeo.1
   refine ⟨.inl (by omega),fun h11=>?_⟩
   have hlogq:=W.log hne
   have h2:=blocks_count hlogq.inv hlogq.alive
   rw [W.full h11] at h2
   rw [if_pos h11] at w1
   omega
 have wcalm:(∀ t∈s.chip.hits,t.fails=false)→(∀ t∈q.1.chip.hits,t.fails=false)∧q.1.chip.bad=s.chip.bad∧(q.2=11→told (partsC s.chip s.era)=s.facts→told (partsC q.1.chip s.era)=s.facts):=fun hc=>by
  have c1:=hyc hc
  have c2:=W.calm c1.1
  refine ⟨c2.1,c2.2.1.trans c1.2,fun h11 hs=>?_⟩
  have:=c2.2.2 h11
  rw [hera] at this
  rw [told_same this];exact y4 hs
 have wtell':told (partsC s.chip s.era)=s.facts→(q.2≠0∧told (partsC q.1.chip s.era)=s.facts)∨told (partsC q.1.chip s.era)=applyF s.facts cs:=fun hs=>by
  rcases wtell with ⟨e1,e⟩| e
  ·exact .inl ⟨e1,by rw [e];exact y4 hs⟩
  ·exact .inr (by rw [e,y4 hs])
 split
 ·rename_i hne
  exact ⟨W.err,W.era.trans hera,wgeo,wwell,.inr ⟨hne,W.facts.trans y2.facts⟩,wtell',wfine,wlow,Nat.le_trans y6 W.lo,by omega,W.dead,W.log,wroom,Nat.le_trans W.hits y10,wcalm,fun hq=>W.still (y12 hq).1,Nat.le_trans y13 W.bads,W.inv⟩
 ·rename_i hz
  have h0:q.2=0:=Classical.byContradiction hz
  have hl0:=W.log (by omega)
  refine ⟨.inl rfl,W.era.trans hera,wgeo,wwell,.inl ⟨rfl,rfl⟩,fun hs=>?_,wfine,wlow,Nat.le_trans y6 W.lo,by show q.1.pool.last≤_;omega,(fun h=>by cases h),fun _=>⟨hl0.inv,hl0.alive,hl0.turn,hl0.era1,hl0.era2,hl0.well,?_⟩,fun hq hr _=>⟨(wroom hq hr (by omega)).1,(fun h=>by cases h)⟩,Nat.le_trans W.hits y10,fun hc=>⟨(wcalm hc).1,(wcalm hc).2.1,(fun h=>by cases h)⟩,fun hq=>⟨(W.still (y12 hq).1).1,(fun h=>by cases h)⟩,Nat.le_trans y13 W.bads,W.inv⟩
  ·rcases wtell' hs with ⟨e,_⟩| e
   ·exact absurd h0 e
   ·exact .inr e
  ·rcases hl0.open_ with o | o | ⟨i,a,t,p,o⟩
   ·exact .inl o
   ·exact .inr (.inl o)
   ·exact .inr (.inr ⟨i,a,t,p,⟨o.blk,o.parts,o.pb,o.quiet,o.good,o.page,o.open_⟩⟩)
structure TidyOk (s:LogS) (b:Int) (H:Nat) (r:LogS×Nat):Prop where
 err:r.2=0∨r.2=10∨r.2=11
 era:r.1.era=s.era
 facts:r.1.facts=s.facts
 geo:s.chip.SameGeo r.1.chip
 well:Well r.1.chip s.era
 told:told (partsC s.chip s.era)=s.facts→told (partsC r.1.chip s.era)=s.facts
 fine:Fine s.chip.sz (Go.Den.told (partsC s.chip s.era))→Fine s.chip.sz (Go.Den.told (partsC r.1.chip s.era))
 low:lowL (partsC s.chip s.era)≤lowL (partsC r.1.chip s.era)
 lo:s.pool.last≤r.1.pool.last
 hi:r.1.pool.last≤s.pool.last+s.chip.nb * (H+2) * (s.facts.length+2)
 dead:r.2=10→r.1.chip.dead=true
 log:r.2≠10→LogOk r.1
 ok:r.2=0→b≤(blanksPool r.1.pool r.1.chip:Int)
 room:s.facts.length+2≤s.chip.np→Room s.chip→r.2≠10→Room r.1.chip∧(r.2=11→2≤badsC r.1.chip∨(s.chip.nb:Int)<b+badsC r.1.chip+1)
 hits:r.1.chip.hits.length≤s.chip.hits.length
 calm:(∀ t∈s.chip.hits,t.fails=false)→(∀ t∈r.1.chip.hits,t.fails=false)∧r.1.chip.bad=s.chip.bad
 still:s.chip.hits=[]→r.1.chip.hits=[]∧r.2≠10
 bads:badsC s.chip≤badsC r.1.chip
 inv:Inv r.1.pool r.1.chip
theorem tidy_ok {s:LogS} {H:Nat} {b:Int} (h:LogOk s) (hfine:Fine s.chip.sz s.facts) (hH:s.chip.hits.length≤H) (hl:s.pool.last+s.chip.nb * (H+2) * (s.facts.length+2)<18446744073709551616):TidyOk s b H (s.tidy b):=by
 have hok:=h.well.ci.ok
 have hnb:=hok.nb1
 have hnp:=hok.np1
 have hask:s.chip.ask 0 0=0:=ask_ok (i:=0) (k:=0) h.alive (by omega) (by omega)
 unfold LogS.tidy
 rw [if_neg (by omega)]
 split
 ·rename_i hge
  exact ⟨.inl rfl,rfl,rfl,.refl _,h.well,fun h=>h,fun h=>h,Nat.le_refl _,Nat.le_refl _,Nat.le_add_right _ _,(fun h=>by cases h),fun _=>h,fun _=>hge,fun _ hr _=>⟨hr,(fun h=>by cases h)⟩,Nat.le_refl _,fun hc=>⟨hc,rfl⟩,fun hq=>⟨hq,(fun h=>by cases h)⟩,Nat.le_refl _,h.inv⟩
 have A:=anew_ok h hfine hH hl
 generalize s.anew=y at *
 have hroom:s.facts.length+2≤s.chip.np→Room s.chip→y.2≠10→Room y.1.chip∧(y.2=11→2≤badsC y.1.chip):=fun hq hr hne=>by
  have hn:=A.geo.1
  rcases hr with hr | hr
  ·rcases A.err with e | e | e
   ·have:=A.one hq e
    exact ⟨.inl (by omega),fun h=>by omega⟩
   ·exact absurd e hne
   ·have h1:=A.live hq e
    have hlog:=A.log hne
    have h2:=blocks_count hlog.inv hlog.alive
    rw [A.full e,A.geo.1] at h2
    exact ⟨.inr (by omega),fun _=>by omega⟩
  ·have:=Nat.le_trans hr A.bads
   exact ⟨.inr this,fun _=>this⟩
 split
 ·rename_i hne
  exact ⟨A.err,A.era,A.facts,A.geo,A.well,A.told,A.fine,A.low,A.lo,A.hi,A.dead,A.log,fun h0=>absurd h0 hne,fun hq hr hne=>⟨(hroom hq hr hne).1,fun h11=>.inl ((hroom hq hr hne).2 h11)⟩,A.hits,A.calm,A.still,A.bads,A.inv⟩
 ·rename_i hz
  have h0:y.2=0:=Classical.byContradiction hz
  have hne:y.2≠10:=by omega
  have hlog:=A.log hne
  split
  ·rename_i hlt
   refine ⟨.inr (.inr rfl),A.era,A.facts,A.geo,A.well,A.told,A.fine,A.low,A.lo,A.hi,(fun h=>by cases h),fun _=>hlog,(fun h=>by cases h),fun hq hr _=>⟨(hroom hq hr hne).1,fun _=>.inr ?_⟩,A.hits,A.calm,fun hq=>⟨(A.still hq).1,(fun h=>by cases h)⟩,A.bads,A.inv⟩
   have h1:=A.one hq h0
   have h2:=blocks_count hlog.inv hlog.alive
   have h3:=A.geo.1
   show (s.chip.nb:Int)<b+badsC y.1.chip+1
   omega
  ·rename_i hge
   exact ⟨.inl rfl,A.era,A.facts,A.geo,A.well,A.told,A.fine,A.low,A.lo,A.hi,(fun h=>by cases h),fun _=>hlog,fun _=>by show b≤(blanksPool y.1.pool y.1.chip:Int);omega,fun hq hr _=>⟨(hroom hq hr hne).1,(fun h=>by cases h)⟩,A.hits,A.calm,fun hq=>⟨(A.still hq).1,(fun h=>by cases h)⟩,A.bads,A.inv⟩
theorem newLog_ok {c:Chip} {era:Nat} (h:Well c era) (hd0:c.dead=false) (he1:1≤era) (he2:era<4294967296):LogOk (LogS.new c era) :=
 ⟨(scan_inv h.ci hd0).1,hd0,scanGo_turn c c.nb,he1,he2,h,.inl rfl⟩
theorem own_parts {c:Chip} (h:CI c) (hd0:c.dead=false) (era:Nat):partsC c era=(ownL era (takenPool (scanPool c) c)).map (partOf c):=by
 unfold partsC partsL ownL
 rw [heads_pool (scan_inv h hd0).1 hd0]
 rfl
theorem isBlank_pages {c:Chip} (ho:c.Ok) {i:Nat} (hi:i<c.nb) {k:Nat} (h:∀ j,k≤j→j<c.np→isBlank (c.page i j)=true):OpenFrom c i k:=by
 unfold OpenFrom isBlank
 rw [List.all_eq_true]
 intro x hx
 obtain ⟨m,hm,rfl⟩:=List.getElem_of_mem hx
 rw [List.getElem_drop]
 have hlen:=ho.blk_len hi
 rw [List.length_drop,hlen] at hm
 have hsz:=ho.sz1
 have hdiv:(k * c.sz+m) / c.sz<c.np:=(Nat.div_lt_iff_lt_mul (by omega)).2 (by omega)
 have hk:k≤(k * c.sz+m) / c.sz:=(Nat.le_div_iff_mul_le (by omega)).2 (by omega)
 have hp:=h _ hk hdiv
 unfold isBlank at hp
 rw [List.all_eq_true] at hp
 refine hp _ ?_
 have hmod:=Nat.mod_lt (k * c.sz+m) (show 0<c.sz by omega)
 have hsum:=Nat.div_add_mod (k * c.sz+m) c.sz
 have hmul:(k * c.sz+m) / c.sz * c.sz=c.sz * ((k * c.sz+m) / c.sz):=Nat.mul_comm _ _
 generalize (k * c.sz+m) / c.sz=D at *
 unfold Chip.page
 rw [List.mem_iff_getElem]
 refine ⟨(k * c.sz+m) % c.sz,by rw [List.length_take,List.length_drop,hlen];omega,?_⟩
 rw [List.getElem_take,List.getElem_drop]
 congr 1
 omega
theorem openPage_blank (c:Chip) (b:Nat):∀ k j,openPage c b k≤j→1≤j→j≤k→isBlank (c.page b j)=true
 | 0,j,_,h1,h2=>by omega
 | k+1,j,h,h1,h2=>by
  rw [openPage_succ] at h
  split at h
  ·rename_i hb
   by_cases e:j=k+1
   ·rw [e];exact hb
   ·exact openPage_blank c b k j h h1 (by omega)
  ·omega
theorem openPage_one (c:Chip) (b:Nat):∀ k,1≤openPage c b k
 | 0=>Nat.le_refl _
 | k+1=>by
  have:=openPage_one c b k
  rw [openPage_succ]
  split<;>omega
theorem open_ok {c:Chip} {era:Nat} (h:Well c era) (hd0:c.dead=false) (he1:1≤era) (he2:era<4294967296) :
  (partsC c era=[]∧(openL c era).2=16)∨(partsC c era≠[]∧(openL c era).2=0∧LogOk (openL c era).1∧(openL c era).1.facts=told (partsC c era)∧(openL c era).1.chip=c∧(openL c era).1.era=era∧(openL c era).1.pool=scanPool c):=by
 have hop:=own_parts h.ci hd0 era
 have hn:=newLog_ok h hd0 he1 he2
 have hrp:=readParts_eq h.ci hd0 (show era≠0 by omega)
 have hnp:=h.ci.ok.np1
 unfold openL
 rw [if_neg (by rw [hd0];decide),if_neg (by omega),hrp]
 generalize ho:ownL era (takenPool (scanPool c) c)=l at *
 rcases List.eq_nil_or_concat l with e | ⟨a,t,e⟩
 ·subst e
  exact .inl ⟨hop,rfl⟩
 ·rw [List.concat_eq_append] at e
  subst e
  right
  have hne:partsC c era≠[]:=by rw [hop];simp
  rw [List.getLast?_append]
  simp only [List.getLast?_singleton,Option.some_or]
  have htm:IsTaken c c.nb t:=by
   have:t∈ownL era (takenPool (scanPool c) c):=by rw [ho];simp
   exact (taken_mem hn.inv hd0 t).1 (List.mem_filter.1 this).1
  obtain ⟨t1,t2,t3,t4⟩:=htm
  refine ⟨hne,?_⟩
  split
  ·exact ⟨rfl,⟨hn.inv,hn.alive,hn.turn,hn.era1,hn.era2,hn.well,.inl rfl⟩,rfl,rfl,rfl,rfl⟩
  ·rename_i hb
   have hb':t.bad=false:=by simpa using hb
   refine ⟨rfl,⟨hn.inv,hn.alive,hn.turn,hn.era1,hn.era2,hn.well,.inr (.inr ⟨t.block,a.map (partOf c),[],partOf c t,⟨rfl,?_,rfl,(fun _ h=>by cases h),by rw [← hb'];exact t4.symm,openPage_one _ _ _,?_⟩⟩)⟩,rfl,rfl,rfl,rfl⟩
   ·show partsC c era=_
    rw [hop];simp
   ·refine isBlank_pages h.ci.ok t1 fun j hj hjn=>?_
    have h1:=openPage_one c t.block (c.np - 1)
    have hj':openPage c t.block (c.np - 1)≤j:=hj
    have hjn':j<c.np:=hjn
    exact openPage_blank c t.block (c.np - 1) j hj' (by omega) (by omega)
end Go.Den
namespace Go.Den
def Fierce (c:Chip):Prop:=c.dead=false∧∀ t∈c.hits,t.fails=true
theorem strike_fierce {c:Chip} (h:Fierce c):Fierce c.strike.1∧∀ t,c.strike.2=some t→t.fails=true:=by
 obtain ⟨s1,s2,s3,s4,s5,s6,s7,s8,s9⟩:=strike_same c
 exact ⟨⟨by rw [s6];exact h.1,fun t ht=>h.2 t (s7 t ht)⟩,fun t ht=>h.2 t (s8 t ht)⟩
theorem done_fierce {c:Chip} (h:Fierce c) (b off n:Nat) (new:List UInt8):Fierce (c.done b off n new).1:=by
 obtain ⟨h1,h2⟩:=strike_fierce h
 unfold Chip.done Chip.finish
 cases hs:c.strike.2 with
 | none=>exact h1
 | some t =>
  simp only
  rw [if_pos (h2 t hs)]
  exact h1
theorem program_fierce {c:Chip} (h:Fierce c) (i k:Int) (b:List UInt8):Fierce (c.program i k b).1:=by
 unfold Chip.program
 split
 ·exact h
 ·split
  ·exact h
  ·split
   ·exact h
   ·split
    ·exact h
    ·exact done_fierce h _ _ _ _
theorem erase_fierce {c:Chip} (h:Fierce c) (i:Int):Fierce (c.erase i).1:=by
 unfold Chip.erase
 split
 ·exact h
 ·split
  ·exact h
  ·exact done_fierce h _ _ _ _
theorem try_fierce {P:Pool} {c:Chip} (h:Fierce c) (i:Nat) (kind:UInt8) (era:Nat):Fierce (tryBlk P c i kind era).2.1:=by
 unfold tryBlk
 split
 ·split
  ·exact erase_fierce h _
  ·exact program_fierce (erase_fierce h _) _ _ _
 ·exact program_fierce h _ _ _
theorem takeGo_fierce (kind:UInt8) (era:Nat):∀ (ks:List Nat) {P:Pool} {c:Chip},Fierce c→Fierce (takeGo kind era P c ks).chip
 | [],P,c,h=>h
 | k :: ks,P,c,h=>by
  unfold takeGo
  split
  ·exact takeGo_fierce kind era ks h
  ·have h1:=try_fierce (P:=P) h ((P.turn+k) % c.nb) kind era
   split
   ·exact h1
   ·split
    ·exact h1
    ·exact takeGo_fierce kind era ks h1
theorem takePool_fierce {P:Pool} {c:Chip} (h:Fierce c) (kind:UInt8) (era:Nat):Fierce (takePool P c kind era).chip:=by
 unfold takePool
 split
 ·exact h
 ·split
  ·exact h
  ·exact takeGo_fierce _ _ _ h
theorem freePool_fierce {P:Pool} {c:Chip} (h:Fierce c) (i:Int):Fierce (freePool P c i).2.1:=by
 unfold freePool
 split
 ·exact h
 ·exact erase_fierce h _
namespace LogS
theorem take_fierce {s:LogS} (h:Fierce s.chip):Fierce s.take.1.chip:=by
 unfold LogS.take
 simp only
 split<;>exact takePool_fierce h _ _
theorem write_fierce (b:List UInt8):∀ (n:Nat) {s:LogS},Fierce s.chip→Fierce (s.write b n).1.chip
 | 0,s,h=>h
 | n+1,s,h=>by
  rw [LogS.write_step]
  have hy:Fierce (if s.block= -1∨s.page≥s.chip.np then s.take else (s,0)).1.chip:=by
   split
   ·exact take_fierce h
   ·exact h
  generalize (if s.block= -1∨s.page≥s.chip.np then s.take else (s,0))=y at *
  split
  ·exact hy
  ·split
   ·exact program_fierce hy _ _ _
   ·exact write_fierce b n (program_fierce hy _ _ _)
theorem writeAll_fierce:∀ (l:List (List UInt8)) {s:LogS},Fierce s.chip→Fierce (writeAll l s).1.chip
 | [],s,h=>h
 | b :: l,s,h=>by
  show Fierce (if (s.write b s.fuel).2≠0 then s.write b s.fuel else writeAll l (s.write b s.fuel).1).1.chip
  have h1:=write_fierce b s.fuel h
  split
  ·exact h1
  ·exact writeAll_fierce l h1
theorem freeAll_fierce (first:Nat):∀ (l:List Taken) {s:LogS},Fierce s.chip→Fierce (freeAll first l s).1.chip
 | [],s,h=>h
 | x :: l,s,h=>by
  have hs:LogS.freeAll first (x :: l) s=(if x.head.seq≥first∨x.bad=true then LogS.freeAll first l s else if (freePool s.pool s.chip x.block).2.2≠0 then ({ s with pool:=(freePool s.pool s.chip x.block).1,chip:=(freePool s.pool s.chip x.block).2.1 },(freePool s.pool s.chip x.block).2.2) else LogS.freeAll first l { s with pool:=(freePool s.pool s.chip x.block).1,chip:=(freePool s.pool s.chip x.block).2.1 }):=rfl
  rw [hs]
  split
  ·exact freeAll_fierce first l h
  ·split
   ·exact freePool_fierce h _
   ·exact freeAll_fierce first l (freePool_fierce h _)
theorem anew_fierce {s:LogS} (h:Fierce s.chip):Fierce s.anew.1.chip:=by
 rw [LogS.anew_eq]
 have ht:=take_fierce h
 split
 ·exact h
 ·split
  ·exact ht
  ·have hw:=writeAll_fierce ((packF s.chip.sz s.facts).1 ++ [(putDropB s.chip.sz s.take.1.pool.last).1]) ht
   split
   ·exact hw
   ·exact freeAll_fierce _ _ hw
theorem put_fierce {s:LogS} (h:Fierce s.chip) (cs:List Change):Fierce (s.put cs).1.chip:=by
 rw [LogS.put_eq]
 split
 ·exact h
 ·split
  ·exact h
  ·have hy:Fierce (if s.low (applyF s.facts cs).length then s.anew else (s,0)).1.chip:=by
    split
    ·exact anew_fierce h
    ·exact h
   generalize (if s.low (applyF s.facts cs).length then s.anew else (s,0))=y at *
   split
   ·exact hy
   ·have hw:=write_fierce (putL s.chip.sz cs).1 y.1.fuel hy
    split
    ·exact hw
    ·exact hw
theorem tidy_fierce {s:LogS} (h:Fierce s.chip) (n:Int):Fierce (s.tidy n).1.chip:=by
 have ha:=anew_fierce h
 unfold LogS.tidy
 split
 ·exact h
 ·split
  ·exact h
  ·split
   ·exact ha
   ·split<;>exact ha
end LogS
end Go.Den
namespace Go.Den
theorem ListAt.push2 {α:Type} {r:ERep α} {Q:Nat→Prop} {S:Nat} {w₀ w₁:World} {H:Nat→Prop} {a:Option Addr} {cap n bytes:Nat} {e:TypeId} {l:List α} {z:List Value} (h:ListAt r Q S w₁ a cap e l) {B:Nat} {x:α} {cs:Array Value} (hx:r.R w₁ H cs.toList x)
  (hH:∀ b,H b→(S≤b∨Q b)∧b<w₁.heap.size∧a≠some ⟨b,0,none⟩) (hn:New w₀ (.cells cs e) B w₁) (hnl:n=l.length)
  (hz:z.length=r.k) (hb:(l.length+1+(l.length+1) / 4+512) * bytes≤281474976710656) (hb2:l.length≤4000000000000000000) (hS:S≤w₁.heap.size) {K:Option Addr→Nat→Nat→World→Prop}
  (hk:∀ a' c' w',Upd (fun b=>a=some ⟨b,0,none⟩) w₁ w'→ListAt r Q S w' a' c' e (l ++ [x])→K a' (l ++ [x]).length c' w') :
  appendP e r.k bytes z a n cap (.slice (some ⟨B,0,none⟩) 1 1) w₁ K:=by
 subst hnl
 obtain ⟨G,⟨vs,ho,hr⟩,h2,h3⟩:=h
 have hl:=r.len hx
 have hG:∀ b,G b∨H b→(S≤b∨Q b)∧b<w₁.heap.size:=fun b hb=>by
  rcases hb with hb | hb
  ·exact h2 b hb
  ·exact ⟨(hH b hb).1,(hH b hb).2.1⟩
 have hno:∀ b,a=some ⟨b,0,none⟩→¬ (G b∨H b):=fun b hb hb'=>by
  rcases hb' with hb' | hb'
  ·exact (h3 b hb).2 hb'
  ·exact (hH b hb').2.2 hb
 have hrow:RowAt w₁ (some ⟨B,0,none⟩) cs.toList:=RowAt.of hn.get fun j v hj=>by simpa using hj
 refine append_own' ho rfl (read_row hrow (by rw [hl];omega)) (by rw [hl];omega) (r.one hx) hz (fun hg=>Nat.le_trans (Nat.mul_le_mul_right _ (nextcap_fine hg)) hb) (by omega) fun a' c' w' hu ho' hf=>?_
 have hrows:Rows r w' (fun b=>G b∨H b) (vs ++ cs.toList) (l ++ [x]):=Rows.upd hu (fun b hb hb'=>hno b hb' hb) ((Rows.mono (fun _ hb=>.inl hb) hr).append (Rows.single (r.mono hx fun _ hb=>.inr hb)))
 have:=hk a' c' w' hu ⟨_,⟨_,by simpa using ho',hrows⟩,fun b hb=>⟨(hG b hb).1,Nat.lt_of_lt_of_le (hG b hb).2 hu.size⟩,fun b hb=>?_⟩
 ·simpa using this
 ·rcases hf with hf | ⟨b',hb',hl'⟩
  ·subst hf;exact ⟨(h3 b hb).1,hno b hb⟩
  ·rw [hb'] at hb
   cases hb
   exact ⟨Nat.le_trans hS hl',fun hb=>absurd (hG _ hb).2 (by omega)⟩
structure FitsC (l:List Change):Prop where
 len:l.length * 72≤140737488351232
 vals:∀ x∈l,x.val.length≤140737488355232
theorem carrackref00_Copy_own {w:World} {a:Option Addr} {l:List UInt8} {c:Nat} (h:BytesAt w a l) (hn:l.length≤140737488355232) :
  CallsR prog K.carrackref00_Copy #[.slice a l.length c] w fun v w'=>∃ a' c',v= .slice a' l.length c'∧OwnB w' a' c' l∧Fresh w a'∧Ext w w':=by
 apply carrackref00_Copy.sh
 unfold carrackref00_Copy.body
 refine append_fresh (.inl rfl) h hn fun a' c' w' hu ho hf=>?_
 refine ⟨a',c',rfl,ho,?_,hu.mono fun b _ hb=>by cases hb⟩
 rcases hf with hf | ⟨b,hb,hs⟩
 ·rw [hf];exact Fresh.none _
 ·rw [hb];exact Fresh.some hs
theorem carrackref00_CopyChanges_own {w:World} {G:Nat→Prop} {a:Option Addr} {c:Nat} {l:List Change} (h:SliceAt changeR w G a l) (hG:∀ b,G b→b<w.heap.size) (hf:FitsC l) :
  CallsR prog K.carrackref00_CopyChanges #[.slice a l.length c] w fun v w'=>∃ a' c',v= .slice a' l.length c'∧ListAt changeF NoB w.heap.size w' a' c' T.api_Change l∧Ext w w':=by
 apply carrackref00_CopyChanges.sh
 unfold carrackref00_CopyChanges.body
 have hlen:=hf.len
 refine ⟨fun a1 l1 c1 x u=>∃ i:Nat,x=i∧i≤l.length∧l1=i∧ListAt changeF NoB w.heap.size u a1 c1 T.api_Change (l.take i)∧Ext w u,fun _ _ _ x _=>((l.length:Int) - x).toNat,⟨0,rfl,by omega,rfl,by simpa using ListAt.nil _ _,Upd.refl _ _⟩,?_⟩
 rintro a1 l1 c1 x u ⟨i,rfl,hi,rfl,hl,heu⟩
 refine br_dec (fun hlt=>?_) fun hge=>?_
 ·have hi':l1<l.length:=by omega
  intro w2 hd2
  have e2:=heu.trans hd2.upd
  have hs2:=e2.size
  have h2:=h.ext e2
  have hl2:=hl.ext hd2.upd
  have ha1:∀ b,a1=some ⟨b,0,none⟩→w.heap.size≤b∧b<w2.heap.size:=fun b hb=>by
   refine ⟨?_,hl2.lt hb⟩
   obtain ⟨_,_,_,h3⟩:=hl2
   exact (h3 b hb).1
  refine ⟨fun v=>Upd (fun b=>a1=some ⟨b,0,none⟩) w2 v,Upd.refl _ _,?_⟩
  have keep:∀ {b o:Nat} {vs:List Value} {v:World},RowAt w2 (some ⟨b,o,none⟩) vs→G b→Upd (fun b=>a1=some ⟨b,0,none⟩) w2 v→RowAt v (some ⟨b,o,none⟩) vs:=fun hr hg hv=>RowAt.upd hr hv fun p hp hx=>by
   cases hp
   have:=hG _ hg
   have:=ha1 _ hx
   simp only at this
   omega
  refine SliceAt.idx (r:=changeR) h2 rfl hi' fun b1 o1 vs1 _ hrow hR hg=>?_
  obtain ⟨_,_,rfl,_,_,_⟩:=changeR_elim hR
  refine ⟨_,_,_,_,fun u1 hu1=>(RowAt.take (keep hrow hg hu1) 4).cells,SliceAt.idx (r:=changeR) h2 rfl hi' fun b2 o2 vs2 _ hrow2 hR2 hg2=>?_⟩
  obtain ⟨av,cv,rfl,_,hbv,_⟩:=changeR_elim hR2
  refine ⟨av,l[l1].val.length,cv,fun u1 hu1=>?_,SliceAt.idx (r:=changeR) h2 rfl hi' fun b3 o3 vs3 _ hrow3 hR3 hg3=>?_⟩
  ·obtain ⟨_,_,e,g⟩:=((keep hrow2 hg2 hu1).drop 4).cell (i:=0) (v:=.slice av l[l1].val.length cv) rfl
   cases e
   exact g
  obtain ⟨_,_,rfl,_,_,_⟩:=changeR_elim hR3
  refine ⟨l[l1].gone,fun u1 hu1=>?_,(carrackref00_Copy_own hbv (hf.vals _ (List.getElem_mem hi'))).mono ?_⟩
  ·obtain ⟨_,_,e,g⟩:=((keep hrow3 hg3 hu1).drop 5).cell (i:=0) (v:=.bool l[l1].gone) rfl
   cases e
   exact g
  rintro _ w3 ⟨a3,c3,rfl,ho3,hf3,he3⟩
  refine ⟨_,_,_,rfl,Upd.ext he3,fun B w4 hn4=>⟨Upd.ext (he3.trans hn4.upd),?_⟩⟩
  have e4:=he3.trans hn4.upd
  have hs3:=he3.size
  have hs4:=hn4.size
  have hl4:=hl2.ext e4
  have ho4:=ho3.ext hn4.upd
  have hil:(l.take l1).length=l1:=by rw [List.length_take];omega
  have ew:IntKind.i64.wrap ((l1:Int)+1)=((l1+1:Nat):Int):=w64 (by omega) (by omega)
  rw [ew]
  refine ListAt.push2 (r:=changeF) (H:=fun b=>a3=some ⟨b,0,none⟩) (x:=l[l1]) hl4 (changeF_intro ho4 fun p hp=>ho4.at_ hp) (fun b hb=>⟨.inl ?_,ho4.blk hb,fun hab=>?_⟩) hn4 hil.symm rfl (by rw [hil];omega) (by rw [hil];omega) (by omega) fun a' c' w5 hu5 hl5=>?_
  ·have h5:w2.heap.size≤b:=hf3 _ hb
   omega
  ·have h5:w2.heap.size≤b:=hf3 _ hb
   have:=ha1 b hab
   omega
  have htk:l.take l1 ++ [l[l1]]=l.take (l1+1):=(List.take_succ_eq_append_getElem hi').symm
  rw [htk] at hl5 ⊢
  have hl1:(l.take (l1+1)).length=l1+1:=by rw [List.length_take];omega
  rw [hl1]
  exact ⟨(Upd.ext e4).trans hu5,⟨l1+1,rfl,hi',rfl,hl5,(e2.trans e4).beyond hu5 fun b hb=>(ha1 b hb).1⟩,meas hi'⟩
 ·have:l1=l.length:=by omega
  subst this
  rw [List.take_length] at hl
  exact ⟨_,_,rfl,hl,heu⟩
theorem carrackref00_CopyChanges_spec {w:World} {G:Nat→Prop} {a:Option Addr} {c:Nat} {l:List Change} (h:SliceAt changeR w G a l) (hG:∀ b,G b→b<w.heap.size) (hf:FitsC l) :
  CallsR prog K.carrackref00_CopyChanges #[.slice a l.length c] w fun v w'=>∃ a' c',v= .slice a' l.length c'∧ListAt changeR NoB w.heap.size w' a' c' T.api_Change l∧Ext w w' :=
 (carrackref00_CopyChanges_own h hG hf).mono fun _ _ ⟨a',c',e,hl,he⟩=>⟨a',c',e,hl.toWeak (fun _ _ _ _=>changeF_weak) rfl,he⟩
theorem OwnS.part {α:Type} {r:ERep α} {w:World} {G:Nat→Prop} {b cap:Nat} {e:TypeId} {l:List α} (h:OwnS r w G (some ⟨b,0,none⟩) cap e l) (hG:¬ G b) {i:Nat} (hi:i<l.length) {o:Nat} {us:List Value} (ho:o+us.length≤r.k) {x:α}
  (hx:∀ vs,vs.length=r.k→r.R w G vs l[i]→r.R w G (vs.take o ++ us ++ vs.drop (o+us.length)) x) {K:World→Prop}
  (hk:∀ w',Upd (·=b) w w'→OwnS r w' G (some ⟨b,0,none⟩) cap e (l.set i x)→K w'):storeP w ⟨b,i * r.k+o,none⟩ us K:=by
 obtain ⟨vs,hown,hr⟩:=h
 have hvl:=Rows.len hr
 have hin:i * r.k+r.k≤l.length * r.k:=by
  have:=Nat.mul_le_mul_right r.k (show i+1≤l.length from hi)
  rwa [Nat.succ_mul] at this
 have hgl:((vs.drop (i * r.k)).take r.k).length=r.k:=by rw [List.length_take,List.length_drop];omega
 have hnew:=hx _ hgl (hr.get hi)
 have hset:=hr.set hi hnew
 refine own_store hown (by omega) fun w' hu ho'=>hk w' hu ⟨vs.take (i * r.k+o) ++ us ++ vs.drop (i * r.k+o+us.length),?_,?_⟩
 ·rw [List.length_set];exact ho'
 ·have hrow:=Rows.upd hu (fun b' hb hb'=>hG (by subst hb';exact hb)) hset
  have e1:vs.take (i * r.k) ++ (((vs.drop (i * r.k)).take r.k).take o ++ us ++ ((vs.drop (i * r.k)).take r.k).drop (o+us.length)) ++ vs.drop (i * r.k+r.k)=vs.take (i * r.k+o) ++ us ++ vs.drop (i * r.k+o+us.length):=by
   rw [List.take_take,Nat.min_eq_left (by omega),List.take_add,List.drop_take,List.drop_drop]
   have e2:(vs.drop (i * r.k+(o+us.length))).take (r.k - (o+us.length)) ++ vs.drop (i * r.k+r.k)=vs.drop (i * r.k+o+us.length):=by
    have e3:vs.drop (i * r.k+r.k)=(vs.drop (i * r.k+(o+us.length))).drop (r.k - (o+us.length)):=by rw [List.drop_drop];congr 1;omega
    rw [e3,List.take_append_drop,Nat.add_assoc]
   rw [← e2]
   simp only [List.append_assoc]
  rw [e1] at hrow
  exact hrow
def smallK (k:Key):Key:=if k.what=2 then ⟨1+k.ino % 2,1,ByteArray.empty,0⟩ else ⟨1+k.ino % 2,k.what,k.name,k.chunk % 2⟩
def smallC (c:Change):Change:={ c with key:=smallK c.key }
theorem par_wrap (x:Int):IntKind.i64.wrap (Int.tmod (IntKind.u64.wrap x) 2)=x % 2:=by
 have hu:IntKind.u64.wrap x=x % 18446744073709551616:=rfl
 have h0:=Int.emod_nonneg x (show (18446744073709551616:Int)≠0 by decide)
 have h1:Int.tmod (x % 18446744073709551616) 2=(x % 18446744073709551616) % 2:=Int.tmod_eq_emod_of_nonneg h0
 rw [hu,h1,w64 (by omega) (by omega)]
 omega
theorem changeR_ino {w:World} {G:Nat→Prop} {vs:List Value} {x:Change} (h:changeR.R w G vs x) (n:Int):changeR.R w G (vs.take 0 ++ [.int .i64 n] ++ vs.drop (0+1)) { x with key:={ x.key with ino:=n } }:=by
 obtain ⟨a,c,rfl,h1,h2,h3⟩:=changeR_elim h
 exact changeR_intro (x:={ x with key:={ x.key with ino:=n } }) h1 h2 h3
theorem changeR_chunk {w:World} {G:Nat→Prop} {vs:List Value} {x:Change} (h:changeR.R w G vs x) (n:Int):changeR.R w G (vs.take 3 ++ [.int .i64 n] ++ vs.drop (3+1)) { x with key:={ x.key with chunk:=n } }:=by
 obtain ⟨a,c,rfl,h1,h2,h3⟩:=changeR_elim h
 exact changeR_intro (x:={ x with key:={ x.key with chunk:=n } }) h1 h2 h3
theorem changeR_key {w:World} {G:Nat→Prop} {vs:List Value} {x:Change} (h:changeR.R w G vs x) (k:Key):changeR.R w G (vs.take 0 ++ k.vals ++ vs.drop (0+4)) { x with key:=k }:=by
 obtain ⟨a,c,rfl,h1,h2,h3⟩:=changeR_elim h
 exact changeR_intro (x:={ x with key:=k }) h1 h2 h3
theorem carracklaw14_small_spec {w:World} {G:Nat→Prop} {a:Option Addr} {c:Nat} {l:List Change} (h:SliceAt changeR w G a l) (hG:∀ b,G b→b<w.heap.size) (hf:FitsC l) :
  CallsR prog K.carracklaw14_small #[.slice a l.length c] w fun v w'=>∃ a' c',v= .slice a' (l.map smallC).length c'∧ListAt changeR NoB w.heap.size w' a' c' T.api_Change (l.map smallC)∧Ext w w':=by
 apply carracklaw14_small.sh
 suffices H:∀ R:Value→World→Prop,(∀ v w',(∃ a' c',v= .slice a' (l.map smallC).length c'∧ListAt changeR NoB w.heap.size w' a' c' T.api_Change (l.map smallC)∧Ext w w')→R v w')→carracklaw14_small.body a l.length c w R from H _ fun _ _ h=>h
 intro R hR
 unfold carracklaw14_small.body
 have hlen:=hf.len
 refine (carrackref00_CopyChanges_spec h hG hf).mono ?_
 rintro _ w1 ⟨a1,c1,rfl,hl1,he1⟩
 refine ⟨_,_,_,rfl,?_⟩
 refine ⟨fun x u=>∃ i:Nat,x=i∧i≤l.length∧ListAt changeR NoB w.heap.size u a1 c1 T.api_Change ((l.take i).map smallC ++ l.drop i)∧Ext w u,fun x _=>((l.length:Int) - x).toNat,⟨0,rfl,by omega,by simpa using hl1,he1⟩,?_⟩
 rintro x u ⟨i,rfl,hi,hl,heu⟩
 refine br_dec (fun hlt=>?_) fun hge=>?_
 ·have hi':i<l.length:=by omega
  have hml:((l.take i).map smallC ++ l.drop i).length=l.length:=by simp;omega
  have hget:((l.take i).map smallC ++ l.drop i)[i]'(by omega)=l[i]:=by
   rw [List.getElem_append_right (by simp;omega)]
   simp [Nat.min_eq_left hi]
  have hsets:∀ y,((l.take i).map smallC ++ l.drop i).set i y=(l.take i).map smallC ++ y :: l.drop (i+1):=fun y=>by
   have e0:i - ((l.take i).map smallC).length=0:=by simp;omega
   rw [List.set_append_right _ _ (by simp;omega),e0,List.drop_eq_getElem_cons hi']
   rfl
  have hend:(l.take (i+1)).map smallC ++ l.drop (i+1)=(l.take i).map smallC ++ smallC l[i] :: l.drop (i+1):=by
   rw [List.take_succ_eq_append_getElem hi',List.map_append,List.append_assoc];rfl
  obtain ⟨Gl,ho,hg1,hg2⟩:=hl
  obtain ⟨b,rfl⟩: ∃ b,a1=some ⟨b,0,none⟩:=by
   obtain ⟨_,⟨_,_,hx⟩,_⟩:=ho
   rcases hx with ⟨_,h0,_⟩| ⟨b,_,hx,_⟩
   ·omega
   ·exact ⟨b,hx⟩
  obtain ⟨hSb,hGb⟩:=hg2 b rfl
  have ew:IntKind.i64.wrap ((i:Int)+1)=((i+1:Nat):Int):=w64 (by omega) (by omega)
  rw [ew]
  have at_:∀ {K:Addr→Prop},K ⟨b,i * 6,none⟩→idxP (some ⟨b,0,none⟩) l.length (i:Int) 6 K:=fun {K} hK=>by
   refine ⟨by omega,by omega,?_⟩
   simp only [nilC_some',add_lit,Int.toNat_natCast,Nat.zero_add]
   exact hK
  have read:∀ {v:World} {m:List Change},OwnS changeR v Gl (some ⟨b,0,none⟩) c1 T.api_Change m→(hm:i<m.length)→∃ av cv,RowAt v (some ⟨b,i * 6,none⟩) (changeVs m[i].key av m[i].val.length cv m[i].gone):=fun {v m} hov hm=>by
   obtain ⟨vs,o1,o2⟩:=hov
   have h1:=(o1.row.drop (i * changeR.k)).take changeR.k
   obtain ⟨av,cv,e,_⟩:=changeR_elim (o2.get hm)
   rw [e,Nat.zero_add] at h1
   exact ⟨av,cv,h1⟩
  have fin:∀ (v:World) (m:List Change),OwnS changeR v Gl (some ⟨b,0,none⟩) c1 T.api_Change m→m=(l.take (i+1)).map smallC ++ l.drop (i+1)→u.heap.size≤v.heap.size→Ext w v→∃ i':Nat,((i+1:Nat):Int)=i'∧i'≤l.length∧ListAt changeR NoB w.heap.size v (some ⟨b,0,none⟩) c1 T.api_Change ((l.take i').map smallC ++ l.drop i')∧Ext w v:=fun v m hov hm hsz hev =>
   ⟨i+1,rfl,hi',⟨Gl,by rw [← hm];exact hov,fun x hx=>⟨(hg1 x hx).1,Nat.lt_of_lt_of_le (hg1 x hx).2 hsz⟩,hg2⟩,hev⟩
  obtain ⟨av0,cv0,hrow0⟩:=read ho (by omega)
  rw [hget] at hrow0
  refine at_ ⟨l[i].key.ino,?_,by decide,at_ ?_⟩
  ·obtain ⟨_,_,e,g⟩:=hrow0.cell (i:=0) (v:=.int .i64 l[i].key.ino) rfl
   cases e
   exact g
  rw [par_wrap,w64 (by omega) (by omega)]
  refine OwnS.part (r:=changeR) (o:=0) ho hGb (by omega) (by show 0+1≤6;decide) (x:={ l[i] with key:={ l[i].key with ino:=1+l[i].key.ino % 2 } }) (fun vs _ hR=>by rw [hget] at hR;exact changeR_ino hR _) fun w3 hu3 ho3=>?_
  rw [hsets] at ho3
  have hs3:=hu3.size
  have e3:=heu.beyond hu3 fun x hx=>by rw [hx];exact hSb
  have hm3:((l.take i).map smallC ++ { l[i] with key:={ l[i].key with ino:=1+l[i].key.ino % 2 } } :: l.drop (i+1)).length=l.length:=by simp;omega
  have hget3:∀ y:Change,((l.take i).map smallC ++ y :: l.drop (i+1))[i]'(by simp;omega)=y:=fun y=>by
   rw [List.getElem_append_right (by simp;omega)]
   simp [Nat.min_eq_left hi]
  have hsets3:∀ y z:Change,((l.take i).map smallC ++ z :: l.drop (i+1)).set i y=(l.take i).map smallC ++ y :: l.drop (i+1):=fun y z=>by
   have e0:i - ((l.take i).map smallC).length=0:=by simp;omega
   rw [List.set_append_right _ _ (by simp;omega),e0]
   rfl
  obtain ⟨av3,cv3,hrow3⟩:=read ho3 (by omega)
  rw [hget3] at hrow3
  refine at_ ⟨l[i].key.what.toNat,?_,br_eq (fun hw=>?_) fun hw=>?_⟩
  ·obtain ⟨_,_,e,g⟩:=hrow3.cell (i:=1) (v:=bv l[i].key.what) rfl
   cases e
   exact g
  ·have hw':l[i].key.what=2:=kind_is (n:=2) (by decide) hw
   refine at_ ⟨1+l[i].key.ino % 2,?_,at_ ?_⟩
   ·obtain ⟨_,_,e,g⟩:=hrow3.cell (i:=0) (v:=.int .i64 (1+l[i].key.ino % 2)) rfl
    cases e
    exact g
   refine OwnS.part (r:=changeR) (o:=0) ho3 hGb (by omega) (by show 0+4≤6;decide) (x:={ l[i] with key:=⟨1+l[i].key.ino % 2,1,ByteArray.empty,0⟩ }) (fun vs _ hR=>by rw [hget3] at hR;exact changeR_key hR ⟨1+l[i].key.ino % 2,1,ByteArray.empty,0⟩) fun w4 hu4 ho4=>?_
   rw [hsets3] at ho4
   have hs4:=hu4.size
   have e4:=e3.beyond hu4 fun x hx=>by rw [hx];exact hSb
   obtain ⟨av4,cv4,hrow4⟩:=read ho4 (by simp;omega)
   rw [hget3] at hrow4
   refine at_ ⟨0,?_,by decide,at_ ?_⟩
   ·obtain ⟨_,_,e,g⟩:=hrow4.cell (i:=3) (v:=.int .i64 0) rfl
    cases e
    exact g
   have ez:IntKind.i64.wrap (Int.tmod (IntKind.u64.wrap 0) 2)=0:=by decide
   rw [ez]
   refine OwnS.part (r:=changeR) (o:=3) ho4 hGb (by simp;omega) (by show 3+1≤6;decide) (x:=smallC l[i]) (fun vs _ hR=>?_) fun w5 hu5 ho5=>?_
   ·rw [hget3] at hR
    have:=changeR_chunk hR 0
    unfold smallC smallK
    rw [if_pos hw']
    exact this
   rw [hsets3] at ho5
   have hs5:=hu5.size
   exact ⟨fin w5 _ ho5 hend.symm (by omega) (e4.beyond hu5 fun x hx=>by rw [hx];exact hSb),meas hi'⟩
  ·have hw':¬ l[i].key.what=2:=fun e=>hw (by rw [e];rfl)
   refine at_ ⟨l[i].key.chunk,?_,by decide,at_ ?_⟩
   ·obtain ⟨_,_,e,g⟩:=hrow3.cell (i:=3) (v:=.int .i64 l[i].key.chunk) rfl
    cases e
    exact g
   rw [par_wrap]
   refine OwnS.part (r:=changeR) (o:=3) ho3 hGb (by omega) (by show 3+1≤6;decide) (x:=smallC l[i]) (fun vs _ hR=>?_) fun w5 hu5 ho5=>?_
   ·rw [hget3] at hR
    have:=changeR_chunk hR (l[i].key.chunk % 2)
    unfold smallC smallK
    rw [if_neg hw']
    exact this
   rw [hsets3] at ho5
   have hs5:=hu5.size
   exact ⟨fin w5 _ ho5 hend.symm (by omega) (e3.beyond hu5 fun x hx=>by rw [hx];exact hSb),meas hi'⟩
 ·have:i=l.length:=by omega
  subst this
  rw [List.take_length,List.drop_length,List.append_nil] at hl
  have hmm:l.length=(l.map smallC).length:=by simp
  refine hR _ _ ⟨_,_,by rw [hmm],hl,heu⟩
def zeroChip:Array Value:=#[Value.int .i64 0,Value.int .i64 0,Value.int .i64 0,Value.int .i64 0,Value.slice none 0 0,Value.slice none 0 0,Value.slice none 0 0,Value.int .i64 0,Value.bool false,Value.int .i64 0]
section
abbrev NilLog (u:World) (p:Option Addr):Prop:=p=none∨∃ B,p=some ⟨B,0,none⟩∧u.heap[B]?=some (.cells #[.pointer none,.int .u32 0,.slice none 0 0,.int .i64 0,.int .i64 0] T.log_Log (0,0))
theorem NilLog.ext {u u':World} {p:Option Addr} (h:NilLog u p) (k:Ext u u'):NilLog u' p:=by
 rcases h with h | ⟨B,h1,h2⟩
 ·exact .inl h
 ·exact .inr ⟨B,h1,Ext.get k h2⟩
abbrev ZeroChip (u:World) (p:Option Addr):Prop:=p=none∨∃ B,p=some ⟨B,0,none⟩∧u.heap[B]?=some (.cells zeroChip T.nand_Chip (0,0))
theorem ZeroChip.ext {u u':World} {p:Option Addr} (h:ZeroChip u p) (k:Ext u u'):ZeroChip u' p:=by
 rcases h with h | ⟨B,h1,h2⟩
 ·exact .inl h
 ·exact .inr ⟨B,h1,Ext.get k h2⟩
section
variable {u:World} {p:Option Addr}
end
def room14 (sp:Nat):LogS×Nat:=makeL (newChip 16 8 128 sp) 3
theorem room14_ok:(room14 0).2=0∧(room14 1).2=0:=by decide +kernel
theorem room14_fit {sp:Nat} (h:sp≤1):(room14 sp).2=0∧(room14 sp).1.facts=[]∧(room14 sp).1.era=3∧(newChip 16 8 128 sp).SameGeo (room14 sp).1.chip∧(room14 sp).1.Fit:=by
 obtain ⟨k,f⟩:=makeL_keeps (c:=newChip 16 8 128 sp) (era:=3) (by show (16:Nat)<20;decide) (by show (8:Nat)≤32;decide) (by show sp≤4;omega)
 have hl:makeL (newChip 16 8 128 sp) 3=room14 sp:=rfl
 rw [hl] at k f
 refine ⟨?_,k.facts,k.era,k.geo,f⟩
 have h01:sp=0∨sp=1:=by omega
 rcases h01 with rfl | rfl
 ·exact room14_ok.1
 ·exact room14_ok.2
def RoomAt (A:Nat) (w:World) (B:Nat) (p q:Nat) (fv:Value) (F X:Nat→Prop) (M:PLoc) (s:LogS):Prop :=
 w.heap[B]?=some (.cells #[.pointer (some ⟨p,0,none⟩),.pointer (some ⟨q,0,none⟩),fv] T.carracklaw14_room (0,0))∧M.p=p∧LogIn F X w q M s∧
 (∀ x,F x→A≤x∧x<w.heap.size∧x≠B)∧(∀ x,X x→A≤x∧x<w.heap.size∧x≠B)∧A≤q∧q≠B∧A≤B
theorem carracklaw14_begun_spec (sp:UInt8) (w:World):CallsR prog K.carracklaw14_begun #[bv sp] w fun v w'=>Ext w w'∧∃ B p q F X M,v= .tuple #[.pointer (some ⟨B,0,none⟩),.bool true]∧RoomAt w.heap.size w' B p q (.slice none 0 0) F X M (room14 (sp.toNat % 2)).1:=by
 apply carracklaw14_begun.sh
 unfold carracklaw14_begun.body
 refine (carracklaw14_geo_spec sp w).mono ?_
 rintro _ w1 ⟨rfl,he1⟩
 have hs:=sp.toNat_lt
 have hs1:=he1.size
 refine ⟨_,_,_,_,rfl,(cxNew w1 (nb:=16) (np:=8) (sz:=128) (sp:=sp.toNat % 2) (by omega) (by omega) (by omega) (by omega) (by omega) (by omega) (by omega)).mono ?_⟩
 rintro _ w2 ⟨he2,p,rfl,hc2⟩
 have hs2:=he2.size
 have hsp:sp.toNat % 2≤1:=by omega
 generalize sp.toNat % 2=n at *
 obtain ⟨h0,_⟩:=room14_fit hsp
 refine ⟨_,_,rfl,(log_Make_spec hc2 (fun x hx=>hx.2) (fun x hx=>hx.2) (by show (16:Nat)<20;decide) (by show (8:Nat)≤32;decide) (by show n≤4;omega) (by decide)).mono ?_⟩
 rintro _ w3 ⟨hu3,_,hv⟩
 have hl:makeL (newChip 16 8 128 n) 3=room14 n:=rfl
 rw [hl] at hv
 obtain ⟨M,q,hM,rfl,hq1,hq2,X,_,hX,h3⟩:=hv h0
 have hs3:=hu3.size
 have e3:Ext w w3:=(he1.trans he2).beyond hu3 fun x hx=>by have:=hx.1;omega
 refine ⟨_,_,rfl,?_⟩
 intro B w4 hn4
 have hB:=hn4.num
 have hs4:=hn4.size
 refine br_eq (fun _=>br_eq (fun _=>⟨e3.trans hn4.upd,B,p,q,_,X,M,rfl,hn4.get,hM,h3.ext hn4.upd,fun x hx=>?_,fun x hx=>?_,by omega,by omega,by omega⟩) fun h=>absurd rfl h) fun h=>absurd rfl h
 ·rcases hx with hx | hx
  ·have:=hx.1;have:=hx.2;omega
  ·omega
 ·rcases hX x hx with hx | hx
  ·have:=hx.1;have:=hx.2;omega
  ·omega
end
section
def keys6:List Key:=[⟨1,1,ByteArray.empty,0⟩,⟨2,1,ByteArray.empty,0⟩,⟨1,3,ByteArray.empty,0⟩,⟨1,3,ByteArray.empty,1⟩,⟨2,3,ByteArray.empty,0⟩,⟨2,3,ByteArray.empty,1⟩]
theorem small_key {c:Change} (h:mayC (smallC c)=true):(smallC c).key∈keys6:=by
 have hm:(smallK c.key).may=true:=by
  unfold mayC at h
  rw [Bool.and_eq_true] at h
  exact h.1
 show smallK c.key∈keys6
 obtain ⟨_,_,hk⟩:=Key.may_elim hm
 unfold smallK at hk ⊢
 have h01:c.key.ino % 2=0∨c.key.ino % 2=1:=by omega
 split
 ·rcases h01 with e | e<;>rw [e]<;>simp [keys6]
 ·rename_i hw
  rw [if_neg hw] at hk
  simp only at hk
  have hc01:c.key.chunk % 2=0∨c.key.chunk % 2=1:=by omega
  rcases hk with ⟨w,hb,hc⟩| ⟨w,_⟩| ⟨w,hb,_⟩
  ·have hn:c.key.name=ByteArray.empty:=empty_name hb
   rw [w,hn,hc]
   rcases h01 with e | e<;>rw [e]<;>simp [keys6]
  ·exact absurd w hw
  ·have hn:c.key.name=ByteArray.empty:=empty_name hb
   rw [w,hn]
   rcases h01 with e | e<;>rcases hc01 with e2 | e2<;>rw [e,e2]<;>simp [keys6]
def Few (l:List Fact):Prop:=∀ f∈l,f.key∈keys6
theorem applyL_few:∀ {cs:List Change} {l:List Fact},Few l→(∀ c∈cs,c.key∈keys6)→Few (applyL l cs)
 | [],l,h,_=>h
 | c :: cs,l,h,hc=>applyL_few (cs:=cs) (l:=putF c l) (fun f hf=>by
  rcases putF_mem hf with hf | ⟨_,rfl⟩
  ·exact h f hf
  ·exact hc c (by simp)) fun x hx=>hc x (by simp [hx])
theorem few_put {l:List Fact} (h:Few l) (ho:ordered l=true) {cs:List Change} (hp:(putL 128 (cs.map smallC)).2=0):Few (applyF l (cs.map smallC)):=by
 rw [applyF_eq ho]
 refine applyL_few h fun c hc=>?_
 obtain ⟨x,hx,rfl⟩:=List.mem_map.1 hc
 have hm:=(putL_says (sz:=128) (by decide) (by decide) hp).2
 unfold mayL at hm
 simp only [Bool.and_eq_true,List.all_eq_true] at hm
 exact small_key (hm.2 _ hc)
theorem few_len {l:List Fact} (h:Few l) (ho:ordered l=true):l.length≤6:=by
 have hs:=ordered_sorted.1 ho
 have hn:(l.map Fact.key).Nodup:=by
  rw [List.nodup_iff_pairwise_ne,List.pairwise_map]
  exact hs.imp fun hab=>before_ne hab
 have:=sub_len (l:=l.map Fact.key) (m:=keys6) hn fun k hk=>by
  obtain ⟨f,hf,rfl⟩:=List.mem_map.1 hk
  exact h f hf
 simpa [keys6] using this
structure RoomP (s:LogS) (fs:List Fact) (n N:Nat):Prop where
 log:LogOk s
 fit:s.Fit
 era:s.era=3
 nb:s.chip.nb=16
 np:s.chip.np=8
 sz:s.chip.sz=128
 good:GoodF n s.facts
 fine:Fine 128 s.facts
 tfine:Fine 128 (told (partsC s.chip 3))
 low:1≤lowL (partsC s.chip 3)
 last:s.pool.last≤N
 room:Room s.chip
 hits:s.chip.hits.length≤2
 fierce:Fierce s.chip
 few:badsC s.chip<2→told (partsC s.chip 3)=s.facts∧s.facts=fs∧Few s.facts
 gfs:GoodF n fs
 ord:ordered fs=true
theorem RoomP.mono {s:LogS} {fs:List Fact} {n N n' N':Nat} (h:RoomP s fs n N) (hn:n≤n') (hN:N≤N'):RoomP s fs n' N' :=
 ⟨h.log,h.fit,h.era,h.nb,h.np,h.sz,h.good.mono hn,h.fine,h.tfine,h.low,Nat.le_trans h.last hN,h.room,h.hits,h.fierce,h.few,h.gfs.mono hn,h.ord⟩
def Quiet (s:LogS):Prop:=s.chip.hits=[]∧badsC s.chip=0
theorem badsC_same {c d:Chip} (hg:c.SameGeo d) (hb:d.bad=c.bad):badsC d=badsC c:=by
 unfold badsC
 rw [hg.1]
 congr 1
 refine List.filter_congr fun j _=>?_
 unfold Chip.isBad
 rw [hb]
def stepN (n:Nat):Nat:=64 * (n+3)
theorem few_fl {s:LogS} {fs:List Fact} {n N:Nat} (h:RoomP s fs n N) (hb:badsC s.chip<2):s.facts.length+2≤s.chip.np:=by
 have:=few_len (h.few hb).2.2 h.fine.ord
 have:=h.np
 omega
theorem room_put {s:LogS} {fs:List Fact} {n N:Nat} (h:RoomP s fs n N) (hn:n≤1000000) (hN:N≤1000000000000) {l:List Change} (hp:(putL 128 (l.map smallC)).2=0) :
  (Quiet s→Quiet (s.put (l.map smallC)).1)∧(((s.put (l.map smallC)).2=0∧RoomP (s.put (l.map smallC)).1 (applyF fs (l.map smallC)) (n+255) (N+stepN n))∨((s.put (l.map smallC)).2=11∧2≤badsC (s.put (l.map smallC)).1.chip∧RoomP (s.put (l.map smallC)).1 fs (n+255) (N+stepN n))):=by
 have hlen:=h.good.len
 have hnb:=h.nb
 have hstep:16 * (2+2) * (s.facts.length+3)≤stepN n:=by unfold stepN;omega
 have hlast:=h.last
 have hsn:stepN n≤64000192:=by unfold stepN;omega
 have P:=put_ok (H:=2) (cs:=l.map smallC) h.log (by rw [h.sz];exact h.fine) (by rw [h.sz];exact hp) h.hits (by rw [hnb];omega)
 have pf:=LogS.put_fit h.fit (l.map smallC)
 have pg:=LogS.put_good h.fit h.good (l.map smallC)
 have pfi:=LogS.put_fierce h.fierce (l.map smallC)
 have hgc:=putL_good (size:=128) (cs:=l.map smallC) hp
 generalize s.put (l.map smallC)=r at *
 have hne:r.2≠10:=fun e=>by have:=P.dead e;rw [pfi.1] at this;cases this
 have hera:=h.era
 have pfine:=P.fine
 have ptell:=P.tell
 have plow:=P.low
 have pwell:=P.well
 have phi:=P.hi
 rw [hera] at pfine ptell plow
 rw [h.sz] at pfine
 rw [hnb] at phi
 have hroom:Room r.1.chip∧(r.2=11→2≤badsC r.1.chip):=by
  by_cases hb:badsC s.chip<2
  ·exact P.room (few_fl h hb) h.room hne
  ·have:=Nat.le_trans (Nat.le_of_not_lt hb) P.bads
   exact ⟨.inr this,fun _=>this⟩
 have base:∀ fs':List Fact,Fine 128 r.1.facts→(badsC r.1.chip<2→told (partsC r.1.chip 3)=r.1.facts∧r.1.facts=fs'∧Few r.1.facts)→GoodF (n+255) fs'→ordered fs'=true→RoomP r.1 fs' (n+255) (N+stepN n):=fun fs' hf hfew hg ho =>
  ⟨P.log hne,pf.1,P.era.trans hera,by rw [P.geo.1];exact h.nb,by rw [P.geo.2.1];exact h.np,by rw [P.geo.2.2.1];exact h.sz,pg,hf,pfine h.tfine,Nat.le_trans h.low plow,by omega,hroom.1,Nat.le_trans P.hits h.hits,pfi,hfew,hg,ho⟩
 refine ⟨fun hq=>?_,?_⟩
 ·have c1:=P.calm (by rw [hq.1];exact (fun _ h=>by cases h))
  exact ⟨(P.still hq.1).1,by rw [badsC_same P.geo c1.2.1];exact hq.2⟩
 rcases P.err with e | e | e
 ·left
  refine ⟨e,?_⟩
  have hfacts:r.1.facts=applyF s.facts (l.map smallC):=by
   rcases P.facts with ⟨_,hf⟩| ⟨hx,_⟩
   ·exact hf
   ·exact absurd e hx
  refine base _ ?_ (fun hb=>?_) ?_ (applyF_ordered _ _)
  ·rw [hfacts]
   exact h.fine.put (by decide) (by decide) hp
  ·obtain ⟨f1,f2,f3⟩:=h.few (Nat.lt_of_le_of_lt P.bads hb)
   refine ⟨?_,by rw [hfacts,f2],by rw [hfacts];exact few_put f3 h.fine.ord hp⟩
   rcases ptell f1 with ⟨hx,_⟩| ht
   ·exact absurd e hx
   ·rw [ht,hfacts]
  ·exact h.gfs.apply hgc
 ·exact absurd e hne
 ·right
  refine ⟨e,hroom.2 e,base _ ?_ (fun hb=>absurd (hroom.2 e) (by omega)) (h.gfs.mono (by omega)) h.ord⟩
  rcases P.facts with ⟨hx,_⟩| ⟨_,hf⟩
  ·omega
  ·rw [hf];exact h.fine
theorem room_tidy {s:LogS} {fs:List Fact} {n N:Nat} (h:RoomP s fs n N) (hn:n≤1000000) (hN:N≤1000000000000) {b:Int} (hb8:b<8) :
  (Quiet s→Quiet (s.tidy b).1)∧RoomP (s.tidy b).1 fs (n+255) (N+stepN n)∧(((s.tidy b).2=0∧b≤(blanksPool (s.tidy b).1.pool (s.tidy b).1.chip:Int))∨((s.tidy b).2=11∧2≤badsC (s.tidy b).1.chip)):=by
 have hlen:=h.good.len
 have hnb:=h.nb
 have hstep:16 * (2+2) * (s.facts.length+2)≤stepN n:=by unfold stepN;omega
 have hlast:=h.last
 have hsn:stepN n≤64000192:=by unfold stepN;omega
 have P:=tidy_ok (H:=2) (b:=b) h.log (by rw [h.sz];exact h.fine) h.hits (by rw [hnb];omega)
 have pf:=LogS.tidy_fit h.fit b
 have pfi:=LogS.tidy_fierce h.fierce b
 generalize s.tidy b=r at *
 have hne:r.2≠10:=fun e=>by have:=P.dead e;rw [pfi.1] at this;cases this
 have hera:=h.era
 have pfine:=P.fine
 have ptell:=P.told
 have plow:=P.low
 have phi:=P.hi
 rw [hera] at pfine ptell plow
 rw [h.sz] at pfine
 rw [hnb] at phi
 have hroom:Room r.1.chip∧(r.2=11→2≤badsC r.1.chip):=by
  by_cases hb:badsC s.chip<2
  ·have:=P.room (few_fl h hb) h.room hne
   refine ⟨this.1,fun e=>?_⟩
   rcases this.2 e with h1 | h1
   ·exact h1
   ·omega
  ·have:=Nat.le_trans (Nat.le_of_not_lt hb) P.bads
   exact ⟨.inr this,fun _=>this⟩
 refine ⟨fun hq=>?_,⟨P.log hne,pf.2,P.era.trans hera,by rw [P.geo.1];exact h.nb,by rw [P.geo.2.1];exact h.np,by rw [P.geo.2.2.1];exact h.sz,by rw [P.facts];exact h.good.mono (by omega),by rw [P.facts];exact h.fine,pfine h.tfine,Nat.le_trans h.low plow,by omega,hroom.1,Nat.le_trans P.hits h.hits,pfi,fun hb=>?_,h.gfs.mono (by omega),h.ord⟩,?_⟩
 ·have c1:=P.calm (by rw [hq.1];exact (fun _ h=>by cases h))
  exact ⟨(P.still hq.1).1,by rw [badsC_same P.geo c1.2];exact hq.2⟩
 ·obtain ⟨f1,f2,f3⟩:=h.few (Nat.lt_of_le_of_lt P.bads hb)
  rw [P.facts]
  exact ⟨ptell f1,f2,f3⟩
 ·rcases P.err with e | e | e
  ·exact .inl ⟨e,P.ok e⟩
  ·exact absurd e hne
  ·exact .inr ⟨e,hroom.2 e⟩
theorem well_power {c:Chip} {era:Nat} (h:Well c era):Well c.power era:=⟨power_ci h.ci,h.safe,h.drops,h.mine⟩
theorem low_some {l:List Part} (h:1≤lowL l):l≠[]:=fun e=>by rw [e] at h;exact absurd h (by decide)
theorem open_room {c:Chip} (h:Well c 3) (hnb:c.nb=16) (hnp:c.np=8) (hsz:c.sz=128) (hsp:c.sp≤4) (hlow:1≤lowL (partsC c 3)) (hfine:Fine 128 (told (partsC c 3))) {N:Nat} (hl:∀ i,i<c.nb→isHd c i→(hd c i).1.seq≤N) (hroom:Room c)
  {fs:List Fact} {n:Nat} (hfew:badsC c<2→told (partsC c 3)=fs∧Few fs) (hg:GoodF n fs) (ho:ordered fs=true) :
  (openL c.power 3).2=0∧(openL c.power 3).1.chip=c.power∧(openL c.power 3).1.facts=told (partsC c 3)∧RoomP (openL c.power 3).1 fs (max n 163200) N:=by
 have hw:=well_power h
 obtain ⟨k1,k2,k3,k4,k5⟩:=openL_keeps (c:=c.power) (era:=3) hw.ci.ok (by show c.nb<20;omega) hsp
 rcases open_ok hw rfl (by decide) (by decide) with ⟨e,_⟩| ⟨_,o1,o2,o3,o4,o5,o6⟩
 ·exact absurd e (low_some hlow)
 ·refine ⟨o1,o4,o3,⟨o2,k4,o5,by rw [o4];exact hnb,by rw [o4];exact hnp,by rw [o4];exact hsz,k5.mono (by omega),by rw [o3];exact hfine,by rw [o4];exact hfine,by rw [o4];exact hlow,?_,by rw [o4];exact hroom,by rw [o4];exact Nat.zero_le _,by rw [o4];exact ⟨rfl,(fun _ h=>by cases h)⟩,fun hb=>?_,hg.mono (by omega),ho⟩⟩
  ·rw [o6]
   exact (scan_inv hw.ci rfl).2 N hl
  ·rw [o4] at hb
   obtain ⟨f1,f2⟩:=hfew hb
   have f1':told (partsC c.power 3)=fs:=f1
   rw [o3,o4,f1']
   exact ⟨rfl,rfl,f2⟩
theorem room_open {s:LogS} {fs:List Fact} {n N:Nat} (h:RoomP s fs n N):(openL s.chip.power 3).2=0∧(openL s.chip.power 3).1.chip=s.chip.power∧(Quiet s→Quiet (openL s.chip.power 3).1)∧RoomP (openL s.chip.power 3).1 fs (max n 163200) N:=by
 have hw:=h.log.well
 rw [h.era] at hw
 obtain ⟨a,b,_,d⟩:=open_room hw h.nb h.np h.sz h.fit.sp h.low h.tfine (N:=N) (fun i hi hh=>Nat.le_trans (h.log.inv.last i hi hh) h.last) h.room (fs:=fs) (n:=n) (fun hb=>by
  obtain ⟨f1,f2,f3⟩:=h.few hb
  exact ⟨f1.trans f2,by rw [← f2];exact f3⟩) h.gfs h.ord
 exact ⟨a,b,fun hq=>⟨by rw [b];rfl,by rw [b];exact hq.2⟩,d⟩
section
variable {nb np sz sp:Nat}
theorem fresh_page {i k:Nat} (hi:i<nb) (hk:k<np):(newChip nb np sz sp).page i k=List.replicate sz 255:=by
 have hb:(newChip nb np sz sp).blk i=List.replicate (np * sz) 255:=by
  unfold Chip.blk
  show (List.replicate nb (List.replicate (np * sz) 255)).getD i []=_
  rw [List.getD_eq_getElem?_getD,List.getElem?_replicate,if_pos hi];rfl
 unfold Chip.page
 rw [hb]
 show ((List.replicate (np * sz) 255).drop (k * sz)).take sz=_
 rw [List.drop_replicate,List.take_replicate]
 congr 1
 have:=mul_lt_page (sz:=sz) hk
 omega
theorem fresh_bad (j:Nat):(newChip nb np sz sp).isBad j=false:=by
 unfold Chip.isBad
 show (List.replicate nb false).getD j false=false
 rw [List.getD_eq_getElem?_getD,List.getElem?_replicate]
 split<;>rfl
theorem fresh_well (nb1:8≤nb) (nb2:nb≤64) (np1:4≤np) (np2:np≤32) (sz1:128≤sz) (sz2:sz≤256) (era:Nat) :
  Well (newChip nb np sz sp) era∧lives 0 (newChip nb np sz sp)=0∧badsC (newChip nb np sz sp)=0∧partsC (newChip nb np sz sp) era=[]∧∀ i,i<nb→¬ isHd (newChip nb np sz sp) i:=by
 obtain ⟨hci,hno⟩:=new_ci (sp:=sp) nb1 nb2 np1 np2 sz1 sz2 (newChip nb np sz sp) rfl
 have hparts:partsC (newChip nb np sz sp) era=[]:=by
  refine List.eq_nil_iff_forall_not_mem.2 fun p hp=>?_
  obtain ⟨i,h1,h2,_⟩:=(partsC_mem hci).1 hp
  exact hno i h1 h2
 refine ⟨⟨hci,fun i k hi hk=>?_,fun p hp=>(by rw [hparts] at hp;cases hp),fun i hi hh=>absurd hh (hno i hi)⟩,?_,?_,hparts,hno⟩
 ·have hp:=fresh_page (nb:=nb) (np:=np) (sz:=sz) (sp:=sp) (i:=i) (k:=k) hi hk
  rw [hp]
  exact blank_page_safe sz sz1 sz2
 ·unfold lives
  rw [List.length_eq_zero_iff,List.filter_eq_nil_iff]
  intro j hj hh
  simp only [Bool.and_eq_true,isHdB_iff] at hh
  exact hno j (by simpa using hj) hh.1.1
 ·unfold badsC
  rw [List.length_eq_zero_iff,List.filter_eq_nil_iff]
  intro j hj hh
  rw [fresh_bad] at hh;cases hh
theorem fresh_last (nb1:8≤nb) (nb2:nb≤64) (np1:4≤np) (np2:np≤32) (sz1:128≤sz) (sz2:sz≤256):(scanPool (newChip nb np sz sp)).last=0:=by
 obtain ⟨hw,_,_,_,hno⟩:=fresh_well (sp:=sp) nb1 nb2 np1 np2 sz1 sz2 0
 have:=(scan_inv hw.ci rfl).2 0 fun i hi hh=>absurd hh (hno i hi)
 omega
theorem make_fresh (nb1:8≤nb) (nb2:nb≤64) (np1:4≤np) (np2:np≤32) (sz1:128≤sz) (sz2:sz≤256) {era:Nat} (he1:1≤era):makeL (newChip nb np sz sp) era=(LogS.new (newChip nb np sz sp) era).anew:=by
 obtain ⟨hw,_,_,hp,_⟩:=fresh_well (sp:=sp) nb1 nb2 np1 np2 sz1 sz2 era
 have ho:=own_parts hw.ci (c:=newChip nb np sz sp) rfl era
 rw [hp] at ho
 have ho':ownL era (takenPool (scanPool (newChip nb np sz sp)) (newChip nb np sz sp))=[]:=List.map_eq_nil_iff.1 ho.symm
 unfold makeL
 rw [if_neg (show ¬ (newChip nb np sz sp).dead=true from fun h=>by cases h),if_neg (by omega),ho',if_neg (by simp)]
theorem made_fresh (nb1:8≤nb) (nb2:nb≤64) (np1:4≤np) (np2:np≤32) (sz1:128≤sz) (sz2:sz≤256) {era:Nat} (he1:1≤era) (he2:era<4294967296) (h0:(makeL (newChip nb np sz sp) era).2=0) :
  LogOk (makeL (newChip nb np sz sp) era).1∧(newChip nb np sz sp).SameGeo (makeL (newChip nb np sz sp) era).1.chip∧told (partsC (makeL (newChip nb np sz sp) era).1.chip era)=[]∧1≤lowL (partsC (makeL (newChip nb np sz sp) era).1.chip era)∧
   (makeL (newChip nb np sz sp) era).1.pool.last≤nb * 4∧lives 0 (makeL (newChip nb np sz sp) era).1.chip≤1∧(makeL (newChip nb np sz sp) era).1.chip.hits=[]∧(makeL (newChip nb np sz sp) era).1.chip.dead=false∧(makeL (newChip nb np sz sp) era).1.facts=[]∧
   badsC (makeL (newChip nb np sz sp) era).1.chip=0:=by
 obtain ⟨hw,hl,hb,hp,hno⟩:=fresh_well (sp:=sp) nb1 nb2 np1 np2 sz1 sz2 era
 have hlog:=newLog_ok hw rfl he1 he2
 have hlast:=fresh_last (sp:=sp) nb1 nb2 np1 np2 sz1 sz2
 rw [make_fresh nb1 nb2 np1 np2 sz1 sz2 he1] at h0 ⊢
 have hlen:(LogS.new (newChip nb np sz sp) era).pool.last=0:=hlast
 have hnbe:(LogS.new (newChip nb np sz sp) era).chip.nb=nb:=rfl
 have hfe:(LogS.new (newChip nb np sz sp) era).facts=[]:=rfl
 have hnpe:(LogS.new (newChip nb np sz sp) era).chip.np=np:=rfl
 have hhe:(LogS.new (newChip nb np sz sp) era).chip.hits=[]:=rfl
 have hbe:(LogS.new (newChip nb np sz sp) era).chip.bad=(newChip nb np sz sp).bad:=rfl
 have hge:(LogS.new (newChip nb np sz sp) era).chip=newChip nb np sz sp:=rfl
 have hee:(LogS.new (newChip nb np sz sp) era).era=era:=rfl
 have A:=anew_ok (H:=0) hlog (by rw [hfe];exact Fine.nil _) (by rw [hhe];exact Nat.le_refl _) (by rw [hlen,hnbe,hfe];show 0+nb * 2 * 2 < _;omega)
 generalize LogS.new (newChip nb np sz sp) era=s at *
 have ahi:=A.hi
 rw [hlen,hnbe,hfe] at ahi
 have at0:=A.told0 h0
 have al:=A.low1 h0
 rw [hee] at at0 al
 have asame:=(A.calm (by rw [hhe];exact (fun _ h=>by cases h))).2
 have alog:=A.log (by omega)
 have hg:=A.geo
 rw [hge] at hg
 refine ⟨alog,hg,by rw [at0];exact hfe,al,?_,A.one (by rw [hfe,hnpe];show 0+2≤np;omega) h0,(A.still hhe).1,alog.alive,A.facts.trans hfe,?_⟩
 ·have:(0:Nat)+nb * (0+2) * ([]:List Fact).length.succ.succ=nb * 4:=by simp [Nat.mul_assoc]
  have e2:nb * (0+2) * (([]:List Fact).length+2)=nb * 4:=by simp [Nat.mul_assoc]
  omega
 ·have e:badsC s.anew.1.chip=badsC (newChip nb np sz sp):=by
   unfold badsC
   rw [hg.1]
   congr 1
   refine List.filter_congr fun j _=>?_
   unfold Chip.isBad
   rw [asame,hbe]
  rw [e];exact hb
end
theorem room_begun {sp:Nat} (hsp:sp≤1):RoomP (room14 sp).1 [] 0 1000∧Quiet (room14 sp).1:=by
 obtain ⟨r0,rf,re,rg,fit⟩:=room14_fit hsp
 obtain ⟨m1,m2,m3,m4,m5,m6,m7,m8,m9,m10⟩:=made_fresh (nb:=16) (np:=8) (sz:=128) (sp:=sp) (by decide) (by decide) (by decide) (by decide) (by decide) (by decide) (era:=3) (by decide) (by decide) r0
 have hl:makeL (newChip 16 8 128 sp) 3=room14 sp:=rfl
 rw [hl] at m1 m2 m3 m4 m5 m6 m7 m8 m9 m10
 generalize (room14 sp).1=s at *
 have hnb:s.chip.nb=16:=rg.1
 exact ⟨⟨m1,fit,re,hnb,rg.2.1,rg.2.2.1,by rw [rf];exact GoodF.nil,by rw [rf];exact Fine.nil _,by rw [m3];exact Fine.nil _,m4,by omega,.inl (by rw [hnb];omega),by rw [m7];exact Nat.zero_le _,⟨m8,by rw [m7];exact (fun _ h=>by cases h)⟩,fun _=>⟨by rw [m3,rf],rf,by rw [rf];exact (fun _ h=>by cases h)⟩,GoodF.nil,rfl⟩,m7,m10⟩
theorem LogOk.hits {s:LogS} (h:LogOk s) (hs:List Hit) (n:Int):LogOk { s with chip:={ s.chip with hits:=hs,since:=n } }:=by
 have hi:=h.inv
 have hc:=hi.ci
 have ok:=hc.ok
 have ok':({ s.chip with hits:=hs,since:=n }:Chip).Ok:=⟨ok.nb1,ok.nb2,ok.np1,ok.np2,ok.sz1,ok.sz2,ok.bl,ok.bl2,ok.bad⟩
 have ci':CI ({ s.chip with hits:=hs,since:=n }:Chip):=⟨ok',hc.safe,hc.uniq⟩
 refine ⟨⟨ci',hi.len,hi.known,hi.last⟩,h.alive,h.turn,h.era1,h.era2,⟨ci',h.well.safe,h.well.drops,h.well.mine⟩,?_⟩
 rcases h.open_ with o | o | ⟨i,a,t,p,o⟩
 ·exact .inl o
 ·exact .inr (.inl o)
 ·exact .inr (.inr ⟨i,a,t,p,⟨o.blk,o.parts,o.pb,o.quiet,o.good,o.page,o.open_⟩⟩)
end
def RoomM (A:Nat) (w:World) (B:Nat) (fs:List Fact) (s:LogS):Prop:=∃ (F X Y:Nat→Prop) (M:PLoc) (q:Nat) (a:Option Addr) (cap:Nat),
 RoomAt A w B M.p q (.slice a fs.length cap) F X M s∧SliceAt factR w Y a fs∧∀ x,Y x→A≤x∧x<w.heap.size∧¬ F x∧x≠q∧x≠B
theorem RoomM.ext {A:Nat} {w w':World} {B:Nat} {fs:List Fact} {s:LogS} (h:RoomM A w B fs s) (k:Ext w w'):RoomM A w' B fs s:=by
 obtain ⟨F,X,Y,M,q,a,cap,⟨h1,h2,h3,h4,h5,h6,h7,h8⟩,hy,hyb⟩:=h
 have hs:=k.size
 exact ⟨F,X,Y,M,q,a,cap,⟨Ext.get k h1,h2,h3.ext k,fun x hx=>by have:=h4 x hx;omega,fun x hx=>by have:=h5 x hx;omega,h6,h7,h8⟩,hy.ext k,fun x hx=>by have:=hyb x hx;exact ⟨this.1,by omega,this.2.2.1,this.2.2.2⟩⟩
theorem carracklaw14_bads_spec {F:Nat→Prop} {A:Nat} {w:World} {p:Nat} {c:Chip} (h:CIn F A w p c) (hnb:c.nb=16) :
  CallsR prog K.carracklaw14_bads #[.pointer (some ⟨p,0,none⟩)] w fun v w'=>v= .int .i64 (badsC c:Nat)∧w'=w:=by
 apply carracklaw14_bads.sh
 unfold carracklaw14_bads.body
 refine ⟨fun x y u=>∃ i:Nat,y=i∧i≤16∧x=(((List.range i).filter fun j=>c.isBad j).length:Nat)∧u=w,fun _ y _=>((16:Int) - y).toNat,⟨0,rfl,by omega,rfl,rfl⟩,?_⟩
 rintro x y u ⟨i,rfl,hi,rfl,rfl⟩
 have hcnt:((List.range i).filter fun j=>c.isBad j).length≤i:=by
  have:=List.length_filter_le (fun j=>c.isBad j) (List.range i)
  simpa using this
 refine br_dec (fun hlt=>?_) fun hge=>?_
 ·refine (cBad h i).mono ?_
  rintro _ v ⟨rfl,hv⟩
  obtain rfl:u=v:=hv.symm
  have ew:IntKind.i64.wrap ((i:Int)+1)=((i+1:Nat):Int):=w64 (by omega) (by omega)
  have ew2:IntKind.i64.wrap ((((List.range i).filter fun j=>c.isBad j).length:Nat)+1)=((((List.range i).filter fun j=>c.isBad j).length+1:Nat):Int):=w64 (by omega) (by omega)
  have hd:decide (0≤(i:Int))=true:=decide_eq_true (by omega)
  rw [ew,ew2]
  refine ⟨_,rfl,br_intro (fun hb=>?_) fun hb=>?_⟩
  ·rw [hd,Bool.true_and,Int.toNat_natCast] at hb
   refine ⟨⟨i+1,rfl,by omega,?_,rfl⟩,by show ((16:Int) - ((i+1:Nat):Int)).toNat<((16:Int) - (i:Int)).toNat;omega⟩
   rw [List.range_succ,List.filter_append,List.length_append]
   simp [hb]
  ·rw [hd,Bool.true_and,Int.toNat_natCast] at hb
   refine ⟨⟨i+1,rfl,by omega,?_,rfl⟩,by show ((16:Int) - ((i+1:Nat):Int)).toNat<((16:Int) - (i:Int)).toNat;omega⟩
   rw [List.range_succ,List.filter_append,List.length_append]
   simp [hb]
 ·have:i=16:=by omega
  subst this
  unfold badsC
  rw [hnb]
  exact ⟨rfl,rfl⟩
theorem small_names {l:List Change} (h:Small l):Small (l.map smallC):=fun x hx=>by
 obtain ⟨c,hc,rfl⟩:=List.mem_map.1 hx
 have:=h c hc
 show (smallK c.key).name.size < _
 unfold smallK
 split
 ·exact (by decide:(0:Nat)<9223372036854775807)
 ·exact this
def ActOut (A:Nat) (B:Nat) (s:LogS) (n N:Nat) (w w':World) (v:Value):Prop:=v= .bool true∧Upd (fun x=>A≤x) w w'∧∃ fs' s',RoomM A w' B fs' s'∧(Quiet s→Quiet s')∧RoomP s' fs' (max n 163200+255) (N+stepN n)
theorem act_put {A:Nat} {w0 w:World} {B:Nat} {fs:List Fact} {s:LogS} {n N:Nat} (hm:RoomM A w0 B fs s) (hk:Ext w0 w) (hp:RoomP s fs n N) (hn:n≤1000000) (hN:N≤1000000000000)
  {G:Nat→Prop} {ac:Option Addr} {cc:Nat} {l:List Change} (hc:SliceAt changeR w G ac (l.map smallC)) (hG:∀ b,G b→w0.heap.size≤b) (hs:Small l) (hl:l.length<9000000000000000000) {R:Value→World→Prop}
  (hR:∀ v w',ActOut A B s n N w w' v→R v w') :
  CallsR prog K.carrackref11_Put #[.int .i64 128,.slice ac (l.map smallC).length cc] w fun v2 w3=>∃ (a3:Option Addr) (l3 c3:Nat),∃ x2:Int,v2= .tuple #[.slice a3 l3 c3,.int .i64 x2]∧∃ p1:Option Addr,w3.cell? ⟨B,1,none⟩= some (.pointer p1)∧
   CallsR prog K.log_Log_Put #[.pointer p1,.slice ac (l.map smallC).length cc] w3 fun v3 w4=>∃ x3:Int,v3= .int .i64 x3∧
   br (x2 != 0) (R (.bool (x3 == x2)) w4) (∃ (a4:Option Addr) (l4 c4:Nat),w4.cell? ⟨B,2,none⟩= some (.slice a4 l4 c4)∧
   CallsR prog K.carrackref06_Apply #[.slice a4 l4 c4,.slice ac (l.map smallC).length cc] w4 fun v4 w5=>∃ (a5:Option Addr) (l5 c5:Nat),v4= .slice a5 l5 c5∧
   br (x3 == 11) (∃ p2:Option Addr,w5.cell? ⟨B,0,none⟩= some (.pointer p2)∧
    CallsR prog K.carracklaw14_bads #[.pointer p2] w5 fun v5 w6=>∃ x4:Int,v5= .int .i64 x4∧
    CallsR prog K.carracklaw14_geo #[.int .u8 1] w6 fun v6 w7=>∃ x5 x6:Int,∃ x7 x8:Int,v6= .agg #[.int .i64 x5,.int .i64 x6,.int .i64 x7,.int .i64 x8]∧
    br (decide (x4 > x8)) (R (.bool true) w7) (
    CallsR prog K.carracklaw14_geo #[.int .u8 1] w7 fun v7 w8=>∃ x9 x10:Int,∃ x11 x12:Int,v7= .agg #[.int .i64 x9,.int .i64 x10,.int .i64 x11,.int .i64 x12]∧
    CallsR prog K.carrackref10_Cap #[.agg #[.int .i64 x9,.int .i64 x10,.int .i64 x11,.int .i64 x12]] w8 fun v8 w9=>∃ x13:Int,v8= .int .i64 x13∧R (.bool (decide ((l5:Int) > x13))) w9)) (
    br (x3 != 0) (R (.bool false) w5) (storeP w5 ⟨B,2,none⟩ [.slice a5 l5 c5] fun w10=>R (.bool true) w10))):=by
 obtain ⟨F,X,Y,M,q,a,cap,⟨h1,h2,h3,h4,h5,h6,h7,h8⟩,hy,hyb⟩:=hm
 have hqlt:=h3.lt
 have hs0:=hk.size
 have hFG:∀ b,G b→¬ LogF F q b:=fun b hb hx=>by
  have:=hG b hb
  rcases hx with hx | hx
  ·have:=h4 b hx;omega
  ·omega
 replace h1:=Ext.get hk h1
 replace h3:=h3.ext hk
 replace h4:∀ x,F x→A≤x∧x<w.heap.size∧x≠B:=fun x hx=>by have:=h4 x hx;omega
 replace h5:∀ x,X x→A≤x∧x<w.heap.size∧x≠B:=fun x hx=>by have:=h5 x hx;omega
 replace hy:=hy.ext hk
 replace hyb:∀ x,Y x→A≤x∧x<w.heap.size∧¬ F x∧x≠q∧x≠B:=fun x hx=>by have:=hyb x hx;exact ⟨this.1,by omega,this.2.2⟩
 have hB:B<w.heap.size:=(Array.getElem?_eq_some_iff.1 h1).1
 have hsn:=small_names hs
 refine (carrackref11_Put_spec hc hsn 128 (by decide) (by decide)).mono ?_
 rintro _ w3 ⟨a3,c3,rfl,_,he3⟩
 have hs3:=he3.size
 have g3:=Ext.get he3 h1
 refine ⟨_,_,_,_,rfl,_,cell_of g3 rfl,?_⟩
 refine (log_Put_spec (h3.ext he3) (fun x hx=>by have:=h4 x hx;omega) (fun x hx=>by have:=h5 x hx;omega) hp.fit hp.good (by omega) (hc.ext he3) hsn (by simpa using hl)).mono ?_
 rintro _ w4 ⟨rfl,hu4,X',_,hX',h4'⟩
 have hs4:=hu4.size
 have hFA:∀ x,LogF F q x→A≤x∧x<w.heap.size∧x≠B:=fun x hx=>by
  rcases hx with hx | hx
  ·exact h4 x hx
  ·omega
 have u4:Upd (fun x=>A≤x) w w4:=(Upd.ext he3).trans (hu4.mono fun x _ hx=>(hFA x hx).1)
 have g4:=hu4.get g3 (fun hx=>(hFA B hx).2.2 rfl)
 have hX4:∀ x,X' x→A≤x∧x<w4.heap.size∧x≠B:=fun x hx=>by
  rcases hX' x hx with hx | hx
  ·have:=h5 x hx;omega
  ·omega
 have hy4:SliceAt factR w4 Y a fs:=(hy.ext he3).upd hu4 fun b hb hx=>by
  have:=hyb b hb
  rcases hx with hx | hx
  ·exact this.2.2.1 hx
  ·exact this.2.2.2.1 hx
 have hask:s.chip.ask 0 0=0:=ask_ok (i:=0) (k:=0) hp.log.alive (by rw [hp.nb];decide) (by rw [hp.np];decide)
 refine ⟨_,rfl,br_ne (fun hne=>?_) fun h0=>?_⟩
 ·
  have he:s.put (l.map smallC)=(s,(putL 128 (l.map smallC)).2):=by
   rw [LogS.put_eq,if_neg (by omega),hp.sz]
   rw [if_pos (show (putL ((128:Nat):Int) (l.map smallC)).2≠0 by intro e;exact hne (by have e':(putL (128:Int) (l.map smallC)).2=0:=e;omega))]
   rfl
  rw [he] at h4' ⊢
  have hb:(((putL 128 (l.map smallC)).2:Nat):Int)=(((putL 128 (l.map smallC)).2:Nat):Int):=rfl
  refine hR _ _ ⟨by simp,u4,fs,s,⟨F,X',Y,M,q,a,cap,⟨g4,rfl,h4',fun x hx=>by have:=h4 x hx;omega,hX4,h6,h7,h8⟩,hy4,fun x hx=>by have:=hyb x hx;exact ⟨this.1,by omega,this.2.2⟩⟩,fun hq=>hq,hp.mono (by omega) (by omega)⟩
 have h0':(putL 128 (l.map smallC)).2=0:=by omega
 have hgc:=putL_good (size:=128) (cs:=l.map smallC) h0'
 obtain ⟨hquiet,hrp⟩:=room_put hp hn hN h0'
 have hcl:=hgc.len
 have hgl:=hp.gfs.len
 have hc4:SliceAt changeR w4 G ac (l.map smallC):=(hc.ext he3).upd hu4 hFG
 refine ⟨a,_,cap,cell_of g4 rfl,(carrackref06_Apply_spec hy4 (fun b hb=>by have:=hyb b hb;omega) hc4 (by omega) hp.gfs.names hgc.small).mono ?_⟩
 rintro _ w5 ⟨a5,c5,rfl,hl5,he5⟩
 have hs5:=he5.size
 have g5:=Ext.get he5 g4
 have h5':=h4'.ext he5
 have u5:=u4.then he5
 refine ⟨_,_,_,rfl,br_eq (fun h11=>?_) fun h11=>br_ne (fun hne=>?_) fun hz=>?_⟩
 ·have h11':(s.put (l.map smallC)).2=11:=by omega
  rcases hrp with ⟨e,_⟩| ⟨_,hb,hr⟩
  ·omega
  refine ⟨_,cell_of g5 rfl,(carracklaw14_bads_spec h5'.pool.chip.cin hr.nb).mono ?_⟩
  rintro _ v ⟨rfl,hv⟩
  obtain rfl:w5=v:=hv.symm
  refine ⟨_,rfl,(carracklaw14_geo_spec 1 w5).mono ?_⟩
  rintro _ w7 ⟨rfl,he7⟩
  refine ⟨_,_,_,_,rfl,br_dec (fun _=>?_) fun hx=>absurd (show ((badsC (s.put (l.map smallC)).1.chip:Nat):Int) > (((1:UInt8).toNat % 2:Nat):Int) by
   have e:(1:UInt8).toNat % 2=1:=by decide
   rw [e];omega) hx⟩
  have hs7:=he7.size
  exact hR _ _ ⟨rfl,u5.then he7,fs,_,⟨F,X',Y,M,q,a,cap,⟨Ext.get he7 g5,rfl,h5'.ext he7,fun x hx=>by have:=h4 x hx;omega,fun x hx=>by have:=hX4 x hx;omega,h6,h7,h8⟩,(hy4.ext he5).ext he7,fun x hx=>by have:=hyb x hx;exact ⟨this.1,by omega,this.2.2⟩⟩,hquiet,hr.mono (by omega) (by omega)⟩
 ·rcases hrp with ⟨e,_⟩| ⟨e,_⟩
  ·exact absurd (by omega) hne
  ·exact absurd (by omega) h11
 ·rcases hrp with ⟨_,hr⟩| ⟨e,_⟩
  ·obtain ⟨G5,hG5,hG5'⟩:=hl5.slice
   refine store_of g5 (by simp) fun w10 hpt=>?_
   have hu10:=hpt.upd1
   have g10:=hpt.get
   have hs10:=hu10.size
   have hG5b:∀ x,G5 x→A≤x∧x<w10.heap.size∧¬ F x∧x≠q∧x≠B:=fun x hx=>by
    obtain ⟨y1,y2⟩:=hG5' x hx
    rcases y1 with y1 | y1
    ·have hsw:w.heap.size≤w4.heap.size:=by omega
     exact ⟨by omega,by omega,fun hf=>by have:=h4 x hf;omega,by omega,by omega⟩
    ·have:=hyb x y1
     exact ⟨this.1,by omega,this.2.2⟩
   refine hR _ _ ⟨rfl,u5.trans (hu10.mono fun x _ hx=>by rw [hx];exact h8),_,_,⟨F,X',G5,M,q,a5,c5,⟨g10,rfl,h5'.upd hu10 (fun x hx=>?_),fun x hx=>by have:=h4 x hx;omega,fun x hx=>by have:=hX4 x hx;omega,h6,h7,h8⟩,hG5.upd hu10 (fun b hb hx=>(hG5b b hb).2.2.2.2 hx),hG5b⟩,hquiet,hr.mono (by omega) (by omega)⟩
   rw [hx]
   exact ⟨fun hf=>(h4 B hf).2.2 rfl,fun hx=>(hX4 B hx).2.2 rfl,fun e=>h7 e.symm⟩
  ·omega
theorem tmod8 (b:UInt8):IntKind.i64.wrap (Int.tmod (b.toNat:Int) 8)=((b.toNat % 8:Nat):Int):=by
 have hb:=b.toNat_lt
 have e:Int.tmod (b.toNat:Int) 8=((b.toNat % 8:Nat):Int):=(Int.ofNat_tmod _ _).symm
 rw [e,w64 (by omega) (by omega)]
theorem flatten_len {c:Chip} (h:c.Ok):c.blocks.flatten.length≤1000000000000:=by
 have key:∀ (l:List (List UInt8)) (m:Nat),(∀ b∈l,b.length=m)→l.flatten.length=l.length * m:=by
  intro l m
  induction l with
  | nil=>intro _;simp
  | cons x l ih =>
   intro hl
   rw [List.flatten_cons,List.length_append,ih fun b hb=>hl b (by simp [hb]),hl x (by simp),List.length_cons,Nat.succ_mul]
   omega
 rw [key _ _ h.bl2,h.bl]
 have h1:=Nat.mul_le_mul h.np2 h.sz2
 have h2:=Nat.mul_le_mul h.nb2 h1
 omega
theorem carracklaw14_act_spec {A:Nat} {w:World} {B:Nat} {fs:List Fact} {s:LogS} {n N:Nat} (hm:RoomM A w B fs s) (hp:RoomP s fs n N) (hn:n≤1000000) (hN:N≤1000000000000)
  {G:Nat→Prop} {ac:Option Addr} {cc:Nat} {l:List Change} (hc:SliceAt changeR w G ac l) (hG:∀ b,G b→b<w.heap.size) (hf:FitsC l) (hs:Small l) (do_:Int) (bl:UInt8) :
  CallsR prog K.carracklaw14_room_act #[.pointer (some ⟨B,0,none⟩),.agg #[.int .i64 do_,.slice ac l.length cc,bv bl]] w fun v w'=>ActOut A B s n N w w' v:=by
 have hA0:A≤w.heap.size:=by
  obtain ⟨F,X,Y,M,q,a,cap,⟨h1,_,_,_,_,_,_,h8⟩,_⟩:=hm
  have:B<w.heap.size:=(Array.getElem?_eq_some_iff.1 h1).1
  omega
 have hlen:=hf.len
 apply carracklaw14_room_act.sh
 suffices H:∀ R:Value→World→Prop,(∀ v w',ActOut A B s n N w w' v→R v w')→carracklaw14_room_act.body (some ⟨B,0,none⟩) do_ ac l.length cc bl.toNat w R from H _ fun _ _ h=>h
 intro R hR
 unfold carracklaw14_room_act.body
 intro B1 w1 hn1
 have hB1:B1=w.heap.size:=hn1.num
 have hs1:=hn1.size
 have e1:=hn1.upd
 have gA:=hn1.get
 simp only [nilC_some',add_lit,Nat.zero_add]
 have still:∀ w',Ext w w'→R (.bool true) w':=fun w' he=>hR _ _ ⟨rfl,Upd.ext he,fs,s,hm.ext he,fun hq=>hq,hp.mono (by omega) (by omega)⟩
 refine ⟨_,cell_of gA rfl,br_eq (fun _=>?_) fun _=>br_eq (fun _=>?_) fun _=>br_eq (fun _=>?_) fun _=>br_eq (fun _=>?_) fun _=>still _ e1⟩
 ·
  refine ⟨ac,_,cc,cell_of gA rfl,(carracklaw14_small_spec (hc.ext e1) (fun b hb=>by have:=hG b hb;omega) hf).mono ?_⟩
  rintro _ w2 ⟨a2,c2,rfl,hl2,he2⟩
  obtain ⟨G2,hG2,hG2'⟩:=hl2.slice
  refine ⟨_,_,_,rfl,act_put hm (e1.trans he2) hp hn hN hG2 (fun b hb=>by have:=(hG2' b hb).1.resolve_right (fun h=>h);omega) hs (by omega) fun v w' ho=>?_⟩
  obtain ⟨o1,o2,o3⟩:=ho
  exact hR _ _ ⟨o1,(Upd.ext (e1.trans he2)).trans o2,o3⟩
 ·
  obtain ⟨F,X,Y,M,q,a,cap,⟨h1,h2,h3,h4,h5,h6,h7,h8⟩,hy,hyb⟩:=hm
  have hqlt:=h3.lt
  have hBlt:B<w.heap.size:=(Array.getElem?_eq_some_iff.1 h1).1
  intro w11 hd11
  have e11:=e1.trans hd11.upd
  have hs11:=hd11.upd.size
  have gB:=Ext.get e11 h1
  have gA11:=Ext.get hd11.upd gA
  have rd:∀ {u:World},(u.heap[B]?=w11.heap[B]?∧u.heap[B1]?=w11.heap[B1]?)→u.heap[B]?=some (.cells #[.pointer (some ⟨M.p,0,none⟩),.pointer (some ⟨q,0,none⟩),.slice a fs.length cap] T.carracklaw14_room (0,0))∧u.heap[B1]?=some (.cells #[.int .i64 do_,.slice ac l.length cc,.int .u8 bl.toNat] T.carracklaw14_Act (0,0)):=fun hu=>⟨hu.1.trans gB,hu.2.trans gA11⟩
  have keepE:∀ {u v:World},(u.heap[B]?=w11.heap[B]?∧u.heap[B1]?=w11.heap[B1]?)→Ext u v→(v.heap[B]?=w11.heap[B]?∧v.heap[B1]?=w11.heap[B1]?):=fun hu he=>⟨(Ext.get he (rd hu).1).trans gB.symm,(Ext.get he (rd hu).2).trans gA11.symm⟩
  refine ⟨fun u=>u.heap[B]?=w11.heap[B]?∧u.heap[B1]?=w11.heap[B1]?,⟨rfl,rfl⟩,_,fun u hu=>cell_of (rd hu).1 rfl,_,fun u hu=>cell_of (rd hu).2 rfl,by decide,?_⟩
  rw [tmod8]
  have hb8:((bl.toNat % 8:Nat):Int)<8:=by omega
  refine (log_Tidy_spec (h3.ext e11) (fun x hx=>by have:=h4 x hx;omega) (fun x hx=>by have:=h5 x hx;omega) hp.fit hp.good (by omega) _).mono ?_
  rintro _ w12 ⟨rfl,hu12,h12⟩
  have hs12:=hu12.size
  have hFA:∀ x,LogF F q x→A≤x∧x<w.heap.size∧x≠B:=fun x hx=>by
   rcases hx with hx | hx
   ·exact h4 x hx
   ·omega
  have k12:w12.heap[B]?=w11.heap[B]?∧w12.heap[B1]?=w11.heap[B1]?:=⟨(hu12.get gB fun hx=>(hFA B hx).2.2 rfl).trans gB.symm,(hu12.get gA11 fun hx=>by have:=hFA B1 hx;omega).trans gA11.symm⟩
  have u12:Upd (fun x=>A≤x) w w12:=(Upd.ext e11).trans (hu12.mono fun x _ hx=>(hFA x hx).1)
  obtain ⟨hquiet,hr,hcase⟩:=room_tidy hp hn hN hb8
  have fin:∀ w',Ext w12 w'→R (.bool true) w':=fun w' he=>by
   have hse:=he.size
   refine hR _ _ ⟨rfl,u12.then he,fs,_,⟨F,X,Y,M,q,a,cap,⟨Ext.get he (rd k12).1,rfl,h12.ext he,fun x hx=>by have:=h4 x hx;omega,fun x hx=>by have:=h5 x hx;omega,h6,h7,h8⟩,((hy.ext e11).upd hu12 fun b hb hx=>?_).ext he,fun x hx=>by have:=hyb x hx;exact ⟨this.1,by omega,this.2.2⟩⟩,hquiet,hr.mono (by omega) (by omega)⟩
   have:=hyb b hb
   rcases hx with hx | hx
   ·exact this.2.2.1 hx
   ·exact this.2.2.2.1 hx
  refine ⟨_,rfl,k12,br_eq (fun h0=>?_) fun h0=>?_⟩
  ·intro w13 hd13
   have k13:=keepE k12 hd13.upd
   refine ⟨fun u=>u.heap[B]?=w11.heap[B]?∧u.heap[B1]?=w11.heap[B1]?,k13,_,fun u hu=>cell_of (rd hu).1 rfl,_,fun u hu=>cell_of (rd hu).2 rfl,by decide,(log_Blanks_spec (h12.ext hd13.upd)).mono ?_⟩
   rintro _ w14 ⟨rfl,he14⟩
   have k14:=keepE k13 he14
   refine ⟨_,rfl,k14,?_⟩
   rw [tmod8]
   rcases hcase with ⟨_,hle⟩| ⟨e,_⟩
   ·rw [decide_eq_true hle]
    exact fin _ (hd13.upd.trans he14)
   ·omega
  ·have h11:(s.tidy ((bl.toNat % 8:Nat):Int)).2=11∧2≤badsC (s.tidy ((bl.toNat % 8:Nat):Int)).1.chip:=by
    rcases hcase with ⟨e,_⟩| e
    ·exact absurd (by omega) h0
    ·exact e
   intro w15 hd15
   have k15:=keepE k12 hd15.upd
   refine ⟨fun u=>u.heap[B]?=w11.heap[B]?∧u.heap[B1]?=w11.heap[B1]?,k15,br_eq (fun _=>?_) fun hx=>absurd (by omega) hx⟩
   refine ⟨_,fun u hu=>cell_of (rd hu).1 rfl,(carracklaw14_bads_spec (h12.ext hd15.upd).pool.chip.cin hr.nb).mono ?_⟩
   rintro _ v ⟨rfl,hv⟩
   obtain rfl:w15=v:=hv.symm
   refine ⟨_,rfl,k15,br_dec (fun _=>⟨k15,k15,k15,k15,k15,fin _ hd15.upd⟩) fun hx=>absurd (by omega) hx⟩
 ·
  obtain ⟨F,X,Y,M,q,a,cap,⟨h1,h2,h3,h4,h5,h6,h7,h8⟩,hy,hyb⟩:=hm
  have hask:s.chip.ask 0 0=0:=ask_ok (i:=0) (k:=0) hp.log.alive (by rw [hp.nb];decide) (by rw [hp.np];decide)
  refine ⟨_,cell_of (Ext.get e1 h1) rfl,(log_Sync_spec (h3.ext e1)).mono ?_⟩
  rw [hask]
  rintro _ w2 ⟨rfl,he2⟩
  exact ⟨_,rfl,still _ (e1.trans he2)⟩
 ·
  obtain ⟨F,X,Y,M,q,a,cap,⟨h1,h2,h3,h4,h5,h6,h7,h8⟩,hy,hyb⟩:=hm
  have hqlt:=h3.lt
  have hBlt:B<w.heap.size:=(Array.getElem?_eq_some_iff.1 h1).1
  obtain ⟨o1,o2,oq,o3⟩:=room_open hp
  refine ⟨_,cell_of (Ext.get e1 h1) rfl,(cxPower (h3.ext e1).pool.chip).mono ?_⟩
  rintro _ w23 ⟨he23,p',rfl,hc23⟩
  have hs23:=he23.size
  refine ⟨_,_,rfl,(log_Open_spec hc23 (fun x hx=>hx.2) (fun x hx=>hx.2) (by show s.chip.nb<20;rw [hp.nb];decide) (era:=3) (by decide)).mono ?_⟩
  rintro _ w24 ⟨he24,_,hv⟩
  obtain ⟨M',q',hM',rfl,hq1,hq2,X',_,hX',h24⟩:=hv o1
  have hs24:=he24.size
  have e24:=(e1.trans he23).trans he24
  refine ⟨_,_,rfl,fun w25 hd25=>?_⟩
  have e25:=e24.trans hd25.upd
  have g25:=Ext.get e25 h1
  have hs25:=hd25.upd.size
  refine ⟨fun u=>Ext w25 u,Upd.refl _ _,br_ne (fun hx=>absurd rfl hx) fun _=>br_ne (fun hx=>absurd rfl hx) fun _=>?_⟩
  have h25:=h24.ext hd25.upd
  obtain ⟨L1,G1,r1,_⟩:=h25.pool.chip
  rw [hM',o2] at r1
  refine ⟨_,fun u hu=>cell_of (Ext.get hu g25) rfl,(nand_Bytes_spec r1).mono ?_⟩
  rintro _ w26 ⟨he26,a8,c8,rfl,ob8,_⟩
  obtain ⟨L2,G2,r2,_⟩:=(h3.ext (e25.trans he26)).pool.chip
  refine ⟨_,_,_,rfl,he26,(nand_Bytes_spec r2).mono ?_⟩
  rintro _ w27 ⟨he27,a9,c9,rfl,ob9,_⟩
  refine ⟨_,_,_,rfl,(carrackref00_Same_spec (ob8.row.ext he27) ob9.row (flatten_len r1.ok)).mono ?_⟩
  rintro _ w28 ⟨rfl,he28⟩
  have hsame:(s.chip.power.blocks.flatten == s.chip.blocks.flatten)=true:=by
   have e:s.chip.power.blocks=s.chip.blocks:=rfl
   rw [e];simp
  rw [hsame]
  have e2528:=(he26.trans he27).trans he28
  refine ⟨_,rfl,e2528,?_⟩
  simp only [Bool.not_true,br_false]
  have e28:=e25.trans e2528
  have hs28:=e2528.size
  have g28:=Ext.get e28 h1
  have hs0:=e24.size
  refine store_of g28 (by simp) fun w29 hp29=>?_
  have hu29:=hp29.upd1
  refine store_of hp29.get (by simp [splice]) fun w30 hp30=>?_
  have hu30:=hp30.upd1
  have g30:=hp30.get
  have hs29:=hu29.size
  have hs30:=hu30.size
  have hu2930:Upd (·=B) w28 w30:=hu29.trans hu30
  have hF':∀ x,(Fr w1 w23 x∨(w23.heap.size≤x∧x<q'))→w.heap.size≤x∧x<w24.heap.size:=fun x hx=>by
   rcases hx with hx | hx
   ·have:=hx.1;have:=hx.2;omega
   ·omega
  have hXb:∀ x,X' x→w.heap.size≤x∧x<w24.heap.size:=fun x hx=>by
   rcases hX' x hx with hx | hx
   ·have:=hx.1;have:=hx.2;omega
   ·omega
  refine hR _ _ ⟨rfl,(Upd.ext e28).trans (hu2930.mono fun x _ hx=>by rw [hx];exact h8),fs,_,⟨_,X',Y,M',q',a,cap,⟨by rw [hM'];exact g30,rfl,((h25.ext e2528).upd hu2930 fun x hx=>?_),fun x hx=>by have:=hF' x hx;omega,fun x hx=>by have:=hXb x hx;omega,by omega,by omega,h8⟩,(hy.ext e28).upd hu2930 (fun b hb hx=>(hyb b hb).2.2.2.2 hx),fun x hx=>?_⟩,oq,o3.mono (by omega) (by omega)⟩
  ·rw [hx]
   exact ⟨fun hf=>by have:=hF' B hf;omega,fun hx=>by have:=hXb B hx;omega,by omega⟩
  ·have h9:=hyb x hx
   exact ⟨h9.1,by omega,fun hf=>by have:=hF' x hf;omega,by omega,h9.2.2.2.2⟩
structure ActS where
 do_:Int
 changes:List Change
 blanks:UInt8
def actR:ERep ActS:=ERep.pair intR (ERep.pair (sliceR changeR) u8R (fun x:List Change×UInt8=>x.1) (fun x=>x.2)) (fun x:ActS=>x.do_) (fun x=>(x.changes,x.blanks))
theorem actR_elim {w:World} {G:Nat→Prop} {x:ActS} {vs:List Value} (h:actR.R w G vs x):∃ a c,vs=[.int .i64 x.do_,.slice a x.changes.length c,bv x.blanks]∧SliceAt changeR w G a x.changes:=by
 obtain ⟨u,v,rfl,hu,s,t,rfl,⟨a,c,hs,hc,hb⟩,ht⟩:=h
 have hu':u=[.int .i64 x.do_]:=hu
 have ht':t=[bv x.blanks]:=ht
 have hs':s=[.slice a x.changes.length c]:=hs
 subst hu';subst ht';subst hs'
 exact ⟨a,c,rfl,hb⟩
def GoodA (l:List ActS):Prop:=∀ x∈l,FitsC x.changes∧Small x.changes
def Acts (A:Nat) (w0:World) (B:Nat) (q:Bool) (i:Nat) (u:World):Prop:=∃ fs s,RoomM A u B fs s∧RoomP s fs (163200+255 * i) (1000+100000000 * i)∧Upd (fun x=>A≤x) w0 u∧(q=true→Quiet s)
theorem acts_begun {w0 w1:World} {B p q:Nat} {F X:Nat→Prop} {M:PLoc} {sp:Nat} (hsp:sp≤1) (h:RoomAt w0.heap.size w1 B p q (.slice none 0 0) F X M (room14 sp).1) (he:Ext w0 w1) (b:Bool):Acts w0.heap.size w0 B b 0 w1:=by
 obtain ⟨hr,hq⟩:=room_begun hsp
 obtain ⟨h1,rfl,h3⟩:=h
 exact ⟨[],_,⟨F,X,NoB,M,q,none,0,⟨h1,rfl,h3⟩,SliceAt.nil _ _ _,fun _ h=>h.elim⟩,hr.mono (by omega) (by omega),Upd.ext he,fun _=>hq⟩
theorem Acts.ext {w0:World} {B:Nat} {b:Bool} {i:Nat} {u:World} (h:Acts w0.heap.size w0 B b i u):Ext w0 u:=by
 obtain ⟨_,_,_,_,hu,_⟩:=h
 exact (Upd.refl NoB w0).beyond hu fun x hx=>hx
theorem acts_step {A:Nat} {w0 u:World} {B:Nat} {b:Bool} {i:Nat} (hi:i<80) (h:Acts A w0 B b i u) {G:Nat→Prop} {x:ActS} (hg:FitsC x.changes∧Small x.changes) {a:Option Addr} {c:Nat} (hc:SliceAt changeR u G a x.changes) (hG:∀ y,G y→y<u.heap.size) :
  CallsR prog K.carracklaw14_room_act #[.pointer (some ⟨B,0,none⟩),.agg #[.int .i64 x.do_,.slice a x.changes.length c,bv x.blanks]] u fun v w'=>v= .bool true∧Acts A w0 B b (i+1) w':=by
 obtain ⟨fs,s,hm,hp,hu,hq⟩:=h
 refine (carracklaw14_act_spec hm hp (by omega) (by omega) hc hG hg.1 hg.2 x.do_ x.blanks).mono ?_
 rintro v w' ⟨rfl,hu',fs',s',hm',hq',hp'⟩
 refine ⟨rfl,fs',s',hm',hp'.mono (by omega) ?_,hu.trans hu',fun hb=>hq' (hq hb)⟩
 unfold stepN
 omega
structure ChipP (c:Chip) (fs:List Fact) (N:Nat):Prop where
 well:Well c 3
 alive:c.dead=false
 nb:c.nb=16
 np:c.np=8
 sz:c.sz=128
 sp:c.sp≤4
 low:1≤lowL (partsC c 3)
 tell:told (partsC c 3)=fs
 fine:Fine 128 fs
 last:∀ i,i<c.nb→isHd c i→(hd c i).1.seq≤N
 hits:c.hits.length≤2
theorem ChipP.mono {c:Chip} {fs:List Fact} {N N':Nat} (h:ChipP c fs N) (hN:N≤N'):ChipP c fs N' :=
 ⟨h.well,h.alive,h.nb,h.np,h.sz,h.sp,h.low,h.tell,h.fine,fun i hi hh=>Nat.le_trans (h.last i hi hh) hN,h.hits⟩
theorem br_two {p q:Prop} [Decidable p] [Decidable q] {X Y:Prop} (h1:p→q→X) (h2:Y):br (decide p) (br (decide q) X Y) Y:=br_dec (fun a=>br_dec (fun b=>h1 a b) fun _=>h2) fun _=>h2
structure Spoilt (w w':World) (b:Nat):Prop where
 upd:Upd (·=b) w w'
 u8:∀ a c,U8 w a c→U8 w' a c
theorem Spoilt.refl (w:World) (b:Nat):Spoilt w w b:=⟨Upd.refl _ _,fun _ _ h=>h⟩
theorem Spoilt.trans {a b c:World} {B:Nat} (h:Spoilt a b B) (k:Spoilt b c B):Spoilt a c B:=⟨h.upd.trans k.upd,fun _ _ hx=>k.u8 _ _ (h.u8 _ _ hx)⟩
theorem carrackref00_Spoil_spec {w:World} {a:Option Addr} {n c:Nat} (hu:U8 w a c) (d:UInt8) :
  CallsR prog K.carrackref00_Spoil #[.slice a n c,bv d] w fun v w'=>v= .tuple #[]∧((c=0∧w'=w)∨∃ b,a=some ⟨b,0,none⟩∧Spoilt w w' b):=by
 apply carrackref00_Spoil.sh
 suffices H:∀ R:Value→World→Prop,(∀ v w',v= .tuple #[]∧((c=0∧w'=w)∨∃ b,a=some ⟨b,0,none⟩∧Spoilt w w' b)→R v w')→carrackref00_Spoil.body a n c d.toNat w R from H _ fun _ _ h=>h
 intro R hR
 unfold carrackref00_Spoil.body
 by_cases h0:c=0
 ·refine ⟨by simp,by simp,by simp,by simp,by simp,by simp,by simp,?_⟩
  simp only [Option.getD_some,Option.getD_none,h0]
  refine ⟨fun x u=>x=0∧u=w,fun _ _=>0,⟨rfl,rfl⟩,?_⟩
  rintro x u ⟨rfl,rfl⟩
  refine br_dec (fun h=>?_) fun _=>hR _ _ ⟨rfl,.inl ⟨h0,rfl⟩⟩
  simp at h
 ·obtain ⟨b,cur,hc63,rfl,hb,hs,hv⟩:=hu.resolve_left h0
  refine slice_any (lo:=0) (hi:=c) (mx:=c) (by simp) (by simp) (by simp) (by omega) (by omega) (by omega) (by simp) fun a2 ha2=>?_
  have ha2:a2=some ⟨b,0,none⟩:=by rcases ha2 with h | ⟨_,h⟩<;>simpa using h
  subst ha2
  simp only [Nat.sub_zero]
  refine ⟨fun x u=>∃ i:Nat,x=i∧i≤c∧Spoilt w u b∧∃ cur',u.heap[b]?=some (.cells cur' T.uint8 (0,0))∧cur'.size=cur.size∧∀ v∈cur'.toList,∃ x:Int,v= .int .u8 x,fun x _=>((c:Int) - x).toNat,⟨0,rfl,by omega,Spoilt.refl _ _,cur,hb,rfl,hv⟩,?_⟩
  rintro x u ⟨i,rfl,hi,hsp,cur',hb',hs',hv'⟩
  refine br_dec (fun hlt=>?_) fun hge=>hR _ _ ⟨rfl,.inr ⟨b,rfl,hsp⟩⟩
  have hi':i<c:=by omega
  have hic:i<cur'.size:=by omega
  obtain ⟨y,hy⟩:=hv' cur'[i] (by simp)
  refine ⟨by omega,by omega,?_⟩
  simp only [nilC_some',add_lit,Int.toNat_natCast,Nat.mul_one,Nat.zero_add]
  refine ⟨y,cell_of hb' (by simp [hic,hy]),⟨by omega,by omega,?_⟩⟩
  simp only [nilC_some',add_lit,Int.toNat_natCast,Nat.mul_one,Nat.zero_add]
  refine store_of (o:=i) hb' (by simp;omega) fun w2 hp=>?_
  have ew:IntKind.i64.wrap ((i:Int)+1)=((i+1:Nat):Int):=w64 (by omega) (by omega)
  rw [ew]
  have hsz:(splice cur' i [.int .u8 (IntKind.u8.wrap (y+d.toNat))]).size=cur'.size:=splice_size _ _ _ (by simp;omega)
  have hall:∀ v∈(splice cur' i [.int .u8 (IntKind.u8.wrap (y+d.toNat))]).toList,∃ x:Int,v= .int .u8 x:=fun v hv=>by
   simp only [splice,List.mem_append] at hv
   rcases hv with (hv | hv) | hv
   ·exact hv' v (List.mem_of_mem_take hv)
   ·exact ⟨_,by simpa using hv⟩
   ·exact hv' v (List.mem_of_mem_drop hv)
  have hone:Spoilt u w2 b:=by
   refine ⟨hp.upd1.mono fun x _ hx=>hx,fun a' c' h=>?_⟩
   rcases h with h | ⟨b',cur2,hc2,rfl,hb2,hs2,hv2⟩
   ·exact .inl h
   ·by_cases e:b'=b
    ·subst e
     rw [hb'] at hb2
     cases hb2
     exact .inr ⟨b',_,hc2,rfl,hp.get,by rw [hsz];exact hs2,hall⟩
    ·exact .inr ⟨b',cur2,hc2,rfl,hp.upd1.get hb2 e,hs2,hv2⟩
  exact ⟨⟨i+1,rfl,hi',hsp.trans hone,_,hp.get,by rw [hsz];exact hs',hall⟩,meas hi'⟩
theorem carrackref00_Changes_same {w:World} {G H:Nat→Prop} {a b:Option Addr} {c d:Nat} {l:List Change} (ha:SliceAt changeR w G a l) (hb:SliceAt changeR w H b l) (hn:l.length≤9000000000000000000) (hv:∀ f∈l,f.val.length≤1000000000000000000) :
  CallsR prog K.carrackref00_Changes #[.slice a l.length c,.slice b l.length d] w fun v w'=>v= .bool true∧Ext w w':=by
 apply carrackref00_Changes.sh
 unfold carrackref00_Changes.body
 refine br_ne (fun hne=>absurd rfl hne) fun hlm=>?_
 refine ⟨fun x u=>∃ i:Nat,x=i∧i≤l.length∧Ext w u,fun x _=>((l.length:Int) - x).toNat,⟨0,rfl,by omega,Upd.refl _ _⟩,?_⟩
 rintro x u ⟨i,rfl,hi,heu⟩
 refine br_dec (fun hlt=>?_) fun hge=>⟨rfl,heu⟩
 have hi':i<l.length:=by omega
 intro w2 hd2
 have e2:=heu.trans hd2.upd
 have ha2:=ha.ext e2
 have hb2:=hb.ext e2
 refine ⟨fun v=>Ext w2 v,Upd.refl _ _,SliceAt.idx (r:=changeR) ha2 rfl hi' fun b1 o1 vs _ hrow hR _=>?_⟩
 obtain ⟨a1,c1,rfl,_,hba,_⟩:=changeR_elim hR
 refine ⟨_,_,_,_,fun u1 hu1=>(RowAt.take (hrow.ext hu1) 4).cells,SliceAt.idx (r:=changeR) hb2 rfl hi' fun b2 o2 vs2 _ hrow2 hR2 _=>?_⟩
 obtain ⟨a2,c2,rfl,_,hbb,_⟩:=changeR_elim hR2
 refine ⟨_,_,_,_,fun u1 hu1=>(RowAt.take (hrow2.ext hu1) 4).cells,?_⟩
 rw [keys_beq]
 refine br_intro (fun hk=>by simp at hk) fun hk=>?_
 refine SliceAt.idx (r:=changeR) ha2 rfl hi' fun b3 o3 vs3 _ hrow3 hR3 _=>?_
 obtain ⟨a3,c3,rfl,_,hb3,_⟩:=changeR_elim hR3
 refine ⟨l[i].gone,fun u1 hu1=>?_,SliceAt.idx (r:=changeR) hb2 rfl hi' fun b4 o4 vs4 _ hrow4 hR4 _=>?_⟩
 ·obtain ⟨_,_,e,g⟩:=((hrow3.ext hu1).drop 5).cell (i:=0) (v:=.bool l[i].gone) rfl
  cases e
  exact g
 obtain ⟨a4,c4,rfl,_,hb4,_⟩:=changeR_elim hR4
 refine ⟨l[i].gone,fun u1 hu1=>?_,br_intro (fun hk=>by simp at hk) fun hk=>?_⟩
 ·obtain ⟨_,_,e,g⟩:=((hrow4.ext hu1).drop 5).cell (i:=0) (v:=.bool l[i].gone) rfl
  cases e
  exact g
 refine SliceAt.idx (r:=changeR) ha2 rfl hi' fun b5 o5 vs5 _ hrow5 hR5 _=>?_
 obtain ⟨a5,c5,rfl,_,hb5,_⟩:=changeR_elim hR5
 refine ⟨a5,l[i].val.length,c5,fun u1 hu1=>?_,SliceAt.idx (r:=changeR) hb2 rfl hi' fun b6 o6 vs6 _ hrow6 hR6 _=>?_⟩
 ·obtain ⟨_,_,e,g⟩:=((hrow5.ext hu1).drop 4).cell (i:=0) (v:=.slice a5 l[i].val.length c5) rfl
  cases e
  exact g
 obtain ⟨a6,c6,rfl,_,hb6,_⟩:=changeR_elim hR6
 refine ⟨a6,l[i].val.length,c6,fun u1 hu1=>?_,(carrackref00_Same_big hb5 hb6 (hv _ (List.getElem_mem hi'))).mono ?_⟩
 ·obtain ⟨_,_,e,g⟩:=((hrow6.ext hu1).drop 4).cell (i:=0) (v:=.slice a6 l[i].val.length c6) rfl
  cases e
  exact g
 rintro _ w3 ⟨rfl,he3⟩
 refine ⟨_,rfl,he3,?_⟩
 have ew:IntKind.i64.wrap ((i:Int)+1)=((i+1:Nat):Int):=w64 (by omega) (by omega)
 rw [ew]
 refine br_intro (fun hs=>by simp at hs) fun hs=>⟨⟨i+1,rfl,hi',e2.trans he3⟩,meas hi'⟩
theorem put_refused {s:LogS} (ha:s.chip.ask 0 0=0) {cs:List Change} (h:(putL s.chip.sz cs).2≠0):s.put cs=(s,(putL s.chip.sz cs).2):=by
 rw [LogS.put_eq,if_neg (by omega),if_pos h]
section
open Go.ChangeShapes Go.WideShapes Go.ChangeAt Go.RowKit
theorem Ext.below {w w':World} (h:Ext w w'):Below w.heap.size w w':=⟨h.os,h.tape,h.output,h.size,fun k hk=>h.blk k hk (fun hf=>hf)⟩
section
variable {H:Type} {enc:TypeId×Value→H} {P:Program}
theorem trodAll_stays (hl:laidOutB P=true) {W W':World} (hb:Below W.heap.size W W') {sp:Nat→Bool}:∀ {ts:List TypeId} {vs:List Value} {ds:List (DataW H)} {ps:List MemPlace},(∀ t∈ts,P.readableRec t=true∧t<P.types.size)→
  DataW.TrodAll enc P W 0 (fun _=>true) true ts vs ds ps→(∀ x∈ps,x.block<W.heap.size)→(∀ x∈ps,sp x.block=true)→DataW.TrodAll enc P W' 0 sp true ts vs ds ps
 | [],_,_,_,_,h,_,_=>by
  obtain ⟨rfl,rfl,rfl⟩:=trodAll_nil h
  rfl
 | t :: ts,_,_,_,hr,h,hlt,hsp=>by
  obtain ⟨v,vs1,d,ds1,a,b,rfl,rfl,rfl,h1,h2⟩:=trodAll_cons h
  exact ⟨a,b,WideElems.Trod_stays hl (hr t (by simp)).1 (hr t (by simp)).2 h1 (fun x hx=>hb.same (hlt x (by simp [hx]))) (fun x hx=>hsp x (by simp [hx])),
   trodAll_stays hl hb (fun u hu=>hr u (by simp [hu])) h2 (fun x hx=>hlt x (by simp [hx])) (fun x hx=>hsp x (by simp [hx])),rfl⟩
theorem post_true (hl:laidOutB P=true) {f:Func} {s:ChangeSpec} {apart fresh handsOn again:Bool} {W W':World} {args:Array Value} {ds gs:List (DataW H)} {before:List MemPlace} {tb:TypeId}
  (hW:DataW.Whole enc P f.params.toList s.vars apart W args.toList ds gs before) (hv:s.vars=[]) (hrows:∀ t∈f.params.toList,P.readableRec t=true∧t<P.types.size) (hb:Below W.heap.size W W')
  (ht:P.underlying tb=some .bool) (hres:f.resultTypes=#[tb]) (hfn:(s.fn H (ds ++ gs))={ results:=[.lit (.bool true)],args:=ds }) :
  s.post enc P f apart fresh handsOn again W args (.bool true) W':=by
 have hlt:=hW.lt
 have hW':=hW
 obtain ⟨p,q,hA,hV,hpq,hz,hn⟩:=hW'
 rw [hv] at hV
 obtain ⟨rfl,rfl⟩:=trodVars_none hV
 simp only [List.append_nil] at hpq
 subst hpq
 have hargs:∀ sp:Nat→Bool,(∀ x∈before,sp x.block=true)→DataW.TrodAll enc P W' 0 sp true f.params.toList args.toList ds before:=fun sp hsp=>trodAll_stays hl hb hrows hA hlt hsp
 have hresT:∀ (b:Nat) (sp:Nat→Bool) (hd:Bool),DataW.TrodAll enc P W' b sp hd f.resultTypes.toList ((Value.bool true).resultList f.resultTypes.size) [.lit (.bool true)] []:=by
  intro b sp hd
  rw [hres]
  exact trodAll_cons_mk (shut_bool ht _) trodAll_mk0
 refine ⟨ds,[],before,[],before,[],hW,?_,?_,?_,hb.frame _,fun _=>⟨?_,.lit (.bool true) :: ds,[],before,⟨before,[],?_,?_,by simp,?_,hn⟩,fun p hp _=>hp⟩⟩
 ·rw [hfn];exact hresT _ _ _
 ·rw [hfn];exact hargs _ (fun x hx=>by simpa using hlt x hx)
 ·rw [hv,hfn];rfl
 ·exact ok_one hres rfl (okWide_bool_mk ht _)
 ·have:=trodAll_append (hargs _ (fun _ _=>rfl)) (hresT 0 (fun _=>true) true)
  exact this
 ·rw [hv];rfl
 ·intro b off hp
  have hbl:=hlt _ hp
  rw [hb.frozen (p:=⟨b,off,none⟩) hbl]
  exact hz b off hp
theorem row_of_cells {w:World} {a:Addr} {vs:List Value} (h:∀ (j:Nat) v,vs[j]?=some v→w.cell? (a.add j)=some v):RowAt w (some a) vs:=by
 cases vs with
 | nil=>exact .inl rfl
 | cons v vs =>
  have h0:=h 0 v rfl
  rw [add_zero] at h0
  unfold World.cell? at h0
  split at h0
  ·rename_i c t fr hb
   split at h0
   ·cases h0
   ·rename_i hs
    obtain ⟨b,o,s⟩:=a
    cases s with
    | some s=>simp at hs
    | none =>
     refine .inr ⟨b,o,c,t,fr,rfl,hb,fun j u hj=>?_⟩
     have:=h j u hj
     rw [add_lit] at this
     simpa [World.cell?,hb] using this
  ·cases h0
theorem cells_get {w:World} {base:Nat} {a:Addr} {n:Nat} {cs:List Value} (h:w.cells? base a n=some cs):cs.length=n∧∀ (j:Nat) v,cs[j]?=some v→w.cell? (a.add j)=some v:=by
 unfold World.cells? at h
 split at h
 ·have hl:cs.length=n:=by
   have:=mapM_some_length h
   simpa using this
  refine ⟨hl,fun j v hj=>?_⟩
  have hjn:j<n:=by rw [← hl];exact (List.getElem?_eq_some_iff.1 hj).1
  have:=mapM_some_get h j j (by simp [hjn])
  rw [hj] at this
  exact this
 ·cases h
theorem add_add (a:Addr) (x y:Nat):(a.add x).add y=a.add (x+y):=by
 unfold Addr.add
 by_cases hx:x=0
 ·subst hx;simp
 ·by_cases hy:y=0
  ·subst hy;simp [hx]
  ·rw [if_neg hx,if_neg hy,if_neg (by omega)]
   simp [Nat.add_assoc]
theorem flat_at {k:Nat} {g:Nat→List Value}:∀ (n:Nat),(∀ i,i<n→(g i).length=k)→((List.range n).flatMap g).length=n * k∧∀ (j:Nat) v,((List.range n).flatMap g)[j]?=some v→∃ i c,i<n∧j=i * k+c∧(g i)[c]?=some v
 | 0,_=>by simp
 | n+1,h=>by
  obtain ⟨hl,hg⟩:=flat_at n fun i hi=>h i (by omega)
  have hn:=h n (by omega)
  rw [List.range_succ,List.flatMap_append]
  refine ⟨by simp [hl,hn,Nat.succ_mul],fun j v hj=>?_⟩
  by_cases hlt:j<((List.range n).flatMap g).length
  ·rw [List.getElem?_append_left hlt] at hj
   obtain ⟨i,c,hi,e,hc⟩:=hg j v hj
   exact ⟨i,c,by omega,e,hc⟩
  ·rw [List.getElem?_append_right (by omega),hl] at hj
   exact ⟨n,j - n * k,by omega,by rw [hl] at hlt;omega,by simpa using hj⟩
theorem open_rows {w:World} {base:Nat} {spare:Nat→Bool} {held:Bool} {t e:TypeId} {fuel:Nat} {cs:List Value} {x:DataW H×List MemPlace} (ht:P.underlying t=some (.slice e)) (h:DataW.trod enc P w base spare held fuel t cs=some x) :
  ∃ (a:Option Addr) (len cap:Nat) (rows:List (List Value)) (ds:List (DataW H)),cs=[.slice a len cap]∧len≤cap∧rows.length=len∧ds.length=len∧(∀ r∈rows,r.length=P.cellsOf e)∧RowAt w a rows.flatten∧(a=none→cap=0)∧
   (∀ (i:Nat) r,rows[i]?=some r→∃ n d ps,ds[i]?=some d∧DataW.trod enc P w base spare held n e r=some (d,ps))∧((x.1= .nil∧len=0)∨∃ sp,x.1= .slice ds sp):=by
 rcases DataW.trod_slice ht h with ⟨rfl,rfl⟩| ⟨a,len,cap,elems,rest,n,_,rfl,rfl,hb,hl,hm,hlen,hel,hsp,hns⟩
 ·exact ⟨none,0,0,[],[],rfl,Nat.le_refl _,rfl,rfl,by simp,RowAt.nil _ _,fun _=>rfl,fun i r hr=>by simp at hr,.inl ⟨rfl,rfl⟩⟩
 ·have hrow:∀ i,i<len→∃ r,w.cells? base (a.add (i * P.cellsOf e)) (P.cellsOf e)=some r∧DataW.trod enc P w base spare held n e r=elems[i]?∧∃ y,elems[i]?=some y:=by
   intro i hi
   have h1:=hel i hi
   have h2:∃ y,elems[i]?=some y:=⟨elems[i]'(by omega),by simp [hlen,hi]⟩
   obtain ⟨y,hy⟩:=h2
   rw [hy] at h1
   cases hc:w.cells? base (a.add (i * P.cellsOf e)) (P.cellsOf e) with
   | none=>rw [hc] at h1;cases h1
   | some r=>rw [hc] at h1;exact ⟨r,rfl,by rw [hy];exact h1,y,hy⟩
  have hg:∀ i,i<len→w.cells? base (a.add (i * P.cellsOf e)) (P.cellsOf e)=some ((w.cells? base (a.add (i * P.cellsOf e)) (P.cellsOf e)).getD []):=by
   intro i hi
   obtain ⟨r,hr,_⟩:=hrow i hi
   rw [hr];rfl
  have hgl:∀ i,i<len→((w.cells? base (a.add (i * P.cellsOf e)) (P.cellsOf e)).getD []).length=P.cellsOf e:=fun i hi=>(cells_get (hg i hi)).1
  obtain ⟨_,hflat⟩:=flat_at (g:=fun i=>(w.cells? base (a.add (i * P.cellsOf e)) (P.cellsOf e)).getD []) len hgl
  refine ⟨some a,len,cap,(List.range len).map fun i=>(w.cells? base (a.add (i * P.cellsOf e)) (P.cellsOf e)).getD [],elems.map (·.1),rfl,hl,by simp,by simpa using hlen,?_,?_,(fun h=>by cases h),?_,.inr ⟨_,rfl⟩⟩
  ·intro r hr
   obtain ⟨i,hi,rfl⟩:=List.mem_map.1 hr
   exact hgl i (by simpa using hi)
  ·refine row_of_cells fun j v hj=>?_
   rw [← List.flatMap_def] at hj
   obtain ⟨i,c,hi,rfl,hc⟩:=hflat j v hj
   rw [← add_add]
   exact (cells_get (hg i hi)).2 c v hc
  ·intro i r hr
   have hi:i<len:=by have:=(List.getElem?_eq_some_iff.1 hr).1;simpa using this
   obtain ⟨r',h1,h2,y,hy⟩:=hrow i hi
   have:r=r':=by
    simp [hi,h1] at hr
    exact hr.symm
   subst this
   exact ⟨n,y.1,y.2,by simp [hy],by rw [h2,hy]⟩
theorem list_choice {α β:Type} {f:α→β} {Q:α→Prop}:∀ (l:List β),(∀ r∈l,∃ x,r=f x∧Q x)→∃ xs:List α,l=xs.map f∧∀ x∈xs,Q x
 | [],_=>⟨[],rfl,by simp⟩
 | r :: l,h=>by
  obtain ⟨x,e,q⟩:=h r (by simp)
  obtain ⟨xs,e',q'⟩:=list_choice l fun r hr=>h r (by simp [hr])
  refine ⟨x :: xs,by rw [e,e'];rfl,fun y hy=>?_⟩
  rcases List.mem_cons.1 hy with rfl | hy
  ·exact q
  ·exact q' y hy
theorem byte_of {n:Int} (h:(Lit.int .u8 n).wf=true):∃ x:UInt8,Value.int .u8 n=bv x:=by
 have hb:0≤n∧n≤255:=by simpa [Lit.wf,IntKind.min,IntKind.max,IntKind.signed,IntKind.bits] using h
 exact ⟨UInt8.ofNat n.toNat,by simp;omega⟩
theorem flat_single (l:List UInt8):(l.map fun x=>[bv x]).flatten=l.map bv:=by
 induction l with
 | nil=>rfl
 | cons x l ih=>simp [ih]
end
end
section
open Go.ChangeShapes Go.WideShapes Go.ChangeAt Go.RowKit
section
variable {H:Type} {enc:TypeId×Value→H} {P:Program}
end
end
section
open Go.ChangeShapes Go.WideShapes Go.ChangeAt Go.RowKit
theorem byte_bv {n:Int} (h:(Lit.int .u8 n).wf=true):Value.int .u8 n=bv (UInt8.ofNat n.toNat):=by
 have hb:0≤n∧n≤255:=by simpa [Lit.wf,IntKind.min,IntKind.max,IntKind.signed,IntKind.bits] using h
 simp
 omega
section
variable {H:Type} {enc:TypeId×Value→H} {P:Program}
def Fits (P:Program) (t:TypeId) (d:DataW H):Prop:=∀ n∈d.weights P t,n≤reachBytes
theorem fits_each {ts:List TypeId} {ds:List (DataW H)} (h:(DataW.weightsEach P ts ds).all (·≤reachBytes)=true) {j:Nat} {t:TypeId} {d:DataW H} (ht:ts[j]?=some t) (hd:ds[j]?=some d):Fits P t d:=fun n hn=>by
 have:=List.all_eq_true.1 h _ (DataW.weights_mem_each ht hd n hn)
 simpa using this
theorem weights_all_mem {e:TypeId}:∀ {l:List (DataW H)} {d:DataW H},d∈l→∀ n∈d.weights P e,n∈DataW.weightsAll P e l
 | d0 :: l,d,hm,n,hn=>by
  simp only [DataW.weightsAll,List.mem_append]
  rcases List.mem_cons.1 hm with rfl | hm
  ·exact .inl hn
  ·exact .inr (weights_all_mem hm n hn)
theorem Fits.elem {t e:TypeId} {elems spare:List (DataW H)} (h:Fits P t (.slice elems spare)) (hu:P.underlying t=some (.slice e)) {d:DataW H} (hd:d∈elems):Fits P e d:=fun n hn=>by
 refine h n ?_
 simp only [DataW.weights,hu,List.mem_cons,List.mem_append]
 exact .inr (.inl (weights_all_mem hd n hn))
theorem Fits.len {t e:TypeId} {elems spare:List (DataW H)} (h:Fits P t (.slice elems spare)) (hu:P.underlying t=some (.slice e)):(elems.length+spare.length) * P.bytesOf e≤reachBytes:=by
 refine h _ ?_
 simp only [DataW.weights,hu,List.mem_cons]
 exact .inl trivial
theorem Fits.part {t:TypeId} {fs:Array Field} {parts:List (DataW H)} (h:Fits P t (.agg parts)) (hu:P.underlying t=some (.struct fs)) {i:Nat} {f:Field} {d:DataW H} (hf:fs[i]?=some f) (hd:parts[i]?=some d):Fits P f.type d:=fun n hn=>by
 refine h n ?_
 simp only [DataW.weights,hu]
 refine DataW.weights_mem_each (j:=i) ?_ hd n hn
 simp [hf]
theorem open_rows_fit {w:World} {base:Nat} {spare:Nat→Bool} {held:Bool} {t e:TypeId} {fuel:Nat} {cs:List Value} {x:DataW H×List MemPlace} (ht:P.underlying t=some (.slice e)) (h:DataW.trod enc P w base spare held fuel t cs=some x) (hfit:Fits P t x.1) :
  ∃ (a:Option Addr) (len cap:Nat) (rows:List (List Value)),cs=[.slice a len cap]∧len≤cap∧rows.length=len∧(∀ r∈rows,r.length=P.cellsOf e)∧RowAt w a rows.flatten∧(a=none→cap=0)∧len * P.bytesOf e≤reachBytes∧
   (∀ r∈rows,∃ n d ps,Fits P e d∧DataW.trod enc P w base spare held n e r=some (d,ps)):=by
 obtain ⟨a,len,cap,rows,ds,rfl,hlc,hrl,hdl,hrk,hrow,hn,hel,hx⟩:=open_rows ht h
 rcases hx with ⟨hx,hl0⟩| ⟨sp,hx⟩
 ·subst hl0
  have:rows=[]:=List.eq_nil_of_length_eq_zero hrl
  subst this
  exact ⟨a,0,cap,[],rfl,hlc,rfl,hrk,hrow,hn,by omega,fun r hr=>by simp at hr⟩
 ·rw [hx] at hfit
  refine ⟨a,len,cap,rows,rfl,hlc,hrl,hrk,hrow,hn,?_,fun r hr=>?_⟩
  ·have:=hfit.len ht
   rw [hdl,Nat.add_mul] at this
   omega
  ·obtain ⟨i,hi,rfl⟩:=List.getElem_of_mem hr
   obtain ⟨n,d,ps,hd,ht'⟩:=hel i _ (List.getElem?_eq_getElem hi)
   exact ⟨n,d,ps,hfit.elem ht (List.mem_of_getElem? hd),ht'⟩
theorem open_field {w:World} {base:Nat} {spare:Nat→Bool} {held:Bool} {e:TypeId} {fs:Array Field} {fuel:Nat} {cs:List Value} {x:DataW H×List MemPlace} (he:P.underlying e=some (.struct fs)) (h:DataW.trod enc P w base spare held fuel e cs=some x) (hfit:Fits P e x.1) :
  cs.length=P.cellsOf e∧∀ (i:Nat) f,fs[i]?=some f→∃ n y,DataW.trod enc P w base spare held n f.type ((cs.drop f.offset).take (P.cellsOf f.type))=some y∧Fits P f.type y.1:=by
 obtain ⟨xs,n,_,rfl,hlen,hxs,hfs⟩:=DataW.trod_struct he h
 refine ⟨hlen,fun i f hf=>?_⟩
 have hi:i<xs.length:=by rw [hxs];exact (Array.getElem?_eq_some_iff.1 hf).1
 have g:=hfs i f hf
 rw [List.getElem?_eq_getElem hi] at g
 exact ⟨n,_,g,hfit.part he hf (by simp [hi])⟩
theorem open_bytes_fit {w:World} {base:Nat} {spare:Nat→Bool} {held:Bool} {t e:TypeId} {fuel:Nat} {cs:List Value} {x:DataW H×List MemPlace} (ht:P.underlying t=some (.slice e)) (he:P.underlying e=some (.int .u8)) (hb:P.bytesOf e=1) (h:DataW.trod enc P w base spare held fuel t cs=some x) (hfit:Fits P t x.1) :
  ∃ (a:Option Addr) (l:List UInt8) (cap:Nat),cs=[.slice a l.length cap]∧l.length≤cap∧BytesAt w a l∧(a=none→cap=0)∧l.length≤reachBytes:=by
 obtain ⟨a,len,cap,rows,rfl,hlc,hrl,hrk,hrow,hn,hlen,hel⟩:=open_rows_fit ht h hfit
 obtain ⟨l,rfl,_⟩:=list_choice (f:=fun x:UInt8=>[bv x]) (Q:=fun _=>True) rows (fun r hr=>by
  obtain ⟨n,d,ps,_,ht'⟩:=hel r hr
  obtain ⟨m,hm,_,hw⟩:=DataW.trod_int he ht'
  obtain ⟨x,hx⟩:=byte_of hw
  exact ⟨x,by rw [hm,hx],trivial⟩)
 simp at hrl
 subst hrl
 rw [hb,Nat.mul_one] at hlen
 refine ⟨a,l,cap,rfl,hlc,?_,hn,hlen⟩
 have e2:(l.map fun x=>[bv x]).flatten=l.map bv:=flat_single l
 rw [e2] at hrow
 exact hrow
end
end
section
open Go.ChangeShapes Go.WideShapes Go.ChangeAt Go.RowKit
section
variable {H:Type} (enc:TypeId×Value→H) (P:Program)
def Opens {α:Type} (r:ERep α) (e:TypeId) (good:α→Prop):Prop :=
 P.cellsOf e=r.k∧∀ {w:World} {base:Nat} {spare:Nat→Bool} {held:Bool} {fuel:Nat} {cs:List Value} {x:DataW H×List MemPlace},DataW.trod enc P w base spare held fuel e cs=some x→Fits P e x.1→∃ y,r.R w (fun b=>b<w.heap.size) cs y∧good y
def OpensF {α:Type} (fs:List Field) (o:Nat) (r:ERep α) (good:α→Prop):Prop :=
 ∀ {w:World} {base:Nat} {spare:Nat→Bool} {held:Bool} {cs:List Value},cs.length=o+r.k→(∀ f∈fs,∃ n y,DataW.trod enc P w base spare held n f.type ((cs.drop f.offset).take (P.cellsOf f.type))=some y∧Fits P f.type y.1)→∃ y,r.R w (fun b=>b<w.heap.size) (cs.drop o) y∧good y
variable {enc P}
theorem opensF_one {α:Type} {r:ERep α} {f:Field} {good:α→Prop} (h:Opens enc P r f.type good):OpensF enc P [f] f.offset r good:=by
 intro w base spare held cs hl hf
 obtain ⟨n,y,hy,hfit⟩:=hf f (by simp)
 obtain ⟨z,hz,hg⟩:=h.2 hy hfit
 rw [h.1,List.take_of_length_le (by rw [List.length_drop];omega)] at hz
 exact ⟨z,hz,hg⟩
theorem opensF_end {α:Type} {r:ERep α} {f:Field} {good:α→Prop} {o:Nat} (h:Opens enc P r f.type good) (ho:o=f.offset):OpensF enc P [f] o r good:=by subst ho;exact opensF_one h
theorem opensF_cons {α β γ:Type} {r:ERep β} {s:ERep γ} {f:α→β} {g:α→γ} (mk:β→γ→α) (h1:∀ x y,f (mk x y)=x) (h2:∀ x y,g (mk x y)=y) {fd:Field} {fs:List Field} {goodr:β→Prop} {goods:γ→Prop} {good:α→Prop}
  (hr:Opens enc P r fd.type goodr) {o:Nat} (ho:o=fd.offset+r.k) (hs:OpensF enc P fs o s goods) (hg:∀ x y,goodr x→goods y→good (mk x y)):OpensF enc P (fd :: fs) fd.offset (ERep.pair r s f g) good:=by
 intro w base spare held cs hl hf
 subst ho
 obtain ⟨n,y,hy,hfit⟩:=hf fd (by simp)
 obtain ⟨x,hx,hgx⟩:=hr.2 hy hfit
 have hl':cs.length=fd.offset+(r.k+s.k):=hl
 obtain ⟨z,hz,hgz⟩:=hs (by omega) fun f' hf'=>hf f' (by simp [hf'])
 rw [hr.1] at hx
 refine ⟨mk x z,⟨(cs.drop fd.offset).take r.k,cs.drop (fd.offset+r.k),?_,?_,?_⟩,hg x z hgx hgz⟩
 ·rw [← List.drop_drop,List.take_append_drop]
 ·rw [h1];exact hx
 ·rw [h2];exact hz
theorem opensF_at {α β γ:Type} {r:ERep β} {s:ERep γ} {f:α→β} {g:α→γ} (mk:β→γ→α) (h1:∀ x y,f (mk x y)=x) (h2:∀ x y,g (mk x y)=y) {fd:Field} {fs:List Field} {goodr:β→Prop} {goods:γ→Prop} {good:α→Prop} {o₀:Nat}
  (hr:Opens enc P r fd.type goodr) {o:Nat} (ho₀:o₀=fd.offset) (ho:o=o₀+r.k) (hs:OpensF enc P fs o s goods) (hg:∀ x y,goodr x→goods y→good (mk x y)):OpensF enc P (fd :: fs) o₀ (ERep.pair r s f g) good:=by
 subst ho₀
 exact opensF_cons mk h1 h2 hr ho hs hg
theorem opens_struct {α:Type} {r:ERep α} {e:TypeId} {fs:Array Field} {good:α→Prop} (he:P.underlying e=some (.struct fs)) (hc:P.cellsOf e=r.k) (h:OpensF enc P fs.toList 0 r good):Opens enc P r e good:=by
 refine ⟨hc,fun {w base spare held fuel cs x} ht hfit=>?_⟩
 obtain ⟨hl,hf⟩:=open_field he ht hfit
 have:=h (w:=w) (base:=base) (spare:=spare) (held:=held) (cs:=cs) (by rw [hl,hc];omega) fun f hf'=>by
  obtain ⟨i,hi,e⟩:=List.getElem_of_mem hf'
  have hi':i<fs.size:=by simpa using hi
  exact hf i f (by simp at e;simp [hi',e])
 simpa using this
theorem opens_int {e:TypeId} (he:P.underlying e=some (.int .i64)) (hc:P.cellsOf e=1):Opens enc P intR e fun _=>True:=by
 refine ⟨hc,fun ht hfit=>?_⟩
 obtain ⟨n,hn,_,_⟩:=DataW.trod_int he ht
 exact ⟨n,hn,trivial⟩
theorem opens_u8 {e:TypeId} (he:P.underlying e=some (.int .u8)) (hc:P.cellsOf e=1):Opens enc P u8R e fun _=>True:=by
 refine ⟨hc,fun ht hfit=>?_⟩
 obtain ⟨n,hn,_,hw⟩:=DataW.trod_int he ht
 exact ⟨UInt8.ofNat n.toNat,by rw [hn,byte_bv hw];rfl,trivial⟩
theorem opens_bool {e:TypeId} (he:P.underlying e=some .bool) (hc:P.cellsOf e=1):Opens enc P boolR e fun _=>True:=by
 refine ⟨hc,fun ht hfit=>?_⟩
 obtain ⟨b,hb,_⟩:=DataW.trod_bool he ht
 exact ⟨b,hb,trivial⟩
def strR:ERep ByteArray:=flatR (fun s=>[.string s]) 1 (by decide) (fun _=>rfl) (fun b v hv=>by simp at hv;rw [hv];rfl)
theorem opens_str {e:TypeId} (he:P.underlying e=some .string) (hc:P.cellsOf e=1):Opens enc P strR e fun s=>s.size<9223372036854775807:=by
 refine ⟨hc,fun {w base spare held fuel cs x} ht hfit=>?_⟩
 obtain ⟨s,hs,hx,hm⟩:=DataW.trod_string he ht
 refine ⟨s,hs,?_⟩
 have:reachBytes<9223372036854775807:=by decide
 have h2:=hfit s.data.toList.length (by rw [hx];simp [DataW.weights])
 show s.size<9223372036854775807
 rw [size_data]
 omega
theorem opens_bytes {t e:TypeId} (ht:P.underlying t=some (.slice e)) (he:P.underlying e=some (.int .u8)) (hb:P.bytesOf e=1) (hc:P.cellsOf t=1):Opens enc P bytesR t fun l=>l.length≤reachBytes:=by
 refine ⟨hc,fun {w base spare held fuel cs x} h hfit=>?_⟩
 obtain ⟨a,l,cap,rfl,hlc,hby,_,hr⟩:=open_bytes_fit ht he hb h hfit
 refine ⟨l,⟨a,cap,rfl,hlc,hby,fun hn p hp=>?_⟩,hr⟩
 obtain ⟨b,o,e,hlt⟩:=RowAt.blk hby (by simpa using hn)
 rw [hp] at e;cases e;exact hlt
theorem rows_open {α:Type} {r:ERep α} {e:TypeId} {good:α→Prop} (h:Opens enc P r e good) {w:World} {base:Nat} {spare:Nat→Bool} {held:Bool}:∀ {rows:List (List Value)},(∀ c∈rows,∃ n d ps,Fits P e d∧DataW.trod enc P w base spare held n e c=some (d,ps))→
  ∃ l:List α,l.length=rows.length∧Rows r w (fun b=>b<w.heap.size) rows.flatten l∧∀ x∈l,good x
 | [],_=>⟨[],rfl,rfl,by simp⟩
 | c :: rows,hr=>by
  obtain ⟨n,d,ps,hf,ht⟩:=hr c (by simp)
  obtain ⟨y,hy,hg⟩:=h.2 ht hf
  obtain ⟨l,h1,h2,h3⟩:=rows_open h (rows:=rows) fun c' hc'=>hr c' (by simp [hc'])
  refine ⟨y :: l,by simp [h1],⟨c,rows.flatten,by simp,hy,h2⟩,fun x hx=>?_⟩
  rcases List.mem_cons.1 hx with rfl | hx
  ·exact hg
  ·exact h3 x hx
theorem opens_rows {α:Type} {r:ERep α} {t e:TypeId} {good:α→Prop} (ht:P.underlying t=some (.slice e)) (h:Opens enc P r e good) {w:World} {base:Nat} {spare:Nat→Bool} {held:Bool} {fuel:Nat} {cs:List Value} {x:DataW H×List MemPlace} (hx:DataW.trod enc P w base spare held fuel t cs=some x) (hfit:Fits P t x.1) :
  ∃ (a:Option Addr) (l:List α) (cap:Nat),cs=[.slice a l.length cap]∧l.length≤cap∧SliceAt r w (fun b=>b<w.heap.size) a l∧(∀ x∈l,good x)∧l.length * P.bytesOf e≤reachBytes:=by
 obtain ⟨a,len,cap,rows,rfl,hlc,hrl,hrk,hrow,hn,hlen,hel⟩:=open_rows_fit ht hx hfit
 obtain ⟨l,h1,h2,h3⟩:=rows_open h hel
 have hll:l.length=len:=by omega
 subst hll
 refine ⟨a,l,cap,rfl,hlc,⟨_,hrow,h2,fun hn p hp=>?_⟩,h3,hlen⟩
 have hv:rows.flatten≠[]:=List.ne_nil_of_length_pos (by rw [Rows.len h2];exact Nat.mul_pos (List.length_pos_iff.2 hn) r.pos)
 obtain ⟨b,o,e,hlt⟩:=RowAt.blk hrow hv
 rw [hp] at e;cases e;exact hlt
theorem opens_key {e:TypeId} {f0 f1 f2 f3:Field} (he:P.underlying e=some (.struct #[f0,f1,f2,f3])) (hc:P.cellsOf e=4) (o0:f0.offset=0) (o1:f1.offset=1) (o2:f2.offset=2) (o3:f3.offset=3)
  (h0:Opens enc P intR f0.type fun _=>True) (h1:Opens enc P u8R f1.type fun _=>True) (h2:Opens enc P strR f2.type fun s=>s.size<9223372036854775807) (h3:Opens enc P intR f3.type fun _=>True):Opens enc P keyR e fun k=>k.name.size<9223372036854775807:=by
 have hp:=opens_struct (r:=ERep.pair intR (ERep.pair u8R (ERep.pair strR intR (fun x:ByteArray×Int=>x.1) (fun x=>x.2)) (fun x:UInt8×(ByteArray×Int)=>x.1) (fun x=>x.2)) (fun x:Key=>x.ino) (fun x=>(x.what,(x.name,x.chunk)))) (good:=fun k=>k.name.size<9223372036854775807) he hc (by
  rw [← o0]
  refine opensF_cons (fun a b=>⟨a,b.1,b.2.1,b.2.2⟩) (fun _ _=>rfl) (fun _ _=>rfl) h0 (o:=f1.offset) (by rw [o0,o1];rfl) ?_ (goods:=fun y=>y.2.1.size<9223372036854775807) fun x y _ hy=>hy
  refine opensF_cons (fun a b=>(a,b)) (fun _ _=>rfl) (fun _ _=>rfl) h1 (o:=f2.offset) (by rw [o1,o2];rfl) ?_ (goods:=fun y=>y.1.size<9223372036854775807) fun x y _ hy=>hy
  exact opensF_cons (fun a b=>(a,b)) (fun _ _=>rfl) (fun _ _=>rfl) h2 (o:=f3.offset) (by rw [o2,o3];rfl) (opensF_one h3) fun x y hx _=>hx)
 refine ⟨hc,fun ht hfit=>?_⟩
 obtain ⟨y,⟨u,v,rfl,hu,s,t,rfl,hs,s2,t2,rfl,hs2,ht2⟩,hg⟩:=hp.2 ht hfit
 refine ⟨y,?_,hg⟩
 have e1:u=[.int .i64 y.ino]:=hu
 have e2:s=[bv y.what]:=hs
 have e3:s2=[.string y.name]:=hs2
 have e4:t2=[.int .i64 y.chunk]:=ht2
 rw [e1,e2,e3,e4];rfl
theorem opens_change {e:TypeId} {f0 f1 f2:Field} (he:P.underlying e=some (.struct #[f0,f1,f2])) (hc:P.cellsOf e=6) (o0:f0.offset=0) (o1:f1.offset=4) (o2:f2.offset=5)
  (h0:Opens enc P keyR f0.type fun k=>k.name.size<9223372036854775807) (h1:Opens enc P bytesR f1.type fun l=>l.length≤reachBytes) (h2:Opens enc P boolR f2.type fun _=>True):Opens enc P changeR e fun x=>x.key.name.size<9223372036854775807∧x.val.length≤reachBytes:=by
 refine opens_struct he hc ?_
 rw [← o0]
 refine opensF_cons (fun a b=>⟨a,b.1,b.2⟩) (fun _ _=>rfl) (fun _ _=>rfl) h0 (o:=f1.offset) (by rw [o0,o1];rfl) ?_ (goods:=fun y=>y.1.length≤reachBytes) fun x y hx hy=>⟨hx,hy⟩
 exact opensF_cons (fun a b=>(a,b)) (fun _ _=>rfl) (fun _ _=>rfl) h1 (o:=f2.offset) (by rw [o1,o2];rfl) (opensF_one h2) fun x y hx _=>hx
end
end
section
open Go.ChangeShapes Go.WideShapes Go.ChangeAt Go.RowKit Go.Proofs
section
variable {H:Type} {enc:TypeId×Value→H}
theorem opens_slice2 {α:Type} {r:ERep α} {t e:TypeId} {good:α→Prop} (ht:Tryz.prog.underlying t=some (.slice e)) (hc:Tryz.prog.cellsOf t=1) (h:Opens enc Tryz.prog r e good):Opens enc Tryz.prog (sliceR r) t fun l=>(∀ x∈l,good x)∧l.length * Tryz.prog.bytesOf e≤reachBytes:=by
 refine ⟨hc,fun hx hfit=>?_⟩
 obtain ⟨a,l,cap,rfl,hlc,hs,hg,hb⟩:=opens_rows ht h hx hfit
 exact ⟨l,⟨a,cap,rfl,hlc,hs⟩,hg,hb⟩
theorem open14_int:Opens enc Tryz.prog intR 3 fun _=>True:=opens_int Tryz.underlying3 (by kernel_rfl)
theorem open14_u8:Opens enc Tryz.prog u8R 5 fun _=>True:=opens_u8 Tryz.underlying5 (by kernel_rfl)
theorem open14_bool:Opens enc Tryz.prog boolR 4 fun _=>True:=opens_bool Tryz.underlying4 (by kernel_rfl)
theorem open14_str:Opens enc Tryz.prog strR 9 fun s=>s.size<9223372036854775807:=opens_str Tryz.underlying9 (by kernel_rfl)
theorem open14_bytes:Opens enc Tryz.prog bytesR 23 fun l=>l.length≤reachBytes:=opens_bytes Tryz.underlying23 Tryz.underlying5 (by kernel_rfl) (by kernel_rfl)
theorem open14_key:Opens enc Tryz.prog keyR 70 fun k=>k.name.size<9223372036854775807:=opens_key Tryz.underlying70 (by kernel_rfl) rfl rfl rfl rfl open14_int open14_u8 open14_str open14_int
theorem open14_change:Opens enc Tryz.prog changeR 72 fun x=>x.key.name.size<9223372036854775807∧x.val.length≤reachBytes:=opens_change Tryz.underlying72 (by kernel_rfl) rfl rfl rfl open14_key open14_bytes open14_bool
theorem fits_changes {l:List Change} (h:(∀ x∈l,x.key.name.size<9223372036854775807∧x.val.length≤reachBytes)∧l.length * Tryz.prog.bytesOf 72≤reachBytes):FitsC l∧Small l:=by
 have hb:Tryz.prog.bytesOf 72=72:=by kernel_rfl
 obtain ⟨h1,h2⟩:=h
 rw [hb] at h2
 have hr:reachBytes≤140737488351232:=by decide
 exact ⟨⟨by omega,fun x hx=>by have:=(h1 x hx).2;omega⟩,fun x hx=>(h1 x hx).1⟩
theorem open14_act:Opens enc Tryz.prog actR 64 fun x=>FitsC x.changes∧Small x.changes:=by
 refine opens_struct Tryz.underlying64 (by kernel_rfl) ?_
 unfold actR
 simp only [List.toList_toArray]
 refine opensF_at (fun a b=>(⟨a,b.1,b.2⟩: ActS)) (fun _ _=>rfl) (fun _ _=>rfl) open14_int (o:=1) (by rfl) (by rfl) ?_ (goods:=fun y=>FitsC y.1∧Small y.1) fun x y _ hy=>hy
 exact opensF_at (fun a b=>(a,b)) (fun _ _=>rfl) (fun _ _=>rfl) (opens_slice2 Tryz.underlying22 (by kernel_rfl) open14_change) (o:=2) (by rfl) (by rfl) (opensF_end open14_u8 (by rfl)) fun x y hx _=>fits_changes hx
theorem open14_acts {w:World} {base:Nat} {spare:Nat→Bool} {held:Bool} {fuel:Nat} {cs:List Value} {x:DataW H×List MemPlace} (hx:DataW.trod enc Tryz.prog w base spare held fuel 58 cs=some x) (hfit:Fits Tryz.prog 58 x.1) :
  ∃ (a:Option Addr) (l:List ActS) (cap:Nat),cs=[.slice a l.length cap]∧SliceAt actR w (fun b=>b<w.heap.size) a l∧GoodA l:=by
 obtain ⟨a,l,cap,h1,h2,h3,h4,_⟩:=opens_rows Tryz.underlying58 open14_act hx hfit
 exact ⟨a,l,cap,h1,h3,h4⟩
theorem open14_changes {w:World} {base:Nat} {spare:Nat→Bool} {held:Bool} {fuel:Nat} {cs:List Value} {x:DataW H×List MemPlace} (hx:DataW.trod enc Tryz.prog w base spare held fuel 22 cs=some x) (hfit:Fits Tryz.prog 22 x.1) :
  ∃ (a:Option Addr) (l:List Change) (cap:Nat),cs=[.slice a l.length cap]∧SliceAt changeR w (fun b=>b<w.heap.size) a l∧FitsC l∧Small l:=by
 obtain ⟨a,l,cap,h1,h2,h3,h4,h5⟩:=opens_rows Tryz.underlying22 open14_change hx hfit
 exact ⟨a,l,cap,h1,h3,fits_changes ⟨h4,h5⟩⟩
end
end
end Go.Den
