/- The row of the law WalkTorn: for every input the law returns true, and its arguments read as they did. (Merged and shortened by program: LWalkTorn ZWalkTorn.) -/
import Derived.Test.YtedbpnlhfppamaaGreatQ6
import Derived.Test.YtedbpnlhfppamaaGreatRows
import Derived.WalkKit
set_option linter.unusedVariables false
set_option linter.unusedSimpArgs false
set_option maxRecDepth 20000
namespace Go.Den
theorem CAt.away {A S:Nat} {w w':World} {p:Nat} {c:Chip} {H:Nat→Prop} (h:CAt A S w p c) (k:Upd H w w') (hH:∀ x,H x→x<A):CAt A S w' p c:=by
 obtain ⟨L,G,hr,hF,hG⟩:=h
 exact ⟨L,G,hr.upd k (fun x hx hh=>by have:=(hF x hx).1;have:=hH x hh;omega) (fun x hx hh=>by have:=(hG x hx).1;have:=hH x hh;omega),hF,fun x hx=>⟨(hG x hx).1,Nat.lt_of_lt_of_le (hG x hx).2 k.size⟩⟩
theorem push_full {α:Type} {r:ERep α} {w₀ w₁:World} {G:Nat→Prop} {a:Option Addr} {n bytes:Nat} {e:TypeId} {l:List α} {z:List Value} (h:SliceAt r w₁ G a l) {B:Nat} {x:α} {cs:Array Value} (hx:r.R w₁ G cs.toList x) (hn:New w₀ (.cells cs e) B w₁) (hnl:n=l.length)
  (hG:∀ b,G b→b<w₁.heap.size) (hb:l.length≤1000000000) (hby:bytes≤10000) {K:Option Addr→Nat→Nat→World→Prop}
  (hk:∀ a' c' w',Ext w₁ w'→SliceAt r w' (fun y=>y<w'.heap.size) a' (l ++ [x])→(l ++ [x]).length≤c'→K a' (l ++ [x]).length c' w') :
  appendP e r.k bytes z a n n (.slice (some ⟨B,0,none⟩) 1 1) w₁ K:=by
 subst hnl
 obtain ⟨vs,ho,hr,hg⟩:=h
 have hl:=r.len hx
 have hrow:RowAt w₁ (some ⟨B,0,none⟩) cs.toList:=RowAt.of hn.get fun j v hj=>by simpa using hj
 refine ⟨1,rfl,cs.toList,read_row hrow (by rw [hl];omega),r.one hx,fun hroom=>absurd hroom (by omega),fun hgrow=>⟨by omega,?_,vs,read_row ho (Rows.len hr),fun cap b w' hcap _ hnew=>?_⟩⟩
 ·have h1:=nextcap_le hgrow
  have:Builtin.nextslicecap (l.length+1) l.length * bytes≤(2 * (1000000000+1)+192) * 10000:=Nat.mul_le_mul (by omega) hby
  omega
 ·have e1:Ext w₁ w':=(drew_upd w₁).trans hnew.upd
  have hbs:b<w'.heap.size:=(Array.getElem?_eq_some_iff.1 hnew.get).1
  have:=hk (some ⟨b,0,none⟩) cap w' e1 ⟨vs ++ cs.toList,?_,?_,?_⟩ (by simpa using hcap)
  ·simpa using this
  ·refine RowAt.of hnew.get fun j v hj=>?_
   rw [Nat.zero_add,← Array.getElem?_toList]
   rw [List.getElem?_append_left (List.getElem?_eq_some_iff.1 hj).1]
   exact hj
  ·exact Rows.mono (fun y hy=>by have:=hG y hy;have:=e1.size;omega) (Rows.upd e1 (fun _ _ hf=>hf) (hr.append (Rows.single hx)))
  ·rintro _ p hp
   cases hp
   exact hbs
theorem slice_cut {size:Nat} {a:Option Addr} {len cap:Nat} {j:Int} {K:Option Addr→Nat→Nat→Prop} (h0:0≤j) (h1:j≤cap) (hk:K a j.toNat j.toNat):sliceP size a len cap none (some j) (some j) K:=by
 refine ⟨by simpa using h0,by simpa using h1,by simpa using h0,by simp,by simp,by simpa using h0,by simp,?_⟩
 have e2:(if (Option.getD (some j) (cap:Int)).toNat=(Option.getD none (0:Int)).toNat then a else Option.map (fun x=>Addr.add x ((Option.getD none (0:Int)).toNat * size)) a)=a:=by
  cases a<;>simp [add_zero]
 rw [e2]
 simpa using hk
theorem lpageR_elim' {w:World} {G:Nat→Prop} {P:LPage} {vs:List Value} (h:lpageR.R w G vs P):∃ af cf ac cc ab cb,vs=P.vals af cf ac cc ab cb∧SliceAt factR w G af P.facts∧SliceAt childR w G ac P.children∧BytesAt w ab P.bytes∧P.facts.length≤cf∧P.children.length≤cc∧P.bytes.length≤cb∧(P.bytes≠[]→∀ p,ab=some p→G p.block):=by
 obtain ⟨v1,r1,rfl,h1,v2,r2,rfl,h2,v3,r3,rfl,h3,v4,r4,rfl,⟨k1,k2,rfl,hk1,k3,k4,rfl,hk3,hk4⟩,v5,r5,rfl,⟨af,cf,hv5,hc5,hf⟩,v6,r6,rfl,⟨ac,cc,hv6,hc6,hc⟩,v7,r7,rfl,⟨p1,p2,rfl,hp1,p3,p4,rfl,hp3,p5,p6,rfl,hp5,hp6⟩,v8,r8,rfl,⟨ab,cb,hv8,hc8,hb,hbg⟩,h9⟩:=h
 have e1:v1=[.int .i64 P.what]:=h1
 have e2:v2=[.int .i64 P.block]:=h2
 have e3:v3=[.int .i64 P.page]:=h3
 have f1:k1=[bv P.head.kind]:=hk1
 have f2:k3=[.int .u32 (P.head.era:Nat)]:=hk3
 have f3:k4=[.int .u64 (P.head.seq:Nat)]:=hk4
 have e5:v5=[.slice af P.facts.length cf]:=hv5
 have e6:v6=[.slice ac P.children.length cc]:=hv6
 have g1:p1=[.int .u64 (P.point.number:Nat)]:=hp1
 have g2:p3=[.int .i64 P.point.block]:=hp3
 have g3:p5=[.int .i64 P.point.page]:=hp5
 have g4:p6=[.int .i64 P.point.count]:=hp6
 have e8:v8=[.slice ab P.bytes.length cb]:=hv8
 have e9:r8=[.bool P.whole]:=h9
 rw [e1,e2,e3,f1,f2,f3,e5,e6,g1,g2,g3,g4,e8,e9]
 exact ⟨af,cf,ac,cc,ab,cb,rfl,hf,hc,hb,hc5,hc6,hc8,hbg⟩
theorem modU_nat {m n:Nat} (h:m<n) (hn:n<1000000):modU (m:Int) n=m:=by
 unfold modU
 rw [wu64_mod,show (m:Int) % 18446744073709551616=m by omega,tmod_nat,Nat.mod_eq_of_lt h]
 rfl
theorem carracklaw18_WalkTorn_spec {l:List LPage} {w:World} {a:Option Addr} {c:Nat} (h:SliceAt lpageR w (fun b=>b<w.heap.size) a l) (hfit:FitP l) (hlc:l.length≤c) (era:Nat) {P:LPage} {af ac ab:Option Addr} {cf cc cb:Nat} (hP:lpageR.R w (fun b=>b<w.heap.size) (P.vals af cf ac cc ab cb) P) (hPf:P.Fit) :
  CallsR prog K.carracklaw18_WalkTorn #[.slice a l.length c,.int .u32 era,.agg (P.vals af cf ac cc ab cb).toArray] w fun v w'=>v= .bool true∧Ext w w':=by
 obtain ⟨af',cf',ac',cc',ab',cb',hvs,hF,hC,hB,hcf,hcc,hcb,hbg⟩:=lpageR_elim' hP
 simp only [LPage.vals,List.cons.injEq,Value.slice.injEq,true_and,and_true] at hvs
 obtain ⟨⟨rfl,rfl⟩,⟨rfl,rfl⟩,rfl,rfl⟩:=hvs
 apply carracklaw18_WalkTorn.sh
 suffices H:∀ R:Value→World→Prop,(∀ v w',v= .bool true∧Ext w w'→R v w')→carracklaw18_WalkTorn.body a l.length c era P.what P.block P.page P.head.kind.toNat (P.head.era:Nat) (P.head.seq:Nat) af P.facts.length cf ac P.children.length cc (P.point.number:Nat) P.point.block P.point.page P.point.count ab P.bytes.length cb P.whole w R from H _ fun _ _ h=>h
 intro R hR
 unfold carracklaw18_WalkTorn.body
 simp only [add_lit,Nat.zero_add]
 have fin:∀ {u:World},Ext w u→CallsR prog K.carracklaw18_lives #[] u fun v w'=>∃ b:Bool,v= .bool b∧R (.bool b) w':=fun {u} hu =>
  (carracklaw18_lives_spec u).mono fun v w' ⟨hv,he⟩=>⟨true,hv,hR _ _ ⟨rfl,hu.trans he⟩⟩
 intro B1 w₁ hn1
 have hB1:B1=w.heap.size:=hn1.num
 have hs1:=hn1.size
 have g1:w₁.heap[B1]?=some (.cells (P.vals af cf ac cc ab cb).toArray T.carracklaw18_Page (0,0)):=hn1.get
 have e1:=hn1.upd
 have hG1:∀ b,b<w.heap.size→b<w₁.heap.size:=fun b hb=>by omega
 refine (carracklaw18_laid_spec (h.ext e1) hG1 hfit).mono ?_
 rintro _ w₂ ⟨he2,p,rfl,hc2⟩
 have hcin:CAt w₁.heap.size w₂.heap.size w₂ p (chip18 l):=CAt.of hc2 (Nat.le_refl _)
 have e2:=e1.trans he2
 have s1:=loadChip_still 8 6 128 0 (laidB l) []
 have hnb:(chip18 l).nb=8:=s1.nb
 have hnp:(chip18 l).np=6:=s1.np
 have hd0:(chip18 l).dead=false:=s1.dead
 have hok1:=hcin.ok
 refine ⟨_,_,rfl,fun u=>u=w₂,?_,?_⟩
 ·refine br_intro (fun hb=>by cases hb) fun _=>br_eq (fun _=>?_) fun _=>rfl
  rw [br_true]
  exact fin e2
 rintro _ rfl
 rename_i w₂
 have g2:=Ext.get he2 g1
 obtain ⟨Q,hQ⟩: ∃ Q:LPage,Q={ P with what:=if P.what=2 then 2 else 4,whole:=(P.what == 2) }:=⟨_,rfl⟩
 refine ⟨_,cell_of g2 rfl,store_of g2 (by simp) fun w₃ hput3=>?_⟩
 have g3:w₃.heap[B1]?=some (.cells (LPage.vals { P with whole:=(P.what == 2) } af cf ac cc ab cb).toArray T.carracklaw18_Page (0,0)):=by rw [hput3.get];rfl
 have e3:Ext w w₃:=e2.beyond hput3.upd1 fun x hx=>by omega
 have c3:CAt w₁.heap.size w₂.heap.size w₃ p (chip18 l):=hcin.away hput3.upd1 fun x hx=>by omega
 refine ⟨fun u=>Ext w u∧CAt w₁.heap.size w₂.heap.size u p (chip18 l)∧u.heap[B1]?=some (.cells (Q.vals af cf ac cc ab cb).toArray T.carracklaw18_Page (0,0)),?_,?_⟩
 ·refine ⟨_,cell_of g3 rfl,br_ne (fun hw=>⟨_,cell_of g3 rfl,br_ne (fun hw4=>?_) fun hw4=>⟨e3,c3,?_⟩⟩) fun hw=>⟨e3,c3,?_⟩⟩
  ·have hw':P.what≠2:=hw
   refine store_of g3 (by simp) fun w₄ hput4=>⟨e3.beyond hput4.upd1 fun x hx=>by omega,c3.away hput4.upd1 fun x hx=>by omega,?_⟩
   rw [hput4.get,hQ,if_neg hw']
   rfl
  ·have hw':P.what≠2:=hw
   have hw4':P.what=4:=hw4
   rw [g3,hQ,if_neg hw',← hw4']
  ·have hw':P.what=2:=hw
   rw [g3,hQ,if_pos hw']
   simp only [hw']
 rintro w₄ ⟨e4,c4,g4⟩
 have hQf:Q.facts=P.facts:=by rw [hQ]
 have hQc:Q.children=P.children:=by rw [hQ]
 have hQb:Q.bytes=P.bytes:=by rw [hQ]
 have hQbl:Q.block=P.block:=by rw [hQ]
 have hQpg:Q.page=P.page:=by rw [hQ]
 have hQfit:Q.Fit:=by rw [hQ];exact ⟨hPf.1,hPf.2,hPf.3,hPf.4,hPf.5,hPf.6,hPf.7⟩
 have hQw:(Q.what=2∧Q.whole=true)∨Q.what=4:=by
  rw [hQ]
  by_cases hw:P.what=2
  ·left;simp [hw]
  ·right;simp [hw]
 rw [← hQf] at hF hcf
 rw [← hQc] at hC hcc
 rw [← hQb] at hB hcb hbg
 clear hQf hQc hQb
 refine ⟨_,_,_,_,_,_,_,_,_,_,_,_,_,_,_,_,_,_,_,_,cells_all g4,?_⟩
 have hGw:∀ {u:World},Ext w u→∀ b,b<w.heap.size→b<u.heap.size:=fun hu b hb=>by have:=hu.size;omega
 refine (carracklaw18_Page_bytes_spec (cf:=cf) (cc:=cc) (cb:=cb) (hF.ext e4) (hC.ext e4) (hB.ext e4) (hGw e4) hQfit).mono ?_
 rintro _ w₅ ⟨a5,c5,rfl,hpb,he5⟩
 have e5:=e4.trans he5
 refine ⟨_,_,_,rfl,(carrackref02_Get_spec hpb.bytes hpb.1.2.1).mono ?_⟩
 rintro _ w₆ ⟨he6,a6,c6,rfl,_,_⟩
 have e6:=e5.trans he6
 refine ⟨_,_,_,_,_,rfl,fun u=>u=w₆∧(Q.what=4→(getPage (pageB Q)).2.2≠0),?_,?_⟩
 ·refine ⟨_,cell_of (Ext.get he6 (Ext.get he5 g4)) rfl,br_eq (fun _=>br_eq (fun _=>fin e6) fun h0=>⟨rfl,fun _=>by omega⟩) fun h4=>⟨rfl,fun h=>absurd h h4⟩⟩
 rintro _ ⟨rfl,hm4⟩
 rename_i w₆
 have hmute:Mute Q:=by
  rcases hQw with h | h
  ·exact .inl h
  ·exact .inr ⟨h,hm4 h⟩
 intro w₇ hd7
 have e7:=e6.trans hd7.upd
 have e47:=(he5.trans he6).trans hd7.upd
 have g7:=Ext.get e47 g4
 have c7:=c4.ext e47
 obtain ⟨m1,m2⟩:=modU_lt Q.block (n:=8) (by decide)
 obtain ⟨m3,m4⟩:=modU_lt Q.page (n:=5) (by decide)
 have m2':Int.tmod (IntKind.u64.wrap Q.block) 8=(modU Q.block 8:Nat):=m2
 have m4':Int.tmod (IntKind.u64.wrap Q.page) 5=(modU Q.page 5:Nat):=m4
 have m1':modU Q.block 8<8:=m1
 have m3'':modU Q.page 5<5:=m3
 have m3':1+modU Q.page 5<6:=by omega
 have hbi:IntKind.i64.wrap (Int.tmod (IntKind.u64.wrap Q.block) 8)=((modU Q.block 8:Nat):Int):=by rw [m2',w64n (by omega)]
 have hki:IntKind.i64.wrap (1+IntKind.i64.wrap (Int.tmod (IntKind.u64.wrap Q.page) 5))=((1+modU Q.page 5:Nat):Int):=by
  rw [m4',w64n (m:=modU Q.page 5) (by omega),w64 (by omega) (by omega)]
  omega
 refine ⟨fun u=>u=w₇,rfl,_,(by rintro _ rfl;exact cell_of g7 rfl),by decide,_,(by rintro _ rfl;exact cell_of g7 rfl),by decide,?_⟩
 rw [hbi,hki]
 have hk1:1≤1+modU Q.page 5:=by omega
 generalize modU Q.block 8=b0 at *
 generalize 1+modU Q.page 5=k0 at *
 refine (cPage c7 hd0 (i:=b0) (k:=k0) (by omega) (by omega)).mono ?_
 rintro _ w₈ ⟨he8,a8,c8,rfl,hb8,_,_⟩
 have e8:=e7.trans he8
 have hpl:=page_len hok1 (i:=b0) (k:=k0) (by omega) (by omega)
 have hsz:=hok1.sz2
 refine ⟨_,_,_,_,rfl,(carrackref02_Blank_spec hb8 (by omega)).mono ?_⟩
 rintro _ _ ⟨rfl,rfl⟩
 rename_i w₈
 refine ⟨_,rfl,br_intro (fun _=>fin e8) fun hbl=>?_⟩
 have hblank:isBlank ((chip18 l).page b0 k0)=true:=by simpa using hbl
 have c8':=c7.ext he8
 refine (carrackref18_Newest_spec c8' hd0 era).mono ?_
 rintro _ w₉ ⟨rfl,he9⟩
 have e9:=e8.trans he9
 refine ⟨_,_,_,_,_,_,_,rfl,new_put (vs:=Point.vals (accP (newestR (chip18 l) era).1)) rfl fun B2 w₁₀ hb10 hs10 he10 g10=>?_⟩
 have e10:=e9.trans he10
 refine ⟨fun u=>u=w₁₀,⟨_,cell_of g10 rfl,br_eq (fun _=>⟨_,cell_of g10 rfl,br_eq (fun _=>fin e10) fun _=>rfl⟩) fun _=>rfl⟩,?_⟩
 rintro _ rfl
 rename_i w₁₀
 have he710:=(he8.trans he9).trans he10
 have c10:=c7.ext he710
 refine (walk_Facts_spec c10 (by omega) era).mono ?_
 rintro _ w₁₁ ⟨a11,c11,G11,rfl,hf11,hG11,_,he11⟩
 have e11:=e10.trans he11
 have g11:=Ext.get (he710.trans he11) g7
 refine ⟨_,_,_,_,rfl,store_of g11 (by simp) fun w₁₂ hput12=>?_⟩
 have g12:w₁₂.heap[B1]?=some (.cells (LPage.vals { Q with block:=(b0:Int) } af cf ac cc ab cb).toArray T.carracklaw18_Page (0,0)):=by rw [hput12.get];rfl
 refine store_of g12 (by simp) fun w₁₃ hput13=>?_
 obtain ⟨E,hE⟩: ∃ E:LPage,E={ Q with block:=(b0:Int),page:=(k0:Int) }:=⟨_,rfl⟩
 have g13:w₁₃.heap[B1]?=some (.cells (E.vals af cf ac cc ab cb).toArray T.carracklaw18_Page (0,0)):=by rw [hput13.get,hE];rfl
 have e12:Ext w w₁₂:=e11.beyond hput12.upd1 fun x hx=>by omega
 have e13:Ext w w₁₃:=e12.beyond hput13.upd1 fun x hx=>by omega
 have hup:Upd (·=B1) w₁₁ w₁₃:=hput12.upd1.trans hput13.upd1
 have f13:SliceAt factR w₁₃ G11 a11 (factsR (walkedR (chip18 l) era)):=hf11.upd hup fun b hb hx=>by
  have h1:=(hG11 b hb).1
  have h2:=e9.size
  omega
 have hEf:E.facts=Q.facts:=by rw [hE]
 have hEc:E.children=Q.children:=by rw [hE]
 have hEb:E.bytes=Q.bytes:=by rw [hE]
 have hEw:E.what=Q.what:=by rw [hE]
 have hEbl:E.b=b0:=by rw [hE];exact modU_nat (n:=8) m1' (by omega)
 have hEk:E.k=k0:=by rw [hE];exact modU_nat (n:=6) m3' (by omega)
 have hEfit:E.Fit:=by rw [hE];exact ⟨hQfit.1,hQfit.2,hQfit.3,hQfit.4,hQfit.5,hQfit.6,hQfit.7⟩
 have hEm:Mute E:=by
  have hpe:pageB E=pageB Q:=by rw [hE];rfl
  have hwe:E.whole=Q.whole:=by rw [hE]
  unfold Mute
  rw [hpe,hEw,hwe]
  exact hmute
 rw [← hEf] at hF hcf
 rw [← hEc] at hC hcc
 rw [← hEb] at hB hcb hbg
 intro w₁₄ hd14
 have e14:=e13.trans hd14.upd
 refine ⟨fun u=>Ext w₁₄ u,Upd.refl _ _,?_⟩
 obtain ⟨n,hn⟩: ∃ n:Nat,(if (59:Int)<(l.length:Nat) then (59:Int) else (l.length:Nat))=(n:Int)∧n≤l.length∧n≤59∧(l.length≤59→n=l.length):=by
  by_cases h59:59<l.length
  ·exact ⟨59,by rw [if_pos (by omega)];rfl,by omega,by omega,by omega⟩
  ·exact ⟨l.length,by rw [if_neg (by omega)],by omega,by omega,fun _=>rfl⟩
 obtain ⟨hn0,hn1',hn2,hn3⟩:=hn
 rw [hn0]
 refine slice_cut (by omega) (by omega) ?_
 rw [Int.toNat_natCast]
 refine ⟨_,_,_,_,_,_,_,_,_,_,_,_,_,_,_,_,_,_,_,_,fun u hu=>cells_all (Ext.get hu (Ext.get hd14.upd g13)),?_⟩
 intro B3 w₁₅ hn15
 have e15:=e14.trans hn15.upd
 have hs15:=hn15.size
 have hlt:(l.take n).length=n:=by rw [List.length_take];omega
 have hER:lpageR.R w₁₅ (fun b=>b<w.heap.size) (E.vals af cf ac cc ab cb) E:=lpageR_intro (hF.ext e15) hcf (hC.ext e15) hcc (hB.ext e15) hcb hbg
 refine push_full (r:=lpageR) (x:=E) ((h.take n).ext e15) hER hn15 hlt.symm (hGw e15) (by omega) (by decide) fun a16 c16 w₁₆ he16 hs16 hc16=>?_
 have e1416:Ext w₁₄ w₁₆:=hn15.upd.trans he16
 refine ⟨e1416,(carracklaw18_laid_spec hs16 (fun b hb=>hb) ?_).mono ?_⟩
 ·intro X hX
  rcases List.mem_append.1 hX with hX | hX
  ·exact hfit X (List.mem_of_mem_take hX)
  ·rw [List.mem_singleton.1 hX];exact hEfit
 rintro _ w₁₇ ⟨he17,p2,rfl,hc17⟩
 have e1417:=e1416.trans he17
 have e17:=e14.trans e1417
 refine ⟨_,_,rfl,e1417,br_intro (fun hb=>by cases hb) fun _=>br_dec (fun _=>?_) fun h59=>?_⟩
 ·rw [br_true]
  exact fin e17
 have hl59:l.length≤59:=by omega
 have hn':=hn3 hl59
 subst hn'
 rw [List.take_length] at hc17
 have hcin2:CAt w₁₆.heap.size w₁₇.heap.size w₁₇ p2 (chip18 (l ++ [E])):=CAt.of hc17 (Nat.le_refl _)
 have hd2:(chip18 (l ++ [E])).dead=false:=(loadChip_still 8 6 128 0 (laidB (l ++ [E])) []).dead
 have hnb2:(chip18 (l ++ [E])).nb=8:=(loadChip_still 8 6 128 0 (laidB (l ++ [E])) []).nb
 have halike:Alike (chip18 l) (chip18 (l ++ [E])) E.b E.k:=alike18 hl59 hok1 hcin2.ok (by rw [hEk];exact hk1) (by rw [hEbl,hEk];exact hblank) hEm
 refine (carrackref18_Pages_spec hcin2 hd2 era).mono ?_
 rintro _ w₁₈ ⟨a18,c18',G18,rfl,hp18,_,_,he18⟩
 have e18:=e17.trans he18
 have hpsm:=(factsR_small hcin2.ok era).2.2
 refine ⟨_,_,_,_,rfl,fun x u=>∃ i:Nat,x=i∧i≤(pagesR (walkedR (chip18 (l ++ [E])) era)).length∧u=w₁₈,fun x _=>(((pagesR (walkedR (chip18 (l ++ [E])) era)).length:Int) - x).toNat,⟨0,rfl,by omega,rfl⟩,?_⟩
 rintro x u ⟨i,rfl,hi,rfl⟩
 rename_i w₁₈
 refine br_dec (fun hlt=>?_) fun _=>?_
 ·have hi':i<(pagesR (walkedR (chip18 (l ++ [E])) era)).length:=by omega
  have ew:IntKind.i64.wrap ((i:Int)+1)=((i+1:Nat):Int):=w64 (by omega) (by omega)
  simp only [ew]
  have goOn:(∃ i':Nat,((i+1:Nat):Int)=i'∧i'≤(pagesR (walkedR (chip18 (l ++ [E])) era)).length∧True)∧(((pagesR (walkedR (chip18 (l ++ [E])) era)).length:Int) - ((i+1:Nat):Int)).toNat<(((pagesR (walkedR (chip18 (l ++ [E])) era)).length:Int) - (i:Int)).toNat:=⟨⟨i+1,rfl,hi',trivial⟩,by omega⟩
  refine SliceAt.idx (r:=placeR) hp18 rfl hi' fun b1 o1 vs1 ha1 hrow1 hR1 _=>?_
  obtain rfl:vs1=Place.vals (pagesR (walkedR (chip18 (l ++ [E])) era))[i]:=hR1
  refine ⟨_,hrow1.cells.1,br_eq (fun _=>?_) fun _=>goOn⟩
  refine SliceAt.idx (r:=placeR) hp18 rfl hi' fun b2 o2 vs2 ha2 hrow2 hR2 _=>?_
  obtain rfl:vs2=Place.vals (pagesR (walkedR (chip18 (l ++ [E])) era))[i]:=hR2
  exact ⟨_,hrow2.cells.2.1,br_eq (fun _=>fin e18) fun _=>goOn⟩
 refine (walk_Facts_spec (hcin2.ext he18) (by omega) era).mono ?_
 rintro _ w₁₉ ⟨a19,c19,G19,rfl,hf19,_,_,he19⟩
 have e19:=e18.trans he19
 refine ⟨_,_,_,_,rfl,br_ne (fun _=>fin e19) fun hx0=>br_ne (fun _=>fin e19) fun hy0=>?_⟩
 have hw:=halike.walked era (by omega)
 rw [hw] at hf19 ⊢
 obtain ⟨q1,q2,_⟩:=factsR_small hok1 era
 refine (facts_same (f13.ext ((hd14.upd.trans e1417).trans (he18.trans he19))) hf19 q2 (by omega)).mono ?_
 rintro _ w₂₀ ⟨rfl,he20⟩
 refine ⟨_,rfl,?_⟩
 rw [br_true]
 exact fin (e19.trans he20)
end Go.Den
section
namespace Go.Proofs.YtedbpnlhfppamaaGreat.walkTorn
open Go.ChangeShapes Go.WideShapes Go.ChangeAt Go.RowKit Go.Den
theorem own:ownKnob Tryz.prog.godebug=none:=by kernel_rfl
theorem laidOut:laidOutB Tryz.prog=true:=by kernel_rfl
theorem rowed:∀ t∈Tryz.f3.params.toList,Tryz.prog.readableRec t=true∧t<Tryz.prog.types.size:=by
 rw [Tryz.params3]
 intro t ht
 simp at ht
 rcases ht with rfl | rfl | rfl<;>exact ⟨by kernel_rfl,of_decide_eq_true (by kernel_rfl)⟩
set_option maxRecDepth 100000 in
theorem lifted (os:Os) (started:os.Started) (H:Type) (enc:TypeId×Value→H) :
  ReturnsInHanded {} Tryz.checked os 3 .any (Rows.walkTornSpec.pre6 enc Tryz.prog Tryz.f3 Rows.walkTornRow.domain false) (Rows.walkTornSpec.post enc Tryz.prog Tryz.f3 false true false false):=by
 refine returnsInHanded_of_change_sized (C:=Tryz.checked) own started (by kernel_rfl) Tryz.func3
  (ChangeSpec.witness6 (enc:=enc) (C:=Tryz.checked) false ⟨#[],#[.slice none 0 0,.int .u32 0,.agg #[.int .i64 0,.int .i64 0,.int .i64 0,.int .u8 0,.int .u32 0,.int .u64 0,.slice none 0 0,.slice none 0 0,.int .u64 0,.int .i64 0,.int .i64 0,.int .i64 0,.slice none 0 0,.bool false]],[]⟩ 8 (by kernel_rfl) (by kernel_rfl) (by kernel_rfl) (by kernel_rfl)) ?_
 intro W base args ds gs before hval0 hW hcnd hsz _
 have hval:∀ (j:Nat) t v,Tryz.f3.params[j]?=some t→args[j]?=some v→Value.okWide Tryz.prog W .any base t v:=hval0
 have hW':=hW
 obtain ⟨p,q,hA0,hV,hpq,hfz,hnd⟩:=hW
 have hA:DataW.TrodAll enc Tryz.prog W 0 (fun _=>true) true Tryz.f3.params.toList args.toList ds p:=hA0
 rw [Tryz.params3] at hA hval hsz
 obtain ⟨v0,vs0,d0,ds0,p0,q0,hargs,rfl,hp0,h0,r0⟩:=trodAll_cons hA
 obtain ⟨v1,vs1,d1,ds1,p1,q1,rfl,rfl,hp1,h1,r1⟩:=trodAll_cons r0
 obtain ⟨v2,vs2,d2,ds2,p2,q2,rfl,rfl,hp2,h2,r2⟩:=trodAll_cons r1
 obtain ⟨rfl,rfl,_⟩:=trodAll_nil r2
 obtain rfl:args=#[v0,v1,v2]:=by cases args;simp_all
 obtain ⟨rfl,_⟩:=trodVars_none hV
 obtain ⟨sa0,sl0,sc0,rfl⟩:=okWide_slice Tryz.underlying22 (hval 0 22 v0 rfl rfl)
 obtain ⟨fuel0,hf0⟩:=h0
 obtain ⟨la0,ll0,lc0,hcs0,hsl0,hfp0,hlc0⟩:=open18_pages hf0 (fits_each hsz (j:=0) rfl rfl)
 simp [Value.cells] at hcs0
 obtain ⟨rfl,rfl,rfl⟩:=hcs0
 obtain ⟨a1,rfl,_,_,w1⟩:=open_int Tryz.underlying23 (hval 1 23 v1 rfl rfl) h1
 have b1:0≤a1∧a1≤4294967295:=by simpa [Lit.wf,IntKind.min,IntKind.max,IntKind.signed,IntKind.bits] using w1
 obtain ⟨n1,rfl⟩: ∃ n:Nat,a1=n:=⟨a1.toNat,by omega⟩
 obtain ⟨fuel2,hf2⟩:=h2
 obtain ⟨cs2,rfl,_⟩:=okWide_struct Tryz.underlying33 (hval 2 33 v2 rfl rfl)
 obtain ⟨P2,hR2,hpf2⟩:=open18_page.2 hf2 (fits_each hsz (j:=2) rfl rfl)
 obtain ⟨af2,cf2,ac2,cc2,ab2,cb2,hvs2,_⟩:=lpageR_elim' hR2
 have hPR2:lpageR.R W (fun b=>b<W.heap.size) (P2.vals af2 cf2 ac2 cc2 ab2 cb2) P2:=by rw [← hvs2];exact hR2
 have hcs2:cs2.toList=P2.vals af2 cf2 ac2 cc2 ab2 cb2:=hvs2
 obtain rfl:cs2=(P2.vals af2 cf2 ac2 cc2 ab2 cb2).toArray:=by rw [← hcs2]
 refine Calls.mono (carracklaw18_WalkTorn_spec hsl0 hfp0 hlc0 n1 hPR2 hpf2) fun e W' he=>?_
 obtain ⟨v,he,rfl,hx⟩:=he
 exact ⟨_,he,post_true laidOut hW' rfl rowed (Ext.below hx) Tryz.underlying4 (by kernel_rfl) rfl⟩
theorem proved:Rows.WalkTornSaid :=
 OpenClaim.holds_of_wide 3 Tryz.f3 rfl rfl rfl rfl rfl rfl rfl ⟨rfl,rfl,rfl,rfl,rfl⟩ rfl rfl rfl rfl rfl (by kernel_rfl) Tryz.func3 (by kernel_rfl)
  (of_decide_eq_true (by kernel_rfl)) (by unfold Func.isWrapper;first | (rw [if_pos (by decide +kernel)];kernel_rfl) | (rw [if_neg (by decide +kernel)];exact ⟨rfl,rfl⟩))
  (fun os started H enc _=>lifted os started H enc)
end Go.Proofs.YtedbpnlhfppamaaGreat.walkTorn
end
