/- The row of the law WalkDead: for every input the law returns true, and its arguments read as they did. (Merged and shortened by program: LPoolNil LScanNil LWalkDead ZWalkDead.) -/
import Derived.Test.YtedbpnlhfppamaaGreatQ6
import Derived.Test.YtedbpnlhfppamaaGreatRows
import Derived.WalkKit
set_option linter.unusedVariables false
set_option linter.unusedSimpArgs false
set_option maxRecDepth 20000
namespace Go.Den
def zeroChip:Array Value:=#[Value.int .i64 0,Value.int .i64 0,Value.int .i64 0,Value.int .i64 0,Value.slice none 0 0,Value.slice none 0 0,Value.slice none 0 0,Value.int .i64 0,Value.bool false,Value.int .i64 0]
theorem zero_Scan {w:World} {p:Option Addr} (h:p=none∨∃ B,p=some ⟨B,0,none⟩∧w.heap[B]?=some (.cells zeroChip T.nand_Chip (0,0))):CallsR prog K.pool_Scan #[.pointer p] w fun v w'=>v= .tuple #[.pointer none,.int .i64 1]∧Ext w w':=by
 apply pool_Scan.sh
 refine ⟨fun _=>False,?_,fun _ h=>h.elim⟩
 rcases h with rfl | ⟨B,rfl,hc⟩
 ·simp only [Option.isNone_none,br_true]
  exact ⟨by trivial,Upd.refl _ _⟩
 ·simp only [Option.isNone_some,br_false]
  have geo:CallsR prog K.nand_Chip_Geo #[.pointer (some ⟨B,0,none⟩)] w fun v w'=>v= .agg #[.int .i64 0,.int .i64 0,.int .i64 0,.int .i64 0]∧Ext w w':=by
   apply nand_Chip_Geo.sh
   intro B₁ w₁ hn
   have hc1:=Ext.get hn.upd hc
   have off:CallsR prog K.nand_Chip_off #[.pointer (some ⟨B,0,none⟩)] w₁ fun v w'=>v= .bool true∧w'=w₁:=by
    apply nand_Chip_off.sh
    simp only [nand_Chip_off.body,Option.isNone_some,br_false,nilC_some',add_lit]
    exact ⟨none,0,0,cell_of hc1 rfl,rfl,by trivial⟩
   refine off.mono ?_
   rintro _ _ ⟨rfl,rfl⟩
   refine ⟨_,rfl,?_⟩
   simp only [br_true]
   refine store_of hn.get (by simp) fun w₂ hput=>?_
   have hg:=hput.get
   rw [splice_all _ _ (by simp)] at hg
   refine ⟨0,0,0,0,cellsAt_of (o:=0) hg (fun j v hj=>by simpa using hj),rfl,Put.upd hn.upd hput (.inl (by have:=hn.num;omega))⟩
  refine geo.mono ?_
  rintro _ w₁ ⟨rfl,he⟩
  refine ⟨0,0,0,0,rfl,?_⟩
  exact br_eq (fun _=>⟨by trivial,he⟩) fun h=>(h rfl).elim
abbrev NilChip (u:World) (p:Option Addr):Prop:=p=none∨∃ B,p=some ⟨B,0,none⟩∧u.heap[B]?=some (.cells zeroChip T.nand_Chip (0,0))
theorem NilChip.ext {u u':World} {p:Option Addr} (h:NilChip u p) (k:Ext u u'):NilChip u' p:=by
 rcases h with h | ⟨B,h1,h2⟩
 ·exact .inl h
 ·exact .inr ⟨B,h1,Ext.get k h2⟩
theorem erase_nb (c:Chip) (b:Int):(c.erase b).1.nb=c.nb:=(Chip.erase_geo c b).1
theorem nil_asked {u:World} {p:Option Addr} (h:NilChip u p) (era:Int):CallsR prog K.walk_asked #[.pointer p,.int .u32 era] u fun v w'=>v= .tuple #[.pointer none,.int .i64 1]∧Ext u w':=by
 apply walk_asked.sh
 unfold walk_asked.body
 refine (zero_Scan h).mono ?_
 rintro _ w' ⟨rfl,he⟩
 exact ⟨_,_,rfl,br_ne (fun _=>⟨rfl,he⟩) fun h=>by cases h⟩
theorem nil_wBlocks {u:World} {p:Option Addr} (h:NilChip u p) (era:Int):CallsR prog K.walk_Blocks #[.pointer p,.int .u32 era] u fun v w'=>v= .tuple #[.slice none 0 0,.int .i64 1]∧Ext u w':=by
 apply walk_Blocks.sh
 unfold walk_Blocks.body
 refine (nil_asked h era).mono ?_
 rintro _ w' ⟨rfl,he⟩
 exact ⟨_,_,rfl,br_ne (fun _=>⟨rfl,he⟩) fun h=>by cases h⟩
theorem nil_Newest {u:World} {p:Option Addr} (h:NilChip u p) (era:Int):CallsR prog K.walk_Newest #[.pointer p,.int .u32 era] u fun v w'=>v=newestV (none,1)∧Ext u w':=by
 apply walk_Newest.sh
 unfold walk_Newest.body
 intro B1 w₁ hn1
 have hB1:=hn1.num
 refine (nil_wBlocks (h.ext hn1.upd) era).mono ?_
 rintro _ w₂ ⟨rfl,he2⟩
 refine ⟨_,_,_,_,rfl,br_ne (fun _=>?_) fun h=>by cases h⟩
 have e2:=hn1.upd.trans he2
 exact new_out (R:=fun v w'=>v=newestV (none,1)∧Ext u w') (p:=Point.zero) (x:=0) (y:=0) (e:=1) (Ext.get he2 hn1.get) rfl fun u' hu=>⟨rfl,e2.beyond hu fun x hx=>by omega⟩
theorem nil_walked {u:World} {p:Option Addr} (h:NilChip u p) (era:Int):CallsR prog K.walk_walked #[.pointer p,.int .u32 era] u fun v w'=>v= .tuple #[.pointer none,.int .i64 1]∧Ext u w':=by
 apply walk_walked.sh
 unfold walk_walked.body
 refine (nil_Newest h era).mono ?_
 rintro _ w₁ ⟨rfl,he1⟩
 exact ⟨_,_,_,_,_,_,_,rfl,new_put (vs:=Point.vals Point.zero) rfl fun B1 w₃ hb3 hs3 he3 g3=>br_ne (fun _=>⟨rfl,he1.trans he3⟩) fun h=>by cases h⟩
theorem nil_wFacts {u:World} {p:Option Addr} (h:NilChip u p) (era:Int):CallsR prog K.walk_Facts #[.pointer p,.int .u32 era] u fun v w'=>v= .tuple #[.slice none 0 0,.int .i64 1]∧Ext u w':=by
 apply walk_Facts.sh
 unfold walk_Facts.body
 refine (nil_walked h era).mono ?_
 rintro _ w₁ ⟨rfl,he1⟩
 exact ⟨_,_,rfl,br_ne (fun _=>⟨rfl,he1⟩) fun h=>by cases h⟩
theorem nil_wPages {u:World} {p:Option Addr} (h:NilChip u p) (era:Int):CallsR prog K.walk_Pages #[.pointer p,.int .u32 era] u fun v w'=>v= .tuple #[.slice none 0 0,.int .i64 1]∧Ext u w':=by
 apply walk_Pages.sh
 unfold walk_Pages.body
 refine (nil_walked h era).mono ?_
 rintro _ w₁ ⟨rfl,he1⟩
 exact ⟨_,_,rfl,br_ne (fun _=>⟨rfl,he1⟩) fun h=>by cases h⟩
theorem still_dead18 {d:Chip} (hs:Still d 8 6 128 0) (hb:d.bad=List.replicate 8 false):((d.setHits [⟨0,false,[]⟩]).1.erase 0).1.dead=true:=by
 have h1:(d.setHits [⟨0,false,[]⟩]).1={ d with hits:=[⟨0,false,[]⟩],since:=0 }:=rfl
 rw [h1]
 have h2:({ d with hits:=[⟨0,false,[]⟩],since:=0 }:Chip).ask 0 0=0:=by
  unfold Chip.ask
  simp only [hs.dead,hs.nb,hs.np]
  rfl
 have h3:({ d with hits:=[⟨0,false,[]⟩],since:=0 }:Chip).isBad (0:Int).toNat=false:=by
  unfold Chip.isBad
  simp only [hb]
  rfl
 unfold Chip.erase
 rw [if_neg (by rw [h2];simp),if_neg (by rw [h3];simp)]
 rfl
theorem carracklaw18_WalkDead_spec {l:List LPage} {w:World} {G:Nat→Prop} {a:Option Addr} {c:Nat} (h:SliceAt lpageR w G a l) (hG:∀ b,G b→b<w.heap.size) (hfit:FitP l) (era:Nat) :
  CallsR prog K.carracklaw18_WalkDead #[.slice a l.length c,.int .u32 era] w fun v w'=>v= .bool true∧Ext w w':=by
 apply carracklaw18_WalkDead.sh
 suffices H:∀ R:Value→World→Prop,(∀ v w',v= .bool true∧Ext w w'→R v w')→carracklaw18_WalkDead.body a l.length c era w R from H _ fun _ _ h=>h
 intro R hR
 unfold carracklaw18_WalkDead.body
 have hN:∀ u,NilChip u none:=fun u=>.inl rfl
 refine (nil_wFacts (hN w) era).mono ?_
 rintro _ w₁ ⟨rfl,he1⟩
 refine ⟨_,_,_,_,rfl,fun B1 w₂ hn2=>?_⟩
 have hZ:NilChip w₂ (some ⟨B1,0,none⟩):=.inr ⟨B1,rfl,hn2.get⟩
 refine (nil_wPages hZ era).mono ?_
 rintro _ w₃ ⟨rfl,he3⟩
 refine ⟨_,_,_,_,rfl,(nil_wBlocks (hN w₃) era).mono ?_⟩
 rintro _ w₄ ⟨rfl,he4⟩
 refine ⟨_,_,_,_,rfl,(nil_Newest (hN w₄) era).mono ?_⟩
 rintro _ w₅ ⟨rfl,he5⟩
 refine ⟨_,_,_,_,_,_,_,rfl,new_put (vs:=Point.vals Point.zero) rfl fun B2 w₇ hb7 hs7 he7 g7=>?_⟩
 have e7:Ext w w₇:=((((he1.trans hn2.upd).trans he3).trans he4).trans he5).trans he7
 have hs7':=e7.size
 refine (carracklaw18_laid_spec (c:=c) (h.ext e7) (fun b hb=>by have:=hG b hb;omega) hfit).mono ?_
 rintro _ w₈ ⟨he8,p,rfl,hc8⟩
 have e8:=e7.trans he8
 have hcin:CAt w₇.heap.size w₈.heap.size w₈ p (chip18 l):=CAt.of hc8 (Nat.le_refl _)
 refine ⟨_,_,rfl,fun u=>u=w₈,br_intro (fun h=>absurd h (by decide)) fun _=>br_ne (fun h=>absurd rfl h) fun _=>br_ne (fun h=>absurd rfl h) fun _=>br_ne (fun h=>absurd rfl h) fun _=>br_ne (fun h=>absurd rfl h) fun _=>rfl,?_⟩
 rintro _ rfl B3 w₁₀ hn10
 have hB3:=hn10.num
 have hs10:=hn10.size
 have hst:=loadChip_still 8 6 128 0 (laidB l) []
 have hbad:(loadChip 8 6 128 0 (laidB l) []).bad=List.replicate 8 false:=bad_none
 change Still (chip18 l) 8 6 128 0 at hst
 change (chip18 l).bad=_ at hbad
 generalize chip18 l=d at *
 have hrow:RowAt w₁₀ (some ⟨B3,0,none⟩) [.int .i64 0,.bool false,.slice none 0 0]:=RowAt.of hn10.get fun j v hj=>by simpa using hj
 have hs8:=he8.size
 refine (cHits (Gin:=NoB) (hs:=[⟨0,false,[]⟩]) (cp:=1) (hcin.ext hn10.upd) (by omega) hrow ⟨none,0,[],rfl,BytesAt.nil _ _,fun h=>absurd rfl h,rfl⟩ (fun x hx=>hx.elim) (fun _ q hq=>by cases hq;right;show _≤B3;omega) (by decide) (fun t ht=>by simp at ht;rw [ht];exact Nat.zero_le _)).mono ?_
 rintro _ w₁₁ ⟨rfl,hu11,hc11⟩
 have hset:(d.setHits [⟨0,false,[]⟩]).2=0:=rfl
 rw [hset]
 refine ⟨_,rfl,br_ne (fun h=>absurd rfl h) fun _=>(cEraseF hc11 0).mono ?_⟩
 rintro _ w₁₂ ⟨rfl,hu12,hc12⟩
 have hdead:=still_dead18 hst hbad
 have hnb:((d.setHits [⟨0,false,[]⟩]).1.erase 0).1.nb<20:=by
  rw [erase_nb]
  show d.nb<20
  rw [hst.nb];decide
 generalize ((d.setHits [⟨0,false,[]⟩]).1.erase 0).1=e at *
 have e12:Ext w w₁₂:=((e8.trans hn10.upd).beyond hu11 fun x hx=>by have:=hx.1;omega).beyond hu12 fun x hx=>by have:=hx.1;omega
 have ha:askErr e era=10:=by unfold askErr;rw [if_pos hdead]
 have hn:newestR e era=(none,10):=by unfold newestR;rw [ha];rfl
 have hw:walkedR e era=(none,10):=by unfold walkedR;rw [hn];rfl
 refine ⟨_,rfl,(walk_Facts_spec hc12 hnb era).mono ?_⟩
 rw [hw]
 rintro _ w₁₃ ⟨a13,c13,G13,rfl,_,_,_,he13⟩
 refine ⟨_,_,_,_,rfl,(walk_Pages_spec (hc12.ext he13) hnb era).mono ?_⟩
 rw [hw]
 rintro _ w₁₄ ⟨a14,c14,G14,rfl,_,_,_,he14⟩
 have e14:=he13.trans he14
 refine ⟨_,_,_,_,rfl,(walk_Blocks_spec (hc12.ext e14) hnb era).mono ?_⟩
 rw [ha]
 rintro _ w₁₅ ⟨a15,c15,rfl,_,he15⟩
 have e15:=e14.trans he15
 refine ⟨_,_,_,_,rfl,(walk_Newest_spec (hc12.ext e15) hnb era).mono ?_⟩
 rw [hn]
 rintro _ w₁₆ ⟨rfl,he16⟩
 refine ⟨_,_,_,_,_,_,_,rfl,br_eq (fun _=>br_eq (fun _=>br_eq (fun _=>br_eq (fun _=>(carracklaw18_lives_spec w₁₆).mono ?_) fun h=>absurd rfl h) fun h=>absurd rfl h) fun h=>absurd rfl h) fun h=>absurd rfl h⟩
 rintro _ w₁₇ ⟨rfl,he17⟩
 exact ⟨_,rfl,hR _ _ ⟨rfl,((e12.trans e15).trans he16).trans he17⟩⟩
end Go.Den
section
namespace Go.Proofs.YtedbpnlhfppamaaGreat.walkDead
open Go.ChangeShapes Go.WideShapes Go.ChangeAt Go.RowKit Go.Den
theorem own:ownKnob Tryz.prog.godebug=none:=by kernel_rfl
theorem laidOut:laidOutB Tryz.prog=true:=by kernel_rfl
theorem rowed:∀ t∈Tryz.f5.params.toList,Tryz.prog.readableRec t=true∧t<Tryz.prog.types.size:=by
 rw [Tryz.params5]
 intro t ht
 simp at ht
 rcases ht with rfl | rfl<;>exact ⟨by kernel_rfl,of_decide_eq_true (by kernel_rfl)⟩
set_option maxRecDepth 100000 in
theorem lifted (os:Os) (started:os.Started) (H:Type) (enc:TypeId×Value→H) :
  ReturnsInHanded {} Tryz.checked os 5 .any (Rows.walkDeadSpec.pre6 enc Tryz.prog Tryz.f5 Rows.walkDeadRow.domain false) (Rows.walkDeadSpec.post enc Tryz.prog Tryz.f5 false true false false):=by
 refine returnsInHanded_of_change_sized (C:=Tryz.checked) own started (by kernel_rfl) Tryz.func5
  (ChangeSpec.witness6 (enc:=enc) (C:=Tryz.checked) false ⟨#[],#[.slice none 0 0,.int .u32 0],[]⟩ 8 (by kernel_rfl) (by kernel_rfl) (by kernel_rfl) (by kernel_rfl)) ?_
 intro W base args ds gs before hval0 hW hcnd hsz _
 have hval:∀ (j:Nat) t v,Tryz.f5.params[j]?=some t→args[j]?=some v→Value.okWide Tryz.prog W .any base t v:=hval0
 have hW':=hW
 obtain ⟨p,q,hA0,hV,hpq,hfz,hnd⟩:=hW
 have hA:DataW.TrodAll enc Tryz.prog W 0 (fun _=>true) true Tryz.f5.params.toList args.toList ds p:=hA0
 rw [Tryz.params5] at hA hval hsz
 obtain ⟨v0,vs0,d0,ds0,p0,q0,hargs,rfl,hp0,h0,r0⟩:=trodAll_cons hA
 obtain ⟨v1,vs1,d1,ds1,p1,q1,rfl,rfl,hp1,h1,r1⟩:=trodAll_cons r0
 obtain ⟨rfl,rfl,_⟩:=trodAll_nil r1
 obtain rfl:args=#[v0,v1]:=by cases args;simp_all
 obtain ⟨rfl,_⟩:=trodVars_none hV
 obtain ⟨sa0,sl0,sc0,rfl⟩:=okWide_slice Tryz.underlying22 (hval 0 22 v0 rfl rfl)
 obtain ⟨fuel0,hf0⟩:=h0
 obtain ⟨la0,ll0,lc0,hcs0,hsl0,hfp0,hlc0⟩:=open18_pages hf0 (fits_each hsz (j:=0) rfl rfl)
 simp [Value.cells] at hcs0
 obtain ⟨rfl,rfl,rfl⟩:=hcs0
 obtain ⟨a1,rfl,_,_,w1⟩:=open_int Tryz.underlying23 (hval 1 23 v1 rfl rfl) h1
 have b1:0≤a1∧a1≤4294967295:=by simpa [Lit.wf,IntKind.min,IntKind.max,IntKind.signed,IntKind.bits] using w1
 obtain ⟨n1,rfl⟩: ∃ n:Nat,a1=n:=⟨a1.toNat,by omega⟩
 refine Calls.mono (carracklaw18_WalkDead_spec hsl0 (fun b hb=>hb) hfp0 n1) fun e W' he=>?_
 obtain ⟨v,he,rfl,hx⟩:=he
 exact ⟨_,he,post_true laidOut hW' rfl rowed (Ext.below hx) Tryz.underlying4 (by kernel_rfl) rfl⟩
theorem proved:Rows.WalkDeadSaid :=
 OpenClaim.holds_of_wide 5 Tryz.f5 rfl rfl rfl rfl rfl rfl rfl ⟨rfl,rfl,rfl,rfl,rfl⟩ rfl rfl rfl rfl rfl (by kernel_rfl) Tryz.func5 (by kernel_rfl)
  (of_decide_eq_true (by kernel_rfl)) (by unfold Func.isWrapper;first | (rw [if_pos (by decide +kernel)];kernel_rfl) | (rw [if_neg (by decide +kernel)];exact ⟨rfl,rfl⟩))
  (fun os started H enc _=>lifted os started H enc)
end Go.Proofs.YtedbpnlhfppamaaGreat.walkDead
end
