/- The row of the law StemNil: for every input the law returns true, and its arguments read as they did. (Merged and shortened by program: LStemNil ZStemNil.) -/
import Derived.Test.YtmjlhddkhkgpfaaGreatDoorQ7
import Derived.Test.YtmjlhddkhkgpfaaGreatDoorRows
import Derived.Test.YtmjlhddkhkgpfaaGreatDoorCards
import Derived.Test.YtmjlhddkhkgpfaaGreatDoorTie
import Derived.SevenTiedAt
import Derived.WalkKit
set_option linter.unusedVariables false
set_option linter.unusedSimpArgs false
set_option maxRecDepth 20000
open Go.IntKind (i64 u64 u32 u8)
namespace Go.Den
section
def StemNone (w:World) (s:Option Addr):Prop:=s=none\/∃ B,s=some ⟨B,0,none⟩/\w.cell? ⟨B,0,none⟩= some (.pointer none)
section
variable {w:World} {s:Option Addr}
theorem off_none (h:StemNone w s):CallsR prog K.stem_Stem_off #[.pointer s] w fun v w'=>v= .bool true/\w'=w:=by
 apply stem_Stem_off.sh
 unfold stem_Stem_off.body
 rcases h with rfl | ⟨B,rfl,hc⟩
 .exact ⟨rfl,rfl⟩
 .simp only [Option.isNone_some,br_false,nilC_some',add_lit,Nat.zero_add]
  exact ⟨_,hc,by simp⟩
theorem put_none (h:StemNone w s) (a:Option Addr) (l c:Nat):CallsR prog K.stem_Stem_Put #[.pointer s,.slice a l c] w fun v w'=>v= .int .i64 1/\w'=w:=by
 apply stem_Stem_Put.sh
 unfold stem_Stem_Put.body
 refine (off_none h).mono ?_
 rintro _ _ ⟨rfl,rfl⟩
 exact ⟨_,rfl,rfl,rfl⟩
theorem sync_none (h:StemNone w s):CallsR prog K.stem_Stem_Sync #[.pointer s] w fun v w'=>v= .int .i64 1/\w'=w:=by
 apply stem_Stem_Sync.sh
 unfold stem_Stem_Sync.body
 refine (off_none h).mono ?_
 rintro _ _ ⟨rfl,rfl⟩
 exact ⟨_,rfl,rfl,rfl⟩
theorem tidy_none (h:StemNone w s) (n:Int):CallsR prog K.stem_Stem_Tidy #[.pointer s,.int .i64 n] w fun v w'=>v= .int .i64 1/\w'=w:=by
 apply stem_Stem_Tidy.sh
 unfold stem_Stem_Tidy.body
 refine (off_none h).mono ?_
 rintro _ _ ⟨rfl,rfl⟩
 exact ⟨_,rfl,rfl,rfl⟩
theorem facts_none (h:StemNone w s):CallsR prog K.stem_Stem_Facts #[.pointer s] w fun v w'=>v= .slice none 0 0/\w'=w:=by
 apply stem_Stem_Facts.sh
 unfold stem_Stem_Facts.body
 refine (off_none h).mono ?_
 rintro _ _ ⟨rfl,rfl⟩
 exact ⟨_,rfl,rfl,rfl⟩
theorem blanks_none (h:StemNone w s):CallsR prog K.stem_Stem_Blanks #[.pointer s] w fun v w'=>v= .int .i64 0/\w'=w:=by
 apply stem_Stem_Blanks.sh
 unfold stem_Stem_Blanks.body
 refine (off_none h).mono ?_
 rintro _ _ ⟨rfl,rfl⟩
 exact ⟨_,rfl,rfl,rfl⟩
theorem chip_none (h:StemNone w s):CallsR prog K.stem_Stem_Chip #[.pointer s] w fun v w'=>v= .pointer none/\w'=w:=by
 apply stem_Stem_Chip.sh
 unfold stem_Stem_Chip.body
 refine (off_none h).mono ?_
 rintro _ _ ⟨rfl,rfl⟩
 exact ⟨_,rfl,rfl,rfl⟩
end
theorem carracklaw19_StemNil_spec (a:Option Addr) (l c:Nat) (zero:Bool) {w:World} (hb:BoundsAt w) :
  CallsR prog K.carracklaw19_StemNil #[.slice a l c,.bool zero] w fun v w'=>v= .bool true/\Ext w w':=by
 apply carracklaw19_StemNil.sh
 suffices H:∀ R:Value->World->Prop,(∀ v w',v= .bool true/\Ext w w'->R v w')->carracklaw19_StemNil.body a l c zero w R from H _ fun _ _ h=>h
 intro R hR
 unfold carracklaw19_StemNil.body
 cases zero with
 | true =>
  rw [br_true]
  intro B w1 hn
  have hc:StemNone w1 (some ⟨B,0,none⟩):=.inr ⟨B,rfl,cell_of hn.get rfl⟩
  refine (put_none hc a l c).mono ?_
  rintro _ _ ⟨rfl,rfl⟩
  refine ⟨_,rfl,br_eq (fun _=>?_) fun h=>absurd rfl h⟩
  refine (sync_none hc).mono ?_
  rintro _ _ ⟨rfl,rfl⟩
  refine ⟨_,rfl,br_eq (fun _=>?_) fun h=>absurd rfl h⟩
  refine (tidy_none hc 1).mono ?_
  rintro _ _ ⟨rfl,rfl⟩
  refine ⟨_,rfl,br_eq (fun _=>?_) fun h=>absurd rfl h⟩
  refine (facts_none hc).mono ?_
  rintro _ _ ⟨rfl,rfl⟩
  refine ⟨_,_,_,rfl,br_eq (fun _=>?_) fun h=>absurd rfl h⟩
  refine (blanks_none hc).mono ?_
  rintro _ _ ⟨rfl,rfl⟩
  refine ⟨_,rfl,br_eq (fun _=>?_) fun h=>absurd rfl h⟩
  refine (chip_none hc).mono ?_
  rintro _ _ ⟨rfl,rfl⟩
  refine ⟨_,rfl,?_⟩
  rw [Option.isNone_none,br_true]
  refine (carrackref02_Size_spec 128 _).mono ?_
  rintro _ _ ⟨rfl,rfl⟩
  refine ⟨_,rfl,?_⟩
  rw [show isSize 128=true by decide,br_true]
  refine (carracklaw19_lives_spec (hb.ext hn.upd)).mono ?_
  rintro _ w' ⟨rfl,he⟩
  exact ⟨_,rfl,hR _ _ ⟨rfl,hn.upd.trans he⟩⟩
 | false =>
  rw [br_false]
  have hc:StemNone w none:=.inl rfl
  refine (put_none hc a l c).mono ?_
  rintro _ _ ⟨rfl,rfl⟩
  refine ⟨_,rfl,br_eq (fun _=>?_) fun h=>absurd rfl h⟩
  refine (sync_none hc).mono ?_
  rintro _ _ ⟨rfl,rfl⟩
  refine ⟨_,rfl,br_eq (fun _=>?_) fun h=>absurd rfl h⟩
  refine (tidy_none hc 1).mono ?_
  rintro _ _ ⟨rfl,rfl⟩
  refine ⟨_,rfl,br_eq (fun _=>?_) fun h=>absurd rfl h⟩
  refine (facts_none hc).mono ?_
  rintro _ _ ⟨rfl,rfl⟩
  refine ⟨_,_,_,rfl,br_eq (fun _=>?_) fun h=>absurd rfl h⟩
  refine (blanks_none hc).mono ?_
  rintro _ _ ⟨rfl,rfl⟩
  refine ⟨_,rfl,br_eq (fun _=>?_) fun h=>absurd rfl h⟩
  refine (chip_none hc).mono ?_
  rintro _ _ ⟨rfl,rfl⟩
  refine ⟨_,rfl,?_⟩
  rw [Option.isNone_none,br_true]
  refine (carrackref02_Size_spec 128 _).mono ?_
  rintro _ _ ⟨rfl,rfl⟩
  refine ⟨_,rfl,?_⟩
  rw [show isSize 128=true by decide,br_true]
  refine (carracklaw19_lives_spec hb).mono ?_
  rintro _ w' ⟨rfl,he⟩
  exact ⟨_,rfl,hR _ _ ⟨rfl,he⟩⟩
end
end Go.Den
section
namespace Go.Proofs.YtmjlhddkhkgpfaaGreatDoor.stemNil
open Go.ChangeShapes Go.WideShapes Go.ChangeAt Go.RowKit Go.Den
theorem own:ownKnob Tryz.prog.godebug=none:=by kernel_rfl
theorem laidOut:laidOutB Tryz.prog=true:=by kernel_rfl
theorem rowed:∀ t∈Tryz.f6.params.toList,Tryz.prog.readableRec t=true/\t<Tryz.prog.types.size:=by
 rw [Tryz.params6]
 intro t ht
 simp at ht
 rcases ht with rfl | rfl<;>exact ⟨by kernel_rfl,of_decide_eq_true (by kernel_rfl)⟩
set_option maxRecDepth 100000 in
theorem lifted (os:Os) (started:os.Started) (H:Type) (enc:TypeId×Value->H) :
  ReturnsInHanded {} Tryz.checked os 6 .any (fun w args=>(Rows.stemNilSpec.pre enc Tryz.prog Tryz.f6 Rows.stemNilRow.domain false w args/\laidMetH Tryz.prog boundsLaid w)/\sizedMet enc Tryz.prog Tryz.f6 (OpenSpec.ofChange Rows.stemNilSpec) false w args) (Rows.stemNilSpec.post enc Tryz.prog Tryz.f6 false true false false):=by
 refine returnsInHanded_of_change_and (C:=Tryz.checked) (X:=fun w _=>laidMetH Tryz.prog boundsLaid w) (fun w w' _ hh h=>laidMet.of_heap (P:=Tryz.prog) (l:=boundsLaid) hh h) own started (by kernel_rfl) Tryz.func6
  (ChangeSpec.witness_at (enc:=enc) (C:=Tryz.checked) (os:=os) (X:=fun w _=>laidMetH Tryz.prog boundsLaid w) false (boundsW os) #[.slice none 0 0,.bool false] 8 rfl (by kernel_rfl) (by kernel_rfl) (by kernel_rfl) (by kernel_rfl) (by kernel_rfl) (bounds_met os _)) ?_
 intro W base args ds gs before hval0 hW hcnd hsz hL _
 have hlb:BoundsAt W:=bounds_at hL
 have hval:∀ (j:Nat) t v,Tryz.f6.params[j]?=some t->args[j]?=some v->Value.okWide Tryz.prog W .any base t v:=hval0
 have hW':=hW
 obtain ⟨p,q,hA0,hV,hpq,hfz,hnd⟩:=hW
 have hA:DataW.TrodAll enc Tryz.prog W 0 (fun _=>true) true Tryz.f6.params.toList args.toList ds p:=hA0
 rw [Tryz.params6] at hA hval hsz
 obtain ⟨v0,vs0,d0,ds0,p0,q0,hargs,rfl,hp0,h0,r0⟩:=trodAll_cons hA
 obtain ⟨v1,vs1,d1,ds1,p1,q1,rfl,rfl,hp1,h1,r1⟩:=trodAll_cons r0
 obtain ⟨rfl,rfl,_⟩:=trodAll_nil r1
 obtain rfl:args=#[v0,v1]:=by cases args;simp_all
 obtain ⟨rfl,_⟩:=trodVars_none hV
 obtain ⟨sa0,sl0,sc0,rfl⟩:=okWide_slice Tryz.underlying41 (hval 0 41 v0 rfl rfl)
 obtain ⟨fuel0,hf0⟩:=h0
 obtain ⟨a1,rfl,_,_⟩:=open_bool Tryz.underlying4 (hval 1 4 v1 rfl rfl) h1
 refine Calls.mono (carracklaw19_StemNil_spec sa0 sl0 sc0 a1 hlb) fun e W' he=>?_
 obtain ⟨v,he,rfl,hx⟩:=he
 exact ⟨_,he,post_true laidOut hW' rfl rowed (Ext.below hx) Tryz.underlying4 (by kernel_rfl) rfl⟩
theorem row:Rows.StemNilSaid :=
 OpenClaim.holds_of_wide 6 Tryz.f6 rfl rfl rfl rfl rfl rfl rfl ⟨rfl,rfl,rfl,rfl,rfl⟩ rfl rfl rfl rfl rfl (by kernel_rfl) Tryz.func6 (by kernel_rfl)
  (of_decide_eq_true (by kernel_rfl)) (by unfold Func.isWrapper;first | (rw [if_pos (by decide +kernel)];kernel_rfl) | (rw [if_neg (by decide +kernel)];exact ⟨rfl,rfl⟩))
  (fun os started H enc _=>lifted os started H enc)
theorem proved:Rows.StemNilCardSaid :=
 Claim7.holds_tied_plain_at .later [] [.data] true Rows.stemNilCard.stood.harness true
  row (fun _ h=>by cases h) (by kernel_rfl) (fun _ h=>by cases h) stemNil_row_tie rfl ⟨rfl,rfl⟩ (by kernel_rfl) rfl
  (fun f fn hf hfn=>by
   obtain rfl:f=6:=Option.some.inj ((show Tryz.prog.funcNamed "carrack/carracklaw19.StemNil" = some 6 by kernel_rfl).symm.trans hf) |>.symm
   obtain rfl:fn=Tryz.f6:=(Option.some.inj (Tryz.func6.symm.trans hfn)).symm
   exact ⟨by kernel_rfl,fun j t ht=>by
    rw [Tryz.params6] at ht
    have hm:t∈[41,4]:=by simpa using Array.mem_of_getElem? ht
    have hall:([41,4].all fun u=> !Tryz.prog.wantsStandIn u)=true:=by kernel_rfl
    exact (show Tryz.prog.wantsStandIn t=false by simpa using List.all_eq_true.1 hall t hm)⟩)
  (by kernel_rfl)
end Go.Proofs.YtmjlhddkhkgpfaaGreatDoor.stemNil
end
