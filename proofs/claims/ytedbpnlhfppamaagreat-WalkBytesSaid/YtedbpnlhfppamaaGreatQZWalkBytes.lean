/- The row of the law WalkBytes: for every input the law returns true, and its arguments read as they did. (Merged and shortened by program: LWalkBytes ZWalkBytes.) -/
import Derived.Test.YtedbpnlhfppamaaGreatQ6
import Derived.Test.YtedbpnlhfppamaaGreatRows
import Derived.WalkKit
set_option linter.unusedVariables false
set_option linter.unusedSimpArgs false
set_option maxRecDepth 20000
namespace Go.Den
theorem carracklaw18_WalkBytes_spec {b:List UInt8} {w:World} {a:Option Addr} {c:Nat} (hb:BytesAt w a b) (hbl:b.length<9000000000000000000) (era:Nat) :
  CallsR prog K.carracklaw18_WalkBytes #[.slice a b.length c,.int .u32 era] w fun v w'=>v= .bool true∧Ext w w':=by
 apply carracklaw18_WalkBytes.sh
 suffices H:∀ R:Value→World→Prop,(∀ v w',v= .bool true∧Ext w w'→R v w')→carracklaw18_WalkBytes.body a b.length c era w R from H _ fun _ _ h=>h
 intro R hR
 unfold carracklaw18_WalkBytes.body
 refine (carracklaw18_geo_spec w).mono ?_
 rintro _ w₁ ⟨rfl,he1⟩
 refine ⟨_,_,_,_,rfl,new_put (vs:=[.int .i64 8,.int .i64 6,.int .i64 128,.int .i64 0]) rfl fun B1 w₃ hb1 hs3 he3 g3=>?_⟩
 simp only [add_lit,Nat.zero_add]
 refine ⟨_,cell_of g3 rfl,_,cell_of g3 rfl,_,cell_of g3 rfl,?_⟩
 have q0:IntKind.i64.wrap (IntKind.i64.wrap (8 * 6) * 128)=6144:=by rw [w64 (x:=8 * 6) (by decide) (by decide),w64 (by decide) (by decide)];rfl
 rw [q0]
 refine ⟨by decide,by decide,by decide,by decide,rfl,fun Ba w₄ hn4=>?_⟩
 have hs1:=he1.size
 have hs4:=hn4.size
 have hba:Ba=w₃.heap.size:=hn4.num
 have e4:Ext w w₄:=(he1.trans he3).trans hn4.upd
 have st0:BList w₃.heap.size w₄ (some ⟨Ba,0,none⟩) 6144 (List.replicate 6144 0):=by
  have:=BList.new (S:=w₃.heap.size) (l:=List.replicate 6144 0) hn4 (zeros_bytes1 _) (Nat.le_refl _)
  rw [List.length_replicate] at this
  exact this
 obtain ⟨N,hN⟩: ∃ N:Nat,N=6144:=⟨_,rfl⟩
 have hN':Int.toNat 6144=N:=hN.symm
 rw [hN']
 rw [← hN] at st0
 let ST:List UInt8→World→Prop:=fun l u=>l.length=N∧BList w₃.heap.size u (some ⟨Ba,0,none⟩) N l∧Ext w u∧u.heap[B1]?=some (.cells [Value.int .i64 8,.int .i64 6,.int .i64 128,.int .i64 0].toArray T.api_Geo (0,0))∧w₄.heap.size≤u.heap.size
 have put:∀ {l:List UInt8} {u:World} {j:Nat} {x:UInt8} {K:World→Prop},ST l u→j<N→(∀ u',Upd (·=Ba) u u'→ST (l.set j x) u'→K u')→idxP (some ⟨Ba,0,none⟩) N (j:Int) 1 fun q=>storeP u q [bv x] K:=fun {l u j x K} hst h1 hk=>by
  obtain ⟨hl,hbl,h2,h3,h4⟩:=hst
  have:=hbl.store (i:=j) (x:=x) (K:=K) (by omega) fun b w' hb hS hu hl'=>hk w' (hu.mono fun x _ hx=>by cases hx;rfl) ⟨by rw [List.length_set];exact hl,hl',h2.beyond hu fun x hx=>by cases hx;omega,hu.get h3 (fun hx=>by cases hx;omega),Nat.le_trans h4 hu.size⟩
  rw [hl] at this
  exact this
 have st4:ST (List.replicate N 0) w₄:=⟨by rw [List.length_replicate],st0,e4,Ext.get hn4.upd g3,Nat.le_refl _⟩
 refine ⟨fun x u=>∃ (i:Nat) (lb:List UInt8),x=i∧i≤N∧ST lb u,fun x _=>((N:Int) - x).toNat,⟨0,_,rfl,by omega,st4⟩,?_⟩
 rintro x u ⟨i,lb,rfl,hi,stu⟩
 refine br_dec (fun hlt=>?_) fun hge=>?_
 ·have hi':i<N:=by omega
  have ew:IntKind.i64.wrap ((i:Int)+1)=((i+1:Nat):Int):=w64 (by omega) (by omega)
  simp only [ew,ff_bv]
  refine put stu (by omega) fun u' _ st'=>br_dec (fun hlt2=>?_) fun _=>⟨⟨i+1,_,rfl,hi',st'⟩,meas hi'⟩
  refine idx_byte (hb.ext st'.2.2.1) (by omega) (by omega) ?_
  exact put st' (by omega) fun u'' _ st''=>⟨⟨i+1,_,rfl,hi',st''⟩,meas hi'⟩
 obtain ⟨hl,hbb,h2,h3,h4⟩:=stu
 refine ⟨_,_,_,_,cells_all h3,?_⟩
 have hld:=nand_Load_all (nb:=8) (np:=6) (sz:=128) (sp:=0) (c:=N) u (by decide) (by decide) (by decide) (by decide) (by decide) (by decide) (by decide) hbb.bytes (by rw [hl,hN]) (by omega) (ai:=none) (is:=[]) (ci:=0) (RowAt.nil _ _) (fun x hx=>by cases hx) (by decide)
 rw [hl] at hld
 refine hld.mono ?_
 rintro _ w₈ ⟨he8,p,rfl,hc8⟩
 have hcin:CAt u.heap.size w₈.heap.size w₈ p (loadChip 8 6 128 0 lb []):=CAt.of hc8 (Nat.le_refl _)
 have hst:=loadChip_still 8 6 128 0 lb []
 generalize loadChip 8 6 128 0 lb []=d at *
 refine ⟨_,_,rfl,br_eq (fun _=>(carracklaw18_same_spec hcin hst.dead (by rw [hst.nb];decide) era).mono ?_) fun h=>absurd rfl h⟩
 rintro _ w₉ ⟨rfl,he9⟩
 refine ⟨_,rfl,?_⟩
 rw [br_true]
 refine (carracklaw18_lives_spec w₉).mono ?_
 rintro _ w₁₀ ⟨rfl,he10⟩
 exact ⟨_,rfl,hR _ _ ⟨rfl,((h2.trans he8).trans he9).trans he10⟩⟩
end Go.Den
section
namespace Go.Proofs.YtedbpnlhfppamaaGreat.walkBytes
open Go.ChangeShapes Go.WideShapes Go.ChangeAt Go.RowKit Go.Den
theorem own:ownKnob Tryz.prog.godebug=none:=by kernel_rfl
theorem laidOut:laidOutB Tryz.prog=true:=by kernel_rfl
theorem rowed:∀ t∈Tryz.f4.params.toList,Tryz.prog.readableRec t=true∧t<Tryz.prog.types.size:=by
 rw [Tryz.params4]
 intro t ht
 simp at ht
 rcases ht with rfl | rfl<;>exact ⟨by kernel_rfl,of_decide_eq_true (by kernel_rfl)⟩
set_option maxRecDepth 100000 in
theorem lifted (os:Os) (started:os.Started) (H:Type) (enc:TypeId×Value→H) :
  ReturnsInHanded {} Tryz.checked os 4 .any (Rows.walkBytesSpec.pre6 enc Tryz.prog Tryz.f4 Rows.walkBytesRow.domain false) (Rows.walkBytesSpec.post enc Tryz.prog Tryz.f4 false true false false):=by
 refine returnsInHanded_of_change_sized (C:=Tryz.checked) own started (by kernel_rfl) Tryz.func4
  (ChangeSpec.witness6 (enc:=enc) (C:=Tryz.checked) false ⟨#[],#[.slice none 0 0,.int .u32 0],[]⟩ 8 (by kernel_rfl) (by kernel_rfl) (by kernel_rfl) (by kernel_rfl)) ?_
 intro W base args ds gs before hval0 hW hcnd hsz _
 have hval:∀ (j:Nat) t v,Tryz.f4.params[j]?=some t→args[j]?=some v→Value.okWide Tryz.prog W .any base t v:=hval0
 have hW':=hW
 obtain ⟨p,q,hA0,hV,hpq,hfz,hnd⟩:=hW
 have hA:DataW.TrodAll enc Tryz.prog W 0 (fun _=>true) true Tryz.f4.params.toList args.toList ds p:=hA0
 rw [Tryz.params4] at hA hval hsz
 obtain ⟨v0,vs0,d0,ds0,p0,q0,hargs,rfl,hp0,h0,r0⟩:=trodAll_cons hA
 obtain ⟨v1,vs1,d1,ds1,p1,q1,rfl,rfl,hp1,h1,r1⟩:=trodAll_cons r0
 obtain ⟨rfl,rfl,_⟩:=trodAll_nil r1
 obtain rfl:args=#[v0,v1]:=by cases args;simp_all
 obtain ⟨rfl,_⟩:=trodVars_none hV
 obtain ⟨sa0,sl0,sc0,rfl⟩:=okWide_slice Tryz.underlying31 (hval 0 31 v0 rfl rfl)
 obtain ⟨fuel0,hf0⟩:=h0
 obtain ⟨ba0,bl0,bc0,hcs0,hlc0,hby0,hbn0,hbr0⟩:=open_bytes_fit Tryz.underlying31 Tryz.underlying5 (by kernel_rfl) hf0 (fits_each hsz (j:=0) rfl rfl)
 simp [Value.cells] at hcs0
 obtain ⟨rfl,rfl,rfl⟩:=hcs0
 obtain ⟨a1,rfl,_,_,w1⟩:=open_int Tryz.underlying23 (hval 1 23 v1 rfl rfl) h1
 have b1:0≤a1∧a1≤4294967295:=by simpa [Lit.wf,IntKind.min,IntKind.max,IntKind.signed,IntKind.bits] using w1
 obtain ⟨n1,rfl⟩: ∃ n:Nat,a1=n:=⟨a1.toNat,by omega⟩
 refine Calls.mono (carracklaw18_WalkBytes_spec hby0 (Nat.lt_of_le_of_lt hbr0 (by decide)) n1) fun e W' he=>?_
 obtain ⟨v,he,rfl,hx⟩:=he
 exact ⟨_,he,post_true laidOut hW' rfl rowed (Ext.below hx) Tryz.underlying4 (by kernel_rfl) rfl⟩
theorem proved:Rows.WalkBytesSaid :=
 OpenClaim.holds_of_wide 4 Tryz.f4 rfl rfl rfl rfl rfl rfl rfl ⟨rfl,rfl,rfl,rfl,rfl⟩ rfl rfl rfl rfl rfl (by kernel_rfl) Tryz.func4 (by kernel_rfl)
  (of_decide_eq_true (by kernel_rfl)) (by unfold Func.isWrapper;first | (rw [if_pos (by decide +kernel)];kernel_rfl) | (rw [if_neg (by decide +kernel)];exact ⟨rfl,rfl⟩))
  (fun os started H enc _=>lifted os started H enc)
end Go.Proofs.YtedbpnlhfppamaaGreat.walkBytes
end
