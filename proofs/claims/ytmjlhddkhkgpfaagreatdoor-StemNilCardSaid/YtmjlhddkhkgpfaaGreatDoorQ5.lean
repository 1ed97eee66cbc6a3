/- Contracts of walk (layer 18) and its reference: blocks, the newest point. (Merged and shortened by program: Rep8 SClone SOwn SApply SPlay SPlay2 SJour3 SScan4 SLeaf SLeaf3 SPut15 MShape MWalk MLog SPoint SPoint2 MStem MRound MTree MNode MLay SPutRec SShape SCopy SPack SShape2 SLeaf4 SPlan SPlace MTaken SScan5 SWalk.) -/
import Derived.Test.YtmjlhddkhkgpfaaGreatDoorQ4
import Derived.Lib.Overlaps
import Derived.DeepKeys3
set_option linter.unusedVariables false
set_option linter.unusedSimpArgs false
set_option maxRecDepth 20000
open Go.IntKind (i64 u64 u32 u8)
namespace Go.Den
def spl (C:List Value) (o:Nat) (vs:List Value):List Value:=C.take o ++ vs ++ C.drop (o+vs.length)
theorem spl_length {C:List Value} {o:Nat} {vs:List Value} (h:o+vs.length<=C.length):(spl C o vs).length=C.length:=by
 unfold spl
 simp only [List.length_append,List.length_take,List.length_drop]
 omega
theorem spl_take_at {C:List Value} {o:Nat} {vs:List Value} (h:o<=C.length):(spl C o vs).take (o+vs.length)=C.take o ++ vs:=by
 unfold spl
 have:(C.take o ++ vs).length=o+vs.length:=by simp;omega
 rw [<- this,List.take_append_of_le_length (Nat.le_refl _),List.take_length]
theorem spl_take_lo {C:List Value} {o q:Nat} {vs:List Value} (hq:q<=o) (h:o<=C.length):(spl C o vs).take q=C.take q:=by
 unfold spl
 rw [List.append_assoc,List.take_append_of_le_length (by simp;omega),List.take_take]
 congr 1
 omega
theorem spl_drop_at {C:List Value} {o:Nat} {vs:List Value} (h:o<=C.length):(spl C o vs).drop o=vs ++ C.drop (o+vs.length):=by
 unfold spl
 have:(C.take o).length=o:=by simp;omega
 rw [List.append_assoc,List.drop_append,this,List.drop_eq_nil_of_le (by omega)]
 simp
def Full (w:World) (b:Nat) (e:TypeId) (C:List Value):Prop:=w.heap[b]?=some (.cells C.toArray e (0,0))
theorem OwnAt.full {w:World} {b len cap size:Nat} {e:TypeId} {cells:List Value} (h:OwnAt w (some ⟨b,0,none⟩) len cap e size cells):∃ C,Full w b e C/\C.length=cap * size/\C.take (len * size)=cells:=by
 obtain ⟨hl,hc,h⟩:=h
 rcases h with ⟨hx,_⟩| ⟨b',cur,hx,hb,hs,ht⟩
 .cases hx
 .cases hx
  exact ⟨cur.toList,by unfold Full;rw [hb],by simpa using hs,ht⟩
theorem Full.own {w:World} {b len cap size:Nat} {e:TypeId} {C:List Value} (h:Full w b e C) (hs:C.length=cap * size) (hl:len<=cap):OwnAt w (some ⟨b,0,none⟩) len cap e size (C.take (len * size)) :=
 ⟨by rw [List.length_take,hs];exact Nat.min_eq_left (Nat.mul_le_mul_right _ hl),hl,.inr ⟨b,C.toArray,rfl,h,by simpa using hs,by simp⟩⟩
theorem Full.row {w:World} {b:Nat} {e:TypeId} {C:List Value} (h:Full w b e C) (o m:Nat):RowAt w (some ⟨b,o,none⟩) ((C.drop o).take m):=by
 refine RowAt.take (RowAt.of h fun j v hj=>?_) m
 rw [List.getElem?_drop] at hj
 simpa using hj
theorem Full.store {w:World} {b:Nat} {e:TypeId} {C:List Value} (h:Full w b e C) {o:Nat} {vs:List Value} (hf:o+vs.length<=C.length) {K:World->Prop} (hk:∀ w',Upd (·=b) w w'->Full w' b e (spl C o vs)->K w'):storeP w ⟨b,o,none⟩ vs K :=
 store_of h (by simpa using hf) fun w' hp=>hk w' hp.upd1 hp.get
theorem slice_any {size b len cap lo hi mx:Nat} {lo' hi' mx':Option Int} (e1:lo'.getD 0=lo) (e2:hi'.getD len=hi) (e3:mx'.getD cap=mx) (h1:lo<=hi) (h2:hi<=mx) (h3:mx<=cap) (h4:mx'.isSome=true->hi'.isSome=true) {K:Option Addr->Nat->Nat->Prop}
  (hk:∀ a,(a=some ⟨b,lo * size,none⟩\/(mx=lo/\a=some ⟨b,0,none⟩))->K a (hi - lo) (mx - lo)):sliceP size (some ⟨b,0,none⟩) len cap lo' hi' mx' K:=by
 unfold sliceP
 rw [e1,e2,e3]
 refine ⟨by omega,by omega,by omega,by omega,by omega,by omega,h4,?_⟩
 simp only [Int.toNat_natCast]
 split
 .rename_i h;exact hk _ (.inr ⟨h,rfl⟩)
 .refine hk _ (.inl ?_)
  simp
theorem Full.append_in {w:World} {b:Nat} {e:TypeId} {C:List Value} (h:Full w b e C) {len cap size bytes:Nat} {z:List Value} {x:Value} {m:Nat} {new:List Value} (hC:C.length=cap * size) (hx:lenV x=some m) (hr:readP w size x m new) (hm:new.length=m * size) (h1:∀ v∈new,v.oneCell'=true) (hroom:len+m<=cap)
  {K:Option Addr->Nat->Nat->World->Prop} (hk:∀ w',Upd (·=b) w w'->Full w' b e (spl C (len * size) new)->K (some ⟨b,0,none⟩) (len+m) cap w'):appendP e size bytes z (some ⟨b,0,none⟩) len cap x w K:=by
 refine ⟨m,hx,new,hr,h1,fun _=>?_,fun hg=>absurd hg (by omega)⟩
 simp only [add_lit,Nat.zero_add]
 refine h.store ?_ fun w' hu hf=>hk w' hu hf
 rw [hm,hC,<- Nat.add_mul]
 exact Nat.mul_le_mul_right _ hroom
theorem Rows.cut {α:Type} {r:ERep α} {w:World} {G:Nat->Prop} {l:List α} {vs:List Value} (h:Rows r w G vs l) (i:Nat):Rows r w G (vs.take (i * r.k) ++ vs.drop ((i+1) * r.k)) (l.take i ++ l.drop (i+1)):=(Rows.take i h).append (Rows.drop (i+1) h)
theorem Rows.insert {α:Type} {r:ERep α} {w:World} {G:Nat->Prop} {l:List α} {vs us:List Value} {x:α} (h:Rows r w G vs l) (hx:r.R w G us x) (i:Nat):Rows r w G (vs.take (i * r.k) ++ us ++ vs.drop (i * r.k)) (l.take i ++ [x] ++ l.drop i):=((Rows.take i h).append (Rows.single hx)).append (Rows.drop i h)
theorem ListAt.push' {α:Type} {r:ERep α} {Q:Nat->Prop} {S:Nat} {w0 w1:World} {H:Nat->Prop} {a:Option Addr} {cap n bytes:Nat} {e:TypeId} {l:List α} {z:List Value} (h:ListAt r Q S w1 a cap e l) {B:Nat} {x:α} {cs:Array Value} (hx:r.R w1 H cs.toList x) (hH:∀ b,H b->(S<=b\/Q b)/\b<w1.heap.size/\a≠some ⟨b,0,none⟩) (hn:New w0 (.cells cs e) B w1) (hnl:n=l.length)
  (hz:z.length=r.k) (hb:l.length<=1000000000) (hby:bytes<=10000) (hS:S<=w1.heap.size) {K:Option Addr->Nat->Nat->World->Prop}
  (hk:∀ a' c' w',Upd (fun b=>a=some ⟨b,0,none⟩) w1 w'->ListAt r Q S w' a' c' e (l ++ [x])->K a' (l ++ [x]).length c' w') :
  appendP e r.k bytes z a n cap (.slice (some ⟨B,0,none⟩) 1 1) w1 K:=by
 obtain ⟨G,h1,h2,h3⟩:=h
 have hG:∀ b,G b\/H b->(S<=b\/Q b)/\b<w1.heap.size:=fun b hb=>by
  rcases hb with hb | hb
  .exact h2 b hb
  .exact ⟨(hH b hb).1,(hH b hb).2.1⟩
 have hno:∀ b,a=some ⟨b,0,none⟩->¬ (G b\/H b):=fun b hb hb'=>by
  rcases hb' with hb' | hb'
  .exact (h3 b hb).2 hb'
  .exact (hH b hb').2.2 hb
 refine OwnS.push (G:=fun b=>G b\/H b) (h1.mono fun _ hb=>.inl hb) (r.mono hx fun _ hb=>.inr hb) hn hnl hz hb hby hno fun a' c' w' hu ho hf=>?_
 refine hk a' c' w' hu ⟨_,ho,fun b hb=>⟨(hG b hb).1,Nat.lt_of_lt_of_le (hG b hb).2 hu.size⟩,fun b hb=>?_⟩
 rcases hf with hf | ⟨b',hb',hl⟩
 .subst hf;exact ⟨(h3 b hb).1,hno b hb⟩
 .rw [hb'] at hb
  cases hb
  exact ⟨Nat.le_trans hS hl,fun hb=>absurd (hG _ hb).2 (by omega)⟩
theorem Upd.over {F F':Nat->Prop} {a b c:World} (h:Upd F a b) (k:Upd F' b c) (hF:∀ x,F' x->F x\/a.heap.size<=x):Upd F a c :=
 ⟨Nat.le_trans h.size k.size,fun i hi hf=>(k.blk i (Nat.lt_of_lt_of_le hi h.size) (fun hx=>by rcases hF i hx with h | h;exact hf h;omega)).trans (h.blk i hi hf),k.os.trans h.os,k.tape.trans h.tape,k.output.trans h.output,fun b o hb ho=>k.book b o (h.book b o hb ho) ho⟩
section
def U8 (w:World) (a:Option Addr) (c:Nat):Prop:=c=0\/∃ b cur,c<9223372036854775808/\a=some ⟨b,0,none⟩/\w.heap[b]?=some (.cells cur T.uint8 (0,0))/\c<=cur.size/\∀ v∈cur.toList,∃ x:Int,v= .int .u8 x
theorem U8.upd {F:Nat->Prop} {w w':World} {a:Option Addr} {c:Nat} (h:U8 w a c) (k:Upd F w w') (hf:∀ p,a=some p->¬ F p.block):U8 w' a c:=by
 rcases h with h | ⟨b,cur,hc,rfl,hb,hs,hv⟩
 .exact .inl h
 .exact .inr ⟨b,cur,hc,rfl,k.get hb (hf _ rfl),hs,hv⟩
theorem U8.cellsLe {w w':World} {a:Option Addr} {c:Nat} (h:U8 w a c) (k:CellsLe w w'):U8 w' a c:=by
 rcases h with h | ⟨b,cur,hc,rfl,hb,hs,hv⟩
 .exact .inl h
 .exact .inr ⟨b,cur,hc,rfl,k.get _ _ _ _ hb,hs,hv⟩
def OwnB (w:World) (a:Option Addr) (c:Nat) (l:List UInt8):Prop:=OwnAt w a l.length c T.uint8 1 (l.map bv)/\U8 w a c
section
variable {w w':World} {a:Option Addr} {c:Nat} {l:List UInt8}
theorem OwnB.upd {F:Nat->Prop} (h:OwnB w a c l) (k:Upd F w w') (hf:∀ b,a=some ⟨b,0,none⟩->¬ F b):OwnB w' a c l:=by
 refine ⟨h.1.upd k hf,h.2.upd k fun p hp=>?_⟩
 obtain ⟨⟨_,_,hx⟩,_⟩:=h
 rcases hx with ⟨hx,_⟩| ⟨b,_,hx,_⟩
 .rw [hx] at hp;cases hp
 .rw [hx] at hp;cases hp;exact hf b hx
theorem OwnB.ext (h:OwnB w a c l) (k:Ext w w'):OwnB w' a c l:=h.upd k fun _ _ hf=>hf
theorem OwnB.cellsLe (h:OwnB w a c l) (k:CellsLe w w'):OwnB w' a c l:=⟨h.1.cellsLe k,h.2.cellsLe k⟩
theorem OwnB.row (h:OwnB w a c l):BytesAt w a l:=h.1.row
theorem OwnB.blk (h:OwnB w a c l) {b:Nat} (ha:a=some ⟨b,0,none⟩):b<w.heap.size:=h.1.blk ha
theorem OwnB.at_ (h:OwnB w a c l) {p:Addr} (hp:a=some p):a=some ⟨p.block,0,none⟩:=by
 obtain ⟨⟨_,_,hx⟩,_⟩:=h
 rcases hx with ⟨hx,_⟩| ⟨b,_,hx,_⟩
 .rw [hx] at hp;cases hp
 .rw [hx] at hp ⊢;cases hp;rfl
end
theorem zeros_u8:∀ n,∀ v∈zerosL [Value.int .u8 0] n,∃ x:Int,v= .int .u8 x
 | 0,v,hv=>by cases hv
 | n+1,v,hv=>by
  simp only [zerosL,List.mem_append] at hv
  rcases hv with hv | hv
  .exact ⟨0,by simpa using hv⟩
  .exact zeros_u8 n v hv
theorem append_fresh {w:World} {a:Option Addr} (h:a=none\/∃ b,a=some ⟨b,0,none⟩/\w.heap[b]?=some (.cells #[] T.uint8 (0,0))) {ax:Option Addr} {xs:List UInt8} {cx:Nat} (hx:BytesAt w ax xs) (hb:xs.length<=140737488355232) {K:Option Addr->Nat->Nat->World->Prop}
  (hk:∀ a' c' w',Upd (fun b=>a=some ⟨b,0,none⟩) w w'->OwnB w' a' c' xs->(a'=a\/∃ b,a'=some ⟨b,0,none⟩/\w.heap.size<=b)->K a' xs.length c' w') :
  appendP T.uint8 1 1 [Value.int .u8 0] a 0 0 (.slice ax xs.length cx) w K:=by
 refine ⟨xs.length,rfl,xs.map bv,read_row hx (by simp),oneCell_bytes,fun hroom=>?_,fun hgrow=>⟨by omega,?_,[],read_row (RowAt.nil _ _) rfl,?_⟩⟩
 .have hn:xs=[]:=List.eq_nil_of_length_eq_zero (by omega)
  subst hn
  rcases h with rfl | ⟨b,rfl,hbk⟩
  .exact hk none 0 w (Upd.refl _ _) ⟨OwnAt.nil _ _ _,.inl rfl⟩ (.inl rfl)
  .simp only [add_lit,Nat.zero_mul,Nat.zero_add]
   refine store_of hbk (by simp) fun w' hput=>hk _ 0 w' (hput.upd1.mono fun x _ hx=>by rw [hx]) ⟨⟨rfl,Nat.le_refl _,.inr ⟨b,_,rfl,hput.get,by simp [splice],by simp [splice]⟩⟩,.inl rfl⟩ (.inl rfl)
 .have hg:0<0+xs.length:=by omega
  refine Nat.le_trans (Nat.mul_le_mul_right _ (nextcap_le hg)) ?_
  omega
 .intro cap' b w' hcap hcap2 hnew
  have e1:Ext w w':=(drew_upd w).trans hnew.upd
  have:=hk (some ⟨b,0,none⟩) cap' w' (Upd.ext e1) ⟨⟨by simp,by omega,.inr ⟨b,_,rfl,hnew.get,?_,?_⟩⟩,.inr ⟨b,_,hcap2,rfl,hnew.get,?_,fun v hv=>?_⟩⟩ (.inr ⟨b,rfl,by rw [hnew.num];exact Nat.le_refl _⟩)
  .simpa using this
  .simp [zerosL_length]
   omega
  .have hl:((xs.map bv)).length=xs.length * 1:=by simp
   simp only [List.nil_append]
   rw [<- hl,List.take_append_of_le_length (Nat.le_refl _),List.take_length]
  .simp [zerosL_length]
   omega
  .simp only [List.nil_append,List.mem_append] at hv
   rcases hv with hv | hv
   .obtain ⟨y,_,rfl⟩:=List.mem_map.1 hv
    exact ⟨_,rfl⟩
   .exact zeros_u8 _ v hv
theorem slices_Clone_byte_own {a:Option Addr} {l:List UInt8} {c:Nat} {w:World} (h:BytesAt w a l) (hn:l.length<=140737488355232) :
  CallsR prog K.slices_Clone_byte #[.slice a l.length c] w fun v w'=>Ext w w'/\∃ a' c',v= .slice a' l.length c'/\OwnB w' a' c' l/\Fresh w a':=by
 apply slices_Clone_byte.sh
 unfold slices_Clone_byte.body
 refine br_intro (fun ha=>?_) fun ha=>?_
 .have:a=none:=by simpa using ha
  subst this
  have:l=[]:=by
   rcases h with h | ⟨b,o,cur,T,fr,h,_⟩
   .simpa using h
   .cases h
  subst this
  exact ⟨Upd.refl _ _,none,0,rfl,⟨OwnAt.nil _ _ _,.inl rfl⟩,Fresh.none _⟩
 .intro B w1 hnew
  have hB:w.heap.size=B:=by rw [hnew.num]
  refine append_fresh (.inr ⟨B,rfl,hnew.get⟩) (h.ext hnew.upd) hn fun a' c' w2 hu ho' hf=>?_
  refine ⟨Upd.beyond hnew.upd hu fun x hx=>by cases hx;omega,a',c',rfl,ho',?_⟩
  rcases hf with rfl | ⟨b,rfl,hb⟩
  .exact Fresh.some (by omega)
  .exact Fresh.some (by have:=hnew.size;omega)
def bytesF:ERep (List UInt8) where
 k:=1
 R:=fun w G vs x=>∃ a c,vs=[.slice a x.length c]/\x.length<=c/\BytesAt w a x/\U8 w a c/\∀ p,a=some p->G p.block
 pos:=Nat.le_refl _
 len:=fun ⟨a,c,e,_⟩=>by rw [e];rfl
 one:=fun ⟨a,c,e,_⟩=>by
  rw [e]
  intro v hv
  simp at hv
  rw [hv];rfl
 upd:=fun {w w' F G vs x} ⟨a,c,e,hc,hb,hu,hg⟩ k hf=>⟨a,c,e,hc,BytesAt.updM hb k (fun _ p hp=>hg p hp) hf,hu.upd k fun p hp=>hf _ (hg p hp),hg⟩
 mono:=fun ⟨a,c,e,hc,hb,hu,hg⟩ hh=>⟨a,c,e,hc,hb,hu,fun p hp=>hh _ (hg p hp)⟩
 cells:=fun ⟨a,c,e,hc,hb,hu,hg⟩ k=>⟨a,c,e,hc,RowAt.cellsLe hb k,hu.cellsLe k,hg⟩
def factF:ERep Fact:=ERep.pair keyR bytesF (fun x:Fact=>x.key) (fun x=>x.val)
theorem factF_intro {w:World} {G:Nat->Prop} {x:Fact} {a:Option Addr} {c:Nat} (h:OwnB w a c x.val) (hg:∀ p,a=some p->G p.block):factF.R w G (factVs x.key a x.val.length c) x :=
 ⟨x.key.vals,[.slice a x.val.length c],rfl,rfl,a,c,rfl,h.1.2.1,h.row,h.2,hg⟩
theorem factF_weak {w:World} {G:Nat->Prop} {x:Fact} {vs:List Value} (h:factF.R w G vs x):factR.R w G vs x:=by
 obtain ⟨u,v,rfl,hu,a,c,hs,h1,h2,_,hg⟩:=h
 exact ⟨u,v,rfl,hu,a,c,hs,h1,h2,fun _=>hg⟩
section
variable {α:Type} {r s:ERep α} {w:World} {G:Nat->Prop}
theorem Rows.weak (hk:∀ w G vs x,r.R w G vs x->s.R w G vs x):∀ {l:List α} {vs:List Value},Rows r w G vs l->Rows s w G vs l
 | [],vs,h=>h
 | x :: l,vs,⟨u,t,e,hu,ht⟩=>⟨u,t,e,hk _ _ _ _ hu,Rows.weak hk ht⟩
theorem SliceAt.weak (hk:∀ w G vs x,r.R w G vs x->s.R w G vs x) {a:Option Addr} {l:List α} (h:SliceAt r w G a l):SliceAt s w G a l:=by
 obtain ⟨vs,h1,h2,h3⟩:=h
 exact ⟨vs,h1,Rows.weak hk h2,h3⟩
theorem OwnS.weak (hk:∀ w G vs x,r.R w G vs x->s.R w G vs x) (e:r.k=s.k) {a:Option Addr} {cap:Nat} {T:TypeId} {l:List α} (h:OwnS r w G a cap T l):OwnS s w G a cap T l:=by
 obtain ⟨vs,h1,h2⟩:=h
 exact ⟨vs,e ▸ h1,Rows.weak hk h2⟩
theorem ListAt.toWeak (hk:∀ w G vs x,r.R w G vs x->s.R w G vs x) (e:r.k=s.k) {Q:Nat->Prop} {S:Nat} {a:Option Addr} {cap:Nat} {T:TypeId} {l:List α} (h:ListAt r Q S w a cap T l):ListAt s Q S w a cap T l:=by
 obtain ⟨G,h1,h2,h3⟩:=h
 exact ⟨G,h1.weak hk e,h2,h3⟩
end
end
theorem fact_own_spec (a:Option Addr) (n c:Nat) (w:World):CallsR prog K.fact_own #[.slice a n c] w fun v w'=>∃ B,v= .func (.func K.fact_own_1) #[] #[.pointer (some ⟨B,0,none⟩)]/\New w (.cells #[.slice a n c] T.L_api_Fact) B w':=by
 apply fact_own.sh
 unfold fact_own.body
 intro B w1 hn
 exact ⟨B,rfl,hn⟩
theorem key4 {w:World} {b:Nat} {cs:Array Value} {T:TypeId} {k:Key} (h:w.heap[b]?=some (.cells cs T (0,0))) (hc:cs.toList.take 4=[.int .i64 k.ino,bv k.what,.string k.name,.int .i64 k.chunk]):cellsAt w ⟨b,0,none⟩ [.int .i64 k.ino,bv k.what,.string k.name,.int .i64 k.chunk] 0:=by
 refine cellsAt_of h fun j v hj=>?_
 rw [<- hc,List.getElem?_take] at hj
 split at hj
 .simpa using hj
 .cases hj
theorem fact_own_1_spec {w:World} {B l:Nat} {a:Option Addr} {c:Nat} {fs:List Fact} {J:Nat->World->Prop} (hn:fs.length<4000000000000000000)
  (hB:∀ i W,J i W->W.heap[B]?=some (.cells #[.slice a fs.length c] T.L_api_Fact (0,0)))
  (hfs:∀ i W,J i W->∃ G,SliceAt factR W G a fs) (hval:∀ f∈fs,f.val.length<=140737488355232)
  (hJ:∀ i W W',J i W->Ext W W'->J i W')
  (hY:∀ (i:Nat) (hi:i<fs.length) (W W':World) (av:Option Addr) (cv:Nat),J i W->Ext W W'->OwnB W' av cv fs[i].val->Fresh W av->
   yieldP prog l [.agg #[.int .i64 fs[i].key.ino,bv fs[i].key.what,.string fs[i].key.name,.int .i64 fs[i].key.chunk,.slice av fs[i].val.length cv]] W' fun v w'=>v= .bool true/\J (i+1) w'/\∀ b,W.heap.size<=b->b<W'.heap.size->w'.heap[b]?=W'.heap[b]?)
  (h0:J 0 w):CallsR prog K.fact_own_1 #[.func (.yield l) #[] #[],.pointer (some ⟨B,0,none⟩)] w fun _ w'=>J fs.length w':=by
 apply fact_own_1.sh
 suffices H:∀ R:Value->World->Prop,(∀ v w',J fs.length w'->R v w')->fact_own_1.body (.func (.yield l) #[] #[]) ⟨B,0,none⟩ w R from H _ fun _ _ h=>h
 intro R hR
 unfold fact_own_1.body
 refine ⟨_,_,_,cell_of (hB 0 w h0) rfl,fun x u=>∃ i:Nat,x=i/\i<=fs.length/\J i u,fun x _=>((fs.length:Int) - x).toNat,⟨0,rfl,by omega,h0⟩,?_⟩
 rintro x u ⟨i,rfl,hi,hj⟩
 refine br_dec (fun hlt=>?_) fun hge=>?_
 .have hi':i<fs.length:=by omega
  have ew:i64.wrap ((i:Int)+1)=((i+1:Nat):Int):=w64 (by omega) (by omega)
  simp only [ew]
  obtain ⟨G,hs⟩:=hfs i u hj
  refine SliceAt.idx (r:=factR) hs rfl hi' fun b o vs _ hrow hR' _=>?_
  obtain ⟨av,cv,rfl,hcv,hbv,hg⟩:=factR_elim hR'
  refine ⟨_,_,_,_,_,_,_,hrow.cells,new_put rfl fun B1 w3 hB1 hs3 e3 g3=>?_⟩
  intro w4 hd4
  have g4:=Ext.get hd4.upd g3
  have e4:Ext u w4:=e3.trans hd4.upd
  refine ⟨fun v=>v.heap[B1]?=some (.cells #[.int .i64 fs[i].key.ino,bv fs[i].key.what,.string fs[i].key.name,.int .i64 fs[i].key.chunk,.slice av fs[i].val.length cv] T.api_Fact (0,0)),g4,fs[i].key.ino,(fs[i].key.what.toNat:Int),fs[i].key.name,fs[i].key.chunk,fun v hv=>key4 hv rfl,_,_,_,fun v hv=>cell_of hv rfl,?_⟩
  refine (slices_Clone_byte_own (c:=cv) (RowAt.ext hbv e4) (hval _ (List.getElem_mem hi'))).mono ?_
  rintro _ w5 ⟨he5,av',cv',rfl,ho5,hf5⟩
  refine ⟨_,_,_,rfl,Ext.get he5 g4,rfl,rfl,?_⟩
  have hy:=hY i hi' u w5 av' cv' hj (e4.trans he5) ho5 (hf5.mono e4.size)
  intro F m hF
  obtain ⟨fn,tmps,ac,bd,h1,h2⟩:=hy F m hF
  refine ⟨fn,tmps,ac,bd,h1,h2.mono fun e w6 he=>?_⟩
  obtain ⟨v,rfl,rfl,hj',hkeep⟩:=he
  have g6:=(hkeep B1 (by omega) (by have:=he5.size;have:=hd4.upd.size;omega)).trans (Ext.get he5 g4)
  exact ⟨_,rfl,_,rfl,g6,⟨i+1,rfl,hi',hj'⟩,meas hi'⟩
 .have:i=fs.length:=by omega
  subst this
  exact hR _ _ hj
theorem delete_cells {C cells new zs:List Value} {p q:Nat} (hp:p<=C.length) (hq:q=p+new.length) (hq2:q<=C.length):(spl (spl C p new) q zs).take q=C.take p ++ new:=by
 have hl:(spl C p new).length=C.length:=spl_length (by omega)
 rw [spl_take_lo (Nat.le_refl _) (by omega),hq,spl_take_at hp]
theorem slices_Delete_spec {w:World} {G:Nat->Prop} {b cap:Nat} {l:List Fact} {i:Nat} (h:OwnS factF w G (some ⟨b,0,none⟩) cap T.api_Fact l) (hG:¬ G b) (hi:i<l.length) (hn:l.length<=1000000000) :
  CallsR prog K.slices_Delete_api_Fact #[.slice (some ⟨b,0,none⟩) l.length cap,.int .i64 i,.int .i64 ((i+1:Nat):Int)] w fun v w'=>v= .slice (some ⟨b,0,none⟩) (l.length - 1) cap/\OwnS factF w' G (some ⟨b,0,none⟩) cap T.api_Fact (l.take i ++ l.drop (i+1))/\Upd (·=b) w w':=by
 obtain ⟨vs,ho,hr⟩:=h
 have hcap:=ho.2.1
 obtain ⟨C,hC,hCl,hCt⟩:=ho.full
 have hvl:=Rows.len hr
 have hk5:factF.k=5:=rfl
 rw [hk5] at hCl hCt hvl
 apply slices_Delete_api_Fact.sh
 suffices H:∀ R:Value->World->Prop,(∀ v w',v= .slice (some ⟨b,0,none⟩) (l.length - 1) cap/\OwnS factF w' G (some ⟨b,0,none⟩) cap T.api_Fact (l.take i ++ l.drop (i+1))/\Upd (·=b) w w'->R v w')->
   slices_Delete_api_Fact.body (some ⟨b,0,none⟩) l.length cap i ((i+1:Nat):Int) w R from H _ fun _ _ h=>h
 intro R hR
 unfold slices_Delete_api_Fact.body
 refine slice_any (lo:=i) (hi:=i+1) (mx:=l.length) (by simp) (by simp) (by simp) (by omega) (by omega) (by omega) (by simp) fun a0 _=>?_
 refine br_eq (fun e=>by omega) fun _=>?_
 intro w1 hd1
 have hC1:Full w1 b T.api_Fact C:=Ext.get hd1.upd hC
 refine ⟨fun v=>Ext w1 v,Upd.refl _ _,?_⟩
 refine slice_any (lo:=0) (hi:=i) (mx:=cap) (by simp) (by simp) (by simp) (by omega) (by omega) (by omega) (by simp) fun a2 ha2=>?_
 have ha2:a2=some ⟨b,0,none⟩:=by rcases ha2 with h | ⟨_,h⟩<;>simpa using h
 subst ha2
 refine slice_any (lo:=i+1) (hi:=l.length) (mx:=cap) (by simp) (by simp) (by simp) (by omega) (by omega) (by omega) (by simp) fun a3 ha3=>?_
 have hnewl:((C.drop ((i+1) * 5)).take ((l.length - (i+1)) * 5)).length=(l.length - (i+1)) * 5:=by rw [List.length_take,List.length_drop,hCl];omega
 have hrow:RowAt w1 a3 ((C.drop ((i+1) * 5)).take ((l.length - (i+1)) * 5)):=by
  rcases ha3 with rfl | ⟨h0,rfl⟩
  .exact hC1.row _ _
  .have:l.length - (i+1)=0:=by omega
   rw [this]
   exact RowAt.nil _ _
 have hone:∀ v∈(C.drop ((i+1) * 5)).take ((l.length - (i+1)) * 5),v.oneCell'=true:=by
  have e:(C.drop ((i+1) * 5)).take ((l.length - (i+1)) * 5)=vs.drop ((i+1) * 5):=by
   rw [<- hCt,List.drop_take]
   congr 1
   omega
  rw [e]
  intro v hv
  exact Rows.one hr v (List.mem_of_mem_drop hv)
 simp only [Nat.sub_zero]
 refine hC1.append_in hCl rfl (read_row hrow hnewl) hnewl hone (by omega) fun w2 hu2 hC2=>?_
 have hl4:i+(l.length - (i+1))=l.length - 1:=by omega
 rw [hl4]
 refine slice_any (lo:=l.length - 1) (hi:=l.length) (mx:=cap) (by simp) (by simp) (by simp) (by omega) (by omega) (by omega) (by simp) fun a5 ha5=>?_
 have ha5:a5=some ⟨b,(l.length - 1) * 5,none⟩:=by
  rcases ha5 with h | ⟨h,_⟩
  .exact h
  .omega
 subst ha5
 have e1:l.length - (l.length - 1)=1:=by omega
 rw [e1]
 have hsl:(spl C (i * 5) ((C.drop ((i+1) * 5)).take ((l.length - (i+1)) * 5))).length=C.length:=spl_length (by omega)
 refine ⟨by decide,hC2.store (by rw [hsl];simp [zerosL];omega) fun w3 hu3 hC3=>hR _ _ ⟨rfl,?_,?_⟩⟩
 .have hlen2:(l.take i ++ l.drop (i+1)).length=l.length - 1:=by simp;omega
  refine ⟨_,by rw [hlen2];exact hC3.own (len:=l.length - 1) (by rw [spl_length (by rw [hsl];simp [zerosL];omega),hsl,hCl];rfl) (by omega),?_⟩
  have e2:=fun zs=>delete_cells (C:=C) (cells:=vs) (new:=(C.drop ((i+1) * 5)).take ((l.length - (i+1)) * 5)) (zs:=zs) (p:=i * 5) (q:=(l.length - 1) * 5) (by omega) (by rw [hnewl];omega) (by omega)
  rw [hk5,e2]
  have e3:C.take (i * 5) ++ (C.drop ((i+1) * 5)).take ((l.length - (i+1)) * 5)=vs.take (i * 5) ++ vs.drop ((i+1) * 5):=by
   rw [<- hCt,List.take_take,List.drop_take,Nat.min_eq_left (by omega)]
   congr 2
   omega
  rw [e3]
  have:=Rows.upd (hd1.upd.ext.trans (hu2.trans hu3)) (fun x hx hb=>hG (by rw [<- hb];exact hx)) (Rows.cut hr i)
  exact this
 .exact (Upd.ext hd1.upd).trans (hu2.trans hu3)
theorem overlaps_apart {w:World} {B b o:Nat} {cs:Array Value} {C:List Value} {lb cb:Nat} (hB:w.heap[B]?=some (.cells cs T.api_Fact (0,0))) (hb:Full w b T.api_Fact C) (hne:B≠b) (hC:C.length≠0) :
  extV prog 144 [.slice (some ⟨B,0,none⟩) 1 1,.slice (some ⟨b,o,none⟩) lb cb] w (.bool false):=by
 unfold extV
 have hb':w.heap[b]?=some (.cells C.toArray T.api_Fact (0,0)):=hb
 rw [run_callFunc_extern (P:=prog) Go.Proofs.Tryz.func144 (by kernel_rfl) (by kernel_rfl) (by kernel_rfl) (e:=Extern.SlicesOverlaps.overlaps #[T.L_api_Fact,T.L_api_Fact] #[T.bool]) (by kernel_rfl)]
 have:=Lib.run_overlaps_apart (P:=prog) w T.L_api_Fact T.bool T.api_Fact (by kernel_rfl) 5 (run_sizeOf' (by kernel_rfl:sizeT prog T.api_Fact=some 5)) ⟨B,0,none⟩ ⟨b,o,none⟩ 1 1 lb cb hne T.api_Fact T.api_Fact cs.size C.toArray.size
  (by simp [World.shape?,hB]) (by simp [World.shape?,hb']) (by simpa using hC) (by simp [World.frozen?,hB]) (by simp [World.frozen?,hB])
 rw [show ([Value.slice (some ⟨B,0,none⟩) 1 1,Value.slice (some ⟨b,o,none⟩) lb cb]:List Value).toArray=#[Value.slice (some ⟨B,0,none⟩) 1 1,Value.slice (some ⟨b,o,none⟩) lb cb] from rfl,this]
 rfl
theorem insert_cells {C mid X:List Value} {p:Nat} (hp:p+X.length+mid.length<=C.length):(spl (spl C (p+X.length) mid) p X).take (p+X.length+mid.length)=C.take p ++ X ++ mid:=by
 have h1:(spl C (p+X.length) mid).length=C.length:=spl_length (by omega)
 unfold spl
 have e1:=spl_take_lo (C:=C) (vs:=mid) (o:=p+X.length) (q:=p) (by omega) (by omega)
 have e2:=spl_drop_at (C:=C) (vs:=mid) (o:=p+X.length) (by omega)
 unfold spl at e1 e2
 rw [e1,e2,<- List.append_assoc]
 have:(C.take p ++ X ++ mid).length=p+X.length+mid.length:=by simp;omega
 rw [<- this,List.take_append_of_le_length (Nat.le_refl _),List.take_length]
theorem insert_cells2 {C mid X:List Value} {p:Nat} (hp:p+X.length+mid.length<=C.length):(spl (spl C p X) (p+X.length) mid).take (p+X.length+mid.length)=C.take p ++ X ++ mid:=by
 have h1:(spl C p X).length=C.length:=spl_length (by omega)
 rw [spl_take_at (by omega),spl_take_at (by omega)]
theorem copy_full {w:World} {b:Nat} {e:TypeId} {C:List Value} (h:Full w b e C) {size o dLen n m:Nat} {x:Value} {new:List Value} (hx:lenV x=some n) (hm:min n dLen=m) (hr:readP w size x m new) (h1:∀ v∈new,v.oneCell'=true) (hf:o+new.length<=C.length) {K:Int->World->Prop}
  (hk:∀ w',Upd (·=b) w w'->Full w' b e (spl C o new)->K (m:Nat) w'):copyP size (some ⟨b,o,none⟩) dLen x w K:=by
 subst hm
 exact ⟨n,hx,new,hr,h1,h.store hf fun w' hu hf'=>hk w' hu hf'⟩
theorem slices_Insert_spec {w0 w:World} {G:Nat->Prop} {a:Option Addr} {cap:Nat} {l:List Fact} {i B:Nat} {cs:Array Value} {x:Fact} (h:OwnS factF w G a cap T.api_Fact l) (hG:∀ b,a=some ⟨b,0,none⟩->¬ G b) (hx:factF.R w G cs.toList x) (hn:New w0 (.cells cs T.api_Fact) B w) (hB:a≠some ⟨B,0,none⟩) (hi:i<=l.length) (hl:l.length<=200000000) :
  CallsR prog K.slices_Insert_api_Fact #[.slice a l.length cap,.int .i64 i,.slice (some ⟨B,0,none⟩) 1 1] w fun v w'=>∃ a' c',v= .slice a' (l.length+1) c'/\OwnS factF w' G a' c' T.api_Fact (l.take i ++ [x] ++ l.drop i)/\Upd (fun b=>a=some ⟨b,0,none⟩) w w'/\(a'=a\/∃ b,a'=some ⟨b,0,none⟩/\w.heap.size<=b):=by
 apply slices_Insert_api_Fact.sh
 suffices H:∀ R:Value->World->Prop,(∀ v w',(∃ a' c',v= .slice a' (l.length+1) c'/\OwnS factF w' G a' c' T.api_Fact (l.take i ++ [x] ++ l.drop i)/\Upd (fun b=>a=some ⟨b,0,none⟩) w w'/\(a'=a\/∃ b,a'=some ⟨b,0,none⟩/\w.heap.size<=b))->R v w')->
   slices_Insert_api_Fact.body a l.length cap i (some ⟨B,0,none⟩) 1 1 w R from H _ fun _ _ h=>h
 intro R hR
 unfold slices_Insert_api_Fact.body
 have hcap:=h.cap
 have hXl:=factF.len hx
 have hk5:factF.k=5:=rfl
 rw [hk5] at hXl
 refine ⟨by simp,by simp,by simp<;>omega,by simp<;>omega,by simp,by simp<;>omega,by simp,?_⟩
 refine br_eq (fun e=>by simp at e) fun _=>?_
 by_cases hil:i=l.length
 .subst hil
  refine br_eq (fun _=>?_) fun e=>absurd rfl e
  refine OwnS.push (r:=factF) h hx hn rfl rfl (by omega) (by omega) hG fun a' c' w' hu ho hf=>?_
  rw [List.take_length,List.drop_length,List.append_nil] at hR
  rw [List.length_append]
  exact hR _ _ ⟨a',c',rfl,ho,hu,hf⟩
 .refine br_eq (fun e=>absurd (by omega) hil) fun _=>?_
  have hi':i<l.length:=by omega
  obtain ⟨vs,ho,hr⟩:=h
  obtain ⟨b,rfl⟩: ∃ b,a=some ⟨b,0,none⟩:=by
   obtain ⟨_,_,hx⟩:=ho
   rcases hx with ⟨_,h0,_⟩| ⟨b,_,h,_⟩
   .omega
   .exact ⟨b,h⟩
  have hbs:=ho.blk rfl
  have hGb:=hG b rfl
  have hBb:B≠b:=fun e=>hB (by rw [e])
  obtain ⟨C,hC,hCl,hCt⟩:=ho.full
  have hvl:=Rows.len hr
  rw [hk5] at hCl hCt hvl
  have hw1:i64.wrap ((l.length:Int)+((1:Nat):Int))=((l.length+1:Nat):Int):=by rw [w64 (by omega) (by omega)];omega
  have hw2:i64.wrap ((i:Int)+((1:Nat):Int))=((i+1:Nat):Int):=by rw [w64 (by omega) (by omega)];omega
  simp only [hw1,hw2]
  have hrowX:∀ u,Upd (fun x=>x≠B) w u->RowAt u (some ⟨B,0,none⟩) cs.toList:=fun u hu=>RowAt.of (hu.get hn.get (by simp)) fun j v hj=>by simpa using hj
  have hmid:∀ u,Full u b T.api_Fact C->RowAt u (some ⟨b,i * 5,none⟩) ((C.drop (i * 5)).take ((l.length - i) * 5)):=fun u hu=>hu.row _ _
  have hmidl:((C.drop (i * 5)).take ((l.length - i) * 5)).length=(l.length - i) * 5:=by rw [List.length_take,List.length_drop,hCl];omega
  have hmidv:(C.drop (i * 5)).take ((l.length - i) * 5)=vs.drop (i * 5):=by
   rw [<- hCt,List.drop_take]
   congr 1
   omega
  have hmid1:∀ v∈(C.drop (i * 5)).take ((l.length - i) * 5),v.oneCell'=true:=by
   rw [hmidv]
   intro v hv
   exact Rows.one hr v (List.mem_of_mem_drop hv)
  have hlen2:(l.take i ++ [x] ++ l.drop i).length=l.length+1:=by simp;omega
  have hres:vs.take (i * 5) ++ cs.toList ++ (C.drop (i * 5)).take ((l.length - i) * 5)=C.take (i * 5) ++ cs.toList ++ (C.drop (i * 5)).take ((l.length - i) * 5):=by
   rw [<- hCt,List.take_take,Nat.min_eq_left (by omega)]
  refine br_dec (fun hgt=>?_) fun hle=>?_
  .refine slice_any (lo:=0) (hi:=i) (mx:=cap) (by simp) (by simp) (by simp) (by omega) (by omega) (by omega) (by simp) fun a3 ha3=>?_
   have ha3:a3=some ⟨b,0,none⟩:=by rcases ha3 with h | ⟨_,h⟩<;>simpa using h
   subst ha3
   simp only [Nat.sub_zero]
   have hw3:i64.wrap (((l.length+1:Nat):Int) - (i:Int))=((l.length+1 - i:Nat):Int):=by rw [w64 (by omega) (by omega)];omega
   rw [hw3]
   have hcl:cap=l.length:=by omega
   have hsum:i+(l.length+1 - i)=l.length+1:=by omega
   refine ⟨by omega,by omega,?_,by decide,rfl,fun hroom=>?_,fun hgrow=>⟨?_,?_,(C.take (i * 5)),?_,fun cap' b' w2 hc' hn2=>?_⟩⟩
   .have:((l.length+1 - i:Nat):Int) * 64<=200000001 * 64:=by omega
    omega
   .exfalso
    simp only [Int.toNat_natCast] at hroom
    omega
   .simp only [Int.toNat_natCast];omega
   .simp only [Int.toNat_natCast] at hgrow ⊢
    have:=nextcap_le hgrow
    have h2:Builtin.nextslicecap (i+(l.length+1 - i)) cap * 64<=(2 * (i+(l.length+1 - i))+192) * 64:=Nat.mul_le_mul_right _ this
    omega
   .refine read_row ?_ (by rw [List.length_take,hCl];omega)
    have:=hC.row 0 (i * 5)
    simpa using this
   simp only [Int.toNat_natCast,hsum] at hc' hn2 ⊢
   have hb':b'=w.heap.size:=hn2.num
   have e2:Ext w w2:=(drew_upd w).trans hn2.upd
   obtain ⟨C2,hC2e⟩: ∃ C2,C2=C.take (i * 5) ++ zerosL [Value.int .i64 0,.int .u8 0,.string ByteArray.empty,.int .i64 0,.slice none 0 0] (l.length+1 - i) ++ zerosL [Value.int .i64 0,.int .u8 0,.string ByteArray.empty,.int .i64 0,.slice none 0 0] (cap' - (l.length+1)):=⟨_,rfl⟩
   have hC2l:C2.length=cap' * 5:=by
    rw [hC2e]
    simp only [List.length_append,List.length_take,zerosL_length,hCl,List.length_cons,List.length_nil]
    omega
   have hC2t:C2.take (i * 5)=C.take (i * 5):=by
    rw [hC2e,List.append_assoc]
    have:(C.take (i * 5)).length=i * 5:=by rw [List.length_take,hCl];omega
    have h2:=List.take_left (l₁:=C.take (i * 5)) (l₂:=zerosL [Value.int .i64 0,.int .u8 0,.string ByteArray.empty,.int .i64 0,.slice none 0 0] (l.length+1 - i) ++ zerosL [Value.int .i64 0,.int .u8 0,.string ByteArray.empty,.int .i64 0,.slice none 0 0] (cap' - (l.length+1)))
    rwa [this] at h2
   have g2:Full w2 b' T.api_Fact C2:=by
    unfold Full
    rw [hn2.get,hC2e]
    rfl
   refine slice_any (lo:=i) (hi:=l.length+1) (mx:=cap') (by simp) (by simp) (by simp) (by omega) (by omega) (by omega) (by simp) fun a5 ha5=>?_
   have ha5:a5=some ⟨b',i * 5,none⟩:=by
    rcases ha5 with h | ⟨h,_⟩
    .exact h
    .omega
   subst ha5
   refine copy_full g2 (m:=1) rfl (by omega) (read_row (hrowX w2 (Upd.ext e2)) (by rw [hXl])) (factF.one hx) (by rw [hXl,hC2l];omega) fun w3 hu3 g3=>?_
   intro w4 hd4
   have g4:Full w4 b' T.api_Fact (spl C2 (i * 5) cs.toList):=Ext.get hd4.upd g3
   refine ⟨fun v=>Ext w4 v,Upd.refl _ _,?_⟩
   have hs3:=e2.size
   have e24:Upd (·=b') w2 w4:=hu3.then hd4.upd
   have hCw4:Full w4 b T.api_Fact C:=by
    have h2:Full w2 b T.api_Fact C:=Ext.get e2 hC
    exact e24.get h2 (by omega)
   refine slice_any (lo:=i+1) (hi:=l.length+1) (mx:=cap') (by simp) (by simp) (by simp) (by omega) (by omega) (by omega) (by simp) fun a6 ha6=>?_
   have ha6:a6=some ⟨b',(i+1) * 5,none⟩:=by
    rcases ha6 with h | ⟨h,_⟩
    .exact h
    .omega
   subst ha6
   refine slice_any (lo:=i) (hi:=l.length) (mx:=cap) (by simp) (by simp) (by simp) (by omega) (by omega) (by omega) (by simp) fun a7 ha7=>?_
   have ha7:a7=some ⟨b,i * 5,none⟩:=by
    rcases ha7 with h | ⟨h,_⟩
    .exact h
    .omega
   subst ha7
   have hspl:(spl C2 (i * 5) cs.toList).length=C2.length:=spl_length (by rw [hXl,hC2l];omega)
   refine copy_full g4 (m:=l.length - i) rfl (by omega) (read_row (hmid w4 hCw4) hmidl) hmid1 (by rw [hmidl,hspl,hC2l];omega) fun w5 hu5 g5=>?_
   have hall:Upd (fun x=>x=b') w2 w5:=e24.trans hu5
   have he5:Ext w w5:=Upd.beyond e2 hall fun x hx=>by rw [hx];omega
   refine hR _ _ ⟨some ⟨b',0,none⟩,cap',rfl,?_,?_,.inr ⟨b',rfl,by omega⟩⟩
   .refine ⟨_,by rw [hlen2];exact g5.own (len:=l.length+1) (by rw [spl_length (by rw [hmidl,hspl,hC2l];omega),hspl,hC2l];rfl) (by omega),?_⟩
    have e5:=insert_cells2 (C:=C2) (mid:=(C.drop (i * 5)).take ((l.length - i) * 5)) (X:=cs.toList) (p:=i * 5) (by rw [hXl,hmidl,hC2l];omega)
    rw [hXl,hmidl] at e5
    rw [hk5,show (l.length+1) * 5=i * 5+5+(l.length - i) * 5 by omega,show (i+1) * 5=i * 5+5 by omega,e5,hC2t,<- hres,hmidv]
    exact Rows.ext (Rows.insert hr hx i) he5
   .exact he5.ext
  .refine slice_any (lo:=0) (hi:=l.length+1) (mx:=cap) (by simp) (by simp) (by simp) (by omega) (by omega) (by omega) (by simp) fun a8 ha8=>?_
   have ha8:a8=some ⟨b,0,none⟩:=by rcases ha8 with h | ⟨_,h⟩<;>simpa using h
   subst ha8
   simp only [Nat.sub_zero]
   refine slice_any (lo:=i+1) (hi:=l.length+1) (mx:=cap) (by simp) (by simp) (by simp) (by omega) (by omega) (by omega) (by simp) fun a9 ha9=>?_
   have ha9:a9=some ⟨b,(i+1) * 5,none⟩:=by
    rcases ha9 with h | ⟨h,_⟩
    .exact h
    .omega
   subst ha9
   refine ⟨_,overlaps_apart hn.get hC hBb (by omega),br_intro (fun _=>?_) fun h=>by cases h⟩
   intro w6 hd6
   have g6:Full w6 b T.api_Fact C:=Ext.get hd6.upd hC
   refine ⟨fun v=>Ext w6 v,Upd.refl _ _,?_⟩
   refine slice_any (lo:=i+1) (hi:=l.length+1) (mx:=cap) (by simp) (by simp) (by simp) (by omega) (by omega) (by omega) (by simp) fun a9 ha9=>?_
   have ha9:a9=some ⟨b,(i+1) * 5,none⟩:=by
    rcases ha9 with h | ⟨h,_⟩
    .exact h
    .omega
   subst ha9
   refine slice_any (lo:=i) (hi:=l.length+1) (mx:=cap) (by simp) (by simp) (by simp) (by omega) (by omega) (by omega) (by simp) fun a9 ha9=>?_
   have ha9:a9=some ⟨b,i * 5,none⟩:=by
    rcases ha9 with h | ⟨h,_⟩
    .exact h
    .omega
   subst ha9
   refine copy_full (size:=5) (o:=(i+1) * 5) (dLen:=l.length+1 - (i+1)) (n:=l.length+1 - i) g6 (m:=l.length - i) rfl (by omega) (by have hrr:=read_row (len:=l.length - i) (cap:=0) (hmid w6 g6) hmidl;exact hrr) hmid1 (by rw [hmidl,hCl];omega) fun w7 hu7 g7=>?_
   have hspl:(spl C ((i+1) * 5) ((C.drop (i * 5)).take ((l.length - i) * 5))).length=C.length:=spl_length (by rw [hmidl,hCl];omega)
   refine slice_any (lo:=i) (hi:=l.length+1) (mx:=cap) (by simp) (by simp) (by simp) (by omega) (by omega) (by omega) (by simp) fun a9 ha9=>?_
   have ha9:a9=some ⟨b,i * 5,none⟩:=by
    rcases ha9 with h | ⟨h,_⟩
    .exact h
    .omega
   subst ha9
   have u7:Upd (·=b) w w7:=(Upd.ext hd6.upd).trans hu7
   refine copy_full (size:=5) (o:=i * 5) (dLen:=l.length+1 - i) (n:=1) g7 (m:=1) rfl (by omega) (read_row (hrowX w7 (u7.mono fun x _ hx e=>hBb (by rw [<- e,hx]))) (by rw [hXl])) (factF.one hx) (by rw [hXl,hspl,hCl];omega) fun w8 hu8 g8=>?_
   have u8:Upd (·=b) w w8:=u7.trans hu8
   refine hR _ _ ⟨some ⟨b,0,none⟩,cap,rfl,?_,u8.mono fun x _ hx=>by rw [hx],.inl rfl⟩
   have h8:i * 5+cs.toList.length<=(spl C ((i+1) * 5) ((C.drop (i * 5)).take ((l.length - i) * 5))).length:=by rw [hXl,hspl,hCl];omega
   refine ⟨_,by rw [hlen2];exact g8.own (len:=l.length+1) (by rw [spl_length h8,hspl,hCl];rfl) (by omega),?_⟩
   have e5:=insert_cells (C:=C) (mid:=(C.drop (i * 5)).take ((l.length - i) * 5)) (X:=cs.toList) (p:=i * 5) (by rw [hXl,hmidl,hCl];omega)
   rw [hXl,hmidl] at e5
   rw [hk5,show (l.length+1) * 5=i * 5+5+(l.length - i) * 5 by omega,show (i+1) * 5=i * 5+5 by omega,e5,<- hres,hmidv]
   exact Rows.upd u8 (fun x hx hb=>hGb (by rw [<- hb];exact hx)) (Rows.insert hr hx i)
theorem list_Delete_spec {w:World} {Q:Nat->Prop} {S:Nat} {a:Option Addr} {cap:Nat} {l:List Fact} {i:Nat} (h:ListAt factF Q S w a cap T.api_Fact l) (hi:i<l.length) (hn:l.length<=1000000000) :
  CallsR prog K.slices_Delete_api_Fact #[.slice a l.length cap,.int .i64 i,.int .i64 ((i+1:Nat):Int)] w fun v w'=>v= .slice a (l.take i ++ l.drop (i+1)).length cap/\ListAt factF Q S w' a cap T.api_Fact (l.take i ++ l.drop (i+1))/\Upd (fun b=>a=some ⟨b,0,none⟩) w w':=by
 obtain ⟨G,h1,h2,h3⟩:=h
 obtain ⟨b,rfl⟩: ∃ b,a=some ⟨b,0,none⟩:=by
  obtain ⟨vs,⟨_,_,hx⟩,_⟩:=h1
  rcases hx with ⟨_,h0,_⟩| ⟨b,_,h,_⟩
  .omega
  .exact ⟨b,h⟩
 refine (slices_Delete_spec h1 (h3 b rfl).2 hi hn).mono ?_
 rintro _ w' ⟨rfl,ho,hu⟩
 have hlen:(l.take i ++ l.drop (i+1)).length=l.length - 1:=by simp;omega
 exact ⟨by rw [hlen],⟨G,ho,fun x hx=>⟨(h2 x hx).1,Nat.lt_of_lt_of_le (h2 x hx).2 hu.size⟩,h3⟩,hu.mono fun x _ hx=>by rw [hx]⟩
theorem list_Insert_spec {w0 w:World} {Q H:Nat->Prop} {S:Nat} {a:Option Addr} {cap:Nat} {l:List Fact} {i B:Nat} {cs:Array Value} {x:Fact} (h:ListAt factF Q S w a cap T.api_Fact l) (hx:factF.R w H cs.toList x) (hH:∀ b,H b->(S<=b\/Q b)/\b<w.heap.size/\a≠some ⟨b,0,none⟩) (hn:New w0 (.cells cs T.api_Fact) B w) (hB:a≠some ⟨B,0,none⟩) (hi:i<=l.length) (hl:l.length<=200000000) (hS:S<=w.heap.size) :
  CallsR prog K.slices_Insert_api_Fact #[.slice a l.length cap,.int .i64 i,.slice (some ⟨B,0,none⟩) 1 1] w fun v w'=>∃ a' c',v= .slice a' (l.take i ++ [x] ++ l.drop i).length c'/\ListAt factF Q S w' a' c' T.api_Fact (l.take i ++ [x] ++ l.drop i)/\Upd (fun b=>a=some ⟨b,0,none⟩) w w':=by
 obtain ⟨G,h1,h2,h3⟩:=h
 have hG:∀ b,G b\/H b->(S<=b\/Q b)/\b<w.heap.size:=fun b hb=>by
  rcases hb with hb | hb
  .exact h2 b hb
  .exact ⟨(hH b hb).1,(hH b hb).2.1⟩
 have hno:∀ b,a=some ⟨b,0,none⟩->¬ (G b\/H b):=fun b hb hb'=>by
  rcases hb' with hb' | hb'
  .exact (h3 b hb).2 hb'
  .exact (hH b hb').2.2 hb
 refine (slices_Insert_spec (G:=fun b=>G b\/H b) (h1.mono fun _ hb=>.inl hb) hno (factF.mono hx fun _ hb=>.inr hb) hn hB hi hl).mono ?_
 rintro _ w' ⟨a',c',rfl,ho,hu,hf⟩
 have hlen:(l.take i ++ [x] ++ l.drop i).length=l.length+1:=by simp;omega
 refine ⟨a',c',by rw [hlen],⟨_,ho,fun b hb=>⟨(hG b hb).1,Nat.lt_of_lt_of_le (hG b hb).2 hu.size⟩,fun b hb=>?_⟩,hu⟩
 rcases hf with hf | ⟨b',hb',hl⟩
 .subst hf;exact ⟨(h3 b hb).1,hno b hb⟩
 .rw [hb'] at hb
  cases hb
  exact ⟨Nat.le_trans hS hl,fun hb=>absurd (hG _ hb).2 (by omega)⟩
theorem list_store {w:World} {Q H:Nat->Prop} {S:Nat} {a:Option Addr} {cap:Nat} {l:List Fact} {i:Nat} {us:List Value} {x:Fact} (h:ListAt factF Q S w a cap T.api_Fact l) (hx:factF.R w H us x) (hH:∀ b,H b->(S<=b\/Q b)/\b<w.heap.size/\a≠some ⟨b,0,none⟩) (hi:i<l.length) {K:World->Prop}
  (hk:∀ w',Upd (fun b=>a=some ⟨b,0,none⟩) w w'->ListAt factF Q S w' a cap T.api_Fact (l.set i x)->K w'):idxP a l.length (i:Int) 5 fun q=>storeP w q us K:=by
 obtain ⟨G,h1,h2,h3⟩:=h
 have hG:∀ b,G b\/H b->(S<=b\/Q b)/\b<w.heap.size:=fun b hb=>by
  rcases hb with hb | hb
  .exact h2 b hb
  .exact ⟨(hH b hb).1,(hH b hb).2.1⟩
 have hno:∀ b,a=some ⟨b,0,none⟩->¬ (G b\/H b):=fun b hb hb'=>by
  rcases hb' with hb' | hb'
  .exact (h3 b hb).2 hb'
  .exact (hH b hb').2.2 hb
 obtain ⟨b,rfl⟩: ∃ b,a=some ⟨b,0,none⟩:=by
  obtain ⟨vs,⟨_,_,hx⟩,_⟩:=h1
  rcases hx with ⟨_,h0,_⟩| ⟨b,_,h,_⟩
  .omega
  .exact ⟨b,h⟩
 refine ⟨by omega,by omega,?_⟩
 simp only [nilC_some',add_lit,Int.toNat_natCast,Nat.zero_add]
 refine OwnS.store (r:=factF) (G:=fun b=>G b\/H b) (h1.mono fun _ hb=>.inl hb) (hno b rfl) hi (factF.mono hx fun _ hb=>.inr hb) fun w' hu ho=>hk w' (hu.mono fun x _ hx=>by rw [hx]) ⟨_,ho,fun b hb=>⟨(hG b hb).1,Nat.lt_of_lt_of_le (hG b hb).2 hu.size⟩,fun b hb=>⟨(h3 b hb).1,hno b hb⟩⟩
theorem fact_Apply_own {w:World} {G Gc:Nat->Prop} {a ac:Option Addr} {c cc:Nat} {l:List Fact} {cs:List Change} (h:SliceAt factR w G a l) (hG:∀ b,G b->b<w.heap.size) (hc:SliceAt changeR w Gc ac cs) (hn:l.length+cs.length<=100000000) (hvl:∀ f∈l,f.val.length<=140737488355232) (hnc:SmallC cs) :
  CallsR prog K.fact_Apply #[.slice a l.length c,.slice ac cs.length cc] w fun v w'=>∃ a' c',v= .slice a' (applyF l cs).length c'/\ListAt factF NoB w.heap.size w' a' c' T.api_Fact (applyF l cs)/\Ext w w':=by
 apply fact_Apply.sh
 suffices H:∀ R:Value->World->Prop,(∀ v w',(∃ a' c',v= .slice a' (applyF l cs).length c'/\ListAt factF NoB w.heap.size w' a' c' T.api_Fact (applyF l cs)/\Ext w w')->R v w')->fact_Apply.body a l.length c ac cs.length cc w R from H _ fun _ _ h=>h
 intro R hR
 unfold fact_Apply.body
 refine (fact_isOrdered_spec h (by omega)).mono ?_
 rintro _ w1 ⟨rfl,he1⟩
 have hs1:=he1.size
 refine ⟨_,rfl,br_intro (fun ho=>?_) fun ho=>?_⟩
 .have ho':ordered l=false:=by simpa using ho
  have hap:applyF l cs=[]:=by unfold applyF;rw [if_neg (by rw [ho'];decide)]
  rw [hap] at hR
  exact hR _ _ ⟨none,0,rfl,ListAt.nil _ _,he1⟩
 have ho':ordered l=true:=by simpa using ho
 have hsorted:=ordered_sorted.1 ho'
 have hap:applyF l cs=applyL l cs:=by unfold applyF;rw [if_pos ho']
 rw [hap] at hR
 intro B1 w2 hn2
 have e2:Ext w w2:=he1.trans hn2.upd
 have hB1:B1=w1.heap.size:=hn2.num
 have hs2:=hn2.size
 refine (fact_own_spec a l.length c w2).mono ?_
 rintro _ w3 ⟨B,rfl,hn3⟩
 have hB:B=w2.heap.size:=hn3.num
 have hs3:=hn3.size
 refine ⟨_,rfl,rfl,by kernel_rfl,?_⟩
 intro D lr r w4 w5 hn4 hn5 HY
 have hD:D=w3.heap.size:=hn4.num
 have hs4:=hn4.size
 have hlr:lr=w4.heap.size:=hn5.num
 have hs5:=hn5.size
 have e5:Ext w w5:=((e2.trans hn3.upd).trans hn4.upd).trans hn5.upd
 have gl:w5.heap[lr]?=some (.loop r):=hn5.get
 have gD:w5.heap[D]?=some (.deferred (some [])):=Ext.get hn5.upd hn4.get
 have gB:w5.heap[B]?=some (.cells #[.slice a l.length c] T.L_api_Fact (0,0)):=Ext.get (hn4.upd.trans hn5.upd) hn3.get
 have gB1:w5.heap[B1]?=some (.cells #[.slice none 0 0] T.L_api_Fact (0,0)):=Ext.get (hn3.upd.trans (hn4.upd.trans hn5.upd)) hn2.get
 refine (fact_own_1_spec (B:=B) (l:=lr) (a:=a) (c:=c) (fs:=l) (J:=fun i W=>Upd (·=B1) w5 W/\∃ a2 c2,W.heap[B1]?=some (.cells #[.slice a2 i c2] T.L_api_Fact (0,0))/\ListAt factF NoB w5.heap.size W a2 c2 T.api_Fact (l.take i)) (by omega)
  (fun i W hj=>hj.1.get gB (by show ¬ B=B1;omega)) (fun i W hj=>⟨G,SliceAt.upd (h.ext e5) hj.1 (fun b hb hb'=>by have:=hG b hb;omega)⟩) hvl (fun i W W' hj he=>⟨hj.1.then he,by obtain ⟨a2,c2,g2,hl⟩:=hj.2;exact ⟨a2,c2,Ext.get he g2,hl.ext he⟩⟩) ?_
  ⟨Upd.refl _ _,none,0,gB1,ListAt.nil _ _⟩).mono ?_
 .rintro i hi W W' av cv ⟨hu,a2,c2,g2,hl⟩ he ho hf
  have hu':Upd (·=B1) w5 W':=hu.then he
  have gl':W'.heap[lr]?=some (.loop r):=hu'.book lr _ gl rfl
  have hsW:=hu.size
  have hsW':=he.size
  refine HY _ W' _ gl' ⟨_,_,_,_,_,_,_,rfl,new_put rfl fun B2 w7 hB2 hs7 e7 g7=>?_⟩
  have gl7:=Ext.get e7 gl'
  refine ⟨gl7,?_⟩
  generalize hw8:w7.putObj lr (.loop { r with state:=.busy })=w8
  have cl:CellsLe w7 w8:=by rw [<- hw8];exact CellsLe.turn gl7 rfl
  have hs8:w8.heap.size=w7.heap.size:=by rw [<- hw8,putObj_size]
  have gl8:w8.heap[lr]?=some (.loop { r with state:=.busy }):=by rw [<- hw8];exact World.putObj_heap_same (Array.getElem?_eq_some_iff.1 gl7).1
  have g28:w8.heap[B1]?=some (.cells #[.slice a2 i c2] T.L_api_Fact (0,0)):=cl.get _ _ _ _ (Ext.get (he.trans e7) g2)
  have g88:w8.heap[B2]?=some (.cells (factVs l[i].key av l[i].val.length cv).toArray T.api_Fact (0,0)):=cl.get _ _ _ _ g7
  refine ⟨_,_,_,cell_of g28 rfl,l[i].key.ino,(l[i].key.what.toNat:Int),l[i].key.name,l[i].key.chunk,av,l[i].val.length,cv,cellsAt_of g88 (fun j v hj=>by simpa using hj),?_⟩
  intro B3 w9 hn9
  have hs9:=hn9.size
  have hl9:ListAt factF NoB w5.heap.size w9 a2 c2 T.api_Fact (l.take i):=((hl.ext (he.trans e7)).cellsLe cl).ext hn9.upd
  have ho9:OwnB w9 av cv l[i].val:=((ho.ext e7).cellsLe cl).ext hn9.upd
  have hil:(l.take i).length=i:=by rw [List.length_take];omega
  have ha2:∀ b,a2=some ⟨b,0,none⟩->w5.heap.size<=b/\b<W.heap.size:=fun b hb=>by
   refine ⟨?_,hl.lt hb⟩
   obtain ⟨_,_,_,h3⟩:=hl
   exact (h3 b hb).1
  refine ListAt.push' (r:=factF) (H:=fun b=>av=some ⟨b,0,none⟩) (x:=l[i]) hl9 (factF_intro ho9 (fun p hp=>ho9.at_ hp)) (fun b hb=>⟨.inl ?_,?_,fun hab=>?_⟩) hn9 hil.symm rfl (by omega) (by omega) (by omega) fun a' c' w10 hu10 hl10=>?_
  .have:=hf _ hb
   show w5.heap.size<=b
   have h2:W.heap.size<=b:=this
   omega
  .exact ho9.blk hb
  .have h2:W.heap.size<=b:=hf _ hb
   have:=ha2 b hab
   omega
  have hne:∀ b,a2=some ⟨b,0,none⟩->B1≠b:=fun b hb=>by have:=ha2 b hb;omega
  have g210:w10.heap[B1]?=some (.cells #[.slice a2 i c2] T.L_api_Fact (0,0)):=hu10.get (Ext.get hn9.upd g28) (fun hb=>hne _ hb rfl)
  refine store_of g210 (by simp) fun w11 hp=>?_
  have u811:Upd (fun b=>b=B1\/a2=some ⟨b,0,none⟩) w8 w11:=(Upd.ext hn9.upd).trans ((hu10.mono fun x _ hx=>.inr hx).trans (hp.upd1.mono fun x _ hx=>.inl hx))
  have gl11:w11.heap[lr]?=some (.loop { r with state:=.busy }):=u811.book lr _ gl8 rfl
  have urnd:Upd (fun b=>b=B1\/a2=some ⟨b,0,none⟩) W' (w11.putObj lr (.loop r)):=Upd.round gl' (Upd.ext e7) (by rw [hw8];exact u811)
  have cl11:CellsLe w11 (w11.putObj lr (.loop r)):=CellsLe.turn gl11 rfl
  refine ⟨gl11,rfl,⟨hu'.over urnd fun x hx=>?_,a',c',?_,?_⟩,fun b hb1 hb2=>urnd.blk b hb2 fun hx=>?_⟩
  .rcases hx with hx | hx
   .exact .inl hx
   .exact .inr (ha2 x hx).1
  .have:=cl11.get _ _ _ _ hp.get
   rw [this]
   have e:(l.take i ++ [l[i]]).length=i+1:=by simp;omega
   rw [e]
   rfl
  .rw [List.take_succ_eq_append_getElem hi]
   exact (hl10.upd hp.upd1 (fun x hx=>⟨by rw [hx];omega,fun h=>h⟩)).cellsLe cl11
  .rcases hx with hx | hx
   .omega
   .have:=ha2 b hx;omega
 .rintro _ w6 ⟨hu6,a2,c2,g2,hl6⟩
  rw [List.take_length] at hl6
  have gl6:=hu6.book lr _ gl rfl
  refine ⟨gl6,fun o=>?_⟩
  have hs6:=hu6.size
  have cl6:CellsLe w6 (w6.putObj lr o):=CellsLe.turn gl6 rfl
  have ew6:Ext w w6:=Upd.beyond e5 hu6 fun x hx=>by rw [hx];omega
  have eu0:Ext w (w6.putObj lr o):=ew6.turn (by have:=e5.size;omega)
  have gD0:(w6.putObj lr o).heap[D]?=some (.deferred (some [])):=by rw [World.putObj_heap_other (by omega)];exact hu6.book D _ gD rfl
  have g20:=cl6.get _ _ _ _ g2
  have hl0:=hl6.cellsLe cl6
  have hs0:w5.heap.size<=(w6.putObj lr o).heap.size:=by rw [putObj_size];exact hs6
  generalize w6.putObj lr o=u0 at eu0 gD0 g20 hl0 hs0 ⊢
  have hww:=e5.size
  refine ⟨fun x u=>∃ i:Nat,x=i/\i<=cs.length/\Ext w u/\u.heap[D]?=some (.deferred (some []))/\w5.heap.size<=u.heap.size/\∃ a2 c2,u.heap[B1]?=some (.cells #[.slice a2 (applyL l (cs.take i)).length c2] T.L_api_Fact (0,0))/\ListAt factF NoB w5.heap.size u a2 c2 T.api_Fact (applyL l (cs.take i)),fun x _=>((cs.length:Int) - x).toNat,
   ⟨0,rfl,by omega,eu0,gD0,hs0,a2,c2,g20,hl0⟩,?_⟩
  rintro x u ⟨i,rfl,hi,heu,gDu,hSu,a2,c2,g2,hl⟩
  refine br_dec (fun hlt=>?_) fun hge=>?_
  .have hi':i<cs.length:=by omega
   have ew:i64.wrap ((i:Int)+1)=((i+1:Nat):Int):=w64 (by omega) (by omega)
   simp only [ew]
   have hcs:=hnc _ (List.getElem_mem hi')
   have hlen:=applyL_length l cs i
   have hso:Sorted (applyL l (cs.take i)):=applyL_sorted hsorted
   have hsucc:=applyL_succ l hi'
   rw [putF_place hso] at hsucc
   obtain ⟨l',hl'⟩: ∃ l',l'=applyL l (cs.take i):=⟨_,rfl⟩
   rw [<- hl'] at hl hlen hso hsucc g2
   obtain ⟨p,hp⟩: ∃ p,p=placeF l' cs[i].key:=⟨_,rfl⟩
   have hple:p<=l'.length:=by rw [hp];exact placeF_le _ _
   refine SliceAt.idx (r:=changeR) (hc.ext heu) rfl hi' fun b o vs _ hrow hR' _=>?_
   obtain ⟨av,cv,rfl,hcv,hbv,_⟩:=changeR_elim hR'
   refine ⟨_,_,_,_,_,_,_,_,hrow.cells,new_put rfl fun B4 w14 hB4 hs14 e14 g4=>?_⟩
   refine ⟨_,_,_,cell_of (Ext.get e14 g2) rfl,cs[i].key.ino,(cs[i].key.what.toNat:Int),cs[i].key.name,cs[i].key.chunk,key4 g4 rfl,?_⟩
   obtain ⟨G',hG1,hG2⟩:=(hl.ext e14).slice
   refine (fact_place_spec (hG1.weak fun _ _ _ _=>factF_weak) hso (by omega)).mono ?_
   rintro _ w15 ⟨rfl,he15⟩
   rw [<- hp]
   have hs15:=he15.size
   refine ⟨_,_,rfl,fun q u=>∃ B5 av' cv',q=⟨B5,0,none⟩/\Ext w15 u/\w15.heap.size<=B5/\B5<u.heap.size/\u.heap[B5]?=some (.cells (factVs cs[i].key av' cs[i].val.length cv').toArray T.api_Fact (0,0))/\OwnB u av' cv' cs[i].val/\Fresh w15 av',?_,?_⟩
   .intro w16 hd16
    have hs16:=hd16.upd.size
    have g416:=Ext.get (he15.trans hd16.upd) g4
    have hbv16:BytesAt w16 av cs[i].val:=RowAt.ext hbv (e14.trans (he15.trans hd16.upd))
    refine ⟨fun v=>Ext w16 v,Upd.refl _ _,cs[i].key.ino,(cs[i].key.what.toNat:Int),cs[i].key.name,cs[i].key.chunk,fun v hv=>key4 (Ext.get hv g416) rfl,_,_,_,fun v hv=>cell_of (Ext.get hv g416) rfl,?_,?_⟩
    .refine (slices_Clone_byte_own (c:=cv) hbv16 hcs.2).mono ?_
     rintro _ w17 ⟨he17,av',cv',rfl,ho17,hf17⟩
     refine ⟨_,_,_,rfl,he17,fun B5 w18 hn18=>⟨he17.trans hn18.upd,store_of hn18.get (by simp) fun w19 hp19=>?_⟩⟩
     have hB5:B5=w17.heap.size:=hn18.num
     have hs17:=he17.size
     have hs18:=hn18.size
     refine ⟨B5,av',cv',rfl,Put.upd ((hd16.upd.trans he17).trans hn18.upd) hp19 (.inl (by omega)),by omega,by rw [hp19.size];omega,hp19.get,OwnB.upd (ho17.ext hn18.upd) hp19.upd1 (fun b hb hb'=>?_),hf17.mono hs16⟩
     have:=ho17.blk hb
     omega
    .intro B6 w20 hn20
     have hB6:B6=w16.heap.size:=hn20.num
     have hs20:=hn20.size
     refine ⟨hn20.upd,(slices_Clone_byte_own (c:=cv) (RowAt.ext hbv16 hn20.upd) hcs.2).mono ?_⟩
     rintro _ w21 ⟨he21,av',cv',rfl,ho21,hf21⟩
     have hs21:=he21.size
     refine ⟨_,_,_,rfl,hn20.upd.trans he21,store_of (Ext.get he21 hn20.get) (by simp) fun w22 hp22=>?_⟩
     refine ⟨B6,av',cv',rfl,Put.upd ((hd16.upd.trans hn20.upd).trans he21) hp22 (.inl (by omega)),by omega,by rw [hp22.size];omega,hp22.get,OwnB.upd ho21 hp22.upd1 (fun b hb hb'=>?_),hf21.mono (by omega)⟩
     have:w20.heap.size<=b:=hf21 _ hb
     omega
   .rintro _ w23 ⟨B5,av',cv',rfl,e23,hB5,hB5',g5,ho5,hf5⟩
    have hs23:=e23.size
    have e1423:=he15.trans e23
    have euu:=e14.trans e1423
    have hsu:=euu.size
    have ew23:=heu.trans euu
    have hl23:=hl.ext euu
    have g223:=Ext.get euu g2
    have g423:=Ext.get e1423 g4
    have gD23:=euu.book D _ gDu rfl
    have ha2:∀ b,a2=some ⟨b,0,none⟩->w5.heap.size<=b/\b<u.heap.size:=fun b hb=>by
     refine ⟨?_,hl.lt hb⟩
     obtain ⟨_,_,_,h3⟩:=hl
     exact (h3 b hb).1
    have hav:∀ b,av'=some ⟨b,0,none⟩->w15.heap.size<=b/\b<w23.heap.size:=fun b hb=>⟨hf5 _ hb,ho5.blk hb⟩
    have hgv:∀ q,av'=some q->av'=some ⟨q.block,0,none⟩:=fun q hq=>ho5.at_ hq
    have next:∀ {a':Option Addr} {c':Nat} {v:World} {lst:List Fact},lst=applyL l (cs.take (i+1))->Upd (fun b=>a2=some ⟨b,0,none⟩) w23 v->ListAt factF NoB w5.heap.size v a' c' T.api_Fact lst->
      storeP v ⟨B1,0,none⟩ [.slice a' lst.length c'] fun w''=>(∃ k:Nat,((i+1:Nat):Int)=k/\k<=cs.length/\Ext w w''/\w''.heap[D]?=some (.deferred (some []))/\w5.heap.size<=w''.heap.size/\∃ a2 c2,w''.heap[B1]?=some (.cells #[.slice a2 (applyL l (cs.take k)).length c2] T.L_api_Fact (0,0))/\ListAt factF NoB w5.heap.size w'' a2 c2 T.api_Fact (applyL l (cs.take k)))/\
       ((cs.length:Int) - ((i+1:Nat):Int)).toNat<((cs.length:Int) - (i:Int)).toNat:=by
     intro a' c' v lst hlst huv hlv
     have hsv:=huv.size
     refine store_of (huv.get g223 fun hb=>by have:=ha2 _ hb;omega) (by simp) fun w'' hpp=>?_
     have hspp:=hpp.size
     refine ⟨⟨i+1,rfl,hi',Put.upd (Upd.beyond ew23 huv fun x hx=>by have:=ha2 x hx;omega) hpp (.inl (by omega)),hpp.upd1.book D _ (huv.book D _ gD23 rfl) rfl,by omega,a',c',?_,?_⟩,meas hi'⟩
     .rw [hpp.get,<- hlst];rfl
     .rw [<- hlst];exact hlv.upd hpp.upd1 fun x hx=>⟨by rw [hx];omega,fun h=>h⟩
    have stay:l'=applyL l (cs.take (i+1))->(∃ k:Nat,((i+1:Nat):Int)=k/\k<=cs.length/\Ext w w23/\w23.heap[D]?=some (.deferred (some []))/\w5.heap.size<=w23.heap.size/\∃ a2 c2,w23.heap[B1]?=some (.cells #[.slice a2 (applyL l (cs.take k)).length c2] T.L_api_Fact (0,0))/\ListAt factF NoB w5.heap.size w23 a2 c2 T.api_Fact (applyL l (cs.take k)))/\
       ((cs.length:Int) - ((i+1:Nat):Int)).toNat<((cs.length:Int) - (i:Int)).toNat:=fun hst =>
     ⟨⟨i+1,rfl,hi',ew23,gD23,by omega,a2,c2,by rw [<- hst];exact g223,by rw [<- hst];exact hl23⟩,meas hi'⟩
    have hfv:cellsAt w23 ⟨B5,0,none⟩ (factVs cs[i].key av' cs[i].val.length cv') 0:=cellsAt_of g5 fun j v hj=>by simpa using hj
    have hgone:w23.cell? ⟨B4,5,none⟩= some (.bool cs[i].gone):=cell_of g423 rfl
    simp only [add_lit,Nat.zero_add]
    have ewp:i64.wrap ((p:Int)+1)=((p+1:Nat):Int):=w64 (by omega) (by omega)
    rw [<- hp] at hsucc
    simp only [ewp]
    have doSet:p<l'.length->(l'.set p ⟨cs[i].key,cs[i].val⟩)=applyL l (cs.take (i+1))->idxP a2 l'.length (p:Int) 5 fun q2=>storeP w23 q2 (factVs cs[i].key av' cs[i].val.length cv') fun w26=>(∃ k:Nat,((i+1:Nat):Int)=k/\k<=cs.length/\Ext w w26/\w26.heap[D]?=some (.deferred (some []))/\w5.heap.size<=w26.heap.size/\∃ a2 c2,w26.heap[B1]?=some (.cells #[.slice a2 (applyL l (cs.take k)).length c2] T.L_api_Fact (0,0))/\ListAt factF NoB w5.heap.size w26 a2 c2 T.api_Fact (applyL l (cs.take k)))/\
       ((cs.length:Int) - ((i+1:Nat):Int)).toNat<((cs.length:Int) - (i:Int)).toNat:=fun hpl hst=>by
     refine list_store (H:=fun b=>av'=some ⟨b,0,none⟩) (x:=⟨cs[i].key,cs[i].val⟩) hl23 (factF_intro (x:=⟨cs[i].key,cs[i].val⟩) ho5 hgv) (fun b hb=>⟨.inl (by have:=hav b hb;omega),(hav b hb).2,fun hab=>by have:=hav b hb;have:=ha2 b hab;omega⟩) hpl fun w' hu hlw=>?_
     have hsw:=hu.size
     refine ⟨⟨i+1,rfl,hi',Upd.beyond ew23 hu fun x hx=>by have:=ha2 x hx;omega,hu.book D _ gD23 rfl,by omega,a2,c2,?_,by rw [<- hst];exact hlw⟩,meas hi'⟩
     rw [<- hst,List.length_set]
     exact hu.get g223 fun hb=>by have:=ha2 _ hb;omega
    have doIns:(l'.take p ++ [⟨cs[i].key,cs[i].val⟩] ++ l'.drop p)=applyL l (cs.take (i+1))->∀ (B7:Nat) (w27:World),New w23 (.cells (factVs cs[i].key av' cs[i].val.length cv').toArray T.api_Fact) B7 w27->CallsR prog K.slices_Insert_api_Fact #[.slice a2 l'.length c2,.int .i64 p,.slice (some ⟨B7,0,none⟩) 1 1] w27 fun v w28=>∃ (a':Option Addr) (n' c':Nat),v= .slice a' n' c'/\storeP w28 ⟨B1,0,none⟩ [.slice a' n' c'] fun w''=>(∃ k:Nat,((i+1:Nat):Int)=k/\k<=cs.length/\Ext w w''/\w''.heap[D]?=some (.deferred (some []))/\w5.heap.size<=w''.heap.size/\∃ a2 c2,w''.heap[B1]?=some (.cells #[.slice a2 (applyL l (cs.take k)).length c2] T.L_api_Fact (0,0))/\ListAt factF NoB w5.heap.size w'' a2 c2 T.api_Fact (applyL l (cs.take k)))/\
       ((cs.length:Int) - ((i+1:Nat):Int)).toNat<((cs.length:Int) - (i:Int)).toNat:=fun hst B7 w27 hn27=>by
     have hB7:B7=w23.heap.size:=hn27.num
     have hs27:=hn27.size
     refine (list_Insert_spec (H:=fun b=>av'=some ⟨b,0,none⟩) (x:=⟨cs[i].key,cs[i].val⟩) (hl23.ext hn27.upd) (factF_intro (x:=⟨cs[i].key,cs[i].val⟩) (ho5.ext hn27.upd) hgv) (fun b hb=>⟨.inl (by have:=hav b hb;omega),by have:=hav b hb;omega,fun hab=>by have:=hav b hb;have:=ha2 b hab;omega⟩) hn27 (fun hab=>by have:=ha2 B7 hab;omega) hple (by omega) (by omega)).mono ?_
     rintro _ w28 ⟨a',c',rfl,hl28,hu28⟩
     exact ⟨_,_,_,rfl,next hst ((Upd.ext hn27.upd).trans hu28) hl28⟩
    refine br_intro (fun hb3=>?_) fun hb3=>?_
    .obtain ⟨hpl,hpk⟩:=of_decide_eq_true hb3
     rw [dif_pos ⟨hpl,fun _=>hpk⟩] at hsucc
     refine ⟨_,hgone,br_intro (fun hg=>?_) fun hg=>?_⟩
     .rw [if_pos hg] at hsucc
      refine ⟨_,_,_,cell_of g223 rfl,(list_Delete_spec hl23 hpl (by omega)).mono ?_⟩
      rintro _ w24 ⟨rfl,hl24,hu24⟩
      exact ⟨_,_,_,rfl,next hsucc.symm hu24 hl24⟩
     .rw [if_neg (by rw [hg];decide)] at hsucc
      exact br_intro (fun _=>⟨_,_,_,cell_of g223 rfl,_,_,_,_,_,_,_,hfv,doSet hpl hsucc.symm⟩) fun h=>absurd (hb3.symm.trans h) (by decide)
    .have hnp:¬ (p<l'.length/\∀ h:p<l'.length,l'[p].key=cs[i].key):=fun ⟨hx,hy⟩=>of_decide_eq_false hb3 ⟨hx,hy hx⟩
     rw [dif_neg hnp] at hsucc
     refine br_intro (fun h=>absurd (h.symm.trans hb3) (by decide)) fun _=>⟨_,hgone,br_intro (fun hg=>?_) fun hg=>?_⟩
     .rw [if_neg (by intro h;rw [h] at hg;cases hg)] at hsucc
      exact ⟨_,_,_,cell_of g223 rfl,_,_,_,_,_,_,_,hfv,doIns hsucc.symm⟩
     .rw [if_pos (by cases h:cs[i].gone with | true=>rfl | false=>rw [h] at hg;cases hg)] at hsucc
      exact stay hsucc.symm
  .have hii:i=cs.length:=by omega
   subst hii
   rw [List.take_length] at hl g2
   have hcl:CellsLe u (u.putObj D (.deferred none)):=CellsLe.turn gDu rfl
   exact ⟨_,_,_,cell_of g2 rfl,gDu,hR _ _ ⟨a2,c2,rfl,(hl.cellsLe hcl).weak hww (fun x hx=>hx.elim),heu.turn (by omega)⟩⟩
theorem fact_Apply_spec {w:World} {G Gc:Nat->Prop} {a ac:Option Addr} {c cc:Nat} {l:List Fact} {cs:List Change} (h:SliceAt factR w G a l) (hG:∀ b,G b->b<w.heap.size) (hc:SliceAt changeR w Gc ac cs) (hn:l.length+cs.length<=100000000) (hvl:∀ f∈l,f.val.length<=140737488355232) (hnc:SmallC cs) :
  CallsR prog K.fact_Apply #[.slice a l.length c,.slice ac cs.length cc] w fun v w'=>∃ a' c',v= .slice a' (applyF l cs).length c'/\ListAt factR NoB w.heap.size w' a' c' T.api_Fact (applyF l cs)/\Ext w w' :=
 (fact_Apply_own h hG hc hn hvl hnc).mono fun _ _ ⟨a',c',e,hl,he⟩=>⟨a',c',e,hl.toWeak (fun _ _ _ _=>factF_weak) rfl,he⟩
end Go.Den
namespace Go.Den
structure Act where
 act:Int
 kind:UInt8
 era:Nat
 block:Int
 page:Int
 fill:UInt8
namespace Act
def vals (a:Act):List Value:=[.int .i64 a.act,bv a.kind,.int .u32 a.era,.int .i64 a.block,.int .i64 a.page,bv a.fill]
end Act
theorem TakenAt.row {w w':World} {v:Value} {l:List Taken} (h:TakenAt w w' v l):∃ a cap,v= .slice a l.length cap/\RowAt w' a (l.flatMap Taken.vals)/\Fresh w a:=by
 obtain ⟨a,cap,rfl,ho,hf⟩:=h
 exact ⟨a,cap,rfl,ho.row,hf⟩
end Go.Den
namespace Go.Den
theorem PAt.turn {A S:Nat} {w:World} {M:PLoc} {P:Pool} {c:Chip} (h:PAt A S w M P c):P.turn<=c.nb:=by
 obtain ⟨L,G,hr,_⟩:=h
 exact hr.turn
theorem PAt.low {A S:Nat} {w:World} {M:PLoc} {P:Pool} {c:Chip} (h:PAt A S w M P c):A<=M.p/\M.p<S:=by
 obtain ⟨L,G,hr,hF,_⟩:=h
 exact hF M.p (.inr (.inr (by simp)))
def ofKind (kind:UInt8) (era:Nat) (t:Taken):Bool:=decide (t.head.kind=kind) && decide (t.head.era=era)
theorem filter_take_succ {α:Type} (p:α->Bool) {l:List α} {i:Nat} (hi:i<l.length):(l.take (i+1)).filter p=if p l[i] then (l.take i).filter p ++ [l[i]] else (l.take i).filter p:=by
 rw [List.take_succ_eq_append_getElem hi,List.filter_append]
 cases h:p l[i]<;>simp [h]
theorem filter_take_len {α:Type} (p:α->Bool) (l:List α) (i:Nat):((l.take i).filter p).length<=i:=by
 have:=List.length_filter_le p (l.take i)
 have:=List.length_take_le i l
 omega
theorem carrackref04_Of_spec {F:Nat->Prop} {A:Nat} {w:World} {p:Nat} {c:Chip} (h:CIn F A w p c) (kind:UInt8) (era:Nat) :
  CallsR prog K.carrackref04_Of #[.pointer (some ⟨p,0,none⟩),bv kind,.int .u32 era] w fun v w'=>Ext w w'/\TakenAt w w' v ((refTaken c).filter (ofKind kind era)):=by
 apply carrackref04_Of.sh
 unfold carrackref04_Of.body
 refine (rTaken h).mono ?_
 rintro _ w1 ⟨he1,a1,c1,rfl,ho1,hf1⟩
 have hs1:=he1.size
 have hll:(refTaken c).length<=64:=by
  have:=refGo_length c c.nb
  have:=h.ok.nb2
  unfold refTaken
  omega
 generalize refTaken c=l at *
 refine ⟨_,_,_,rfl,fun a n cp x u=>∃ i:Nat,x=i/\i<=l.length/\Ext w1 u/\n=((l.take i).filter (ofKind kind era)).length/\OwnAt u a ((l.take i).filter (ofKind kind era)).length cp T.api_Taken 5 (((l.take i).filter (ofKind kind era)).flatMap Taken.vals)/\Fresh w1 a,
  fun _ _ _ x _=>(l.length - x).toNat,⟨0,rfl,by omega,Upd.refl _ _,by simp,by simpa using OwnAt.nil _ _ _,Fresh.none _⟩,?_⟩
 rintro a n cp x u ⟨i,rfl,hil,hu,rfl,ho,hfa⟩
 refine br_dec (fun hlt=>?_) fun hge=>?_
 .have hi':i<l.length:=by omega
  have e1:i64.wrap ((i:Int)+1)=((i+1:Nat):Int):=w64 (by omega) (by omega)
  rw [e1]
  have hsucc:=filter_take_succ (ofKind kind era) hi'
  have hrow:=RowAt.ext ho1.row hu
  have same:ofKind kind era l[i]=false->(∃ k:Nat,((i+1:Nat):Int)=k/\k<=l.length/\Ext w1 u/\((l.take i).filter (ofKind kind era)).length=((l.take k).filter (ofKind kind era)).length/\OwnAt u a ((l.take k).filter (ofKind kind era)).length cp T.api_Taken 5 (((l.take k).filter (ofKind kind era)).flatMap Taken.vals)/\Fresh w1 a)/\((l.length:Int) - ((i+1:Nat):Int)).toNat<((l.length:Int) - (i:Int)).toNat:=by
   intro hn
   rw [hn] at hsucc
   simp only [Bool.false_eq_true,if_false] at hsucc
   exact ⟨⟨i+1,rfl,hi',hu,by rw [hsucc],by rw [hsucc];exact ho,hfa⟩,meas hi'⟩
  refine idx_flat (f:=Taken.vals) Taken.vals_length (by omega) hrow rfl hi' fun b o hab hr=>?_
  obtain ⟨b',o',hab',hc⟩:=RowAt.cell hr (i:=1) (v:=bv l[i].head.kind) rfl
  cases hab'
  simp only [add_lit]
  refine ⟨_,hc,br_eq (fun hk=>?_) fun hk=>same (by unfold ofKind;rw [decide_eq_false (fun e=>hk (by rw [e]))];rfl)⟩
  refine idx_flat (f:=Taken.vals) Taken.vals_length (by omega) hrow rfl hi' fun b o hab hr=>?_
  obtain ⟨b',o',hab',hc⟩:=RowAt.cell hr (i:=2) (v:=.int .u32 l[i].head.era) rfl
  cases hab'
  simp only [add_lit]
  refine ⟨_,hc,br_eq (fun hk2=>?_) fun hk2=>same (by unfold ofKind;rw [decide_eq_false (p:=l[i].head.era=era) (fun e=>hk2 (by rw [e]))];simp)⟩
  have hyes:ofKind kind era l[i]=true:=by
   unfold ofKind
   rw [decide_eq_true (UInt8.toNat_inj.1 (by omega)),decide_eq_true (by omega)]
   rfl
  rw [hyes] at hsucc
  simp only [if_true] at hsucc
  refine idx_flat (f:=Taken.vals) Taken.vals_length (by omega) hrow rfl hi' fun b o hab hr=>?_
  refine ⟨l[i].block,l[i].head.kind.toNat,l[i].head.era,l[i].head.seq,l[i].bad,RowAt.cells hr,fun B1 w3 hn3=>?_⟩
  have hlen:=filter_take_len (ofKind kind era) l i
  have ho3:=OwnAt.ext ho hn3.upd
  generalize (l.take i).filter (ofKind kind era)=m at *
  refine append_flat (f:=Taken.vals) Taken.vals_length ho3 (x:=l[i]) rfl hn3 rfl (oneCell_taken _) rfl (by omega) (by omega) fun a' c' w4 hu4 ho4 hf4=>?_
  have hB:=hn3.num
  refine ⟨⟨i+1,rfl,hi',Upd.beyond (hu.trans hn3.upd) hu4 (fun x hx=>by have:=hfa _ hx;exact this),by rw [hsucc],by rw [hsucc];exact ho4,?_⟩,meas hi'⟩
  rcases hf4 with rfl | ⟨b,rfl,hb⟩
  .exact hfa
  .exact Fresh.some (by have:=hu.size;have:=hn3.size;omega)
 .have hil':i=l.length:=by omega
  subst hil'
  rw [List.take_length] at ho ⊢
  exact ⟨he1.trans hu,a,cp,rfl,ho,hfa.mono hs1⟩
theorem finKey_name {k:Key} {s:St} (h:k.name.size<256):(finKey k s).1.name.size<256:=by
 unfold finKey
 split
 .exact h
 .exact (by decide:Key.zero.name.size<256)
theorem keyS_name (s:St):(keyS s).1.name.size<256:=by
 unfold keyS
 simp only []
 split
 .exact (by decide:Key.zero.name.size<256)
 .split
  .split
   .exact (by decide:Key.zero.name.size<256)
   .refine finKey_name ?_
    have:=rowS_len (takeS 1 (takeS 2 s).2.2).2.2
    rw [size_data]
    simpa using this
  .split
   .split
    .exact (by decide:Key.zero.name.size<256)
    .exact finKey_name (by show ByteArray.empty.size<256;decide)
   .exact finKey_name (by show ByteArray.empty.size<256;decide)
structure GoodC (cs:List Change):Prop where
 len:cs.length<=255
 ok:∀ x∈cs,x.key.name.size<256/\x.val.length<256
structure GoodF (n:Nat) (l:List Fact):Prop where
 len:l.length<=n
 names:NamesF l
 vals:∀ f∈l,f.val.length<256
theorem GoodC.small {cs:List Change} (h:GoodC cs):SmallC cs:=fun x hx=>by have:=h.ok x hx;omega
theorem GoodF.nil:GoodF 0 []:=⟨Nat.le_refl _,fun _ h=>(by cases h),fun _ h=>(by cases h)⟩
theorem applyL_vals:∀ {cs:List Change} {l:List Fact},(∀ f∈l,f.val.length<256)->(∀ x∈cs,x.val.length<256)->∀ f∈applyL l cs,f.val.length<256
 | [],l,h,_=>h
 | c :: cs,l,h,hc=>applyL_vals (cs:=cs) (l:=putF c l) (fun f hf=>by
  rcases putF_mem hf with hf | ⟨_,rfl⟩
  .exact h f hf
  .exact hc c (by simp)) fun x hx=>hc x (by simp [hx])
theorem GoodF.apply {n:Nat} {l:List Fact} {cs:List Change} (h:GoodF n l) (hc:GoodC cs):GoodF (n+255) (applyF l cs):=by
 unfold applyF
 split
 .have h1:=applyL_length l cs cs.length
  have h2:=applyL_names h.names hc.small cs.length
  rw [List.take_length] at h1 h2
  exact ⟨by have:=h.len;have:=hc.len;omega,h2,applyL_vals h.vals fun x hx=>(hc.ok x hx).2⟩
 .exact ⟨Nat.zero_le _,fun _ h=>(by cases h),fun _ h=>(by cases h)⟩
def addP (acc:List Fact) (pg:List PageSay):List Fact:=pg.foldl (fun a p=>applyF a p.changes) acc
theorem addP_succ (acc:List Fact) {pg:List PageSay} {k:Nat} (hk:k<pg.length):addP acc (pg.take (k+1))=applyF (addP acc (pg.take k)) pg[k].changes:=by
 unfold addP
 rw [List.take_succ_eq_append_getElem hk,List.foldl_append];rfl
theorem GoodF.pages {n:Nat} {acc:List Fact} {pg:List PageSay} (h:GoodF n acc) (hp:∀ P∈pg,GoodC P.changes):∀ k,k<=pg.length->GoodF (n+k * 255) (addP acc (pg.take k))
 | 0,_=>by simpa [addP] using h
 | k+1,hk=>by
  rw [addP_succ acc hk]
  have:=(GoodF.pages h hp k (by omega)).apply (hp _ (List.getElem_mem hk))
  rwa [show n+(k+1) * 255=n+k * 255+255 by omega]
theorem GoodF.mono {n m:Nat} {l:List Fact} (h:GoodF n l) (hm:n<=m):GoodF m l:=⟨Nat.le_trans h.len hm,h.names,h.vals⟩
def factsP (low:Nat) (l:List Part):List Fact:=(l.filter fun x=>decide (low<=x.seq)).foldl (fun a x=>addP a x.pages) []
def SliceOut {α:Type} (r:ERep α) (w w':World) (v:Value) (l:List α) (x:Nat):Prop:=∃ a c G,v= .tuple #[.slice a l.length c,.int .i64 (x:Nat)]/\SliceAt r w' G a l/\(∀ b,G b->w.heap.size<=b/\b<w'.heap.size)/\l.length<=c/\Ext w w'
theorem SliceOut.none {α:Type} {r:ERep α} {w w':World} {x:Nat} {l:List α} (hl:l=[]) (h:Ext w w'):SliceOut r w w' (.tuple #[.slice .none 0 0,.int .i64 (x:Nat)]) l x:=by
 subst hl;exact ⟨.none,0,NoB,rfl,SliceAt.nil _ _ _,fun _ h=>h.elim,Nat.le_refl _,h⟩
def childR:ERep Child:=flatR (fun c=>[.int .i64 c.key.ino,bv c.key.what,.string c.key.name,.int .i64 c.key.chunk,.int .i64 c.block,.int .i64 c.page]) 6 (by decide) (fun _=>rfl) (fun c v hv=>by
 simp at hv
 rcases hv with h | h | h | h | h | h<;>(rw [h];rfl))
abbrev childVs (c:Child):List Value:=[.int .i64 c.key.ino,bv c.key.what,.string c.key.name,.int .i64 c.key.chunk,.int .i64 c.block,.int .i64 c.page]
theorem listGo_step {α:Type} {key:α->Key} {one:Key->St->α×Nat×St} {n i:Nat} {s:St} {acc:List α} (hi:i<n):listGo key one (n - i) s acc=if (keyS s).2.1≠0 then ([],(keyS s).2.1) else if (one (keyS s).1 (keyS s).2.2).2.1≠0 then ([],(one (keyS s).1 (keyS s).2.2).2.1) else if aheadL key acc (keyS s).1=false then ([],5) else listGo key one (n - (i+1)) (one (keyS s).1 (keyS s).2.2).2.2 (acc ++ [(one (keyS s).1 (keyS s).2.2).1]):=by
 obtain ⟨m,hm⟩: ∃ m,n - i=m+1:=⟨n - i - 1,by omega⟩
 have hm':n - (i+1)=m:=by omega
 rw [hm,hm'];rfl
theorem listS_take {α:Type} {key:α->Key} {one:Key->St->α×Nat×St} {b:List UInt8} (h0:(takeS 1 (some b)).2.1=0) (h1:(takeS 1 (some b)).1≠0):listS key one b=listGo key one ((takeS 1 (some b)).1 - 0) (takeS 1 (some b)).2.2 []:=by
 unfold listS
 rw [if_neg (by omega),if_neg (by omega)];rfl
theorem aheadL_nil {α:Type} {key:α->Key} {k:Key}:aheadL key [] k=true:=rfl
theorem aheadL_last {α:Type} {key:α->Key} {acc:List α} {k:Key} {i:Nat} (hi:i+1=acc.length):aheadL key acc k=before (key (acc[i]'(by omega))) k:=by
 unfold aheadL
 have:acc.getLast?=some (acc[i]'(by omega)):=by
  rw [List.getLast?_eq_getElem?,List.getElem?_eq_getElem (by omega)]
  congr 2;omega
 rw [this]
theorem SliceOut.of {α:Type} {r:ERep α} {e:TypeId} {w w':World} {a:Option Addr} {c:Nat} {l:List α} {x:Nat} {S:Nat} (h:ListAt r NoB S w' a c e l) (hS:w.heap.size<=S) (he:Ext w w'):SliceOut r w w' (.tuple #[.slice a l.length c,.int .i64 (x:Nat)]) l x:=by
 obtain ⟨G,h1,h2⟩:=h.slice
 exact ⟨a,c,G,rfl,h1,fun b hb=>by
  obtain ⟨q1,q2⟩:=h2 b hb
  rcases q1 with q | q
  .omega
  .exact q.elim,h.cap,he⟩
theorem keyS_small (s:St):(keyS s).1.name.size<9223372036854775807:=Nat.lt_trans (keyS_name s) (by decide)
theorem rtake_empty {w:World} {r:Nat} {a:Option Addr} {c:Nat} (h:w.heap[r]?=some (.cells #[.slice a 0 c,.bool false] T.carrackref01_Reader (0,0))) :
  CallsR prog K.carrackref01_Reader_Take #[.pointer (some ⟨r,0,none⟩),.int .i64 1] w fun v w'=>Upd (·=r) w w'/\v= .tuple #[.int .u64 0,.int .i64 4]:=by
 apply carrackref01_Reader_Take.sh
 unfold carrackref01_Reader_Take.body
 refine (carrackref01_Size_spec _ w).mono ?_
 rintro _ _ ⟨rfl,rfl⟩
 refine ⟨_,rfl,?_⟩
 rw [show isSz 1=true from rfl]
 simp only [Bool.not_true,br_false,nilC_some',add_lit,Nat.zero_add]
 refine ⟨false,cell_of h rfl,?_⟩
 simp only [br_false]
 refine ⟨_,_,_,cell_of h rfl,br_dec (fun _=>?_) fun hge=>absurd (by decide) hge⟩
 exact store_of h (by simp) fun w' hput=>⟨hput.upd1,trivial⟩
theorem rd_ref {w w1:World} {B1:Nat} {a:Option Addr} {b:List UInt8} {c:Nat} (hb:BytesAt w a b) (hc:b.length<=c) (hn:b.length<=1000000000000) (hn1:New w (.cells #[.slice a b.length c,.bool false] T.carrackref01_Reader) B1 w1) (hne:b≠[]):RRdIn (fun x=>B1 > x) w1 B1 (some b):=by
 refine ⟨⟨a,c,hn1.get,hb.ext hn1.upd,hc,fun p hp=>?_⟩,hn⟩
 obtain ⟨b',o,hab,hlt⟩:=RowAt.blk hb (fun h=>hne (List.map_eq_nil_iff.1 h))
 rw [hab] at hp
 cases hp
 have:=hn1.num
 show B1 > b'
 omega
theorem carrackref15_GetLeaf_spec {w:World} {a:Option Addr} {b:List UInt8} {c:Nat} (hb:BytesAt w a b) (hc:b.length<=c) (hn:b.length<=1000000000000) :
  CallsR prog K.carrackref15_GetLeaf #[.slice a b.length c] w fun v w'=>SliceOut factR w w' v (getLeaf b).1 (getLeaf b).2:=by
 apply carrackref15_GetLeaf.sh
 suffices H:∀ R:Value->World->Prop,(∀ v w',SliceOut factR w w' v (getLeaf b).1 (getLeaf b).2->R v w')->carrackref15_GetLeaf.body a b.length c w R from H _ fun _ _ h=>h
 intro R hR
 unfold carrackref15_GetLeaf.body
 intro B1 w1 hn1
 have hB1:B1=w.heap.size:=hn1.num
 have hs1:=hn1.size
 have hG:¬ (fun x=>B1 > x) B1:=by simp
 by_cases hne:b=[]
 .subst hne
  refine (rtake_empty (a:=a) (c:=c) hn1.get).mono ?_
  rintro _ w2 ⟨hu2,rfl⟩
  refine ⟨_,_,rfl,br_ne (fun _=>?_) fun h=>absurd h (by decide)⟩
  exact hR _ _ (SliceOut.none (x:=4) rfl (hn1.upd.beyond hu2 fun x hx=>by omega))
 have hrd1:=rd_ref hb hc hn hn1 hne
 refine (rrdTake (G:=fun x=>B1 > x) (k:=1) (by decide) hG hrd1).mono ?_
 rintro _ w2 ⟨hu2,rfl,hr2⟩
 have e2:Ext w w2:=hn1.upd.beyond hu2 fun x hx=>by omega
 have hs2:=hu2.size
 have a2:=takeS_lt 1 (some b)
 refine ⟨_,_,rfl,br_ne (fun hne=>?_) fun he=>br_eq (fun h0=>?_) fun h0=>?_⟩
 .have hA:takeS 1 (some b)=(0,4,none):=takeS_err (by omega)
  have hg:getLeaf b=([],4):=by unfold getLeaf listS;rw [hA];rfl
  rw [hg] at hR
  rw [hA]
  exact hR _ _ (SliceOut.none rfl e2)
 .have hg:getLeaf b=([],5):=by unfold getLeaf listS;rw [if_neg (by omega),if_pos (by omega)]
  rw [hg] at hR
  exact hR _ _ (SliceOut.none (x:=5) rfl e2)
 have hget:getLeaf b=_:=listS_take (key:=Fact.key) (one:=leafS) (b:=b) (by omega) (by omega)
 generalize takeS 1 (some b)=A at *
 refine ⟨fun a1 l1 c1 x u=>∃ (i:Nat) (s:St) (acc:List Fact),x=i/\i<=A.1/\l1=acc.length/\acc.length=i/\ListAt factR NoB w2.heap.size u a1 c1 T.api_Fact acc/\RRdIn (fun x=>B1 > x) u B1 s/\Ext w u/\w2.heap.size<=u.heap.size/\(∀ y∈acc,y.key.name.size<9223372036854775807)/\getLeaf b=listGo Fact.key leafS (A.1 - i) s acc,
  fun _ _ _ x _=>((A.1:Int) - x).toNat,⟨0,_,[],rfl,by omega,rfl,rfl,ListAt.nil _ _,hr2,e2,Nat.le_refl _,(fun _ h=>by cases h),hget⟩,?_⟩
 rintro a1 l1 c1 x u ⟨i,s,acc,rfl,hi,rfl,hacc,hl,hrd,heu,hsu,hnm,hgo⟩
 refine br_dec (fun hlt=>?_) fun hge=>?_
 .have hi':i<A.1:=by omega
  rw [listGo_step hi'] at hgo
  refine (carrackref06_GetKey_spec hG (fun x hx=>by omega) (by omega) hrd).mono ?_
  rintro _ w4 ⟨rfl,hu4,hr4⟩
  have e4:Ext w w4:=heu.beyond hu4 fun x hx=>by omega
  have hl4:ListAt factR NoB w2.heap.size w4 a1 c1 T.api_Fact acc:=hl.upd hu4 fun x hx=>⟨by omega,fun h=>h⟩
  have hs4:=hu4.size
  refine ⟨_,_,_,_,_,rfl,new_put (vs:=Key.vals (keyS s).1) rfl fun B2 w6 hb2 hs6 he6 g6=>br_ne (fun hne=>?_) fun he=>?_⟩
  .rw [if_pos (by omega)] at hgo
   rw [hgo] at hR
   exact hR _ _ (SliceOut.none rfl (e4.trans he6))
  rw [if_neg (by omega)] at hgo
  refine (rrdRow hG (hr4.ext he6)).mono ?_
  rintro _ w7 ⟨hu7,⟨a3,c3,rfl,hby,hc3,hf3⟩,hr7⟩
  have hs7:=hu7.size
  have g7:=hu7.get g6 (by omega)
  have hl7:ListAt factR NoB w2.heap.size w7 a1 c1 T.api_Fact acc:=(hl4.ext he6).upd hu7 fun x hx=>⟨by omega,fun h=>h⟩
  have e7:Ext w w7:=(e4.trans he6).beyond hu7 fun x hx=>by omega
  have hone:leafS (keyS s).1 (keyS s).2.2=if (rowS (keyS s).2.2).2.1≠0 then (Fact.zero,4,none) else if (rowS (keyS s).2.2).1.length=0 then (Fact.zero,5,(rowS (keyS s).2.2).2.2) else (⟨(keyS s).1,(rowS (keyS s).2.2).1⟩,0,(rowS (keyS s).2.2).2.2):=rfl
  refine ⟨_,_,_,_,rfl,br_ne (fun hne=>?_) fun he9 w8 hd8=>⟨fun u=>Ext w8 u,Upd.refl _ _,?_⟩⟩
  .have hrow:=rowS_err (s:=(keyS s).2.2) (by omega)
   rw [if_pos (by omega)] at hone
   rw [hone,if_pos (by simp)] at hgo
   rw [hgo] at hR
   rw [hrow]
   exact hR _ _ (SliceOut.none (x:=4) rfl e7)
  rw [if_neg (by omega)] at hone
  have he8:=hd8.upd
  have hs8:=he8.size
  have e8:=e7.trans he8
  have g8:=Ext.get he8 g7
  have hl8:=hl7.ext he8
  refine br_eq (fun hz=>?_) fun hz=>?_
  .rw [if_pos (by omega)] at hone
   rw [hone,if_pos (by simp)] at hgo
   rw [hgo] at hR
   exact hR _ _ (SliceOut.none (x:=5) rfl e8)
  rw [if_neg (by omega)] at hone
  rw [hone,if_neg (by simp)] at hgo
  have ew:u64.wrap ((i:Int)+1)=((i+1:Nat):Int):=wu64 (by omega) (by omega)
  have fin:∀ {w12:World},Ext w8 w12->getLeaf b=listGo Fact.key leafS (A.1 - (i+1)) (rowS (keyS s).2.2).2.2 (acc ++ [⟨(keyS s).1,(rowS (keyS s).2.2).1⟩])->∃ x24 x25:Int,∃ s7:ByteArray,∃ x26:Int,cellsAt w12 ⟨B2,0,none⟩ [.int .i64 x24,.int .u8 x25,.string s7,.int .i64 x26] 0/\
    ∀ (B3:Nat) (w13:World),New w12 (.cells #[.int .i64 x24,.int .u8 x25,.string s7,.int .i64 x26,.slice a3 (rowS (keyS s).2.2).1.length c3] T.api_Fact) B3 w13->
    appendP T.api_Fact 5 64 [.int .i64 0,.int .u8 0,.string (⟨#[]⟩: ByteArray),.int .i64 0,.slice none 0 0] a1 acc.length c1 (.slice (some ⟨B3,0,none⟩) 1 1) w13 fun a5 l5 c5 w14=>(∃ (j:Nat) (s:St) (acc:List Fact),u64.wrap ((i:Int)+1)=j/\j<=A.1/\l5=acc.length/\acc.length=j/\ListAt factR NoB w2.heap.size w14 a5 c5 T.api_Fact acc/\RRdIn (fun x=>B1 > x) w14 B1 s/\Ext w w14/\w2.heap.size<=w14.heap.size/\(∀ y∈acc,y.key.name.size<9223372036854775807)/\getLeaf b=listGo Fact.key leafS (A.1 - j) s acc)/\((A.1:Int) - u64.wrap ((i:Int)+1)).toNat<((A.1:Int) - (i:Int)).toNat:=by
   intro w12 he12 hgo'
   have hs12:=he12.size
   refine ⟨_,_,_,_,key_cells (Ext.get he12 g8),fun B3 W13 hn13=>?_⟩
   have he13:=hn13.upd
   have hs13:=hn13.size
   refine ListAt.push (r:=factR) (x:=⟨(keyS s).1,(rowS (keyS s).2.2).1⟩) (H:=fun b=>w6.heap.size<=b/\b<w7.heap.size) ((hl8.ext he12).ext he13) (factR_intro (x:=⟨(keyS s).1,(rowS (keyS s).2.2).1⟩) hc3 (((hby.ext he8).ext he12).ext he13) fun _ p hp=>hf3 p hp) (fun b hb=>⟨.inl (by omega),by omega,fun h=>?_⟩) hn13 rfl rfl (by omega) (by omega) (by omega) fun a' c' W14 hu14 hl14=>?_
   .have:=(hl4.ext he6).lt h
    omega
   .have e14:Ext w W14:=((e8.trans he12).trans he13).beyond hu14 fun x hx=>by omega
    have hs14:=hu14.size
    rw [ew]
    refine ⟨⟨i+1,_,_,rfl,hi',rfl,by simp [hacc],hl14,(((hr7.ext he8).ext he12).ext he13).upd hu14 (by omega) fun x hx=>by omega,e14,by omega,fun y hy=>?_,hgo'⟩,meas hi'⟩
    rcases List.mem_append.1 hy with hy | hy
    .exact hnm y hy
    .rw [List.mem_singleton.1 hy];exact keyS_small s
  refine br_dec (fun hpos=>?_) fun hz=>?_
  .obtain ⟨j,hj⟩: ∃ j,i=j+1:=⟨i - 1,by omega⟩
   have hah:=aheadL_last (key:=Fact.key) (acc:=acc) (k:=(keyS s).1) (i:=j) (by omega)
   obtain ⟨G,hsl,hGl⟩:=hl8.slice
   have ew2:i64.wrap ((acc.length:Int) - 1)=((j:Nat):Int):=w64 (by omega) (by omega) |>.trans (by omega)
   rw [ew2]
   refine SliceAt.idx (r:=factR) hsl rfl (by omega) fun b' o vs ha hrow hR' hG'=>?_
   obtain ⟨av,cv,rfl,hcv,hbv,hgv⟩:=factR_elim hR'
   refine ⟨_,_,_,_,fun u hu=>(RowAt.take (RowAt.ext hrow hu) 4).cells,_,_,_,_,fun u hu=>key_cells (Ext.get hu g8),(carrackref06_Before_spec _ _ (hnm _ (List.getElem_mem _)) (keyS_small s) _).mono ?_⟩
   rintro _ w12 ⟨rfl,he12⟩
   refine ⟨_,rfl,br_intro (fun hno=>?_) fun hyes=>?_⟩
   .rw [if_pos (by rw [hah];simpa using hno)] at hgo
    rw [hgo] at hR
    exact hR _ _ (SliceOut.none (x:=5) rfl (e8.trans he12))
   .rw [if_neg (by rw [hah];simpa using hyes)] at hgo
    exact fin he12 hgo
  .have hnil:acc=[]:=List.eq_nil_of_length_eq_zero (by omega)
   rw [if_neg (by rw [hnil,aheadL_nil];decide)] at hgo
   exact fin (Upd.refl _ _) hgo
 .have hin:i=A.1:=by omega
  subst hin
  rw [Nat.sub_self] at hgo
  refine (rrdLeft hrd).mono ?_
  rintro _ _ ⟨rfl,rfl⟩
  refine ⟨_,rfl,br_dec (fun hl0=>?_) fun hl0=>?_⟩
  .have hg:getLeaf b=([],5):=by rw [hgo];unfold listGo;rw [if_pos (by omega)]
   rw [hg] at hR
   exact hR _ _ (SliceOut.none (x:=5) rfl heu)
  .have hg:getLeaf b=(acc,0):=by rw [hgo];unfold listGo;rw [if_neg (by omega)]
   rw [hg] at hR
   exact hR _ _ (SliceOut.of (x:=0) hl (by omega) heu)
theorem carrackref15_GetInner_spec {w:World} {a:Option Addr} {b:List UInt8} {c:Nat} (hb:BytesAt w a b) (hc:b.length<=c) (hn:b.length<=1000000000000) :
  CallsR prog K.carrackref15_GetInner #[.slice a b.length c] w fun v w'=>SliceOut childR w w' v (getInner b).1 (getInner b).2:=by
 apply carrackref15_GetInner.sh
 suffices H:∀ R:Value->World->Prop,(∀ v w',SliceOut childR w w' v (getInner b).1 (getInner b).2->R v w')->carrackref15_GetInner.body a b.length c w R from H _ fun _ _ h=>h
 intro R hR
 unfold carrackref15_GetInner.body
 intro B1 w1 hn1
 have hB1:B1=w.heap.size:=hn1.num
 have hs1:=hn1.size
 have hG:¬ (fun x=>B1 > x) B1:=by simp
 by_cases hne:b=[]
 .subst hne
  refine (rtake_empty (a:=a) (c:=c) hn1.get).mono ?_
  rintro _ w2 ⟨hu2,rfl⟩
  refine ⟨_,_,rfl,br_ne (fun _=>?_) fun h=>absurd h (by decide)⟩
  exact hR _ _ (SliceOut.none (x:=4) rfl (hn1.upd.beyond hu2 fun x hx=>by omega))
 have hrd1:=rd_ref hb hc hn hn1 hne
 refine (rrdTake (G:=fun x=>B1 > x) (k:=1) (by decide) hG hrd1).mono ?_
 rintro _ w2 ⟨hu2,rfl,hr2⟩
 have e2:Ext w w2:=hn1.upd.beyond hu2 fun x hx=>by omega
 have hs2:=hu2.size
 have a2:=takeS_lt 1 (some b)
 refine ⟨_,_,rfl,br_ne (fun hne=>?_) fun he=>br_eq (fun h0=>?_) fun h0=>?_⟩
 .have hA:takeS 1 (some b)=(0,4,none):=takeS_err (by omega)
  have hg:getInner b=([],4):=by unfold getInner listS;rw [hA];rfl
  rw [hg] at hR
  rw [hA]
  exact hR _ _ (SliceOut.none rfl e2)
 .have hg:getInner b=([],5):=by unfold getInner listS;rw [if_neg (by omega),if_pos (by omega)]
  rw [hg] at hR
  exact hR _ _ (SliceOut.none (x:=5) rfl e2)
 have hget:getInner b=_:=listS_take (key:=Child.key) (one:=innerS) (b:=b) (by omega) (by omega)
 generalize takeS 1 (some b)=A at *
 refine ⟨fun a1 l1 c1 x u=>∃ (i:Nat) (s:St) (acc:List Child),x=i/\i<=A.1/\l1=acc.length/\acc.length=i/\ListAt childR NoB w2.heap.size u a1 c1 T.api_Child acc/\RRdIn (fun x=>B1 > x) u B1 s/\Ext w u/\w2.heap.size<=u.heap.size/\(∀ y∈acc,y.key.name.size<9223372036854775807)/\getInner b=listGo Child.key innerS (A.1 - i) s acc,
  fun _ _ _ x _=>((A.1:Int) - x).toNat,⟨0,_,[],rfl,by omega,rfl,rfl,ListAt.nil _ _,hr2,e2,Nat.le_refl _,(fun _ h=>by cases h),hget⟩,?_⟩
 rintro a1 l1 c1 x u ⟨i,s,acc,rfl,hi,rfl,hacc,hl,hrd,heu,hsu,hnm,hgo⟩
 refine br_dec (fun hlt=>?_) fun hge=>?_
 .have hi':i<A.1:=by omega
  rw [listGo_step hi'] at hgo
  refine (carrackref06_GetKey_spec hG (fun x hx=>by omega) (by omega) hrd).mono ?_
  rintro _ w4 ⟨rfl,hu4,hr4⟩
  have e4:Ext w w4:=heu.beyond hu4 fun x hx=>by omega
  have hl4:ListAt childR NoB w2.heap.size w4 a1 c1 T.api_Child acc:=hl.upd hu4 fun x hx=>⟨by omega,fun h=>h⟩
  have hs4:=hu4.size
  refine ⟨_,_,_,_,_,rfl,new_put (vs:=Key.vals (keyS s).1) rfl fun B2 w6 hb2 hs6 he6 g6=>br_ne (fun hne=>?_) fun he=>?_⟩
  .rw [if_pos (by omega)] at hgo
   rw [hgo] at hR
   exact hR _ _ (SliceOut.none rfl (e4.trans he6))
  rw [if_neg (by omega)] at hgo
  have hone:innerS (keyS s).1 (keyS s).2.2=if (takeS 1 (keyS s).2.2).2.1≠0 then (Child.zero,4,none) else if (takeS 1 (takeS 1 (keyS s).2.2).2.2).2.1≠0 then (Child.zero,4,none) else (⟨(keyS s).1,(takeS 1 (keyS s).2.2).1,(takeS 1 (takeS 1 (keyS s).2.2).2.2).1⟩,0,(takeS 1 (takeS 1 (keyS s).2.2).2.2).2.2):=rfl
  refine (rrdTake (G:=fun x=>B1 > x) (k:=1) (by decide) hG (hr4.ext he6)).mono ?_
  rintro _ w7 ⟨hu7,rfl,hr7⟩
  have hs7:=hu7.size
  have g7:=hu7.get g6 (by omega)
  have hl7:ListAt childR NoB w2.heap.size w7 a1 c1 T.api_Child acc:=(hl4.ext he6).upd hu7 fun x hx=>⟨by omega,fun h=>h⟩
  have e7:Ext w w7:=(e4.trans he6).beyond hu7 fun x hx=>by omega
  have a7:=takeS_lt 1 (keyS s).2.2
  refine ⟨_,_,rfl,br_ne (fun hne=>?_) fun he7=>?_⟩
  .have hA:takeS 1 (keyS s).2.2=(0,4,none):=takeS_err (by omega)
   rw [if_pos (by omega)] at hone
   rw [hone,if_pos (by simp)] at hgo
   rw [hgo] at hR
   rw [hA]
   exact hR _ _ (SliceOut.none (x:=4) rfl e7)
  rw [if_neg (by omega)] at hone
  refine (rrdTake (G:=fun x=>B1 > x) (k:=1) (by decide) hG hr7).mono ?_
  rintro _ w7' ⟨hu7',rfl,hr7'⟩
  have hs7':=hu7'.size
  have g7':=hu7'.get g7 (by omega)
  have hl7':ListAt childR NoB w2.heap.size w7' a1 c1 T.api_Child acc:=hl7.upd hu7' fun x hx=>⟨by omega,fun h=>h⟩
  have e7':Ext w w7':=e7.beyond hu7' fun x hx=>by omega
  have a7':=takeS_lt 1 (takeS 1 (keyS s).2.2).2.2
  refine ⟨_,_,rfl,br_ne (fun hne=>?_) fun he9 w8 hd8=>⟨fun u=>Ext w8 u,Upd.refl _ _,?_⟩⟩
  .have hA:takeS 1 (takeS 1 (keyS s).2.2).2.2=(0,4,none):=takeS_err (by omega)
   rw [if_pos (by omega)] at hone
   rw [hone,if_pos (by simp)] at hgo
   rw [hgo] at hR
   rw [hA]
   exact hR _ _ (SliceOut.none (x:=4) rfl e7')
  rw [if_neg (by omega)] at hone
  have he8:=hd8.upd
  have hs8:=he8.size
  have e8:=e7'.trans he8
  have g8:=Ext.get he8 g7'
  have hl8:=hl7'.ext he8
  rw [hone,if_neg (by simp)] at hgo
  rw [w64n (m:=(takeS 1 (keyS s).2.2).1) (by omega),w64n (m:=(takeS 1 (takeS 1 (keyS s).2.2).2.2).1) (by omega)]
  have ew:u64.wrap ((i:Int)+1)=((i+1:Nat):Int):=wu64 (by omega) (by omega)
  have fin:∀ {w12:World},Ext w8 w12->getInner b=listGo Child.key innerS (A.1 - (i+1)) (takeS 1 (takeS 1 (keyS s).2.2).2.2).2.2 (acc ++ [⟨(keyS s).1,(takeS 1 (keyS s).2.2).1,(takeS 1 (takeS 1 (keyS s).2.2).2.2).1⟩])->∃ x24 x25:Int,∃ s7:ByteArray,∃ x26:Int,cellsAt w12 ⟨B2,0,none⟩ [.int .i64 x24,.int .u8 x25,.string s7,.int .i64 x26] 0/\
    ∀ (B3:Nat) (w13:World),New w12 (.cells #[.int .i64 x24,.int .u8 x25,.string s7,.int .i64 x26,.int .i64 ((takeS 1 (keyS s).2.2).1:Nat),.int .i64 ((takeS 1 (takeS 1 (keyS s).2.2).2.2).1:Nat)] T.api_Child) B3 w13->
    appendP T.api_Child 6 56 [.int .i64 0,.int .u8 0,.string (⟨#[]⟩: ByteArray),.int .i64 0,.int .i64 0,.int .i64 0] a1 acc.length c1 (.slice (some ⟨B3,0,none⟩) 1 1) w13 fun a5 l5 c5 w14=>(∃ (j:Nat) (s:St) (acc:List Child),u64.wrap ((i:Int)+1)=j/\j<=A.1/\l5=acc.length/\acc.length=j/\ListAt childR NoB w2.heap.size w14 a5 c5 T.api_Child acc/\RRdIn (fun x=>B1 > x) w14 B1 s/\Ext w w14/\w2.heap.size<=w14.heap.size/\(∀ y∈acc,y.key.name.size<9223372036854775807)/\getInner b=listGo Child.key innerS (A.1 - j) s acc)/\((A.1:Int) - u64.wrap ((i:Int)+1)).toNat<((A.1:Int) - (i:Int)).toNat:=by
   intro w12 he12 hgo'
   have hs12:=he12.size
   refine ⟨_,_,_,_,key_cells (Ext.get he12 g8),fun B3 W13 hn13=>?_⟩
   have he13:=hn13.upd
   have hs13:=hn13.size
   refine ListAt.push (r:=childR) (x:=⟨(keyS s).1,(takeS 1 (keyS s).2.2).1,(takeS 1 (takeS 1 (keyS s).2.2).2.2).1⟩) (H:=NoB) ((hl8.ext he12).ext he13) rfl (fun b hb=>hb.elim) hn13 rfl rfl (by omega) (by omega) (by omega) fun a' c' W14 hu14 hl14=>?_
   have e14:Ext w W14:=((e8.trans he12).trans he13).beyond hu14 fun x hx=>by omega
   have hs14:=hu14.size
   rw [ew]
   refine ⟨⟨i+1,_,_,rfl,hi',rfl,by simp [hacc],hl14,(((hr7'.ext he8).ext he12).ext he13).upd hu14 (by omega) fun x hx=>by omega,e14,by omega,fun y hy=>?_,hgo'⟩,meas hi'⟩
   rcases List.mem_append.1 hy with hy | hy
   .exact hnm y hy
   .rw [List.mem_singleton.1 hy];exact keyS_small s
  refine br_dec (fun hpos=>?_) fun hz=>?_
  .obtain ⟨j,hj⟩: ∃ j,i=j+1:=⟨i - 1,by omega⟩
   have hah:=aheadL_last (key:=Child.key) (acc:=acc) (k:=(keyS s).1) (i:=j) (by omega)
   obtain ⟨G,hsl,hGl⟩:=hl8.slice
   have ew2:i64.wrap ((acc.length:Int) - 1)=((j:Nat):Int):=w64 (by omega) (by omega) |>.trans (by omega)
   rw [ew2]
   refine SliceAt.idx (r:=childR) hsl rfl (by omega) fun b' o vs ha hrow hR' hG'=>?_
   obtain rfl:vs=childVs (acc[j]'(by omega)):=hR'
   refine ⟨_,_,_,_,fun u hu=>(RowAt.take (RowAt.ext hrow hu) 4).cells,_,_,_,_,fun u hu=>key_cells (Ext.get hu g8),(carrackref06_Before_spec _ _ (hnm _ (List.getElem_mem _)) (keyS_small s) _).mono ?_⟩
   rintro _ w12 ⟨rfl,he12⟩
   refine ⟨_,rfl,br_intro (fun hno=>?_) fun hyes=>?_⟩
   .rw [if_pos (by rw [hah];simpa using hno)] at hgo
    rw [hgo] at hR
    exact hR _ _ (SliceOut.none (x:=5) rfl (e8.trans he12))
   .rw [if_neg (by rw [hah];simpa using hyes)] at hgo
    exact fin he12 hgo
  .have hnil:acc=[]:=List.eq_nil_of_length_eq_zero (by omega)
   rw [if_neg (by rw [hnil,aheadL_nil];decide)] at hgo
   exact fin (Upd.refl _ _) hgo
 .have hin:i=A.1:=by omega
  subst hin
  rw [Nat.sub_self] at hgo
  refine (rrdLeft hrd).mono ?_
  rintro _ _ ⟨rfl,rfl⟩
  refine ⟨_,rfl,br_dec (fun hl0=>?_) fun hl0=>?_⟩
  .have hg:getInner b=([],5):=by rw [hgo];unfold listGo;rw [if_pos (by omega)]
   rw [hg] at hR
   exact hR _ _ (SliceOut.none (x:=5) rfl heu)
  .have hg:getInner b=(acc,0):=by rw [hgo];unfold listGo;rw [if_neg (by omega)]
   rw [hg] at hR
   exact hR _ _ (SliceOut.of (x:=0) hl (by omega) heu)
def leafB (f:Fact):List UInt8:=keyB f.key ++ (UInt8.ofNat f.val.length :: f.val)
def leafBody (l:List Fact):List UInt8:=UInt8.ofNat l.length :: l.flatMap leafB
def putLeaf (size:Int) (l:List Fact):List UInt8×Nat:=if 1<=l.length/\l.length<=255/\ordered l=true/\l.all mayF=true then putPage size 4 (leafBody l) else ([],2)
theorem leafB_len {f:Fact} (h:mayF f=true):(leafB f).length<=300:=by
 unfold mayF at h
 rw [Bool.and_eq_true,Bool.and_eq_true,decide_eq_true_eq,decide_eq_true_eq] at h
 have:=keyB_len h.1.1
 unfold leafB
 simp only [List.length_append,List.length_cons]
 omega
def mayCh (x:Child):Bool:=x.key.may && decide (0<=x.block) && decide (x.block<=255) && decide (0<=x.page) && decide (x.page<=255)
def innerB (x:Child):List UInt8:=keyB x.key ++ [UInt8.ofNat x.block.toNat,UInt8.ofNat x.page.toNat]
def innerBody (l:List Child):List UInt8:=UInt8.ofNat l.length :: l.flatMap innerB
def bareF (x:Child):Fact:=⟨x.key,[]⟩
def putInner (size:Int) (l:List Child):List UInt8×Nat:=if 1<=l.length/\l.length<=255/\ordered (l.map bareF)=true/\l.all mayCh=true then putPage size 5 (innerBody l) else ([],2)
theorem innerB_len {x:Child} (h:mayCh x=true):(innerB x).length<=300:=by
 unfold mayCh at h
 simp only [Bool.and_eq_true,decide_eq_true_eq] at h
 have:=keyB_len h.1.1.1.1
 unfold innerB
 simp only [List.length_append,List.length_cons,List.length_nil]
 omega
section
def endK (k:Key):Bool:=decide (((keyB k).map UInt8.toNat).sum % 4=3)
def leafLen (f:Fact):Nat:=(keyB f.key).length+1+f.val.length
def innerLen (k:Key):Nat:=(keyB k).length+2
section
variable {α:Type} (key:α->Key) (len:α->Nat) (room least:Nat)
structure CutS (α:Type) where
 gs:List (List α)
 cur:List α
def lens (l:List α):Nat:=(l.map len).sum
def cutFull (s:CutS α) (x:α):CutS α:=if room<lens len s.cur+len x\/s.cur.length=255 then ⟨s.gs ++ [s.cur],[]⟩ else s
def cutStep (s:CutS α) (x:α):CutS α :=
 let t:=cutFull len room s x
 if decide (least<=t.cur.length+1) && endK (key x) then ⟨t.gs ++ [t.cur ++ [x]],[]⟩ else ⟨t.gs,t.cur ++ [x]⟩
def cutEnd (s:CutS α):List (List α):=if s.cur=[] then s.gs else s.gs ++ [s.cur]
def cutG (l:List α):List (List α):=cutEnd (l.foldl (cutStep key len room least) ⟨[],[]⟩)
variable {key len room least}
theorem lens_nil:lens len []=0:=rfl
theorem lens_append (l m:List α):lens len (l ++ m)=lens len l+lens len m:=by unfold lens;rw [List.map_append,List.sum_append]
theorem lens_one (x:α):lens len [x]=len x:=by unfold lens;simp
structure GOk (len:α->Nat) (room:Nat) (g:List α):Prop where
 ne:g≠[]
 most:g.length<=255
 fits:lens len g<=room
structure CutS.Ok (len:α->Nat) (room:Nat) (s:CutS α) (l:List α):Prop where
 all:s.gs.flatten ++ s.cur=l
 gs:∀ g∈s.gs,GOk len room g
 most:s.cur.length<=255
 fits:lens len s.cur<=room
theorem CutS.Ok.full {s:CutS α} {l:List α} (h:s.Ok len room l) {x:α} (hx:len x<=room):(cutFull len room s x).Ok len room l/\(cutFull len room s x).cur.length<255/\lens len (cutFull len room s x).cur+len x<=room:=by
 unfold cutFull
 split
 .rename_i h1
  have hne:s.cur≠[]:=by
   intro h0
   rw [h0,lens_nil] at h1
   rcases h1 with h1 | h1
   .omega
   .cases h1
  refine ⟨⟨?_,fun g hg=>?_,Nat.zero_le _,Nat.zero_le _⟩,by show (0:Nat)<255;omega,by rw [lens_nil];omega⟩
  .rw [List.flatten_append,List.flatten_singleton,List.append_nil];exact h.all
  .rcases List.mem_append.1 hg with hg | hg
   .exact h.gs g hg
   .rw [List.mem_singleton.1 hg];exact ⟨hne,h.most,h.fits⟩
 .rename_i h1
  have:=h.most
  exact ⟨h,by omega,by omega⟩
theorem CutS.Ok.step {s:CutS α} {l:List α} (h:s.Ok len room l) {x:α} (hx:len x<=room):(cutStep key len room least s x).Ok len room (l ++ [x]):=by
 obtain ⟨h1,h2,h3⟩:=h.full hx
 unfold cutStep
 simp only
 have hg:GOk len room ((cutFull len room s x).cur ++ [x]):=⟨by simp,by rw [List.length_append,List.length_singleton];omega,by rw [lens_append,lens_one];omega⟩
 split
 .refine ⟨?_,fun g hg'=>?_,Nat.zero_le _,Nat.zero_le _⟩
  .rw [List.flatten_append,List.flatten_singleton,List.append_nil,<- h1.all,List.append_assoc]
  .rcases List.mem_append.1 hg' with hg' | hg'
   .exact h1.gs g hg'
   .rw [List.mem_singleton.1 hg'];exact hg
 .exact ⟨by rw [<- h1.all,List.append_assoc],h1.gs,hg.most,hg.fits⟩
theorem CutS.Ok.fold {l:List α}:∀ {s:CutS α} {m:List α},s.Ok len room m->(∀ x∈l,len x<=room)->(l.foldl (cutStep key len room least) s).Ok len room (m ++ l):=by
 induction l with
 | nil=>intro s m h _;rw [List.append_nil];exact h
 | cons x l ih =>
  intro s m h hx
  have:=ih (h.step (key:=key) (least:=least) (hx x (by simp))) fun y hy=>hx y (by simp [hy])
  rw [List.append_assoc] at this
  exact this
theorem CutS.Ok.nil:(CutS.mk [] []:CutS α).Ok len room []:=⟨rfl,fun g hg=>(by cases hg),Nat.zero_le _,Nat.zero_le _⟩
theorem cutEnd_ok {s:CutS α} {l:List α} (h:s.Ok len room l):(cutEnd s).flatten=l/\∀ g∈cutEnd s,GOk len room g:=by
 unfold cutEnd
 split
 .rename_i h0
  have:=h.all
  rw [h0,List.append_nil] at this
  exact ⟨this,h.gs⟩
 .rename_i h0
  refine ⟨by rw [List.flatten_append,List.flatten_singleton];exact h.all,fun g hg=>?_⟩
  rcases List.mem_append.1 hg with hg | hg
  .exact h.gs g hg
  .rw [List.mem_singleton.1 hg];exact ⟨h0,h.most,h.fits⟩
theorem cutG_ok {l:List α} (h:∀ x∈l,len x<=room):(cutG key len room least l).flatten=l/\∀ g∈cutG key len room least l,GOk len room g :=
 cutEnd_ok (CutS.Ok.nil.fold h)
structure CutS.Two (s:CutS α):Prop where
 gs:∀ g∈s.gs,2<=g.length
theorem CutS.Two.step {s:CutS α} (h:s.Two) {l:List α} (ho:s.Ok len room l) (hl:2<=least) {x:α} (hx:2 * len x<=room) (hc:∀ y∈s.cur,2 * len y<=room):(cutStep key len room least s x).Two:=by
 have h1:(cutFull len room s x).Two:=by
  unfold cutFull
  split
  .rename_i h1
   refine ⟨fun g hg=>?_⟩
   rcases List.mem_append.1 hg with hg | hg
   .exact h.gs g hg
   .rw [List.mem_singleton.1 hg]
    rcases h1 with h1 | h1
    .match hcur:s.cur with
     | []=>rw [hcur,lens_nil] at h1;omega
     | [y] =>
      rw [hcur,lens_one] at h1
      have:=hc y (by rw [hcur];simp)
      omega
     | y :: z :: r=>simp
    .omega
  .exact h
 unfold cutStep
 simp only
 split
 .rename_i h2
  rw [Bool.and_eq_true,decide_eq_true_eq] at h2
  refine ⟨fun g hg=>?_⟩
  rcases List.mem_append.1 hg with hg | hg
  .exact h1.gs g hg
  .rw [List.mem_singleton.1 hg,List.length_append,List.length_singleton];omega
 .exact ⟨h1.gs⟩
theorem cutStep_mem {s:CutS α} {x y:α} (hy:y∈(cutStep key len room least s x).cur):y∈s.cur\/y=x:=by
 have h1:∀ y∈(cutFull len room s x).cur,y∈s.cur:=by
  unfold cutFull
  split
  .intro y hy;cases hy
  .exact fun y hy=>hy
 unfold cutStep at hy
 simp only at hy
 split at hy
 .cases hy
 .rcases List.mem_append.1 hy with hy | hy
  .exact .inl (h1 y hy)
  .exact .inr (List.mem_singleton.1 hy)
theorem two_fold {l:List α} (hl:2<=least):∀ {s:CutS α} {m:List α},s.Two->s.Ok len room m->(∀ y∈s.cur,2 * len y<=room)->(∀ x∈l,2 * len x<=room)->(l.foldl (cutStep key len room least) s).Two:=by
 induction l with
 | nil=>intro s m h _ _ _;exact h
 | cons x l ih =>
  intro s m h ho hc hx
  have h0:=hx x (by simp)
  refine ih (h.step ho hl h0 hc) (ho.step (by omega)) (fun y hy=>?_) fun y hy=>hx y (by simp [hy])
  rcases cutStep_mem hy with hy | rfl
  .exact hc y hy
  .exact h0
theorem cutEnd_two {s:CutS α} (h:s.Two):2 * (cutEnd s).length<=((cutEnd s).flatten).length+1:=by
 have hs:∀ gs:List (List α),(∀ g∈gs,2<=g.length)->2 * gs.length<=gs.flatten.length:=by
  intro gs
  induction gs with
  | nil=>simp
  | cons g gs ih =>
   intro hg
   have h1:=hg g (by simp)
   have h2:=ih fun x hx=>hg x (by simp [hx])
   rw [List.flatten_cons,List.length_append,List.length_cons]
   omega
 have h1:=hs s.gs h.gs
 unfold cutEnd
 split
 .omega
 .rename_i h0
  have:1<=s.cur.length:=List.length_pos_iff.2 h0
  rw [List.flatten_append,List.flatten_singleton,List.length_append,List.length_append,List.length_singleton]
  omega
theorem cutG_two {l:List α} (hl:2<=least) (h:∀ x∈l,2 * len x<=room):2 * (cutG key len room least l).length<=l.length+1:=by
 have h1:=cutEnd_two (two_fold (key:=key) (len:=len) (room:=room) hl (s:=⟨[],[]⟩) (m:=[]) ⟨fun g hg=>(by cases hg)⟩ CutS.Ok.nil (fun y hy=>by cases hy) h)
 have h2:=(cutG_ok (key:=key) (len:=len) (room:=room) (least:=least) (l:=l) (fun x hx=>by have:=h x hx;omega)).1
 unfold cutG at h2 ⊢
 rw [h2] at h1
 exact h1
theorem cutG_ne {l:List α} (h:∀ x∈l,len x<=room) (hl:l≠[]):cutG key len room least l≠[]:=by
 intro h0
 have:=(cutG_ok (key:=key) (least:=least) h).1
 rw [h0] at this
 exact hl this.symm
end
theorem cutG_map {α β:Type} {key:α->Key} {len:α->Nat} {key':β->Key} {len':β->Nat} {room least:Nat} (f:β->α) (hk:∀ x,key (f x)=key' x) (hl:∀ x,len (f x)=len' x) (l:List β):cutG key len room least (l.map f)=(cutG key' len' room least l).map (List.map f):=by
 have hlen:∀ m:List β,lens len (m.map f)=lens len' m:=fun m=>by unfold lens;rw [List.map_map];congr 1;exact List.map_congr_left fun x _=>hl x
 let F:CutS β->CutS α:=fun s=>⟨s.gs.map (List.map f),s.cur.map f⟩
 have hfull:∀ (s:CutS β) (x:β),cutFull len room (F s) (f x)=F (cutFull len' room s x):=by
  intro s x
  unfold cutFull
  simp only [F,hlen,hl,List.length_map]
  split
  .simp
  .rfl
 have hstep:∀ (s:CutS β) (x:β),cutStep key len room least (F s) (f x)=F (cutStep key' len' room least s x):=by
  intro s x
  unfold cutStep
  simp only [hfull,hk]
  simp only [F,List.length_map]
  split
  .simp
  .simp
 have hfold:∀ (m:List β) (s:CutS β),(m.map f).foldl (cutStep key len room least) (F s)=F (m.foldl (cutStep key' len' room least) s):=by
  intro m
  induction m with
  | nil=>intro s;rfl
  | cons x m ih=>intro s;simp only [List.map_cons,List.foldl_cons,hstep,ih]
 unfold cutG
 have:=hfold l ⟨[],[]⟩
 simp only [F,List.map_nil] at this
 rw [this]
 unfold cutEnd
 simp only [List.map_eq_nil_iff]
 split
 .rfl
 .simp
end
def treeBlocks (c:Chip) (era:Nat):List Nat:=((refTaken c).filter (ofKind 2 era)).map Taken.block
def pointAt (c:Chip) (b k:Nat):Option Point :=
 if (getPage (c.page b k)).2.2≠0 then none
 else if (getPage (c.page b k)).1≠6 then none
 else if (getPoint (getPage (c.page b k)).2.1).2≠0 then none
 else some (getPoint (getPage (c.page b k)).2.1).1
def newerS (acc:Option (Point×Nat×Nat)) (x:Point×Nat×Nat):Option (Point×Nat×Nat) :=
 match acc with
 | none=>some x
 | some y=>if y.1.number > x.1.number then some y else some x
def spotsB (c:Chip) (b:Nat) (n:Nat):List (Point×Nat×Nat):=(List.range n).filterMap fun k=>if k=0 then none else (pointAt c b k).map fun p=>(p,b,k)
def newestS (c:Chip) (era:Nat):Option (Point×Nat×Nat):=((treeBlocks c era).flatMap fun b=>spotsB c b c.np).foldl newerS none
structure TreeS where
 pages:List Place
 facts:List Fact
 depth:Nat
def lastAhead (l:List Fact) (k:Key):Bool :=
 match l.getLast? with
 | some y=>before y.key k
 | none=>true
def leafT (t:TreeS) (l:List Fact×Nat) (d:Nat):Option (Key×TreeS) :=
 if l.2≠0 then none
 else if t.depth≠0/\t.depth≠d then none
 else match l.1 with
  | []=>none
  | x :: r=>if lastAhead t.facts x.key=false then none else some (x.key,{ t with facts:=t.facts ++ (x :: r),depth:=d })
def kidsS (down:TreeS->Place->Option (Key×TreeS)):List Child->TreeS->Option TreeS
 | [],t=>some t
 | x :: l,t=>match down t ⟨x.block,x.page⟩ with
  | some (k,t')=>if k=x.key then kidsS down l t' else none
  | none=>none
def downS (c:Chip) (bs:List Nat):Nat->TreeS->Place->Nat->Option (Key×TreeS)
 | 0,_,_,_=>none
 | f+1,t,p,d =>
  if 12<d\/p.page<=0\/p.block ∉ bs.map Int.ofNat\/p∈t.pages then none
  else if c.ask p.block p.page≠0 then none
  else
   let g:=getPage (c.page p.block.toNat p.page.toNat)
   if g.2.2≠0 then none
   else if g.1=4 then leafT { t with pages:=t.pages ++ [p] } (getLeaf g.2.1) d
   else if g.1=5 then
    if (getInner g.2.1).2≠0 then none
    else match (getInner g.2.1).1 with
     | []=>none
     | x :: r=>match kidsS (fun t p=>downS c bs f t p (d+1)) (x :: r) { t with pages:=t.pages ++ [p] } with
      | some t'=>some (x.key,t')
      | none=>none
   else none
def walkS (c:Chip) (bs:List Nat) (p:Point):Option TreeS :=
 if p.count=0 then some ⟨[],[],0⟩
 else match downS c bs 13 ⟨[],[],0⟩ ⟨p.block,p.page⟩ 1 with
  | some (_,t)=>if (t.facts.length:Int)=p.count then some t else none
  | none=>none
end Go.Den
namespace Go.Den
def costF (f:Fact):Nat:=if f.key.may then 2+(keyB f.key).length+f.val.length else 0
def roomOf (size:Int):Int:=(if isSize size=true then size - 5 else 0) - 1
def cutGo (room:Int) (i from_ used:Nat):List Fact->List Nat
 | []=>[]
 | f :: l=>if i=0\/room<((used+costF f:Nat):Int)\/i - from_=255 then i :: cutGo room (i+1) i (costF f) l else cutGo room (i+1) from_ (used+costF f) l
def cutsF (size:Int) (l:List Fact):List Nat×Nat :=
 if roomOf size<0 then ([],2)
 else if l.all mayF=false\/ordered l=false then ([],2)
 else if l.all (fun f=>decide ((costF f:Int)<=roomOf size))=false then ([],3)
 else (cutGo (roomOf size) 0 0 0 l,0)
def asChange (f:Fact):Change:=⟨f.key,f.val,false⟩
def pagesGo (size:Int) (l:List Fact):List Nat->List (List UInt8)->List (List UInt8)×Nat
 | [],acc=>(acc,0)
 | a :: at_,acc =>
  let p:=putL size (((l.take (match at_ with | []=>l.length | b :: _=>b)).drop a).map asChange)
  if p.2≠0 then ([],p.2) else pagesGo size l at_ (acc ++ [p.1])
def packF (size:Int) (l:List Fact):List (List UInt8)×Nat :=
 if (cutsF size l).2≠0 then ([],(cutsF size l).2) else pagesGo size l (cutsF size l).1 []
structure LogS where
 pool:Pool
 chip:Chip
 era:Nat
 facts:List Fact
 block:Int
 page:Nat
def ownL (era:Nat) (l:List Taken):List Taken:=l.filter fun t=>decide (t.head.kind=1) && decide (t.head.era=era)
namespace LogS
def take (s:LogS):LogS×Nat :=
 let r:=takePool s.pool s.chip 1 s.era
 if r.err=0 then ({ s with pool:=r.pool,chip:=r.chip,block:=r.block,page:=1 },0) else ({ s with pool:=r.pool,chip:=r.chip },r.err)
def write (b:List UInt8):Nat->LogS->LogS×Nat
 | 0,s=>(s,0)
 | n+1,s =>
  let t:=if s.block= -1\/s.page≥s.chip.np then s.take else (s,0)
  if t.2≠0 then t else
   let q:=t.1.chip.program t.1.block t.1.page b
   if q.2≠9 then ({ t.1 with chip:=q.1,page:=t.1.page+1 },q.2) else write b n { t.1 with chip:=q.1,page:=t.1.page+1,block:= -1 }
def fuel (s:LogS):Nat:=s.chip.hits.length+2
def writeAll:List (List UInt8)->LogS->LogS×Nat
 | [],s=>(s,0)
 | b :: l,s=>if (s.write b s.fuel).2≠0 then s.write b s.fuel else writeAll l (s.write b s.fuel).1
def freeAll (first:Nat):List Taken->LogS->LogS×Nat
 | [],s=>(s,0)
 | t :: l,s=>if t.head.seq≥first\/t.bad=true then freeAll first l s
  else
   let r:=freePool s.pool s.chip t.block
   if r.2.2≠0 then ({ s with pool:=r.1,chip:=r.2.1 },r.2.2) else freeAll first l { s with pool:=r.1,chip:=r.2.1 }
def anew (s:LogS):LogS×Nat :=
 let p:=packF s.chip.sz s.facts
 if p.2≠0 then (s,p.2) else
  let t:=s.take
  if t.2≠0 then t else
   let u:=writeAll (p.1 ++ [(putDropB s.chip.sz t.1.pool.last).1]) t.1
   if u.2≠0 then u else freeAll t.1.pool.last (ownL s.era (takenPool u.1.pool u.1.chip)) u.1
def low (s:LogS) (facts:Nat):Bool:=decide (blanksPool s.pool s.chip<(facts+2+(s.chip.np - 1) - 1) / (s.chip.np - 1)+2+s.chip.sp)
def put (s:LogS) (cs:List Change):LogS×Nat :=
 if s.chip.ask 0 0≠0 then (s,s.chip.ask 0 0) else
  let p:=putL s.chip.sz cs
  if p.2≠0 then (s,p.2) else
   let fs:=applyF s.facts cs
   let t:=if s.low fs.length then s.anew else (s,0)
   if t.2=10 then t else
    let u:=t.1.write p.1 t.1.fuel
    if u.2≠0 then u else ({ u.1 with facts:=fs },0)
end LogS
end Go.Den
namespace Go.Den
abbrev Point.vals (p:Point):List Value:=[.int .u64 (p.number:Nat),.int .i64 p.block,.int .i64 p.page,.int .i64 p.count]
abbrev pointV (p:Point):Value:=.agg #[.int .u64 (p.number:Nat),.int .i64 p.block,.int .i64 p.page,.int .i64 p.count]
theorem Point.may_iff (p:Point):p.may=true ↔ (1<=p.number/\0<=p.count/\p.count<=65535/\0<=p.block/\p.block<=255/\0<=p.page/\p.page<=255)/\(p.count=0->p.page=0/\p.block=0)/\(p.count≠0->p.page≠0):=by
 unfold Point.may
 by_cases h:p.count=0
 .simp [h,and_assoc]
 .simp [h,and_assoc]
theorem Point.may_no {p:Point} (h:¬ ((1<=p.number/\0<=p.count/\p.count<=65535/\0<=p.block/\p.block<=255/\0<=p.page/\p.page<=255)/\(p.count=0->p.page=0/\p.block=0)/\(p.count≠0->p.page≠0))):p.may=false:=by
 cases hm:p.may with
 | false=>rfl
 | true=>exact absurd (p.may_iff.1 hm) h
theorem br_both {c:Prop} [Decidable c] {A B C:Prop} (h1:c->A) (h2:¬ c->C):br (decide c) (br (decide c) A B) C:=by
 by_cases h:c
 .simp only [h,decide_true,br_true];exact h1 h
 .simp only [h,decide_false,br_false];exact h2 h
theorem point_may_spec (p:Point) (w:World):CallsR prog K.point_may #[pointV p] w fun v w'=>v= .bool p.may/\Ext w w':=by
 apply point_may.sh
 suffices H:∀ R:Value->World->Prop,(∀ v w',v= .bool p.may/\Ext w w'->R v w')->point_may.body (p.number:Nat) p.block p.page p.count w R from H _ fun _ _ h=>h
 intro R hR
 unfold point_may.body
 simp only [add_lit,Nat.zero_add]
 intro B1 w1 hn
 have g:=hn.get
 have he:=hn.upd
 have no:p.may=false->R (.bool false) w1:=fun h=>hR _ _ ⟨by rw [h],he⟩
 refine ⟨_,cell_of g rfl,br_both (fun h=>no (Point.may_no (by omega))) fun h1=>⟨_,cell_of g rfl,br_both (fun h=>no (Point.may_no (by omega))) fun h2=>⟨_,cell_of g rfl,br_both (fun h=>no (Point.may_no (by omega))) fun h3=>⟨_,cell_of g rfl,br_both (fun h=>no (Point.may_no (by omega))) fun h4=>⟨_,cell_of g rfl,br_both (fun h=>no (Point.may_no (by omega))) fun h5=>⟨_,cell_of g rfl,br_both (fun h=>no (Point.may_no (by omega))) fun h6=>⟨_,cell_of g rfl,br_both (fun h=>no (Point.may_no (by omega))) fun h7=>?_⟩⟩⟩⟩⟩⟩⟩
 refine ⟨_,cell_of g rfl,_,cell_of g rfl,?_⟩
 by_cases hp:p.page=0<;>by_cases hc:p.count=0
 .simp only [hp,hc,beq_self_eq_true,Bool.not_true,br_false]
  refine ⟨_,cell_of g rfl,br_dec (fun h=>absurd h (by omega)) fun _=>⟨_,_,_,_,cells_all g,_,cell_of g rfl,hR _ _ ⟨?_,he⟩⟩⟩
  congr 1
  by_cases hb:p.block=0
  .rw [(p.may_iff).2 (by omega)];simp [hb,hp,hc]
  .rw [Point.may_no (by omega)];simp [hb]
 .have e2:(p.count == 0)=false:=by simp [hc]
  simp only [hp,e2,beq_self_eq_true]
  exact no (Point.may_no (by omega))
 .have e2:(p.page == 0)=false:=by simp [hp]
  simp only [hc,e2,beq_self_eq_true]
  exact no (Point.may_no (by omega))
 .have e1:(p.page == 0)=false:=by simp [hp]
  have e2:(p.count == 0)=false:=by simp [hc]
  simp only [e1,e2,beq_self_eq_true,Bool.not_true,br_false]
  refine ⟨_,cell_of g rfl,br_dec (fun h=>hR _ _ ⟨by rw [(p.may_iff).2 (by omega)],he⟩) fun h=>absurd h (by omega)⟩
theorem point_Newer_spec (p q:Point) (w:World):CallsR prog K.point_Newer #[pointV p,pointV q] w fun v w'=>v= .bool (decide (p.number > q.number))/\Ext w w':=by
 apply point_Newer.sh
 unfold point_Newer.body
 intro B1 w1 hn1 B2 w2 hn2
 refine ⟨_,cell_of (hn2.upd.get hn1.get) rfl,_,cell_of hn2.get rfl,?_,hn1.upd.trans hn2.upd⟩
 simp
theorem carrackref17_May_spec (p:Point) (w:World):CallsR prog K.carrackref17_May #[pointV p] w fun v w'=>v= .bool p.may/\Ext w w':=by
 apply carrackref17_May.sh
 suffices H:∀ R:Value->World->Prop,(∀ v w',v= .bool p.may/\Ext w w'->R v w')->carrackref17_May.body (p.number:Nat) p.block p.page p.count w R from H _ fun _ _ h=>h
 intro R hR
 unfold carrackref17_May.body
 simp only [add_lit,Nat.zero_add]
 intro B1 w1 hn
 have g:=hn.get
 have he:=hn.upd
 have no:p.may=false->R (.bool false) w1:=fun h=>hR _ _ ⟨by rw [h],he⟩
 refine ⟨fun u=>u=w1/\(1<=p.number/\0<=p.count/\p.count<=65535/\0<=p.block/\p.block<=255/\0<=p.page/\p.page<=255),?_,?_⟩
 .refine ⟨_,cell_of g rfl,br_dec (fun h=>no (Point.may_no (by omega))) fun h1=>⟨_,cell_of g rfl,br_dec (fun h=>no (Point.may_no (by omega))) fun h2=>⟨_,cell_of g rfl,br_dec (fun h=>no (Point.may_no (by omega))) fun h3=>⟨_,cell_of g rfl,br_dec (fun h=>no (Point.may_no (by omega))) fun h4=>⟨_,cell_of g rfl,br_dec (fun h=>no (Point.may_no (by omega))) fun h5=>⟨_,cell_of g rfl,br_dec (fun h=>no (Point.may_no (by omega))) fun h6=>⟨_,cell_of g rfl,br_dec (fun h=>no (Point.may_no (by omega))) fun h7=>⟨rfl,by omega⟩⟩⟩⟩⟩⟩⟩⟩
 .rintro _ ⟨rfl,hin⟩
  refine ⟨_,cell_of g rfl,br_eq (fun hc=>⟨_,cell_of g rfl,br_eq (fun hp=>⟨_,cell_of g rfl,hR _ _ ⟨?_,he⟩⟩) fun hp=>no (Point.may_no (by omega))⟩) fun hc=>⟨_,cell_of g rfl,hR _ _ ⟨?_,he⟩⟩⟩
  .congr 1
   by_cases hb:p.block=0
   .rw [(p.may_iff).2 (by omega)];simp [hb]
   .rw [Point.may_no (by omega)];simp [hb]
  .congr 1
   by_cases hp:p.page=0
   .rw [Point.may_no (by omega)];simp [hp]
   .rw [(p.may_iff).2 (by omega)];simp [hp]
def psz:Nat->Nat
 | 0=>8
 | 3=>2
 | _=>1
def ptk (b:List UInt8):Nat->Nat×Nat×St
 | 0=>takeS 8 (some b)
 | j+1=>takeS (psz (j+1)) (ptk b j).2.2
def pst (b:List UInt8):Nat->St
 | 0=>some b
 | j+1=>(ptk b j).2.2
theorem ptk_eq (b:List UInt8) (j:Nat):ptk b j=takeS (psz j) (pst b j):=by cases j<;>rfl
def pvs (b:List UInt8) (i:Nat):List Value:=(List.range 4).map fun j=>.int .u64 ((if j<i then (ptk b j).1 else 0:Nat):Nat)
theorem ptk_all {b:List UInt8} (h:12<=b.length):∃ a0 a1 a2 a3 a4 a5 a6 a7 x y z u t,b=a0 :: a1 :: a2 :: a3 :: a4 :: a5 :: a6 :: a7 :: x :: y :: z :: u :: t:=by
 match b,h with
 | a0 :: a1 :: a2 :: a3 :: a4 :: a5 :: a6 :: a7 :: x :: y :: z :: u :: t,_=>exact ⟨_,_,_,_,_,_,_,_,_,_,_,_,_,rfl⟩
theorem takeS_big {k:Nat} {l:List UInt8} (h:k<=l.length):takeS k (some l)=(fromLE (l.take k),0,some (l.drop k)):=by
 unfold takeS
 simp only []
 rw [if_neg (by omega)]
theorem ptk_good {b:List UInt8} (h:12<=b.length):ptk b 0=(fromLE (b.take 8),0,some (b.drop 8))/\ptk b 1=((b.getD 8 0).toNat,0,some (b.drop 9))/\ptk b 2=((b.getD 9 0).toNat,0,some (b.drop 10))/\ptk b 3=((b.getD 10 0).toNat+256 * (b.getD 11 0).toNat,0,some (b.drop 12)):=by
 obtain ⟨a0,a1,a2,a3,a4,a5,a6,a7,x,y,z,u,t,rfl⟩:=ptk_all h
 have h0:ptk (a0 :: a1 :: a2 :: a3 :: a4 :: a5 :: a6 :: a7 :: x :: y :: z :: u :: t) 0=(fromLE [a0,a1,a2,a3,a4,a5,a6,a7],0,some (x :: y :: z :: u :: t)):=takeS_big (k:=8) (by simp only [List.length_cons];omega)
 have h1:ptk (a0 :: a1 :: a2 :: a3 :: a4 :: a5 :: a6 :: a7 :: x :: y :: z :: u :: t) 1=(fromLE [x],0,some (y :: z :: u :: t)):=by
  show takeS 1 (ptk _ 0).2.2=_
  rw [h0];exact takeS_big (k:=1) (by simp only [List.length_cons];omega)
 have h2:ptk (a0 :: a1 :: a2 :: a3 :: a4 :: a5 :: a6 :: a7 :: x :: y :: z :: u :: t) 2=(fromLE [y],0,some (z :: u :: t)):=by
  show takeS 1 (ptk _ 1).2.2=_
  rw [h1];exact takeS_big (k:=1) (by simp only [List.length_cons];omega)
 have h3:ptk (a0 :: a1 :: a2 :: a3 :: a4 :: a5 :: a6 :: a7 :: x :: y :: z :: u :: t) 3=(fromLE [z,u],0,some t):=by
  show takeS 2 (ptk _ 2).2.2=_
  rw [h2];exact takeS_big (k:=2) (by simp only [List.length_cons];omega)
 refine ⟨h0,h1.trans ?_,h2.trans ?_,h3.trans ?_⟩<;>simp [fromLE]
theorem takeS_ok {k:Nat} {s:St} (h:(takeS k s).2.1=0):∃ l,s=some l/\k<=l.length/\(takeS k s).2.2=some (l.drop k):=by
 rcases takeS_cases k s with h' | ⟨l,h1,h2,h3⟩
 .rw [h'] at h;cases h
 .exact ⟨l,h1,h2,by rw [h3]⟩
theorem ptk_len {b:List UInt8} (h:∀ j,j<4->(ptk b j).2.1=0):12<=b.length:=by
 obtain ⟨l,h1,h2,h3⟩:=takeS_ok (k:=8) (s:=some b) (h 0 (by decide))
 cases h1
 obtain ⟨l,k1,k2,k3⟩:=takeS_ok (k:=1) (s:=(ptk b 0).2.2) (h 1 (by decide))
 have e1:some l=some (b.drop 8):=k1.symm.trans h3
 cases e1
 obtain ⟨l,m1,m2,m3⟩:=takeS_ok (k:=1) (s:=(ptk b 1).2.2) (h 2 (by decide))
 have e2:some l=some ((b.drop 8).drop 1):=m1.symm.trans k3
 cases e2
 obtain ⟨l,n1,n2,n3⟩:=takeS_ok (k:=2) (s:=(ptk b 2).2.2) (h 3 (by decide))
 have e3:some l=some (((b.drop 8).drop 1).drop 1):=n1.symm.trans m3
 cases e3
 simp only [List.length_drop] at k2 m2 n2
 omega
theorem pt_short {b:List UInt8} {j:Nat} (hj:j<4) (h:(ptk b j).2.1≠0):getPoint b=(Point.zero,4):=by
 unfold getPoint
 rw [if_pos]
 apply Nat.lt_of_not_le
 intro h12
 obtain ⟨q0,q1,q2,q3⟩:=ptk_good h12
 apply h
 match j,hj with
 | 0,_=>rw [q0]
 | 1,_=>rw [q1]
 | 2,_=>rw [q2]
 | 3,_=>rw [q3]
def pointB (b:List UInt8):Point:=⟨fromLE (b.take 8),(b.getD 8 0).toNat,(b.getD 9 0).toNat,(b.getD 10 0).toNat+256 * (b.getD 11 0).toNat⟩
theorem pt_long {b:List UInt8} (h:12<=b.length):getPoint b=if (pointB b).may=true/\b.length=12 then (pointB b,0) else (Point.zero,5):=by
 unfold getPoint
 rw [if_neg (by omega)]
 rfl
theorem pt_out {u:World} {B:Nat} {p:Point} {cs:Array Value} {e:Int} {R:Value->World->Prop} (g:u.heap[B]?=some (.cells cs T.api_Point (0,0))) (hcs:cs.size=4) (hR:∀ u',Upd (·=B) u u'->R (.tuple #[pointV p,.int .i64 e]) u') :
  storeP u ⟨B,0,none⟩ p.vals fun w6=>∃ x4 x5:Int,∃ x6 x7:Int,cellsAt w6 ⟨B,0,none⟩ [.int .u64 x4,.int .i64 x5,.int .i64 x6,.int .i64 x7] 0/\R (.tuple #[.agg #[.int .u64 x4,.int .i64 x5,.int .i64 x6,.int .i64 x7],.int .i64 e]) w6 :=
 put_all g (by rw [hcs];rfl) fun w' hu hs g'=>⟨_,_,_,_,cells_all g',hR _ hu⟩
theorem point_Get_spec {w:World} {a:Option Addr} {b:List UInt8} {c:Nat} (hb:BytesAt w a b) (hn:b.length<=281474976710656) :
  CallsR prog K.point_Get #[.slice a b.length c] w fun v w'=>v= .tuple #[pointV (getPoint b).1,.int .i64 ((getPoint b).2:Nat)]/\Ext w w':=by
 apply point_Get.sh
 suffices H:∀ R:Value->World->Prop,(∀ v w',v= .tuple #[pointV (getPoint b).1,.int .i64 ((getPoint b).2:Nat)]/\Ext w w'->R v w')->point_Get.body a b.length c w R from H _ fun _ _ h=>h
 intro R hR
 unfold point_Get.body
 intro B1 w1 hn1
 have hB1:=hn1.num
 have hs1:=hn1.size
 have g1:w1.heap[B1]?=some (.cells (Point.vals Point.zero).toArray T.api_Point (0,0)):=hn1.get
 refine (ends_New_in a b c w1 (hb.ext hn1.upd) hn).mono ?_
 rintro _ w2 ⟨r,rfl,hr1,hrd,he2⟩
 have hG:¬ (fun x=>w1.heap.size<=x/\x<r) r:=by simp
 have e2:=hn1.upd.trans he2
 refine ⟨_,rfl,fun B2 w3 hn3=>?_⟩
 have hB2:=hn3.num
 have hs3:=hn3.size
 have e3:=e2.trans hn3.upd
 have hrd0:RdIn (fun x=>w1.heap.size<=x/\x<r) w2 r (pst b 0):=hrd
 have hrlt:r<w2.heap.size:=by
  obtain ⟨_,_,h1,_⟩:=ReaderIn.at_ hrd
  exact (Array.getElem?_eq_some_iff.1 h1).1
 let J:Int->World->Prop:=fun x u=>∃ i:Nat,x=i/\i<=4/\u.heap[B2]?=some (.cells (pvs b i).toArray T.A4uint64 (0,0))/\RdIn (fun x=>w1.heap.size<=x/\x<r) u r (pst b i)/\Ext w u/\u.heap[B1]?=some (.cells (Point.vals Point.zero).toArray T.api_Point (0,0))/\w3.heap.size<=u.heap.size/\∀ j,j<i->(ptk b j).2.1=0
 have step:∀ (j:Nat) (k:Int) (u:World),j<4->k=psz j->J j u->CallsR prog K.ends_Reader_Take #[.pointer (some ⟨r,0,none⟩),.int .i64 k] u fun v2 w5=>∃ x2 x3:Int,v2= .tuple #[.int .u64 x2,.int .i64 x3]/\
   br (x3 != 0) (storeP w5 ⟨B1,0,none⟩ [.int .u64 0,.int .i64 0,.int .i64 0,.int .i64 0] fun w6=>∃ x4 x5:Int,∃ x6 x7:Int,cellsAt w6 ⟨B1,0,none⟩ [.int .u64 x4,.int .i64 x5,.int .i64 x6,.int .i64 x7] 0/\R (.tuple #[.agg #[.int .u64 x4,.int .i64 x5,.int .i64 x6,.int .i64 x7],.int .i64 x3]) w6)
    (0<=(j:Int)/\(j:Int)<4/\storeP w5 (Addr.add ⟨B2,0,none⟩ (Int.toNat j * 1)) [.int .u64 x2] fun w7=>J (i64.wrap ((j:Int)+1)) w7/\(4 - i64.wrap ((j:Int)+1)).toNat<(4 - (j:Int)).toNat):=by
  rintro j k u hj rfl ⟨i,hi,hi4,gv,hrd,heu,gz,hsz,hok⟩
  obtain rfl:j=i:=by omega
  have hk:isSz (psz j)=true:=by
   match j,hj with
   | 0,_=>rfl
   | 1,_=>rfl
   | 2,_=>rfl
   | 3,_=>rfl
  refine (rdTake (k:=psz j) hk hG hrd).mono ?_
  rintro _ W5 ⟨hu5,rfl,hr5⟩
  rw [<- ptk_eq] at hr5 ⊢
  have e5:Ext w W5:=heu.beyond hu5 fun x hx=>by omega
  have g5:=hu5.get gz (by omega)
  have gv5:=hu5.get gv (by omega)
  have hs5:=hu5.size
  refine ⟨_,_,rfl,br_ne (fun hne=>?_) fun he=>⟨by omega,by omega,?_⟩⟩
  .have hg:=pt_short hj (b:=b) (by omega)
   have e4:(ptk b j).2.1=4:=by
    rw [ptk_eq] at hne ⊢
    rw [takeS_err (by omega)]
   rw [hg] at hR
   rw [e4]
   exact pt_out (p:=Point.zero) g5 rfl fun u' hu=>hR _ _ ⟨rfl,e5.beyond hu fun x hx=>by omega⟩
  .simp only [add_lit,Nat.zero_add,Nat.mul_one,Int.toNat_natCast]
   have hvl:∀ i,(pvs b i).length=4:=fun i=>by simp [pvs]
   refine store_of gv5 (by simp [hvl];omega) fun W7 hput=>?_
   have ew:i64.wrap ((j:Int)+1)=((j+1:Nat):Int):=w64 (by omega) (by omega)
   rw [ew]
   have e7:Ext w W7:=e5.beyond hput.upd1 fun x hx=>by omega
   refine ⟨⟨j+1,rfl,by omega,?_,?_,e7,hput.upd1.get g5 (by omega),by have:=hput.size;omega,fun i hi=>?_⟩,by omega⟩
   .rw [hput.get]
    congr 1
    have hsp:splice (pvs b j).toArray j [.int .u64 ((ptk b j).1:Nat)]=(pvs b (j+1)).toArray:=by
     rw [splice_one _ _ _ (by simp [hvl];omega)]
     match j,hj with
     | 0,_=>rfl
     | 1,_=>rfl
     | 2,_=>rfl
     | 3,_=>rfl
    rw [hsp]
   .exact hr5.upd hput.upd1 (by omega) fun x hx=>by omega
   .by_cases h:i<j
    .exact hok i h
    .obtain rfl:i=j:=by omega
     omega
 refine ⟨J,fun x _=>(4 - x).toNat,⟨0,rfl,by omega,hn3.get,hrd0.ext hn3.upd,e3,(Ext.get hn3.upd (Ext.get he2 g1)),Nat.le_refl _,fun j h=>by omega⟩,?_⟩
 rintro x u hJ
 have hJ':=hJ
 obtain ⟨i,rfl,hi4,gv,hrd,heu,gz,hsz,hok⟩:=hJ'
 refine br_dec (fun hlt=>?_) fun hge=>?_
 .have hk:∀ (n:Nat) (k:Int),(i:Int)=(n:Nat)->k=psz n->k=psz i:=fun n k h hk=>by
   have:i=n:=by omega
   rw [this];exact hk
  refine ⟨by omega,hlt,⟨⟨⟨trivial,fun h=>?_⟩,fun h=>?_⟩,fun h=>?_⟩,fun h=>?_⟩
  .exact step i _ u (by omega) (hk 0 8 h rfl) hJ
  .exact step i _ u (by omega) (hk 1 1 h rfl) hJ
  .exact step i _ u (by omega) (hk 2 1 h rfl) hJ
  .exact step i _ u (by omega) (hk 3 2 h rfl) hJ
 .obtain rfl:i=4:=by omega
  have hlen:=ptk_len hok
  obtain ⟨q0,q1,q2,q3⟩:=ptk_good hlen
  have hlong:=pt_long hlen
  have v0:(pvs b 4)=[.int .u64 ((fromLE (b.take 8):Nat)),.int .u64 (((b.getD 8 0).toNat:Nat)),.int .u64 (((b.getD 9 0).toNat:Nat)),.int .u64 (((b.getD 10 0).toNat+256 * (b.getD 11 0).toNat:Nat))]:=by
   show [Value.int .u64 ((ptk b 0).1:Nat),.int .u64 ((ptk b 1).1:Nat),.int .u64 ((ptk b 2).1:Nat),.int .u64 ((ptk b 3).1:Nat)]=_
   rw [q0,q1,q2,q3]
  rw [v0] at gv
  have h8:=(b.getD 8 0).toNat_lt
  have h9:=(b.getD 9 0).toNat_lt
  have h10:=(b.getD 10 0).toNat_lt
  have h11:=(b.getD 11 0).toNat_lt
  simp only [add_lit,Nat.zero_add,Nat.mul_one,tn0,tn1,tn2,tn3]
  refine ⟨by decide,by decide,_,cell_of gv rfl,by decide,by decide,_,cell_of gv rfl,by decide,by decide,_,cell_of gv rfl,by decide,by decide,_,cell_of gv rfl,?_⟩
  rw [w64n (by omega),w64n (by omega),w64n (by omega)]
  have hvals:([.int .u64 ((fromLE (b.take 8):Nat)),.int .i64 (((b.getD 8 0).toNat:Nat)),.int .i64 (((b.getD 9 0).toNat:Nat)),.int .i64 (((b.getD 10 0).toNat+256 * (b.getD 11 0).toNat:Nat))]:List Value)=(pointB b).vals:=by simp [pointB,Point.vals]
  rw [hvals]
  refine new_put (vs:=(pointB b).vals) rfl fun B3 w8 hb3 hs8 he8 g8=>⟨_,_,_,_,cells_all g8,(point_may_spec (pointB b) w8).mono ?_⟩
  rintro _ w9 ⟨rfl,he9⟩
  have e9:=(heu.trans he8).trans he9
  have g9:=Ext.get he9 (Ext.get he8 gz)
  have hr9:=(hrd.ext he8).ext he9
  have bad:∀ {u9:World},u9=w9->(¬ ((pointB b).may=true/\b.length=12))->storeP u9 ⟨B1,0,none⟩ [.int .u64 0,.int .i64 0,.int .i64 0,.int .i64 0] fun w6=>∃ x4 x5:Int,∃ x6 x7:Int,cellsAt w6 ⟨B1,0,none⟩ [.int .u64 x4,.int .i64 x5,.int .i64 x6,.int .i64 x7] 0/\R (.tuple #[.agg #[.int .u64 x4,.int .i64 x5,.int .i64 x6,.int .i64 x7],.int .i64 5]) w6:=by
   rintro _ rfl hno
   rw [hlong,if_neg hno] at hR
   exact pt_out (p:=Point.zero) g9 rfl fun u' hu=>hR _ _ ⟨rfl,e9.beyond hu fun x hx=>by omega⟩
  refine ⟨_,rfl,?_⟩
  by_cases hm:(pointB b).may=true
  .rw [hm]
   simp only [Bool.not_true,br_false]
   refine (rdLeft hr9).mono ?_
   rintro _ _ ⟨rfl,rfl⟩
   have hl4:pst b 4=some (b.drop 12):=by show (ptk b 3).2.2=_;rw [q3]
   rw [hl4]
   refine ⟨_,rfl,br_dec (fun hl=>bad rfl fun h=>?_) fun hl=>?_⟩
   .simp only [leftS,List.length_drop] at hl
    omega
   .simp only [leftS,List.length_drop] at hl
    rw [hlong,if_pos ⟨hm,by omega⟩] at hR
    exact ⟨_,_,_,_,cells_all (Ext.get he9 g8),pt_out (p:=pointB b) g9 rfl fun u' hu=>hR _ _ ⟨rfl,e9.beyond hu fun x hx=>by omega⟩⟩
  .rw [Bool.not_eq_true] at hm
   rw [hm]
   simp only [Bool.not_false,br_true]
   exact bad rfl (by rw [hm];simp)
theorem carrackref17_Get_spec {w:World} {a:Option Addr} {b:List UInt8} {c:Nat} (hb:BytesAt w a b) (hn:b.length<=1000000000000) (hc:b.length<=c) :
  CallsR prog K.carrackref17_Get #[.slice a b.length c] w fun v w'=>v= .tuple #[pointV (getPoint b).1,.int .i64 ((getPoint b).2:Nat)]/\Ext w w':=by
 apply carrackref17_Get.sh
 suffices H:∀ R:Value->World->Prop,(∀ v w',v= .tuple #[pointV (getPoint b).1,.int .i64 ((getPoint b).2:Nat)]/\Ext w w'->R v w')->carrackref17_Get.body a b.length c w R from H _ fun _ _ h=>h
 intro R hR
 unfold carrackref17_Get.body
 intro B1 w1 hn1
 have hB1:=hn1.num
 have hs1:=hn1.size
 have g1:w1.heap[B1]?=some (.cells (Point.vals Point.zero).toArray T.api_Point (0,0)):=hn1.get
 refine br_dec (fun hlt=>?_) fun hge B2 w3 hn3=>?_
 .have hg:getPoint b=(Point.zero,4):=by unfold getPoint;rw [if_pos (by omega)]
  rw [hg] at hR
  exact pt_out (p:=Point.zero) g1 rfl fun u' hu=>hR _ _ ⟨rfl,hn1.upd.beyond hu fun x hx=>by omega⟩
 .have hlen:12<=b.length:=by omega
  have hlong:=pt_long hlen
  have hB2:=hn3.num
  have hs3:=hn3.size
  have e3:=hn1.upd.trans hn3.upd
  have hb3:=hb.ext e3
  have hG:¬ (fun x=>x≠B2) B2:=by simp
  have hrd:RRdIn (fun x=>x≠B2) w3 B2 (some b):=⟨⟨a,c,hn3.get,hb3,hc,fun p hp=>by
   obtain ⟨b',o,hab,hltb⟩:=RowAt.blk hb (by intro h;have:=congrArg List.length h;simp at this;rw [this] at hlen;simp at hlen)
   rw [hab] at hp;cases hp
   show b'≠B2
   omega⟩,by omega⟩
  refine (rrdTake (G:=fun x=>x≠B2) (k:=8) (by decide) hG hrd).mono ?_
  rintro _ w4 ⟨hu4,rfl,hr4⟩
  have ht:=(ptk_good hlen).1
  have ht':takeS 8 (some b)=(fromLE (b.take 8),0,some (b.drop 8)):=ht
  rw [ht']
  have hs4:=hu4.size
  have e4:Ext w w4:=e3.beyond hu4 fun x hx=>by omega
  refine ⟨_,_,rfl,fun w5 hd5=>?_⟩
  have e5:=e4.trans hd5.upd
  have hs5:=hd5.upd.size
  have g5:=Ext.get hd5.upd (hu4.get (Ext.get hn3.upd g1) (by omega))
  have hb5:BytesAt w5 a b:=hb.ext e5
  refine ⟨fun u=>Ext w5 u,Upd.refl _ _,idx_byteS (S:=fun u=>Ext w5 u) (fun u hu=>hb5.ext hu) ⟨_,Upd.refl _ _⟩ (by decide) (by omega) (idx_byteS (S:=fun u=>Ext w5 u) (fun u hu=>hb5.ext hu) ⟨_,Upd.refl _ _⟩ (by decide) (by omega) (idx_byteS (S:=fun u=>Ext w5 u) (fun u hu=>hb5.ext hu) ⟨_,Upd.refl _ _⟩ (by decide) (by omega) (idx_byteS (S:=fun u=>Ext w5 u) (fun u hu=>hb5.ext hu) ⟨_,Upd.refl _ _⟩ (by decide) (by omega) fun B3 W6 hn6=>⟨hn6.upd,?_⟩)))⟩
  have h8:=(b.getD 8 0).toNat_lt
  have h9:=(b.getD 9 0).toNat_lt
  have h10:=(b.getD 10 0).toNat_lt
  have h11:=(b.getD 11 0).toNat_lt
  have t8:Int.toNat 8=8:=rfl
  have t9:Int.toNat 9=9:=rfl
  have t10:Int.toNat 10=10:=rfl
  have t11:Int.toNat 11=11:=rfl
  simp only [t8,t9,t10,t11]
  have ec:i64.wrap (i64.wrap ((b.getD 10 0).toNat:Int)+i64.wrap (256 * i64.wrap ((b.getD 11 0).toNat:Int)))=(((b.getD 10 0).toNat+256 * (b.getD 11 0).toNat:Nat):Int):=by
   rw [w64n (m:=(b.getD 10 0).toNat) (by omega),w64n (m:=(b.getD 11 0).toNat) (by omega),w64 (x:=256 * ((b.getD 11 0).toNat:Int)) (by omega) (by omega),w64 (by omega) (by omega)]
   omega
  rw [ec,w64n (by omega),w64n (by omega)]
  have hvals:([.int .u64 ((fromLE (b.take 8):Nat)),.int .i64 (((b.getD 8 0).toNat:Nat)),.int .i64 (((b.getD 9 0).toNat:Nat)),.int .i64 (((b.getD 10 0).toNat+256 * (b.getD 11 0).toNat:Nat))]:List Value)=(pointB b).vals:=by simp [pointB,Point.vals]
  rw [hvals]
  have hB3:=hn6.num
  have hs6:=hn6.size
  have g6:=Ext.get hn6.upd g5
  refine put_all (vs:=(pointB b).vals) hn6.get rfl fun w7 hu7 hs7 g7=>⟨_,_,_,_,cells_all g7,(carrackref17_May_spec (pointB b) w7).mono ?_⟩
  rintro _ w9 ⟨rfl,he9⟩
  have e9:Ext w w9:=((e5.trans hn6.upd).beyond hu7 fun x hx=>by omega).trans he9
  have g9:=Ext.get he9 (hu7.get g6 (by omega))
  have bad:(¬ ((pointB b).may=true/\b.length=12))->storeP w9 ⟨B1,0,none⟩ [.int .u64 0,.int .i64 0,.int .i64 0,.int .i64 0] fun w6=>∃ x4 x5:Int,∃ x6 x7:Int,cellsAt w6 ⟨B1,0,none⟩ [.int .u64 x4,.int .i64 x5,.int .i64 x6,.int .i64 x7] 0/\R (.tuple #[.agg #[.int .u64 x4,.int .i64 x5,.int .i64 x6,.int .i64 x7],.int .i64 5]) w6:=by
   intro hno
   rw [hlong,if_neg hno] at hR
   exact pt_out (p:=Point.zero) g9 rfl fun u' hu=>hR _ _ ⟨rfl,e9.beyond hu fun x hx=>by omega⟩
  refine ⟨_,rfl,?_⟩
  by_cases hm:(pointB b).may=true
  .rw [hm]
   simp only [Bool.not_true,br_false]
   refine br_dec (fun hl=>bad fun h=>?_) fun hl=>?_
   .omega
   .rw [hlong,if_pos ⟨hm,by omega⟩] at hR
    exact ⟨_,_,_,_,cells_all (Ext.get he9 g7),pt_out (p:=pointB b) g9 rfl fun u' hu=>hR _ _ ⟨rfl,e9.beyond hu fun x hx=>by omega⟩⟩
  .rw [Bool.not_eq_true] at hm
   rw [hm]
   simp only [Bool.not_false,br_true]
   exact bad (by rw [hm];simp)
def Point.body (p:Point):List UInt8:=leB p.number 8 ++ [UInt8.ofNat p.block.toNat,UInt8.ofNat p.page.toNat,UInt8.ofNat (p.count.toNat % 256),UInt8.ofNat (p.count.toNat / 256)]
def putPoint (size:Int) (p:Point):List UInt8×Nat:=if p.may then putPage size 6 p.body else ([],2)
end Go.Den
section
namespace Go.Den
section
variable {σ:Type} (put:σ->List UInt8->σ×Place×Nat)
def noPlace:Place:=⟨0,0⟩
def putAll:List (Key×List UInt8)->σ->List Child->σ×List Child×Nat
 | [],s,acc=>(s,acc,0)
 | x :: l,s,acc =>
  if (put s x.2).2.2≠0 then ((put s x.2).1,[],(put s x.2).2.2)
  else putAll l (put s x.2).1 (acc ++ [⟨x.1,(put s x.2).2.1.block,(put s x.2).2.1.page⟩])
def roomT (sz:Nat):Nat:=sz - 6
def leavesG (sz:Nat) (l:List Fact):List (List Fact):=cutG Fact.key leafLen (roomT sz) 1 l
def innerG (sz:Nat) (l:List Child):List (List Child):=cutG Child.key (fun x=>innerLen x.key) (roomT sz) 2 l
def firstF (g:List Fact):Key:=(g.head?.map Fact.key).getD Key.zero
def firstC (g:List Child):Key:=(g.head?.map Child.key).getD Key.zero
def leafPages (sz:Nat) (l:List Fact):List (Key×List UInt8):=(leavesG sz l).map fun g=>(firstF g,(putLeaf sz g).1)
def innerPages (sz:Nat) (l:List Child):List (Key×List UInt8):=(innerG sz l).map fun g=>(firstC g,(putInner sz g).1)
def layUp (sz:Nat):Nat->σ->List Child->σ×Place×Nat
 | 0,s,l=>(s,noPlace,0)
 | n+1,s,l =>
  if l.length<=1 then (s,((l.head?.map fun x=>(⟨x.block,x.page⟩: Place)).getD noPlace),0)
  else
   let r:=putAll put (innerPages sz l) s []
   if r.2.2≠0 then (r.1,noPlace,r.2.2) else layUp sz n r.1 r.2.1
def layS (sz:Nat) (s:σ) (l:List Fact):σ×Place×Nat :=
 if l=[] then (s,noPlace,0)
 else
  let r:=putAll put (leafPages sz l) s []
  if r.2.2≠0 then (r.1,noPlace,r.2.2) else layUp put sz (r.2.1.length+1) r.1 r.2.1
end
abbrev PageMap:=List (List UInt8×Place)
def getM (m:PageMap) (b:List UInt8):Option Place:=(m.find? fun x=>decide (x.1=b)).map fun x=>x.2
def setM (m:PageMap) (b:List UInt8) (p:Place):PageMap:=if m.any fun x=>decide (x.1=b) then m.map fun x=>if x.1=b then (b,p) else x else m ++ [(b,p)]
structure StemS where
 pool:Pool
 chip:Chip
 era:Nat
 facts:List Fact
 synced:List Fact
 pages:PageMap
 point:Place
 number:Nat
 block:Int
 page:Nat
namespace StemS
def own (s:StemS):List Taken:=(takenPool s.pool s.chip).filter (ofKind 2 s.era)
def good (s:StemS):List Nat:=(s.own.filter fun t=> !t.bad).map Taken.block
def take (s:StemS):StemS×Nat :=
 let r:=takePool s.pool s.chip 2 s.era
 if r.err=0 then ({ s with pool:=r.pool,chip:=r.chip,block:=r.block,page:=1 },0) else ({ s with pool:=r.pool,chip:=r.chip },r.err)
def begun (s:StemS):StemS×Nat:=if s.block<0\/s.page≥s.chip.np then s.take else (s,0)
def tried (s:StemS) (b:List UInt8):StemS:={ s with chip:=(s.chip.program s.block (s.page:Nat) b).1,page:=s.page+1 }
def write (b:List UInt8):Nat->StemS->StemS×Place×Nat
 | 0,s=>(s,noPlace,0)
 | n+1,s =>
  if s.begun.2≠0 then (s.begun.1,noPlace,s.begun.2)
  else if (s.begun.1.chip.program s.begun.1.block (s.begun.1.page:Nat) b).2=0 then (s.begun.1.tried b,⟨s.begun.1.block,s.begun.1.page⟩,0)
  else if (s.begun.1.chip.program s.begun.1.block (s.begun.1.page:Nat) b).2=10 then (s.begun.1.tried b,noPlace,10)
  else write b n { s.begun.1.tried b with block:= -1 }
def fuel (s:StemS):Nat:=s.chip.hits.length+2
def ended (s:StemS) (top:Place) (count:Nat):StemS×Nat :=
 let u:StemS:={ s with number:=s.number+1 }
 let p:=putPoint s.chip.sz ⟨s.number+1,top.block,top.page,count⟩
 if p.2≠0 then (u,p.2) else
  let r:=u.write p.1 u.fuel
  if r.2.2=0 then ({ r.1 with point:=r.2.1 },0) else (r.1,r.2.2)
def placed (anew:Bool) (x:StemS×PageMap) (b:List UInt8):(StemS×PageMap)×Place×Nat :=
 match getM x.2 b with
 | some p=>((x.1,setM x.2 b p),p,0)
 | none=>match if anew then none else getM x.1.pages b with
  | some p=>((x.1,setM x.2 b p),p,0)
  | none =>
   let r:=x.1.write b x.1.fuel
   if r.2.2≠0 then ((r.1,x.2),noPlace,r.2.2) else ((r.1,setM x.2 b r.2.1),r.2.1,0)
def store (s:StemS) (l:List Fact) (anew:Bool):StemS×Nat :=
 let u:StemS:=if anew then { s with block:= -1 } else s
 let r:=layS (placed anew) s.chip.sz (u,[]) l
 if r.2.2≠0 then (r.1.1,r.2.2) else
  let e:=r.1.1.ended r.2.1 l.length
  if e.2≠0 then e else ({ e.1 with pages:=r.1.2,synced:=l },0)
def lacks (pages:PageMap) (n:Nat) (b:List UInt8):Nat×Place×Nat :=
 match getM pages b with
 | some p=>(n,p,0)
 | none=>(n+1,⟨255 - ((n+1) / 255:Nat),((n+1) % 255:Nat)⟩,0)
def missing (s:StemS) (l:List Fact):Nat:=(layS (lacks s.pages) s.chip.sz 0 l).1
end StemS
def capC (c:Chip):Nat:=(((c.nb:Int) - 2 * c.sp - 4) * ((c.np:Int) - 1) - 8).toNat / 8
def mayRoom (c:Chip):Bool:=decide (4<=capC c)
def wantC (c:Chip) (facts:Nat):Nat:=if mayRoom c then (8 * min facts 1048576+8+(c.np - 1) - 1) / (c.np - 1)+4+c.sp else 0
def mostGo (c:Chip) (have_:Nat):Nat->Nat->Nat
 | 0,m=>m
 | n+1,m=>if 0<wantC c (m+1)/\wantC c (m+1)<=have_ then mostGo c have_ n (m+1) else m
def ceilN (a b:Nat):Nat:=(a+b - 1) / b
namespace StemS
def reserve (s:StemS):Nat:=ceilN (3 * mostGo s.chip (s.good.length+blanksPool s.pool s.chip) 1048576 0+4) (s.chip.np - 1)+2+s.chip.sp
def put (s:StemS) (cs:List Change):StemS×Nat :=
 if s.chip.ask 0 0≠0 then (s,s.chip.ask 0 0)
 else if (putL s.chip.sz cs).2≠0 then (s,(putL s.chip.sz cs).2)
 else ({ s with facts:=applyF s.facts cs },0)
def more (s:StemS):Nat:=ceilN (s.missing s.facts+1 - (if s.block<0 then 0 else s.chip.np - s.page)) (s.chip.np - 1)
def scarce (s:StemS):Bool:=decide ((blanksPool s.pool s.chip:Int) - s.more<s.reserve)
end StemS
def greatestS (c:Chip) (bs:List Nat):Nat:=(bs.flatMap fun b=>spotsB c b c.np).foldl (fun n x=>max n x.1.number) 0
def makeS (c:Chip) (era:Nat):StemS×Nat :=
 let s:StemS:=⟨scanPool c,c,era,[],[],[],noPlace,0,-1,0⟩
 if c.dead then (s,10)
 else if era=0 then (s,2)
 else if s.good≠[] then (s,2)
 else StemS.ended { s with number:=greatestS c (s.own.map Taken.block) } noPlace 0
end Go.Den
end
namespace Go.Den
theorem name_of (k:Key):(⟨k.bytes.toArray⟩: ByteArray)=k.name:=by
 obtain ⟨_,_,⟨⟨a⟩⟩,_⟩:=k
 rfl
theorem leafS_ok (k:Key) (s:St) (h:(leafS k s).2.1=0):(leafS k s).1.key=k/\(leafS k s).1.val.length<256:=by
 have hl:=rowS_len s
 unfold leafS at h ⊢
 simp only at h ⊢
 split at h
 .cases h
 .rename_i h1
  rw [if_neg h1]
  split at h
  .cases h
  .rename_i h2
   rw [if_neg h2]
   exact ⟨rfl,hl⟩
theorem listGo_all {α:Type} {key:α->Key} {one:Key->St->α×Nat×St} {P:α->Prop} (hone:∀ s:St,(one (keyS s).1 (keyS s).2.2).2.1=0->P (one (keyS s).1 (keyS s).2.2).1):∀ (n:Nat) (s:St) (acc:List α),(∀ x∈acc,P x)->(∀ x∈(listGo key one n s acc).1,P x)/\(listGo key one n s acc).1.length<=acc.length+n
 | 0,s,acc,h=>by
  unfold listGo
  split
  .exact ⟨fun x hx=>(by cases hx),Nat.zero_le _⟩
  .exact ⟨h,Nat.le_refl _⟩
 | n+1,s,acc,h=>by
  unfold listGo
  simp only
  split
  .exact ⟨fun x hx=>(by cases hx),Nat.zero_le _⟩
  .split
   .exact ⟨fun x hx=>(by cases hx),Nat.zero_le _⟩
   .split
    .exact ⟨fun x hx=>(by cases hx),Nat.zero_le _⟩
    .rename_i h1 h2 h3
     obtain ⟨q1,q2⟩:=listGo_all hone n (one (keyS s).1 (keyS s).2.2).2.2 (acc ++ [(one (keyS s).1 (keyS s).2.2).1]) fun x hx=>by
      rcases List.mem_append.1 hx with hx | hx
      .exact h x hx
      .rw [List.mem_singleton.1 hx];exact hone s (by omega)
     refine ⟨q1,?_⟩
     rw [List.length_append,List.length_singleton] at q2
     omega
theorem listS_all {α:Type} {key:α->Key} {one:Key->St->α×Nat×St} {P:α->Prop} (hone:∀ s:St,(one (keyS s).1 (keyS s).2.2).2.1=0->P (one (keyS s).1 (keyS s).2.2).1) (b:List UInt8):(∀ x∈(listS key one b).1,P x)/\(listS key one b).1.length<=255:=by
 unfold listS
 split
 .exact ⟨fun x hx=>(by cases hx),Nat.zero_le _⟩
 .split
  .exact ⟨fun x hx=>(by cases hx),Nat.zero_le _⟩
  .obtain ⟨q1,q2⟩:=listGo_all (key:=key) hone (takeS 1 (some b)).1 (takeS 1 (some b)).2.2 [] (fun x hx=>by cases hx)
   have:=takeS_lt 1 (some b)
   refine ⟨q1,?_⟩
   simp only [List.length_nil] at q2
   omega
theorem getLeaf_ok (b:List UInt8):(∀ f∈(getLeaf b).1,f.key.name.size<256/\f.val.length<256)/\(getLeaf b).1.length<=255 :=
 listS_all (P:=fun f:Fact=>f.key.name.size<256/\f.val.length<256) (fun s h=>by
  obtain ⟨h1,h2⟩:=leafS_ok _ _ h
  exact ⟨by rw [h1];exact keyS_name s,h2⟩) b
theorem innerS_ok (k:Key) (s:St) (h:(innerS k s).2.1=0):(innerS k s).1.key=k/\0<=(innerS k s).1.block/\(innerS k s).1.block<256/\0<=(innerS k s).1.page/\(innerS k s).1.page<256:=by
 have h1:=takeS_lt 1 s
 have h2:=takeS_lt 1 (takeS 1 s).2.2
 unfold innerS at h ⊢
 simp only at h ⊢
 split at h
 .cases h
 .rename_i h3
  rw [if_neg h3]
  split at h
  .cases h
  .rename_i h4
   rw [if_neg h4]
   refine ⟨rfl,?_,?_,?_,?_⟩<;>simp only<;>omega
theorem getInner_ok (b:List UInt8):(∀ x∈(getInner b).1,x.key.name.size<256/\0<=x.block/\x.block<256/\0<=x.page/\x.page<256)/\(getInner b).1.length<=255 :=
 listS_all (P:=fun x:Child=>x.key.name.size<256/\0<=x.block/\x.block<256/\0<=x.page/\x.page<256) (fun s h=>by
  obtain ⟨h1,h2⟩:=innerS_ok _ _ h
  exact ⟨by rw [h1];exact keyS_name s,h2⟩) b
structure TreeS.Ok (c:Chip) (t:TreeS):Prop where
 nodup:t.pages.Nodup
 read:∀ x∈t.pages,c.ask x.block x.page=0
 len:t.facts.length<=255 * t.pages.length
 facts:∀ f∈t.facts,f.key.name.size<256/\f.val.length<256
theorem TreeS.Ok.nil (c:Chip):TreeS.Ok c ⟨[],[],0⟩:=⟨List.nodup_nil,fun _ h=>(by cases h),Nat.le_refl _,fun _ h=>(by cases h)⟩
theorem prod_len (a b:Nat):((List.range a).flatMap fun i:Nat=>(List.range b).map fun k:Nat=>(⟨(i:Int),(k:Int)⟩: Place)).length=a * b:=by
 induction a with
 | zero=>simp
 | succ n ih=>rw [List.range_succ,List.flatMap_append,List.length_append,ih];simp [Nat.succ_mul]
theorem TreeS.Ok.pages_len {c:Chip} {t:TreeS} (h:t.Ok c):t.pages.length<=c.nb * c.np:=by
 rw [<- prod_len c.nb c.np]
 refine sub_len h.nodup fun x hx=>?_
 obtain ⟨_,h1,h2,h3,h4⟩:=ask_none0 (h.read x hx)
 refine List.mem_flatMap.2 ⟨x.block.toNat,List.mem_range.2 (by omega),List.mem_map.2 ⟨x.page.toNat,List.mem_range.2 (by omega),?_⟩⟩
 cases x
 simp only [Place.mk.injEq]
 simp only at h1 h3
 omega
theorem TreeS.Ok.small {c:Chip} {t:TreeS} (h:t.Ok c) (hc:c.Ok):t.pages.length<=2048/\t.facts.length<=522240:=by
 have h1:=h.pages_len
 have h2:=hc.nb2
 have h3:=hc.np2
 have:c.nb * c.np<=64 * 32:=Nat.mul_le_mul h2 h3
 have:=h.len
 omega
theorem TreeS.Ok.add {c:Chip} {t:TreeS} (h:t.Ok c) {p:Place} (hp:p ∉ t.pages) (ha:c.ask p.block p.page=0):TreeS.Ok c { t with pages:=t.pages ++ [p] }:=by
 refine ⟨?_,?_,?_,h.facts⟩
 .refine List.nodup_append.2 ⟨h.nodup,by simp,fun x hx y hy=>?_⟩
  rw [List.mem_singleton.1 hy]
  exact fun e=>hp (e ▸ hx)
 .intro x hx
  rcases List.mem_append.1 hx with hx | hx
  .exact h.read x hx
  .rw [List.mem_singleton.1 hx];exact ha
 .have:=h.len
  show t.facts.length<=255 * (t.pages ++ [p]).length
  rw [List.length_append,List.length_singleton]
  omega
theorem leafT_some {t t':TreeS} {l:List Fact×Nat} {d:Nat} {k:Key} (h:leafT t l d=some (k,t')):l.2=0/\(t.depth=0\/t.depth=d)/\∃ x r,l.1=x :: r/\lastAhead t.facts x.key=true/\k=x.key/\t'={ t with facts:=t.facts ++ l.1,depth:=d }:=by
 unfold leafT at h
 split at h
 .cases h
 .rename_i h1
  split at h
  .cases h
  .rename_i h2
   split at h
   .cases h
   .rename_i x r h3
    split at h
    .cases h
    .rename_i h4
     cases h
     exact ⟨by omega,by omega,x,r,h3,by simpa using h4,rfl,by rw [h3]⟩
theorem leafT_ok {c:Chip} {t t':TreeS} {p:Place} {b:List UInt8} {d:Nat} {k:Key} (h:t.Ok c) (hp:p ∉ t.pages) (ha:c.ask p.block p.page=0) (hl:leafT { t with pages:=t.pages ++ [p] } (getLeaf b) d=some (k,t')):t'.Ok c:=by
 obtain ⟨_,_,x,r,hx,_,_,rfl⟩:=leafT_some hl
 have ho:=h.add hp ha
 obtain ⟨g1,g2⟩:=getLeaf_ok b
 refine ⟨ho.nodup,ho.read,?_,?_⟩
 .have:=h.len
  show (t.facts ++ (getLeaf b).1).length<=255 * (t.pages ++ [p]).length
  rw [List.length_append,List.length_append,List.length_singleton]
  omega
 .intro f hf
  rcases List.mem_append.1 hf with hf | hf
  .exact h.facts f hf
  .exact g1 f hf
theorem kidsS_ok {c:Chip} {down:TreeS->Place->Option (Key×TreeS)} (hd:∀ t p k t',t.Ok c->down t p=some (k,t')->t'.Ok c):∀ (l:List Child) (t t':TreeS),t.Ok c->kidsS down l t=some t'->t'.Ok c
 | [],t,t',h,e=>by cases e;exact h
 | x :: l,t,t',h,e=>by
  unfold kidsS at e
  split at e
  .rename_i k t1 h1
   split at e
   .exact kidsS_ok hd l t1 t' (hd _ _ _ _ h h1) e
   .cases e
  .cases e
theorem downS_succ (c:Chip) (bs:List Nat) (f:Nat) (t:TreeS) (p:Place) (d:Nat):downS c bs (f+1) t p d=(if 12<d\/p.page<=0\/p.block ∉ bs.map Int.ofNat\/p∈t.pages then none
  else if c.ask p.block p.page≠0 then none
  else if (getPage (c.page p.block.toNat p.page.toNat)).2.2≠0 then none
  else if (getPage (c.page p.block.toNat p.page.toNat)).1=4 then leafT { t with pages:=t.pages ++ [p] } (getLeaf (getPage (c.page p.block.toNat p.page.toNat)).2.1) d
  else if (getPage (c.page p.block.toNat p.page.toNat)).1=5 then
   if (getInner (getPage (c.page p.block.toNat p.page.toNat)).2.1).2≠0 then none
   else match (getInner (getPage (c.page p.block.toNat p.page.toNat)).2.1).1 with
    | []=>none
    | x :: r=>match kidsS (fun t p=>downS c bs f t p (d+1)) (x :: r) { t with pages:=t.pages ++ [p] } with
     | some t'=>some (x.key,t')
     | none=>none
  else none):=rfl
theorem downS_ok (c:Chip) (bs:List Nat):∀ (f:Nat) (t:TreeS) (p:Place) (d:Nat) (k:Key) (t':TreeS),t.Ok c->downS c bs f t p d=some (k,t')->t'.Ok c
 | 0,t,p,d,k,t',h,e=>by cases e
 | f+1,t,p,d,k,t',h,e=>by
  rw [downS_succ] at e
  split at e
  .cases e
  .rename_i h1
   split at e
   .cases e
   .rename_i h2
    have hp:p ∉ t.pages:=fun hp=>h1 (.inr (.inr (.inr hp)))
    have ha:c.ask p.block p.page=0:=by omega
    split at e
    .cases e
    .split at e
     .exact leafT_ok h hp ha e
     .split at e
      .split at e
       .cases e
       .split at e
        .cases e
        .rename_i x r hx
         split at e
         .rename_i t1 ht1
          cases e
          exact kidsS_ok (fun t p k t' ht hd=>downS_ok c bs f t p (d+1) k t' ht hd) _ _ _ (h.add hp ha) ht1
         .cases e
      .cases e
theorem kidsS_drop {down:TreeS->Place->Option (Key×TreeS)}:∀ {l:List Child} {t ti:TreeS} (i:Nat),kidsS down (l.take i) t=some ti->kidsS down l t=kidsS down (l.drop i) ti
 | l,t,ti,0,h=>by
  rw [List.take_zero] at h
  cases h
  rfl
 | [],t,ti,i+1,h=>by
  rw [List.take_nil] at h
  cases h
  rfl
 | x :: l,t,ti,i+1,h=>by
  rw [List.take_succ_cons] at h
  rw [List.drop_succ_cons]
  conv=>lhs;unfold kidsS
  unfold kidsS at h
  cases hd:down t ⟨x.block,x.page⟩ with
  | none=>rw [hd] at h;cases h
  | some y =>
   obtain ⟨k,t1⟩:=y
   rw [hd] at h
   simp only at h ⊢
   split at h
   .rename_i hk
    rw [if_pos hk]
    exact kidsS_drop i h
   .cases h
theorem kidsS_take_succ {down:TreeS->Place->Option (Key×TreeS)}:∀ {l:List Child} {t ti:TreeS} {i:Nat} (hi:i<l.length),kidsS down (l.take i) t=some ti->kidsS down (l.take (i+1)) t=(match down ti ⟨l[i].block,l[i].page⟩ with
  | some (k,t')=>if k=l[i].key then some t' else none
  | none=>none)
 | x :: l,t,ti,0,hi,h=>by
  rw [List.take_zero] at h
  cases h
  rw [List.take_succ_cons,List.take_zero]
  rfl
 | x :: l,t,ti,i+1,hi,h=>by
  rw [List.take_succ_cons] at h ⊢
  unfold kidsS at h ⊢
  cases hd:down t ⟨x.block,x.page⟩ with
  | none=>rw [hd] at h;cases h
  | some y =>
   obtain ⟨k,t1⟩:=y
   rw [hd] at h
   simp only at h ⊢
   split at h
   .rename_i hk
    rw [if_pos hk]
    exact kidsS_take_succ (l:=l) (i:=i) (by simpa using hi) h
   .cases h
def OrdBy {α:Type} (key:α->Key) (l:List α):Prop:=l.Pairwise fun a b=>before (key a) (key b)=true
theorem ordered_bare {l:List Child}:ordered (l.map bareF)=true ↔ OrdBy Child.key l:=by
 rw [ordered_sorted]
 unfold Sorted OrdBy
 rw [List.pairwise_map]
 rfl
theorem body_sum {α:Type} (enc:α->List UInt8) (len:α->Nat) (h:∀ x,(enc x).length=len x) (l:List α):(l.flatMap enc).length=lens len l:=by
 unfold lens
 rw [List.length_flatMap]
 congr 1
 exact List.map_congr_left fun x _=>h x
theorem leafB_length (f:Fact):(leafB f).length=leafLen f:=by
 unfold leafB leafLen
 simp only [List.length_append,List.length_cons]
 omega
theorem innerB_length (x:Child):(innerB x).length=innerLen x.key:=by
 unfold innerB innerLen
 simp
theorem putLeaf_ok {sz:Nat} (s1:128<=sz) (s2:sz<=256) {g:List Fact} (h:∀ f∈g,mayF f=true) (ho:Sorted g) (hg:GOk leafLen (roomT sz) g):(putLeaf sz g).2=0/\(putLeaf sz g).1.length=sz/\getPage (putLeaf sz g).1=(4,leafBody g,0):=by
 have hsz:isSize (sz:Int)=true:=by simp [isSize];omega
 have hb:(leafBody g).length+5<=sz:=by
  unfold leafBody
  rw [List.length_cons,body_sum leafB leafLen leafB_length]
  have:=hg.fits
  unfold roomT at this
  omega
 have h1:1<=g.length:=List.length_pos_iff.2 hg.ne
 have hp:putLeaf sz g=(pageOf sz 4 (leafBody g),0):=by
  unfold putLeaf
  rw [if_pos ⟨h1,hg.most,ordered_sorted.2 ho,List.all_eq_true.2 h⟩]
  unfold putPage
  rw [if_neg (by rw [hsz];decide),if_neg (by omega)]
  rfl
 rw [hp]
 exact ⟨rfl,pageOf_length _ _ _ hb,getPage_pageOf hsz (by decide) (by decide) hb⟩
theorem putInner_ok {sz:Nat} (s1:128<=sz) (s2:sz<=256) {g:List Child} (h:∀ x∈g,mayCh x=true) (ho:OrdBy Child.key g) (hg:GOk (fun x:Child=>innerLen x.key) (roomT sz) g):(putInner sz g).2=0/\(putInner sz g).1.length=sz/\getPage (putInner sz g).1=(5,innerBody g,0):=by
 have hsz:isSize (sz:Int)=true:=by simp [isSize];omega
 have hb:(innerBody g).length+5<=sz:=by
  unfold innerBody
  rw [List.length_cons,body_sum innerB (fun x=>innerLen x.key) innerB_length]
  have:=hg.fits
  unfold roomT at this
  omega
 have h1:1<=g.length:=List.length_pos_iff.2 hg.ne
 have hp:putInner sz g=(pageOf sz 5 (innerBody g),0):=by
  unfold putInner
  rw [if_pos ⟨h1,hg.most,ordered_bare.2 ho,List.all_eq_true.2 h⟩]
  unfold putPage
  rw [if_neg (by rw [hsz];decide),if_neg (by omega)]
  rfl
 rw [hp]
 exact ⟨rfl,pageOf_length _ _ _ hb,getPage_pageOf hsz (by decide) (by decide) hb⟩
structure PageAt (c:Chip) (bs:List Nat) (p:Place):Prop where
 pos:0<p.page
 blk:p.block∈bs.map Int.ofNat
 ask:c.ask p.block p.page=0
abbrev pageP (c:Chip) (p:Place):List UInt8:=c.page p.block.toNat p.page.toNat
mutual
inductive Node (c:Chip) (bs:List Nat):Nat->Place->Key->List Fact->List Place->Prop
 | leaf {p:Place} {x:Fact} {r:List Fact} (hp:PageAt c bs p) (hg:(getPage (pageP c p)).2.2=0) (hk:(getPage (pageP c p)).1=4) (hl:getLeaf (getPage (pageP c p)).2.1=(x :: r,0)):Node c bs 1 p x.key (x :: r) [p]
 | inner {h:Nat} {p:Place} {x:Child} {l:List Child} {fs:List Fact} {ps:List Place} (hp:PageAt c bs p) (hg:(getPage (pageP c p)).2.2=0) (hk:(getPage (pageP c p)).1=5) (hl:getInner (getPage (pageP c p)).2.1=(x :: l,0)) (hn:Nodes c bs h (x :: l) fs ps):Node c bs (h+1) p x.key fs (p :: ps)
inductive Nodes (c:Chip) (bs:List Nat):Nat->List Child->List Fact->List Place->Prop
 | nil {h:Nat}:Nodes c bs h [] [] []
 | cons {h:Nat} {x:Child} {l:List Child} {f1 f2:List Fact} {p1 p2:List Place} (h1:Node c bs h ⟨x.block,x.page⟩ x.key f1 p1) (h2:Nodes c bs h l f2 p2):Nodes c bs h (x :: l) (f1 ++ f2) (p1 ++ p2)
end
mutual
theorem Node.first {c:Chip} {bs:List Nat}:∀ {h:Nat} {p:Place} {k:Key} {fs:List Fact} {ps:List Place},Node c bs h p k fs ps->1<=h/\(∃ x r,fs=x :: r/\x.key=k)/\p∈ps
 | _,_,_,_,_,.leaf hp hg hk hl=>⟨Nat.le_refl _,⟨_,_,rfl,rfl⟩,by simp⟩
 | _,_,_,_,_,.inner hp hg hk hl hn=>by
  obtain ⟨h1,h2⟩:=hn.first
  obtain ⟨y,r,e1,e2⟩:=h2 _ _ rfl
  exact ⟨by omega,⟨y,r,e1,e2⟩,by simp⟩
theorem Nodes.first {c:Chip} {bs:List Nat}:∀ {h:Nat} {l:List Child} {fs:List Fact} {ps:List Place},Nodes c bs h l fs ps->(l≠[]->1<=h)/\∀ x r,l=x :: r->∃ y t,fs=y :: t/\y.key=x.key
 | _,_,_,_,.nil=>⟨fun h=>absurd rfl h,fun x r h=>(by cases h)⟩
 | _,_,_,_,.cons h1 h2=>by
  obtain ⟨a1,⟨y,t,e1,e2⟩,_⟩:=h1.first
  refine ⟨fun _=>a1,fun x r h=>?_⟩
  cases h
  subst e1
  exact ⟨y,_,rfl,e2⟩
end
section
inductive All2 {α β:Type} (P:α->β->Prop):List α->List β->Prop
 | nil:All2 P [] []
 | cons {x:α} {y:β} {l:List α} {m:List β} (h:P x y) (t:All2 P l m):All2 P (x :: l) (y :: m)
structure PutOk {σ:Type} (put:σ->List UInt8->σ×Place×Nat) (sz:Nat) (I:Nat->σ->Prop) (R:σ->σ->Prop) (At:σ->Place->List UInt8->Prop):Prop where
 less:∀ {s m n},I n s->m<=n->I m s
 bnd:∀ {s p b},At s p b->0<=p.block/\p.block<=255/\0<=p.page/\p.page<=255
 refl:∀ s,R s s
 trans:∀ {a b c},R a b->R b c->R a c
 keep:∀ {s s' p b},R s s'->At s p b->At s' p b
 step:∀ {s b n},I (n+1) s->b.length=sz->R s (put s b).1/\((put s b).2.2=0->I n (put s b).1/\At (put s b).1 (put s b).2.1 b)
section
variable {σ:Type} {put:σ->List UInt8->σ×Place×Nat} {sz:Nat} {I:Nat->σ->Prop} {R:σ->σ->Prop} {At:σ->Place->List UInt8->Prop}
theorem putAll_ok (hp:PutOk put sz I R At) (m:Nat):∀ (l:List (Key×List UInt8)) (s:σ) (acc:List Child),I (l.length+m) s->(∀ x∈l,x.2.length=sz)->
  R s (putAll put l s acc).1/\((putAll put l s acc).2.2=0->I m (putAll put l s acc).1/\∃ new,(putAll put l s acc).2.1=acc ++ new/\All2 (fun x (y:Child)=>y.key=x.1/\At (putAll put l s acc).1 ⟨y.block,y.page⟩ x.2) l new)
 | [],s,acc,hI,_=>⟨hp.refl s,fun _=>⟨hp.less hI (by simp),[],by simp [putAll],.nil⟩⟩
 | x :: l,s,acc,hI,hl=>by
  obtain ⟨h1,h2⟩:=hp.step (n:=l.length+m) (hp.less hI (by simp;omega)) (hl x (by simp))
  unfold putAll
  split
  .rename_i h0
   exact ⟨h1,fun h=>absurd h h0⟩
  .rename_i h0
   obtain ⟨k1,k2⟩:=h2 (by omega)
   obtain ⟨g1,g2⟩:=putAll_ok hp m l (put s x.2).1 (acc ++ [⟨x.1,(put s x.2).2.1.block,(put s x.2).2.1.page⟩]) k1 fun y hy=>hl y (by simp [hy])
   refine ⟨hp.trans h1 g1,fun he=>?_⟩
   obtain ⟨g3,new,g4,g5⟩:=g2 he
   refine ⟨g3,(⟨x.1,(put s x.2).2.1.block,(put s x.2).2.1.page⟩: Child) :: new,by rw [g4];simp,.cons ⟨rfl,hp.keep g1 k2⟩ g5⟩
variable {cOf:σ->Chip} {bOf:σ->List Nat}
theorem sorted_part {a b d:List Fact} (h:Sorted (a ++ b ++ d)):Sorted b:=(List.pairwise_append.1 (List.pairwise_append.1 h).1).2.1
theorem innerLen_le {k:Key} (h:k.may=true):innerLen k<=18:=by
 have:=(keyB_len h).2
 unfold innerLen
 omega
structure FitL (sz:Nat) (l:List Fact):Prop where
 may:∀ f∈l,mayF f=true
 sorted:Sorted l
 len:∀ f∈l,leafLen f<=roomT sz
end
end
theorem ends_Row_spec {w:World} {a:Option Addr} {b:List UInt8} {c:Nat} (hb:BytesAt w a b) :
  CallsR prog K.ends_Row #[.slice a b.length c] w fun v w'=>BytesOut w w' v (rowB b).1 (rowB b).2:=by
 apply ends_Row.sh
 suffices H:∀ R:Value->World->Prop,(∀ v w',BytesOut w w' v (rowB b).1 (rowB b).2->R v w')->ends_Row.body a b.length c w R from H _ fun _ _ h=>h
 intro R hR
 unfold ends_Row.body
 refine br_dec (fun hl=>?_) fun hl=>?_
 .have h:rowB b=([],3):=by unfold rowB;rw [if_neg (by omega)]
  rw [h] at hR
  exact hR _ _ (BytesOut.none (e:=3) (Upd.refl _ _))
 .have h:rowB b=(UInt8.ofNat b.length :: b,0):=by unfold rowB;rw [if_pos (by omega)]
  rw [h] at hR
  intro B1 w1 hn1
  rw [bv_mod,Nat.mod_eq_of_lt (by omega)] at hn1
  have hs1:=hn1.size
  refine BList.cat (l:=[UInt8.ofNat b.length]) (S:=w.heap.size) (BList.new hn1 rfl (Nat.le_refl _)) rfl rfl (hb.ext hn1.upd) (by simp;omega) (by omega) fun a' c' w' hu hl'=>?_
  exact hR _ _ ⟨a',c',rfl,hl',hn1.upd.own hu (Nat.le_refl _)⟩
theorem fact_PutKey_spec (k:Key) (hn:k.name.size<9223372036854775807) (w:World) :
  CallsR prog K.fact_PutKey #[keyV k] w fun v w'=>BytesOut w w' v (putKeyB k).1 (putKeyB k).2:=by
 apply fact_PutKey.sh
 suffices H:∀ R:Value->World->Prop,(∀ v w',BytesOut w w' v (putKeyB k).1 (putKeyB k).2->R v w')->fact_PutKey.body k.ino k.what.toNat k.name k.chunk w R from H _ fun _ _ h=>h
 intro R hR
 unfold fact_PutKey.body
 simp only [add_lit,Nat.zero_add]
 intro B1 w1 hn1
 have g1:KeyAt w1 B1 k:=hn1.get
 have hb1:B1=w.heap.size:=hn1.num
 have hs1:=hn1.size
 refine ⟨_,_,_,_,key_cells g1,(fact_MayKey_spec k hn w1).mono ?_⟩
 rintro _ w2 ⟨rfl,he2⟩
 have g2:KeyAt w2 B1 k:=Ext.get he2 g1
 have e2:Ext w w2:=hn1.upd.trans he2
 have hs2:=he2.size
 refine ⟨_,rfl,br_intro (fun hm=>?_) fun hm=>?_⟩
 .have h:putKeyB k=([],2):=by unfold putKeyB;rw [if_neg (by simpa using hm)]
  rw [h] at hR
  exact hR _ _ (BytesOut.none (e:=2) e2)
 have hm':k.may=true:=by simpa using hm
 have h:putKeyB k=(keyB k,0):=by unfold putKeyB;rw [if_pos hm']
 rw [h] at hR
 obtain ⟨h1,h2,h3⟩:=Key.may_elim hm'
 obtain ⟨n,hn0⟩: ∃ n:Nat,k.ino=n:=⟨k.ino.toNat,by omega⟩
 refine ⟨_,cell_of g2 rfl,?_⟩
 rw [hn0,wu64 (by omega) (by omega)]
 refine (ends_Put_own n 2 w2 (by rfl) (by omega)).mono ?_
 rintro _ w3 ⟨a1,c1,rfl,ho3,hf3,he3⟩
 have e3:=e2.trans he3
 have hs3:=he3.size
 have g3:KeyAt w3 B1 k:=Ext.get he3 g2
 have hlb:(leB n 2).length=2:=leB_length 2 n
 have hbase:BList w2.heap.size w3 a1 c1 (leB n 2):=⟨by rw [hlb];exact ho3,fun b hb=>hf3 _ hb⟩
 refine ⟨_,_,_,_,rfl,_,cell_of g3 rfl,fun B2 w4 hn4=>?_⟩
 have hs4:=hn4.size
 refine BList.push hbase hlb.symm hn4 (by omega) (by omega) fun a2 c2 w5 hu5 hl5=>?_
 have e5:Ext w w5:=e3.beyond hu5 fun x hx=>by omega
 have hs5:=hu5.size
 have g5:KeyAt w5 B1 k:=hu5.get g3 (by omega)
 have hnn:k.ino.toNat=n:=by omega
 refine ⟨_,cell_of g5 rfl,br_eq (fun hw=>?_) fun hw=>br_eq (fun hw3=>?_) fun hw3=>?_⟩
 .have hw':k.what=2:=UInt8.toNat_inj.1 (by show k.what.toNat=2;omega)
  have hname:isName k.bytes=true:=by
   rcases h3 with ⟨h,_⟩| ⟨_,h,_⟩| ⟨h,_⟩
   .rw [hw'] at h;cases h
   .exact h
   .rw [hw'] at h;cases h
  have hlen:=isName_len hname
  have hbs:k.name.size=k.bytes.length:=size_data _
  have hkey:keyB k=leB n 2 ++ [k.what] ++ (UInt8.ofNat k.bytes.length :: k.bytes):=by unfold keyB;rw [if_pos hw',hnn]
  refine ⟨_,cell_of g5 rfl,fun cap B3 w6 hcap hn6=>?_⟩
  have hs6:=hn6.size
  have hsd:w5.drew.heap.size=w5.heap.size:=rfl
  have e56:Ext w5 w6:=(drew_upd w5).trans hn6.upd
  have hrow:BytesAt w6 (some ⟨B3,0,none⟩) k.bytes:=RowAt.of hn6.get fun j v hj=>by
   simp only [Nat.zero_add,List.getElem?_toArray]
   have hj':(k.name.data.toList.map bv)[j]?=some v:=hj
   rw [List.getElem?_append_left (by simpa using (List.getElem?_eq_some_iff.1 hj').1)]
   exact hj'
  rw [hbs]
  refine (ends_Row_spec (c:=cap) hrow).mono ?_
  have hrb:rowB k.bytes=(UInt8.ofNat k.bytes.length :: k.bytes,0):=by unfold rowB;rw [if_pos (by omega)]
  rw [hrb]
  rintro _ w7 ⟨a4,c4,rfl,hl7,he7⟩
  have e57:=e56.trans he7
  refine ⟨_,_,_,_,rfl,BList.cat (hl5.ext e57) rfl rfl hl7.bytes (by simp [leB_length];omega) (by have:=e57.size;omega) fun a5 c5 w8 hu8 hl8=>?_⟩
  rw [<- hkey] at hl8 ⊢
  exact hR _ _ ⟨a5,c5,rfl,hl8.weak (by omega),(e5.trans e57).beyond hu8 fun x hx=>by omega⟩
 .have hw':k.what=3:=UInt8.toNat_inj.1 (by show k.what.toNat=3;omega)
  have hkey:keyB k=leB n 2 ++ [k.what] ++ [UInt8.ofNat k.chunk.toNat]:=by unfold keyB;rw [if_neg (by rw [hw'];decide),if_pos hw',hnn]
  have hch:0<=k.chunk/\k.chunk<8:=by
   rcases h3 with ⟨h,_⟩| ⟨h,_⟩| ⟨_,_,h⟩
   .rw [hw'] at h;cases h
   .rw [hw'] at h;cases h
   .exact h
  obtain ⟨m,hm0⟩: ∃ m:Nat,k.chunk=m:=⟨k.chunk.toNat,by omega⟩
  refine ⟨_,cell_of g5 rfl,fun B3 w6 hn6=>?_⟩
  rw [hm0,bv_mod,Nat.mod_eq_of_lt (by omega)] at hn6
  refine BList.push hl5 rfl hn6 (by simp [leB_length]) (by omega) fun a6 c6 w7 hu7 hl7=>?_
  have hmn:k.chunk.toNat=m:=by omega
  rw [hmn] at hkey
  rw [<- hkey] at hl7 ⊢
  exact hR _ _ ⟨a6,c6,rfl,hl7.weak (by omega),e5.beyond hu7 fun x hx=>by omega⟩
 .have hkey:keyB k=leB n 2 ++ [k.what]:=by
   unfold keyB
   rw [if_neg (fun h=>hw (by rw [h];rfl)),if_neg (fun h=>hw3 (by rw [h];rfl)),hnn,List.append_nil]
  rw [<- hkey] at hl5 ⊢
  exact hR _ _ ⟨a2,c2,rfl,hl5.weak (by omega),e5⟩
theorem rec_join_spec {w:World} {a:Option Addr} {bs:List (List UInt8)} {cp:Nat} (h:SlicesAt w a bs) (hn:bs.length<=1000000000) (hf:bs.flatten.length<=10000000000000) :
  CallsR prog K.rec_join #[.slice a bs.length cp] w fun v w'=>Ext w w'/\∃ a' c',v= .slice a' bs.flatten.length c'/\BList w.heap.size w' a' c' bs.flatten:=by
 apply rec_join.sh
 refine (slices_Concat_spec h hn hf).mono ?_
 rintro _ w' ⟨he,a',c',rfl,ho,hf⟩
 exact ⟨_,_,_,rfl,he,a',c',rfl,ho,fun b hb=>hf _ hb⟩
def MayOut (w w':World) (v:Value) (l:List UInt8) (b:Bool):Prop:=∃ a c,v= .tuple #[.slice a l.length c,.bool b]/\BList w.heap.size w' a c l/\Ext w w'
theorem MayOut.none {w w':World} (h:Ext w w'):MayOut w w' (.tuple #[.slice .none 0 0,.bool false]) [] false:=⟨.none,0,rfl,BList.nil _ _,h⟩
def changeB (c:Change):List UInt8:=if mayC c then chgB c else []
theorem changeV_cells {w:World} {B:Nat} {x:Change} {a:Option Addr} {c:Nat} (h:w.heap[B]?=some (.cells (changeVs x.key a x.val.length c x.gone).toArray T.api_Change (0,0))):cellsAt w ⟨B,0,none⟩ [.int .i64 x.key.ino,bv x.key.what,.string x.key.name,.int .i64 x.key.chunk] 0:=by
 refine cellsAt_of h fun j v hj=>?_
 rcases j with _ | _ | _ | _ | j
 all_goals simp at hj ⊢
 all_goals exact hj
theorem rec_change_spec (x:Change) {w:World} {a:Option Addr} {c:Nat} (hb:BytesAt w a x.val) (hn:x.key.name.size<9223372036854775807) :
  CallsR prog K.rec_change #[.agg #[.int .i64 x.key.ino,bv x.key.what,.string x.key.name,.int .i64 x.key.chunk,.slice a x.val.length c,.bool x.gone]] w fun v w'=>MayOut w w' v (changeB x) (mayC x):=by
 apply rec_change.sh
 suffices H:∀ R:Value->World->Prop,(∀ v w',MayOut w w' v (changeB x) (mayC x)->R v w')->rec_change.body x.key.ino x.key.what.toNat x.key.name x.key.chunk a x.val.length c x.gone w R from H _ fun _ _ h=>h
 intro R hR
 unfold rec_change.body
 simp only [add_lit,Nat.zero_add]
 intro B1 w1 hn1
 have g1:w1.heap[B1]?=some (.cells (changeVs x.key a x.val.length c x.gone).toArray T.api_Change (0,0)):=hn1.get
 have hs1:=hn1.size
 refine ⟨_,_,_,_,changeV_cells g1,(fact_PutKey_spec x.key hn w1).mono ?_⟩
 rintro _ w2 ⟨a1,c1,rfl,hl2,he2⟩
 have g2:=Ext.get he2 g1
 have e2:=hn1.upd.trans he2
 have hs2:=he2.size
 have fail:mayC x=false->∀ u,Ext w u->R (.tuple #[.slice none 0 0,.bool false]) u:=fun h u hu=>hR _ _ (by
  have hc:changeB x=[]:=by unfold changeB;rw [h];rfl
  rw [hc,h]
  exact MayOut.none hu)
 have hpk:putKeyB x.key=if x.key.may then (keyB x.key,0) else ([],2):=rfl
 refine ⟨_,_,_,_,rfl,fun b u=>u=w2/\b=(!x.key.may || (x.gone && decide (0<x.val.length))),br_ne (fun hne=>?_) fun h0=>?_,?_⟩
 .refine ⟨rfl,?_⟩
  have:x.key.may=false:=by
   cases hm:x.key.may with
   | false=>rfl
   | true=>rw [hpk,if_pos hm] at hne;exact absurd rfl hne
  rw [this];rfl
 .have hm:x.key.may=true:=by
   cases hm:x.key.may with
   | true=>rfl
   | false=>rw [hpk,if_neg (by rw [hm];decide)] at h0;cases h0
  refine ⟨_,cell_of g2 rfl,br_intro (fun hg=>⟨_,_,_,cell_of g2 rfl,rfl,?_⟩) fun hg=>⟨rfl,?_⟩⟩
  .rw [hm,hg]
   simp
  .rw [hm,hg];rfl
 rintro b u ⟨rfl,rfl⟩
 refine br_intro (fun hbad=>?_) fun hok=>?_
 .refine fail ?_ _ e2
  unfold mayC
  cases hm:x.key.may with
  | false=>rfl
  | true =>
   rw [hm] at hbad
   simp only [Bool.not_true,Bool.false_or,Bool.and_eq_true,decide_eq_true_eq] at hbad
   rw [hbad.1,if_pos rfl,decide_eq_false (by omega)];rfl
 simp only [Bool.or_eq_false_iff,Bool.not_eq_false',Bool.and_eq_false_iff,decide_eq_false_iff_not] at hok
 obtain ⟨hm,hgv⟩:=hok
 rw [hpk,if_pos hm] at hl2
 simp only [] at hl2
 rw [hpk,if_pos hm]
 have hkl:=keyB_len hm
 refine ⟨_,cell_of g2 rfl,br_intro (fun hg=>?_) fun hg=>?_⟩
 .have hv0:x.val.length=0:=by
   rcases hgv with h | h
   .rw [hg] at h;cases h
   .omega
  have hmc:mayC x=true:=by unfold mayC;rw [hm,hg,if_pos rfl,decide_eq_true hv0];rfl
  have hcb:changeB x=[[0],keyB x.key].flatten:=by unfold changeB chgB;rw [hmc,hg];simp
  rw [hmc,hcb] at hR
  intro B2 w4 hn4 B3 w5 hn5
  have hs:SlicesAt w5 (some ⟨B3,0,none⟩) [[0],keyB x.key]:=by
   refine ⟨_,RowAt.of hn5.get (vs:=[Value.slice (some ⟨B2,0,none⟩) 1 1,Value.slice a1 (keyB x.key).length c1]) (fun j v hj=>by simpa using hj),rfl,fun i hi=>?_⟩
   match i,hi with
   | 0,_=>exact ⟨_,_,rfl,RowAt.ext (RowAt.of hn4.get fun j v hj=>by have hj':[Value.int .u8 0][j]?=some v:=hj;simpa using hj') hn5.upd⟩
   | 1,_=>exact ⟨a1,c1,rfl,RowAt.ext hl2.bytes (hn4.upd.trans hn5.upd)⟩
  refine (rec_join_spec (cp:=2) hs (by simp) (by simp;omega)).mono ?_
  rintro _ w6 ⟨he6,a3,c3,rfl,hl6⟩
  have e5:=e2.trans (hn4.upd.trans hn5.upd)
  exact ⟨_,_,_,rfl,hR _ _ ⟨a3,c3,rfl,hl6.weak e5.size,e5.trans he6⟩⟩
 .refine ⟨_,_,_,cell_of g2 rfl,br_dec (fun h1=>fail ?_ _ e2) fun h1=>⟨_,_,_,cell_of g2 rfl,br_dec (fun h2=>fail ?_ _ e2) fun h2=>?_⟩⟩
  .unfold mayC;rw [hm,hg,decide_eq_false (p:=1<=x.val.length) (by omega)];rfl
  .unfold mayC;rw [hm,hg,decide_eq_false (p:=x.val.length<=255) (by omega)];simp
  have hmc:mayC x=true:=by unfold mayC;rw [hm,hg,decide_eq_true (p:=1<=x.val.length) (by omega),decide_eq_true (p:=x.val.length<=255) (by omega)];rfl
  have hcb:changeB x=[[1],keyB x.key,UInt8.ofNat x.val.length :: x.val].flatten:=by unfold changeB chgB;rw [hmc,hg];simp
  rw [hmc,hcb] at hR
  refine ⟨_,_,_,cell_of g2 rfl,(ends_Row_spec (c:=c) (RowAt.ext hb e2)).mono ?_⟩
  have hrb:rowB x.val=(UInt8.ofNat x.val.length :: x.val,0):=by unfold rowB;rw [if_pos (by omega)]
  rw [hrb]
  rintro _ w7 ⟨a7,c7,rfl,hl7,he7⟩
  refine ⟨_,_,_,_,rfl,fun B4 w8 hn8 B5 w9 hn9=>?_⟩
  have hs:SlicesAt w9 (some ⟨B5,0,none⟩) [[1],keyB x.key,UInt8.ofNat x.val.length :: x.val]:=by
   refine ⟨_,RowAt.of hn9.get (vs:=[Value.slice (some ⟨B4,0,none⟩) 1 1,Value.slice a1 (keyB x.key).length c1,Value.slice a7 (UInt8.ofNat x.val.length :: x.val).length c7]) (fun j v hj=>by simpa using hj),rfl,fun i hi=>?_⟩
   match i,hi with
   | 0,_=>exact ⟨_,_,rfl,RowAt.ext (RowAt.of hn8.get fun j v hj=>by have hj':[Value.int .u8 1][j]?=some v:=hj;simpa using hj') hn9.upd⟩
   | 1,_=>exact ⟨a1,c1,rfl,RowAt.ext hl2.bytes ((he7.trans hn8.upd).trans hn9.upd)⟩
   | 2,_=>exact ⟨a7,c7,rfl,RowAt.ext hl7.bytes (hn8.upd.trans hn9.upd)⟩
  refine (rec_join_spec (cp:=3) hs (by simp) (by simp;omega)).mono ?_
  rintro _ w10 ⟨he10,a8,c8,rfl,hl10⟩
  have e9:=e2.trans ((he7.trans hn8.upd).trans hn9.upd)
  exact ⟨_,_,_,rfl,hR _ _ ⟨a8,c8,rfl,hl10.weak e9.size,e9.trans he10⟩⟩
theorem rec_body_spec {l:List Change} {w:World} {G:Nat->Prop} {a:Option Addr} {c:Nat} (h:SliceAt changeR w G a l) (hs:Small l) (hn:l.length<9000000000000000000) :
  CallsR prog K.rec_body #[.slice a l.length c] w fun v w'=>MayOut w w' v (if mayL l then bodyB l else []) (mayL l):=by
 apply rec_body.sh
 suffices H:∀ R:Value->World->Prop,(∀ v w',MayOut w w' v (if mayL l then bodyB l else []) (mayL l)->R v w')->rec_body.body a l.length c w R from H _ fun _ _ h=>h
 intro R hR
 unfold rec_body.body
 have fail:mayL l=false->∀ u,Ext w u->R (.tuple #[.slice none 0 0,.bool false]) u:=fun h u hu=>hR _ _ (by
  rw [h]
  exact MayOut.none hu)
 refine br_dec (fun h1=>fail ?_ _ (Upd.refl _ _)) fun h1=>br_dec (fun h2=>fail ?_ _ (Upd.refl _ _)) fun h2=>?_
 .unfold mayL;rw [decide_eq_false (p:=1<=l.length) (by omega)];rfl
 .unfold mayL;rw [decide_eq_false (p:=l.length<=255) (by omega)];simp
 have hml:mayL l=l.all mayC:=by unfold mayL;rw [decide_eq_true (p:=1<=l.length) (by omega),decide_eq_true (p:=l.length<=255) (by omega)];simp
 intro B1 w1 hn1
 rw [bv_mod,Nat.mod_eq_of_lt (by omega)] at hn1
 have hs1:=hn1.size
 have hbase:BList w.heap.size w1 (some ⟨B1,0,none⟩) 1 [UInt8.ofNat l.length]:=BList.new hn1 rfl (Nat.le_refl _)
 refine ⟨fun a1 l1 c1 x u=>∃ i:Nat,x=i/\i<=l.length/\(l.take i).all mayC=true/\l1=(UInt8.ofNat l.length :: (l.take i).flatMap chgB).length/\BList w.heap.size u a1 c1 (UInt8.ofNat l.length :: (l.take i).flatMap chgB)/\Ext w u,fun _ _ _ x _=>((l.length:Int) - x).toNat,
  ⟨0,rfl,by omega,rfl,rfl,by simpa using hbase,hn1.upd⟩,?_⟩
 rintro a1 l1 c1 x u ⟨i,rfl,hi,hall,rfl,hl,heu⟩
 have hsu:=heu.size
 refine br_dec (fun hlt=>?_) fun hge=>?_
 .have hi':i<l.length:=by omega
  have ew:i64.wrap ((i:Int)+1)=((i+1:Nat):Int):=w64 (by omega) (by omega)
  simp only [ew]
  refine SliceAt.idx (r:=changeR) (h.ext heu) rfl hi' fun b o vs _ hrow hR' _=>?_
  obtain ⟨av,cv,rfl,hcv,hbv,_⟩:=changeR_elim hR'
  refine ⟨_,_,_,_,_,_,_,_,hrow.cells,new_put rfl fun B2 w4 hb4 hs4 e4 g4=>?_⟩
  refine ⟨_,_,_,_,_,_,_,_,cells_all g4,(rec_change_spec l[i] (hbv.ext e4) (hs _ (List.getElem_mem hi'))).mono ?_⟩
  rintro _ w5 ⟨a4,c4,rfl,hl5,he5⟩
  have e45:=e4.trans he5
  have hs45:=e45.size
  refine ⟨_,_,_,_,rfl,br_intro (fun hb=>fail ?_ _ (heu.trans e45)) fun hb=>?_⟩
  .rw [hml]
   have:mayC l[i]=false:=by simpa using hb
   rw [List.all_eq_false]
   exact ⟨l[i],List.getElem_mem hi',by rw [this];simp⟩
  .have hmc:mayC l[i]=true:=by simpa using hb
   have hcb:changeB l[i]=chgB l[i]:=by unfold changeB;rw [hmc];rfl
   rw [hcb] at hl5 ⊢
   have hcl:=chgB_len hmc
   have hfl:=flat_len_le (f:=chgB) (n:=300) (l.take i) (fun x hx=>chgB_len (List.all_eq_true.1 hall x hx))
   have htl:(l.take i).length=i:=by rw [List.length_take];omega
   rw [htl] at hfl
   refine BList.cat (hl.ext e45) rfl rfl hl5.bytes (by rw [List.length_cons];omega) (by omega) fun a5 c5 w6 hu6 hl6=>?_
   have hcat:(UInt8.ofNat l.length :: (l.take i).flatMap chgB) ++ chgB l[i]=UInt8.ofNat l.length :: (l.take (i+1)).flatMap chgB:=by
    rw [List.take_succ_eq_append_getElem hi',List.flatMap_append]
    simp
   rw [hcat] at hl6 ⊢
   exact ⟨⟨i+1,rfl,hi',by rw [all_take_succ hi',hall,hmc];rfl,rfl,hl6,(heu.trans e45).beyond hu6 fun x hx=>hx⟩,meas hi'⟩
 .have hii:i=l.length:=by omega
  subst hii
  rw [List.take_length] at hl hall ⊢
  have hm:mayL l=true:=by rw [hml];exact hall
  rw [hm] at hR
  exact hR _ _ ⟨a1,c1,rfl,hl,heu⟩
theorem putPage_seal {size k:Int} {kind:UInt8} (hk:k=(kind.toNat:Int)) {a:Option Addr} {body:List UInt8} {c:Nat} {w:World} (h:BytesAt w a body) (hn:body.length<=281474976710656) :
  CallsR prog K.seal_Put #[.int .i64 size,.int .u8 k,.slice a body.length c] w fun v w'=>∃ a' c',v= .tuple #[.slice a' (putPage size kind body).1.length c',.int .i64 ((putPage size kind body).2:Nat)]/\BytesAt w' a' (putPage size kind body).1/\Fresh w a'/\Ext w w'/\(putPage size kind body).1.length<=c':=by
 refine (seal_Put_spec size k kind hk h hn).mono ?_
 rintro v w' ⟨he,hv⟩
 unfold putPage
 by_cases h1:isSize size=false\/kind<1\/kind > 7
 .rw [if_pos h1] at hv
  rw [if_pos h1,hv]
  exact ⟨none,0,rfl,RowAt.nil _ _,Fresh.none _,he,Nat.le_refl _⟩
 .rw [if_neg h1] at hv
  rw [if_neg h1]
  by_cases h2:(body.length:Int) > size - 5
  .rw [if_pos h2] at hv
   rw [if_pos h2,hv]
   exact ⟨none,0,rfl,RowAt.nil _ _,Fresh.none _,he,Nat.le_refl _⟩
  .rw [if_neg h2] at hv
   rw [if_neg h2]
   obtain ⟨a',c',rfl,hb,hf,hc⟩:=hv
   have hl:(pageOf size.toNat kind body).length=size.toNat:=pageOf_length _ _ _ (by omega)
   exact ⟨a',c',by rw [hl];rfl,hb,hf,he,by rw [hl];exact hc⟩
def PutOut (w w':World) (v:Value) (r:List UInt8×Nat):Prop:=∃ a c,v= .tuple #[.slice a r.1.length c,.int .i64 (r.2:Nat)]/\BytesAt w' a r.1/\Fresh w a/\Ext w w'/\r.1.length<=c
theorem rec_Put_spec {l:List Change} {w:World} {G:Nat->Prop} {a:Option Addr} {c:Nat} (h:SliceAt changeR w G a l) (hs:Small l) (hn:l.length<9000000000000000000) (size:Int) :
  CallsR prog K.rec_Put #[.int .i64 size,.slice a l.length c] w fun v w'=>PutOut w w' v (putL size l):=by
 apply rec_Put.sh
 suffices H:∀ R:Value->World->Prop,(∀ v w',PutOut w w' v (putL size l)->R v w')->rec_Put.body size a l.length c w R from H _ fun _ _ h=>h
 intro R hR
 unfold rec_Put.body
 refine (rec_body_spec h hs hn).mono ?_
 rintro _ w1 ⟨a1,c1,rfl,hl1,he1⟩
 refine ⟨_,_,_,_,rfl,br_intro (fun hm=>?_) fun hm=>?_⟩
 .have hp:putL size l=([],2):=by unfold putL;rw [if_neg (by simpa using hm)]
  rw [hp] at hR
  exact hR _ _ ⟨none,0,rfl,RowAt.nil _ _,Fresh.none _,he1,Nat.le_refl _⟩
 .have hm':mayL l=true:=by simpa using hm
  have hp:putL size l=putPage size 2 (bodyB l):=by unfold putL;rw [if_pos hm']
  rw [hp] at hR
  rw [if_pos hm'] at hl1 ⊢
  have:=bodyB_len hm'
  refine (putPage_seal (kind:=2) rfl hl1.bytes (by omega)).mono ?_
  rintro _ w2 ⟨a2,c2,rfl,hb2,hf2,he2,hc2⟩
  exact ⟨_,_,_,_,rfl,hR _ _ ⟨a2,c2,rfl,hb2,hf2.mono he1.size,he1.trans he2,hc2⟩⟩
section
theorem may_size {k:Key} (h:k.may=true):k.name.size<1000:=by
 obtain ⟨_,_,h3⟩:=Key.may_elim h
 have hs:k.name.size=k.bytes.length:=by unfold Key.bytes;rw [Array.length_toList];rfl
 rw [hs]
 rcases h3 with ⟨_,h,_⟩| ⟨_,h,_⟩| ⟨_,h,_⟩
 .rw [h];decide
 .have:=isName_len h;omega
 .rw [h];decide
def sumB (b:List UInt8):Nat:=(b.map UInt8.toNat).sum
theorem sumB_take {b:List UInt8} {i:Nat} (hi:i<b.length):sumB (b.take (i+1))=sumB (b.take i)+b[i].toNat:=by
 unfold sumB
 rw [List.take_succ_eq_append_getElem hi,List.map_append,List.sum_append]
 simp
theorem sumB_le (b:List UInt8):sumB b<=255 * b.length:=by
 unfold sumB
 induction b with
 | nil=>simp
 | cons x b ih =>
  have:=x.toNat_lt
  simp only [List.map_cons,List.sum_cons,List.length_cons]
  omega
theorem shape_End_spec {k:Key} (h:k.may=true) (w:World):CallsR prog K.shape_End #[keyV k] w fun v w'=>v= .bool (endK k)/\Ext w w':=by
 apply shape_End.sh
 suffices H:∀ R:Value->World->Prop,(∀ v w',v= .bool (endK k)/\Ext w w'->R v w')->shape_End.body k.ino k.what.toNat k.name k.chunk w R from H _ fun _ _ h=>h
 intro R hR
 unfold shape_End.body
 intro B1 w1 hn1
 have g1:w1.heap[B1]?=some (.cells (Key.vals k).toArray T.api_Key (0,0)):=hn1.get
 have hsz:=may_size h
 refine ⟨_,_,_,_,cells_all g1,(fact_PutKey_spec k (by omega) w1).mono ?_⟩
 rintro _ w2 ⟨a1,c1,rfl,hb1,he2⟩
 have e2:=hn1.upd.trans he2
 have hpk:putKeyB k=(keyB k,0):=by unfold putKeyB;rw [if_pos h]
 rw [hpk] at hb1 ⊢
 dsimp only at hb1 ⊢
 have hkl:=keyB_len h
 refine ⟨_,_,_,_,rfl,new_put (vs:=[.int .i64 0]) rfl fun B2 w4 hb4 hs4 he4 g4=>?_⟩
 have e4:=e2.trans he4
 have hss:=e2.size
 refine ⟨fun x u=>∃ i:Nat,x=i/\i<=(keyB k).length/\u.heap[B2]?=some (.cells #[.int .i64 (sumB ((keyB k).take i):Nat)] T.int (0,0))/\Upd (·=B2) w4 u,fun x _=>(((keyB k).length:Int) - x).toNat,⟨0,rfl,by omega,g4,Upd.refl _ _⟩,?_⟩
 rintro x u ⟨i,rfl,hi,gu,hu⟩
 have eu:Ext w u:=e4.beyond hu fun x hx=>by omega
 have hbu:BytesAt u a1 (keyB k):=RowAt.upd ((hb1.ext he4).bytes) hu fun p hp e=>by
  have:=(hb1.lt hp).2
  have h':p.block=B2:=e
  omega
 refine br_dec (fun hlt=>?_) fun hge=>?_
 .have hi':i<(keyB k).length:=by omega
  refine idx_byte hbu (by omega) (by omega) ⟨rfl,?_⟩
  simp only [Int.toNat_natCast]
  have hgd:(keyB k).getD i 0=(keyB k)[i]:=by rw [List.getD_eq_getElem?_getD,List.getElem?_eq_getElem hi'];rfl
  rw [hgd]
  apply shape_End_1.sh
  unfold shape_End_1.body
  have hsl:=sumB_le ((keyB k).take i)
  rw [List.length_take] at hsl
  have hlt8:=((keyB k)[i]).toNat_lt
  have ew:i64.wrap ((i:Int)+1)=((i+1:Nat):Int):=w64 (by omega) (by omega)
  have ex:i64.wrap (((sumB ((keyB k).take i):Nat):Int)+i64.wrap (((keyB k)[i].toNat:Nat):Int))=((sumB ((keyB k).take (i+1)):Nat):Int):=by
   rw [w64n (by omega),w64 (by omega) (by omega),sumB_take hi']
   omega
  refine ⟨_,cell_of gu rfl,?_⟩
  rw [ex]
  refine store_of gu (by simp) fun u' hput=>⟨rfl,?_⟩
  rw [ew]
  refine ⟨⟨i+1,rfl,hi',?_,hu.trans hput.upd1⟩,meas hi'⟩
  rw [hput.get]
  rfl
 .have hii:i=(keyB k).length:=by omega
  subst hii
  rw [List.take_length] at gu
  refine br_eq (fun _=>⟨_,cell_of gu rfl,by decide,?_⟩) fun h=>absurd rfl h
  have:(Int.tmod ((sumB (keyB k):Nat):Int) 4 == 3)=endK k:=by
   have e4':Int.tmod ((sumB (keyB k):Nat):Int) 4=((sumB (keyB k) % 4:Nat):Int):=tmod_nat _ 4
   rw [e4']
   unfold endK
   rw [Bool.eq_iff_iff]
   simp only [beq_iff_eq,decide_eq_true_eq]
   unfold sumB
   omega
  rw [this]
  exact hR _ _ ⟨rfl,eu⟩
section
variable {α:Type} {key:α->Key} {len:α->Nat}
theorem take_fold {room least:Nat} {xs:List α} {i:Nat} (hi:i<xs.length) (s:CutS α):(xs.take (i+1)).foldl (cutStep key len room least) s=cutStep key len room least ((xs.take i).foldl (cutStep key len room least) s) xs[i]:=by
 rw [List.take_succ_eq_append_getElem hi,List.foldl_append]
 rfl
def lensI (gs:List (List α)):List Int:=gs.map fun g=>(g.length:Int)
theorem lensI_append (gs:List (List α)) (g:List α):lensI (gs ++ [g])=lensI gs ++ [(g.length:Int)]:=by unfold lensI;simp
theorem lensI_length (gs:List (List α)):(lensI gs).length=gs.length:=by unfold lensI;simp
theorem OrdBy.at {l:List α} (h:OrdBy key l) {i j:Nat} (hij:i<j) (hj:j<l.length):before (key (l[i]'(by omega))) (key l[j])=true:=List.pairwise_iff_getElem.1 h i j (by omega) hj hij
theorem gs_len {gs:List (List α)} (h:∀ g∈gs,g≠[]):gs.length<=gs.flatten.length:=by
 induction gs with
 | nil=>simp
 | cons g gs ih =>
  have h1:=List.length_pos_iff.2 (h g (by simp))
  have h2:=ih fun x hx=>h x (by simp [hx])
  rw [List.flatten_cons,List.length_append,List.length_cons]
  omega
theorem shape_cut_spec {xs:List α} {w:World} {G:Nat->Prop} {a:Option Addr} {c:Nat} (h:SliceAt keyR w G a (xs.map key)) (hk:∀ x∈xs,(key x).may=true) (ho:OrdBy key xs) (hn:xs.length<1000000) {sz:Nat} (s1:128<=sz) (s2:sz<=256) (least:Nat) {fv:Value} (hroom:∀ x∈xs,len x<=roomT sz)
  (hcall:∀ (i:Nat) (hi:i<xs.length) u,Ext w u->∀ Q:Value->World->Prop,(∀ u',Ext u u'->Q (.int .i64 (len xs[i]:Nat)) u')->callT fv [Value.int .i64 i] u Q) :
  CallsR prog K.shape_cut #[.int .i64 sz,.slice a xs.length c,fv,.int .i64 least] w fun v w'=>∃ a' c',v= .tuple #[.slice a' (cutG key len (roomT sz) least xs).length c',.int .i64 0]/\IList w.heap.size w' a' c' (lensI (cutG key len (roomT sz) least xs))/\Ext w w':=by
 apply shape_cut.sh
 suffices H:∀ R:Value->World->Prop,(∀ v w',(∃ a' c',v= .tuple #[.slice a' (cutG key len (roomT sz) least xs).length c',.int .i64 0]/\IList w.heap.size w' a' c' (lensI (cutG key len (roomT sz) least xs))/\Ext w w')->R v w')->shape_cut.body sz a xs.length c fv least w R from H _ fun _ _ h=>h
 intro R hR
 unfold shape_cut.body
 refine (seal_Body_spec sz w).mono ?_
 rintro _ _ ⟨rfl,rfl⟩
 rename_i w
 have hsz:isSize (sz:Int)=true:=by simp [isSize];omega
 have hrm:i64.wrap (((sz:Int) - 5) - 1)=((roomT sz:Nat):Int):=by unfold roomT;rw [w64 (by omega) (by omega)];omega
 rw [if_pos hsz]
 refine ⟨_,rfl,?_⟩
 simp only [hrm]
 have hr0:122<=roomT sz/\roomT sz<=250:=by unfold roomT;omega
 have hnk:(xs.map key).length=xs.length:=List.length_map ..
 have hidx:∀ {u:World} {i:Nat} (hi:i<xs.length) {K':Addr->Prop},Ext w u->(∀ b o,RowAt u (some ⟨b,o+i * 4,none⟩) (Key.vals (key xs[i]))->K' ⟨b,o+i * 4,none⟩)->idxP a xs.length (i:Int) 4 K':=fun {u i} hi {K'} hu hk'=>by
  refine SliceAt.idx (r:=keyR) (l:=xs.map key) (i:=i) (h.ext hu) hnk.symm (by rw [hnk];exact hi) fun b o vs ha hrow hR' hG=>?_
  obtain rfl:vs=Key.vals (xs.map key)[i]:=hR'
  rw [List.getElem_map] at hrow
  exact hk' b o hrow
 refine br_dec (fun h=>absurd h (by omega)) fun _=>⟨fun x u=>∃ i:Nat,x=i/\i<=xs.length/\Ext w u,fun x _=>((xs.length:Int) - x).toNat,⟨0,rfl,by omega,Upd.refl _ _⟩,?_⟩
 rintro x u ⟨i,rfl,hi,heu⟩
 refine br_dec (fun hlt=>?_) fun hge=>?_
 .have hi':i<xs.length:=by omega
  have ew:i64.wrap ((i:Int)+1)=((i+1:Nat):Int):=w64 (by omega) (by omega)
  refine ⟨fun u'=>Ext w u',?_,?_⟩
  .refine hidx hi' heu fun b o hrow=>⟨_,_,_,_,hrow.cells,new_put (vs:=Key.vals (key xs[i])) rfl fun B1 w4 hb4 hs4 he4 g4=>?_⟩
   intro w5 hd5
   have e5:=(heu.trans he4).trans hd5.upd
   have hm:=hk _ (List.getElem_mem hi')
   have hms:=may_size hm
   refine ⟨fun u'=>Ext w5 u',Upd.refl _ _,_,_,_,_,fun u' hu'=>cells_all (Ext.get hu' (Ext.get hd5.upd g4)),(fact_MayKey_spec (key xs[i]) (by omega) w5).mono ?_⟩
   rintro _ w6 ⟨rfl,he6⟩
   refine ⟨_,rfl,he6,br_intro (fun hb=>by rw [hm] at hb;cases hb) fun _=>br_dec (fun hpos=>?_) fun _=>⟨he6,e5.trans he6⟩⟩
   have ew1:i64.wrap ((i:Int) - 1)=((i - 1:Nat):Int):=by rw [w64 (by omega) (by omega)];omega
   rw [ew1]
   refine hidx (u:=w5) (i:=i - 1) (by omega) e5 fun b' o' hrow'=>⟨_,_,_,_,fun u' hu'=>(RowAt.ext hrow' hu').cells,_,_,_,_,fun u' hu'=>cells_all (Ext.get hu' (Ext.get hd5.upd g4)),(fact_Before_spec _ _ w6).mono ?_⟩
   rintro _ w7 ⟨rfl,he7⟩
   have hbf:=ho.at (i:=i - 1) (j:=i) (by omega) hi'
   exact ⟨_,rfl,he6.trans he7,br_intro (fun hb=>by rw [hbf] at hb;cases hb) fun _=>(e5.trans he6).trans he7⟩
  .intro u' hu'
   rw [ew]
   exact ⟨⟨i+1,rfl,hi',hu'⟩,meas hi'⟩
 clear hge hi i
 obtain ⟨st,hst⟩: ∃ st:Nat->CutS α,∀ i,st i=(xs.take i).foldl (cutStep key len (roomT sz) least) ⟨[],[]⟩:=⟨_,fun _=>rfl⟩
 have hok:∀ i,(st i).Ok len (roomT sz) (xs.take i):=fun i=>by
  rw [hst]
  have:=(CutS.Ok.nil (len:=len) (room:=roomT sz) (α:=α)).fold (key:=key) (least:=least) (l:=xs.take i) (fun x hx=>hroom x (List.mem_of_mem_take hx))
  simpa using this
 have hst0:st 0=⟨[],[]⟩:=by rw [hst];rfl
 have hstn:∀ i (hi:i<xs.length),st (i+1)=cutStep key len (roomT sz) least (st i) xs[i]:=fun i hi=>by rw [hst,hst,take_fold hi]
 have hend:cutG key len (roomT sz) least xs=cutEnd (st xs.length):=by rw [hst,List.take_length];rfl
 have hgl:∀ i,(st i).gs.length<=i:=fun i=>by
  have h1:=gs_len (gs:=(st i).gs) fun g hg=>((hok i).gs g hg).ne
  have h2:=congrArg List.length (hok i).all
  rw [List.length_append,List.length_take] at h2
  omega
 rw [hend] at hR
 refine ⟨fun a1 l1 c1 x15 x16 x17 v=>∃ i:Nat,x17=i/\i<=xs.length/\l1=(st i).gs.length/\x15=((st i).cur.length:Nat)/\x16=((roomT sz - lens len (st i).cur:Nat):Int)/\IList w.heap.size v a1 c1 (lensI (st i).gs)/\Ext w v,fun _ _ _ _ _ x _=>((xs.length:Int) - x).toNat,⟨0,rfl,by omega,by rw [hst0];rfl,by rw [hst0];rfl,by rw [hst0,lens_nil];simp,by rw [hst0];exact IList.nil _ _,heu⟩,?_⟩
 rintro a1 l1 c1 x15 x16 x17 v ⟨i,rfl,hi,rfl,rfl,rfl,hil,hev⟩
 have hoi:=hok i
 have hgi:=hgl i
 refine br_dec (fun hlt=>?_) fun hge=>?_
 .have hi':i<xs.length:=by omega
  have ew:i64.wrap ((i:Int)+1)=((i+1:Nat):Int):=w64 (by omega) (by omega)
  refine hidx hi' hev fun b o hrow=>⟨_,_,_,_,hrow.cells,new_put (vs:=Key.vals (key xs[i])) rfl fun B2 v2 hb2 hs2 he2 g2=>?_⟩
  have hev2:=hev.trans he2
  refine hcall i hi' v2 hev2 _ fun v3 he3=>⟨_,rfl,?_⟩
  have hrx:=hroom _ (List.getElem_mem hi')
  have hsv:=hev.size
  have hev3:=hev2.trans he3
  have g3:=Ext.get he3 g2
  have hs3:=he3.size
  have hms:=hoi.most
  have hfs:=hoi.fits
  obtain ⟨hof,hf255,hfroom⟩:=hoi.full hrx
  refine br_dec (fun h=>absurd h (by omega)) fun _=>⟨fun a4 l4 c4 x22 x23 z=>l4=(cutFull len (roomT sz) (st i) xs[i]).gs.length/\x22=((cutFull len (roomT sz) (st i) xs[i]).cur.length:Nat)/\x23=((roomT sz - lens len (cutFull len (roomT sz) (st i) xs[i]).cur:Nat):Int)/\IList w.heap.size z a4 c4 (lensI (cutFull len (roomT sz) (st i) xs[i]).gs)/\Ext w z/\z.heap[B2]?=some (.cells (Key.vals (key xs[i])).toArray T.api_Key (0,0)),?_,?_⟩
  ·
   have hil3:=hil.ext (he2.trans he3)
   have full:(roomT sz<lens len (st i).cur+len xs[i]\/(st i).cur.length=255)->∀ (B3:Nat) (z:World),New v3 (.cells #[.int .i64 ((st i).cur.length:Nat)] T.int) B3 z->appendP T.int 1 8 [.int .i64 0] a1 (st i).gs.length c1 (.slice (some ⟨B3,0,none⟩) 1 1) z fun a2 l2 c2 z'=>l2=(cutFull len (roomT sz) (st i) xs[i]).gs.length/\(0:Int)=((cutFull len (roomT sz) (st i) xs[i]).cur.length:Nat)/\((roomT sz:Nat):Int)=((roomT sz - lens len (cutFull len (roomT sz) (st i) xs[i]).cur:Nat):Int)/\IList w.heap.size z' a2 c2 (lensI (cutFull len (roomT sz) (st i) xs[i]).gs)/\Ext w z'/\z'.heap[B2]?=some (.cells (Key.vals (key xs[i])).toArray T.api_Key (0,0)):=fun hc B3 z hz=>by
    have hcf:cutFull len (roomT sz) (st i) xs[i]=⟨(st i).gs ++ [(st i).cur],[]⟩:=by unfold cutFull;rw [if_pos hc]
    refine IList.pushX (G:=fun x=>x=B2) hil3 (fun b hb e=>by have:=hil.lt hb;omega) (fun x hx=>by omega) (lensI_length _).symm hz (by rw [lensI_length];omega) (by omega) fun a' c' z' hu hl' _=>?_
    rw [hcf]
    refine ⟨by rw [List.length_append,lensI_length];simp,rfl,by simp [lens_nil],by rw [lensI_append];exact hl',hev3.beyond hu fun x hx=>hx.1,hu.get g3 fun hx=>hx.2 rfl⟩
   refine br_dec (fun hgt=>full (.inl (by omega))) fun hgt=>br_eq (fun h255=>full (.inr (by omega))) fun h255=>?_
   have hcf:cutFull len (roomT sz) (st i) xs[i]=st i:=by unfold cutFull;rw [if_neg (by omega)]
   rw [hcf]
   exact ⟨rfl,rfl,rfl,hil3,hev3,g3⟩
  .rintro a4 l4 c4 x22 x23 z ⟨rfl,rfl,rfl,hz,hez,gz⟩
   have hsucc:=hstn i hi'
   unfold cutStep at hsucc
   simp only at hsucc
   have ewc:i64.wrap (((cutFull len (roomT sz) (st i) xs[i]).cur.length:Int)+1)=(((cutFull len (roomT sz) (st i) xs[i]).cur.length+1:Nat):Int):=w64 (by omega) (by omega)
   have ewl:i64.wrap (((roomT sz - lens len (cutFull len (roomT sz) (st i) xs[i]).cur:Nat):Int) - ((len xs[i]:Nat):Int))=((roomT sz - lens len ((cutFull len (roomT sz) (st i) xs[i]).cur ++ [xs[i]]):Nat):Int):=by
    rw [w64 (by omega) (by omega),lens_append,lens_one]
    omega
   simp only [ewc,ewl,ew]
   generalize cutFull len (roomT sz) (st i) xs[i]=t at *
   have stay:(decide (least<=t.cur.length+1) && endK (key xs[i]))=false->∀ z',Ext z z'->(∃ j:Nat,((i+1:Nat):Int)=j/\j<=xs.length/\t.gs.length=(st j).gs.length/\((t.cur.length+1:Nat):Int)=((st j).cur.length:Nat)/\((roomT sz - lens len (t.cur ++ [xs[i]]):Nat):Int)=((roomT sz - lens len (st j).cur:Nat):Int)/\IList w.heap.size z' a4 c4 (lensI (st j).gs)/\Ext w z')/\((xs.length:Int) - ((i+1:Nat):Int)).toNat<((xs.length:Int) - (i:Int)).toNat:=fun hf z' hz'=>by
    rw [hf,if_neg (by decide)] at hsucc
    refine ⟨⟨i+1,rfl,hi',?_,?_,?_,?_,hez.trans hz'⟩,meas hi'⟩
    .rw [hsucc]
    .rw [hsucc];simp
    .rw [hsucc]
    .rw [hsucc];exact hz.ext hz'
   refine br_dec (fun hle=>⟨_,_,_,_,cells_all gz,(shape_End_spec (hk _ (List.getElem_mem hi')) z).mono ?_⟩) fun hle=>stay (by rw [decide_eq_false (by omega)];rfl) z (Upd.refl _ _)
   rintro _ z1 ⟨rfl,he1⟩
   refine ⟨_,rfl,br_intro (fun he=>?_) fun he=>stay (by rw [he,Bool.and_false]) z1 he1⟩
   rw [he,decide_eq_true (by omega),Bool.and_true,if_pos rfl] at hsucc
   intro B5 z2 hz2
   have hsz1:=he1.size
   have hsez:=hez.size
   have htl:t.gs.length<=i:=by
    have h1:=gs_len (gs:=t.gs) fun g hg=>(hof.gs g hg).ne
    have h2:=congrArg List.length hof.all
    rw [List.length_append,List.length_take] at h2
    omega
   refine IList.push (hz.ext he1) (lensI_length _).symm hz2 (by rw [lensI_length];omega) (by omega) fun a' c' z' hu hl'=>⟨⟨i+1,rfl,hi',?_,?_,?_,?_,(hez.trans he1).beyond hu fun x hx=>hx⟩,meas hi'⟩
   .rw [hsucc,List.length_append,lensI_length];simp
   .rw [hsucc];rfl
   .rw [hsucc];simp [lens_nil]
   .rw [hsucc,lensI_append]
    simpa using hl'
 .have hii:i=xs.length:=by omega
  subst hii
  have hsv:=hev.size
  refine br_dec (fun hpos=>?_) fun h0=>?_
  .have hne:(st xs.length).cur≠[]:=fun e=>by rw [e] at hpos;simp at hpos
   have hce:cutEnd (st xs.length)=(st xs.length).gs ++ [(st xs.length).cur]:=by unfold cutEnd;rw [if_neg hne]
   intro B6 z hz
   refine IList.push hil (lensI_length _).symm hz (by rw [lensI_length];omega) (by omega) fun a' c' z' hu hl'=>?_
   rw [hce] at hR
   have:=hR (.tuple #[.slice a' ((st xs.length).gs ++ [(st xs.length).cur]).length c',.int .i64 0]) z' ⟨a',c',rfl,by rw [lensI_append];exact hl',hev.beyond hu fun x hx=>hx⟩
   rw [List.length_append,lensI_length]
   rw [List.length_append] at this
   simpa using this
  .have hne:(st xs.length).cur=[]:=List.eq_nil_of_length_eq_zero (by omega)
   have hce:cutEnd (st xs.length)=(st xs.length).gs:=by unfold cutEnd;rw [if_pos hne]
   rw [hce] at hR
   exact hR _ _ ⟨a1,c1,rfl,hil,hev⟩
end
end
theorem factV_cells {w:World} {B:Nat} {x:Fact} {a:Option Addr} {c:Nat} (h:w.heap[B]?=some (.cells (factVs x.key a x.val.length c).toArray T.api_Fact (0,0))):cellsAt w ⟨B,0,none⟩ [.int .i64 x.key.ino,bv x.key.what,.string x.key.name,.int .i64 x.key.chunk] 0:=by
 refine cellsAt_of h fun j v hj=>?_
 rcases j with _ | _ | _ | _ | j
 all_goals simp at hj ⊢
 all_goals exact hj
theorem fact_may {f:Fact} (h:mayF f=true):f.key.may=true/\1<=f.val.length/\f.val.length<=255:=by
 unfold mayF at h
 rw [Bool.and_eq_true,Bool.and_eq_true,decide_eq_true_eq,decide_eq_true_eq] at h
 exact ⟨h.1.1,h.1.2,h.2⟩
theorem leaf_LeafLength_spec {f:Fact} (h:mayF f=true) {w:World} {a:Option Addr} {c:Nat} :
  CallsR prog K.leaf_LeafLength #[.agg #[.int .i64 f.key.ino,bv f.key.what,.string f.key.name,.int .i64 f.key.chunk,.slice a f.val.length c]] w fun v w'=>v= .int .i64 (leafLen f:Nat)/\Ext w w':=by
 obtain ⟨hm,h1,h2⟩:=fact_may h
 apply leaf_LeafLength.sh
 suffices H:∀ R:Value->World->Prop,(∀ v w',v= .int .i64 (leafLen f:Nat)/\Ext w w'->R v w')->leaf_LeafLength.body f.key.ino f.key.what.toNat f.key.name f.key.chunk a f.val.length c w R from H _ fun _ _ h=>h
 intro R hR
 unfold leaf_LeafLength.body
 simp only [add_lit,Nat.zero_add]
 intro B1 w1 hn1
 have g1:w1.heap[B1]?=some (.cells (factVs f.key a f.val.length c).toArray T.api_Fact (0,0)):=hn1.get
 have hs:=may_size hm
 refine ⟨_,_,_,_,factV_cells g1,(fact_PutKey_spec f.key (by omega) w1).mono ?_⟩
 have hpk:putKeyB f.key=(keyB f.key,0):=by unfold putKeyB;rw [if_pos hm]
 rw [hpk]
 rintro _ w2 ⟨a1,c1,rfl,hl2,he2⟩
 have g2:=Ext.get he2 g1
 have:=keyB_len hm
 refine ⟨_,_,_,_,rfl,br_ne (fun h=>absurd rfl h) fun _=>⟨_,_,_,cell_of g2 rfl,?_⟩⟩
 have q1:i64.wrap (((keyB f.key).length:Int)+1)=(((keyB f.key).length+1:Nat):Int):=by rw [w64 (by omega) (by omega)];omega
 have q2:i64.wrap ((((keyB f.key).length+1:Nat):Int)+(f.val.length:Int))=((leafLen f:Nat):Int):=by unfold leafLen;rw [w64 (by omega) (by omega)];omega
 rw [q1,q2]
 exact hR _ _ ⟨rfl,hn1.upd.trans he2⟩
theorem leaf_InnerLength_spec {k:Key} (hm:k.may=true) (w:World):CallsR prog K.leaf_InnerLength #[keyV k] w fun v w'=>v= .int .i64 (innerLen k:Nat)/\Ext w w':=by
 apply leaf_InnerLength.sh
 suffices H:∀ R:Value->World->Prop,(∀ v w',v= .int .i64 (innerLen k:Nat)/\Ext w w'->R v w')->leaf_InnerLength.body k.ino k.what.toNat k.name k.chunk w R from H _ fun _ _ h=>h
 intro R hR
 unfold leaf_InnerLength.body
 intro B1 w1 hn1
 have g1:w1.heap[B1]?=some (.cells (Key.vals k).toArray T.api_Key (0,0)):=hn1.get
 have hs:=may_size hm
 refine ⟨_,_,_,_,cells_all g1,(fact_PutKey_spec k (by omega) w1).mono ?_⟩
 have hpk:putKeyB k=(keyB k,0):=by unfold putKeyB;rw [if_pos hm]
 rw [hpk]
 rintro _ w2 ⟨a1,c1,rfl,hl2,he2⟩
 have:=keyB_len hm
 refine ⟨_,_,_,_,rfl,br_ne (fun h=>absurd rfl h) fun _=>?_⟩
 have q1:i64.wrap (((keyB k).length:Int)+2)=((innerLen k:Nat):Int):=by unfold innerLen;rw [w64 (by omega) (by omega)];omega
 dsimp only
 rw [q1]
 exact hR _ _ ⟨rfl,hn1.upd.trans he2⟩
def GroupsOut {α:Type} (w w':World) (v:Value) (gs:List (List α)):Prop:=∃ a c,v= .tuple #[.slice a gs.length c,.int .i64 0]/\IList w.heap.size w' a c (lensI gs)/\Ext w w'
theorem keyR_len (l:List Key):(l.flatMap Key.vals).length=l.length * 4:=by
 induction l with
 | nil=>rfl
 | cons k l ih=>rw [List.flatMap_cons,List.length_append,ih,List.length_cons,Nat.succ_mul];show 4 + _=_;omega
theorem shape_Leaves_spec {sz:Nat} (s1:128<=sz) (s2:sz<=256) {l:List Fact} (hl:FitL sz l) (hn:l.length<1000000) {w:World} {G:Nat->Prop} {a:Option Addr} {c:Nat} (h:SliceAt factR w G a l) :
  CallsR prog K.shape_Leaves #[.int .i64 sz,.slice a l.length c] w fun v w'=>GroupsOut w w' v (leavesG sz l):=by
 apply shape_Leaves.sh
 suffices H:∀ R:Value->World->Prop,(∀ v w',GroupsOut w w' v (leavesG sz l)->R v w')->shape_Leaves.body sz a l.length c w R from H _ fun _ _ h=>h
 intro R hR
 unfold shape_Leaves.body
 intro B1 w1 hn1
 have e1:=hn1.upd
 have hs1:=hn1.size
 have g1:w1.heap[B1]?=some (.cells #[.slice a l.length c] T.L_api_Fact (0,0)):=hn1.get
 refine ⟨_,_,_,cell_of g1 rfl,fun a2 l2 c2 x u=>∃ i:Nat,x=i/\i<=l.length/\l2=((l.take i).map Fact.key).length/\ListAt keyR NoB w1.heap.size u a2 c2 T.api_Key ((l.take i).map Fact.key)/\Ext w1 u,fun _ _ _ x _=>((l.length:Int) - x).toNat,⟨0,rfl,by omega,by simp,ListAt.nil _ _,Upd.refl _ _⟩,?_⟩
 rintro a2 l2 c2 x u ⟨i,rfl,hi,rfl,hlst,heu⟩
 have esu:=heu.size
 refine br_dec (fun hlt=>?_) fun hge=>?_
 .have hi':i<l.length:=by omega
  have ew:i64.wrap ((i:Int)+1)=((i+1:Nat):Int):=w64 (by omega) (by omega)
  refine SliceAt.idx (r:=factR) (h.ext (e1.trans heu)) rfl hi' fun b o vs ha hrow hR' hG'=>?_
  obtain ⟨av,cv,rfl,hcv,hbv,hgv⟩:=factR_elim hR'
  refine ⟨_,_,_,_,_,_,_,hrow.cells,new_put (vs:=factVs l[i].key av l[i].val.length cv) rfl fun B2 w4 hb4 hs4 he4 g4=>?_⟩
  refine ⟨_,_,_,_,factV_cells g4,fun B3 w5 hn5=>?_⟩
  have e5:=he4.trans hn5.upd
  have hs5:=hn5.size
  have hx:keyR.R w5 NoB (#[Value.int .i64 l[i].key.ino,bv l[i].key.what,.string l[i].key.name,.int .i64 l[i].key.chunk]:Array Value).toList l[i].key:=rfl
  refine ListAt.push (r:=keyR) (hlst.ext e5) hx (fun b hb=>hb.elim) hn5 rfl rfl (by simp;omega) (by decide) (by omega) fun a' c' w' hu hl'=>?_
  rw [ew]
  refine ⟨⟨i+1,rfl,hi',?_,?_,(heu.trans e5).beyond hu fun x hx=>hx⟩,meas hi'⟩
  .rw [List.take_succ_eq_append_getElem hi',List.map_append];rfl
  .rw [List.take_succ_eq_append_getElem hi',List.map_append];exact hl'
 .have hii:i=l.length:=by omega
  subst hii
  rw [List.take_length] at hlst ⊢
  obtain ⟨G2,hsl,hG2⟩:=hlst.slice
  have hnl:(l.map Fact.key).length=l.length:=List.length_map ..
  rw [hnl]
  refine (shape_cut_spec (key:=Fact.key) (len:=leafLen) (xs:=l) hsl (fun f hf=>(fact_may (hl.may f hf)).1) hl.sorted hn s1 s2 1 hl.len (fun i hi u' hu' Q hQ=>?_)).mono ?_
  .refine ⟨rfl,?_⟩
   show CallsR prog K.shape_Leaves_1 _ u' _
   apply shape_Leaves_1.sh
   unfold shape_Leaves_1.body
   refine ⟨_,_,_,cell_of (Ext.get (heu.trans hu') g1) rfl,SliceAt.idx (r:=factR) (h.ext ((e1.trans heu).trans hu')) rfl hi fun b o vs ha hrow hR' hG'=>?_⟩
   obtain ⟨av,cv,rfl,hcv,hbv,hgv⟩:=factR_elim hR'
   refine ⟨_,_,_,_,_,_,_,hrow.cells,(leaf_LeafLength_spec (hl.may _ (List.getElem_mem hi))).mono ?_⟩
   rintro _ w7 ⟨rfl,he7⟩
   exact ⟨_,rfl,hQ _ he7⟩
  .rintro _ w8 ⟨a8,c8,rfl,hl8,he8⟩
   exact ⟨_,_,_,_,rfl,hR _ _ ⟨a8,c8,rfl,hl8.weak (by omega),(e1.trans heu).trans he8⟩⟩
theorem shape_Above_spec {α:Type} {key:α->Key} {sz:Nat} (s1:128<=sz) (s2:sz<=256) {xs:List α} (hk:∀ x∈xs,(key x).may=true) (ho:OrdBy key xs) (hn:xs.length<1000000) {w:World} {G:Nat->Prop} {a:Option Addr} {c:Nat} (h:SliceAt keyR w G a (xs.map key)) :
  CallsR prog K.shape_Above #[.int .i64 sz,.slice a xs.length c] w fun v w'=>GroupsOut w w' v (cutG key (fun x=>innerLen (key x)) (roomT sz) 2 xs):=by
 apply shape_Above.sh
 suffices H:∀ R:Value->World->Prop,(∀ v w',GroupsOut w w' v (cutG key (fun x=>innerLen (key x)) (roomT sz) 2 xs)->R v w')->shape_Above.body sz a xs.length c w R from H _ fun _ _ h=>h
 intro R hR
 unfold shape_Above.body
 intro B1 w1 hn1
 have e1:=hn1.upd
 have hs1:=hn1.size
 have g1:w1.heap[B1]?=some (.cells #[.slice a xs.length c] T.L_api_Key (0,0)):=hn1.get
 refine ⟨_,_,_,cell_of g1 rfl,?_⟩
 refine (shape_cut_spec (key:=key) (len:=fun x=>innerLen (key x)) (xs:=xs) (h.ext e1) hk ho hn s1 s2 2 (fun x hx=>by have:=innerLen_le (hk x hx);unfold roomT;omega) (fun i hi u' hu' Q hQ=>?_)).mono ?_
 .refine ⟨rfl,?_⟩
  show CallsR prog K.shape_Above_1 _ u' _
  apply shape_Above_1.sh
  unfold shape_Above_1.body
  refine ⟨_,_,_,cell_of (Ext.get hu' g1) rfl,SliceAt.idx (r:=keyR) (l:=xs.map key) (h.ext (e1.trans hu')) (List.length_map ..).symm (by rw [List.length_map];exact hi) fun b o vs ha hrow hR' hG'=>?_⟩
  obtain rfl:vs=Key.vals ((xs.map key)[i]'(by rw [List.length_map];exact hi)):=hR'
  rw [List.getElem_map] at hrow
  refine ⟨_,_,_,_,hrow.cells,(leaf_InnerLength_spec (hk _ (List.getElem_mem hi)) u').mono ?_⟩
  rintro _ w7 ⟨rfl,he7⟩
  exact ⟨_,rfl,hQ _ he7⟩
 .rintro _ w8 ⟨a8,c8,rfl,hl8,he8⟩
  exact ⟨_,_,_,_,rfl,hR _ _ ⟨a8,c8,rfl,hl8.weak (by omega),e1.trans he8⟩⟩
theorem child_may {x:Child} (h:mayCh x=true):x.key.may=true/\0<=x.block/\x.block<=255/\0<=x.page/\x.page<=255:=by
 unfold mayCh at h
 simp only [Bool.and_eq_true,decide_eq_true_eq] at h
 exact ⟨h.1.1.1.1,h.1.1.1.2,h.1.1.2,h.1.2,h.2⟩
theorem leaf_PutLeaf_spec {sz:Nat} {g:List Fact} (hm:∀ f∈g,mayF f=true) (ho:Sorted g) (h1:1<=g.length) (h2:g.length<=255) {w:World} {G:Nat->Prop} {a:Option Addr} {c:Nat} (h:SliceAt factR w G a g) :
  CallsR prog K.leaf_PutLeaf #[.int .i64 sz,.slice a g.length c] w fun v w'=>PutOut w w' v (putLeaf sz g):=by
 have hp:putLeaf sz g=putPage sz 4 (leafBody g):=by unfold putLeaf;rw [if_pos ⟨h1,h2,ordered_sorted.2 ho,List.all_eq_true.2 hm⟩]
 rw [hp]
 apply leaf_PutLeaf.sh
 suffices H:∀ R:Value->World->Prop,(∀ v w',PutOut w w' v (putPage sz 4 (leafBody g))->R v w')->leaf_PutLeaf.body sz a g.length c w R from H _ fun _ _ h=>h
 intro R hR
 unfold leaf_PutLeaf.body
 simp only [add_lit,Nat.zero_add]
 refine ⟨fun u=>u=w,br_dec (fun h=>absurd h (by omega)) fun _=>br_dec (fun h=>absurd h (by omega)) fun _=>rfl,?_⟩
 rintro _ rfl
 rename_i w
 intro B1 w2 hn2
 rw [bv_mod,Nat.mod_eq_of_lt (by omega)] at hn2
 have hs2:=hn2.size
 refine ⟨fun a' l' c' x u=>∃ i:Nat,x=i/\i<=g.length/\l'=(UInt8.ofNat g.length :: (g.take i).flatMap leafB).length/\BList w.heap.size u a' c' (UInt8.ofNat g.length :: (g.take i).flatMap leafB)/\Ext w u,fun _ _ _ x _=>((g.length:Int) - x).toNat,
  ⟨0,rfl,by omega,by simp,BList.new (l:=[UInt8.ofNat g.length]) hn2 rfl (Nat.le_refl _),hn2.upd⟩,?_⟩
 rintro a1 l1 c1 x u ⟨i,rfl,hi,rfl,hl,heu⟩
 have hsu:=heu.size
 have hacc:(UInt8.ofNat g.length :: (g.take i).flatMap leafB).length<=100000:=by
  have:=flat_len_le (f:=leafB) (g.take i) (fun x hx=>leafB_len (hm x (List.mem_of_mem_take hx)))
  simp only [List.length_cons,List.length_take] at this ⊢
  have:min i g.length * 300<=255 * 300:=Nat.mul_le_mul_right _ (by omega)
  omega
 refine br_dec (fun hlt=>?_) fun hge=>?_
 .have hi':i<g.length:=by omega
  have ew:i64.wrap ((i:Int)+1)=((i+1:Nat):Int):=w64 (by omega) (by omega)
  simp only [ew]
  have hsucc:UInt8.ofNat g.length :: (g.take (i+1)).flatMap leafB=(UInt8.ofNat g.length :: (g.take i).flatMap leafB) ++ leafB g[i]:=by
   rw [List.take_succ_eq_append_getElem hi',List.flatMap_append];simp
  generalize hpre:UInt8.ofNat g.length :: (g.take i).flatMap leafB=pre at *
  obtain ⟨hkm,hv1,hv2⟩:=fact_may (hm _ (List.getElem_mem hi'))
  have hks:=may_size hkm
  have hkl:=keyB_len hkm
  refine SliceAt.idx (r:=factR) (h.ext heu) rfl hi' fun b o vs ha hrow hR' hG'=>?_
  obtain ⟨av,cv,rfl,hcv,hbv,hgv⟩:=factR_elim hR'
  refine ⟨_,_,_,_,_,_,_,hrow.cells,new_put (vs:=factVs g[i].key av g[i].val.length cv) rfl fun B2 w5 hb5 hs5 he5 g5=>?_⟩
  refine ⟨_,_,_,_,factV_cells g5,(fact_PutKey_spec g[i].key (by omega) w5).mono ?_⟩
  have hpk:putKeyB g[i].key=(keyB g[i].key,0):=by unfold putKeyB;rw [if_pos hkm]
  rw [hpk]
  rintro _ w6 ⟨a3,c3,rfl,hl3,he6⟩
  refine ⟨_,_,_,_,rfl,fun w7 hd7=>?_⟩
  have e57:=he6.trans hd7.upd
  have g7:=Ext.get e57 g5
  have e7:=(heu.trans he5).trans e57
  have hs7:=e57.size
  have row:∀ w8,Ext w7 w8->∃ (a6:Option Addr) (l6 c6:Nat),World.cell? w8 ⟨B2,4,none⟩= some (.slice a6 l6 c6)/\CallsR prog K.ends_Row #[.slice a6 l6 c6] w8 fun v3 w9=>∃ (a7:Option Addr) (l7 c7:Nat),∃ x15:Int,v3= .tuple #[.slice a7 l7 c7,.int .i64 x15]/\
    appendP T.uint8 1 1 [.int .u8 0] a1 pre.length c1 (.slice a3 (keyB g[i].key).length c3) w9 fun a8 l8 c8 w10=>appendP T.uint8 1 1 [.int .u8 0] a8 l8 c8 (.slice a7 l7 c7) w10 fun a9 l9 c9 w11=>(∃ j:Nat,((i+1:Nat):Int)=j/\j<=g.length/\l9=(UInt8.ofNat g.length :: (g.take j).flatMap leafB).length/\BList w.heap.size w11 a9 c9 (UInt8.ofNat g.length :: (g.take j).flatMap leafB)/\Ext w w11)/\((g.length:Int) - ((i+1:Nat):Int)).toNat<((g.length:Int) - (i:Int)).toNat:=fun w8 he8=>by
   refine ⟨_,_,_,cell_of (Ext.get he8 g7) rfl,(ends_Row_spec (hbv.ext ((he5.trans e57).trans he8))).mono ?_⟩
   have hrb:rowB g[i].val=(UInt8.ofNat g[i].val.length :: g[i].val,0):=by unfold rowB;rw [if_pos hv2]
   rw [hrb]
   rintro _ W9 ⟨a7,c7,rfl,hl7,he9⟩
   have hs8:=he8.size
   have hs9:=he9.size
   have e9:=(e7.trans he8).trans he9
   refine ⟨_,_,_,_,rfl,BList.catX (G:=fun b=>u.heap.size<=b/\b<W9.heap.size) (hl.ext ((he5.trans e57).trans (he8.trans he9))) (fun b hb hg=>by have:=(hl.lt hb).2;have h':b<u.heap.size:=this;omega) (fun x hx=>hx.2) rfl rfl ((hl3.ext hd7.upd).ext (he8.trans he9)).bytes (by simp;omega) (by omega) fun a8 c8 W10 hu10 hl10 _=>?_⟩
   have hs10:=hu10.size
   have hb7:BytesAt W10 a7 (UInt8.ofNat g[i].val.length :: g[i].val):=RowAt.upd hl7.bytes hu10 fun p hp hx=>hx.2 ⟨by have:=(hl7.lt hp).1;omega,(hl7.lt hp).2⟩
   refine BList.cat hl10 rfl rfl hb7 (by simp;omega) (by omega) fun a9 c9 W11 hu11 hl11=>?_
   have hassoc:pre ++ keyB g[i].key ++ (UInt8.ofNat g[i].val.length :: g[i].val)=UInt8.ofNat g.length :: (g.take (i+1)).flatMap leafB:=by rw [hsucc];unfold leafB;simp
   rw [hassoc] at hl11 ⊢
   exact ⟨⟨i+1,rfl,hi',rfl,hl11,(e9.beyond hu10 fun x hx=>hx.1).beyond hu11 fun x hx=>hx⟩,meas hi'⟩
  refine ⟨fun u'=>Ext w7 u',Upd.refl _ _,br_ne (fun h=>absurd rfl h) fun _=>⟨_,_,_,fun u' hu'=>cell_of (Ext.get hu' g7) rfl,br_dec (fun h=>absurd h (by omega)) fun _=>⟨_,_,_,fun u' hu'=>cell_of (Ext.get hu' g7) rfl,br_dec (fun h=>absurd h (by omega)) fun _=>br_dec (fun hpos=>?_) fun _=>⟨Upd.refl _ _,row w7 (Upd.refl _ _)⟩⟩⟩⟩
  have ew1:i64.wrap ((i:Int) - 1)=((i - 1:Nat):Int):=by rw [w64 (by omega) (by omega)];omega
  rw [ew1]
  refine SliceAt.idx (r:=factR) (i:=i - 1) (h.ext e7) rfl (by omega) fun b o vs ha hrow hR' hG'=>?_
  obtain ⟨av',cv',rfl,_,_,_⟩:=factR_elim hR'
  have hr4:=RowAt.take hrow 4
  refine ⟨_,_,_,_,fun u' hu'=>(RowAt.ext hr4 hu').cells,_,_,_,_,fun u' hu'=>factV_cells (Ext.get hu' g7),(fact_Before_spec _ _ w7).mono ?_⟩
  rintro _ w8 ⟨rfl,he8⟩
  have hbf:before (g[i - 1]'(by omega)).key g[i].key=true:=List.pairwise_iff_getElem.1 ho (i - 1) i (by omega) hi' (by omega)
  exact ⟨_,rfl,he8,br_intro (fun hb=>by rw [hbf] at hb;cases hb) fun _=>row w8 he8⟩
 .have hii:i=g.length:=by omega
  subst hii
  rw [List.take_length] at hl hacc ⊢
  refine (putPage_seal (kind:=4) rfl hl.bytes (by omega)).mono ?_
  rintro _ w2 ⟨a2,c2,rfl,hb2,hf2,he2,hc2⟩
  exact ⟨_,_,_,_,rfl,hR _ _ ⟨a2,c2,rfl,hb2,hf2.mono heu.size,heu.trans he2,hc2⟩⟩
theorem leaf_PutInner_spec {sz:Nat} {g:List Child} (hm:∀ x∈g,mayCh x=true) (ho:OrdBy Child.key g) (h1:1<=g.length) (h2:g.length<=255) {w:World} {G:Nat->Prop} {a:Option Addr} {c:Nat} (h:SliceAt childR w G a g) :
  CallsR prog K.leaf_PutInner #[.int .i64 sz,.slice a g.length c] w fun v w'=>PutOut w w' v (putInner sz g):=by
 have hp:putInner sz g=putPage sz 5 (innerBody g):=by unfold putInner;rw [if_pos ⟨h1,h2,ordered_bare.2 ho,List.all_eq_true.2 hm⟩]
 rw [hp]
 apply leaf_PutInner.sh
 suffices H:∀ R:Value->World->Prop,(∀ v w',PutOut w w' v (putPage sz 5 (innerBody g))->R v w')->leaf_PutInner.body sz a g.length c w R from H _ fun _ _ h=>h
 intro R hR
 unfold leaf_PutInner.body
 simp only [add_lit,Nat.zero_add]
 refine ⟨fun u=>u=w,br_dec (fun h=>absurd h (by omega)) fun _=>br_dec (fun h=>absurd h (by omega)) fun _=>rfl,?_⟩
 rintro _ rfl
 rename_i w
 intro B1 w2 hn2
 rw [bv_mod,Nat.mod_eq_of_lt (by omega)] at hn2
 have hs2:=hn2.size
 refine ⟨fun a' l' c' x u=>∃ i:Nat,x=i/\i<=g.length/\l'=(UInt8.ofNat g.length :: (g.take i).flatMap innerB).length/\BList w.heap.size u a' c' (UInt8.ofNat g.length :: (g.take i).flatMap innerB)/\Ext w u,fun _ _ _ x _=>((g.length:Int) - x).toNat,
  ⟨0,rfl,by omega,by simp,BList.new (l:=[UInt8.ofNat g.length]) hn2 rfl (Nat.le_refl _),hn2.upd⟩,?_⟩
 rintro a1 l1 c1 x u ⟨i,rfl,hi,rfl,hl,heu⟩
 have hsu:=heu.size
 have hacc:(UInt8.ofNat g.length :: (g.take i).flatMap innerB).length<=100000:=by
  have:=flat_len_le (f:=innerB) (g.take i) (fun x hx=>innerB_len (hm x (List.mem_of_mem_take hx)))
  simp only [List.length_cons,List.length_take] at this ⊢
  have:min i g.length * 300<=255 * 300:=Nat.mul_le_mul_right _ (by omega)
  omega
 refine br_dec (fun hlt=>?_) fun hge=>?_
 .have hi':i<g.length:=by omega
  have ew:i64.wrap ((i:Int)+1)=((i+1:Nat):Int):=w64 (by omega) (by omega)
  simp only [ew]
  have hsucc:UInt8.ofNat g.length :: (g.take (i+1)).flatMap innerB=(UInt8.ofNat g.length :: (g.take i).flatMap innerB) ++ innerB g[i]:=by
   rw [List.take_succ_eq_append_getElem hi',List.flatMap_append];simp
  generalize hpre:UInt8.ofNat g.length :: (g.take i).flatMap innerB=pre at *
  obtain ⟨hkm,hc1,hc2,hc3,hc4⟩:=child_may (hm _ (List.getElem_mem hi'))
  have hks:=may_size hkm
  have hkl:=keyB_len hkm
  refine SliceAt.idx (r:=childR) (h.ext heu) rfl hi' fun b o vs ha hrow hR' hG'=>?_
  obtain rfl:vs=childVs g[i]:=hR'
  refine ⟨_,_,_,_,_,_,hrow.cells,new_put (vs:=childVs g[i]) rfl fun B2 w5 hb5 hs5 he5 g5=>?_⟩
  have hcell4:∀ {z:World},z.heap[B2]?=some (.cells (childVs g[i]).toArray T.api_Child (0,0))->cellsAt z ⟨B2,0,none⟩ [.int .i64 g[i].key.ino,bv g[i].key.what,.string g[i].key.name,.int .i64 g[i].key.chunk] 0:=fun {z} hz=>(RowAt.take (RowAt.of hz (o:=0) (vs:=childVs g[i]) fun j v hj=>by simpa using hj) 4).cells
  refine ⟨_,_,_,_,hcell4 g5,(fact_PutKey_spec g[i].key (by omega) w5).mono ?_⟩
  have hpk:putKeyB g[i].key=(keyB g[i].key,0):=by unfold putKeyB;rw [if_pos hkm]
  rw [hpk]
  rintro _ w6 ⟨a3,c3,rfl,hl3,he6⟩
  have g6:=Ext.get he6 g5
  have e6:=(heu.trans he5).trans he6
  have hs6:=he6.size
  refine ⟨_,_,_,_,rfl,fun z=>Ext w6 z,fun w7 hd7=>?_,?_⟩
  .have g7:=Ext.get hd7.upd g6
   have e7:=e6.trans hd7.upd
   refine ⟨fun u'=>Ext w7 u',Upd.refl _ _,br_ne (fun h=>absurd rfl h) fun _=>⟨_,fun u' hu'=>cell_of (Ext.get hu' g7) rfl,br_dec (fun h=>absurd h (by omega)) fun _=>⟨_,fun u' hu'=>cell_of (Ext.get hu' g7) rfl,br_dec (fun h=>absurd h (by omega)) fun _=>⟨_,fun u' hu'=>cell_of (Ext.get hu' g7) rfl,br_dec (fun h=>absurd h (by omega)) fun _=>⟨_,fun u' hu'=>cell_of (Ext.get hu' g7) rfl,br_dec (fun h=>absurd h (by omega)) fun _=>br_dec (fun hpos=>?_) fun _=>⟨Upd.refl _ _,hd7.upd⟩⟩⟩⟩⟩⟩
   have ew1:i64.wrap ((i:Int) - 1)=((i - 1:Nat):Int):=by rw [w64 (by omega) (by omega)];omega
   rw [ew1]
   refine SliceAt.idx (r:=childR) (i:=i - 1) (h.ext e7) rfl (by omega) fun b o vs ha hrow hR' hG'=>?_
   obtain rfl:vs=childVs (g[i - 1]'(by omega)):=hR'
   have hr4:=RowAt.take hrow 4
   refine ⟨_,_,_,_,fun u' hu'=>(RowAt.ext hr4 hu').cells,_,_,_,_,fun u' hu'=>hcell4 (Ext.get hu' g7),(fact_Before_spec _ _ w7).mono ?_⟩
   rintro _ w8 ⟨rfl,he8⟩
   have hbf:before (g[i - 1]'(by omega)).key g[i].key=true:=ho.at (i:=i - 1) (j:=i) (by omega) hi'
   exact ⟨_,rfl,he8,br_intro (fun hb=>by rw [hbf] at hb;cases hb) fun _=>hd7.upd.trans he8⟩
  intro W9 he9 W10 hd10
  have he10:=he9.trans hd10.upd
  have g10:=Ext.get he10 g6
  have e10:=e6.trans he10
  have hs10:=he10.size
  have hlen2:innerB g[i]=keyB g[i].key ++ [UInt8.ofNat g[i].block.toNat,UInt8.ofNat g[i].page.toNat]:=rfl
  have qb:(Value.int .u8 (u8.wrap g[i].block))=bv (UInt8.ofNat g[i].block.toNat):=by
   have:g[i].block=((g[i].block.toNat:Nat):Int):=by omega
   rw [this,bv_mod,Nat.mod_eq_of_lt (by omega)]
   rfl
  have qp:(Value.int .u8 (u8.wrap g[i].page))=bv (UInt8.ofNat g[i].page.toNat):=by
   have:g[i].page=((g[i].page.toNat:Nat):Int):=by omega
   rw [this,bv_mod,Nat.mod_eq_of_lt (by omega)]
   rfl
  have done:∀ {a4:Option Addr} {c4:Nat} {z:World},BList w.heap.size z a4 c4 (pre ++ keyB g[i].key ++ [UInt8.ofNat g[i].block.toNat,UInt8.ofNat g[i].page.toNat])->Ext w z->(∃ j:Nat,((i+1:Nat):Int)=j/\j<=g.length/\(pre ++ keyB g[i].key ++ [UInt8.ofNat g[i].block.toNat,UInt8.ofNat g[i].page.toNat]).length=(UInt8.ofNat g.length :: (g.take j).flatMap innerB).length/\BList w.heap.size z a4 c4 (UInt8.ofNat g.length :: (g.take j).flatMap innerB)/\Ext w z)/\((g.length:Int) - ((i+1:Nat):Int)).toNat<((g.length:Int) - (i:Int)).toNat:=fun {a4 c4 z} hz hez=>by
   rw [List.append_assoc,<- hlen2,<- hsucc] at hz ⊢
   exact ⟨⟨i+1,rfl,hi',rfl,hz,hez⟩,meas hi'⟩
  refine ⟨fun z=>z.heap[B2]?=some (.cells (childVs g[i]).toArray T.api_Child (0,0)),g10,_,fun z hz=>cell_of hz rfl,_,fun z hz=>cell_of hz rfl,?_,?_⟩
  .refine BList.catX (G:=fun b=>u.heap.size<=b/\b<W10.heap.size) (hl.ext ((he5.trans he6).trans he10)) (fun b hb hg=>by have:=(hl.lt hb).2;have h':b<u.heap.size:=this;omega) (fun x hx=>hx.2) rfl rfl (hl3.ext he10).bytes (by simp;omega) (by omega) fun a8 c8 W11 hu11 hl11 _=>?_
   have hs11:=hu11.size
   have g11:=hu11.get g10 fun hx=>hx.2 ⟨by omega,by have:=(Array.getElem?_eq_some_iff.1 g10).1;omega⟩
   refine ⟨g11,fun B3 w12 hn12=>?_⟩
   rw [qb,qp] at hn12
   have g12:=Ext.get hn12.upd g11
   have hs12:=hn12.size
   have hb12:=hn12.num
   have hB2:B2<W11.heap.size:=(Array.getElem?_eq_some_iff.1 g11).1
   refine ⟨g12,BList.catX (G:=fun b=>b=B2\/b=B3) (hl11.ext hn12.upd) (fun b hb hg=>by
    have h':b<W11.heap.size:=(hl11.lt hb).2
    rcases hg with hg | hg
    .subst hg
     rename_i hno
     exact hno b hb ⟨by omega,by have:=(Array.getElem?_eq_some_iff.1 g10).1;omega⟩
    .omega) (fun x hx=>by rcases hx with hx | hx<;>omega) rfl rfl (xs:=[UInt8.ofNat g[i].block.toNat,UInt8.ofNat g[i].page.toNat]) (RowAt.of hn12.get fun j v hj=>by simpa using hj) (by simp;omega) (by omega) fun a9 c9 w13 hu13 hl13 _=>⟨hu13.get g12 fun hx=>hx.2 (.inl rfl),done hl13 (((e10.beyond hu11 fun x hx=>hx.1).trans hn12.upd).beyond hu13 fun x hx=>hx.1)⟩⟩
  .intro B4 W11 hn11
   rw [qb,qp] at hn11
   have g11:=Ext.get hn11.upd g10
   have hs11:=hn11.size
   have hb11:=hn11.num
   have hB2:B2<W10.heap.size:=(Array.getElem?_eq_some_iff.1 g10).1
   refine ⟨g11,BList.catX (G:=fun b=>u.heap.size<=b/\b<W11.heap.size) (hl.ext (((he5.trans he6).trans he10).trans hn11.upd)) (fun b hb hg=>by have:=(hl.lt hb).2;have h':b<u.heap.size:=this;omega) (fun x hx=>hx.2) rfl rfl ((hl3.ext he10).ext hn11.upd).bytes (by simp;omega) (by omega) fun a8 c8 w12 hu12 hl12 hno=>?_⟩
   have hs12:=hu12.size
   have g12:=hu12.get g11 fun hx=>hx.2 ⟨by omega,by omega⟩
   have hrow12:RowAt w12 (some ⟨B4,0,none⟩) ([UInt8.ofNat g[i].block.toNat,UInt8.ofNat g[i].page.toNat].map bv):=RowAt.of (hu12.get hn11.get fun hx=>hx.2 ⟨by omega,by omega⟩) fun j v hj=>by simpa using hj
   refine ⟨g12,BList.catX (G:=fun b=>u.heap.size<=b/\b<W11.heap.size) hl12 hno (fun x hx=>by omega) rfl rfl (xs:=[UInt8.ofNat g[i].block.toNat,UInt8.ofNat g[i].page.toNat]) hrow12 (by simp;omega) (by omega) fun a9 c9 w13 hu13 hl13 _=>⟨hu13.get g12 fun hx=>hx.2 ⟨by omega,by omega⟩,done hl13 (((e10.trans hn11.upd).beyond hu12 fun x hx=>hx.1).beyond hu13 fun x hx=>hx.1)⟩⟩
 .have hii:i=g.length:=by omega
  subst hii
  rw [List.take_length] at hl hacc ⊢
  refine (putPage_seal (kind:=5) rfl hl.bytes (by omega)).mono ?_
  rintro _ w2 ⟨a2,c2,rfl,hb2,hf2,he2,hc2⟩
  exact ⟨_,_,_,_,rfl,hR _ _ ⟨a2,c2,rfl,hb2,hf2.mono heu.size,heu.trans he2,hc2⟩⟩
abbrev fieldVs (f:Nat×Nat):List Value:=[.int .u64 (f.1:Nat),.int .i64 (f.2:Nat)]
theorem point_lay_spec {fs:List (Nat×Nat)} (hf:∀ f∈fs,isSz f.2=true/\f.1<256 ^ f.2/\f.2<=8) (hn:fs.length<=100) {w:World} {a:Option Addr} {c:Nat} (h:RowAt w a (fs.flatMap fieldVs)) :
  CallsR prog K.point_lay #[.slice a fs.length c] w fun v w'=>∃ a' c',v= .slice a' (fs.flatMap fun f=>leB f.1 f.2).length c'/\BList w.heap.size w' a' c' (fs.flatMap fun f=>leB f.1 f.2)/\Ext w w':=by
 apply point_lay.sh
 unfold point_lay.body
 refine ⟨fun a' l' c' x u=>∃ i:Nat,x=i/\i<=fs.length/\l'=((fs.take i).flatMap fun f=>leB f.1 f.2).length/\BList w.heap.size u a' c' ((fs.take i).flatMap fun f=>leB f.1 f.2)/\Ext w u,fun _ _ _ x _=>((fs.length:Int) - x).toNat,⟨0,rfl,by omega,rfl,BList.nil _ _,Upd.refl _ _⟩,?_⟩
 rintro a1 l1 c1 x u ⟨i,rfl,hi,rfl,hl,heu⟩
 have hsu:=heu.size
 have hacc:((fs.take i).flatMap fun f=>leB f.1 f.2).length<=10000:=by
  have:=flat_len_le (f:=fun f:Nat×Nat=>leB f.1 f.2) (n:=8) (fs.take i) (fun x hx=>by rw [leB_length];exact (hf x (List.mem_of_mem_take hx)).2.2)
  rw [List.length_take] at this
  have:min i fs.length * 8<=100 * 8:=Nat.mul_le_mul_right _ (by omega)
  omega
 refine br_dec (fun hlt=>?_) fun hge=>?_
 .have hi':i<fs.length:=by omega
  have ew:i64.wrap ((i:Int)+1)=((i+1:Nat):Int):=w64 (by omega) (by omega)
  simp only [ew]
  refine idx_flat (k:=2) (f:=fieldVs) (fun _=>rfl) (by omega) (h.ext heu) rfl hi' fun b o hab hr=>?_
  refine ⟨_,_,hr.cells,new_put (vs:=fieldVs fs[i]) rfl fun B1 w3 hb3 hs3 he3 g3=>⟨_,cell_of g3 rfl,_,cell_of g3 rfl,?_⟩⟩
  obtain ⟨q1,q2,q3⟩:=hf _ (List.getElem_mem hi')
  refine (ends_Put_spec fs[i].1 fs[i].2 w3 q1 q2).mono ?_
  rintro _ w4 ⟨a2,c2,rfl,hb2,_,he4⟩
  have hlen:=leB_length fs[i].2 fs[i].1
  have hs4:=he4.size
  refine ⟨_,_,_,_,rfl,BList.cat (hl.ext (he3.trans he4)) rfl hlen.symm hb2 (by omega) (by omega) fun a3 c3 w5 hu5 hl5=>?_⟩
  have hsucc:((fs.take (i+1)).flatMap fun f=>leB f.1 f.2)=((fs.take i).flatMap fun f=>leB f.1 f.2) ++ leB fs[i].1 fs[i].2:=by
   rw [List.take_succ_eq_append_getElem hi',List.flatMap_append];simp
  rw [<- hsucc] at hl5 ⊢
  exact ⟨⟨i+1,rfl,hi',rfl,hl5,((heu.trans he3).trans he4).beyond hu5 fun x hx=>hx⟩,meas hi'⟩
 .have hii:i=fs.length:=by omega
  subst hii
  rw [List.take_length] at hl ⊢
  exact ⟨a1,c1,rfl,hl,heu⟩
theorem point_Put_spec (size:Int) (p:Point) (hq:p.number<18446744073709551616) (w:World) :
  CallsR prog K.point_Put #[.int .i64 size,pointV p] w fun v w'=>PutOut w w' v (putPoint size p):=by
 apply point_Put.sh
 suffices H:∀ R:Value->World->Prop,(∀ v w',PutOut w w' v (putPoint size p)->R v w')->point_Put.body size (p.number:Nat) p.block p.page p.count w R from H _ fun _ _ h=>h
 intro R hR
 unfold point_Put.body
 simp only [add_lit,Nat.zero_add]
 intro B1 w1 hn1
 have hs1:=hn1.size
 have g1:w1.heap[B1]?=some (.cells p.vals.toArray T.api_Point (0,0)):=hn1.get
 refine ⟨_,_,_,_,cells_all g1,(point_may_spec p w1).mono ?_⟩
 rintro _ w2 ⟨rfl,he2⟩
 have e2:=hn1.upd.trans he2
 have g2:=Ext.get he2 g1
 refine ⟨_,rfl,br_intro (fun hno=>?_) fun hyes=>?_⟩
 .have hm:p.may=false:=by simpa using hno
  have hp:putPoint size p=([],2):=by unfold putPoint;rw [hm];rfl
  rw [hp] at hR
  exact hR _ _ ⟨none,0,rfl,RowAt.nil _ _,Fresh.none _,e2,Nat.le_refl _⟩
 .have hm:p.may=true:=by simpa using hyes
  have hp:putPoint size p=putPage size 6 p.body:=by unfold putPoint;rw [if_pos hm]
  rw [hp] at hR
  obtain ⟨hr,_,_⟩:=p.may_iff.1 hm
  refine ⟨_,cell_of g2 rfl,_,cell_of g2 rfl,_,cell_of g2 rfl,_,cell_of g2 rfl,fun B2 w3 hn3=>?_⟩
  have q1:u64.wrap p.block=((p.block.toNat:Nat):Int):=by rw [wu64_mod];omega
  have q2:u64.wrap p.page=((p.page.toNat:Nat):Int):=by rw [wu64_mod];omega
  have q3:u64.wrap p.count=((p.count.toNat:Nat):Int):=by rw [wu64_mod];omega
  rw [q1,q2,q3] at hn3
  have hbody:([(p.number,8),(p.block.toNat,1),(p.page.toNat,1),(p.count.toNat,2)]:List (Nat×Nat)).flatMap (fun f=>leB f.1 f.2)=p.body:=by
   unfold Point.body
   simp only [List.flatMap_cons,List.flatMap_nil,List.append_nil]
   congr 1
   have h1:leB p.block.toNat 1=[UInt8.ofNat p.block.toNat]:=by
    show [UInt8.ofNat (p.block.toNat % 256)]=_
    rw [Nat.mod_eq_of_lt (by omega)]
   have h2:leB p.page.toNat 1=[UInt8.ofNat p.page.toNat]:=by
    show [UInt8.ofNat (p.page.toNat % 256)]=_
    rw [Nat.mod_eq_of_lt (by omega)]
   have h3:leB p.count.toNat 2=[UInt8.ofNat (p.count.toNat % 256),UInt8.ofNat (p.count.toNat / 256)]:=by
    show [UInt8.ofNat (p.count.toNat % 256),UInt8.ofNat (p.count.toNat / 256 % 256)]=_
    rw [Nat.mod_eq_of_lt (a:=p.count.toNat / 256) (by omega)]
   rw [h1,h2,h3]
   rfl
  have hrow:RowAt w3 (some ⟨B2,0,none⟩) (([(p.number,8),(p.block.toNat,1),(p.page.toNat,1),(p.count.toNat,2)]:List (Nat×Nat)).flatMap fieldVs):=RowAt.of hn3.get fun j v hj=>by
   rw [Nat.zero_add,<- Array.getElem?_toList]
   exact hj
  refine (point_lay_spec (c:=4) (fs:=[(p.number,8),(p.block.toNat,1),(p.page.toNat,1),(p.count.toNat,2)]) (fun f hf=>?_) (by simp) hrow).mono ?_
  .have e8:(256:Nat) ^ 8=18446744073709551616:=by decide
   have e2':(256:Nat) ^ 2=65536:=by decide
   simp only [List.mem_cons,List.not_mem_nil,or_false] at hf
   rcases hf with rfl | rfl | rfl | rfl
   .exact ⟨rfl,by simp only [e8];exact hq,by simp⟩
   .exact ⟨rfl,by simp;omega,by simp⟩
   .exact ⟨rfl,by simp;omega,by simp⟩
   .exact ⟨rfl,by simp only [e2'];omega,by simp⟩
  rintro _ w4 ⟨a4,c4,rfl,hl4,he4⟩
  rw [hbody] at hl4 ⊢
  have e4:=(e2.trans hn3.upd).trans he4
  have hbl:p.body.length=12:=by unfold Point.body;simp [leB_length]
  refine ⟨_,_,_,rfl,(putPage_seal (kind:=6) rfl hl4.bytes (by omega)).mono ?_⟩
  rintro _ w5 ⟨a5,c5,rfl,hb5,hf5,he5,hc5⟩
  exact ⟨_,_,_,_,rfl,hR _ _ ⟨a5,c5,rfl,hb5,hf5.mono e4.size,e4.trans he5,hc5⟩⟩
theorem slice_behind {α:Type} {r:ERep α} {w:World} {G:Nat->Prop} {a:Option Addr} {l:List α} {n cap j:Nat} (h:SliceAt r w G a l) (hn:n=l.length) (hc:n<=cap) (hj:j<=l.length) {K:Option Addr->Nat->Nat->Prop} (hk:∀ a',SliceAt r w G a' (l.drop j)->(l.drop j).length<=cap - j->K a' (l.drop j).length (cap - j)):sliceP r.k a n cap (some (j:Int)) none none K:=by
 subst hn
 have hdl:(l.drop j).length=l.length - j:=List.length_drop ..
 refine slice_from (by omega) (by omega) hc ?_
 rw [Int.toNat_natCast,<- hdl]
 refine hk _ ?_ (by omega)
 by_cases he:l.drop j=[]
 .rw [he];exact SliceAt.nil _ _ _
 .have hlt:j<l.length:=by
   rcases Nat.lt_or_ge j l.length with h | h
   .exact h
   .exact absurd (List.drop_of_length_le h) he
  obtain ⟨b,o,rfl,_,_⟩:=h.blk (List.ne_nil_of_length_pos (by omega))
  rw [if_neg (by omega),Option.map_some,add_lit]
  exact h.drop j
def firstK (g:List Key):Key:=g.head?.getD Key.zero
def planUpI (sz:Nat):Nat->List Key->List (List Int)
 | 0,_=>[]
 | n+1,ks=>if ks.length<=1 then [] else
  lensI (cutG (fun k:Key=>k) innerLen (roomT sz) 2 ks) :: planUpI sz n ((cutG (fun k:Key=>k) innerLen (roomT sz) 2 ks).map firstK)
def planI (sz:Nat) (l:List Fact):List (List Int):=if l=[] then [] else lensI (leavesG sz l) :: planUpI sz ((leavesG sz l).length+1) ((leavesG sz l).map firstF)
theorem firstF_map (g:List Fact):firstK (g.map Fact.key)=firstF g:=by
 unfold firstK firstF
 rw [List.head?_map]
theorem lensI_map {α β:Type} (f:α->β) (gs:List (List α)):lensI (gs.map (List.map f))=lensI gs:=by
 unfold lensI
 rw [List.map_map]
 exact List.map_congr_left fun g _=>by simp
theorem flatten_drop_cons {α:Type} {gs:List (List α)} {i:Nat} (hi:i<gs.length):(gs.drop i).flatten=gs[i] ++ (gs.drop (i+1)).flatten:=by
 rw [List.drop_eq_getElem_cons hi,List.flatten_cons]
theorem heads_sublist {α:Type} {z:α}:∀ {gs:List (List α)},(∀ g∈gs,g≠[])->(gs.map fun g=>g.head?.getD z).Sublist gs.flatten
 | [],_=>List.Sublist.slnil
 | [] :: gs,h=>absurd rfl (h [] (by simp))
 |(x :: g) :: gs,h=>by
  have ih:=heads_sublist (z:=z) (gs:=gs) fun g hg=>h g (by simp [hg])
  rw [List.map_cons,List.flatten_cons]
  show (x :: _).Sublist ((x :: g) ++ gs.flatten)
  rw [List.cons_append]
  exact List.Sublist.cons_cons _ (List.Sublist.trans ih (List.sublist_append_right _ _))
theorem rows_key (w:World) (G:Nat->Prop):∀ l:List Key,Rows keyR w G (l.flatMap Key.vals) l
 | []=>rfl
 | k :: l=>⟨Key.vals k,l.flatMap Key.vals,by simp,rfl,rows_key w G l⟩
theorem rows_int (w:World) (G:Nat->Prop):∀ l:List Int,Rows intR w G (l.map (Value.int .i64)) l
 | []=>rfl
 | k :: l=>⟨[.int .i64 k],l.map (Value.int .i64),by simp,rfl,rows_int w G l⟩
theorem IList.sliceI {S:Nat} {w:World} {a:Option Addr} {c:Nat} {l:List Int} (h:IList S w a c l):SliceAt intR w (fun b=>S<=b/\b<w.heap.size) a l:=by
 refine ⟨_,h.1.row,rows_int _ _ _,fun hne p hp=>?_⟩
 obtain ⟨_,_,hx⟩:=h.1
 rcases hx with ⟨hx,_⟩| ⟨b,cur,hx,hb,_⟩
 .rw [hx] at hp;cases hp
 .rw [hx] at hp
  cases hp
  exact ⟨h.2 b hx,(Array.getElem?_eq_some_iff.1 hb).1⟩
abbrev rowsR:ERep (List Int):=sliceR intR
theorem planUpI_small {sz n:Nat} {ks:List Key} (h:ks.length<=1):planUpI sz n ks=[]:=by
 cases n with
 | zero=>rfl
 | succ n=>unfold planUpI;rw [if_pos h]
theorem stem_plan_spec {sz:Nat} (s1:128<=sz) (s2:sz<=256) {l:List Fact} (hl:FitL sz l) (hn:l.length<1000000) {w:World} {G:Nat->Prop} {a:Option Addr} {c:Nat} (h:SliceAt factR w G a l) :
  CallsR prog K.stem_plan #[.int .i64 sz,.slice a l.length c] w fun v w'=>SliceOut rowsR w w' v (planI sz l) 0:=by
 apply stem_plan.sh
 suffices H:∀ R:Value->World->Prop,(∀ v w',SliceOut rowsR w w' v (planI sz l) 0->R v w')->stem_plan.body sz a l.length c w R from H _ fun _ _ h=>h
 intro R hR
 unfold stem_plan.body
 refine (shape_Leaves_spec s1 s2 hl hn h).mono ?_
 rintro _ w1 ⟨a1,c1,rfl,hl1,he1⟩
 obtain ⟨hfl,hgok⟩:=cutG_ok (key:=Fact.key) (len:=leafLen) (room:=roomT sz) (least:=1) (l:=l) hl.len
 change (leavesG sz l).flatten=l at hfl
 change ∀ g∈leavesG sz l,_ at hgok
 refine ⟨_,_,_,_,rfl,fun u=>u=w1/\l≠[],br_ne (fun h=>absurd rfl h) fun _=>br_eq (fun h0=>?_) fun h0=>⟨rfl,fun e=>h0 ?_⟩,?_⟩
 .have hge:leavesG sz l=[]:=List.eq_nil_of_length_eq_zero (by omega)
  have hle:l=[]:=by rw [<- hfl,hge];rfl
  have hpe:planI sz l=[]:=by unfold planI;rw [if_pos hle]
  exact hR _ _ (SliceOut.none hpe he1)
 .subst e;rfl
 rintro _ ⟨rfl,hne⟩
 rename_i w1
 have hs1:=he1.size
 have hkb:(l.length:Int) * 40<=2 ^ 48:=by
  have:(2:Int) ^ 48=281474976710656:=by decide
  omega
 refine ⟨by omega,Int.le_refl _,by omega,by rw [Int.mul_comm];exact hkb,rfl,fun Bk w3 hn3=>?_⟩
 have hBk:Bk=w1.heap.size:=hn3.num
 have hs3:=hn3.size
 have e3:=he1.trans hn3.upd
 rw [Int.toNat_natCast] at hn3 ⊢
 have hkeys0:OwnS keyR w3 NoB (some ⟨Bk,0,none⟩) l.length T.api_Key (List.replicate l.length Key.zero):=by
  have hz:zerosL [Value.int .i64 0,.int .u8 0,.string ByteArray.empty,.int .i64 0] l.length=(List.replicate l.length Key.zero).flatMap Key.vals:=zerosL_flat Key.vals Key.zero l.length
  have hlen:((List.replicate l.length Key.zero).flatMap Key.vals).length=l.length * 4:=by rw [keyR_len,List.length_replicate]
  have hg:=hn3.get
  refine ⟨(List.replicate l.length Key.zero).flatMap Key.vals,⟨by rw [List.length_replicate];exact hlen,by rw [List.length_replicate];exact Nat.le_refl _,.inr ⟨Bk,_,rfl,hg,?_,?_⟩⟩,rows_key _ _ _⟩
  .rw [List.size_toArray]
   show (zerosL [Value.int .i64 0,.int .u8 0,.string ByteArray.empty,.int .i64 0] l.length).length=l.length * 4
   rw [hz,hlen]
  .show (zerosL [Value.int .i64 0,.int .u8 0,.string ByteArray.empty,.int .i64 0] l.length).take _=_
   rw [hz,List.length_replicate]
   exact List.take_of_length_le (by rw [hlen];exact Nat.le_refl _)
 refine ⟨fun x u=>∃ (i:Nat) (ks:List Key),x=i/\i<=l.length/\ks.length=l.length/\ks.take i=(l.take i).map Fact.key/\OwnS keyR u NoB (some ⟨Bk,0,none⟩) l.length T.api_Key ks/\Upd (·=Bk) w3 u,fun x _=>((l.length:Int) - x).toNat,⟨0,_,rfl,by omega,by simp,rfl,hkeys0,Upd.refl _ _⟩,?_⟩
 rintro x u ⟨i,ks,rfl,hi,hks,hti,hown,hu⟩
 have eu:Ext w u:=e3.beyond hu fun x hx=>by omega
 refine br_dec (fun hlt=>?_) fun hge=>?_
 .have hi':i<l.length:=by omega
  have ew:i64.wrap ((i:Int)+1)=((i+1:Nat):Int):=w64 (by omega) (by omega)
  refine SliceAt.idx (r:=factR) (h.ext eu) rfl hi' fun b o vs ha hrow hR' hG'=>?_
  obtain ⟨av,cv,rfl,hcv,hbv,hgv⟩:=factR_elim hR'
  refine ⟨_,_,_,_,_,_,_,hrow.cells,new_put (vs:=factVs l[i].key av l[i].val.length cv) rfl fun B1 w6 hb6 hs6 he6 g6=>⟨_,_,_,_,factV_cells g6,?_⟩⟩
  refine ⟨by omega,by omega,?_⟩
  simp only [nilC_some',add_lit,Nat.zero_add,Int.toNat_natCast]
  refine OwnS.store (r:=keyR) (hown.ext he6) (fun h=>h.elim) (i:=i) (by omega) (x:=l[i].key) rfl fun w7 hu7 hl7=>?_
  rw [ew]
  refine ⟨⟨i+1,_,rfl,hi',by rw [List.length_set];exact hks,?_,hl7,(hu.then he6).trans hu7⟩,meas hi'⟩
  rw [List.take_succ_eq_append_getElem (by rw [List.length_set];omega),List.getElem_set_self,List.take_set_of_le (by omega),hti,List.take_succ_eq_append_getElem hi',List.map_append]
  rfl
 have hil:i=l.length:=by omega
 subst hil
 have hkeq:ks=l.map Fact.key:=by
  rw [List.take_of_length_le (by omega),List.take_length] at hti
  exact hti
 subst hkeq
 have hsu:=hu.size
 have hl1u:SliceAt intR u (fun _=>True) a1 (lensI (leavesG sz l)):=(hl1.sliceI.upd ((Upd.ext hn3.upd).trans hu) fun b hb e=>by omega).mono fun _ _=>trivial
 have hc1u:(leavesG sz l).length<=c1:=by have:=hl1.1.2.1;rwa [lensI_length] at this
 intro B2 w8 hn8
 have hB2:=hn8.num
 have e8:=eu.trans hn8.upd
 have hs8:=hn8.size
 have hlev0:ListAt rowsR NoB w.heap.size w8 (some ⟨B2,0,none⟩) 1 T.L_int [lensI (leavesG sz l)]:=by
  refine ⟨fun b=>w.heap.size<=b/\b<w1.heap.size,⟨[.slice a1 (leavesG sz l).length c1],⟨rfl,Nat.le_refl _,.inr ⟨B2,_,rfl,hn8.get,rfl,rfl⟩⟩,Rows.single (r:=rowsR) ⟨a1,c1,by rw [lensI_length],by rw [lensI_length];exact hc1u,((hl1.sliceI.upd ((Upd.ext hn3.upd).trans hu) fun b hb e=>by omega).ext hn8.upd)⟩⟩,fun x hx=>⟨.inl hx.1,by omega⟩,fun b hb=>?_⟩
  cases hb
  exact ⟨by omega,fun hx=>by omega⟩
 refine ⟨fun a4 l4 c4 a5 l5 c5 a6 l6 c6 v=>∃ (f:Nat) (gs:List (List Key)) (LV:List (List Int)),l4=gs.length/\SliceAt intR v (fun _=>True) a4 (lensI gs)/\l5=gs.flatten.length/\l5<=c5/\SliceAt keyR v (fun b=>b<v.heap.size) a5 gs.flatten/\l6=LV.length/\ListAt rowsR NoB w.heap.size v a6 c6 T.L_int LV/\Ext w v/\(∀ g∈gs,g≠[])/\gs≠[]/\OrdBy (fun k:Key=>k) gs.flatten/\(∀ k∈gs.flatten,k.may=true)/\gs.length<=f/\gs.flatten.length<1000000/\LV.length+gs.length<=2000000/\LV ++ planUpI sz f (gs.map firstK)=planI sz l,fun _ l4 _ _ _ _ _ _ _ _=>l4,?_,?_⟩
 .have hfm:((leavesG sz l).map (List.map Fact.key)).flatten=l.map Fact.key:=by rw [<- List.map_flatten,hfl]
  have hgl:=gs_len (gs:=leavesG sz l) fun g hg=>(hgok g hg).ne
  rw [hfl] at hgl
  refine ⟨(leavesG sz l).length+1,(leavesG sz l).map (List.map Fact.key),[lensI (leavesG sz l)],by rw [List.length_map],by rw [lensI_map];exact hl1u.ext hn8.upd,by rw [hfm,List.length_map],Nat.le_refl _,?_,rfl,hlev0,e8,fun g hg=>?_,fun e=>?_,?_,fun k hk=>?_,by rw [List.length_map];omega,by rw [hfm,List.length_map];exact hn,by rw [List.length_map];simp;omega,?_⟩
  .rw [hfm]
   exact ((hown.mono fun _ hb=>hb.elim).at_ fun p hp=>by cases hp;show Bk < _;omega).ext hn8.upd
  .obtain ⟨g',hg',rfl⟩:=List.mem_map.1 hg
   simpa using (hgok g' hg').ne
  .have:leavesG sz l=[]:=by simpa using e
   rw [this] at hfl
   exact hne hfl.symm
  .rw [hfm]
   exact List.pairwise_map.2 hl.sorted
  .rw [hfm] at hk
   obtain ⟨y,hy,rfl⟩:=List.mem_map.1 hk
   exact (fact_may (hl.may y hy)).1
  .unfold planI
   rw [if_neg hne,List.map_map]
   have:(firstK ∘ List.map Fact.key)=firstF:=by funext g;exact firstF_map g
   rw [this]
   rfl
 rintro a4 l4 c4 a5 l5 c5 a6 l6 c6 v ⟨f,gs,LV,rfl,hcnt,rfl,hc5,hkey,rfl,hlev,hev,hgne,hgs0,hord,hmay,hf,hfl6,hLV,hplan⟩
 have hsv:=hev.size
 have hgsl:=gs_len hgne
 refine ⟨fun a7 l7 c7 a8 l8 c8 x z=>∃ i:Nat,x=i/\i<=gs.length/\l7=(gs.drop i).flatten.length/\l7<=c7/\SliceAt keyR z (fun b=>b<v.heap.size) a7 (gs.drop i).flatten/\l8=((gs.take i).map firstK).length/\ListAt keyR NoB v.heap.size z a8 c8 T.api_Key ((gs.take i).map firstK)/\Ext v z,fun _ _ _ _ _ _ x _=>((gs.length:Int) - x).toNat,⟨0,rfl,by omega,rfl,hc5,hkey,rfl,ListAt.nil _ _,Upd.refl _ _⟩,?_⟩
 rintro a7 l7 c7 a8 l8 c8 x z ⟨i,rfl,hi,rfl,hc7,hk7,rfl,hl8,hez⟩
 have hsz:=hez.size
 refine br_dec (fun hlt=>?_) fun hge=>?_
 .have hi':i<gs.length:=by omega
  have ew:i64.wrap ((i:Int)+1)=((i+1:Nat):Int):=w64 (by omega) (by omega)
  have hil:i<(lensI gs).length:=by rw [lensI_length];exact hi'
  refine SliceAt.idx (r:=intR) (hcnt.ext hez) (lensI_length gs).symm hil fun b o vs ha hrow hR' hG'=>?_
  obtain rfl:vs=[.int .i64 ((lensI gs)[i])]:=hR'
  have hx:(lensI gs)[i]=((gs[i].length:Nat):Int):=by simp [lensI]
  have hdc:=flatten_drop_cons hi'
  have hgi:=hgne _ (List.getElem_mem hi')
  obtain ⟨k0,r0,hk0⟩: ∃ k0 r0,gs[i]=k0 :: r0:=by
   cases hg:gs[i] with
   | nil=>exact absurd hg hgi
   | cons k0 r0=>exact ⟨k0,r0,rfl⟩
  have hfk:firstK gs[i]=k0:=by rw [hk0];rfl
  have h0:(gs.drop i).flatten=k0 :: (r0 ++ (gs.drop (i+1)).flatten):=by rw [hdc,hk0];rfl
  refine ⟨_,(hrow.cells).1,?_⟩
  rw [hx]
  refine SliceAt.idx (r:=keyR) (i:=0) hk7 rfl (by rw [h0];simp) fun b' o' vs' ha' hrow' hR'' _=>?_
  have hv':vs'=Key.vals k0:=by
   have:vs'=Key.vals ((gs.drop i).flatten[0]'(by rw [h0];simp)):=hR''
   rw [this]
   congr 1
   simp only [h0,List.getElem_cons_zero]
  subst hv'
  refine ⟨_,_,_,_,hrow'.cells,fun B3 z1 hz1=>?_⟩
  have hsz1:=hz1.size
  have hxk:keyR.R z1 NoB (#[Value.int .i64 k0.ino,bv k0.what,.string k0.name,.int .i64 k0.chunk]:Array Value).toList k0:=rfl
  refine ListAt.push (r:=keyR) (hl8.ext hz1.upd) hxk (fun b hb=>hb.elim) hz1 rfl rfl (by simp;omega) (by decide) (by omega) fun a' c' z2 hu2 hl2=>?_
  have hez2:Ext v z2:=(hez.trans hz1.upd).beyond hu2 fun x hx=>hx
  have hk72:SliceAt keyR z2 (fun b=>b<v.heap.size) a7 (gs.drop i).flatten:=(hk7.ext hz1.upd).upd hu2 fun b hb hx=>by omega
  refine slice_behind (r:=keyR) hk72 rfl hc7 (by rw [hdc,List.length_append];omega) fun a'' hk'' hc''=>?_
  have hdrop:(gs.drop i).flatten.drop gs[i].length=(gs.drop (i+1)).flatten:=by rw [hdc,List.drop_left]
  rw [hdrop] at hk'' hc'' ⊢
  rw [ew]
  have htk:(gs.take (i+1)).map firstK=(gs.take i).map firstK ++ [k0]:=by rw [List.take_succ_eq_append_getElem hi',List.map_append,<- hfk];rfl
  rw [<- htk] at hl2 ⊢
  exact ⟨⟨i+1,rfl,hi',rfl,hc'',hk'',rfl,hl2,hez2⟩,meas hi'⟩
 .have hig:i=gs.length:=by omega
  subst hig
  rw [List.take_length] at hl8 ⊢
  have hfn:(gs.map firstK).length=gs.length:=List.length_map ..
  have hevz:=hev.trans hez
  rw [hfn]
  refine br_eq (fun h1=>?_) fun h1=>?_
  .have hp:planI sz l=LV:=by rw [<- hplan,planUpI_small (by rw [hfn];omega),List.append_nil]
   rw [hp] at hR
   obtain ⟨G6,hsl6,hG6⟩:=(hlev.ext hez).slice
   exact hR _ _ ⟨a6,c6,G6,rfl,hsl6,fun b hb=>by
    obtain ⟨h1,h2⟩:=hG6 b hb
    rcases h1 with h1 | h1
    .exact ⟨h1,h2⟩
    .exact h1.elim,hlev.cap,hevz⟩
  .have hpos:1<=gs.length:=List.length_pos_iff.2 hgs0
   obtain ⟨f',rfl⟩: ∃ f',f=f'+1:=⟨f - 1,by omega⟩
   obtain ⟨G8,hsl8,hG8⟩:=hl8.slice
   have hsub:=heads_sublist (z:=Key.zero) hgne
   change (gs.map firstK).Sublist gs.flatten at hsub
   have hfo:OrdBy (fun k:Key=>k) (gs.map firstK):=List.Pairwise.sublist hsub hord
   have hfm:∀ k∈gs.map firstK,k.may=true:=fun k hk=>hmay k (hsub.subset hk)
   have hsl8':SliceAt keyR z G8 a8 ((gs.map firstK).map fun k:Key=>k):=by rw [List.map_id'];exact hsl8
   have hab:=shape_Above_spec (key:=fun k:Key=>k) (c:=c8) s1 s2 hfm hfo (by rw [hfn];omega) hsl8'
   rw [hfn] at hab
   refine hab.mono ?_
   rintro _ z1 ⟨a11,c11,rfl,hl11,hez1⟩
   change IList z.heap.size z1 a11 c11 (lensI (cutG (fun k:Key=>k) innerLen (roomT sz) 2 (gs.map firstK))) at hl11
   have hcok:=cutG_ok (key:=fun k:Key=>k) (len:=innerLen) (room:=roomT sz) (least:=2) (l:=gs.map firstK) (fun k hk=>by have:=innerLen_le (hfm k hk);unfold roomT;omega)
   have hctwo:=cutG_two (key:=fun k:Key=>k) (len:=innerLen) (room:=roomT sz) (least:=2) (Nat.le_refl _) (l:=gs.map firstK) (fun k hk=>by have:=innerLen_le (hfm k hk);unfold roomT;omega)
   have hcne:=cutG_ne (key:=fun k:Key=>k) (len:=innerLen) (room:=roomT sz) (least:=2) (l:=gs.map firstK) (fun k hk=>by have:=innerLen_le (hfm k hk);unfold roomT;omega) (fun e=>by have h:=hfn;rw [e] at h;change 0=gs.length at h;omega)
   have hplan':planUpI sz (f'+1) (gs.map firstK)=lensI (cutG (fun k:Key=>k) innerLen (roomT sz) 2 (gs.map firstK)) :: planUpI sz f' ((cutG (fun k:Key=>k) innerLen (roomT sz) 2 (gs.map firstK)).map firstK):=by
    conv=>lhs;unfold planUpI
    rw [if_neg (by rw [hfn];omega)]
   rw [hplan'] at hplan
   rw [hfn] at hctwo
   have hlc:(cutG (fun k:Key=>k) (fun x=>innerLen ((fun k:Key=>k) x)) (roomT sz) 2 (gs.map firstK)).length=(cutG (fun k:Key=>k) innerLen (roomT sz) 2 (gs.map firstK)).length:=rfl
   refine ⟨_,_,_,_,rfl,br_ne (fun h=>absurd rfl h) fun _=>fun B4 z2 hz2=>?_⟩
   rw [hlc] at hz2 ⊢
   generalize cutG (fun k:Key=>k) innerLen (roomT sz) 2 (gs.map firstK)=gs' at *
   have hsz1:=hez1.size
   have hsz2:=hz2.size
   have hc11:gs'.length<=c11:=by have:=hl11.1.2.1;rwa [lensI_length] at this
   have hlev2:=((hlev.ext hez).ext hez1).ext hz2.upd
   have hll:∀ b,a6=some ⟨b,0,none⟩->b<v.heap.size:=fun b hb=>hlev.lt hb
   have hcs:SliceAt intR z2 (fun b=>z.heap.size<=b/\b<z1.heap.size) a11 (lensI gs'):=hl11.sliceI.ext hz2.upd
   have hx:rowsR.R z2 (fun b=>z.heap.size<=b/\b<z1.heap.size) (#[Value.slice a11 gs'.length c11]:Array Value).toList (lensI gs'):=⟨a11,c11,by rw [lensI_length],by rw [lensI_length];exact hc11,hcs⟩
   refine ListAt.push' (r:=rowsR) hlev2 hx (fun b hb=>⟨.inl (by omega),by omega,fun e=>by have:=hll b e;omega⟩) hz2 rfl rfl (by omega) (by decide) (by omega) fun a12 c12 z3 hu3 hl3=>?_
   have hez3:Ext w z3:=((hevz.trans hez1).trans hz2.upd).beyond hu3 fun b hb=>by
    obtain ⟨G',_,_,h3⟩:=hlev
    exact (h3 b hb).1
   refine ⟨⟨f',gs',LV ++ [lensI gs'],rfl,?_,by rw [hcok.1,hfn],by have:=hl8.cap;rwa [hfn] at this,?_,rfl,hl3,hez3,fun g hg=>(hcok.2 g hg).ne,hcne,by rw [hcok.1];exact hfo,by rw [hcok.1];exact hfm,by omega,by rw [hcok.1,hfn];omega,by rw [List.length_append,List.length_singleton];omega,by rw [List.append_assoc];exact hplan⟩,by show gs'.length<gs.length;omega⟩
   .exact (hcs.upd hu3 fun b hb e=>by have:=hll b e;omega).mono fun _ _=>trivial
   .rw [hcok.1]
    have hu3s:=hu3.size
    refine SliceAt.mono (SliceAt.upd ((hsl8.ext hez1).ext hz2.upd) hu3 fun b hb e=>?_) fun b hb=>by have:=(hG8 b hb).2;omega
    have h1:=hll b e
    rcases (hG8 b hb).1 with h | h
    .omega
    .exact h.elim
section
open Go.WideMaps Go.Proofs
abbrev placeV (p:Place):Value:=.agg #[.int .i64 p.block,.int .i64 p.page]
abbrev Place.vals (p:Place):List Value:=[.int .i64 p.block,.int .i64 p.page]
def MapIs (es:Array MapEntry) (pages:List Place):Prop:=es.toList.map (·.key)=pages.map placeV/\∀ e∈es.toList,e.val= .bool true
theorem MapIs.key {es:Array MapEntry} {pages:List Place} (h:MapIs es pages):∀ e∈es.toList,∃ p∈pages,e.key=placeV p:=by
 intro e he
 have:e.key∈es.toList.map (·.key):=List.mem_map.2 ⟨e,he,rfl⟩
 rw [h.1] at this
 obtain ⟨p,hp,e'⟩:=List.mem_map.1 this
 exact ⟨p,hp,e'.symm⟩
theorem MapIs.at_ {es:Array MapEntry} {pages:List Place} (h:MapIs es pages) {j:Nat} {e:MapEntry} (he:es.toList[j]?=some e):∃ q,pages[j]?=some q/\e.key=placeV q:=by
 have h1:(es.toList.map (·.key))[j]?=some e.key:=by rw [List.getElem?_map,he];rfl
 rw [h.1,List.getElem?_map] at h1
 cases hq:pages[j]? with
 | none=>rw [hq] at h1;cases h1
 | some q=>rw [hq] at h1;exact ⟨q,rfl,(Option.some.inj h1).symm⟩
theorem nodup_at {α:Type}:∀ {l:List α} {i j:Nat} {x:α},l.Nodup->l[i]?=some x->l[j]?=some x->i=j
 | [],i,j,x,_,h,_=>by cases h
 | y :: l,0,0,x,_,_,_=>rfl
 | y :: l,0,j+1,x,hn,h1,h2=>by
  cases h1
  exact absurd (List.mem_of_getElem? (l:=l) (i:=j) (by simpa using h2)) (List.nodup_cons.1 hn).1
 | y :: l,i+1,0,x,hn,h1,h2=>by
  cases h2
  exact absurd (List.mem_of_getElem? (l:=l) (i:=i) (by simpa using h1)) (List.nodup_cons.1 hn).1
 | y :: l,i+1,j+1,x,hn,h1,h2=>by rw [nodup_at (List.nodup_cons.1 hn).2 (i:=i) (j:=j) (by simpa using h1) (by simpa using h2)]
end
theorem scanGo_known {c:Chip} (hd0:c.dead=false):∀ n,n<=c.nb->(scanGo c n).blocks.length=c.nb/\(∀ i,i<n->(scanGo c n).blk i=view c i)
 | 0,_=>⟨by simp [scanGo],fun i hi=>by omega⟩
 | n+1,hn=>by
  obtain ⟨h1,h2⟩:=scanGo_known hd0 n (by omega)
  have hb:∀ i,i<n+1->((scanGo c n).relook c n).blk i=view c i:=by
   intro i hi
   unfold Pool.relook
   rw [setBlk_blk (by omega),lookAt_view,hd0]
   by_cases e:i=n
   .rw [if_pos e,e];rfl
   .rw [if_neg e];exact h2 i (by omega)
  have hl:((scanGo c n).relook c n).blocks.length=c.nb:=by
   show ((scanGo c n).blocks.set n _).length=_
   rw [List.length_set];exact h1
  rw [scanGo]
  split
  .exact ⟨hl,hb⟩
  .exact ⟨hl,hb⟩
def tkey (t:Taken):Nat:=t.head.seq * 64+t.block
theorem tkey_lt {a b:Taken} (ha:a.block<64) (hb:b.block<64):takenLt a b=true ↔ tkey a<tkey b:=by
 unfold takenLt tkey
 simp only [Bool.or_eq_true,Bool.and_eq_true,decide_eq_true_eq]
 constructor
 .rintro (h | ⟨h1,h2⟩)<;>omega
 .intro h
  by_cases e:a.head.seq<b.head.seq
  .exact .inl e
  .refine .inr ⟨?_,?_⟩<;>omega
theorem sink_by {x:Taken} (hx:x.block<64):∀ {l:List Taken},(∀ y∈l,y.block<64)->l.Pairwise (fun a b=>tkey b<tkey a)->(∀ y∈l,tkey y≠tkey x)->(sink takenLt x l).Pairwise (fun a b=>tkey b<tkey a)
 | [],_,_,_=>by simp [sink]
 | y :: l,hb,hl,hx'=>by
  obtain ⟨l1,l2⟩:=List.pairwise_cons.1 hl
  have hyx:=hx' y (by simp)
  have hyb:=hb y (by simp)
  unfold sink
  split
  .rename_i hlt
   have hxy:=(tkey_lt hx hyb).1 hlt
   refine List.pairwise_cons.2 ⟨fun z hz=>?_,sink_by hx (fun z hz=>hb z (by simp [hz])) l2 fun z hz=>hx' z (by simp [hz])⟩
   rcases (sink_mem takenLt x z l).1 hz with rfl | hz
   .exact hxy
   .exact l1 z hz
  .rename_i hlt
   have hxy:tkey y<tkey x:=by
    have:¬ tkey x<tkey y:=fun h=>hlt ((tkey_lt hx hyb).2 h)
    omega
   refine List.pairwise_cons.2 ⟨fun z hz=>?_,hl⟩
   rcases List.mem_cons.1 hz with rfl | hz
   .exact hxy
   .have:=l1 z hz;omega
theorem isort_by {l:List Taken} (hb:∀ y∈l,y.block<64) (h:l.Pairwise (fun a b=>tkey a≠tkey b)):(isort takenLt l).Pairwise (fun a b=>tkey a<tkey b):=by
 unfold isort
 rw [List.pairwise_reverse]
 have key:∀ (l acc:List Taken),(∀ y∈l,y.block<64)->(∀ y∈acc,y.block<64)->acc.Pairwise (fun a b=>tkey b<tkey a)->l.Pairwise (fun a b=>tkey a≠tkey b)->(∀ a∈acc,∀ b∈l,tkey a≠tkey b)->(l.foldl (fun acc x=>sink takenLt x acc) acc).Pairwise (fun a b=>tkey b<tkey a):=by
  intro l
  induction l with
  | nil=>intro acc _ _ ha _ _;exact ha
  | cons x l ih =>
   intro acc hbl hba ha hl hx
   obtain ⟨l1,l2⟩:=List.pairwise_cons.1 hl
   rw [List.foldl_cons]
   have hxb:=hbl x (by simp)
   refine ih _ (fun y hy=>hbl y (by simp [hy])) (fun y hy=>?_) (sink_by hxb hba ha fun y hy=>hx y hy x (by simp)) l2 fun a ha' b hb=>?_
   .rcases (sink_mem takenLt x y acc).1 hy with rfl | hy
    .exact hxb
    .exact hba y hy
   .rcases (sink_mem takenLt x a acc).1 ha' with rfl | ha'
    .exact l1 b hb
    .exact hx a ha' b (by simp [hb])
 exact key l [] hb (by simp) List.Pairwise.nil h fun a ha=>by simp at ha
theorem any_raw_mem {P:Pool} {c:Chip} (hk:∀ i,i<c.nb->P.blk i=view c i) {n:Nat} (hn:n<=c.nb) (t:Taken):t∈takenRaw P c n ↔ IsTaken c n t:=by
 have hw:∀ i,i<c.nb->((P.blk i).what=2 ↔ isHd c i):=fun i hi=>by rw [hk i hi];exact view_what c i
 unfold takenRaw IsTaken
 rw [List.mem_filterMap]
 constructor
 .rintro ⟨i,hi,e⟩
  have hi':i<n:=by simpa using hi
  split at e
  .rename_i hw'
   cases e
   have hh:=(hw i (by omega)).1 hw'
   refine ⟨hi',hh,?_,rfl⟩
   rw [hk i (by omega),view_pos hh]
  .cases e
 .rintro ⟨h1,h2,h3,h4⟩
  refine ⟨t.block,by simpa using h1,?_⟩
  rw [if_pos ((hw _ (by omega)).2 h2)]
  obtain ⟨b,hh,bad⟩:=t
  simp only [] at h1 h2 h3 h4 ⊢
  rw [hk b (by omega),view_pos h2,h3,h4]
theorem any_raw_distinct {P:Pool} {c:Chip} (hk:∀ i,i<c.nb->P.blk i=view c i) (hnb:c.nb<=64):∀ n,n<=c.nb->(takenRaw P c n).Pairwise (fun a b=>tkey a≠tkey b)
 | 0,_=>by simp [takenRaw]
 | n+1,hn=>by
  rw [takenRaw_succ]
  rw [List.pairwise_append]
  refine ⟨any_raw_distinct hk hnb n (by omega),?_,fun a ha b hb=>?_⟩
  .split<;>simp
  .obtain ⟨a1,a2,a3,_⟩:=(any_raw_mem hk (by omega) a).1 ha
   have hbn:b.block=n:=by
    split at hb
    .simp at hb;rw [hb]
    .simp at hb
   unfold tkey
   omega
theorem insAt_by {t:Taken} (ht:t.block<64):∀ {l:List Taken},(∀ y∈l,y.block<t.block)->l.Pairwise (fun a b=>tkey a<tkey b)->(insAt t l).Pairwise (fun a b=>tkey a<tkey b)
 | [],_,_=>by simp [insAt,posOf]
 | y :: l,hb,hl=>by
  obtain ⟨l1,l2⟩:=List.pairwise_cons.1 hl
  have hyb:=hb y (by simp)
  rw [insAt_cons]
  split
  .refine List.pairwise_cons.2 ⟨fun z hz=>?_,insAt_by ht (fun z hz=>hb z (by simp [hz])) l2⟩
   rcases (insAt_mem t z l).1 hz with rfl | hz
   .unfold tkey;omega
   .exact l1 z hz
  .refine List.pairwise_cons.2 ⟨fun z hz=>?_,hl⟩
   rcases List.mem_cons.1 hz with rfl | hz
   .unfold tkey;omega
   .have:=l1 z hz
    unfold tkey at this ⊢;omega
theorem any_ref_mem {c:Chip} (h:c.Ok) (hd0:c.dead=false):∀ n,n<=c.nb->(∀ t,t∈refGo c n ↔ IsTaken c n t)/\(refGo c n).Pairwise (fun a b=>tkey a<tkey b)
 | 0,_=>⟨fun t=>by simp [refGo,IsTaken],by simp [refGo]⟩
 | n+1,hn=>by
  obtain ⟨h1,h2⟩:=any_ref_mem h hd0 n (by omega)
  have hr:=refHead_eq h hd0 (i:=n) (by omega)
  have hnb:=h.nb2
  rw [refGo,hr]
  simp only [decide_eq_true_eq]
  split
  .rename_i hh
   refine ⟨fun t=>?_,insAt_by (by show n<64;omega) (fun y hy=>((h1 y).1 hy).1) h2⟩
   rw [insAt_mem,h1]
   constructor
   .rintro (rfl | ⟨a,b⟩)
    .exact ⟨Nat.lt_succ_self _,hh,rfl,rfl⟩
    .exact ⟨by omega,b⟩
   .rintro ⟨a,b,d,e⟩
    by_cases hb:t.block=n
    .left
     obtain ⟨tb,th,tbad⟩:=t
     simp only [] at hb d e
     subst hb
     rw [d,e]
    .exact .inr ⟨by omega,b,d,e⟩
  .rename_i hh
   refine ⟨fun t=>?_,h2⟩
   rw [h1]
   constructor
   .rintro ⟨a,b⟩;exact ⟨by omega,b⟩
   .rintro ⟨a,b,d⟩
    have:t.block≠n:=fun e=>hh (e ▸ b)
    exact ⟨by omega,b,d⟩
theorem any_taken_ref {c:Chip} (h:c.Ok) (hd0:c.dead=false):takenPool (scanPool c) c=refTaken c:=by
 obtain ⟨h1,h2⟩:=any_ref_mem h hd0 c.nb (Nat.le_refl _)
 have hk:=(scanGo_known hd0 c.nb (Nat.le_refl _)).2
 have hnb:=h.nb2
 have hm:∀ t,t∈takenPool (scanPool c) c ↔ IsTaken c c.nb t:=fun t=>by
  unfold takenPool
  rw [isort_mem]
  exact any_raw_mem hk (Nat.le_refl _) t
 refine sorted_ext (f:=tkey) ?_ h2 fun t=>by rw [hm];exact (h1 t).symm
 exact isort_by (fun y hy=>by have:=((any_raw_mem hk (Nat.le_refl _) y).1 hy).1;omega) (any_raw_distinct hk hnb _ (Nat.le_refl _))
theorem refTaken_block {c:Chip} (h:c.Ok) (hd0:c.dead=false):∀ x∈refTaken c,x.block<c.nb:=by
 intro x hx
 rw [<- any_taken_ref h hd0] at hx
 unfold takenPool at hx
 rw [isort_mem] at hx
 exact takenRaw_block hx
theorem refTaken_len {c:Chip} (h:c.Ok) (hd0:c.dead=false):(refTaken c).length<=c.nb:=by
 rw [<- any_taken_ref h hd0]
 unfold takenPool
 rw [isort_length]
 exact takenRaw_length _ _ _
theorem map_take_succ {α β:Type} (f:α->β) {l:List α} {i:Nat} (hi:i<l.length):(l.take (i+1)).map f=(l.take i).map f ++ [f l[i]]:=by
 rw [List.take_succ_eq_append_getElem hi,List.map_append];rfl
def askErr (c:Chip) (era:Nat):Nat:=if c.dead then 10 else if era=0 then 2 else 0
def blocksI (c:Chip) (era:Nat):List Int:=(treeBlocks c era).map Int.ofNat
def askL (c:Chip) (era:Nat):List Int:=if askErr c era=0 then blocksI c era else []
theorem walk_asked_spec {F:Nat->Prop} {A:Nat} {w:World} {p:Nat} {c:Chip} (h:CIn F A w p c) (era:Nat) :
  CallsR prog K.walk_asked #[.pointer (some ⟨p,0,none⟩),.int .u32 era] w fun v w'=>Ext w w'/\
   if askErr c era≠0 then v= .tuple #[.pointer none,.int .i64 (askErr c era:Nat)]
   else c.dead=false/\∃ M:PLoc,M.p=p/\v= .tuple #[.pointer (some ⟨M.q,0,none⟩),.int .i64 0]/\PIn (fun x=>F x\/(w.heap.size<=x/\x<w'.heap.size)) A w' M (scanPool c) c:=by
 apply walk_asked.sh
 unfold walk_asked.body
 refine (cScanF h).mono ?_
 rintro v w1 ⟨he,hv⟩
 unfold askErr
 cases hd:c.dead with
 | true =>
  rw [if_pos hd] at hv
  obtain rfl:=hv
  exact ⟨_,_,rfl,br_ne (fun _=>⟨he,rfl⟩) fun h=>absurd h (by decide)⟩
 | false =>
  rw [if_neg (by rw [hd];decide)] at hv
  obtain ⟨M,hM,rfl,hP⟩:=hv
  refine ⟨_,_,rfl,br_ne (fun h=>absurd rfl h) fun _=>br_eq (fun h0=>⟨he,?_⟩) fun h0=>⟨he,?_⟩⟩
  .have:era=0:=by omega
   simp [this]
  .have:era≠0:=by omega
   simp only [Bool.false_eq_true,if_false,if_neg this]
   exact ⟨trivial,M,hM,rfl,hP⟩
theorem tree_succ (kind:UInt8) (era:Nat) {l:List Taken} {i:Nat} (hi:i<l.length):((((l.take (i+1)).filter (ofKind kind era)).map Taken.block).map Int.ofNat)=(((l.take i).filter (ofKind kind era)).map Taken.block).map Int.ofNat ++ if ofKind kind era l[i] then [(l[i].block:Int)] else []:=by
 rw [filter_map_succ _ _ hi,List.map_append]
 congr 1
 split<;>rfl
def Few (c:Chip):Prop:=(refTaken c).length<20
theorem walk_Blocks_spec {F:Nat->Prop} {A:Nat} {w:World} {p:Nat} {c:Chip} (h:CIn F A w p c) (hnb:Few c) (era:Nat) :
  CallsR prog K.walk_Blocks #[.pointer (some ⟨p,0,none⟩),.int .u32 era] w fun v w'=>∃ a ca,v= .tuple #[.slice a (askL c era).length ca,.int .i64 (askErr c era:Nat)]/\IList w.heap.size w' a ca (askL c era)/\Ext w w':=by
 have hnb64:=h.ok.nb2
 apply walk_Blocks.sh
 suffices H:∀ R:Value->World->Prop,(∀ v w',(∃ a ca,v= .tuple #[.slice a (askL c era).length ca,.int .i64 (askErr c era:Nat)]/\IList w.heap.size w' a ca (askL c era)/\Ext w w')->R v w')->walk_Blocks.body (some ⟨p,0,none⟩) era w R from H _ fun _ _ h=>h
 intro R hR
 unfold walk_Blocks.body
 refine (walk_asked_spec h era).mono ?_
 rintro v w1 ⟨he1,hv⟩
 by_cases he:askErr c era≠0
 .rw [if_pos he] at hv
  obtain rfl:=hv
  refine ⟨_,_,rfl,br_ne (fun _=>hR _ _ ?_) fun h=>absurd h (by omega)⟩
  unfold askL
  rw [if_neg he]
  exact ⟨none,0,rfl,IList.nil _ _,he1⟩
 .rw [if_neg he] at hv
  obtain ⟨hd0,M,rfl,rfl,hP⟩:=hv
  have he0:askErr c era=0:=by omega
  unfold askL at hR
  rw [if_pos he0,he0] at hR
  refine ⟨_,_,rfl,br_ne (fun h=>absurd rfl h) fun _=>(pTakenF hP (by rw [any_taken_ref h.ok hd0];exact hnb) (any_taken_ref h.ok hd0)).mono ?_⟩
  rintro _ w2 ⟨he2,a2,c2,rfl,ho2,hf2⟩
  have hs1:=he1.size
  have hs2:=he2.size
  have e2:=he1.trans he2
  have hlen:=refTaken_len h.ok hd0
  have hbl:blocksI c era=(((refTaken c).filter (ofKind 2 era)).map Taken.block).map Int.ofNat:=rfl
  rw [hbl] at hR
  clear hbl
  generalize refTaken c=l at *
  refine ⟨_,_,_,rfl,fun a3 l3 c3 x u=>∃ i:Nat,x=i/\i<=l.length/\l3=((((l.take i).filter (ofKind 2 era)).map Taken.block).map Int.ofNat).length/\IList w2.heap.size u a3 c3 ((((l.take i).filter (ofKind 2 era)).map Taken.block).map Int.ofNat)/\Ext w2 u,fun _ _ _ x _=>((l.length:Int) - x).toNat,⟨0,rfl,by omega,rfl,IList.nil _ _,Upd.refl _ _⟩,?_⟩
  rintro a3 l3 c3 x u ⟨i,rfl,hi,rfl,hil,heu⟩
  have hsu:=heu.size
  refine br_dec (fun hlt=>?_) fun hge=>?_
  .have hi':i<l.length:=by omega
   have ew:i64.wrap ((i:Int)+1)=((i+1:Nat):Int):=w64 (by omega) (by omega)
   simp only [ew]
   have hsucc:=tree_succ 2 era hi'
   have hk:=filter_map_len (ofKind 2 era) Taken.block (l.take i)
   have hk':((((l.take i).filter (ofKind 2 era)).map Taken.block).map Int.ofNat).length<=i:=by
    rw [List.length_map];rw [List.length_take] at hk;omega
   generalize (((l.take i).filter (ofKind 2 era)).map Taken.block).map Int.ofNat=acc at *
   refine idx_flat (f:=Taken.vals) Taken.vals_length (by omega) (ho2.row.ext heu) rfl hi' fun b o hab hr=>⟨_,_,_,_,_,hr.cells,new_put (vs:=Taken.vals l[i]) rfl fun B1 w4 hb4 hs4 he4 g4=>?_⟩
   simp only [add_lit,Nat.zero_add]
   have same:ofKind 2 era l[i]=false->(∃ j:Nat,((i+1:Nat):Int)=j/\j<=l.length/\acc.length=((((l.take j).filter (ofKind 2 era)).map Taken.block).map Int.ofNat).length/\IList w2.heap.size w4 a3 c3 ((((l.take j).filter (ofKind 2 era)).map Taken.block).map Int.ofNat)/\Ext w2 w4)/\((l.length:Int) - ((i+1:Nat):Int)).toNat<((l.length:Int) - (i:Int)).toNat:=by
    intro hno
    rw [hno] at hsucc
    simp only [Bool.false_eq_true,if_false,List.append_nil] at hsucc
    exact ⟨⟨i+1,rfl,hi',by rw [hsucc],by rw [hsucc];exact hil.ext he4,heu.trans he4⟩,meas hi'⟩
   refine ⟨_,cell_of g4 rfl,br_eq (fun hk2=>⟨_,cell_of g4 rfl,br_eq (fun hke=>⟨_,cell_of g4 rfl,fun B2 w6 hn6=>?_⟩) fun hke=>?_⟩) fun hk2=>?_⟩
   .have hyes:ofKind 2 era l[i]=true:=by
     unfold ofKind
     rw [decide_eq_true (show l[i].head.kind=2 from (u8i _ 2 (by omega)).1 hk2),decide_eq_true (by omega:l[i].head.era=era)];rfl
    rw [hyes] at hsucc
    simp only [if_true] at hsucc
    refine IList.push (x:=(l[i].block:Int)) (hil.ext he4) rfl hn6 (by omega) (by omega) fun a' c' w7 hu7 hl7=>?_
    rw [<- hsucc] at hl7 ⊢
    exact ⟨⟨i+1,rfl,hi',rfl,hl7,(heu.trans he4).beyond hu7 fun x hx=>hx⟩,meas hi'⟩
   .exact same (by unfold ofKind;rw [decide_eq_false (p:=l[i].head.era=era) (by omega)];simp)
   .exact same (by unfold ofKind;rw [decide_eq_false (p:=l[i].head.kind=2) (fun e=>hk2 (by rw [e];rfl))];rfl)
  .have hii:i=l.length:=by omega
   subst hii
   rw [List.take_length] at hil ⊢
   exact hR _ _ ⟨a3,c3,rfl,hil.weak (by omega),e2.trans heu⟩
theorem carrackref18_Blocks_spec {F:Nat->Prop} {A:Nat} {w:World} {p:Nat} {c:Chip} (h:CIn F A w p c) (hd0:c.dead=false) (era:Nat) :
  CallsR prog K.carrackref18_Blocks #[.pointer (some ⟨p,0,none⟩),.int .u32 era] w fun v w'=>∃ a ca,v= .slice a (blocksI c era).length ca/\IList w.heap.size w' a ca (blocksI c era)/\Ext w w':=by
 apply carrackref18_Blocks.sh
 suffices H:∀ R:Value->World->Prop,(∀ v w',(∃ a ca,v= .slice a (blocksI c era).length ca/\IList w.heap.size w' a ca (blocksI c era)/\Ext w w')->R v w')->carrackref18_Blocks.body (some ⟨p,0,none⟩) era w R from H _ fun _ _ h=>h
 intro R hR
 unfold carrackref18_Blocks.body
 refine (carrackref04_Of_spec h 2 era).mono ?_
 rintro _ w1 ⟨he1,a1,c1,rfl,ho1,hf1⟩
 have hlen:=refTaken_len h.ok hd0
 have hlen2:=List.length_filter_le (ofKind 2 era) (refTaken c)
 have hnb:=h.ok.nb2
 have hbl:blocksI c era=(((refTaken c).filter (ofKind 2 era)).map Taken.block).map Int.ofNat:=rfl
 rw [hbl] at hR
 clear hbl
 generalize (refTaken c).filter (ofKind 2 era)=l at *
 have hs1:=he1.size
 refine ⟨_,_,_,rfl,fun a3 l3 c3 x u=>∃ i:Nat,x=i/\i<=l.length/\l3=(((l.take i).map Taken.block).map Int.ofNat).length/\IList w1.heap.size u a3 c3 (((l.take i).map Taken.block).map Int.ofNat)/\Ext w1 u,fun _ _ _ x _=>((l.length:Int) - x).toNat,⟨0,rfl,by omega,rfl,IList.nil _ _,Upd.refl _ _⟩,?_⟩
 rintro a3 l3 c3 x u ⟨i,rfl,hi,rfl,hil,heu⟩
 have hsu:=heu.size
 refine br_dec (fun hlt=>?_) fun hge=>?_
 .have hi':i<l.length:=by omega
  have ew:i64.wrap ((i:Int)+1)=((i+1:Nat):Int):=w64 (by omega) (by omega)
  simp only [ew]
  have hsucc:((l.take (i+1)).map Taken.block).map Int.ofNat=((l.take i).map Taken.block).map Int.ofNat ++ [(l[i].block:Int)]:=by
   rw [map_take_succ _ hi',List.map_append];rfl
  have hk':(((l.take i).map Taken.block).map Int.ofNat).length<=i:=by
   rw [List.length_map,List.length_map,List.length_take];omega
  generalize ((l.take i).map Taken.block).map Int.ofNat=acc at *
  refine idx_flat (f:=Taken.vals) Taken.vals_length (by omega) (ho1.row.ext heu) rfl hi' fun b o hab hr=>⟨_,(by have:=hr.cells;exact this.1),fun B2 w6 hn6=>?_⟩
  refine IList.push (x:=(l[i].block:Int)) hil rfl hn6 (by omega) (by omega) fun a' c' w7 hu7 hl7=>?_
  rw [<- hsucc] at hl7 ⊢
  exact ⟨⟨i+1,rfl,hi',rfl,hl7,heu.beyond hu7 fun x hx=>hx⟩,meas hi'⟩
 .have hii:i=l.length:=by omega
  subst hii
  rw [List.take_length] at hil ⊢
  exact hR _ _ ⟨a3,c3,rfl,hil.weak (by omega),he1.trans heu⟩
end Go.Den
