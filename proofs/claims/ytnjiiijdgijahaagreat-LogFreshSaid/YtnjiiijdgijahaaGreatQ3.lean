/- Words for contracts: lists that a call builds. (Merged and shortened by program: SSeal SSeal2 MNand RNand SNand SNand2 SNand3 SNand4 SNand5 SNand6 SNand7 SNand8 SRef SRef2 SHead SHead2 Rep3 MPool RPool SPool SPool2 SPool3 SPool4 SRef4 MLaw4a SLaw4 Rep4 Rep5 Rep6.) -/
import Derived.Test.YtnjiiijdgijahaaGreatQ2
set_option linter.unusedVariables false
set_option linter.unusedSimpArgs false
set_option maxRecDepth 20000
namespace Go.Den
def zeros8 (b:UInt8):Nat:=((List.range 8).filter fun k=>b.toNat / 2 ^ k % 2 == 0).length
def noughts (l:List UInt8):Nat:=(l.map zeros8).sum
def isBlank (l:List UInt8):Bool:=l.all (· == 255)
def isSize (n:Int):Bool:=decide (n≥128) && decide (n≤256)
def pageRest (size:Nat) (kind:UInt8) (body:List UInt8):List UInt8:=kind :: (leB body.length 2 ++ body ++ List.replicate (size - 5 - body.length) 255)
def pageOf (size:Nat) (kind:UInt8) (body:List UInt8):List UInt8:=leB (noughts (pageRest size kind body)) 2 ++ pageRest size kind body
def getPage (b:List UInt8):UInt8×List UInt8×Nat :=
 if isSize b.length=false then (0,[],2)
 else if isBlank b=true then (0,[],6)
 else if fromLE (b.take 2)≠noughts (b.drop 2) then (0,[],7)
 else if b.getD 2 0<1∨b.getD 2 0 > 7∨fromLE ((b.drop 3).take 2) > b.length - 5∨isBlank (b.drop (5+fromLE ((b.drop 3).take 2)))=false then (0,[],5)
 else (b.getD 2 0,(b.take (5+fromLE ((b.drop 3).take 2))).drop 5,0)
theorem zeros8_le (b:UInt8):zeros8 b≤8:=by
 unfold zeros8
 exact Nat.le_trans (List.length_filter_le _ _) (by simp)
theorem noughts_append (l m:List UInt8):noughts (l ++ m)=noughts l+noughts m:=by simp [noughts]
theorem noughts_le (l:List UInt8):noughts l≤8 * l.length:=by
 induction l with
 | nil=>simp [noughts]
 | cons b l ih =>
  have:=zeros8_le b
  simp only [noughts,List.map_cons,List.sum_cons,List.length_cons] at ih ⊢
  omega
theorem noughts_take_succ (l:List UInt8) (i:Nat) (h:i<l.length):noughts (l.take (i+1))=noughts (l.take i)+zeros8 (l.getD i 0):=by
 rw [List.take_succ_eq_append_getElem h,noughts_append]
 simp [noughts,List.getD,h]
theorem pageRest_length (size:Nat) (kind:UInt8) (body:List UInt8) (h:body.length+5≤size):(pageRest size kind body).length=size - 2:=by
 simp [pageRest,leB_length];omega
theorem pageOf_length (size:Nat) (kind:UInt8) (body:List UInt8) (h:body.length+5≤size):(pageOf size kind body).length=size:=by
 simp only [pageOf,List.length_append,leB_length,pageRest_length size kind body h];omega
theorem ones_tbl:∀ x:UInt8,(⟨(List.toArray (List.append (List.append [0,1,1,2,1,2,2,3,1,2,2,3,2,3,3,4,1,2,2,3,2,3,3,4,2,3,3,4,3,4,4,5,1,2,2,3,2,3,3,4,2,3,3,4,3,4,4,5,2,3,3,4,3,4,4,5,3,4,4,5,4,5,5,6] [1,2,2,3,2,3,3,4,2,3,3,4,3,4,4,5,2,3,3,4,3,4,4,5,3,4,4,5,4,5,5,6,2,3,3,4,3,4,4,5,3,4,4,5,4,5,5,6,3,4,4,5,4,5,5,6,4,5,5,6,5,6,6,7]) (List.append [1,2,2,3,2,3,3,4,2,3,3,4,3,4,4,5,2,3,3,4,3,4,4,5,3,4,4,5,4,5,5,6,2,3,3,4,3,4,4,5,3,4,4,5,4,5,5,6,3,4,4,5,4,5,5,6,4,5,5,6,5,6,6,7] [2,3,3,4,3,4,4,5,3,4,4,5,4,5,5,6,3,4,4,5,4,5,5,6,4,5,5,6,5,6,6,7,3,4,4,5,4,5,5,6,4,5,5,6,5,6,6,7,4,5,5,6,5,6,6,7,5,6,6,7,6,7,7,8])))⟩: ByteArray).data.toList[x.toNat]?=some (UInt8.ofNat (zeros8 (~~~ x))):=by
 have key:∀ x:Fin 256,(⟨(List.toArray (List.append (List.append [0,1,1,2,1,2,2,3,1,2,2,3,2,3,3,4,1,2,2,3,2,3,3,4,2,3,3,4,3,4,4,5,1,2,2,3,2,3,3,4,2,3,3,4,3,4,4,5,2,3,3,4,3,4,4,5,3,4,4,5,4,5,5,6] [1,2,2,3,2,3,3,4,2,3,3,4,3,4,4,5,2,3,3,4,3,4,4,5,3,4,4,5,4,5,5,6,2,3,3,4,3,4,4,5,3,4,4,5,4,5,5,6,3,4,4,5,4,5,5,6,4,5,5,6,5,6,6,7]) (List.append [1,2,2,3,2,3,3,4,2,3,3,4,3,4,4,5,2,3,3,4,3,4,4,5,3,4,4,5,4,5,5,6,2,3,3,4,3,4,4,5,3,4,4,5,4,5,5,6,3,4,4,5,4,5,5,6,4,5,5,6,5,6,6,7] [2,3,3,4,3,4,4,5,3,4,4,5,4,5,5,6,3,4,4,5,4,5,5,6,4,5,5,6,5,6,6,7,3,4,4,5,4,5,5,6,4,5,5,6,5,6,6,7,4,5,5,6,5,6,6,7,5,6,6,7,6,7,7,8])))⟩: ByteArray).data.toList[(UInt8.ofNat x.val).toNat]?=some (UInt8.ofNat (zeros8 (~~~ (UInt8.ofNat x.val)))):=by decide +kernel
 intro x
 have:=key ⟨x.toNat,x.toNat_lt⟩
 simpa only [UInt8.ofNat_toNat] using this
theorem bits_OnesCount8_spec (x:UInt8) (w:World):CallsR prog K.bits_OnesCount8 #[.int .u8 (x.toNat:Int)] w fun v w'=>v= .int .i64 (zeros8 (~~~ x):Nat)∧w'=w:=by
 apply bits_OnesCount8.sh
 unfold bits_OnesCount8.body
 refine ⟨by omega,UInt8.ofNat (zeros8 (~~~ x)),?_,?_⟩
 ·rw [Int.toNat_natCast];exact ones_tbl x
 ·have h:=zeros8_le (~~~ x)
  refine ⟨?_,rfl⟩
  have:(UInt8.ofNat (zeros8 (~~~ x))).toNat=zeros8 (~~~ x):=by
   rw [UInt8.toNat_ofNat'];omega
  rw [this,w64 (by omega) (by omega)]
theorem ofInt_byte (x:UInt8):BitVec.ofInt 8 (x.toNat:Int)=x.toBitVec:=by
 apply BitVec.eq_of_toNat_eq
 rw [BitVec.ofInt_natCast,BitVec.toNat_ofNat]
 exact Nat.mod_eq_of_lt x.toNat_lt
theorem byte_not (x:UInt8):IntKind.u8.wrap (((BitVec.ofInt (IntKind.bits .u8) (if IntKind.signed .u8 then -1 else IntKind.max .u8) ^^^ BitVec.ofInt (IntKind.bits .u8) (x.toNat:Int)).toNat:Nat):Int)=((~~~ x).toNat:Int):=by
 show IntKind.u8.wrap (((BitVec.ofInt 8 255 ^^^ BitVec.ofInt 8 (x.toNat:Int)).toNat:Nat):Int)=_
 rw [ofInt_byte]
 have e:BitVec.ofInt 8 255 ^^^ x.toBitVec=(~~~ x).toBitVec:=by
  rw [UInt8.toBitVec_not,show BitVec.ofInt 8 255=BitVec.allOnes 8 from rfl,BitVec.allOnes_xor]
 rw [e,wu8 (Int.natCast_nonneg _) (by have:=(~~~ x).toNat_lt;show ((~~~ x).toNat:Int)<256;omega)]
 rfl
theorem seal_Noughts_spec {a:Option Addr} {l:List UInt8} {c:Nat} {w:World} (h:BytesAt w a l) (hn:l.length≤100000) :
  CallsR prog K.seal_Noughts #[.slice a l.length c] w fun v w'=>v= .int .i64 (noughts l:Nat)∧w'=w:=by
 apply seal_Noughts.sh
 refine ⟨fun x y u=>∃ i:Nat,y=i∧i≤l.length∧x=(noughts (l.take i):Nat)∧u=w,fun _ y _=>((l.length:Int) - y).toNat,⟨0,rfl,by omega,by simp [noughts],rfl⟩,?_⟩
 rintro x y u ⟨i,rfl,hi,rfl,rfl⟩
 refine br_dec (fun hlt=>?_) fun hge=>?_
 ·refine idx_byte h (by omega) (by omega) ?_
  rw [byte_not]
  refine (bits_OnesCount8_spec _ _).mono ?_
  rintro _ _ ⟨rfl,rfl⟩
  refine ⟨_,rfl,?_⟩
  have h1:=noughts_le (l.take i)
  have h2:(l.take i).length≤i:=by simp;omega
  have h3:∀ x:UInt8,~~~ (~~~ x)=x:=fun x=>by simp
  rw [h3]
  have h4:=zeros8_le (l.getD i 0)
  simp only [Int.toNat_natCast]
  rw [w64 (by omega) (by omega),w64 (by omega) (by omega)]
  exact ⟨⟨i+1,by omega,by omega,by rw [noughts_take_succ l i (by omega)];omega,by trivial⟩,by omega⟩
 ·have:i=l.length:=by omega
  subst this
  rw [List.take_length]
  exact ⟨rfl,by trivial⟩
theorem isBlank_take_succ (l:List UInt8) (i:Nat) (h:i<l.length):isBlank (l.take (i+1))=(isBlank (l.take i) && l.getD i 0 == 255):=by
 rw [List.take_succ_eq_append_getElem h]
 simp only [isBlank,List.all_append,List.getD,List.getElem?_eq_getElem h,Option.getD_some]
 simp
theorem isBlank_get {l:List UInt8} (h:isBlank l=true) {i:Nat} (hi:i<l.length):l.getD i 0=255:=by
 simp [isBlank] at h
 simp [List.getD,hi]
 exact h _ (List.getElem_mem hi)
theorem seal_Blank_spec {a:Option Addr} {l:List UInt8} {c:Nat} {w:World} (h:BytesAt w a l) (hn:l.length≤100000) :
  CallsR prog K.seal_Blank #[.slice a l.length c] w fun v w'=>v= .bool (isBlank l)∧w'=w:=by
 apply seal_Blank.sh
 refine ⟨fun y u=>∃ i:Nat,y=i∧i≤l.length∧isBlank (l.take i)=true∧u=w,fun y _=>((l.length:Int) - y).toNat,⟨0,rfl,by omega,by simp [isBlank],rfl⟩,?_⟩
 rintro y u ⟨i,rfl,hi,hb,rfl⟩
 refine br_dec (fun hlt=>?_) fun hge=>?_
 ·refine idx_byte h (by omega) (by omega) ?_
  simp only [Int.toNat_natCast]
  have hi':i<l.length:=by omega
  refine br_ne (fun hne=>?_) fun heq=>?_
  ·refine ⟨?_,by trivial⟩
   have:isBlank l=false:=by
    cases hbl:isBlank l with
    | false=>rfl
    | true=>exfalso;apply hne;rw [isBlank_get hbl hi'];rfl
   rw [this]
  ·have:l.getD i 0=255:=by
    apply UInt8.toNat_inj.1
    show _=255
    omega
   rw [w64 (by omega) (by omega)]
   exact ⟨⟨i+1,by omega,by omega,by rw [isBlank_take_succ l i hi',hb,this];rfl,by trivial⟩,by omega⟩
 ·have:i=l.length:=by omega
  subst this
  rw [List.take_length] at hb
  exact ⟨by rw [hb],by trivial⟩
theorem seal_isSize_spec (n:Int) (w:World):CallsR prog K.seal_isSize #[.int .i64 n] w fun v w'=>v= .bool (isSize n)∧w'=w:=by
 apply seal_isSize.sh
 unfold seal_isSize.body isSize
 refine br_dec (fun h=>?_) fun h=>?_<;>simp [h]
theorem carrackref02_Size_spec (n:Int) (w:World):CallsR prog K.carrackref02_Size #[.int .i64 n] w fun v w'=>v= .bool (isSize n)∧w'=w:=by
 apply carrackref02_Size.sh
 unfold carrackref02_Size.body isSize
 refine br_dec (fun h=>?_) fun h=>?_<;>simp [h]
theorem seal_Body_spec (n:Int) (w:World):CallsR prog K.seal_Body #[.int .i64 n] w fun v w'=>v= .int .i64 (if isSize n=true then n - 5 else 0)∧w'=w:=by
 apply seal_Body.sh
 unfold seal_Body.body
 refine (seal_isSize_spec n w).mono ?_
 rintro _ _ ⟨rfl,rfl⟩
 refine ⟨_,rfl,?_⟩
 cases h:isSize n with
 | false=>simp
 | true =>
  simp [isSize] at h
  simp only [Bool.not_true,br_false]
  rw [w64 (by omega) (by omega)]
  simp
theorem copy_into {w:World} {b:Nat} {cur:Array Value} {o n:Nat} {ax:Option Addr} {xs:List UInt8} {cx:Nat} (hb:w.heap[b]?=some (.cells cur T.uint8 (0,0))) (hx:BytesAt w ax xs) (hn:xs.length≤n) (hl:o+xs.length≤cur.size)
  {K:Int→World→Prop} (hk:∀ w',Put w b (.cells (splice cur o (xs.map bv)) T.uint8 (0,0)) w'→K xs.length w'):copyP 1 (some ⟨b,o,none⟩) n (.slice ax xs.length cx) w K:=by
 refine ⟨xs.length,rfl,xs.map bv,?_,oneCell_bytes,?_⟩
 ·have:=read_row (cap:=cx) (size:=1) hx (len:=xs.length) (by simp)
  rw [show min xs.length n=xs.length by omega]
  exact this
 ·rw [show min xs.length n=xs.length by omega]
  exact store_of hb (by simpa using hl) fun w' hput=>hk w' hput
theorem splice_bytes (l:List UInt8) (o:Nat) (xs:List UInt8):splice ((l.map bv).toArray) o (xs.map bv)=((l.take o ++ xs ++ l.drop (o+xs.length)).map bv).toArray:=by
 simp [splice]
theorem seal_Put_spec (size k:Int) (kind:UInt8) (hk:k=(kind.toNat:Int)) {a:Option Addr} {body:List UInt8} {c:Nat} {w:World} (h:BytesAt w a body) (hn:body.length≤281474976710656) :
  CallsR prog K.seal_Put #[.int .i64 size,.int .u8 k,.slice a body.length c] w fun v w'=>Ext w w'∧
   if isSize size=false∨kind<1∨kind > 7 then v= .tuple #[.slice none 0 0,.int .i64 2]
   else if (body.length:Int) > size - 5 then v= .tuple #[.slice none 0 0,.int .i64 3]
   else ∃ a c,v= .tuple #[.slice a size.toNat c,.int .i64 0]∧BytesAt w' a (pageOf size.toNat kind body)∧Fresh w a∧size.toNat≤c:=by
 subst hk
 have hklt:=kind.toNat_lt
 apply seal_Put.sh
 unfold seal_Put.body
 have e1:kind<1 ↔ (kind.toNat:Int)<1:=by rw [UInt8.lt_iff_toNat_lt];show kind.toNat<1 ↔ _;omega
 have e7:kind > 7 ↔ (kind.toNat:Int) > 7:=by show (7:UInt8)<kind ↔ _;rw [UInt8.lt_iff_toNat_lt];show 7<kind.toNat ↔ _;omega
 refine ⟨fun u=>u=w∧isSize size=true∧¬ kind<1∧¬ kind > 7∧¬ (body.length:Int) > size - 5,?_,?_⟩
 ·refine (seal_isSize_spec _ w).mono ?_
  rintro _ _ ⟨rfl,rfl⟩
  refine ⟨_,rfl,?_⟩
  cases hs:isSize size with
  | false=>simp only [Bool.not_false,br_true,true_or,if_true];exact ⟨Upd.refl _ _,trivial⟩
  | true =>
   simp only [Bool.not_true,br_false]
   refine br_dec (fun h1=>⟨Upd.refl _ _,?_⟩) fun h1=>br_dec (fun h7=>⟨Upd.refl _ _,?_⟩) fun h7=>?_
   ·rw [if_pos (.inr (.inl (e1.2 h1)))];trivial
   ·rw [if_pos (.inr (.inr (e7.2 h7)))];trivial
   ·refine (seal_Body_spec _ _).mono ?_
    rintro _ u ⟨rfl,rfl⟩
    refine ⟨_,rfl,?_⟩
    rw [hs]
    simp only [if_true]
    have hcond:¬ (true=false∨kind<1∨kind > 7):=by rw [e1,e7];simp;omega
    refine br_dec (fun hl=>⟨Upd.refl _ _,?_⟩) fun hl=>⟨by trivial,by trivial,fun h=>h1 (e1.1 h),fun h=>h7 (e7.1 h),hl⟩
    rw [if_neg hcond,if_pos hl];trivial
 ·rintro w' ⟨rfl,hs,hk1,hk7,hbl⟩
  have hs':=hs
  simp [isSize] at hs'
  obtain ⟨m,hm⟩: ∃ m:Nat,size=(m+5:Nat):=⟨(size - 5).toNat,by omega⟩
  subst hm
  have hbl':body.length≤m:=by omega
  refine ⟨by omega,by omega,by omega,by omega,rfl,fun b w₁ hnew=>?_⟩
  rw [zeros_bytes,Int.toNat_natCast] at hnew
  refine ⟨fun x w₂=>∃ i:Nat,x=i∧i≤m+5∧Ext w' w₂∧w₂.heap[b]?=some (.cells ((List.replicate (m+5) (bv 255)).take i ++ (List.replicate (m+5) (Value.int .u8 0)).drop i).toArray T.uint8 (0,0)),fun x _=>((m+5:Nat) - x).toNat,
   ⟨0,rfl,by omega,hnew.upd,by simpa using hnew.get⟩,?_⟩
  rintro x w₂ ⟨i,rfl,hi,hext,hb⟩
  have hbn:w'.heap.size≤b:=by rw [hnew.num];exact Nat.le_refl _
  refine br_dec (fun hlt=>?_) fun hge=>?_
  ·simp only [Int.toNat_natCast] at hlt
   have hl:i<(List.replicate (m+5) (bv 255)).length:=by simp;omega
   refine ⟨by omega,by simp;omega,?_⟩
   simp only [nilC_some',add_lit,Nat.mul_one,Nat.zero_add,Int.toNat_natCast]
   refine store_of hb (by simp;omega) fun w₃ hput=>?_
   have hval:Value.int .u8 255=(List.replicate (m+5) (bv 255))[i]:=by simp
   rw [hval,fill_step _ _ _ hl (by simp)] at hput
   rw [w64 (by omega) (by omega)]
   exact ⟨⟨i+1,by omega,by omega,Put.upd hext hput (.inl hbn),hput.get⟩,by omega⟩
  ·simp only [Int.toNat_natCast] at hge
   have:i=m+5:=by omega
   subst this
   have hb0:w₂.heap[b]?=some (.cells ((List.replicate (m+5) (255:UInt8)).map bv).toArray T.uint8 (0,0)):=by
    rw [hb];simp
   clear hb
   have hbs:=(Array.getElem?_eq_some_iff.1 hb0).1
   rw [wu64 (by omega) (by omega)]
   have hp1:=ends_Put_spec body.length 2 w₂ (by rfl) (by
       have:(256:Nat) ^ 2=65536:=by decide
       omega)
   refine hp1.mono ?_
   rintro _ w₃ ⟨a₂,c₂,rfl,hb2,hf2,he3⟩
   refine ⟨_,_,_,_,rfl,?_⟩
   refine ⟨by omega,by simp;omega,?_⟩
   simp only [nilC_some',add_lit,Nat.mul_one,Nat.zero_add,Int.toNat_natCast,tn2]
   have hb3:=Ext.get he3 hb0
   refine store_of hb3 (by simp) fun w₄ hput4=>?_
   have hne2:∀ p,a₂=some p→¬ p.block=b:=fun p hp e=>by have:=hf2 p hp;omega
   have hb2':=RowAt.upd hb2 hput4.upd1 hne2
   have s1:=splice_bytes (List.replicate (m+5) (255:UInt8)) 2 [kind]
   simp only [List.map_cons,List.map_nil] at s1
   rw [s1] at hput4
   refine slice_from (by omega) (by omega) (by omega) ?_
   rw [if_neg (by omega)]
   simp only [Option.map_some,add_lit,Nat.mul_one,Nat.zero_add,tn2,tn3,tn5,Int.toNat_natCast]
   have hlen2:=leB_length 2 body.length
   have hrw:(2:Nat)=(leB body.length 2).length:=hlen2.symm
   have hcp1:∀ {K:Int→World→Prop},(∀ u,Put w₄ b (.cells (splice ((((List.replicate (m+5) (255:UInt8)).take 2 ++ [kind] ++ (List.replicate (m+5) (255:UInt8)).drop (2 + [kind].length)).map bv).toArray) 3 ((leB body.length 2).map bv)) T.uint8 (0,0)) u→K (leB body.length 2).length u)→
     copyP 1 (some ⟨b,3,none⟩) (m+5 - 3) (.slice a₂ 2 c₂) w₄ K:=by
    intro K hK
    have:=copy_into (n:=m+5 - 3) (cx:=c₂) (o:=3) hput4.get hb2' (by rw [hlen2];omega) (by simp [hlen2]) hK
    rwa [hlen2] at this
   refine hcp1 fun w₅ hput5=>?_
   rw [splice_bytes] at hput5
   refine slice_from (by omega) (by omega) (by omega) ?_
   rw [if_neg (by omega)]
   simp only [Option.map_some,add_lit,Nat.mul_one,Nat.zero_add,tn2,tn3,tn5,Int.toNat_natCast]
   have hE5:Ext w' w₅:=Put.upd (Put.upd (hext.trans he3) hput4 (.inl hbn)) hput5 (.inl hbn)
   refine copy_into hput5.get (h.ext hE5) (by simp;omega) (by simp [hlen2];omega) fun w₆ hput6=>?_
   rw [splice_bytes] at hput6
   have hE6:Ext w' w₆:=Put.upd hE5 hput6 (.inl hbn)
   have hL:∃ b0 b1,leB body.length 2=[b0,b1]:=by
    match hq:leB body.length 2,hlen2 with
    | [b0,b1],_=>exact ⟨b0,b1,rfl⟩
   obtain ⟨b0,b1,hL⟩:=hL
   have hrest:(((List.replicate (m+5) (255:UInt8)).take 2 ++ [kind] ++ (List.replicate (m+5) (255:UInt8)).drop (2 + [kind].length)).take 3 ++ leB body.length 2 ++ ((List.replicate (m+5) (255:UInt8)).take 2 ++ [kind] ++ (List.replicate (m+5) (255:UInt8)).drop (2 + [kind].length)).drop (3+(leB body.length 2).length)).take 5 ++ body ++
     (((List.replicate (m+5) (255:UInt8)).take 2 ++ [kind] ++ (List.replicate (m+5) (255:UInt8)).drop (2 + [kind].length)).take 3 ++ leB body.length 2 ++ ((List.replicate (m+5) (255:UInt8)).take 2 ++ [kind] ++ (List.replicate (m+5) (255:UInt8)).drop (2 + [kind].length)).drop (3+(leB body.length 2).length)).drop (5+body.length)=[255,255] ++ pageRest (m+5) kind body:=by
    simp only [hL,pageRest]
    have r5:List.replicate (m+5) (255:UInt8)=255 :: 255 :: 255 :: 255 :: 255 :: List.replicate m 255:=rfl
    simp only [r5]
    simp
    rw [show 5+body.length=body.length+5 by omega]
    simp
   rw [hrest] at hput6
   have hP6:=hput6.get
   refine slice_from (by omega) (by omega) (by omega) ?_
   rw [if_neg (by omega)]
   simp only [Option.map_some,add_lit,Nat.mul_one,Nat.zero_add,tn2,tn3,tn5,Int.toNat_natCast]
   have hPR:=pageRest_length (m+5) kind body (by omega)
   have hbp:BytesAt w₆ (some ⟨b,2,none⟩) (pageRest (m+5) kind body):=RowAt.of hP6 fun j v hj=>by
    simp only [List.map_append,List.getElem?_toArray]
    rw [List.getElem?_append_right (by simp)]
    simpa using hj
   have hlen6:(m+5 - 2)=(pageRest (m+5) kind body).length:=by rw [hPR]
   rw [hlen6]
   refine (seal_Noughts_spec hbp (by rw [hPR];omega)).mono ?_
   rintro _ _ ⟨rfl,rfl⟩
   refine ⟨_,rfl,?_⟩
   have hnl:=noughts_le (pageRest (m+5) kind body)
   rw [hPR] at hnl
   rw [wu64 (by omega) (by omega)]
   rename_i w₇
   refine (ends_Put_spec (noughts (pageRest (m+5) kind body)) 2 w₇ (by rfl) (by
       have:(256:Nat) ^ 2=65536:=by decide
       omega)).mono ?_
   rintro _ w₈ ⟨a₃,c₃,rfl,hb3',hf3,he8⟩
   refine ⟨_,_,_,_,rfl,?_⟩
   have hlen3:=leB_length 2 (noughts (pageRest (m+5) kind body))
   have hP8:=Ext.get he8 hP6
   have hcp2:∀ {K:Int→World→Prop},(∀ u,Put w₈ b (.cells (splice ((([255,255] ++ pageRest (m+5) kind body).map bv).toArray) 0 ((leB (noughts (pageRest (m+5) kind body)) 2).map bv)) T.uint8 (0,0)) u→K (leB (noughts (pageRest (m+5) kind body)) 2).length u)→
     copyP 1 (some ⟨b,0,none⟩) (m+5) (.slice a₃ 2 c₃) w₈ K:=by
    intro K hK
    have:=copy_into (n:=m+5) (cx:=c₃) (o:=0) hP8 hb3' (by rw [hlen3];simp) (by simp [hlen3]) hK
    rwa [hlen3] at this
   refine hcp2 fun w₉ hput9=>?_
   rw [splice_bytes] at hput9
   have hE9:Ext w' w₉:=Put.upd (hE6.trans he8) hput9 (.inl hbn)
   refine ⟨hE9,?_⟩
   have hcond:¬ (isSize ((m+5:Nat):Int)=false∨kind<1∨kind > 7):=by rw [hs];simp only [Bool.true_eq_false,false_or];exact fun h=>h.elim hk1 hk7
   rw [if_neg hcond,if_neg hbl]
   refine ⟨_,_,rfl,RowAt.of hput9.get fun j v hj=>?_,Fresh.some hbn,Nat.le_refl _⟩
   have hfin:(([255,255] ++ pageRest (m+5) kind body).take 0 ++ leB (noughts (pageRest (m+5) kind body)) 2 ++ ([255,255] ++ pageRest (m+5) kind body).drop (0+(leB (noughts (pageRest (m+5) kind body)) 2).length))=pageOf (m+5) kind body:=by
    rw [hlen3];simp [pageOf]
   rw [hfin]
   simpa using hj
theorem ReaderIn.upd {F G:Nat→Prop} {w w':World} {r:Nat} {l:List UInt8} {no:Bool} (h:ReaderIn G w r l no) (k:Ext w w'):ReaderIn G w' r l no:=by
 obtain ⟨a,c,hr,hb,hc,hne⟩:=h.at_
 exact ⟨a,c,Ext.get k hr,hb.ext k,hc,hne⟩
theorem fromLE_one (b:UInt8):fromLE [b]=b.toNat:=by simp [fromLE]
def GetIs (w:World) (v:Value) (r:UInt8×List UInt8×Nat):Prop :=
 ∃ a c,v= .tuple #[bv r.1,.slice a r.2.1.length c,.int .i64 (r.2.2:Nat)]∧BytesAt w a r.2.1∧r.2.1.length≤c
theorem seal_Get_spec {a:Option Addr} {b:List UInt8} {c:Nat} {w:World} (h:BytesAt w a b) (hc:b.length≤c) :
  CallsR prog K.seal_Get #[.slice a b.length c] w fun v w'=>Ext w w'∧GetIs w' v (getPage b):=by
 apply seal_Get.sh
 unfold seal_Get.body
 refine (seal_isSize_spec _ w).mono ?_
 rintro _ _ ⟨rfl,rfl⟩
 refine ⟨_,rfl,?_⟩
 rename_i w
 cases hs:isSize b.length with
 | false =>
  simp only [Bool.not_false,br_true]
  have hg:getPage b=(0,[],2):=by unfold getPage;rw [if_pos hs]
  rw [hg]
  exact ⟨Upd.refl _ _,none,0,rfl,BytesAt.nil _ _,Nat.le_refl _⟩
 | true =>
  have hs':=hs
  simp [isSize] at hs'
  simp only [Bool.not_true,br_false]
  refine (seal_Blank_spec h (by omega)).mono ?_
  rintro _ _ ⟨rfl,rfl⟩
  rename_i w
  refine ⟨_,rfl,?_⟩
  cases hbl:isBlank b with
  | true =>
   have hg:getPage b=(0,[],6):=by unfold getPage;rw [if_neg (by rw [hs];simp),if_pos hbl]
   rw [br_true,hg]
   exact ⟨Upd.refl _ _,none,0,rfl,BytesAt.nil _ _,Nat.le_refl _⟩
  | false =>
   rw [br_false]
   refine slice_bytes_to h (by omega) (by omega) hc (.inr rfl) fun c1 hb5 hc1=>?_
   rw [tn5] at hb5 hc1 ⊢
   refine (ends_New_spec _ _ c1 w hb5 (by simp;omega)).mono ?_
   rintro _ w₃ ⟨r,rfl,hfr,hrd,he3⟩
   refine ⟨_,rfl,?_⟩
   have hl5:(b.take 5).length=5:=by simp;omega
   refine (ends_Reader_Take_spec r 2 _ false w₃ rfl hrd).mono ?_
   rintro _ w₄ ⟨hu4,hv⟩
   rw [if_neg (by rw [hl5];simp)] at hv
   obtain ⟨rfl,hrd4⟩:=hv
   refine ⟨_,_,rfl,?_⟩
   have hE4:Ext w w₄:=Upd.beyond he3 hu4 fun x hx=>by rw [hx];exact hfr
   have hb4:=h.ext hE4
   refine slice_bytes_from hb4 (by omega) (by omega) hc fun a2 c2 hb2 hc2 _ _ _=>?_
   rw [tn2] at hb2 hc2 ⊢
   refine (seal_Noughts_spec hb2 (by simp;omega)).mono ?_
   rintro _ _ ⟨rfl,rfl⟩
   rename_i w₄
   refine ⟨_,rfl,?_⟩
   have ht2:(b.take 5).take 2=b.take 2:=by rw [List.take_take];rfl
   have hlt2:=fromLE_lt (b.take 2)
   have h256:(256:Nat) ^ 2=65536:=by decide
   have hlen2:(b.take 2).length=2:=by simp;omega
   rw [hlen2,h256] at hlt2
   rw [ht2,w64 (by omega) (by omega)]
   refine br_ne (fun hne=>?_) fun heq=>?_
   ·have hg:getPage b=(0,[],7):=by
     unfold getPage
     rw [if_neg (by rw [hs];simp),if_neg (by rw [hbl];simp),if_pos (by intro e;apply hne;rw [e])]
    rw [hg]
    exact ⟨hE4,none,0,rfl,BytesAt.nil _ _,Nat.le_refl _⟩
   ·have heq':fromLE (b.take 2)=noughts (b.drop 2):=by omega
    refine (ends_Reader_Take_spec r 1 _ false w₄ rfl hrd4).mono ?_
    rintro _ w₅ ⟨hu5,hv⟩
    have hd2:((b.take 5).drop 2).length=3:=by simp;omega
    rw [if_neg (by rw [hd2];simp)] at hv
    obtain ⟨rfl,hrd5⟩:=hv
    refine ⟨_,_,rfl,?_⟩
    refine (ends_Reader_Take_spec r 2 _ false w₅ rfl hrd5).mono ?_
    rintro _ w₆ ⟨hu6,hv⟩
    have hd3:(((b.take 5).drop 2).drop 1).length=2:=by simp;omega
    rw [if_neg (by rw [hd3];simp)] at hv
    obtain ⟨rfl,hrd6⟩:=hv
    refine ⟨_,_,rfl,?_⟩
    have hE6:Ext w w₆:=Upd.beyond (Upd.beyond hE4 hu5 fun x hx=>by rw [hx];exact hfr) hu6 fun x hx=>by rw [hx];exact hfr
    have hk:((b.take 5).drop 2).take 1=[b.getD 2 0]:=by
     apply List.ext_getElem?
     intro j
     cases j with
     | zero =>
      have:2<b.length:=by omega
      simp [List.getD,this]
     | succ j=>simp;omega
    have hn:(((b.take 5).drop 2).drop 1).take 2=(b.drop 3).take 2:=by
     rw [List.drop_drop,List.drop_take,List.take_take]
     rfl
    rw [hk,hn,fromLE_one]
    have hltn:=fromLE_lt ((b.drop 3).take 2)
    have hlenn:((b.drop 3).take 2).length=2:=by simp;omega
    rw [hlenn,h256] at hltn
    have hklt:=(b.getD 2 0).toNat_lt
    have ek1:b.getD 2 0<1 ↔ ((b.getD 2 0).toNat:Int)<1:=by rw [UInt8.lt_iff_toNat_lt];show (b.getD 2 0).toNat<1 ↔ _;omega
    have ek7:b.getD 2 0 > 7 ↔ ((b.getD 2 0).toNat:Int) > 7:=by show (7:UInt8)<b.getD 2 0 ↔ _;rw [UInt8.lt_iff_toNat_lt];show 7<(b.getD 2 0).toNat ↔ _;omega
    have hg0:getPage b=if b.getD 2 0<1∨b.getD 2 0 > 7∨fromLE ((b.drop 3).take 2) > b.length - 5∨isBlank (b.drop (5+fromLE ((b.drop 3).take 2)))=false then (0,[],5)
      else (b.getD 2 0,(b.take (5+fromLE ((b.drop 3).take 2))).drop 5,0):=by
     unfold getPage
     rw [if_neg (by rw [hs];simp),if_neg (by rw [hbl];simp),if_neg (by intro h;exact h heq')]
    generalize hN:fromLE ((b.drop 3).take 2)=n at *
    have bad:∀ u,Ext w u→(b.getD 2 0<1∨b.getD 2 0 > 7∨n > b.length - 5∨isBlank (b.drop (5+n))=false)→Ext w u∧GetIs u (.tuple #[.int .u8 0,.slice none 0 0,.int .i64 5]) (getPage b):=by
     intro u hu hcond
     rw [hg0,if_pos hcond]
     exact ⟨hu,none,0,rfl,BytesAt.nil _ _,Nat.le_refl _⟩
    refine br_dec (fun h1=>bad _ hE6 (.inl (ek1.2 h1))) fun h1=>br_dec (fun h7=>bad _ hE6 (.inr (.inl (ek7.2 h7)))) fun h7=>?_
    refine (seal_Body_spec _ _).mono ?_
    rintro _ _ ⟨rfl,rfl⟩
    rename_i w₆
    refine ⟨_,rfl,?_⟩
    rw [hs,if_pos rfl,w64 (by omega) (by omega)]
    refine br_dec (fun hbig=>bad _ hE6 (.inr (.inr (.inl (by omega))))) fun hbig=>?_
    rw [w64 (by omega) (by omega)]
    have e5n:(5+(n:Int))=((5+n:Nat):Int):=by omega
    rw [e5n]
    have hb6:=h.ext hE6
    refine slice_bytes_from hb6 (by omega) (by omega) hc fun a3 c3 hb3 hc3 _ _ _=>?_
    rw [Int.toNat_natCast] at hb3 hc3 ⊢
    refine (seal_Blank_spec hb3 (by simp;omega)).mono ?_
    rintro _ _ ⟨rfl,rfl⟩
    rename_i w₆
    refine ⟨_,rfl,?_⟩
    cases hbn:isBlank (b.drop (5+n)) with
    | false=>simp only [Bool.not_false,br_true];exact bad _ hE6 (.inr (.inr (.inr hbn)))
    | true =>
     simp only [Bool.not_true,br_false]
     refine slice_bytes_mid hb6 (by omega) (by omega) (by omega) hc (.inl rfl) fun a4 c4 hb4 hc4=>?_
     rw [Int.toNat_natCast,tn5] at hb4 hc4 ⊢
     refine append_copy hb4 (by simp;omega) fun a5 c5 w₇ he7 hb7 hc7 _ _=>?_
     refine ⟨hE6.trans he7,?_⟩
     have hgood:¬ (b.getD 2 0<1∨b.getD 2 0 > 7∨n > b.length - 5∨isBlank (b.drop (5+n))=false):=by
      rintro (h' | h' | h' | h')
      ·exact h1 (ek1.1 h')
      ·exact h7 (ek7.1 h')
      ·omega
      ·rw [hbn] at h';cases h'
     rw [hg0,if_neg hgood,wu8 (by omega) (by omega)]
     exact ⟨a5,c5,rfl,hb7,hc7⟩
end Go.Den
namespace Go.Den
structure Hit where
 after:Int
 fails:Bool
 mask:List UInt8
structure Chip where
 nb:Nat
 np:Nat
 sz:Nat
 sp:Nat
 blocks:List (List UInt8)
 bad:List Bool
 hits:List Hit
 since:Int
 dead:Bool
 deeds:Int
namespace Chip
structure Ok (c:Chip):Prop where
 nb1:8≤c.nb
 nb2:c.nb≤64
 np1:4≤c.np
 np2:c.np≤32
 sz1:128≤c.sz
 sz2:c.sz≤256
 bl:c.blocks.length=c.nb
 bl2:∀ b∈c.blocks,b.length=c.np * c.sz
 bad:c.bad.length=c.nb
def blk (c:Chip) (i:Nat):List UInt8:=c.blocks.getD i []
def isBad (c:Chip) (i:Nat):Bool:=c.bad.getD i false
def page (c:Chip) (i k:Nat):List UInt8:=((c.blk i).drop (k * c.sz)).take c.sz
def ask (c:Chip) (block page:Int):Nat :=
 if c.dead then 10 else if block<0∨block≥c.nb∨page<0∨page≥c.np then 2 else 0
def strike (c:Chip):Chip×Option Hit :=
 match c.hits with
 | []=>({ c with deeds:=IntKind.i64.wrap (c.deeds+1) },none)
 | h :: r=>if c.since<h.after then ({ c with deeds:=IntKind.i64.wrap (c.deeds+1),since:=IntKind.i64.wrap (c.since+1) },none)
  else ({ c with deeds:=IntKind.i64.wrap (c.deeds+1),since:=0,hits:=r },some h)
end Chip
def maskAt (h:Option Hit) (i:Nat):UInt8 :=
 match h with
 | none=>255
 | some h=>if h.mask.length=0 then 0 else h.mask.getD (i % h.mask.length) 0
def mix (m old new:UInt8):UInt8:=(old &&& ~~~ m) ||| (new &&& m)
def mixL (h:Option Hit) (old new:List UInt8):List UInt8:=(List.range old.length).map fun i=>mix (maskAt h i) (old.getD i 0) (new.getD i 0)
namespace Chip
def setBlk (c:Chip) (i:Nat) (b:List UInt8):Chip:={ c with blocks:=c.blocks.set i b }
def finish (c:Chip) (block:Nat) (h:Option Hit):Chip×Nat :=
 match h with
 | none=>(c,0)
 | some h=>if h.fails then ({ c with bad:=c.bad.set block true },9) else ({ c with dead:=true },10)
def done (c:Chip) (block off n:Nat) (new:List UInt8):Chip×Nat :=
 (c.strike.1.setBlk block ((c.blk block).take off ++ mixL c.strike.2 (((c.blk block).drop off).take n) new ++ (c.blk block).drop (off+n))).finish block c.strike.2
def program (c:Chip) (block page:Int) (b:List UInt8):Chip×Nat :=
 if c.ask block page≠0 then (c,c.ask block page)
 else if b.length≠c.sz then (c,2)
 else if c.isBad block.toNat then (c,9)
 else if isBlank ((c.blk block.toNat).drop (page.toNat * c.sz))=false then (c,8)
 else c.done block.toNat (page.toNat * c.sz) c.sz b
def erase (c:Chip) (block:Int):Chip×Nat :=
 if c.ask block 0≠0 then (c,c.ask block 0)
 else if c.isBad block.toNat then (c,9)
 else c.done block.toNat 0 (c.np * c.sz) (List.replicate (c.np * c.sz) 255)
def power (c:Chip):Chip:={ c with hits:=[],since:=0,dead:=false,deeds:=0 }
end Chip
theorem mixL_length (h:Option Hit) (old new:List UInt8):(mixL h old new).length=old.length:=by simp [mixL]
theorem mixL_get (h:Option Hit) (old new:List UInt8) (i:Nat) (hi:i<old.length):(mixL h old new)[i]?=some (mix (maskAt h i) (old.getD i 0) (new.getD i 0)):=by
 simp [mixL,hi]
theorem mix_int (m old new:UInt8) :
  IntKind.u8.wrap (((BitVec.ofInt (IntKind.bits .u8) (IntKind.u8.wrap (((BitVec.ofInt (IntKind.bits .u8) (old.toNat:Int) &&& ~~~ (BitVec.ofInt (IntKind.bits .u8) (m.toNat:Int))).toNat:Nat):Int)) |||
   BitVec.ofInt (IntKind.bits .u8) (IntKind.u8.wrap (((BitVec.ofInt (IntKind.bits .u8) (new.toNat:Int) &&& BitVec.ofInt (IntKind.bits .u8) (m.toNat:Int)).toNat:Nat):Int))).toNat:Nat):Int)=((mix m old new).toNat:Int):=by
 show IntKind.u8.wrap (((BitVec.ofInt 8 (IntKind.u8.wrap (((BitVec.ofInt 8 (old.toNat:Int) &&& ~~~ (BitVec.ofInt 8 (m.toNat:Int))).toNat:Nat):Int)) |||
   BitVec.ofInt 8 (IntKind.u8.wrap (((BitVec.ofInt 8 (new.toNat:Int) &&& BitVec.ofInt 8 (m.toNat:Int)).toNat:Nat):Int))).toNat:Nat):Int)=_
 simp only [ofInt_byte]
 have e1:old.toBitVec &&& ~~~ m.toBitVec=(old &&& ~~~ m).toBitVec:=by rw [UInt8.toBitVec_and,UInt8.toBitVec_not]
 have e2:new.toBitVec &&& m.toBitVec=(new &&& m).toBitVec:=by rw [UInt8.toBitVec_and]
 rw [e1,e2]
 have w:∀ x:UInt8,IntKind.u8.wrap ((x.toBitVec.toNat:Nat):Int)=(x.toNat:Int):=by
  intro x
  have hx:=x.toNat_lt
  have e:x.toBitVec.toNat=x.toNat:=rfl
  rw [e,wu8 (by omega) (by omega)]
 rw [w (old &&& ~~~ m),w (new &&& m),ofInt_byte,ofInt_byte,← UInt8.toBitVec_or,w]
 rfl
end Go.Den
namespace Go.Den
theorem BytesAt.updM {G F:Nat→Prop} {w w':World} {m:Option Addr} {l:List UInt8} (hb:BytesAt w m l) (k:Upd F w w') (hg:l≠[]→∀ p,m=some p→G p.block) (hf:∀ x,G x→¬ F x):BytesAt w' m l:=by
 cases l with
 | nil=>exact BytesAt.nil _ _
 | cons x l=>exact RowAt.upd hb k (fun p hp=>hf _ (hg (by simp) p hp))
def HitRow (w:World) (G:Nat→Prop):List Value→List Hit→Prop
 | vs,[]=>vs=[]
 | vs,h :: hs=>∃ m c r,vs=Value.int .i64 h.after :: Value.bool h.fails :: Value.slice m h.mask.length c :: r∧BytesAt w m h.mask∧(h.mask≠[]→∀ p,m=some p→G p.block)∧HitRow w G r hs
theorem HitRow.upd {G F:Nat→Prop} {w w':World} (k:Upd F w w') (hf:∀ x,G x→¬ F x):∀ {hs:List Hit} {vs:List Value},HitRow w G vs hs→HitRow w' G vs hs
 | [],vs,h=>h
 | h :: hs,vs,⟨m,c,r,e,hb,hg,hr⟩=>⟨m,c,r,e,hb.updM k hg hf,hg,HitRow.upd k hf hr⟩
theorem HitRow.length {w:World} {G:Nat→Prop}:∀ {hs:List Hit} {vs:List Value},HitRow w G vs hs→vs.length=hs.length * 3
 | [],vs,h=>by cases h;rfl
 | h :: hs,vs,⟨m,c,r,e,hb,hg,hr⟩=>by rw [e];simp [HitRow.length hr];omega
theorem HitRow.mono {w:World} {G H:Nat→Prop} (hgh:∀ x,G x→H x):∀ {hs:List Hit} {vs:List Value},HitRow w G vs hs→HitRow w H vs hs
 | [],vs,h=>h
 | h :: hs,vs,⟨m,c,r,e,hb,hg,hr⟩=>⟨m,c,r,e,hb,fun hn p hp=>hgh _ (hg hn p hp),HitRow.mono hgh hr⟩
structure Loc where
 bb:Nat
 cbad:Nat
 pb:Nat
 cb:Nat
 ha:Option Addr
 ch:Nat
 locs:List Nat
def chipCells (c:Chip) (L:Loc):Array Value :=
 #[.int .i64 c.nb,.int .i64 c.np,.int .i64 c.sz,.int .i64 c.sp,.slice (some ⟨L.pb,0,none⟩) c.nb L.cb,.slice (some ⟨L.bb,0,none⟩) c.nb L.cbad,.slice L.ha c.hits.length L.ch,
  .int .i64 c.since,.bool c.dead,.int .i64 c.deeds]
structure ChipRep (w:World) (p:Nat) (c:Chip) (L:Loc) (G:Nat→Prop):Prop where
 ok:c.Ok
 head:w.heap[p]?=some (.cells (chipCells c L) T.nand_Chip (0,0))
 bad:OwnAt w (some ⟨L.bb,0,none⟩) c.nb L.cbad T.bool 1 (c.bad.map Value.bool)
 rows:∃ vs,OwnAt w (some ⟨L.pb,0,none⟩) c.nb L.cb T.L_uint8 1 vs∧∀ i,i<c.nb→∃ l cap,L.locs[i]?=some l∧vs[i]?=some (.slice (some ⟨l,0,none⟩) (c.np * c.sz) cap)∧OwnAt w (some ⟨l,0,none⟩) (c.np * c.sz) cap T.uint8 1 ((c.blk i).map bv)
 hits:∃ vs,RowAt w L.ha vs∧HitRow w G vs c.hits∧c.hits.length≤L.ch∧∀ a,L.ha=some a→G a.block
 len:L.locs.length=c.nb
 nodup:(p :: L.bb :: L.locs).Nodup
 apart:∀ x,x∈p :: L.bb :: L.locs→¬ G x
 pbG:G L.pb
def ChipAt (w:World) (p:Nat) (c:Chip) (F:Nat→Prop):Prop :=
 ∃ L G,ChipRep w p c L G∧(∀ x,x∈p :: L.bb :: L.locs→F x)∧(∀ x,G x→F x)∧∀ x,F x→x<w.heap.size
theorem ChipRep.upd {F G:Nat→Prop} {w w':World} {p:Nat} {c:Chip} {L:Loc} (h:ChipRep w p c L G) (k:Upd F w w') (hm:∀ x,x∈p :: L.bb :: L.locs→¬ F x) (hg:∀ x,G x→¬ F x):ChipRep w' p c L G:=by
 refine ⟨h.ok,k.get h.head (hm _ (by simp)),OwnAt.upd h.bad k (fun b hb=>by cases hb;exact hm _ (by simp)),?_,?_,h.len,h.nodup,h.apart,h.pbG⟩
 ·obtain ⟨vs,ho,hv⟩:=h.rows
  refine ⟨vs,OwnAt.upd ho k (fun b hb=>by cases hb;exact hg _ h.pbG),fun i hi=>?_⟩
  obtain ⟨l,cap,hl,hvi,hbi⟩:=hv i hi
  exact ⟨l,cap,hl,hvi,OwnAt.upd hbi k (fun b hb=>by cases hb;exact hm _ (by simp [List.mem_of_getElem? hl]))⟩
 ·obtain ⟨vs,hr,hh,hc,ha⟩:=h.hits
  exact ⟨vs,RowAt.upd hr k (fun a e=>hg _ (ha a e)),HitRow.upd k hg hh,hc,ha⟩
theorem ChipRep.ext {G:Nat→Prop} {w w':World} {p:Nat} {c:Chip} {L:Loc} (h:ChipRep w p c L G) (k:Ext w w'):ChipRep w' p c L G:=h.upd k (fun _ _ hf=>hf) (fun _ _ hf=>hf)
theorem ChipAt.upd {F H:Nat→Prop} {w w':World} {p:Nat} {c:Chip} (h:ChipAt w p c F) (k:Upd H w w') (hd:∀ x,F x→¬ H x):ChipAt w' p c F:=by
 obtain ⟨L,G,hr,hm,hg,hs⟩:=h
 exact ⟨L,G,hr.upd k (fun x hx=>hd x (hm x hx)) (fun x hx=>hd x (hg x hx)),hm,hg,fun x hx=>Nat.lt_of_lt_of_le (hs x hx) k.size⟩
theorem ChipAt.ext {F:Nat→Prop} {w w':World} {p:Nat} {c:Chip} (h:ChipAt w p c F) (k:Ext w w'):ChipAt w' p c F:=h.upd k fun _ _ hf=>hf
theorem ChipAt.mono {F H:Nat→Prop} {w:World} {p:Nat} {c:Chip} (h:ChipAt w p c F) (hs:∀ x,F x→H x) (hl:∀ x,H x→x<w.heap.size):ChipAt w p c H:=by
 obtain ⟨L,G,hr,hm,hg,_⟩:=h
 exact ⟨L,G,hr,fun x hx=>hs x (hm x hx),fun x hx=>hs x (hg x hx),hl⟩
theorem ChipAt.ok {F:Nat→Prop} {w:World} {p:Nat} {c:Chip} (h:ChipAt w p c F):c.Ok:=by
 obtain ⟨_,_,hr,_⟩:=h
 exact hr.ok
theorem ChipAt.at_ {F:Nat→Prop} {w:World} {p:Nat} {c:Chip} (h:ChipAt w p c F):F p∧p<w.heap.size:=by
 obtain ⟨L,G,hr,hm,_,hs⟩:=h
 exact ⟨hm p (by simp),hs p (hm p (by simp))⟩
theorem Chip.Ok.blk_len {c:Chip} (h:c.Ok) {i:Nat} (hi:i<c.nb):(c.blk i).length=c.np * c.sz:=by
 have hl:i<c.blocks.length:=by rw [h.bl];exact hi
 have:c.blk i=c.blocks[i]:=by simp [Chip.blk,List.getD,hl]
 rw [this]
 exact h.bl2 _ (List.getElem_mem hl)
theorem Chip.Ok.size_le {c:Chip} (h:c.Ok):c.np * c.sz≤8192:=by
 have:=Nat.mul_le_mul h.np2 h.sz2
 omega
theorem page_in {c:Chip} {k:Nat} (hk:k<c.np):k * c.sz+c.sz≤c.np * c.sz:=by
 have:(k+1) * c.sz≤c.np * c.sz:=Nat.mul_le_mul_right _ hk
 rwa [Nat.succ_mul] at this
theorem nand_off_spec {w:World} {p:Nat} {c:Chip} {L:Loc} {G:Nat→Prop} (h:ChipRep w p c L G) :
  CallsR prog K.nand_Chip_off #[.pointer (some ⟨p,0,none⟩)] w fun v w'=>v= .bool false∧w'=w:=by
 apply nand_Chip_off.sh
 simp only [nand_Chip_off.body,Option.isNone_some,br_false,nilC_some',add_lit]
 exact ⟨_,_,_,cell_of h.head rfl,rfl,by trivial⟩
theorem nand_ask_spec {w:World} {p:Nat} {c:Chip} {L:Loc} {G:Nat→Prop} (h:ChipRep w p c L G) (block page:Int) :
  CallsR prog K.nand_Chip_ask #[.pointer (some ⟨p,0,none⟩),.int .i64 block,.int .i64 page] w fun v w'=>v= .int .i64 (c.ask block page:Nat)∧w'=w:=by
 apply nand_Chip_ask.sh
 unfold nand_Chip_ask.body
 refine (nand_off_spec h).mono ?_
 rintro _ _ ⟨rfl,rfl⟩
 refine ⟨_,rfl,?_⟩
 simp only [br_false,nilC_some',add_lit]
 refine ⟨c.dead,cell_of h.head rfl,?_⟩
 unfold Chip.ask
 cases hd:c.dead with
 | true=>simp
 | false =>
  simp only [br_false,Bool.false_eq_true,if_false]
  refine br_dec (fun h1=>⟨by rw [if_pos (by omega)];rfl,by trivial⟩) fun h1=>⟨_,cell_of h.head rfl,br_dec (fun h2=>⟨by rw [if_pos (by omega)];rfl,by trivial⟩) fun h2=>br_dec (fun h3=>⟨by rw [if_pos (by omega)];rfl,by trivial⟩) fun h3=>⟨_,cell_of h.head rfl,br_dec (fun h4=>⟨by rw [if_pos (by omega)];rfl,by trivial⟩) fun h4=>⟨by rw [if_neg (by omega)];rfl,by trivial⟩⟩⟩
theorem ask_zero {c:Chip} {block page:Int} (h:c.ask block page=0):c.dead=false∧0≤block∧block.toNat<c.nb∧0≤page∧page.toNat<c.np:=by
 unfold Chip.ask at h
 split at h
 ·cases h
 ·rename_i hd
  split at h
  ·cases h
  ·exact ⟨by simpa using hd,by omega,by omega,by omega,by omega⟩
theorem nand_Geo_spec {w:World} {p:Nat} {c:Chip} {L:Loc} {G:Nat→Prop} (h:ChipRep w p c L G) :
  CallsR prog K.nand_Chip_Geo #[.pointer (some ⟨p,0,none⟩)] w fun v w'=>v= .agg #[.int .i64 c.nb,.int .i64 c.np,.int .i64 c.sz,.int .i64 c.sp]∧Ext w w':=by
 apply nand_Chip_Geo.sh
 intro B w₁ hnew
 have h1:=h.ext hnew.upd
 refine (nand_off_spec h1).mono ?_
 rintro _ _ ⟨rfl,rfl⟩
 rename_i w₁
 refine ⟨_,rfl,?_⟩
 simp only [br_false,nilC_some']
 refine ⟨c.nb,c.np,c.sz,c.sp,cellsAt_of (o:=0) h1.head (fun j v hj=>?_),?_⟩
 ·match j,hj with
  | 0,hj=>simpa [chipCells] using hj
  | 1,hj=>simpa [chipCells] using hj
  | 2,hj=>simpa [chipCells] using hj
  | 3,hj=>simpa [chipCells] using hj
  | j+4,hj=>simp at hj
 ·refine store_of hnew.get (by simp) fun w₂ hput=>?_
  refine ⟨c.nb,c.np,c.sz,c.sp,cellsAt_of (o:=0) hput.get (fun j v hj=>?_),rfl,Put.upd hnew.upd hput (.inl (by rw [hnew.num];exact Nat.le_refl _))⟩
  rw [splice_all _ _ (by simp)]
  simpa using hj
theorem nand_page_spec {w:World} {p:Nat} {c:Chip} {L:Loc} {G:Nat→Prop} (h:ChipRep w p c L G) (block page:Nat) (hb:block<c.nb) (hp:page<c.np) :
  CallsR prog K.nand_Chip_page #[.pointer (some ⟨p,0,none⟩),.int .i64 block,.int .i64 page] w fun v w'=>Ext w w'∧∃ l,L.locs[block]?=some l∧v= .slice (some ⟨l,page * c.sz,none⟩) c.sz c.sz:=by
 apply nand_Chip_page.sh
 intro w₁ hdrew
 have h1:=h.ext hdrew.upd
 refine ⟨fun u=>Ext w u,hdrew.upd,?_⟩
 simp only [nilC_some',add_lit]
 refine ⟨c.sz,fun u hu=>cell_of (h.ext hu).head rfl,c.sz,fun u hu=>cell_of (h.ext hu).head rfl,_,_,_,cell_of h1.head rfl,?_⟩
 obtain ⟨vs,ho,hv⟩:=h1.rows
 obtain ⟨l,cap,hl,hvi,hbi⟩:=hv block hb
 refine ⟨by omega,by omega,?_⟩
 obtain ⟨b',o',hab,hc⟩:=RowAt.cell ho.row hvi
 cases hab
 simp only [nilC_some',add_lit,Nat.mul_one,Int.toNat_natCast]
 refine ⟨_,_,_,hc,?_⟩
 have hok:=h.ok
 have hnp:=hok.np2
 have hsz:=hok.sz2
 have hsz1:=hok.sz1
 have hps:=page_in hp
 have hle:=hok.size_le
 have hcap:=hbi.2.1
 have e1:IntKind.i64.wrap ((page:Int) * (c.sz:Int))=((page * c.sz:Nat):Int):=by
  rw [← Int.natCast_mul];exact w64 (by omega) (by omega)
 have e0:IntKind.i64.wrap ((page:Int)+1)=((page+1:Nat):Int):=w64 (by omega) (by omega)
 have e2:IntKind.i64.wrap (((page+1:Nat):Int) * (c.sz:Int))=(((page+1) * c.sz:Nat):Int):=by
  rw [← Int.natCast_mul];rw [Nat.succ_mul];exact w64 (by omega) (by omega)
 rw [e0,e1,e2]
 rw [Nat.succ_mul]
 refine ⟨by simp;omega,by simp;omega,by simp;omega,by simp,by simp;omega,by simp;omega,by simp,?_⟩
 refine ⟨hdrew.upd,l,hl,?_⟩
 simp only [Option.getD_some,Int.toNat_natCast]
 rw [if_neg (by omega)]
 simp
theorem slices_Clone_byte_spec {a:Option Addr} {l:List UInt8} {c:Nat} {w:World} (h:BytesAt w a l) (hn:l.length≤140737488355232) :
  CallsR prog K.slices_Clone_byte #[.slice a l.length c] w fun v w'=>Ext w w'∧∃ a' c',v= .slice a' l.length c'∧OwnAt w' a' l.length c' T.uint8 1 (l.map bv)∧Fresh w a':=by
 apply slices_Clone_byte.sh
 unfold slices_Clone_byte.body
 refine br_intro (fun ha=>?_) fun ha=>?_
 ·have:a=none:=by simpa using ha
  subst this
  have:l=[]:=by
   rcases h with h | ⟨b,o,cur,T,fr,h,_⟩
   ·simpa using h
   ·cases h
  subst this
  exact ⟨Upd.refl _ _,none,0,rfl,OwnAt.nil _ _ _,Fresh.none _⟩
 ·intro B w₁ hnew
  have ho:OwnAt w₁ (some ⟨B,0,none⟩) ([]:List UInt8).length 0 T.uint8 1 (([]:List UInt8).map bv):=by
   have:=OwnAt.new (n:=0) (size:=1) hnew (by simp)
   simpa using this
  have hB:w.heap.size=B:=by rw [hnew.num]
  refine append_bytes (l:=[]) ho (h.ext hnew.upd) (by simp;omega) fun a' c' w₂ hu ho' hf=>?_
  simp only [List.nil_append] at ho' ⊢
  refine ⟨Upd.beyond hnew.upd hu fun x hx=>by cases hx;omega,a',c',rfl,ho',?_⟩
  rcases hf with rfl | ⟨b,rfl,hb⟩
  ·exact Fresh.some (by omega)
  ·exact Fresh.some (by have:=hnew.size;omega)
theorem page_bytes {w:World} {p:Nat} {c:Chip} {L:Loc} {G:Nat→Prop} (h:ChipRep w p c L G) {block page l:Nat} (hb:block<c.nb) (hp:page<c.np) (hl:L.locs[block]?=some l) :
  BytesAt w (some ⟨l,page * c.sz,none⟩) (c.page block page)∧(c.page block page).length=c.sz:=by
 obtain ⟨vs,ho,hv⟩:=h.rows
 obtain ⟨l',cap,hl',hvi,hbi⟩:=hv block hb
 rw [hl] at hl'
 cases hl'
 have hlen:=h.ok.blk_len hb
 have hps:=page_in hp
 refine ⟨?_,by simp [Chip.page,hlen];omega⟩
 have:=BytesAt.take (BytesAt.drop (o:=0) hbi.row (page * c.sz)) c.sz
 simpa [Chip.page] using this
theorem nand_Read_spec {w:World} {p:Nat} {c:Chip} {L:Loc} {G:Nat→Prop} (h:ChipRep w p c L G) (block page:Int) :
  CallsR prog K.nand_Chip_Read #[.pointer (some ⟨p,0,none⟩),.int .i64 block,.int .i64 page] w fun v w'=>Ext w w'∧
   if c.ask block page=0 then ∃ a cp,v= .tuple #[.slice a c.sz cp,.int .i64 0]∧BytesAt w' a (c.page block.toNat page.toNat)∧c.sz≤cp∧Fresh w a
   else v= .tuple #[.slice none 0 0,.int .i64 (c.ask block page:Nat)]:=by
 apply nand_Chip_Read.sh
 unfold nand_Chip_Read.body
 refine (nand_ask_spec h block page).mono ?_
 rintro _ _ ⟨rfl,rfl⟩
 rename_i w
 refine ⟨_,rfl,br_ne (fun hne=>⟨Upd.refl _ _,?_⟩) fun heq=>?_⟩
 ·rw [if_neg (by omega)]
 ·have h0:c.ask block page=0:=by omega
  obtain ⟨hd,hb0,hb1,hp0,hp1⟩:=ask_zero h0
  have eb:block=(block.toNat:Int):=by omega
  have ep:page=(page.toNat:Int):=by omega
  rw [eb,ep]
  refine (nand_page_spec h block.toNat page.toNat hb1 hp1).mono ?_
  rintro _ w₁ ⟨he,l,hl,rfl⟩
  refine ⟨_,_,_,rfl,?_⟩
  obtain ⟨hpb,hplen⟩:=page_bytes (h.ext he) hb1 hp1 hl
  have hsz:=h.ok.sz2
  have hcl:=slices_Clone_byte_spec (c:=c.sz) hpb (by omega)
  rw [hplen] at hcl
  refine hcl.mono ?_
  rintro _ w₂ ⟨he2,a',c',rfl,ho,hf⟩
  refine ⟨_,_,_,rfl,he.trans he2,?_⟩
  rw [← eb,← ep,if_pos h0]
  exact ⟨a',c',rfl,ho.row,ho.2.1,Fresh.mono hf he.size⟩
theorem nand_Bad_spec {w:World} {p:Nat} {c:Chip} {L:Loc} {G:Nat→Prop} (h:ChipRep w p c L G) (block:Int) :
  CallsR prog K.nand_Chip_Bad #[.pointer (some ⟨p,0,none⟩),.int .i64 block] w fun v w'=>v= .bool (decide (0≤block) && c.isBad block.toNat)∧w'=w:=by
 apply nand_Chip_Bad.sh
 unfold nand_Chip_Bad.body
 refine (nand_off_spec h).mono ?_
 rintro _ _ ⟨rfl,rfl⟩
 refine ⟨_,rfl,?_⟩
 simp only [Bool.not_false,br_true,nilC_some',add_lit]
 refine br_dec (fun h0=>⟨_,cell_of h.head rfl,br_dec (fun h1=>?_) fun h1=>?_⟩) fun h0=>?_
 ·refine ⟨_,_,_,cell_of h.head rfl,h0,h1,?_⟩
  simp only [nilC_some',add_lit,Nat.mul_one]
  have hlt:block.toNat<c.bad.length:=by rw [h.ok.bad];omega
  have hg:(c.bad.map Value.bool)[block.toNat]?=some (.bool c.bad[block.toNat]):=by simp [hlt]
  obtain ⟨b',o',hab,hc⟩:=RowAt.cell h.bad.row hg
  cases hab
  refine ⟨_,hc,?_,by trivial⟩
  have:decide (0≤block)=true:=by simpa using h0
  rw [this]
  simp [Chip.isBad,List.getD,hlt]
 ·have hge:c.bad.length≤block.toNat:=by rw [h.ok.bad];omega
  refine ⟨?_,by trivial⟩
  simp [Chip.isBad,List.getD,List.getElem?_eq_none hge]
 ·refine ⟨?_,by trivial⟩
  have:decide (0≤block)=false:=by simpa using h0
  rw [this]
  rfl
theorem callT.mono {f:Value} {args:List Value} {w:World} {R R':Value→World→Prop} (h:callT f args w R) (hr:∀ v w',R v w'→R' v w'):callT f args w R':=by
 unfold callT at h ⊢
 split at h
 ·exact ⟨h.1,h.2.mono hr⟩
 ·refine ⟨h.1,h.2.1,fun F n hF=>?_⟩
  obtain ⟨fn,tmps,ac,bd,h1,h2⟩:=h.2.2 F n hF
  exact ⟨fn,tmps,ac,bd,h1,h2.mono fun e w' ⟨v,he,hR⟩=>⟨v,he,hr _ _ hR⟩⟩
 ·exact h.elim
theorem OwnAt.cap_eq {w:World} {b len cap cap':Nat} {e:TypeId} {x y:List Value} (h:OwnAt w (some ⟨b,0,none⟩) len cap e 1 x) (k:OwnAt w (some ⟨b,0,none⟩) len cap' e 1 y):cap=cap':=by
 obtain ⟨_,_,h⟩:=h
 obtain ⟨_,_,k⟩:=k
 rcases h with ⟨h,_⟩| ⟨b1,cur1,h,hb1,hs1,_⟩
 ·cases h
 ·rcases k with ⟨k,_⟩| ⟨b2,cur2,k,hb2,hs2,_⟩
  ·cases k
  ·cases h;cases k
   rw [hb1] at hb2
   cases hb2
   omega
theorem own_store {w:World} {b len cap size:Nat} {e:TypeId} {cells:List Value} (h:OwnAt w (some ⟨b,0,none⟩) len cap e size cells) {o:Nat} {vs:List Value} (ho:o+vs.length≤cells.length) {K:World→Prop}
  (hk:∀ w',Upd (·=b) w w'→OwnAt w' (some ⟨b,0,none⟩) len cap e size (cells.take o ++ vs ++ cells.drop (o+vs.length))→K w'):storeP w ⟨b,o,none⟩ vs K:=by
 obtain ⟨hl,hc,h⟩:=h
 rcases h with ⟨h,_⟩| ⟨b1,cur,h,hb,hs,ht⟩
 ·cases h
 ·cases h
  have hle:len * size≤cap * size:=Nat.mul_le_mul_right _ hc
  refine store_of hb (by omega) fun w' hput=>hk w' (Put.upd1 hput) ⟨by simp;omega,hc,.inr ⟨b,_,rfl,hput.get,by rw [splice_size _ _ _ (by omega),hs],?_⟩⟩
  simp only [splice]
  subst ht
  rw [List.take_take,Nat.min_eq_left (by omega)]
  simp only [List.length_take,Array.length_toList] at hl ho ⊢
  rw [List.drop_take]
  rw [List.take_append,List.take_of_length_le (by simp;omega)]
  simp only [List.append_assoc]
  simp only [List.length_append,List.length_take,Array.length_toList]
  congr 3
  omega
def SameLoc (L L':Loc):Prop:=L'.bb=L.bb∧L'.cbad=L.cbad∧L'.pb=L.pb∧L'.cb=L.cb∧L'.locs=L.locs
theorem SameLoc.refl (L:Loc):SameLoc L L:=⟨rfl,rfl,rfl,rfl,rfl⟩
theorem SameLoc.trans {A B C:Loc} (h:SameLoc A B) (k:SameLoc B C):SameLoc A C:=by
 obtain ⟨a,b,c,d,e⟩:=h
 obtain ⟨a',b',c',d',e'⟩:=k
 exact ⟨by rw [a',a],by rw [b',b],by rw [c',c],by rw [d',d],by rw [e',e]⟩
theorem ChipRep.reh {w w':World} {p:Nat} {c:Chip} {L:Loc} {G:Nat→Prop} (h:ChipRep w p c L G) (k:Upd (·=p) w w') (hs:List Hit) (since:Int) (dead:Bool) (deeds:Int) (ha:Option Addr) (ch:Nat)
  (hd:w'.heap[p]?=some (.cells (chipCells { c with hits:=hs,since:=since,dead:=dead,deeds:=deeds } { L with ha:=ha,ch:=ch }) T.nand_Chip (0,0)))
  (hh:∃ vs,RowAt w ha vs∧HitRow w G vs hs∧hs.length≤ch∧∀ a,ha=some a→G a.block):ChipRep w' p { c with hits:=hs,since:=since,dead:=dead,deeds:=deeds } { L with ha:=ha,ch:=ch } G:=by
 have hnd:=h.nodup
 have hne:∀ x,x∈L.bb :: L.locs→x≠p:=fun x hx e=>by subst e;exact (List.nodup_cons.1 hnd).1 hx
 have hgp:∀ x,G x→x≠p:=fun x hx e=>by subst e;exact h.apart _ (by simp) hx
 refine ⟨⟨h.ok.nb1,h.ok.nb2,h.ok.np1,h.ok.np2,h.ok.sz1,h.ok.sz2,h.ok.bl,h.ok.bl2,h.ok.bad⟩,hd,OwnAt.upd h.bad k (fun b hb=>by cases hb;exact hne _ (by simp)),?_,?_,h.len,h.nodup,h.apart,h.pbG⟩
 ·obtain ⟨vs,ho,hv⟩:=h.rows
  refine ⟨vs,OwnAt.upd ho k (fun b hb=>by cases hb;exact hgp _ h.pbG),fun i hi=>?_⟩
  obtain ⟨l,cap,hl,hvi,hbi⟩:=hv i hi
  exact ⟨l,cap,hl,hvi,OwnAt.upd hbi k (fun b hb=>by cases hb;exact hne _ (by simp [List.mem_of_getElem? hl]))⟩
 ·obtain ⟨vs,hr,hh,hc,ha⟩:=hh
  exact ⟨vs,RowAt.upd hr k (fun a e=>hgp _ (ha a e)),HitRow.upd k hgp hh,hc,ha⟩
theorem ChipRep.reblk {w w':World} {p:Nat} {c:Chip} {L:Loc} {G:Nat→Prop} (h:ChipRep w p c L G) {i l cap:Nat} (k:Upd (·=l) w w') (hi:i<c.nb) (hl:L.locs[i]?=some l) {b:List UInt8} (hb:b.length=c.np * c.sz)
  (ho:OwnAt w (some ⟨l,0,none⟩) (c.np * c.sz) cap T.uint8 1 ((c.blk i).map bv)) (hn:OwnAt w' (some ⟨l,0,none⟩) (c.np * c.sz) cap T.uint8 1 (b.map bv)):ChipRep w' p (c.setBlk i b) L G:=by
 have hnd:=h.nodup
 have hlm:=List.mem_of_getElem? hl
 have hpl:p≠l:=fun e=>by subst e;exact (List.nodup_cons.1 hnd).1 (by simp [hlm])
 have hnd2:=(List.nodup_cons.1 hnd).2
 have hbl:L.bb≠l:=fun e=>by rw [e] at hnd2;exact (List.nodup_cons.1 hnd2).1 hlm
 have hgl:∀ x,G x→x≠l:=fun x hx e=>by subst e;exact h.apart _ (by simp [hlm]) hx
 have hib:i<c.blocks.length:=by rw [h.ok.bl];exact hi
 refine ⟨⟨h.ok.nb1,h.ok.nb2,h.ok.np1,h.ok.np2,h.ok.sz1,h.ok.sz2,by simp [Chip.setBlk,h.ok.bl],fun x hx=>?_,h.ok.bad⟩,k.get h.head hpl,OwnAt.upd h.bad k (fun b hb=>by cases hb;exact hbl),?_,?_,h.len,h.nodup,h.apart,h.pbG⟩
 ·rcases List.mem_or_eq_of_mem_set hx with hx | hx
  ·exact h.ok.bl2 x hx
  ·rw [hx];exact hb
 ·obtain ⟨vs,hvo,hv⟩:=h.rows
  refine ⟨vs,OwnAt.upd hvo k (fun b hb=>by cases hb;exact hgl _ h.pbG),fun j hj=>?_⟩
  obtain ⟨l',cap',hl',hvj,hbj⟩:=hv j hj
  refine ⟨l',cap',hl',hvj,?_⟩
  by_cases hij:i=j
  ·subst hij
   rw [hl] at hl'
   cases hl'
   have hc:=OwnAt.cap_eq ho hbj
   subst hc
   have:(c.setBlk i b).blk i=b:=by simp [Chip.setBlk,Chip.blk,List.getD,hib]
   rw [this];exact hn
  ·have:(c.setBlk i b).blk j=c.blk j:=by simp [Chip.setBlk,Chip.blk,List.getD,hij]
   rw [this]
   refine OwnAt.upd hbj k (fun b hb=>by
    cases hb
    intro e
    subst e
    have hnd3:=(List.nodup_cons.1 hnd2).2
    have h1:=(List.getElem?_eq_some_iff.1 hl)
    have h2:=(List.getElem?_eq_some_iff.1 hl')
    obtain ⟨p1,e1⟩:=h1
    obtain ⟨p2,e2⟩:=h2
    rcases Nat.lt_or_gt_of_ne hij with hlt | hlt
    ·exact List.pairwise_iff_getElem.1 hnd3 i j p1 p2 hlt (e1.trans e2.symm)
    ·exact List.pairwise_iff_getElem.1 hnd3 j i p2 p1 hlt (e2.trans e1.symm))
 ·obtain ⟨vs,hr,hh,hc,ha⟩:=h.hits
  exact ⟨vs,RowAt.upd hr k (fun a e=>hgl _ (ha a e)),HitRow.upd k hgl hh,hc,ha⟩
theorem ChipRep.rebad {w w':World} {p:Nat} {c:Chip} {L:Loc} {G:Nat→Prop} (h:ChipRep w p c L G) (k:Upd (·=L.bb) w w') {b:List Bool} (hb:b.length=c.nb)
  (hn:OwnAt w' (some ⟨L.bb,0,none⟩) c.nb L.cbad T.bool 1 (b.map Value.bool)):ChipRep w' p { c with bad:=b } L G:=by
 have hnd:=h.nodup
 have hpl:p≠L.bb:=fun e=>(List.nodup_cons.1 hnd).1 (by simp [e])
 have hnd2:=(List.nodup_cons.1 hnd).2
 have hgl:∀ x,G x→x≠L.bb:=fun x hx e=>by subst e;exact h.apart _ (by simp) hx
 refine ⟨⟨h.ok.nb1,h.ok.nb2,h.ok.np1,h.ok.np2,h.ok.sz1,h.ok.sz2,h.ok.bl,h.ok.bl2,hb⟩,k.get h.head hpl,hn,?_,?_,h.len,h.nodup,h.apart,h.pbG⟩
 ·obtain ⟨vs,hvo,hv⟩:=h.rows
  refine ⟨vs,OwnAt.upd hvo k (fun b hb=>by cases hb;exact hgl _ h.pbG),fun j hj=>?_⟩
  obtain ⟨l',cap',hl',hvj,hbj⟩:=hv j hj
  refine ⟨l',cap',hl',hvj,OwnAt.upd hbj k (fun b hb=>by
   cases hb
   intro e
   rw [← e] at hnd2
   exact (List.nodup_cons.1 hnd2).1 (List.mem_of_getElem? hl'))⟩
 ·obtain ⟨vs,hr,hh,hc,ha⟩:=h.hits
  exact ⟨vs,RowAt.upd hr k (fun a e=>hgl _ (ha a e)),HitRow.upd k hgl hh,hc,ha⟩
theorem nand_strike_spec {w:World} {p:Nat} {c:Chip} {L:Loc} {G:Nat→Prop} (h:ChipRep w p c L G) :
  CallsR prog K.nand_Chip_strike #[.pointer (some ⟨p,0,none⟩)] w fun v w'=>Upd (·=p) w w'∧∃ L',SameLoc L L'∧ChipRep w' p c.strike.1 L' G∧
   match c.strike.2 with
   | none=>v= .pointer none
   | some t=>∃ B m cp,w.heap.size≤B∧v= .pointer (some ⟨B,0,none⟩)∧w'.heap[B]?=some (.cells #[.int .i64 t.after,.bool t.fails,.slice m t.mask.length cp] T.api_Hit (0,0))∧BytesAt w' m t.mask∧(t.mask≠[]→∀ q,m=some q→G q.block):=by
 apply nand_Chip_strike.sh
 simp only [nand_Chip_strike.body,nilC_some',add_lit]
 refine ⟨_,cell_of h.head rfl,store_of h.head (by simp [chipCells]) fun w₁ hput=>?_⟩
 have h1:=h.reh (Put.upd1 hput) c.hits c.since c.dead (IntKind.i64.wrap (c.deeds+1)) L.ha L.ch hput.get h.hits
 refine ⟨_,_,_,cell_of h1.head rfl,br_eq (fun h0=>?_) fun h0=>?_⟩
 ·have hn:c.hits=[]:=List.eq_nil_of_length_eq_zero (by simpa using h0)
  have e:c.strike=({ c with deeds:=IntKind.i64.wrap (c.deeds+1) },none):=by unfold Chip.strike;rw [hn]
  rw [e]
  exact ⟨Put.upd1 hput,_,SameLoc.refl _,h1,trivial⟩
 ·obtain ⟨t,r,hr⟩: ∃ t r,c.hits=t :: r:=by
   cases hc:c.hits with
   | nil=>rw [hc] at h0;simp at h0
   | cons t r=>exact ⟨t,r,rfl⟩
  intro w₂ hdrew
  have h2:=h1.ext hdrew.upd
  obtain ⟨vs,hrow,hhit,hch,hag⟩:=h2.hits
  simp only [hr] at hhit
  obtain ⟨m,cp,rr,hvs,hmb,hmg,hrr⟩:=hhit
  refine ⟨fun u=>u=w₂,rfl,_,fun u hu=>hu ▸ cell_of h2.head rfl,_,_,_,fun u hu=>hu ▸ cell_of h2.head rfl,?_⟩
  have hlen:c.hits.length=r.length+1:=by rw [hr];rfl
  refine ⟨Int.le_refl 0,by simp [hlen],?_⟩
  have hca:=RowAt.cell hrow (i:=0) (v:=.int .i64 t.after) (by rw [hvs];rfl)
  obtain ⟨hb,ho,hab,hc⟩:=hca
  simp only [] at hab
  simp only [hab,nilC_some',tn0,Nat.zero_mul,add_lit,Nat.add_zero]
  refine ⟨_,fun u hu=>hu ▸ hc,br_dec (fun hlt=>?_) fun hge=>?_⟩
  ·refine ⟨_,cell_of h2.head rfl,store_of h2.head (by simp [chipCells]) fun w₃ hput3=>?_⟩
   have h3:=h2.reh (Put.upd1 hput3) c.hits (IntKind.i64.wrap (c.since+1)) c.dead (IntKind.i64.wrap (c.deeds+1)) L.ha L.ch hput3.get h2.hits
   have e:c.strike=({ c with deeds:=IntKind.i64.wrap (c.deeds+1),since:=IntKind.i64.wrap (c.since+1) },none):=by
    unfold Chip.strike;rw [hr];simp only [];rw [if_pos (by simpa using hlt)]
   rw [e]
   exact ⟨Upd.trans (Put.upd1 hput) ((Upd.ext hdrew.upd).trans (Put.upd1 hput3)),_,SameLoc.refl _,h3,trivial⟩
  ·have e:c.strike=({ c with deeds:=IntKind.i64.wrap (c.deeds+1),since:=0,hits:=r },some t):=by
    unfold Chip.strike;rw [hr];simp only [];rw [if_neg (by simpa using hge)]
   refine ⟨L.ha,c.hits.length,L.ch,cell_of h2.head rfl,?_⟩
   refine ⟨Int.le_refl 0,by simp [hlen],?_⟩
   simp only [hab,nilC_some',tn0,Nat.zero_mul,add_lit,Nat.add_zero]
   have hrow0:RowAt w₂ (some ⟨hb,ho,none⟩) vs:=by have:=hrow;simp only [hab] at this;exact this
   have hcs:=RowAt.cells hrow0
   rw [hvs] at hcs
   refine ⟨t.after,t.fails,m,t.mask.length,cp,?_,?_⟩
   ·exact ⟨hcs.1,hcs.2.1,hcs.2.2.1,trivial⟩
   intro B w₄ hnew
   refine store_of hnew.get (by simp) fun w₅ hput5=>?_
   have hB:B=w₂.heap.size:=hnew.num
   have e5:Ext w₂ w₅:=Put.upd hnew.upd hput5 (.inl (by omega))
   have h5:=h2.ext e5
   refine ⟨L.ha,c.hits.length,L.ch,cell_of h5.head rfl,?_⟩
   have hr3:RowAt w₅ (if L.ch=(1:Int).toNat then L.ha else L.ha.map (·.add ((1:Int).toNat * 3))) rr:=by
    split
    ·rename_i hc1
     simp at hc1
     have:rr=[]:=by
      have hr0:r=[]:=List.eq_nil_of_length_eq_zero (by have:=hch;simp only [] at this;omega)
      subst hr0
      exact hrr
     rw [this];exact RowAt.nil _ _
    ·rw [hab]
     have:=RowAt.drop hrow0 3
     rw [hvs] at this
     simpa using RowAt.ext this e5
   refine slice_from (by omega) (by simp [hlen];omega) (by simpa using hch) ?_
   refine store_of h5.head (by simp [chipCells]) fun w₆ hput6=>?_
   generalize hna:(if L.ch=(1:Int).toNat then L.ha else L.ha.map (·.add ((1:Int).toNat * 3)))=na at hr3 hput6
   have hnag:∀ a,na=some a→G a.block:=by
    intro a ha
    rw [← hna] at ha
    split at ha
    ·exact hag a ha
    ·rw [hab] at ha
     simp at ha
     have:=hag ⟨hb,ho,none⟩ hab
     rw [← ha];exact this
   have h6:=h5.reh (Put.upd1 hput6) r c.since c.dead (IntKind.i64.wrap (c.deeds+1)) na (L.ch - 1) (by
    have:=hput6.get
    rw [this,hlen];rfl) ⟨rr,hr3,HitRow.upd e5 (fun _ _ hf=>hf) hrr,by simp only [] at hch;omega,hnag⟩
   refine store_of h6.head (by simp [chipCells]) fun w₇ hput7=>?_
   have h7:=h6.reh (Put.upd1 hput7) r 0 c.dead (IntKind.i64.wrap (c.deeds+1)) na (L.ch - 1) hput7.get h6.hits
   rw [e]
   have hpB:p≠B:=by
    have:=(Array.getElem?_eq_some_iff.1 h2.head).1
    omega
   have e67:Upd (·=p) w₅ w₇:=(Put.upd1 hput6).trans (Put.upd1 hput7)
   refine ⟨Upd.trans (Put.upd1 hput) ((Upd.ext hdrew.upd).trans ((Upd.ext e5).trans e67)),_,?_,h7,?_⟩
   ·exact ⟨rfl,rfl,rfl,rfl,rfl⟩
   ·have hgp:∀ x,G x→x≠p:=fun x hx e=>by subst e;exact h.apart _ (by simp) hx
    refine ⟨B,m,cp,?_,rfl,?_,?_,hmg⟩
    ·have a1:=hput.size
     have a2:=hdrew.heap
     rw [hB,a2,a1];omega
    ·refine e67.get ?_ (fun e=>hpB e.symm)
     have:=hput5.get
     rw [this]
     rfl
    ·exact BytesAt.updM (RowAt.ext hmb e5) e67 hmg hgp
theorem mix_int0 (old new:UInt8) :
  IntKind.u8.wrap (((BitVec.ofInt (IntKind.bits .u8) (IntKind.u8.wrap (((BitVec.ofInt (IntKind.bits .u8) (old.toNat:Int) &&& ~~~ (BitVec.ofInt (IntKind.bits .u8) (0:Int))).toNat:Nat):Int)) |||
   BitVec.ofInt (IntKind.bits .u8) (IntKind.u8.wrap (((BitVec.ofInt (IntKind.bits .u8) (new.toNat:Int) &&& BitVec.ofInt (IntKind.bits .u8) (0:Int)).toNat:Nat):Int))).toNat:Nat):Int)=((mix 0 old new).toNat:Int):=mix_int 0 old new
theorem mix_int255 (old new:UInt8) :
  IntKind.u8.wrap (((BitVec.ofInt (IntKind.bits .u8) (IntKind.u8.wrap (((BitVec.ofInt (IntKind.bits .u8) (old.toNat:Int) &&& ~~~ (BitVec.ofInt (IntKind.bits .u8) (255:Int))).toNat:Nat):Int)) |||
   BitVec.ofInt (IntKind.bits .u8) (IntKind.u8.wrap (((BitVec.ofInt (IntKind.bits .u8) (new.toNat:Int) &&& BitVec.ofInt (IntKind.bits .u8) (255:Int)).toNat:Nat):Int))).toNat:Nat):Int)=((mix 255 old new).toNat:Int):=mix_int 255 old new
def partBlk (c:Chip) (block off n:Nat) (h:Option Hit) (new:List UInt8) (i:Nat):List UInt8 :=
 (c.blk block).take off ++ ((mixL h (((c.blk block).drop off).take n) new).take i ++ (((c.blk block).drop off).take n).drop i) ++ (c.blk block).drop (off+n)
theorem partBlk_length {c:Chip} {block off n:Nat} {h:Option Hit} {new:List UInt8} {i:Nat} (hl:off+n≤(c.blk block).length):(partBlk c block off n h new i).length=(c.blk block).length:=by
 simp [partBlk,mixL_length];omega
theorem partBlk_zero {c:Chip} {block off n:Nat} {h:Option Hit} {new:List UInt8}:partBlk c block off n h new 0=c.blk block:=by
 simp [partBlk,List.drop_drop]
 rw [← List.drop_drop]
 rw [List.take_append_drop,List.take_append_drop]
theorem partBlk_all {c:Chip} {block off n:Nat} {h:Option Hit} {new:List UInt8} (hl:off+n≤(c.blk block).length):partBlk c block off n h new n=(c.blk block).take off ++ mixL h (((c.blk block).drop off).take n) new ++ (c.blk block).drop (off+n):=by
 unfold partBlk
 rw [List.take_of_length_le (l:=mixL h _ new) (by simp [mixL_length];omega),List.drop_of_length_le (l:=((c.blk block).drop off).take n) (by simp;omega),List.append_nil]
theorem partBlk_step {c:Chip} {block off n:Nat} {h:Option Hit} {new:List UInt8} {i:Nat} (hi:i<n) (hl:off+n≤(c.blk block).length) :
  (partBlk c block off n h new i).take (off+i) ++ [mix (maskAt h i) ((((c.blk block).drop off).take n).getD i 0) (new.getD i 0)] ++ (partBlk c block off n h new i).drop (off+i+1)=partBlk c block off n h new (i+1):=by
 have hol:(((c.blk block).drop off).take n).length=n:=by simp;omega
 have hm:(mixL h (((c.blk block).drop off).take n) new).length=n:=by rw [mixL_length];exact hol
 have hpl:((c.blk block).take off).length=off:=by simp;omega
 generalize hO:((c.blk block).drop off).take n=O at *
 generalize hM:mixL h O new=M at *
 generalize hP:(c.blk block).take off=P at *
 have hg:M[i]'(by omega)=mix (maskAt h i) (O.getD i 0) (new.getD i 0):=by
  have:=mixL_get h O new i (by omega)
  rw [hM,List.getElem?_eq_getElem (by omega)] at this
  simpa using this
 unfold partBlk
 rw [hO,hM,hP]
 rw [List.append_assoc P,List.take_append,List.drop_append,hpl]
 rw [List.take_of_length_le (by omega),List.drop_of_length_le (l:=P) (by omega),List.nil_append]
 rw [show off+i - off=i by omega,show off+i+1 - off=i+1 by omega]
 have hMi:(M.take i).length=i:=by simp;omega
 rw [List.append_assoc (M.take i)]
 rw [List.take_append_of_le_length (by omega),List.take_take,Nat.min_self]
 rw [List.drop_append,hMi,List.drop_of_length_le (l:=M.take i) (by omega),List.nil_append]
 rw [List.take_succ_eq_append_getElem (by omega:i<M.length),hg]
 rw [show i+1 - i=1 by omega]
 rw [List.drop_append_of_le_length (by simp;omega),List.drop_drop]
 simp [List.append_assoc]
theorem wantsB {f:Value} {i:Nat} {u:World} {x:UInt8} {R:Value→World→Prop} (h:callT f [.int .i64 i] u fun v u'=>v=bv x∧u'=u) (hr:R (bv x) u):callT f [.int .i64 i] u R:=by
 refine callT.mono h ?_
 rintro _ _ ⟨rfl,rfl⟩
 exact hr
theorem tmod_nat (i n:Nat):Int.tmod (i:Int) (n:Int)=((i % n:Nat):Int):=by
 rw [Int.tmod_eq_emod_of_nonneg (by omega)];rfl
def endAt (w:World) (p1:Option Addr) (h:Option Hit) (G:Nat→Prop) (A:Nat):Prop :=
 match h with
 | none=>p1=none
 | some t=>∃ B m cp,A≤B∧p1=some ⟨B,0,none⟩∧w.heap[B]?=some (.cells #[.int .i64 t.after,.bool t.fails,.slice m t.mask.length cp] T.api_Hit (0,0))∧BytesAt w m t.mask∧(t.mask≠[]→∀ q,m=some q→G q.block)
theorem endAt.upd {F:Nat→Prop} {w w':World} {p1:Option Addr} {h:Option Hit} {G:Nat→Prop} {A:Nat} (k:endAt w p1 h G A) (u:Upd F w w') (hg:∀ x,G x→¬ F x) (ha:∀ x,A≤x→¬ F x):endAt w' p1 h G A:=by
 cases h with
 | none=>exact k
 | some t =>
  obtain ⟨B,m,cp,hB,rfl,hc,hb,hm⟩:=k
  exact ⟨B,m,cp,hB,rfl,u.get hc (ha _ hB),hb.updM u hm hg,hm⟩
theorem nand_done_spec {w:World} {p:Nat} {c:Chip} {L:Loc} {G:Nat→Prop} (h:ChipRep w p c L G) {block off n l cp:Nat} (hb:block<c.nb) (hoff:off+n≤c.np * c.sz) (hl:L.locs[block]?=some l) (want:List UInt8) {f:Value}
  (hf:∀ i,i<n→∀ u,Upd (fun x=>x=p∨x=l) w u→callT f [.int .i64 i] u fun v u'=>v=bv (want.getD i 0)∧u'=u) :
  CallsR prog K.nand_Chip_done #[.pointer (some ⟨p,0,none⟩),.int .i64 block,.slice (some ⟨l,off,none⟩) n cp,f] w fun v w' =>
   Upd (fun x=>x=p∨x=L.bb∨x=l) w w'∧∃ L',SameLoc L L'∧ChipRep w' p (c.done block off n want).1 L' G∧v= .int .i64 ((c.done block off n want).2:Nat):=by
 apply nand_Chip_done.sh
 unfold nand_Chip_done.body
 refine (nand_strike_spec h).mono ?_
 rintro v w₁ ⟨hu1,L',hsl,h1,hp1⟩
 have hlocs:L'.locs=L.locs:=hsl.2.2.2.2
 have hbb:L'.bb=L.bb:=hsl.1
 have hst:c.strike.1.nb=c.nb∧c.strike.1.np=c.np∧c.strike.1.sz=c.sz∧c.strike.1.blocks=c.blocks∧c.strike.1.bad=c.bad:=by
  unfold Chip.strike
  split
  ·exact ⟨rfl,rfl,rfl,rfl,rfl⟩
  ·split<;>exact ⟨rfl,rfl,rfl,rfl,rfl⟩
 obtain ⟨hnb,hnp,hsz,hblk,hbad⟩:=hst
 have hbk:∀ i,c.strike.1.blk i=c.blk i:=fun i=>by simp [Chip.blk,hblk]
 obtain ⟨p1,rfl,hend⟩: ∃ p1,v= .pointer p1∧endAt w₁ p1 c.strike.2 G w.heap.size:=by
  cases hh:c.strike.2 with
  | none=>rw [hh] at hp1;exact ⟨none,hp1,rfl⟩
  | some t =>
   rw [hh] at hp1
   obtain ⟨B,m,cp,hB,rfl,hc,hbm,hm⟩:=hp1
   exact ⟨_,rfl,B,m,cp,hB,rfl,hc,hbm,hm⟩
 clear hp1
 have hblen:=h.ok.blk_len hb
 have hsz8:=h.ok.size_le
 have hl':L'.locs[block]?=some l:=by rw [hlocs];exact hl
 have hlm:=List.mem_of_getElem? hl
 obtain ⟨vs,hvo,hv⟩:=h1.rows
 obtain ⟨l2,cap,hl2,hvi,hbi⟩:=hv block (by rw [hnb];exact hb)
 rw [hl'] at hl2
 cases hl2
 rw [hnp,hsz,hbk] at hbi
 have hgl:∀ x,G x→x≠l:=fun x hx e=>by subst e;exact h.apart _ (by simp [hlm]) hx
 have hlw:l<w.heap.size:=by
  obtain ⟨vs0,_,hv0⟩:=h.rows
  obtain ⟨l3,cap3,hl3,_,hbi3⟩:=hv0 block hb
  rw [hl] at hl3
  cases hl3
  exact OwnAt.blk hbi3 rfl
 have hpw:p<w.heap.size:=(Array.getElem?_eq_some_iff.1 h.head).1
 have hal:∀ x,w.heap.size≤x→x≠l:=fun x hx e=>by omega
 generalize hH:c.strike.2=H at *
 refine ⟨p1,rfl,fun x u=>∃ i:Nat,x=i∧i≤n∧Upd (·=l) w₁ u∧OwnAt u (some ⟨l,0,none⟩) (c.np * c.sz) cap T.uint8 1 ((partBlk c block off n H want i).map bv),fun x _=>(n - x).toNat,?_,?_⟩
 ·exact ⟨0,rfl,Nat.zero_le _,Upd.refl _ _,by rw [partBlk_zero];exact hbi⟩
 rintro x₁ w₂ ⟨i,rfl,hin,hu2,ho⟩
 refine br_dec (fun hlt=>?_) fun hge=>?_
 ·have hi:i<n:=by omega
  refine ⟨fun u=>Upd (·=l) w₁ u∧OwnAt u (some ⟨l,0,none⟩) (c.np * c.sz) cap T.uint8 1 ((partBlk c block off n H want (i+1)).map bv),?_,?_⟩
  ·have hpbl:(partBlk c block off n H want i).length=c.np * c.sz:=by rw [partBlk_length (by omega),hblen]
   have hold:(partBlk c block off n H want i).getD (off+i) 0=(((c.blk block).drop off).take n).getD i 0:=by
    unfold partBlk
    have hpl:((c.blk block).take off).length=off:=by simp;omega
    have hM:(mixL H (((c.blk block).drop off).take n) want).length=n:=by rw [mixL_length];simp;omega
    have hMi:((mixL H (((c.blk block).drop off).take n) want).take i).length=i:=by simp;omega
    simp only [List.getD]
    rw [List.append_assoc,List.getElem?_append_right (by omega),hpl,show off+i - off=i by omega,List.append_assoc,List.getElem?_append_right (by omega),hMi,Nat.sub_self]
    rw [List.getElem?_append_left (by simp;omega)]
    simp
   have hread:∀ u,OwnAt u (some ⟨l,0,none⟩) (c.np * c.sz) cap T.uint8 1 ((partBlk c block off n H want i).map bv)→∃ S:List UInt8,BytesAt u (some ⟨l,off,none⟩) S∧S.length=n∧S.getD i 0=(((c.blk block).drop off).take n).getD i 0:=by
    intro u hou
    refine ⟨((partBlk c block off n H want i).drop off).take n,?_,by simp;omega,?_⟩
    ·have:=BytesAt.take (BytesAt.drop (o:=0) hou.row off) n
     simpa using this
    ·rw [← hold];simp [List.getD,hi]
   have hwrite:∀ (u:World),Upd (·=l) w₁ u→OwnAt u (some ⟨l,0,none⟩) (c.np * c.sz) cap T.uint8 1 ((partBlk c block off n H want i).map bv)→∀ x:UInt8,x=mix (maskAt H i) ((((c.blk block).drop off).take n).getD i 0) (want.getD i 0)→
     idxP (some ⟨l,off,none⟩) n (i:Int) 1 fun q=>storeP u q [bv x] fun u'=>Upd (·=l) w₁ u'∧OwnAt u' (some ⟨l,0,none⟩) (c.np * c.sz) cap T.uint8 1 ((partBlk c block off n H want (i+1)).map bv):=by
    intro u huu hou x hx
    refine ⟨by omega,by omega,?_⟩
    simp only [nilC_some',add_lit,Int.toNat_natCast,Nat.mul_one]
    refine own_store hou (by simp [hpbl];omega) fun u' hu' ho'=>⟨huu.trans hu',?_⟩
    rw [← partBlk_step hi (by omega),← hx]
    simp only [List.map_append,List.map_take,List.map_drop,List.map_cons,List.map_nil]
    exact ho'
   have hclos:∀ u,Upd (·=l) w₁ u→callT f [.int .i64 i] u fun v u'=>v=bv (want.getD i 0)∧u'=u:=by
    intro u hu
    exact hf i hi u ((hu1.mono fun x _ hx=>.inl hx).trans (hu.mono fun x _ hx=>.inr hx))
   have hu2e:endAt w₂ p1 H G w.heap.size:=hend.upd hu2 hgl hal
   cases H with
   | none =>
    cases hu2e
    simp only [Option.isNone_none,Bool.not_true,br_false]
    intro w₁₀ hdrew
    have ho10:=OwnAt.ext ho hdrew.upd
    have hu10:Upd (·=l) w₁ w₁₀:=hu2.then hdrew.upd
    obtain ⟨S,hS,hSl,hSi⟩:=hread _ ho10
    refine ⟨fun u=>u=w₁₀,rfl,?_⟩
    subst hSl
    refine idx_byteS (l:=S) (fun u hu=>hu ▸ hS) ⟨_,rfl⟩ (by omega) (by omega) ?_
    refine wantsB (hclos w₁₀ hu10) ⟨_,rfl,rfl,?_⟩
    rw [mix_int255,Int.toNat_natCast,hSi]
    exact hwrite w₁₀ hu10 ho10 _ rfl
   | some t =>
    obtain ⟨B,m,cpm,hB,rfl,hc,hbm,hm⟩:=hu2e
    simp only [Option.isNone_some,Bool.not_false,br_true,nilC_some',add_lit]
    refine ⟨_,_,_,cell_of hc rfl,br_dec (fun hpos=>?_) fun hzero=>?_⟩
    ·intro w₃ hd3
     refine ⟨fun u=>u=w₃,rfl,_,_,_,fun u hu=>hu ▸ cell_of (Ext.get hd3.upd hc) rfl,by omega,?_⟩
     have hbm3:=RowAt.ext hbm hd3.upd
     rw [tmod_nat]
     have hmod:i % t.mask.length<t.mask.length:=Nat.mod_lt _ (by omega)
     refine idx_byteS (l:=t.mask) (fun u hu=>hu ▸ hbm3) ⟨_,rfl⟩ (by omega) (by omega) ?_
     intro w₄ hd4
     have ho4:=OwnAt.ext (OwnAt.ext ho hd3.upd) hd4.upd
     have hu4:Upd (·=l) w₁ w₄:=(hu2.then hd3.upd).then hd4.upd
     obtain ⟨S,hS,hSl,hSi⟩:=hread _ ho4
     refine ⟨fun u=>u=w₄,rfl,?_⟩
     subst hSl
     refine idx_byteS (l:=S) (fun u hu=>hu ▸ hS) ⟨_,rfl⟩ (by omega) (by omega) ?_
     refine wantsB (hclos w₄ hu4) ⟨_,rfl,rfl,?_⟩
     rw [mix_int]
     simp only [Int.toNat_natCast]
     rw [hSi]
     refine hwrite w₄ hu4 ho4 _ ?_
     unfold maskAt
     simp only []
     rw [if_neg (by omega)]
    ·intro w₇ hd7
     have ho7:=OwnAt.ext ho hd7.upd
     have hu7:Upd (·=l) w₁ w₇:=hu2.then hd7.upd
     obtain ⟨S,hS,hSl,hSi⟩:=hread _ ho7
     refine ⟨fun u=>u=w₇,rfl,?_⟩
     subst hSl
     refine idx_byteS (l:=S) (fun u hu=>hu ▸ hS) ⟨_,rfl⟩ (by omega) (by omega) ?_
     refine wantsB (hclos w₇ hu7) ⟨_,rfl,rfl,?_⟩
     rw [mix_int0,Int.toNat_natCast,hSi]
     refine hwrite w₇ hu7 ho7 _ ?_
     unfold maskAt
     simp only []
     rw [if_pos (by omega)]
  ·rintro w₁₃ ⟨hu13,ho13⟩
   have e:IntKind.i64.wrap ((i:Int)+1)=((i+1:Nat):Int):=w64 (by omega) (by omega)
   exact ⟨⟨i+1,e,hi,hu13,ho13⟩,by rw [e];show ((n:Int) - ((i+1:Nat):Int)).toNat<((n:Int) - (i:Int)).toNat;omega⟩
 ·have hin':i=n:=by omega
  subst hin'
  rw [partBlk_all (by omega)] at ho
  have h2:=h1.reblk hu2 (by rw [hnb];exact hb) hl' (b:=(c.blk block).take off ++ mixL H (((c.blk block).drop off).take i) want ++ (c.blk block).drop (off+i)) (by simp [mixL_length,hnp,hsz];omega)
   (by rw [hnp,hsz,hbk];exact hbi) (by rw [hnp,hsz];exact ho)
  have hu12:Upd (fun x=>x=p∨x=L.bb∨x=l) w w₂:=(hu1.mono fun x _ hx=>.inl hx).trans (hu2.mono fun x _ hx=>.inr (.inr hx))
  have hdone:c.done block off i want=(c.strike.1.setBlk block ((c.blk block).take off ++ mixL H (((c.blk block).drop off).take i) want ++ (c.blk block).drop (off+i))).finish block H:=by
   unfold Chip.done;rw [hH]
  rw [hdone]
  have hu2e:endAt w₂ p1 H G w.heap.size:=hend.upd hu2 hgl hal
  cases H with
  | none =>
   cases hu2e
   simp only [Option.isNone_none,br_true,Chip.finish]
   exact ⟨hu12,L',hsl,h2,rfl⟩
  | some t =>
   obtain ⟨B,m,cpm,hB,rfl,hc,hbm,hm⟩:=hu2e
   simp only [Option.isNone_some,br_false,nilC_some',add_lit]
   refine ⟨_,cell_of hc rfl,br_intro (fun hfl=>?_) fun hfl=>?_⟩
   ·refine ⟨_,_,_,cell_of h2.head rfl,?_⟩
    have hbl:c.strike.1.bad.length=c.nb:=by rw [hbad];exact h.ok.bad
    refine ⟨by omega,by show (block:Int)<((c.strike.1.nb:Nat):Int);rw [hnb];omega,?_⟩
    simp only [nilC_some',add_lit,Int.toNat_natCast,Nat.mul_one,Nat.zero_add]
    have hob:=h2.bad
    refine own_store hob (by simp [Chip.setBlk,hbl];omega) fun w₃ hu3 ho3=>?_
    have h3:=h2.rebad (b:=c.strike.1.bad.set block true) hu3 (by simp [Chip.setBlk,hbl,hnb]) (by
     have:(List.map Value.bool (c.strike.1.setBlk block ((c.blk block).take off ++ mixL (some t) (((c.blk block).drop off).take i) want ++ (c.blk block).drop (off+i))).bad).take block ++ [Value.bool true] ++ (List.map Value.bool (c.strike.1.setBlk block ((c.blk block).take off ++ mixL (some t) (((c.blk block).drop off).take i) want ++ (c.blk block).drop (off+i))).bad).drop (block+1)=(c.strike.1.bad.set block true).map Value.bool:=by
      show (List.map Value.bool c.strike.1.bad).take block ++ [Value.bool true] ++ (List.map Value.bool c.strike.1.bad).drop (block+1)=_
      rw [List.map_set,List.set_eq_take_append_cons_drop,if_pos (by simp [hbl];omega)]
      simp
     rw [← this]
     exact ho3)
    simp only [Chip.finish,hfl,if_true]
    exact ⟨hu12.trans (hu3.mono fun x _ hx=>.inr (.inl (by rw [hx,hbb]))),L',hsl,h3,rfl⟩
   ·refine store_of h2.head (by simp [chipCells]) fun w₃ hput=>?_
    have h3:=h2.reh (Put.upd1 hput) c.strike.1.hits c.strike.1.since true c.strike.1.deeds L'.ha L'.ch hput.get h2.hits
    simp only [Chip.finish,hfl]
    exact ⟨hu12.trans ((Put.upd1 hput).mono fun x _ hx=>.inl hx),L',hsl,h3,rfl⟩
theorem nand_Program_1_spec {w:World} {B:Nat} {a:Option Addr} {b:List UInt8} {cp i:Nat} (hc:w.cell? ⟨B,0,none⟩= some (.slice a b.length cp)) (hb:BytesAt w a b) (hi:i<b.length) :
  CallsR prog K.nand_Chip_Program_1 #[.int .i64 i,.pointer (some ⟨B,0,none⟩)] w fun v w'=>v=bv (b.getD i 0)∧w'=w:=by
 apply nand_Chip_Program_1.sh
 refine ⟨a,b.length,cp,hc,idx_byte hb (by omega) (by omega) ?_⟩
 simp only [Int.toNat_natCast]
 exact ⟨by trivial,by trivial⟩
theorem nand_Program_spec {w:World} {p:Nat} {c:Chip} {L:Loc} {G:Nat→Prop} (h:ChipRep w p c L G) (block page:Int) {a:Option Addr} {b:List UInt8} {cp:Nat} (hb:BytesAt w a b) (hap:∀ q,a=some q→q.block ∉ p :: L.locs) :
  CallsR prog K.nand_Chip_Program #[.pointer (some ⟨p,0,none⟩),.int .i64 block,.int .i64 page,.slice a b.length cp] w fun v w' =>
   Upd (fun x=>x∈p :: L.bb :: L.locs) w w'∧∃ L',SameLoc L L'∧ChipRep w' p (c.program block page b).1 L' G∧v= .int .i64 ((c.program block page b).2:Nat):=by
 apply nand_Chip_Program.sh
 intro B w₁ hnew
 have hBs:B=w.heap.size:=hnew.num
 have h1:=h.ext hnew.upd
 refine (nand_ask_spec h1 block page).mono ?_
 rintro _ _ ⟨rfl,rfl⟩
 rename_i w₁
 refine ⟨_,rfl,br_ne (fun hne=>?_) fun heq=>?_⟩
 ·have e:c.program block page b=(c,c.ask block page):=by unfold Chip.program;rw [if_pos (by omega)]
  rw [e]
  exact ⟨Upd.ext hnew.upd,L,SameLoc.refl _,h1,rfl⟩
 have h0:c.ask block page=0:=by omega
 obtain ⟨hd,hb0,hb1,hp0,hp1⟩:=ask_zero h0
 intro w₃ hd3
 have e3:Ext w w₃:=hnew.upd.trans hd3.upd
 have h3:=h.ext e3
 have hcell3:w₃.heap[B]?=some (.cells #[.slice a b.length cp] T.L_uint8 (0,0)):=Ext.get hd3.upd hnew.get
 refine ⟨fun u=>u=w₃,rfl,_,_,_,fun u hu=>hu ▸ cell_of hcell3 rfl,?_⟩
 simp only [nilC_some',add_lit]
 refine ⟨_,fun u hu=>hu ▸ cell_of h3.head rfl,br_ne (fun hne=>?_) fun hbl=>?_⟩
 ·have e:c.program block page b=(c,2):=by unfold Chip.program;rw [if_neg (by omega),if_pos (by omega)]
  rw [e]
  exact ⟨Upd.ext e3,L,SameLoc.refl _,h3,rfl⟩
 have hbl:b.length=c.sz:=by omega
 refine ⟨_,_,_,cell_of h3.head rfl,hb0,by omega,?_⟩
 simp only [nilC_some',add_lit,Nat.mul_one,Nat.zero_add]
 have hlt:block.toNat<c.bad.length:=by rw [h.ok.bad];omega
 obtain ⟨b',o',hab,hc⟩:=RowAt.cell h3.bad.row (i:=block.toNat) (v:=.bool c.bad[block.toNat]) (by simp [hlt])
 cases hab
 simp only [Nat.zero_add] at hc
 have hbad:c.isBad block.toNat=c.bad[block.toNat]:=by simp [Chip.isBad,List.getD,hlt]
 refine ⟨_,hc,br_intro (fun ht=>?_) fun hf=>?_⟩
 ·have e:c.program block page b=(c,9):=by unfold Chip.program;rw [if_neg (by omega),if_neg (by omega),if_pos (by rw [hbad];exact ht)]
  rw [e]
  exact ⟨Upd.ext e3,L,SameLoc.refl _,h3,rfl⟩
 intro w₄ hd4
 have e4:Ext w w₄:=e3.trans hd4.upd
 have h4:=h.ext e4
 have hcell4:=Ext.get hd4.upd hcell3
 obtain ⟨vs,ho,hv⟩:=h4.rows
 obtain ⟨l,cap,hl,hvi,hbi⟩:=hv block.toNat hb1
 refine ⟨fun u=>u=w₄,rfl,_,_,_,fun u hu=>hu ▸ cell_of h4.head rfl,hb0,by omega,?_⟩
 obtain ⟨b',o',hab,hc'⟩:=RowAt.cell ho.row hvi
 cases hab
 simp only [Nat.zero_add] at hc'
 simp only [nilC_some',add_lit,Nat.mul_one,Nat.zero_add]
 refine ⟨_,_,_,fun u hu=>hu ▸ hc',_,fun u hu=>hu ▸ cell_of h4.head rfl,?_⟩
 have hps:=page_in hp1
 have hsz8:=h.ok.size_le
 have hblen:=h.ok.blk_len hb1
 have e1:IntKind.i64.wrap (page * (c.sz:Int))=((page.toNat * c.sz:Nat):Int):=by
  have:page * (c.sz:Int)=((page.toNat * c.sz:Nat):Int):=by rw [Int.natCast_mul];congr 1;omega
  rw [this];exact w64 (by omega) (by omega)
 rw [e1]
 have hbb:BytesAt w₄ (some ⟨l,0,none⟩) (c.blk block.toNat):=hbi.row
 have hcap:=hbi.2.1
 rw [← hblen]
 refine slice_bytes_from hbb (by omega) (by omega) (by omega) fun a' c' ha' _ _ _ _=>?_
 simp only [Int.toNat_natCast] at ha' ⊢
 refine (seal_Blank_spec ha' (by simp;omega)).mono ?_
 rintro _ _ ⟨rfl,rfl⟩
 rename_i w₄
 refine ⟨_,rfl,rfl,?_⟩
 cases hbk:isBlank ((c.blk block.toNat).drop (page.toNat * c.sz)) with
 | false =>
  have e:c.program block page b=(c,8):=by unfold Chip.program;rw [if_neg (by omega),if_neg (by omega),if_neg (by rw [hbad];simp [hf]),if_pos hbk]
  rw [e]
  simp only [Bool.not_false,br_true]
  exact ⟨Upd.ext e4,L,SameLoc.refl _,h4,rfl⟩
 | true =>
  have e:c.program block page b=c.done block.toNat (page.toNat * c.sz) c.sz b:=by unfold Chip.program;rw [if_neg (by omega),if_neg (by omega),if_neg (by rw [hbad];simp [hf]),if_neg (by rw [hbk];simp)]
  rw [e]
  simp only [Bool.not_true,br_false]
  have eb:block=(block.toNat:Int):=by omega
  have ep:page=(page.toNat:Int):=by omega
  rw [eb,ep]
  refine (nand_page_spec h4 block.toNat page.toNat hb1 hp1).mono ?_
  rintro _ w₆ ⟨he6,l',hl',rfl⟩
  rw [hl] at hl'
  cases hl'
  refine ⟨_,_,_,rfl,?_⟩
  have h6:=h4.ext he6
  have hcell6:=Ext.get he6 hcell4
  have hb6:BytesAt w₆ a b:=RowAt.ext (RowAt.ext hb e4) he6
  have hlm:=List.mem_of_getElem? hl
  have hpw:p<w.heap.size:=(Array.getElem?_eq_some_iff.1 h.head).1
  have hlw:l<w.heap.size:=by
   obtain ⟨vs0,_,hv0⟩:=h.rows
   obtain ⟨l3,cap3,hl3,_,hbi3⟩:=hv0 block.toNat hb1
   rw [hl] at hl3
   cases hl3
   exact OwnAt.blk hbi3 rfl
  refine (nand_done_spec h6 hb1 hps hl b fun i hi u hu=>?_).mono ?_
  ·refine ⟨rfl,?_⟩
   refine nand_Program_1_spec (cell_of (hu.get hcell6 (by omega)) rfl) (RowAt.upd hb6 hu fun q hq hq'=>?_) (by omega)
   have:=hap q hq
   rcases hq' with hq' | hq'
   ·exact this (by simp [hq'])
   ·exact this (by rw [hq'];simp [hlm])
  ·rintro _ w₇ ⟨hu7,L',hs7,h7,rfl⟩
   refine ⟨_,rfl,(Upd.ext (e4.trans he6)).trans (hu7.mono fun x _ hx=>?_),L',hs7,h7,?_⟩
   ·rcases hx with rfl | rfl | rfl
    ·simp
    ·simp
    ·simp [hlm]
   ·rfl
theorem nand_Erase_spec {w:World} {p:Nat} {c:Chip} {L:Loc} {G:Nat→Prop} (h:ChipRep w p c L G) (block:Int) :
  CallsR prog K.nand_Chip_Erase #[.pointer (some ⟨p,0,none⟩),.int .i64 block] w fun v w' =>
   Upd (fun x=>x∈p :: L.bb :: L.locs) w w'∧∃ L',SameLoc L L'∧ChipRep w' p (c.erase block).1 L' G∧v= .int .i64 ((c.erase block).2:Nat):=by
 apply nand_Chip_Erase.sh
 unfold nand_Chip_Erase.body
 refine (nand_ask_spec h block 0).mono ?_
 rintro _ _ ⟨rfl,rfl⟩
 rename_i w
 refine ⟨_,rfl,br_ne (fun hne=>?_) fun heq=>?_⟩
 ·have e:c.erase block=(c,c.ask block 0):=by unfold Chip.erase;rw [if_pos (by omega)]
  rw [e]
  exact ⟨Upd.refl _ _,L,SameLoc.refl _,h,rfl⟩
 have h0:c.ask block 0=0:=by omega
 obtain ⟨hd,hb0,hb1,hp0,hp1⟩:=ask_zero h0
 simp only [nilC_some',add_lit]
 refine ⟨_,_,_,cell_of h.head rfl,hb0,by omega,?_⟩
 simp only [nilC_some',add_lit,Nat.mul_one,Nat.zero_add]
 have hlt:block.toNat<c.bad.length:=by rw [h.ok.bad];omega
 obtain ⟨b',o',hab,hc⟩:=RowAt.cell h.bad.row (i:=block.toNat) (v:=.bool c.bad[block.toNat]) (by simp [hlt])
 cases hab
 simp only [Nat.zero_add] at hc
 have hbad:c.isBad block.toNat=c.bad[block.toNat]:=by simp [Chip.isBad,List.getD,hlt]
 refine ⟨_,hc,br_intro (fun ht=>?_) fun hf=>?_⟩
 ·have e:c.erase block=(c,9):=by unfold Chip.erase;rw [if_neg (by omega),if_pos (by rw [hbad];exact ht)]
  rw [e]
  exact ⟨Upd.refl _ _,L,SameLoc.refl _,h,rfl⟩
 obtain ⟨vs,ho,hv⟩:=h.rows
 obtain ⟨l,cap,hl,hvi,hbi⟩:=hv block.toNat hb1
 refine ⟨_,_,_,cell_of h.head rfl,hb0,by omega,?_⟩
 obtain ⟨b',o',hab,hc'⟩:=RowAt.cell ho.row hvi
 cases hab
 simp only [Nat.zero_add] at hc'
 simp only [nilC_some',add_lit,Nat.mul_one,Nat.zero_add]
 refine ⟨_,_,_,hc',?_⟩
 have e:c.erase block=c.done block.toNat 0 (c.np * c.sz) (List.replicate (c.np * c.sz) 255):=by unfold Chip.erase;rw [if_neg (by omega),if_neg (by rw [hbad];simp [hf])]
 rw [e]
 have eb:block=(block.toNat:Int):=by omega
 have hlm:=List.mem_of_getElem? hl
 rw [eb]
 refine (nand_done_spec h hb1 (off:=0) (by omega) hl (List.replicate (c.np * c.sz) 255) fun i hi u hu=>?_).mono ?_
 ·refine ⟨rfl,?_⟩
  apply nand_Chip_Erase_1.sh
  refine ⟨?_,by trivial⟩
  simp [List.getD,hi]
 ·rintro _ w₇ ⟨hu7,L',hs7,h7,rfl⟩
  refine ⟨_,rfl,hu7.mono fun x _ hx=>?_,L',hs7,h7,rfl⟩
  rcases hx with rfl | rfl | rfl
  ·simp
  ·simp
  ·simp [hlm]
theorem mask32 {y:Int} (h0:0≤y) (h1:y<4294967296):IntKind.u64.wrap (((BitVec.ofInt (IntKind.bits .u64) y &&& BitVec.ofInt (IntKind.bits .u64) 4294967295).toNat:Nat):Int)=y:=by
 show IntKind.u64.wrap (((BitVec.ofInt 64 y &&& BitVec.ofInt 64 4294967295).toNat:Nat):Int)=y
 rw [BitVec.toNat_and]
 have e1:(BitVec.ofInt 64 y).toNat=y.toNat:=by rw [BitVec.toNat_ofInt];omega
 have e2:(BitVec.ofInt 64 4294967295).toNat=2 ^ 32 - 1:=by decide
 rw [e1,e2,Nat.and_two_pow_sub_one_eq_mod]
 rw [Nat.mod_eq_of_lt (by omega)]
 rw [wu64 (by omega) (by omega)]
 omega
theorem shr32 {y:Int} (h0:0≤y) (h1:y<4294967296):Int.fdiv y (2 ^ (min (Int.toNat (32:Int)) (IntKind.bits .u64)))=0:=by
 have e:((2:Int) ^ (min (Int.toNat (32:Int)) (IntKind.bits .u64)))=4294967296:=by decide
 rw [e,Int.fdiv_eq_ediv_of_nonneg _ (by omega)]
 omega
theorem bits_Mul64_spec (n:Nat) (hn:n<1000000) (w:World):CallsR prog K.bits_Mul64 #[.int .u64 1,.int .u64 n] w fun v w'=>v= .tuple #[.int .u64 0,.int .u64 n]∧w'=w:=by
 apply bits_Mul64.sh
 unfold bits_Mul64.body
 rw [mask32 (y:=1) (by omega) (by omega),mask32 (y:=(n:Int)) (by omega) (by omega),shr32 (y:=1) (by omega) (by omega),shr32 (y:=(n:Int)) (by omega) (by omega)]
 simp only [Int.zero_mul,Int.one_mul,Int.mul_zero,Int.zero_add]
 have ew:IntKind.u64.wrap (n:Int)=n:=wu64 (by omega) (by omega)
 have e0:IntKind.u64.wrap 0=0:=by decide
 rw [ew,shr32 (y:=(n:Int)) (by omega) (by omega),e0]
 have e1:=mask32 (y:=0) (by omega) (by omega)
 have e3:=shr32 (y:=0) (by omega) (by omega)
 simp only [Int.add_zero,Int.zero_add,e0,e1,e3]
 exact ⟨by omega,by omega,by omega,by omega,by omega,by trivial,by trivial⟩
theorem bits_Mul_spec (n:Nat) (hn:n<1000000) (w:World):CallsR prog K.bits_Mul #[.int .u64 1,.int .u64 n] w fun v w'=>v= .tuple #[.int .u64 0,.int .u64 n]∧w'=w:=by
 apply bits_Mul.sh
 refine (bits_Mul64_spec n hn w).mono ?_
 rintro _ _ ⟨rfl,rfl⟩
 exact ⟨_,_,rfl,rfl,by trivial⟩
theorem zerosL_one (v:Value) (n:Nat):zerosL [v] n=List.replicate n v:=by
 induction n with
 | zero=>rfl
 | succ n ih=>simp [zerosL,List.replicate_succ] at ih ⊢;try exact ih
theorem slices_Repeat_spec {w:World} {a:Option Addr} {x:UInt8} {cx:Nat} (h:BytesAt w a [x]) (hc:1≤cx) {n:Nat} (hn:n<1000000) (hn1:1≤n) :
  CallsR prog K.slices_Repeat_byte #[.slice a 1 cx,.int .i64 n] w fun v w'=>Ext w w'∧∃ b,v= .slice (some ⟨b,0,none⟩) n n∧OwnAt w' (some ⟨b,0,none⟩) n n T.uint8 1 ((List.replicate n x).map bv)∧w.heap.size≤b:=by
 apply slices_Repeat_byte.sh
 refine br_dec (fun h=>by omega) fun _=>?_
 have e1:IntKind.u64.wrap (((1:Nat):Int))=1:=by decide
 rw [e1,wu64 (by omega) (by omega)]
 refine (bits_Mul_spec n hn w).mono ?_
 rintro _ _ ⟨rfl,rfl⟩
 rename_i w
 refine ⟨_,_,rfl,fun u=>u=w,br_dec (fun h=>by omega) fun _=>br_dec (fun h=>by omega) fun _=>rfl,?_⟩
 rintro _ rfl
 rename_i w
 rw [w64 (by omega) (by omega)]
 refine ⟨by omega,by omega,by omega,by omega,rfl,fun b w₃ hnew=>?_⟩
 have hb:b=w.heap.size:=hnew.num
 simp only [Int.toNat_natCast] at hnew ⊢
 rw [zerosL_one] at hnew
 have hx3:BytesAt w₃ a [x]:=RowAt.ext h hnew.upd
 have hrep:(List.replicate n (Value.int .u8 0))=(List.replicate n (0:UInt8)).map bv:=by simp
 rw [hrep] at hnew
 refine copy_into (xs:=[x]) hnew.get hx3 (by simpa using hn1) (by simpa using hn1) fun w₄ hput=>?_
 rw [splice_bytes] at hput
 refine ⟨fun m u=>∃ k:Nat,m=k∧1≤k∧k≤n∧Ext w u∧u.heap[b]?=some (.cells ((List.replicate k x ++ List.replicate (n - k) 0).map bv).toArray T.uint8 (0,0)),fun m _=>(n - m).toNat,?_,?_⟩
 ·refine ⟨1,rfl,Nat.le_refl _,hn1,Put.upd hnew.upd hput (.inl (by omega)),?_⟩
  have:=hput.get
  rw [this]
  congr 3
  simp
 rintro m u ⟨k,rfl,hk1,hkn,heu,hbu⟩
 refine br_dec (fun hlt=>?_) fun hge=>?_
 ·intro w₆ hdrew
  have hb6:=Ext.get hdrew.upd hbu
  refine ⟨fun v=>v=w₆,rfl,?_⟩
  refine slice_from (by omega) (by omega) (Nat.le_refl _) ?_
  rw [if_neg (by omega)]
  simp only [Option.map_some,add_lit,Int.toNat_natCast,Nat.mul_one,Nat.zero_add]
  have hfull:BytesAt w₆ (some ⟨b,0,none⟩) (List.replicate k x ++ List.replicate (n - k) 0):=RowAt.of hb6 fun j v hj=>by simpa using hj
  have hfl:(List.replicate k x ++ List.replicate (n - k) (0:UInt8)).length=n:=by simp;omega
  have hcut:=slice_bytes_to (cap:=n) hfull (k:=(k:Int)) (mx:=none) (by omega) (by omega) (by omega) (.inl rfl) (K:=fun a3 l3 c3=>copyP 1 (some ⟨b,k,none⟩) (n - k) (Value.slice a3 l3 c3) w₆ fun x5 w7 =>
   (∃ k':Nat,IntKind.i64.wrap ((k:Int)+x5)=k'∧1≤k'∧k'≤n∧Ext w w7∧w7.heap[b]?=some (.cells ((List.replicate k' x ++ List.replicate (n - k') 0).map bv).toArray T.uint8 (0,0)))∧((n:Int) - IntKind.i64.wrap ((k:Int)+x5)).toNat<((n:Int) - (k:Int)).toNat) ?_
  ·rw [hfl] at hcut
   exact hcut
  ·intro c' hb' _
   simp only [Int.toNat_natCast] at hb' ⊢
   have htk:(List.replicate k x ++ List.replicate (n - k) (0:UInt8)).take k=List.replicate k x:=by
    rw [List.take_append_of_le_length (by simp)];simp
   rw [htk] at hb' ⊢
   have hb'':BytesAt w₆ (some ⟨b,0,none⟩) (List.replicate (min k (n - k)) x):=by
    have:=BytesAt.take hb' (min k (n - k))
    rwa [List.take_replicate,Nat.min_eq_left (Nat.min_le_left _ _)] at this
   refine ⟨k,by simp [lenV],(List.replicate (min k (n - k)) x).map bv,?_,oneCell_bytes,?_⟩
   ·have:=read_row (cap:=c') (size:=1) hb'' (len:=min k (n - k)) (by simp)
    simp only [readP] at this ⊢
    exact ⟨by simp,RowAt.cells hb''⟩
   ·refine store_of hb6 (by simp;omega) fun w₇ hput7=>?_
    have e:IntKind.i64.wrap ((k:Int)+((min k (n - k):Nat):Int))=((k+min k (n - k):Nat):Int):=w64 (by omega) (by omega)
    simp only []
    rw [e]
    refine ⟨⟨k+min k (n - k),rfl,by omega,by omega,Put.upd (heu.trans hdrew.upd) hput7 (.inl (by omega)),?_⟩,by omega⟩
    have:=hput7.get
    rw [this,splice_bytes]
    have q:(List.replicate k x ++ List.replicate (n - k) (0:UInt8)).take k ++ List.replicate (min k (n - k)) x ++ (List.replicate k x ++ List.replicate (n - k) (0:UInt8)).drop (k+(List.replicate (min k (n - k)) x).length)=List.replicate (k+min k (n - k)) x ++ List.replicate (n - (k+min k (n - k))) 0:=by
     rw [List.take_append_of_le_length (by simp),List.take_of_length_le (by simp),List.drop_append,List.drop_of_length_le (l:=List.replicate k x) (by simp),List.nil_append,List.drop_replicate,List.replicate_append_replicate]
     congr 2
     simp
     omega
    rw [q]
 ·have:k=n:=by omega
  subst this
  refine ⟨heu,b,rfl,⟨by simp,Nat.le_refl _,.inr ⟨b,_,rfl,hbu,by simp,by simp⟩⟩,by omega⟩
def newCells (nb np sz sp:Nat) (a:Option Addr) (len cap bb cbad:Nat):Array Value :=
 #[.int .i64 nb,.int .i64 np,.int .i64 sz,.int .i64 sp,.slice a len cap,.slice (some ⟨bb,0,none⟩) nb cbad,.slice none 0 0,.int .i64 0,.bool false,.int .i64 0]
structure Built (A:Nat) (w:World) (a:Option Addr) (cap:Nat) (locs:List Nat) (bs:List (List UInt8)) (N:Nat):Prop where
 row:∃ vs,OwnAt w a bs.length cap T.L_uint8 1 vs∧∀ i,i<bs.length→∃ l cap,locs[i]?=some l∧vs[i]?=some (.slice (some ⟨l,0,none⟩) N cap)∧OwnAt w (some ⟨l,0,none⟩) N cap T.uint8 1 ((bs.getD i []).map bv)
 len:locs.length=bs.length
 at_:∀ l,l∈locs→A≤l∧l<w.heap.size
 nodup:locs.Nodup
 own:∀ b,a=some ⟨b,0,none⟩→A≤b∧b<w.heap.size∧b ∉ locs
theorem Built.nil (A:Nat) (w:World) (N:Nat):Built A w none 0 [] [] N :=
 ⟨⟨[],OwnAt.nil _ _ _,fun i hi=>by simp at hi⟩,rfl,fun l hl=>by simp at hl,List.nodup_nil,fun b hb=>by cases hb⟩
theorem Built.upd {F:Nat→Prop} {A:Nat} {w w':World} {a:Option Addr} {cap:Nat} {locs:List Nat} {bs:List (List UInt8)} {N:Nat} (h:Built A w a cap locs bs N) (k:Upd F w w') (hf:∀ x,F x→x<A):Built A w' a cap locs bs N:=by
 obtain ⟨⟨vs,ho,hv⟩,hl,hat,hn,hown⟩:=h
 refine ⟨⟨vs,OwnAt.upd ho k (fun b hb hF=>by have:=hf _ hF;have:=(hown b hb).1;omega),fun i hi=>?_⟩,hl,fun l hm=>⟨(hat l hm).1,Nat.lt_of_lt_of_le (hat l hm).2 k.size⟩,hn,fun b hb=>⟨(hown b hb).1,Nat.lt_of_lt_of_le (hown b hb).2.1 k.size,(hown b hb).2.2⟩⟩
 obtain ⟨l,cap',hli,hvi,hbi⟩:=hv i hi
 refine ⟨l,cap',hli,hvi,OwnAt.upd hbi k (fun b hb hF=>?_)⟩
 cases hb
 have:=hf _ hF
 have:=(hat l (List.mem_of_getElem? hli)).1
 omega
theorem Built.more {A:Nat} {w w₁ w₂:World} {a:Option Addr} {cap:Nat} {locs:List Nat} {bs:List (List UInt8)} {N:Nat} (h:Built A w a cap locs bs N) (hA:A≤w.heap.size) (he:Ext w w₁) {l c:Nat} {b:List UInt8}
  (ho:OwnAt w₁ (some ⟨l,0,none⟩) N c T.uint8 1 (b.map bv)) (hl:w.heap.size≤l) {B:Nat} (hn:New w₁ (.cells #[.slice (some ⟨l,0,none⟩) N c] T.L_uint8) B w₂) (hs:bs.length≤100) {K:Option Addr→Nat→Nat→World→Prop}
  (hk:∀ a' c' w',Upd (fun x=>A≤x) w w'→(∀ b,a=some ⟨b,0,none⟩→A≤b)→Upd (fun b=>a=some ⟨b,0,none⟩) w₂ w'→Built A w' a' c' (locs ++ [l]) (bs ++ [b]) N→K a' (bs.length+1) c' w') :
  appendP T.L_uint8 1 24 [Value.slice none 0 0] a bs.length cap (.slice (some ⟨B,0,none⟩) 1 1) w₂ K:=by
 obtain ⟨⟨vs,hvo,hv⟩,hlen,hat,hnd,hown⟩:=h
 have hlw:l<w₁.heap.size:=OwnAt.blk ho rfl
 have e2:Ext w w₂:=he.trans hn.upd
 have hB:B=w₁.heap.size:=hn.num
 have hrow:RowAt w₂ (some ⟨B,0,none⟩) [Value.slice (some ⟨l,0,none⟩) N c]:=RowAt.of hn.get fun j v hj=>by simpa using hj
 refine append_own (OwnAt.ext hvo e2) rfl (read_row hrow (by simp)) (by simp) (by simp;rfl) rfl (by omega) (by omega) fun a' c' w' hu ho' hf=>?_
 have hu':Upd (fun x=>A≤x) w w':=(Upd.ext e2).trans (hu.mono fun x _ hx=>(hown x hx).1)
 refine hk a' c' w' hu' (fun b hb=>(hown b hb).1) hu ⟨⟨_,by simpa using ho',fun i hi=>?_⟩,by simp [hlen],fun x hx=>?_,?_,fun x hx=>?_⟩
 ·have hvl:vs.length=bs.length:=by simpa using hvo.1
  by_cases hib:i<bs.length
  ·obtain ⟨l',cap',hli,hvi,hbi⟩:=hv i hib
   refine ⟨l',cap',by rw [List.getElem?_append_left (by omega)];exact hli,by rw [List.getElem?_append_left (by omega)];exact hvi,?_⟩
   have hm:=List.mem_of_getElem? hli
   have:(bs ++ [b]).getD i []=bs.getD i []:=by simp [List.getD,List.getElem?_append_left hib]
   rw [this]
   refine OwnAt.upd (OwnAt.ext hbi e2) hu (fun b' hb' hF=>?_)
   cases hb'
   exact (hown _ hF).2.2 hm
  ·have hie:i=bs.length:=by simp at hi;omega
   subst hie
   refine ⟨l,c,by rw [← hlen];simp,by rw [← hvl];simp,?_⟩
   have:(bs ++ [b]).getD bs.length []=b:=by simp [List.getD]
   rw [this]
   refine OwnAt.upd (OwnAt.ext ho hn.upd) hu (fun b' hb' hF=>?_)
   cases hb'
   have:=(hown _ hF).2.1
   omega
 ·have hs':=hu.size
  have hs1:=hn.size
  have hs0:=he.size
  rcases List.mem_append.1 hx with hx | hx
  ·have:=hat x hx
   exact ⟨this.1,by omega⟩
  ·simp at hx
   subst hx
   exact ⟨by omega,by omega⟩
 ·rw [List.nodup_append]
  refine ⟨hnd,by simp,fun x hx y hy e=>?_⟩
  simp at hy
  have:=(hat x hx).2
  omega
 ·have hs':=hu.size
  have hs1:=hn.size
  have hs0:=he.size
  have hx':x<w'.heap.size:=OwnAt.blk ho' hx
  rcases hf with rfl | ⟨b',rfl,hb'⟩
  ·have:=hown x hx
   refine ⟨this.1,hx',fun hm=>?_⟩
   rcases List.mem_append.1 hm with hm | hm
   ·exact this.2.2 hm
   ·simp at hm;omega
  ·cases hx
   refine ⟨by omega,hx',fun hm=>?_⟩
   rcases List.mem_append.1 hm with hm | hm
   ·have:=(hat _ hm).2;omega
   ·simp at hm;omega
theorem Built.chip {A p bb cbad:Nat} {w:World} {a:Option Addr} {cap nb np sz sp:Nat} {locs:List Nat} {bs:List (List UInt8)} {bad:List Bool} (h:Built A w a cap locs bs (np * sz)) (hb:bs.length=nb)
  (hd:w.heap[p]?=some (.cells (newCells nb np sz sp a bs.length cap bb cbad) T.nand_Chip (0,0))) (hbad:OwnAt w (some ⟨bb,0,none⟩) nb cbad T.bool 1 (bad.map Value.bool)) (hp:p<A) (hbb:bb<A) (hne:p≠bb) {Z:Nat} (hpZ:Z≤p) (hbZ:Z≤bb)
  (nb1:8≤nb) (nb2:nb≤64) (np1:4≤np) (np2:np≤32) (sz1:128≤sz) (sz2:sz≤256) (hbl:∀ b∈bs,b.length=np * sz) :
  ChipAt w p ⟨nb,np,sz,sp,bs,bad,[],0,false,0⟩ (fun x=>Z≤x∧x<w.heap.size):=by
 obtain ⟨⟨vs,hvo,hv⟩,hlen,hat,hnd,hown⟩:=h
 obtain ⟨pb,rfl⟩: ∃ pb,a=some ⟨pb,0,none⟩:=by
  obtain ⟨_,_,h⟩:=hvo
  rcases h with ⟨_,h,_⟩| ⟨b,cur,h,_⟩
  ·omega
  ·exact ⟨b,h⟩
 have hpb:=hown pb rfl
 have hps:p<w.heap.size:=(Array.getElem?_eq_some_iff.1 hd).1
 have hbs:bb<w.heap.size:=OwnAt.blk hbad rfl
 have hbadl:bad.length=nb:=by have:=hbad.1;simpa using this
 refine ⟨⟨bb,cbad,pb,cap,none,0,locs⟩,fun x=>x=pb,⟨⟨nb1,nb2,np1,np2,sz1,sz2,hb,hbl,hbadl⟩,?_,hbad,?_,?_,?_,?_,?_,rfl⟩,?_,?_,fun x hx=>hx.2⟩
 ·rw [hd,hb];rfl
 ·refine ⟨vs,by rw [← hb];exact hvo,fun i hi=>?_⟩
  obtain ⟨l,c,h1,h2,h3⟩:=hv i (by rw [hb];exact hi)
  exact ⟨l,c,h1,h2,h3⟩
 ·exact ⟨[],RowAt.nil _ _,rfl,Nat.le_refl _,fun a ha=>by cases ha⟩
 ·simp only [];rw [hlen];exact hb
 ·simp only []
  refine List.nodup_cons.2 ⟨fun hm=>?_,List.nodup_cons.2 ⟨fun hm=>?_,hnd⟩⟩
  ·rcases List.mem_cons.1 hm with hm | hm
   ·exact hne hm
   ·have:=(hat _ hm).1;omega
  ·have:=(hat _ hm).1;omega
 ·intro x hx he
  subst he
  simp only [List.mem_cons] at hx
  rcases hx with hx | hx | hx
  ·omega
  ·omega
  ·exact hpb.2.2 hx
 ·intro x hx
  simp only [List.mem_cons] at hx
  rcases hx with rfl | rfl | hx
  ·exact ⟨hpZ,hps⟩
  ·exact ⟨hbZ,hbs⟩
  ·have:=hat x hx;exact ⟨by omega,this.2⟩
 ·rintro x rfl
  exact ⟨by omega,hpb.2.1⟩
theorem Upd.low {F:Nat→Prop} {a b c:World} (h:Upd F a b) (k:Upd (fun x=>a.heap.size≤x) b c):Upd F a c :=
 ⟨Nat.le_trans h.size k.size,fun i hi hf=>(k.blk i (Nat.lt_of_lt_of_le hi h.size) (by omega)).trans (h.blk i hi hf),k.os.trans h.os,k.tape.trans h.tape,k.output.trans h.output,fun b o hb ho=>k.book b o (h.book b o hb ho) ho⟩
theorem range_ok {w2:World} {v lo hi:Int} (h1:lo≤v) (h2:v≤hi) {X K:World→Prop} (hk:∀ w4,Ext w2 w4→K w4) (B:Nat) (w3:World) (hn:New w2 (.cells #[Value.int .i64 0,Value.int .i64 0,Value.int .i64 0] T.A3int) B w3) :
  storeP w3 ⟨B,0,none⟩ [Value.int .i64 v,Value.int .i64 lo,Value.int .i64 hi] fun w4=>0≤(0:Int)∧(0:Int)<3∧
   ∃ x6:Int,World.cell? w4 (Addr.add ⟨B,0,none⟩ (Int.toNat (0:Int) * 1))=some (Value.int .i64 x6)∧0≤(1:Int)∧(1:Int)<3∧
   ∃ x7:Int,World.cell? w4 (Addr.add ⟨B,0,none⟩ (Int.toNat (1:Int) * 1))=some (Value.int .i64 x7)∧
   br (decide (x6<x7)) (X w4) (0≤(0:Int)∧(0:Int)<3∧
    ∃ x8:Int,World.cell? w4 (Addr.add ⟨B,0,none⟩ (Int.toNat (0:Int) * 1))=some (Value.int .i64 x8)∧0≤(2:Int)∧(2:Int)<3∧
    ∃ x9:Int,World.cell? w4 (Addr.add ⟨B,0,none⟩ (Int.toNat (2:Int) * 1))=some (Value.int .i64 x9)∧
    br (decide (x8 > x9)) (X w4) (K w4)):=by
 refine store_of hn.get (by simp) fun w4 hput=>?_
 have hB:B=w2.heap.size:=hn.num
 have he:Ext w2 w4:=Put.upd hn.upd hput (.inl (by omega))
 have hg:=hput.get
 rw [splice_all _ _ (by simp)] at hg
 simp only [add_lit,tn0,tn1,tn2]
 refine ⟨by omega,by omega,_,cell_of hg rfl,by omega,by omega,_,cell_of hg rfl,br_dec (fun h=>by omega) fun _=>⟨by omega,by omega,_,cell_of hg rfl,by omega,by omega,_,cell_of hg rfl,br_dec (fun h=>by omega) fun _=>hk _ he⟩⟩
theorem nand_New_spec (w:World) {nb np sz sp:Nat} (nb1:8≤nb) (nb2:nb≤64) (np1:4≤np) (np2:np≤32) (sz1:128≤sz) (sz2:sz≤256) (sp2:sp≤4) :
  CallsR prog K.nand_New #[.agg #[.int .i64 nb,.int .i64 np,.int .i64 sz,.int .i64 sp]] w fun v w'=>Ext w w'∧∃ p,v= .tuple #[.pointer (some ⟨p,0,none⟩),.int .i64 0]∧
   ChipAt w' p ⟨nb,np,sz,sp,List.replicate nb (List.replicate (np * sz) 255),List.replicate nb false,[],0,false,0⟩ (fun x=>w.heap.size≤x∧x<w'.heap.size):=by
 apply nand_New.sh
 intro B₁ w₁ hn1
 have hB1:B₁=w.heap.size:=hn1.num
 have hc1:=hn1.get
 simp only [add_lit]
 refine ⟨_,cell_of hc1 rfl,_,cell_of hc1 rfl,_,cell_of hc1 rfl,_,cell_of hc1 rfl,fun x u=>0≤x∧x≤4∧Ext w₁ u,fun x _=>(4 - x).toNat,⟨by omega,by omega,Upd.refl _ _⟩,?_⟩
 rintro x₅ w₂ ⟨hx0,hx4,he2⟩
 have hnext:∀ w4,Ext w₂ w4→x₅<4→(0≤IntKind.i64.wrap (x₅+1)∧IntKind.i64.wrap (x₅+1)≤4∧Ext w₁ w4)∧(4 - IntKind.i64.wrap (x₅+1)).toNat<(4 - x₅).toNat:=by
  intro w4 h4 hlt
  rw [w64 (by omega) (by omega)]
  exact ⟨⟨by omega,by omega,he2.trans h4⟩,by omega⟩
 refine br_dec (fun hlt=>⟨hx0,hlt,?_⟩) fun hge=>?_
 ·refine ⟨⟨⟨⟨trivial,fun _=>?_⟩,fun _=>?_⟩,fun _=>?_⟩,fun _=>?_⟩
  ·exact fun B w3 hn=>range_ok (by omega) (by omega) (fun w4 h4=>hnext w4 h4 hlt) B w3 hn
  ·exact fun B w3 hn=>range_ok (by omega) (by omega) (fun w4 h4=>hnext w4 h4 hlt) B w3 hn
  ·exact fun B w3 hn=>range_ok (by omega) (by omega) (fun w4 h4=>hnext w4 h4 hlt) B w3 hn
  ·exact fun B w3 hn=>range_ok (by omega) (by omega) (fun w4 h4=>hnext w4 h4 hlt) B w3 hn
 ·intro w₁₁ hd11
  have e11:Ext w₁ w₁₁:=he2.trans hd11.upd
  have hsz8:np * sz≤8192:=by have:=Nat.mul_le_mul np2 sz2;omega
  refine ⟨fun u=>Ext w₁ u,e11,(nb:Int),(np:Int),(sz:Int),(sp:Int),fun u hu=>cellsAt_of (o:=0) (Ext.get hu hc1) (fun j v hj=>by simpa using hj),(nb:Int),fun u hu=>cell_of (Ext.get hu hc1) rfl,?_⟩
  refine ⟨by omega,by omega,by omega,by omega,rfl,fun bb w₁₂ hn12=>?_⟩
  have e12:=e11.trans hn12.upd
  have hbb:bb=w₁₁.heap.size:=hn12.num
  simp only [Int.toNat_natCast] at hn12 ⊢
  rw [zerosL_one] at hn12
  refine ⟨e12,fun B₆ w₁₃ hn13=>?_⟩
  have hB6:B₆=w₁₂.heap.size:=hn13.num
  have e13:=e12.trans hn13.upd
  have s1:=hn1.size
  have s11:=e11.size
  have s12:=hn12.size
  have s13:=hn13.size
  have hbad12:OwnAt w₁₂ (some ⟨bb,0,none⟩) nb nb T.bool 1 ((List.replicate nb false).map Value.bool):=by
   have:=OwnAt.new (n:=nb) (size:=1) hn12 (by simp)
   simpa using this
  refine ⟨e13,_,cell_of (Ext.get e13 hc1) rfl,?_⟩
  refine ⟨fun x u=>∃ (i:Nat) (a:Option Addr) (cap:Nat) (locs:List Nat),x=i∧i≤nb∧Upd (·=B₆) w₁₃ u∧u.heap[B₆]?=some (.cells (newCells nb np sz sp a i cap bb nb) T.nand_Chip (0,0))∧Built w₁₃.heap.size u a cap locs (List.replicate i (List.replicate (np * sz) 255)) (np * sz),
   fun x _=>(nb - x).toNat,⟨0,none,0,[],rfl,by omega,Upd.refl _ _,hn13.get,Built.nil _ _ _⟩,?_⟩
  rintro x₂₈ w₁₄ ⟨i,a,cap,locs,rfl,hi,hu14,hd14,hbt⟩
  refine br_dec (fun hlt=>?_) fun hge=>?_
  ·intro w₁₅ hd15
   have hu15:Upd (·=B₆) w₁₃ w₁₅:=hu14.then hd15.upd
   have hg15:=Ext.get hd15.upd hd14
   have hg1:w₁₅.heap[B₁]?=_:=hu15.get (Ext.get e13 hc1) (by omega)
   have hs15:=hu15.size
   have hSc:∀ {u:World},Upd (fun x=>w₁₃.heap.size≤x) w₁₅ u→u.heap[B₆]?=some (.cells (newCells nb np sz sp a i cap bb nb) T.nand_Chip (0,0)):=fun hu=>hu.get hg15 (by omega)
   have hSg:∀ {u:World},Upd (fun x=>w₁₃.heap.size≤x) w₁₅ u→u.heap[B₁]?=_:=fun hu=>hu.get hg1 (by omega)
   refine ⟨fun u=>Upd (fun x=>w₁₃.heap.size≤x) w₁₅ u,Upd.refl _ _,a,i,cap,fun u hu=>cell_of (hSc hu) rfl,(np:Int),fun u hu=>cell_of (hSg hu) rfl,(sz:Int),fun u hu=>cell_of (hSg hu) rfl,?_⟩
   intro B₇ w₁₆ hn16
   refine ⟨Upd.ext hn16.upd,?_⟩
   have eN:IntKind.i64.wrap ((np:Int) * (sz:Int))=((np * sz:Nat):Int):=by rw [← Int.natCast_mul];exact w64 (by omega) (by omega)
   rw [eN]
   have h128:4 * 128≤np * sz:=Nat.mul_le_mul np1 sz1
   refine (slices_Repeat_spec (x:=255) (a:=some ⟨B₇,0,none⟩) (cx:=1) (RowAt.of hn16.get fun j v hj=>by match j,hj with | 0,hj=>exact hj | j+1,hj=>simp at hj) (Nat.le_refl _) (n:=np * sz) (by omega) (by omega)).mono ?_
   rintro _ w₁₇ ⟨he17,l,rfl,hol,hlf⟩
   have e17:Ext w₁₅ w₁₇:=hn16.upd.trans he17
   refine ⟨_,_,_,rfl,Upd.ext e17,fun B₈ w₁₈ hn18=>⟨Upd.ext (e17.trans hn18.upd),?_⟩⟩
   have hbt15:Built w₁₃.heap.size w₁₅ a cap locs (List.replicate i (List.replicate (np * sz) 255)) (np * sz):=hbt.upd (F:=NoB) hd15.upd (fun _ hf=>hf.elim)
   have hmore:=Built.more (K:=fun a4 l4 c4 w19=>Upd (fun x=>w₁₃.heap.size≤x) w₁₅ w19∧storeP w19 ⟨B₆,0+4,none⟩ [Value.slice a4 l4 c4] fun w20 =>
    (∃ (i':Nat) (a:Option Addr) (cap:Nat) (locs:List Nat),IntKind.i64.wrap ((i:Int)+1)=i'∧i'≤nb∧Upd (·=B₆) w₁₃ w20∧w20.heap[B₆]?=some (.cells (newCells nb np sz sp a i' cap bb nb) T.nand_Chip (0,0))∧Built w₁₃.heap.size w20 a cap locs (List.replicate i' (List.replicate (np * sz) 255)) (np * sz))∧((nb:Int) - IntKind.i64.wrap ((i:Int)+1)).toNat<((nb:Int) - (i:Int)).toNat) hbt15 hs15 e17 hol (by have:=hn16.size;omega) hn18 (by simp;omega) ?_
   ·simp only [List.length_replicate] at hmore
    exact hmore
   ·intro a' c' w₁₉ hu19 hown hu19b hbt19
    refine ⟨hu19,?_⟩
    have hg19:=hSc hu19
    refine store_of hg19 (by simp [newCells]) fun w₂₀ hput=>?_
    have e1:IntKind.i64.wrap ((i:Int)+1)=((i+1:Nat):Int):=w64 (by omega) (by omega)
    rw [e1]
    refine ⟨⟨i+1,a',c',locs ++ [l],rfl,by omega,?_,?_,?_⟩,by omega⟩
    ·exact (hu15.low hu19).trans (Put.upd1 hput)
    ·have:=hput.get
     rw [this]
     simp only [List.length_replicate]
     rfl
    ·have hr:List.replicate i (List.replicate (np * sz) (255:UInt8)) ++ [List.replicate (np * sz) 255]=List.replicate (i+1) (List.replicate (np * sz) 255):=by rw [← List.replicate_append_replicate];rfl
     rw [hr] at hbt19
     exact hbt19.upd (Put.upd1 hput) (fun x hx=>by omega)
  ·have hi':i=nb:=by omega
   subst hi'
   have hs14:=hu14.size
   refine ⟨?_,B₆,rfl,?_⟩
   ·exact Upd.beyond (hn1.upd.trans e13) hu14 (fun x hx=>by omega)
   ·refine Built.chip (A:=w₁₃.heap.size) (bb:=bb) (cbad:=i) (a:=a) (cap:=cap) (locs:=locs) (bs:=List.replicate i (List.replicate (np * sz) 255)) hbt (by simp) (by simp only [List.length_replicate];exact hd14) ?_ (by omega) (by omega) (by omega) (Z:=w.heap.size) (by omega) (by omega) nb1 nb2 np1 np2 sz1 sz2 ?_
    ·exact OwnAt.upd (OwnAt.ext hbad12 hn13.upd) hu14 (fun b hb=>by cases hb;omega)
    ·intro b hb
     rw [List.eq_of_mem_replicate hb]
     simp
theorem slices_Clone_bool_spec {a:Option Addr} {a₀:Addr} {l:List Bool} {c:Nat} {w:World} (h:RowAt w (some a₀) (l.map Value.bool)) (ha:a=some a₀) (hn:l.length≤10000) (hl:1≤l.length) :
  CallsR prog K.slices_Clone_bool #[.slice a l.length c] w fun v w'=>Ext w w'∧∃ b c',v= .slice (some ⟨b,0,none⟩) l.length c'∧OwnAt w' (some ⟨b,0,none⟩) l.length c' T.bool 1 (l.map Value.bool)∧w.heap.size≤b:=by
 subst ha
 apply slices_Clone_bool.sh
 unfold slices_Clone_bool.body
 simp only [Option.isNone_some,br_false]
 intro B w₁ hnew
 have hB:w.heap.size=B:=by rw [hnew.num]
 have ho:OwnAt w₁ (some ⟨B,0,none⟩) 0 0 T.bool 1 []:=OwnAt.new (n:=0) (size:=1) hnew (by simp)
 refine append_own ho (m:=l.length) (new:=l.map Value.bool) rfl (read_row (RowAt.ext h hnew.upd) (by simp)) (by simp) (by intro v hv;simp at hv;rcases hv with ⟨_,rfl⟩| ⟨_,rfl⟩<;>rfl) rfl (by omega) (by omega) fun a' c' w₂ hu ho' hf=>?_
 simp only [Nat.zero_add,List.nil_append] at ho' ⊢
 have hs:=hnew.size
 rcases hf with rfl | ⟨b,rfl,hb⟩
 ·exact ⟨Upd.beyond hnew.upd hu fun x hx=>by cases hx;omega,B,c',rfl,ho',by omega⟩
 ·exact ⟨Upd.beyond hnew.upd hu fun x hx=>by cases hx;omega,b,c',rfl,ho',by omega⟩
theorem nand_Power_spec {w:World} {p:Nat} {c:Chip} {L:Loc} {G:Nat→Prop} (h:ChipRep w p c L G) :
  CallsR prog K.nand_Chip_Power #[.pointer (some ⟨p,0,none⟩)] w fun v w'=>Ext w w'∧∃ p',v= .tuple #[.pointer (some ⟨p',0,none⟩),.int .i64 0]∧
   ChipAt w' p' c.power (fun x=>w.heap.size≤x∧x<w'.heap.size):=by
 have hok:=h.ok
 apply nand_Chip_Power.sh
 unfold nand_Chip_Power.body
 refine (nand_off_spec h).mono ?_
 rintro _ _ ⟨rfl,rfl⟩
 rename_i w
 refine ⟨_,rfl,?_⟩
 simp only [br_false,nilC_some',add_lit]
 intro w₂ hd2
 have h2:=h.ext hd2.upd
 refine ⟨fun u=>Ext w₂ u,Upd.refl _ _,(c.nb:Int),(c.np:Int),(c.sz:Int),(c.sp:Int),fun u hu=>cellsAt_of (o:=0) (Ext.get hu h2.head) (fun j v hj=>?_),_,_,_,fun u hu=>cell_of (Ext.get hu h2.head) rfl,?_⟩
 ·match j,hj with
  | 0,hj=>simpa [chipCells] using hj
  | 1,hj=>simpa [chipCells] using hj
  | 2,hj=>simpa [chipCells] using hj
  | 3,hj=>simpa [chipCells] using hj
  | j+4,hj=>simp at hj
 have hcb:=slices_Clone_bool_spec (a₀:=⟨L.bb,0,none⟩) (c:=L.cbad) h2.bad.row rfl (by rw [hok.bad];have:=hok.nb2;omega) (by rw [hok.bad];have:=hok.nb1;omega)
 rw [hok.bad] at hcb
 refine hcb.mono ?_
 rintro _ w₃ ⟨he3,bb,cbad,rfl,hbo,hbf⟩
 refine ⟨_,_,_,rfl,he3,fun B₆ w₁₃ hn13=>⟨he3.trans hn13.upd,?_⟩⟩
 have hB6:B₆=w₃.heap.size:=hn13.num
 have e13:Ext w w₁₃:=(hd2.upd.trans he3).trans hn13.upd
 have h13:=h.ext e13
 refine ⟨_,_,_,cell_of h13.head rfl,?_⟩
 have s2:w₂.heap.size=w.heap.size:=by rw [hd2.heap]
 have s3:=he3.size
 have s13:=hn13.size
 have hbbw:bb<w₃.heap.size:=OwnAt.blk hbo rfl
 refine ⟨fun x u=>∃ (i:Nat) (a:Option Addr) (cap:Nat) (locs:List Nat),x=i∧i≤c.nb∧Upd (·=B₆) w₁₃ u∧u.heap[B₆]?=some (.cells (newCells c.nb c.np c.sz c.sp a i cap bb cbad) T.nand_Chip (0,0))∧Built w₁₃.heap.size u a cap locs (c.blocks.take i) (c.np * c.sz),
  fun x _=>(c.nb - x).toNat,⟨0,none,0,[],rfl,by omega,Upd.refl _ _,hn13.get,by simpa using Built.nil _ _ _⟩,?_⟩
 rintro x₂₈ w₁₄ ⟨i,a,cap,locs,rfl,hi,hu14,hd14,hbt⟩
 have hnb:=hok.nb2
 have hpw:p<w.heap.size:=(Array.getElem?_eq_some_iff.1 h.head).1
 have hFw:∀ {u:World},Upd (·=B₆) w₁₃ u→∃ vs,RowAt u (some ⟨L.pb,0,none⟩) vs∧∀ i,i<c.nb→∃ l cap,vs[i]?=some (.slice (some ⟨l,0,none⟩) (c.np * c.sz) cap)∧BytesAt u (some ⟨l,0,none⟩) (c.blk i):=by
  intro u hu
  obtain ⟨vs,hvo,hv⟩:=h.rows
  have hpb:L.pb<w.heap.size:=by
   obtain ⟨_,_,hx⟩:=hvo
   rcases hx with ⟨hx,_⟩| ⟨b,cur,hx,hb,_⟩
   ·cases hx
   ·cases hx;exact (Array.getElem?_eq_some_iff.1 hb).1
  refine ⟨vs,RowAt.upd (RowAt.ext hvo.row e13) hu (fun q hq=>by cases hq;show ¬ (L.pb=B₆);omega),fun i hi=>?_⟩
  obtain ⟨l,cap,hl,hvi,hbi⟩:=hv i hi
  have hlw:l<w.heap.size:=OwnAt.blk hbi rfl
  exact ⟨l,cap,hvi,RowAt.upd (RowAt.ext hbi.row e13) hu (fun q hq=>by cases hq;show ¬ (l=B₆);omega)⟩
 refine br_dec (fun hlt=>?_) fun hge=>?_
 ·have hi':i<c.nb:=by omega
  have hblen:=hok.blk_len hi'
  obtain ⟨vs,hvr,hv⟩:=hFw hu14
  obtain ⟨l0,cap0,hvi,hbi⟩:=hv i hi'
  refine ⟨by omega,by omega,?_⟩
  obtain ⟨b',o',hab,hc'⟩:=RowAt.cell hvr hvi
  cases hab
  simp only [nilC_some',add_lit,Int.toNat_natCast,Nat.mul_one]
  refine ⟨_,_,_,hc',?_⟩
  intro w₁₅ hd15
  have hu15:Upd (·=B₆) w₁₃ w₁₅:=hu14.then hd15.upd
  have hg15:=Ext.get hd15.upd hd14
  have hs15:=hu15.size
  have hSc:∀ {u:World},Ext w₁₅ u→u.heap[B₆]?=some (.cells (newCells c.nb c.np c.sz c.sp a i cap bb cbad) T.nand_Chip (0,0)):=fun hu=>Ext.get hu hg15
  refine ⟨fun u=>Ext w₁₅ u,Upd.refl _ _,a,i,cap,fun u hu=>cell_of (hSc hu) rfl,?_⟩
  have hcl:=slices_Clone_byte_spec (c:=cap0) (RowAt.ext hbi hd15.upd) (by rw [hblen];have:=hok.size_le;omega)
  rw [hblen] at hcl
  refine hcl.mono ?_
  rintro _ w₁₇ ⟨e17,a',c',rfl,hol,hlf⟩
  obtain ⟨l,rfl⟩: ∃ l,a'=some ⟨l,0,none⟩:=by
   obtain ⟨_,_,hx⟩:=hol
   rcases hx with ⟨_,hx,_⟩| ⟨b,cur,hx,_⟩
   ·have:=Nat.mul_le_mul hok.np1 hok.sz1;omega
   ·exact ⟨b,hx⟩
  refine ⟨_,_,_,rfl,e17,fun B₈ w₁₈ hn18=>⟨e17.trans hn18.upd,?_⟩⟩
  have hbt15:Built w₁₃.heap.size w₁₅ a cap locs (c.blocks.take i) (c.np * c.sz):=hbt.upd (F:=NoB) hd15.upd (fun _ hf=>hf.elim)
  have htl:(c.blocks.take i).length=i:=by simp [hok.bl];omega
  have hmore:=Built.more (K:=fun a4 l4 c4 w19=>storeP w19 ⟨B₆,0+4,none⟩ [Value.slice a4 l4 c4] fun w20 =>
   (∃ (i':Nat) (a:Option Addr) (cap:Nat) (locs:List Nat),IntKind.i64.wrap ((i:Int)+1)=i'∧i'≤c.nb∧Upd (·=B₆) w₁₃ w20∧w20.heap[B₆]?=some (.cells (newCells c.nb c.np c.sz c.sp a i' cap bb cbad) T.nand_Chip (0,0))∧Built w₁₃.heap.size w20 a cap locs (c.blocks.take i') (c.np * c.sz))∧((c.nb:Int) - IntKind.i64.wrap ((i:Int)+1)).toNat<((c.nb:Int) - (i:Int)).toNat) hbt15 hs15 e17 hol (hlf _ rfl) hn18 (by omega) ?_
  ·rw [htl] at hmore
   exact hmore
  ·intro a' c' w₁₉ hu19 hown hu19b hbt19
   have hg19:w₁₉.heap[B₆]?=some (.cells (newCells c.nb c.np c.sz c.sp a i cap bb cbad) T.nand_Chip (0,0)):=hu19.get hg15 (by omega)
   refine store_of hg19 (by simp [newCells]) fun w₂₀ hput=>?_
   have e1:IntKind.i64.wrap ((i:Int)+1)=((i+1:Nat):Int):=w64 (by omega) (by omega)
   rw [e1]
   refine ⟨⟨i+1,a',c',locs ++ [l],rfl,by omega,?_,?_,?_⟩,by omega⟩
   ·exact (hu15.low hu19).trans (Put.upd1 hput)
   ·have:=hput.get
    rw [this,htl]
    rfl
   ·have hib:i<c.blocks.length:=by rw [hok.bl];exact hi'
    have hr:c.blocks.take i ++ [c.blk i]=c.blocks.take (i+1):=by
     rw [List.take_succ_eq_append_getElem hib]
     simp [Chip.blk,List.getD,hib]
    rw [hr] at hbt19
    exact hbt19.upd (Put.upd1 hput) (fun x hx=>by omega)
 ·have hi':i=c.nb:=by omega
  subst hi'
  have hs14:=hu14.size
  rw [List.take_of_length_le (by rw [hok.bl];omega)] at hbt
  refine ⟨Upd.beyond e13 hu14 (fun x hx=>by omega),B₆,rfl,?_⟩
  refine Built.chip (A:=w₁₃.heap.size) (bb:=bb) (cbad:=cbad) (a:=a) (cap:=cap) (locs:=locs) hbt hok.bl (by rw [hok.bl];exact hd14) ?_ (by omega) (by omega) (by omega) (Z:=w.heap.size) (by omega) (by omega) hok.nb1 hok.nb2 hok.np1 hok.np2 hok.sz1 hok.sz2 hok.bl2
  exact OwnAt.upd (OwnAt.ext hbo hn13.upd) hu14 (fun b hb=>by cases hb;omega)
end Go.Den
namespace Go.Den
namespace Chip
end Chip
theorem HitRow.at_ {w:World} {G:Nat→Prop}:∀ {hs:List Hit} {vs:List Value},HitRow w G vs hs→∀ i (hi:i<hs.length),∃ m c r,vs.drop (i * 3)=Value.int .i64 hs[i].after :: Value.bool hs[i].fails :: Value.slice m hs[i].mask.length c :: r∧BytesAt w m hs[i].mask∧(hs[i].mask≠[]→∀ p,m=some p→G p.block)
 | [],vs,h,i,hi=>by simp at hi
 | t :: hs,vs,⟨m,c,r,e,hb,hg,hr⟩,0,hi=>⟨m,c,r,by simpa using e,hb,hg⟩
 | t :: hs,vs,⟨m,c,r,e,hb,hg,hr⟩,i+1,hi=>by
  obtain ⟨m',c',r',e',hb',hg'⟩:=HitRow.at_ hr i (by simpa using hi)
  refine ⟨m',c',r',?_,hb',hg'⟩
  rw [e,Nat.succ_mul]
  exact e'
end Go.Den
namespace Go.Den
def SlicesAt (w:World) (a:Option Addr) (bs:List (List UInt8)):Prop :=
 ∃ vs,RowAt w a vs∧vs.length=bs.length∧∀ i,i<bs.length→∃ ai ci,vs[i]?=some (.slice ai (bs.getD i []).length ci)∧BytesAt w ai (bs.getD i [])
theorem SlicesAt.ext {w w':World} {a:Option Addr} {bs:List (List UInt8)} (h:SlicesAt w a bs) (k:Ext w w'):SlicesAt w' a bs:=by
 obtain ⟨vs,hr,hl,hv⟩:=h
 refine ⟨vs,RowAt.ext hr k,hl,fun i hi=>?_⟩
 obtain ⟨ai,ci,h1,h2⟩:=hv i hi
 exact ⟨ai,ci,h1,RowAt.ext h2 k⟩
theorem idx_slice {w:World} {a:Option Addr} {bs:List (List UInt8)} {i:Nat} {K:Option Addr→Nat→Nat→Prop} (h:SlicesAt w a bs) (hi:i<bs.length) (hk:∀ ai ci,BytesAt w ai (bs.getD i [])→K ai (bs.getD i []).length ci) :
  idxP a bs.length (i:Int) 1 fun q=>∃ (a1:Option Addr) (l1 c1:Nat),World.cell? w q=some (Value.slice a1 l1 c1)∧K a1 l1 c1:=by
 obtain ⟨vs,hr,hl,hv⟩:=h
 obtain ⟨ai,ci,h1,h2⟩:=hv i hi
 refine ⟨by omega,by omega,?_⟩
 obtain ⟨b,o,rfl,hc⟩:=RowAt.cell hr h1
 simp only [nilC_some',add_lit,Int.toNat_natCast,Nat.mul_one]
 exact ⟨_,_,_,hc,hk ai ci h2⟩
theorem flatten_take_succ (bs:List (List UInt8)) (i:Nat) (hi:i<bs.length):(bs.take (i+1)).flatten=(bs.take i).flatten ++ bs.getD i []:=by
 rw [List.take_succ_eq_append_getElem hi,List.flatten_append]
 simp [List.getD,hi]
theorem flatten_take_le (bs:List (List UInt8)) (i:Nat):(bs.take i).flatten.length≤bs.flatten.length:=by
 have h:bs.flatten=(bs.take i).flatten ++ (bs.drop i).flatten:=by rw [← List.flatten_append,List.take_append_drop]
 rw [h];simp
theorem slices_Grow_spec (n:Nat) (hn:n≤10000000000000) (w:World) :
  CallsR prog K.slices_Grow_byte #[.slice none 0 0,.int .i64 n] w fun v w'=>Ext w w'∧∃ a c,v= .slice a 0 c∧OwnAt w' a 0 c T.uint8 1 []∧Fresh w a:=by
 apply slices_Grow_byte.sh
 unfold slices_Grow_byte.body
 refine br_dec (fun h=>by omega) fun _=>?_
 have e:IntKind.i64.wrap ((n:Int) - IntKind.i64.wrap (((0:Nat):Int) - ((0:Nat):Int)))=(n:Int):=by
  rw [w64 (x:=((0:Nat):Int) - ((0:Nat):Int)) (by omega) (by omega),w64 (by omega) (by omega)];omega
 rw [e]
 refine br_dec (fun hpos=>?_) fun hz=>⟨Upd.refl _ _,none,0,rfl,OwnAt.nil _ _ _,Fresh.none _⟩
 refine ⟨by simp,by simp,by simp,by simp,by simp,by simp,by simp,?_⟩
 simp only [Option.getD_some,Option.getD_none,Option.map_none,ite_self]
 refine ⟨by omega,by omega,by omega,by simp;rfl,rfl,fun h=>?_,fun _=>⟨by simp;omega,?_,[],?_,fun cap b w' hc hn=>?_⟩⟩
 ·simp at h;omega
 ·have:=nextcap_le (n:=0+(n:Int).toNat) (c:=0) (by simp;omega)
  simp at this ⊢
  omega
 ·exact read_row (RowAt.nil _ _) (by simp)
 ·have e1:Ext w w':=(drew_upd w).trans hn.upd
  have hb:b=w.heap.size:=hn.num
  have hcap:n≤cap:=by simpa using hc
  refine ⟨by simp,by simp,by simp,by simp,by simp,by simp,by simp,?_⟩
  have e2:(if (Option.getD none (cap:Int)).toNat=(Option.getD none (0:Int)).toNat then some (⟨b,0,none⟩: Addr) else Option.map (fun x=>Addr.add x ((Option.getD none (0:Int)).toNat * 1)) (some ⟨b,0,none⟩))=some ⟨b,0,none⟩:=by simp
  simp only [Option.getD_some,Option.getD_none] at e2 ⊢
  refine ⟨e1,some ⟨b,0,none⟩,cap,?_,?_,Fresh.some (by omega)⟩
  ·rw [e2];simp
  ·refine ⟨by simp,by omega,.inr ⟨b,_,rfl,hn.get,?_,by simp⟩⟩
   simp [zerosL_length]
   omega
theorem slices_Concat_spec {w:World} {a:Option Addr} {bs:List (List UInt8)} {cp:Nat} (h:SlicesAt w a bs) (hn:bs.length≤1000000000) (hf:bs.flatten.length≤10000000000000) :
  CallsR prog K.slices_Concat_byte #[.slice a bs.length cp] w fun v w'=>Ext w w'∧∃ a' c',v= .slice a' bs.flatten.length c'∧OwnAt w' a' bs.flatten.length c' T.uint8 1 (bs.flatten.map bv)∧Fresh w a':=by
 apply slices_Concat_byte.sh
 refine ⟨fun x y u=>∃ i:Nat,y=i∧i≤bs.length∧x=((bs.take i).flatten.length:Nat)∧u=w,fun _ y _=>(bs.length - y).toNat,⟨0,rfl,by omega,by simp,rfl⟩,?_⟩
 rintro x y u ⟨i,rfl,hi,rfl,rfl⟩
 refine br_dec (fun hlt=>?_) fun hge=>?_
 ·have hi':i<bs.length:=by omega
  refine idx_slice h hi' fun ai ci hb=>?_
  have hle:=flatten_take_le bs (i+1)
  have hsucc:=flatten_take_succ bs i hi'
  have e:IntKind.i64.wrap (((bs.take i).flatten.length:Int)+((bs.getD i []).length:Int))=((bs.take (i+1)).flatten.length:Nat):=by
   rw [hsucc,List.length_append,Int.natCast_add]
   have:(bs.take (i+1)).flatten.length=(bs.take i).flatten.length+(bs.getD i []).length:=by rw [hsucc,List.length_append]
   exact w64 (by omega) (by omega)
  have e1:IntKind.i64.wrap ((i:Int)+1)=((i+1:Nat):Int):=w64 (by omega) (by omega)
  simp only []
  rw [e,e1]
  exact br_dec (fun h=>by omega) fun _=>⟨⟨i+1,rfl,hi',rfl,by trivial⟩,by omega⟩
 ·have hi':i=bs.length:=by omega
  subst hi'
  rw [List.take_length]
  refine (slices_Grow_spec _ hf u).mono ?_
  rintro _ w₂ ⟨he,a2,c2,rfl,ho,hfr⟩
  refine ⟨_,_,_,rfl,fun a3 l3 c3 x v=>∃ i:Nat,x=i∧i≤bs.length∧l3=(bs.take i).flatten.length∧OwnAt v a3 l3 c3 T.uint8 1 ((bs.take i).flatten.map bv)∧Ext u v∧Fresh u a3,fun _ _ _ x _=>(bs.length - x).toNat,⟨0,rfl,by omega,by simp,by simpa using ho,he,hfr⟩,?_⟩
  rintro a3 l3 c3 x v ⟨i,rfl,hi,rfl,ho3,he3,hf3⟩
  refine br_dec (fun hlt=>?_) fun hge=>?_
  ·have hi':i<bs.length:=by omega
   refine idx_slice (h.ext he3) hi' fun ai ci hb=>?_
   have hle:=flatten_take_le bs (i+1)
   have hsucc:=flatten_take_succ bs i hi'
   have e1:IntKind.i64.wrap ((i:Int)+1)=((i+1:Nat):Int):=w64 (by omega) (by omega)
   simp only []
   rw [e1]
   refine append_bytes ho3 hb (by rw [← List.length_append,← hsucc];omega) fun a' c' w' hu ho' hf'=>?_
   rw [← hsucc] at ho' ⊢
   refine ⟨⟨i+1,rfl,hi',rfl,ho',Upd.beyond he3 hu (fun x hx=>hf3 _ hx),?_⟩,by omega⟩
   rcases hf' with rfl | ⟨b,rfl,hb⟩
   ·exact hf3
   ·exact Fresh.some (by have:=he3.size;omega)
  ·have hi':i=bs.length:=by omega
   subst hi'
   rw [List.take_length] at ho3 ⊢
   exact ⟨he3,a3,c3,rfl,ho3,hf3⟩
theorem Chip.Ok.bytes_le {c:Chip} (h:c.Ok):c.blocks.flatten.length≤1000000:=by
 have h1:∀ (l:List (List UInt8)),(∀ b∈l,b.length=c.np * c.sz)→l.flatten.length≤l.length * 8192:=by
  intro l
  induction l with
  | nil=>intro _;simp
  | cons b l ih =>
   intro hb
   have:=ih fun x hx=>hb x (by simp [hx])
   have h2:=hb b (by simp)
   have h3:=h.size_le
   simp at this ⊢
   omega
 have:=h1 _ h.bl2
 have:=h.bl
 have:=h.nb2
 omega
theorem nand_Bytes_spec {w:World} {p:Nat} {c:Chip} {L:Loc} {G:Nat→Prop} (h:ChipRep w p c L G) :
  CallsR prog K.nand_Chip_Bytes #[.pointer (some ⟨p,0,none⟩)] w fun v w'=>Ext w w'∧∃ a' c',v= .slice a' c.blocks.flatten.length c'∧OwnAt w' a' c.blocks.flatten.length c' T.uint8 1 (c.blocks.flatten.map bv)∧Fresh w a':=by
 apply nand_Chip_Bytes.sh
 unfold nand_Chip_Bytes.body
 refine (nand_off_spec h).mono ?_
 rintro _ _ ⟨rfl,rfl⟩
 rename_i w
 refine ⟨_,rfl,?_⟩
 simp only [br_false,nilC_some',add_lit]
 refine ⟨_,_,_,cell_of h.head rfl,?_⟩
 have hs:SlicesAt w (some ⟨L.pb,0,none⟩) c.blocks:=by
  obtain ⟨vs,hvo,hv⟩:=h.rows
  refine ⟨vs,hvo.row,by have:=hvo.1;rw [h.ok.bl];simpa using this,fun i hi=>?_⟩
  rw [h.ok.bl] at hi
  obtain ⟨l,cap,hl,hvi,hbi⟩:=hv i hi
  have hbl:=h.ok.blk_len hi
  exact ⟨_,cap,by rw [hvi];show _=some (Value.slice _ (c.blk i).length _);rw [hbl],hbi.row⟩
 have hcat:=slices_Concat_spec (cp:=L.cb) hs (by rw [h.ok.bl];have:=h.ok.nb2;omega) (by have:=h.ok.bytes_le;omega)
 rw [h.ok.bl] at hcat
 refine hcat.mono ?_
 rintro _ w' ⟨he,a',c',rfl,ho,hf⟩
 exact ⟨_,_,_,rfl,he,a',c',rfl,ho,hf⟩
theorem wu64n {m:Nat} (h:m<18446744073709551616):IntKind.u64.wrap (m:Int)=m:=wu64 (Int.natCast_nonneg _) (by omega)
theorem w64n {m:Nat} (h:m<9223372036854775808):IntKind.i64.wrap (m:Int)=m:=w64 (by have:=Int.natCast_nonneg m;omega) (by omega)
theorem tdiv_nat (i n:Nat):Int.tdiv (i:Int) (n:Int)=((i / n:Nat):Int):=by
 rw [Int.tdiv_eq_ediv_of_nonneg (by omega)];rfl
theorem carrackref00_Same_big {w:World} {a b:Option Addr} {l m:List UInt8} {c d:Nat} (ha:BytesAt w a l) (hb:BytesAt w b m) (hn:l.length≤1000000000000000000) :
  CallsR prog K.carrackref00_Same #[.slice a l.length c,.slice b m.length d] w fun v w'=>v= .bool (l == m)∧Ext w w':=by
 apply carrackref00_Same.sh
 refine br_ne (fun hne=>⟨?_,Upd.refl _ _⟩) fun heq=>?_
 ·have:l≠m:=fun e=>hne (by rw [e])
  rw [beq_eq_false_iff_ne.2 this]
 ·have hlm:l.length=m.length:=by omega
  refine ⟨fun x u=>∃ i:Nat,x=i∧i≤l.length∧l.take i=m.take i∧Ext w u,fun x _=>(l.length - x).toNat,⟨0,rfl,by omega,by simp,Upd.refl _ _⟩,?_⟩
  rintro x u ⟨i,rfl,hi,ht,he⟩
  refine br_dec (fun hlt=>?_) fun hge=>?_
  ·intro w₂ hd
   have e2:=he.trans hd.upd
   have hil:i<l.length:=by omega
   have him:i<m.length:=by omega
   refine ⟨fun v=>v=w₂,rfl,idx_byteS (l:=l) (fun v hv=>hv ▸ RowAt.ext ha e2) ⟨_,rfl⟩ (by omega) (by omega) (idx_byteS (l:=m) (fun v hv=>hv ▸ RowAt.ext hb e2) ⟨_,rfl⟩ (by omega) (by omega) ?_)⟩
   simp only [Int.toNat_natCast]
   have e1:l.getD i 0=l[i]:=by simp [List.getD,hil]
   have e3:m.getD i 0=m[i]:=by simp [List.getD,him]
   rw [e1,e3]
   refine br_ne (fun hne=>⟨?_,e2⟩) fun heq=>?_
   ·have:l≠m:=fun e=>by subst e;exact hne rfl
    rw [beq_eq_false_iff_ne.2 this]
   ·have e:IntKind.i64.wrap ((i:Int)+1)=((i+1:Nat):Int):=w64 (by omega) (by omega)
    rw [e]
    refine ⟨⟨i+1,rfl,hil,?_,e2⟩,by omega⟩
    rw [List.take_succ_eq_append_getElem hil,List.take_succ_eq_append_getElem him,ht]
    have:l[i]=m[i]:=UInt8.toNat_inj.1 (by omega)
    rw [this]
  ·have:i=l.length:=by omega
   subst this
   refine ⟨?_,he⟩
   rw [List.take_length,hlm,List.take_length] at ht
   rw [ht];simp
theorem carrackref00_Same_spec {w:World} {a b:Option Addr} {l m:List UInt8} {c d:Nat} (ha:BytesAt w a l) (hb:BytesAt w b m) (hn:l.length≤1000000000000) :
  CallsR prog K.carrackref00_Same #[.slice a l.length c,.slice b m.length d] w fun v w'=>v= .bool (l == m)∧Ext w w':=carrackref00_Same_big ha hb (Nat.le_trans hn (by decide))
structure RReaderIn (G:Nat→Prop) (w:World) (r:Nat) (l:List UInt8) (no:Bool):Prop where
 at_:∃ a c,w.heap[r]?=some (.cells #[.slice a l.length c,.bool no] T.carrackref01_Reader (0,0))∧BytesAt w a l∧l.length≤c∧∀ p,a=some p→G p.block
def zb (b:UInt8) (j:Nat):Nat:=((List.range j).filter fun k=>b.toNat / 2 ^ k % 2 == 0).length
theorem zb_succ (b:UInt8) (j:Nat):zb b (j+1)=zb b j+if b.toNat / 2 ^ j % 2=0 then 1 else 0:=by
 unfold zb
 rw [List.range_succ,List.filter_append,List.length_append]
 congr 1
 by_cases h:b.toNat / 2 ^ j % 2=0<;>simp [h]
theorem carrackref02_Noughts_spec {a:Option Addr} {l:List UInt8} {c:Nat} {w:World} (h:BytesAt w a l) (hn:l.length≤100000) :
  CallsR prog K.carrackref02_Noughts #[.slice a l.length c] w fun v w'=>v= .int .i64 (noughts l:Nat)∧w'=w:=by
 apply carrackref02_Noughts.sh
 refine ⟨fun x y u=>∃ i:Nat,y=i∧i≤l.length∧x=(noughts (l.take i):Nat)∧u=w,fun _ y _=>((l.length:Int) - y).toNat,⟨0,rfl,by omega,by simp [noughts],rfl⟩,?_⟩
 rintro x y u ⟨i,rfl,hi,rfl,rfl⟩
 refine br_dec (fun hlt=>?_) fun hge=>?_
 ·have hil:i<l.length:=by omega
  refine ⟨fun x k u'=>∃ j:Nat,k=(2 ^ j:Nat)∧j≤8∧x=(noughts (l.take i)+zb (l.getD i 0) j:Nat)∧u'=u,fun _ k _=>(256 - k).toNat,⟨0,rfl,by omega,by simp [zb],rfl⟩,?_⟩
  rintro x k u' ⟨j,rfl,hj,rfl,rfl⟩
  have hpow:j<8→2 ^ j≤128:=fun h=>by
   have:=Nat.pow_le_pow_right (n:=2) (by omega) (show j≤7 by omega)
   exact this
  have hpos:0<2 ^ j:=Nat.two_pow_pos j
  have h1:=noughts_le (l.take i)
  have h2:(l.take i).length≤i:=by simp;omega
  refine br_dec (fun hle=>?_) fun hgt=>?_
  ·have hj8:j<8:=by
    rcases Nat.lt_or_ge j 8 with h | h
    ·exact h
    ·have:j=8:=by omega
     subst this
     have:(2:Nat) ^ 8=256:=by decide
     omega
   refine idx_byte h (by omega) (by omega) ?_
   refine ⟨by omega,by omega,?_⟩
   simp only [Int.toNat_natCast]
   have hbx:=(l.getD i 0).toNat_lt
   have hd:=Nat.div_le_self (l.getD i 0).toNat (2 ^ j)
   have q1:IntKind.i64.wrap ((l.getD i 0).toNat:Int)=((l.getD i 0).toNat:Int):=w64 (by omega) (by omega)
   have q2:IntKind.i64.wrap (Int.tdiv ((l.getD i 0).toNat:Int) ((2 ^ j:Nat):Int))=(((l.getD i 0).toNat / 2 ^ j:Nat):Int):=by rw [tdiv_nat];exact w64n (Nat.lt_of_le_of_lt hd (by omega))
   have q3:Int.tmod (((l.getD i 0).toNat / 2 ^ j:Nat):Int) 2=(((l.getD i 0).toNat / 2 ^ j % 2:Nat):Int):=tmod_nat _ 2
   have q4:IntKind.i64.wrap ((2:Int) * ((2 ^ j:Nat):Int))=((2 ^ (j+1):Nat):Int):=by
    have:=hpow hj8
    rw [Nat.pow_succ,w64 (by omega) (by omega)];omega
   have hz:zb (l.getD i 0) j≤j:=by unfold zb;exact Nat.le_trans (List.length_filter_le _ _) (by simp)
   have q5:IntKind.i64.wrap (((noughts (l.take i)+zb (l.getD i 0) j:Nat):Int)+1)=((noughts (l.take i)+(zb (l.getD i 0) j+1):Nat):Int):=by rw [w64 (by omega) (by omega)];omega
   have hlt256:2 ^ j<2 ^ (j+1):=by rw [Nat.pow_succ];omega
   have hle128:=hpow hj8
   rw [q1,q2,q3,q4,q5]
   have hs:=zb_succ (l.getD i 0) j
   refine br_eq (fun h0=>?_) fun h0=>?_
   ·rw [if_pos (by omega)] at hs
    exact ⟨⟨j+1,rfl,hj8,by rw [hs],by trivial⟩,by omega⟩
   ·rw [if_neg (by omega)] at hs
    exact ⟨⟨j+1,rfl,hj8,by rw [hs];rfl,by trivial⟩,by omega⟩
  ·have hj8:j=8:=by
    rcases Nat.lt_or_ge j 8 with h | h
    ·have:=hpow h;omega
    ·omega
   subst hj8
   have e:IntKind.i64.wrap ((i:Int)+1)=((i+1:Nat):Int):=w64 (by omega) (by omega)
   rw [e]
   refine ⟨⟨i+1,rfl,hil,?_,by trivial⟩,by simp only [];omega⟩
   rw [noughts_take_succ l i hil]
   rfl
 ·have:i=l.length:=by omega
  subst this
  rw [List.take_length]
  exact ⟨rfl,by trivial⟩
theorem leB_two (m:Nat):leB m 2=[UInt8.ofNat (m % 256),UInt8.ofNat (m / 256 % 256)]:=rfl
theorem append_bytes' {w:World} {a:Option Addr} {l:List UInt8} {n m cap:Nat} {ax:Option Addr} {xs:List UInt8} {cx:Nat} (hn:n=l.length) (hm:m=xs.length) (h:OwnAt w a l.length cap T.uint8 1 (l.map bv)) (hx:BytesAt w ax xs)
  (hb:l.length+xs.length≤140737488355232) {K:Option Addr→Nat→Nat→World→Prop}
  (hk:∀ a' c' w',Upd (fun b=>a=some ⟨b,0,none⟩) w w'→OwnAt w' a' (l ++ xs).length c' T.uint8 1 ((l ++ xs).map bv)→(a'=a∨∃ b,a'=some ⟨b,0,none⟩∧w.heap.size≤b)→K a' (l ++ xs).length c' w') :
  appendP T.uint8 1 1 [Value.int .u8 0] a n cap (.slice ax m cx) w K:=by
 subst hn;subst hm
 exact append_bytes h hx hb hk
theorem carrackref02_Put_own (size k:Int) (kind:UInt8) (hk:k=(kind.toNat:Int)) {a:Option Addr} {body:List UInt8} {c:Nat} {w:World} (h:BytesAt w a body) (hn:body.length≤281474976710656) (hsz:size<9223372036854775808) (hsz0: -9223372036854775808≤size) :
  CallsR prog K.carrackref02_Put #[.int .i64 size,.int .u8 k,.slice a body.length c] w fun v w'=>Ext w w'∧
   if isSize size=false∨kind<1∨kind > 7 then v= .tuple #[.slice none 0 0,.int .i64 2]
   else if (body.length:Int) > size - 5 then v= .tuple #[.slice none 0 0,.int .i64 3]
   else ∃ a c,v= .tuple #[.slice a size.toNat c,.int .i64 0]∧OwnAt w' a size.toNat c T.uint8 1 ((pageOf size.toNat kind body).map bv)∧Fresh w a∧size.toNat≤c:=by
 subst hk
 have hklt:=kind.toNat_lt
 apply carrackref02_Put.sh
 have e1:kind<1 ↔ (kind.toNat:Int)<1:=by rw [UInt8.lt_iff_toNat_lt];show kind.toNat<1 ↔ _;omega
 have e7:kind > 7 ↔ (kind.toNat:Int) > 7:=by show (7:UInt8)<kind ↔ _;rw [UInt8.lt_iff_toNat_lt];show 7<kind.toNat ↔ _;omega
 refine ⟨fun u=>u=w∧isSize size=true∧¬ kind<1∧¬ kind > 7,?_,?_⟩
 ·refine (carrackref02_Size_spec _ w).mono ?_
  rintro _ _ ⟨rfl,rfl⟩
  refine ⟨_,rfl,?_⟩
  cases hs:isSize size with
  | false=>simp only [Bool.not_false,br_true,true_or,if_true];exact ⟨Upd.refl _ _,trivial⟩
  | true =>
   simp only [Bool.not_true,br_false]
   refine br_dec (fun h1=>⟨Upd.refl _ _,?_⟩) fun h1=>br_dec (fun h7=>⟨Upd.refl _ _,?_⟩) fun h7=>⟨by trivial,by trivial,fun h=>h1 (e1.1 h),fun h=>h7 (e7.1 h)⟩
   ·rw [if_pos (.inr (.inl (e1.2 h1)))];trivial
   ·rw [if_pos (.inr (.inr (e7.2 h7)))];trivial
 ·rintro w' ⟨rfl,hs,hk1,hk7⟩
  have hs':=hs
  simp [isSize] at hs'
  have hcond:¬ (isSize size=false∨kind<1∨kind > 7):=by rw [hs];simp only [Bool.true_eq_false,false_or];exact fun h=>h.elim hk1 hk7
  simp only [if_neg hcond]
  rw [w64 (x:=size - 5) (by omega) (by omega)]
  refine br_dec (fun hl=>?_) fun hl=>?_
  ·simp only [if_pos hl];exact ⟨Upd.refl _ _,by trivial⟩
  simp only [if_neg hl]
  obtain ⟨m,hm⟩: ∃ m:Nat,size=(m+5:Nat):=⟨(size - 5).toNat,by omega⟩
  subst hm
  have hbl':body.length≤m:=by omega
  refine ⟨by omega,by omega,fun B w₃ hn3=>?_⟩
  have hB:B=w'.heap.size:=hn3.num
  have hs3:=hn3.size
  have t1:Int.tmod ((body.length:Nat):Int) 256=((body.length % 256:Nat):Int):=tmod_nat _ 256
  have t2:IntKind.i64.wrap (Int.tdiv ((body.length:Nat):Int) 256)=((body.length / 256:Nat):Int):=by
   have:=tdiv_nat body.length 256
   rw [show ((256:Nat):Int)=256 from rfl] at this
   rw [this];exact w64n (by omega)
  rw [t1,t2,bv_mod,bv_mod,Nat.mod_mod] at hn3
  have ho3:OwnAt w₃ (some ⟨B,0,none⟩) ([0,0,kind] ++ leB body.length 2).length 5 T.uint8 1 (([0,0,kind] ++ leB body.length 2).map bv):=by
   have:=OwnAt.new (n:=5) (size:=1) hn3 (by simp)
   exact this
  have hpre:([0,0,kind] ++ leB body.length 2).length=5:=by simp [leB_length]
  refine append_bytes' (cap:=5) hpre.symm rfl ho3 (h.ext hn3.upd) (by omega) fun a1 c1 w₄ hu4 ho4 hf4=>?_
  have hfr4:Fresh w' a1:=by
   rcases hf4 with rfl | ⟨b,rfl,hb⟩
   ·exact Fresh.some (by omega)
   ·exact Fresh.some (by omega)
  have he4:Ext w' w₄:=Upd.beyond hn3.upd hu4 (fun x hx=>by cases hx;omega)
  have hl4:([0,0,kind] ++ leB body.length 2 ++ body).length=5+body.length:=by rw [List.length_append,hpre]
  generalize hP:[0,0,kind] ++ leB body.length 2 ++ body=P at *
  refine ⟨fun a l c u=>∃ i:Nat,i≤m - body.length∧l=(P ++ List.replicate i 255).length∧OwnAt u a (P ++ List.replicate i 255).length c T.uint8 1 ((P ++ List.replicate i 255).map bv)∧Ext w' u∧Fresh w' a,fun _ l _ _=>m+5 - l,⟨0,by omega,by simp,by simpa using ho4,he4,hfr4⟩,?_⟩
  rintro a2 l2 c2 w₅ ⟨i,hi,rfl,ho5,he5,hf5⟩
  have hl5:(P ++ List.replicate i (255:UInt8)).length=5+body.length+i:=by simp [hl4]
  refine br_dec (fun hlt=>?_) fun hge=>?_
  ·intro B2 w₆ hn6
   refine append_byte (x:=255) ho5 hn6 (by omega) fun a3 c3 w₇ hu7 ho7 hf7=>?_
   have hr:P ++ List.replicate i (255:UInt8) ++ [255]=P ++ List.replicate (i+1) 255:=by
    rw [List.append_assoc,← List.replicate_append_replicate (n:=i) (m:=1)];rfl
   rw [hr] at ho7 ⊢
   refine ⟨⟨i+1,by omega,rfl,ho7,Upd.beyond he5 hu7 (fun x hx=>hf5 _ hx),?_⟩,by simp;simp at hlt hl5;omega⟩
   rcases hf7 with rfl | ⟨b,rfl,hb⟩
   ·exact hf5
   ·exact Fresh.some (by have:=he5.size;omega)
  ·have hi':i=m - body.length:=by omega
   subst hi'
   have hrest:P ++ List.replicate (m - body.length) (255:UInt8)=[0,0] ++ pageRest (m+5) kind body:=by
    rw [← hP,pageRest]
    simp only [List.append_assoc,List.cons_append,List.nil_append]
    rw [show m+5 - 5 - body.length=m - body.length by omega]
   rw [hrest] at ho5 ⊢
   have hPR:=pageRest_length (m+5) kind body (by omega)
   have hl0:([0,0] ++ pageRest (m+5) kind body:List UInt8).length=m+5:=by simp [hPR]
   have hcap:=ho5.2.1
   obtain ⟨b,rfl⟩: ∃ b,a2=some ⟨b,0,none⟩:=by
    obtain ⟨_,_,hx⟩:=ho5
    rcases hx with ⟨_,hx,_⟩| ⟨b,cur,hx,_⟩
    ·omega
    ·exact ⟨b,hx⟩
   refine slice_bytes_from (l:=[0,0] ++ pageRest (m+5) kind body) ho5.row (by omega) (by omega) hcap fun a' c' hb' _ _ _ _=>?_
   have hd2:([0,0] ++ pageRest (m+5) kind body:List UInt8).drop (Int.toNat 2)=pageRest (m+5) kind body:=rfl
   rw [hd2] at hb' ⊢
   refine (carrackref02_Noughts_spec hb' (by omega)).mono ?_
   rintro _ _ ⟨rfl,rfl⟩
   rename_i w₅
   generalize hN:noughts (pageRest (m+5) kind body)=N
   have hnl:=noughts_le (pageRest (m+5) kind body)
   refine ⟨_,rfl,by omega,by omega,?_⟩
   have t3:Int.tmod (N:Int) 256=((N % 256:Nat):Int):=tmod_nat _ 256
   have t4:IntKind.i64.wrap (Int.tdiv (N:Int) 256)=((N / 256:Nat):Int):=by
    have:=tdiv_nat N 256
    rw [show ((256:Nat):Int)=256 from rfl] at this
    rw [this];exact w64n (by omega)
   rw [t3,t4,bv_mod,bv_mod,Nat.mod_mod]
   refine ⟨by omega,by omega,?_⟩
   simp only [nilC_some',add_lit,tn0,tn1,Nat.zero_mul,Nat.one_mul,Nat.add_zero,Nat.zero_add]
   refine own_store ho5 (by simp) fun w₉ hu9 ho9=>?_
   refine ⟨by omega,by omega,?_⟩
   simp only [nilC_some',add_lit,tn0,tn1,Nat.zero_mul,Nat.one_mul,Nat.add_zero,Nat.zero_add]
   refine own_store ho9 (by simp) fun w₁₀ hu10 ho10=>?_
   have hbn:w'.heap.size≤b:=hf5 _ rfl
   refine ⟨Upd.beyond (Upd.beyond he5 hu9 (fun x hx=>by omega)) hu10 (fun x hx=>by omega),_,_,by rw [hl0];rfl,?_,hf5,by rw [← hl0];exact hcap⟩
   have:=ho10
   rw [hl0] at this
   have hfin:pageOf ((m+5:Nat):Int).toNat kind body=[UInt8.ofNat (N % 256),UInt8.ofNat (N / 256 % 256)] ++ pageRest (m+5) kind body:=by
    rw [Int.toNat_natCast,pageOf,hN,leB_two]
   rw [hfin]
   show OwnAt w₁₀ _ (m+5) _ T.uint8 1 (List.map bv _)
   simp only [List.map_append,List.map_cons,List.map_nil,List.cons_append,List.nil_append] at this ⊢
   exact this
end Go.Den
namespace Go.Den
structure Head where
 kind:UInt8
 era:Nat
 seq:Nat
 deriving DecidableEq
namespace Head
def Ok (h:Head):Prop:=h.era<4294967296∧h.seq<18446744073709551616
def may (h:Head):Bool:=decide (1≤h.kind.toNat) && decide (h.kind.toNat≤3) && decide (1≤h.era) && decide (1≤h.seq)
def body (h:Head):List UInt8:=h.kind :: (leB h.era 4 ++ leB h.seq 8)
def none:Head:=⟨0,0,0⟩
def vals (h:Head):List Value:=[bv h.kind,.int .u32 h.era,.int .u64 h.seq]
end Head
abbrev headV (h:Head):Value:=.agg #[bv h.kind,.int .u32 h.era,.int .u64 h.seq]
def putHead (size:Int) (h:Head):List UInt8×Nat :=
 if h.may=false∨isSize size=false then ([],2) else (pageOf size.toNat 1 h.body,0)
def getHead (b:List UInt8):Head×Nat :=
 if (getPage b).2.2≠0 then (Head.none,(getPage b).2.2)
 else if (getPage b).1≠1∨(getPage b).2.1.length≠13 then (Head.none,5)
 else if (Head.mk ((getPage b).2.1.getD 0 0) (fromLE (((getPage b).2.1.drop 1).take 4)) (fromLE (((getPage b).2.1.drop 5).take 8))).may then
  (⟨(getPage b).2.1.getD 0 0,fromLE (((getPage b).2.1.drop 1).take 4),fromLE (((getPage b).2.1.drop 5).take 8)⟩,0) else (Head.none,5)
theorem Head.body_length (h:Head):h.body.length=13:=by simp [Head.body,leB_length]
theorem fromLE_lt4 (l:List UInt8):fromLE (l.take 4)<4294967296:=by
 have h:=fromLE_lt (l.take 4)
 have h2:(l.take 4).length≤4:=by simp;omega
 have h3:=Nat.pow_le_pow_right (n:=256) (by omega) h2
 have e:(256:Nat) ^ 4=4294967296:=by decide
 omega
theorem fromLE_lt8 (l:List UInt8):fromLE (l.take 8)<18446744073709551616:=by
 have h:=fromLE_lt (l.take 8)
 have h2:(l.take 8).length≤8:=by simp;omega
 have h3:=Nat.pow_le_pow_right (n:=256) (by omega) h2
 have e:(256:Nat) ^ 8=18446744073709551616:=by decide
 omega
theorem fromLE_take1 (l:List UInt8):fromLE (l.take 1)=(l.getD 0 0).toNat:=by
 cases l<;>simp [fromLE]
theorem getHead_ok (b:List UInt8):(getHead b).1.Ok:=by
 unfold getHead
 split
 ·exact ⟨by show 0 < _;omega,by show 0 < _;omega⟩
 ·split
  ·exact ⟨by show 0 < _;omega,by show 0 < _;omega⟩
  ·split
   ·exact ⟨fromLE_lt4 _,fromLE_lt8 _⟩
   ·exact ⟨by show 0 < _;omega,by show 0 < _;omega⟩
def PutIs (w w':World) (v:Value) (r:List UInt8×Nat):Prop :=
 ∃ a c,v= .tuple #[.slice a r.1.length c,.int .i64 (r.2:Nat)]∧BytesAt w' a r.1∧Fresh w a∧r.1.length≤c
theorem putHead_size {size:Int} (h:isSize size=true):(13:Int)≤size - 5:=by simp [isSize] at h;omega
theorem seal_put_head {size:Int} {h:Head} (hm:h.may=true) {w w₀ w':World} {v:Value} (hf:w₀.heap.size≤w.heap.size)
  (hv:if isSize size=false∨(1:UInt8)<1∨(1:UInt8) > 7 then v= .tuple #[.slice none 0 0,.int .i64 2]
   else if (h.body.length:Int) > size - 5 then v= .tuple #[.slice none 0 0,.int .i64 3]
   else ∃ a c,v= .tuple #[.slice a size.toNat c,.int .i64 0]∧BytesAt w' a (pageOf size.toNat 1 h.body)∧Fresh w a∧size.toNat≤c) :
  PutIs w₀ w' v (putHead size h)∧∃ (a4:Option Addr) (l4 c4:Nat) (x10:Int),v=Value.tuple #[Value.slice a4 l4 c4,Value.int .i64 x10]:=by
 have hk:¬ ((1:UInt8)<1∨(1:UInt8) > 7):=by decide
 have hbl:=h.body_length
 unfold putHead
 cases hs:isSize size with
 | false =>
  rw [if_pos (.inl hs)] at hv
  rw [if_pos (.inr rfl),hv]
  exact ⟨⟨none,0,rfl,BytesAt.nil _ _,Fresh.none _,Nat.le_refl _⟩,_,_,_,_,rfl⟩
 | true =>
  have hsz:=putHead_size hs
  rw [if_neg (by rw [hs];simp only [Bool.true_eq_false,false_or];exact hk),if_neg (by omega)] at hv
  rw [if_neg (by rw [hm];simp)]
  obtain ⟨a,c,rfl,hb,hfr,hcp⟩:=hv
  have hl:(pageOf size.toNat 1 h.body).length=size.toNat:=pageOf_length _ _ _ (by omega)
  refine ⟨⟨a,c,?_,hb,Fresh.mono hfr hf,by rw [← hl] at hcp;exact hcp⟩,_,_,_,_,rfl⟩
  simp only [hl]
  rfl
theorem pool_PutHead_spec (size:Int) (h:Head) (ho:h.Ok) (w:World) :
  CallsR prog K.pool_PutHead #[.int .i64 size,headV h] w fun v w'=>Ext w w'∧PutIs w w' v (putHead size h):=by
 apply pool_PutHead.sh
 intro B w₁ hn
 have hc:=hn.get
 simp only [add_lit]
 have hno:h.may=false→∀ u,Ext w u→Ext w u∧PutIs w u (Value.tuple #[Value.slice none 0 0,Value.int .i64 2]) (putHead size h):=by
  intro hm u hu
  refine ⟨hu,?_⟩
  unfold putHead
  rw [if_pos (.inl hm)]
  exact ⟨none,0,rfl,BytesAt.nil _ _,Fresh.none _,Nat.le_refl _⟩
 refine ⟨fun u=>u=w₁∧h.may=true,?_,?_⟩
 ·refine ⟨_,cell_of hc rfl,br_dec (fun h1=>hno ?_ _ hn.upd) fun h1=>⟨_,cell_of hc rfl,br_dec (fun h2=>hno ?_ _ hn.upd) fun h2=>⟨_,cell_of hc rfl,br_dec (fun h3=>hno ?_ _ hn.upd) fun h3=>⟨_,cell_of hc rfl,br_dec (fun h4=>hno ?_ _ hn.upd) fun h4=>⟨by trivial,?_⟩⟩⟩⟩⟩
  ·have a3:decide (1≤h.kind.toNat)=false:=decide_eq_false (by omega)
   simp [Head.may,a3]
  ·have a3:decide (h.kind.toNat≤3)=false:=decide_eq_false (by omega)
   simp [Head.may,a3]
  ·have a3:decide (1≤h.era)=false:=decide_eq_false (by omega)
   simp [Head.may,a3]
  ·have a3:decide (1≤h.seq)=false:=decide_eq_false (by omega)
   simp [Head.may,a3]
  ·simp [Head.may]
   omega
 rintro w₂ ⟨rfl,hm⟩
 refine ⟨_,cell_of hc rfl,?_⟩
 have q:IntKind.u64.wrap (h.era:Int)=(h.era:Int):=wu64n (by have:=ho.1;omega)
 rw [q]
 refine (ends_Put_spec h.era 4 w₂ (by rfl) (by
     have:(256:Nat) ^ 4=4294967296:=by decide
     have:=ho.1;omega)).mono ?_
 rintro _ w₃ ⟨a1,c1,rfl,hb1,hf1,he3⟩
 refine ⟨_,_,_,_,rfl,_,cell_of (Ext.get he3 hc) rfl,?_⟩
 refine (ends_Put_spec h.seq 8 w₃ (by rfl) (by
     have:(256:Nat) ^ 8=18446744073709551616:=by decide
     have:=ho.2;omega)).mono ?_
 rintro _ w₄ ⟨a2,c2,rfl,hb2,hf2,he4⟩
 refine ⟨_,_,_,_,rfl,_,cell_of (Ext.get he4 (Ext.get he3 hc)) rfl,fun B2 w₅ hn5 B3 w₆ hn6=>?_⟩
 have e4:=(hn.upd.trans he3).trans he4
 have e6:=(e4.trans hn5.upd).trans hn6.upd
 have hs:SlicesAt w₆ (some ⟨B3,0,none⟩) [[h.kind],leB h.era 4,leB h.seq 8]:=by
  refine ⟨_,RowAt.of hn6.get (vs:=[Value.slice (some ⟨B2,0,none⟩) 1 1,Value.slice a1 4 c1,Value.slice a2 8 c2]) (fun j v hj=>by simpa using hj),rfl,fun i hi=>?_⟩
  match i,hi with
  | 0,_=>exact ⟨_,_,rfl,RowAt.ext (RowAt.of hn5.get fun j v hj=>by simpa using hj) hn6.upd⟩
  | 1,_=>exact ⟨a1,c1,by simp [leB_length],RowAt.ext (RowAt.ext (RowAt.ext hb1 he4) hn5.upd) hn6.upd⟩
  | 2,_=>exact ⟨a2,c2,by simp [leB_length],RowAt.ext (RowAt.ext hb2 hn5.upd) hn6.upd⟩
 have hfl:([[h.kind],leB h.era 4,leB h.seq 8]:List (List UInt8)).flatten=h.body:=by simp [Head.body]
 have hcat:=slices_Concat_spec (cp:=3) hs (by simp) (by rw [hfl,h.body_length];omega)
 rw [hfl] at hcat
 refine hcat.mono ?_
 rintro _ w₇ ⟨he7,a3,c3,rfl,ho3,hf3⟩
 refine ⟨_,_,_,rfl,?_⟩
 refine (seal_Put_spec size 1 1 rfl ho3.row (by rw [h.body_length];omega)).mono ?_
 rintro v w₈ ⟨he8,hv⟩
 obtain ⟨hput,a,l,c,x,rfl⟩:=seal_put_head hm (e6.trans he7).size hv
 exact ⟨_,_,_,_,rfl,(e6.trans he7).trans he8,hput⟩
end Go.Den
namespace Go.Den
theorem take_any (r k:Nat) (l:List UInt8) (no:Bool) (w:World) (hk:isSz k=true) (h:ReaderAt w r l no) :
  CallsR prog K.ends_Reader_Take #[.pointer (some ⟨r,0,none⟩),.int .i64 k] w fun v w'=>Upd (·=r) w w'∧∃ (x e:Nat) (l':List UInt8) (no':Bool),v= .tuple #[.int .u64 x,.int .i64 e]∧ReaderAt w' r l' no'∧x<256 ^ k∧
   (no=false→k≤l.length→x=fromLE (l.take k)∧l'=l.drop k∧no'=false):=by
 refine (ends_Reader_Take_spec r k l no w hk h).mono ?_
 rintro v w' ⟨hu,hv⟩
 refine ⟨hu,?_⟩
 split at hv
 ·rename_i hc
  refine ⟨0,4,l,true,hv.1,hv.2,Nat.pow_pos (by omega),fun h1 h2=>?_⟩
  rcases hc with hc | hc
  ·rw [h1] at hc;cases hc
  ·omega
 ·rename_i hc
  have hkl:k≤l.length:=by
   rcases Nat.lt_or_ge l.length k with h' | h'
   ·exact absurd (.inr h') hc
   ·exact h'
  refine ⟨fromLE (l.take k),0,l.drop k,false,hv.1,hv.2,?_,fun h1 h2=>⟨rfl,rfl,rfl⟩⟩
  have:=fromLE_lt (l.take k)
  simpa [Nat.min_eq_left hkl] using this
theorem wrap8 {x:Nat} (h:x<256):Value.int .u8 (IntKind.u8.wrap (x:Int))=bv (UInt8.ofNat x):=by
 rw [bv_mod,Nat.mod_eq_of_lt h]
theorem wrap32 {x:Nat} (h:x<4294967296):IntKind.u32.wrap (x:Int)=(x:Int):=wu32 (by omega) (by omega)
theorem head_put {w:World} {B:Nat} {cs:Array Value} {h:Head} {K:World→Prop} (hc:w.heap[B]?=some (.cells cs T.api_Head (0,0))) (hs:cs.size=3) (hk:∀ w',Put w B (.cells h.vals.toArray T.api_Head (0,0)) w'→K w') :
  storeP w ⟨B,0,none⟩ [bv h.kind,.int .u32 h.era,.int .u64 h.seq] K:=by
 refine store_of hc (by simp [hs]) fun w' hput=>?_
 rw [splice_all _ _ (by simp [hs])] at hput
 exact hk w' hput
theorem head_cells {w:World} {B:Nat} {h:Head} (hc:w.heap[B]?=some (.cells h.vals.toArray T.api_Head (0,0))):cellsAt w ⟨B,0,none⟩ [bv h.kind,.int .u32 h.era,.int .u64 h.seq] 0 :=
 cellsAt_of (o:=0) hc (fun j v hj=>by simpa [Head.vals] using hj)
theorem head_zero:(#[Value.int .u8 0,Value.int .u32 0,Value.int .u64 0]:Array Value)=Head.none.vals.toArray:=rfl
theorem pool_GetHead_spec {a:Option Addr} {b:List UInt8} {c:Nat} {w:World} (h:BytesAt w a b) (hc:b.length≤c) :
  CallsR prog K.pool_GetHead #[.slice a b.length c] w fun v w'=>Ext w w'∧v= .tuple #[headV (getHead b).1,.int .i64 ((getHead b).2:Nat)]:=by
 apply pool_GetHead.sh
 intro B w₁ hn
 have hB:B=w.heap.size:=hn.num
 rw [head_zero] at hn
 have hcB:=hn.get
 refine (seal_Get_spec (h.ext hn.upd) hc).mono ?_
 rintro _ w₂ ⟨he2,a1,c1,rfl,hb2,hc2⟩
 have e2:Ext w w₂:=hn.upd.trans he2
 have hcB2:=Ext.get he2 hcB
 have fin:∀ {u u':World} {h':Head},Ext w u→Put u B (.cells h'.vals.toArray T.api_Head (0,0)) u'→Ext w u':=fun hu hp=>Put.upd hu hp (.inl (by omega))
 refine ⟨_,_,_,_,_,rfl,br_ne (fun hne=>?_) fun heq=>?_⟩
 ·refine head_put (h:=Head.none) hcB2 rfl fun w₃ hput=>⟨_,_,_,head_cells hput.get,fin e2 hput,?_⟩
  unfold getHead
  rw [if_pos (by omega)]
 have he0:(getPage b).2.2=0:=by omega
 have hgb:isSize b.length=true:=by
  cases hs:isSize b.length with
  | true=>rfl
  | false =>
   have:(getPage b).2.2=2:=by unfold getPage;rw [if_pos hs]
   omega
 have hbb:=hgb
 simp [isSize] at hbb
 have hbl:(getPage b).2.1.length≤1000:=by
  unfold getPage
  split
  ·simp
  ·split
   ·simp
   ·split
    ·simp
    ·split
     ·simp
     ·simp;omega
 generalize hG:getPage b=G at *
 obtain ⟨kd,body,er⟩:=G
 simp only [] at *
 refine (ends_New_spec a1 body c1 w₂ hb2 (by omega)).mono ?_
 rintro _ w₄ ⟨r,rfl,hr,hra,he4⟩
 refine ⟨_,rfl,?_⟩
 refine (take_any r 1 body false w₄ rfl hra).mono ?_
 rintro _ w₅ ⟨hu5,x6,x7,l5,no5,rfl,hr5,hx6,hg5⟩
 refine ⟨_,_,rfl,?_⟩
 refine (take_any r 4 l5 no5 w₅ rfl hr5).mono ?_
 rintro _ w₆ ⟨hu6,x8,x9,l6,no6,rfl,hr6,hx8,hg6⟩
 refine ⟨_,_,rfl,?_⟩
 refine (take_any r 8 l6 no6 w₆ rfl hr6).mono ?_
 rintro _ w₇ ⟨hu7,x10,x11,l7,no7,rfl,hr7,hx10,hg7⟩
 refine ⟨_,_,rfl,fun B2 w₈ hn8=>?_⟩
 have e4:Ext w w₄:=e2.trans he4
 have hs2:=e2.size
 have hu57:Upd (·=r) w₄ w₇:=(hu5.trans hu6).trans hu7
 have e7:Ext w w₇:=Upd.beyond e4 hu57 (fun x hx=>by omega)
 have hs0:=hn.size
 have hs1:=he2.size
 have hcB7:w₇.heap[B]?=_:=hu57.get (Ext.get he4 hcB2) (by omega)
 rw [show (256:Nat) ^ 1=256 by decide] at hx6
 rw [show (256:Nat) ^ 4=4294967296 by decide] at hx8
 rw [show (256:Nat) ^ 8=18446744073709551616 by decide] at hx10
 rw [wrap8 hx6,wrap32 hx8]
 rw [head_zero] at hn8
 have hHok:(Head.mk (UInt8.ofNat x6) x8 x10).Ok:=⟨hx8,hx10⟩
 generalize hH:Head.mk (UInt8.ofNat x6) x8 x10=H at hHok
 have hH1:bv (UInt8.ofNat x6)=bv H.kind:=by rw [← hH]
 have hH2:(x8:Int)=H.era:=by rw [← hH]
 have hH3:(x10:Int)=H.seq:=by rw [← hH]
 rw [hH1,hH2,hH3]
 refine head_put (h:=H) hn8.get rfl fun w₉ hput9=>⟨_,_,_,head_cells hput9.get,?_⟩
 have hB2:B2=w₇.heap.size:=hn8.num
 have hs7:=e7.size
 have e9:Ext w w₉:=Put.upd (e7.trans hn8.upd) hput9 (.inl (by omega))
 have hsu57:=hu57.size
 have hs4:=he4.size
 have hcB9:w₉.heap[B]?=_:=hput9.upd1.get (Ext.get hn8.upd hcB7) (by omega)
 refine (pool_PutHead_spec b.length H hHok w₉).mono ?_
 rintro _ w₁₀ ⟨he10,a2,c2,rfl,_,_⟩
 have e10:=e9.trans he10
 have hcB10:=Ext.get he10 hcB9
 have hpe:(putHead b.length H).2=if H.may=false then 2 else 0:=by
  unfold putHead
  rw [hgb]
  cases H.may<;>simp
 have hcond:¬ er≠0:=by omega
 have hgen:kd=1→body.length=13→H=⟨body.getD 0 0,fromLE ((body.drop 1).take 4),fromLE ((body.drop 5).take 8)⟩:=by
  intro hkd hbl
  obtain ⟨g1,g2,g3⟩:=hg5 rfl (by omega)
  obtain ⟨g4,g5,g6⟩:=hg6 g3 (by rw [g2];simp;omega)
  obtain ⟨g7,g8,g9⟩:=hg7 g6 (by rw [g5,g2];simp;omega)
  rw [← hH,g1,g4,g7,g5,g2,fromLE_take1]
  simp [List.drop_drop]
 have hcondG:getHead b=if kd≠1∨body.length≠13 then (Head.none,5) else if H.may=true then (H,0) else (Head.none,5):=by
  unfold getHead
  rw [hG]
  simp only []
  rw [if_neg hcond]
  by_cases hk:kd≠1∨body.length≠13
  ·rw [if_pos hk,if_pos hk]
  ·rw [if_neg hk,if_neg hk]
   have hk':kd=1∧body.length=13:=⟨Classical.byContradiction fun h=>hk (.inl h),Classical.byContradiction fun h=>hk (.inr h)⟩
   rw [hgen hk'.1 hk'.2]
 refine ⟨_,_,_,_,rfl,br_ne (fun hne=>?_) fun heq=>?_⟩
 ·refine head_put (h:=Head.none) hcB10 rfl fun w₃ hput=>⟨_,_,_,head_cells hput.get,fin e10 hput,?_⟩
  have hm:H.may=false:=by
   cases hm:H.may with
   | false=>rfl
   | true=>rw [hpe,hm] at hne;simp at hne
  rw [hcondG,hm]
  split<;>rfl
 have hm:H.may=true:=by
  cases hm:H.may with
  | true=>rfl
  | false=>rw [hpe,hm] at heq;simp at heq
 have hkd:kd=1 ↔ (kd.toNat:Int)=1:=by
  constructor
  ·rintro rfl;rfl
  ·intro h;exact UInt8.toNat_inj.1 (by show kd.toNat=1;omega)
 refine br_ne (fun hne=>?_) fun heq1=>?_
 ·refine head_put (h:=Head.none) hcB10 rfl fun w₃ hput=>⟨_,_,_,head_cells hput.get,fin e10 hput,?_⟩
  rw [hcondG,if_pos (.inl (fun h=>hne (hkd.1 h)))]
  rfl
 refine br_ne (fun hne=>?_) fun heq2=>?_
 ·refine head_put (h:=Head.none) hcB10 rfl fun w₃ hput=>⟨_,_,_,head_cells hput.get,fin e10 hput,?_⟩
  rw [hcondG,if_pos (.inr (by omega))]
  rfl
 have hc9:=Ext.get he10 hput9.get
 refine ⟨_,_,_,head_cells hc9,head_put hcB10 rfl fun w₁₁ hput=>⟨_,_,_,head_cells hput.get,fin e10 hput,?_⟩⟩
 have hk:¬ (kd≠1∨body.length≠13):=by
  rintro (h | h)
  ·exact h (hkd.2 heq1)
  ·omega
 rw [hcondG,if_neg hk,if_pos hm]
 rfl
section
theorem meas {n i:Nat} (h:i<n):((n:Int) - ((i+1:Nat):Int)).toNat<((n:Int) - (i:Int)).toNat:=by omega
variable {α:Type} {f:α→List Value} {k:Nat}
theorem flat_len (hf:∀ x,(f x).length=k) (l:List α):(l.flatMap f).length=l.length * k:=by
 induction l with
 | nil=>simp
 | cons x l ih=>simp [hf,ih,Nat.succ_mul,Nat.add_comm]
theorem flat_drop (hf:∀ x,(f x).length=k) (l:List α) (i:Nat):(l.flatMap f).drop (i * k)=(l.drop i).flatMap f:=by
 induction i generalizing l with
 | zero=>simp
 | succ i ih =>
  cases l with
  | nil=>simp
  | cons x l =>
   rw [List.flatMap_cons,List.drop_succ_cons,← ih,Nat.succ_mul,Nat.add_comm,← List.drop_drop]
   congr 1
   rw [← hf x];simp
theorem flat_take (hf:∀ x,(f x).length=k) (l:List α) (i:Nat):(l.flatMap f).take (i * k)=(l.take i).flatMap f:=by
 induction i generalizing l with
 | zero=>simp
 | succ i ih =>
  cases l with
  | nil=>simp
  | cons x l =>
   rw [List.flatMap_cons,List.take_succ_cons,List.flatMap_cons,← ih,Nat.succ_mul,Nat.add_comm,List.take_append,hf x]
   rw [List.take_of_length_le (by rw [hf];omega)]
   congr 2
   omega
theorem flat_set (hf:∀ x,(f x).length=k) (l:List α) {i:Nat} (hi:i<l.length) (x:α):(l.flatMap f).take (i * k) ++ f x ++ (l.flatMap f).drop (i * k+k)=(l.set i x).flatMap f:=by
 have e:i * k+k=(i+1) * k:=by rw [Nat.succ_mul]
 rw [e,flat_drop hf,flat_take hf,List.set_eq_take_append_cons_drop,if_pos hi]
 simp
theorem flat_get (hf:∀ x,(f x).length=k) (l:List α) {i:Nat} (hi:i<l.length):((l.flatMap f).drop (i * k)).take k=f l[i]:=by
 rw [flat_drop hf,List.drop_eq_getElem_cons hi,List.flatMap_cons,← hf l[i]]
 simp
theorem idx_flat (hf:∀ x,(f x).length=k) (hk:1≤k) {w:World} {a:Option Addr} {l:List α} {n i:Nat} (hr:RowAt w a (l.flatMap f)) (hn:n=l.length) (hi:i<l.length) {K:Addr→Prop}
  (h:∀ b o,a=some ⟨b,o,none⟩→RowAt w (some ⟨b,o+i * k,none⟩) (f l[i])→K ⟨b,o+i * k,none⟩):idxP a n (i:Int) k K:=by
 subst hn
 refine ⟨by omega,by omega,?_⟩
 have hne:l.flatMap f≠[]:=List.ne_nil_of_length_pos (by rw [flat_len hf];exact Nat.mul_pos (by omega) (by omega))
 obtain ⟨b,o,rfl,_⟩:=RowAt.blk hr hne
 simp only [nilC_some',add_lit,Int.toNat_natCast]
 refine h b o rfl ?_
 rw [← flat_get hf l hi]
 exact RowAt.take (RowAt.drop hr (i * k)) k
theorem append_flat (hf:∀ x,(f x).length=k) {w₀ w₁:World} {a:Option Addr} {l:List α} {cap n bytes:Nat} {e:TypeId} {z:List Value} (h:OwnAt w₁ a l.length cap e k (l.flatMap f)) {B:Nat} {x:α} {cs:Array Value} (hcs:cs.toList=f x) (hn:New w₀ (.cells cs e) B w₁) (hnl:n=l.length)
  (h1:∀ v∈f x,v.oneCell'=true) (hz:z.length=k) (hb:l.length≤1000000000) (hby:bytes≤10000) {K:Option Addr→Nat→Nat→World→Prop}
  (hk:∀ a' c' w',Upd (fun b=>a=some ⟨b,0,none⟩) w₁ w'→OwnAt w' a' (l ++ [x]).length c' e k ((l ++ [x]).flatMap f)→(a'=a∨∃ b,a'=some ⟨b,0,none⟩∧w₁.heap.size≤b)→K a' (l ++ [x]).length c' w') :
  appendP e k bytes z a n cap (.slice (some ⟨B,0,none⟩) 1 1) w₁ K:=by
 subst hnl
 have hrow:RowAt w₁ (some ⟨B,0,none⟩) (f x):=RowAt.of hn.get fun j v hj=>by rw [← hcs] at hj;simpa using hj
 refine append_own h rfl (read_row hrow (by rw [hf];omega)) (by rw [hf];omega) h1 hz ?_ (by omega) fun a' c' w' hu ho hf'=>?_
 ·have:(2 * (l.length+1)+192) * bytes≤(2 * (1000000000+1)+192) * 10000:=Nat.mul_le_mul (by omega) hby
  omega
 ·have:=hk a' c' w' hu (by simpa using ho) hf'
  simpa using this
end
end Go.Den
namespace Go.Den
structure Blk where
 what:Nat
 head:Head
namespace Blk
def vals (b:Blk):List Value:=[.int .i64 b.what,bv b.head.kind,.int .u32 b.head.era,.int .u64 b.head.seq]
def zero:Blk:=⟨0,Head.none⟩
end Blk
structure Pool where
 blocks:List Blk
 last:Nat
 turn:Nat
structure Taken where
 block:Nat
 head:Head
 bad:Bool
 deriving DecidableEq
namespace Taken
def vals (t:Taken):List Value:=[.int .i64 t.block,bv t.head.kind,.int .u32 t.head.era,.int .u64 t.head.seq,.bool t.bad]
end Taken
def lookAt (c:Chip) (i:Nat) (old:Blk):Blk :=
 if c.dead then old
 else if (getHead (c.page i 0)).2=0 then ⟨2,(getHead (c.page i 0)).1⟩
 else if isBlank (c.blk i) then ⟨0,Head.none⟩ else ⟨1,Head.none⟩
namespace Pool
def blk (P:Pool) (i:Nat):Blk:=P.blocks.getD i Blk.zero
def setBlk (P:Pool) (i:Nat) (b:Blk):Pool:={ P with blocks:=P.blocks.set i b }
def relook (P:Pool) (c:Chip) (i:Nat):Pool:=P.setBlk i (lookAt c i (P.blk i))
def raise (P:Pool):Pool:={ P with last:=(P.last+1) % 18446744073709551616 }
end Pool
def writeHead (P:Pool) (c:Chip) (i:Nat) (kind:UInt8) (era:Nat):Pool×Chip×Nat :=
 (P.raise.relook (c.program i 0 (putHead c.sz ⟨kind,era,P.raise.last⟩).1).1 i,(c.program i 0 (putHead c.sz ⟨kind,era,P.raise.last⟩).1).1,(c.program i 0 (putHead c.sz ⟨kind,era,P.raise.last⟩).1).2)
def tryBlk (P:Pool) (c:Chip) (i:Nat) (kind:UInt8) (era:Nat):Pool×Chip×Nat :=
 if (P.blk i).what=1 then
  if (c.erase i).2≠0 then (P.relook (c.erase i).1 i,(c.erase i).1,(c.erase i).2)
  else writeHead (P.relook (c.erase i).1 i) (c.erase i).1 i kind era
 else writeHead P c i kind era
structure TakeR where
 pool:Pool
 chip:Chip
 block:Nat
 err:Nat
def takeGo (kind:UInt8) (era:Nat) (P:Pool) (c:Chip):List Nat→TakeR
 | []=>⟨P,c,0,11⟩
 | k :: ks =>
  if c.isBad ((P.turn+k) % c.nb)=true∨(P.blk ((P.turn+k) % c.nb)).what=2 then takeGo kind era P c ks
  else
   if (tryBlk P c ((P.turn+k) % c.nb) kind era).2.2=0 then ⟨{ (tryBlk P c ((P.turn+k) % c.nb) kind era).1 with turn:=(P.turn+k) % c.nb+1 },(tryBlk P c ((P.turn+k) % c.nb) kind era).2.1,(P.turn+k) % c.nb,0⟩
   else if (tryBlk P c ((P.turn+k) % c.nb) kind era).2.2=10 then ⟨(tryBlk P c ((P.turn+k) % c.nb) kind era).1,(tryBlk P c ((P.turn+k) % c.nb) kind era).2.1,0,10⟩
   else takeGo kind era (tryBlk P c ((P.turn+k) % c.nb) kind era).1 (tryBlk P c ((P.turn+k) % c.nb) kind era).2.1 ks
def takePool (P:Pool) (c:Chip) (kind:UInt8) (era:Nat):TakeR :=
 if kind.toNat<1∨kind.toNat > 3∨era<1 then ⟨P,c,0,2⟩
 else if c.ask 0 0≠0 then ⟨P,c,0,c.ask 0 0⟩
 else takeGo kind era P c (List.range c.nb)
def freePool (P:Pool) (c:Chip) (i:Int):Pool×Chip×Nat :=
 if i<0∨i≥c.nb∨(P.blk i.toNat).what≠2∨c.isBad i.toNat=true then (P,c,12)
 else (P.relook (c.erase i).1 i.toNat,(c.erase i).1,if (c.erase i).2=9 then 0 else (c.erase i).2)
def sink {α:Type} (lt:α→α→Bool) (x:α):List α→List α
 | []=>[x]
 | y :: ys=>if lt x y then y :: sink lt x ys else x :: y :: ys
def takenLt (a b:Taken):Bool:=decide (a.head.seq<b.head.seq) || (decide (a.head.seq=b.head.seq) && decide (a.block<b.block))
def isort {α:Type} (lt:α→α→Bool) (l:List α):List α:=(l.foldl (fun acc x=>sink lt x acc) []).reverse
def takenRaw (P:Pool) (c:Chip) (n:Nat):List Taken:=(List.range n).filterMap fun i=>if (P.blk i).what=2 then some ⟨i,(P.blk i).head,c.isBad i⟩ else none
def takenPool (P:Pool) (c:Chip):List Taken:=isort takenLt (takenRaw P c c.nb)
def blanksPool (P:Pool) (c:Chip):Nat:=((List.range c.nb).filter fun i=>decide ((P.blk i).what≠2) && !c.isBad i).length
def scanGo (c:Chip):Nat→Pool
 | 0=>⟨List.replicate c.nb Blk.zero,0,0⟩
 | i+1 =>
  if (((scanGo c i).relook c i).blk i).head.seq > (scanGo c i).last∨((((scanGo c i).relook c i).blk i).head.seq=(scanGo c i).last∧(((scanGo c i).relook c i).blk i).head.seq > 0) then
   { (scanGo c i).relook c i with last:=(((scanGo c i).relook c i).blk i).head.seq,turn:=i+1 }
  else (scanGo c i).relook c i
def scanPool (c:Chip):Pool:=scanGo c c.nb
def Chip.SameGeo (c d:Chip):Prop:=d.nb=c.nb∧d.np=c.np∧d.sz=c.sz∧d.sp=c.sp
theorem Chip.SameGeo.refl (c:Chip):c.SameGeo c:=⟨rfl,rfl,rfl,rfl⟩
theorem Chip.SameGeo.trans {a b c:Chip} (h:a.SameGeo b) (k:b.SameGeo c):a.SameGeo c:=⟨k.1.trans h.1,k.2.1.trans h.2.1,k.2.2.1.trans h.2.2.1,k.2.2.2.trans h.2.2.2⟩
theorem Chip.strike_geo (c:Chip):c.SameGeo c.strike.1:=by
 unfold Chip.strike
 split
 ·exact ⟨rfl,rfl,rfl,rfl⟩
 ·split<;>exact ⟨rfl,rfl,rfl,rfl⟩
theorem Chip.finish_geo (c:Chip) (b:Nat) (h:Option Hit):c.SameGeo (c.finish b h).1:=by
 unfold Chip.finish
 split
 ·exact ⟨rfl,rfl,rfl,rfl⟩
 ·split<;>exact ⟨rfl,rfl,rfl,rfl⟩
theorem Chip.done_geo (c:Chip) (b off n:Nat) (new:List UInt8):c.SameGeo (c.done b off n new).1:=by
 unfold Chip.done
 refine (c.strike_geo).trans (Chip.SameGeo.trans ?_ (Chip.finish_geo _ _ _))
 exact ⟨rfl,rfl,rfl,rfl⟩
theorem Chip.program_geo (c:Chip) (b p:Int) (x:List UInt8):c.SameGeo (c.program b p x).1:=by
 unfold Chip.program
 split
 ·exact .refl _
 ·split
  ·exact .refl _
  ·split
   ·exact .refl _
   ·split
    ·exact .refl _
    ·exact c.done_geo _ _ _ _
theorem Chip.erase_geo (c:Chip) (b:Int):c.SameGeo (c.erase b).1:=by
 unfold Chip.erase
 split
 ·exact .refl _
 ·split
  ·exact .refl _
  ·exact c.done_geo _ _ _ _
end Go.Den
namespace Go.Den
theorem Blk.vals_length (b:Blk):b.vals.length=4:=rfl
theorem Taken.vals_length (b:Taken):b.vals.length=5:=rfl
structure PLoc where
 q:Nat
 pb:Nat
 cap:Nat
 p:Nat
abbrev poolCells (P:Pool) (c:Chip) (M:PLoc):Array Value:=#[.pointer (some ⟨M.p,0,none⟩),.slice (some ⟨M.pb,0,none⟩) c.nb M.cap,.int .u64 P.last,.int .i64 P.turn]
structure PC (w:World) (M:PLoc) (P:Pool) (c:Chip) (L:Loc) (G:Nat→Prop):Prop where
 chip:ChipRep w M.p c L G
 head:w.heap[M.q]?=some (.cells (poolCells P c M) T.pool_Pool (0,0))
 own:OwnAt w (some ⟨M.pb,0,none⟩) c.nb M.cap T.pool_block 4 (P.blocks.flatMap Blk.vals)
 turn:P.turn≤c.nb
 apart:∀ x,x=M.q∨x=M.pb→x ∉ M.p :: L.bb :: L.locs∧¬ G x
 ne:M.q≠M.pb
def PF (M:PLoc) (L:Loc):Nat→Prop:=fun x=>x=M.q∨x=M.pb∨x∈M.p :: L.bb :: L.locs
theorem PF.same {M:PLoc} {L L':Loc} (h:SameLoc L L'):PF M L'=PF M L:=by
 unfold PF
 rw [h.1,h.2.2.2.2]
theorem PC.len {w:World} {M:PLoc} {P:Pool} {c:Chip} {L:Loc} {G:Nat→Prop} (h:PC w M P c L G):P.blocks.length=c.nb:=by
 have:=h.own.1
 rw [flat_len Blk.vals_length] at this
 exact Nat.eq_of_mul_eq_mul_right (by omega) this
theorem PC.upd {F:Nat→Prop} {w w':World} {M:PLoc} {P:Pool} {c:Chip} {L:Loc} {G:Nat→Prop} (h:PC w M P c L G) (k:Upd F w w') (hf:∀ x,PF M L x→¬ F x) (hg:∀ x,G x→¬ F x):PC w' M P c L G :=
 ⟨h.chip.upd k (fun x hx=>hf x (.inr (.inr hx))) hg,k.get h.head (hf _ (.inl rfl)),OwnAt.upd h.own k (fun b hb=>by cases hb;exact hf _ (.inr (.inl rfl))),h.turn,h.apart,h.ne⟩
theorem PC.ext {w w':World} {M:PLoc} {P:Pool} {c:Chip} {L:Loc} {G:Nat→Prop} (h:PC w M P c L G) (k:Ext w w'):PC w' M P c L G:=h.upd k (fun _ _ hf=>hf) (fun _ _ hf=>hf)
theorem PC.rechip {w w':World} {M:PLoc} {P:Pool} {c c':Chip} {L L':Loc} {G G':Nat→Prop} (h:PC w M P c L G) (k:Upd (fun x=>x∈M.p :: L.bb :: L.locs) w w') (hc:ChipRep w' M.p c' L' G') (hs:SameLoc L L') (hg:c.SameGeo c')
  (hG:∀ x,x=M.q∨x=M.pb→¬ G' x):PC w' M P c' L' G':=by
 refine ⟨hc,?_,?_,by rw [hg.1];exact h.turn,fun x hx=>⟨?_,hG x hx⟩,h.ne⟩
 ·have:=k.get h.head (h.apart _ (.inl rfl)).1
  rw [this]
  simp only [poolCells,hg.1]
 ·rw [hg.1];exact OwnAt.upd h.own k (fun b hb=>by cases hb;exact (h.apart _ (.inr rfl)).1)
 ·rw [hs.1,hs.2.2.2.2];exact (h.apart x hx).1
theorem PC.rehead {w w':World} {M:PLoc} {P:Pool} {c:Chip} {L:Loc} {G:Nat→Prop} (h:PC w M P c L G) (k:Upd (·=M.q) w w') {last turn:Nat} (ht:turn≤c.nb)
  (hd:w'.heap[M.q]?=some (.cells (poolCells { P with last:=last,turn:=turn } c M) T.pool_Pool (0,0))):PC w' M { P with last:=last,turn:=turn } c L G:=by
 have ha:=h.apart _ (.inl rfl)
 exact ⟨h.chip.upd k (fun x hx e=>ha.1 (e ▸ hx)) (fun x hx e=>ha.2 (e ▸ hx)),hd,OwnAt.upd h.own k (fun b hb=>by cases hb;exact fun e=>h.ne e.symm),ht,h.apart,h.ne⟩
theorem PC.reblk {w w':World} {M:PLoc} {P:Pool} {c:Chip} {L:Loc} {G:Nat→Prop} (h:PC w M P c L G) (k:Upd (·=M.pb) w w') {i:Nat} {b:Blk}
  (ho:OwnAt w' (some ⟨M.pb,0,none⟩) c.nb M.cap T.pool_block 4 ((P.setBlk i b).blocks.flatMap Blk.vals)):PC w' M (P.setBlk i b) c L G:=by
 have ha:=h.apart _ (.inr rfl)
 exact ⟨h.chip.upd k (fun x hx e=>ha.1 (e ▸ hx)) (fun x hx e=>ha.2 (e ▸ hx)),k.get h.head h.ne,ho,h.turn,h.apart,h.ne⟩
theorem PC.blk {w:World} {M:PLoc} {P:Pool} {c:Chip} {L:Loc} {G:Nat→Prop} (h:PC w M P c L G) {i:Nat} (hi:i<c.nb):∃ hl:i<P.blocks.length,P.blk i=P.blocks[i]:=by
 have hl:i<P.blocks.length:=by rw [h.len];exact hi
 exact ⟨hl,by simp [Pool.blk,List.getD,hl]⟩
theorem PC.idx {w:World} {M:PLoc} {P:Pool} {c:Chip} {L:Loc} {G:Nat→Prop} (h:PC w M P c L G) {i:Nat} (hi:i<c.nb) {K:Addr→Prop}
  (hk:RowAt w (some ⟨M.pb,i * 4,none⟩) (P.blk i).vals→K ⟨M.pb,i * 4,none⟩):idxP (some ⟨M.pb,0,none⟩) c.nb (i:Int) 4 K:=by
 obtain ⟨hl,e⟩:=h.blk hi
 refine idx_flat (f:=Blk.vals) Blk.vals_length (by omega) h.own.row h.len.symm hl fun b o ha hr=>?_
 cases ha
 rw [Nat.zero_add] at hr ⊢
 rw [← e] at hr
 exact hk hr
theorem PC.store {w:World} {M:PLoc} {P:Pool} {c:Chip} {L:Loc} {G:Nat→Prop} (h:PC w M P c L G) {i:Nat} (hi:i<c.nb) (b:Blk) {K:World→Prop}
  (hk:∀ w',Upd (·=M.pb) w w'→PC w' M (P.setBlk i b) c L G→K w'):storeP w ⟨M.pb,i * 4,none⟩ b.vals K:=by
 obtain ⟨hl,_⟩:=h.blk hi
 refine own_store h.own (by rw [flat_len Blk.vals_length,Blk.vals_length];omega) fun w' hu ho=>hk w' hu (h.reblk hu ?_)
 have:=flat_set Blk.vals_length P.blocks hl b
 rw [Blk.vals_length] at ho
 rw [this] at ho
 exact ho
theorem ask_ok {c:Chip} {i k:Nat} (hd:c.dead=false) (hi:i<c.nb) (hk:k<c.np):c.ask i k=0:=by
 unfold Chip.ask
 rw [if_neg (by rw [hd];simp),if_neg (by omega)]
theorem ask_dead {c:Chip} {i k:Int} (hd:c.dead=true):c.ask i k=10:=by unfold Chip.ask;rw [if_pos hd]
theorem ask00 {c:Chip} (h:c.Ok):c.ask 0 0=if c.dead then 10 else 0:=by
 cases hd:c.dead with
 | true=>rw [ask_dead hd];rfl
 | false =>
  have:=h.nb1
  have:=h.np1
  exact ask_ok (i:=0) (k:=0) hd (by omega) (by omega)
theorem pool_off_spec {w:World} {M:PLoc} {P:Pool} {c:Chip} {L:Loc} {G:Nat→Prop} (h:PC w M P c L G) :
  CallsR prog K.pool_Pool_off #[.pointer (some ⟨M.q,0,none⟩)] w fun v w'=>v= .bool false∧w'=w:=by
 apply pool_Pool_off.sh
 simp only [pool_Pool_off.body,Option.isNone_some,br_false,nilC_some',add_lit]
 exact ⟨_,_,_,cell_of h.head rfl,rfl,by trivial⟩
theorem pool_alive_spec {w:World} {M:PLoc} {P:Pool} {c:Chip} {L:Loc} {G:Nat→Prop} (h:PC w M P c L G) :
  CallsR prog K.pool_Pool_alive #[.pointer (some ⟨M.q,0,none⟩)] w fun v w'=>v= .int .i64 (c.ask 0 0:Nat)∧Ext w w':=by
 apply pool_Pool_alive.sh
 unfold pool_Pool_alive.body
 refine (pool_off_spec h).mono ?_
 rintro _ _ ⟨rfl,rfl⟩
 rename_i w
 refine ⟨_,rfl,?_⟩
 simp only [br_false,nilC_some',add_lit]
 refine ⟨_,cell_of h.head rfl,?_⟩
 refine (nand_Read_spec h.chip 0 0).mono ?_
 rintro v w₂ ⟨he,hv⟩
 split at hv
 ·rename_i h0
  obtain ⟨a,cp,rfl,_⟩:=hv
  exact ⟨_,_,_,_,rfl,by rw [h0];rfl,he⟩
 ·subst hv
  exact ⟨_,_,_,_,rfl,rfl,he⟩
theorem setBlk_self (P:Pool) (i:Nat) (hi:i<P.blocks.length):P.setBlk i (P.blk i)=P:=by
 have:P.blk i=P.blocks[i]:=by simp [Pool.blk,List.getD,hi]
 unfold Pool.setBlk
 rw [this,List.set_getElem_self]
theorem isBlank_append (l m:List UInt8):isBlank (l ++ m)=(isBlank l && isBlank m):=by simp [isBlank]
theorem page_take (c:Chip) (i k:Nat):(c.blk i).take ((k+1) * c.sz)=(c.blk i).take (k * c.sz) ++ c.page i k:=by
 rw [Nat.succ_mul,List.take_add];rfl
theorem page_len {c:Chip} (h:c.Ok) {i k:Nat} (hi:i<c.nb) (hk:k<c.np):(c.page i k).length=c.sz:=by
 have h1:=h.blk_len hi
 have h2:=page_in hk
 simp [Chip.page,h1]
 omega
theorem pool_look_spec {w:World} {M:PLoc} {P:Pool} {c:Chip} {L:Loc} {G:Nat→Prop} (h:PC w M P c L G) {i:Nat} (hi:i<c.nb) :
  CallsR prog K.pool_Pool_look #[.pointer (some ⟨M.q,0,none⟩),.int .i64 i] w fun v w'=>v= .tuple #[]∧Upd (·=M.pb) w w'∧PC w' M (P.relook c i) c L G:=by
 have hok:=h.chip.ok
 have hnp1:=hok.np1
 have hnp2:=hok.np2
 have hnb2:=hok.nb2
 have hsz1:=hok.sz1
 have hsz2:=hok.sz2
 have hblen:=hok.blk_len hi
 obtain ⟨hil,_⟩:=h.blk hi
 apply pool_Pool_look.sh
 intro B w₁ hn
 have hB:B=w.heap.size:=hn.num
 refine store_of hn.get (by simp) fun w₂ hput=>?_
 have e2:Ext w w₂:=Put.upd hn.upd hput (.inl (by omega))
 have hgB:=hput.get
 rw [splice_all _ _ (by simp)] at hgB
 have h2:=h.ext e2
 simp only [nilC_some',add_lit]
 refine ⟨_,cell_of h2.head rfl,?_⟩
 refine (nand_Geo_spec h2.chip).mono ?_
 rintro _ w₃ ⟨rfl,he3⟩
 have e3:=e2.trans he3
 have hgB3:=Ext.get he3 hgB
 refine ⟨_,_,_,_,rfl,?_⟩
 refine ⟨fun x u=>∃ k:Nat,x=k∧k≤c.np∧Ext w u∧u.heap[B]?=some (.cells #[.int .i64 (if isBlank ((c.blk i).take (k * c.sz)) then 0 else 1),.int .u8 0,.int .u32 0,.int .u64 0] T.pool_block (0,0))∧(0<k→c.dead=false∧(getHead (c.page i 0)).2≠0),
  fun x _=>(c.np - x).toNat,⟨0,rfl,by omega,e3,by simpa [isBlank] using hgB3,fun h=>by omega⟩,?_⟩
 rintro x u ⟨k,rfl,hk,heu,hgu,hpos⟩
 have hu:=h.ext heu
 have hsu:=heu.size
 refine br_dec (fun hlt=>?_) fun hge=>?_
 ·have hk':k<c.np:=by omega
  refine ⟨_,cell_of hu.head rfl,?_⟩
  refine (nand_Read_spec hu.chip i k).mono ?_
  rintro v w₅ ⟨he5,hv⟩
  have e5:=heu.trans he5
  rcases Bool.eq_false_or_eq_true c.dead with hd | hd
  ·rw [if_neg (by rw [ask_dead hd];omega),ask_dead hd] at hv
   subst hv
   refine ⟨_,_,_,_,rfl,?_⟩
   refine br_ne (fun _=>⟨by trivial,Upd.ext e5,?_⟩) fun h=>by omega
   have:P.relook c i=P:=by unfold Pool.relook lookAt;rw [if_pos hd];exact setBlk_self P i hil
   rw [this]
   exact h.ext e5
  rw [if_pos (ask_ok hd hi hk')] at hv
  obtain ⟨a,cp,rfl,hba,hcp,hfa⟩:=hv
  simp only [Int.toNat_natCast] at hba
  have hpl:=page_len hok hi hk'
  refine ⟨_,_,_,_,rfl,br_ne (fun h=>by omega) fun _=>?_⟩
  have hgh:=pool_GetHead_spec (c:=cp) hba (by omega)
  rw [hpl] at hgh
  refine hgh.mono ?_
  rintro _ w₆ ⟨he6,rfl⟩
  have e6:=e5.trans he6
  refine ⟨_,_,_,_,rfl,fun B2 w₇ hn7=>?_⟩
  have hB2:B2=w₆.heap.size:=hn7.num
  have hs6:=e6.size
  have hs56:=(he5.trans he6).size
  rw [head_zero] at hn7
  refine head_put (h:=(getHead (c.page i k)).1) hn7.get rfl fun w₈ hput8=>?_
  have e8:Ext w w₈:=Put.upd (e6.trans hn7.upd) hput8 (.inl (by omega))
  have hBs:B<u.heap.size:=(Array.getElem?_eq_some_iff.1 hgu).1
  have hg8:w₈.heap[B]?=_:=hput8.upd1.get (Ext.get ((he5.trans he6).trans hn7.upd) hgu) (by omega)
  have hblank:∀ {X:Prop},(0<k∨(getHead (c.page i 0)).2≠0)→(∀ u',Ext w u'→u'.heap[B]?=some (.cells #[.int .i64 (if isBlank ((c.blk i).take ((k+1) * c.sz)) then 0 else 1),.int .u8 0,.int .u32 0,.int .u64 0] T.pool_block (0,0))→
    (∃ k':Nat,IntKind.i64.wrap ((k:Int)+1)=k'∧k'≤c.np∧Ext w u'∧u'.heap[B]?=some (.cells #[.int .i64 (if isBlank ((c.blk i).take (k' * c.sz)) then 0 else 1),.int .u8 0,.int .u32 0,.int .u64 0] T.pool_block (0,0))∧(0<k'→c.dead=false∧(getHead (c.page i 0)).2≠0))∧
     ((c.np:Int) - IntKind.i64.wrap ((k:Int)+1)).toNat<((c.np:Int) - (k:Int)).toNat):=by
   intro _ hno u' hu' hg'
   have e1:IntKind.i64.wrap ((k:Int)+1)=((k+1:Nat):Int):=w64 (by omega) (by omega)
   rw [e1]
   refine ⟨⟨k+1,rfl,hk',hu',hg',fun _=>⟨hd,?_⟩⟩,by omega⟩
   rcases hno with hno | hno
   ·exact (hpos hno).2
   ·exact hno
  have hstep:(0<k∨(getHead (c.page i 0)).2≠0)→CallsR prog K.seal_Blank #[Value.slice a c.sz cp] w₈ fun v4 w11 =>
    ∃ b1:Bool,v4=Value.bool b1∧
    br (!b1) (
     storeP w11 ⟨B,0,none⟩ [Value.int .i64 1] fun w12=>(∃ k':Nat,IntKind.i64.wrap ((k:Int)+1)=k'∧k'≤c.np∧Ext w w12∧w12.heap[B]?=some (.cells #[.int .i64 (if isBlank ((c.blk i).take (k' * c.sz)) then 0 else 1),.int .u8 0,.int .u32 0,.int .u64 0] T.pool_block (0,0))∧(0<k'→c.dead=false∧(getHead (c.page i 0)).2≠0))∧
      ((c.np:Int) - IntKind.i64.wrap ((k:Int)+1)).toNat<((c.np:Int) - (k:Int)).toNat)
     ((∃ k':Nat,IntKind.i64.wrap ((k:Int)+1)=k'∧k'≤c.np∧Ext w w11∧w11.heap[B]?=some (.cells #[.int .i64 (if isBlank ((c.blk i).take (k' * c.sz)) then 0 else 1),.int .u8 0,.int .u32 0,.int .u64 0] T.pool_block (0,0))∧(0<k'→c.dead=false∧(getHead (c.page i 0)).2≠0))∧
      ((c.np:Int) - IntKind.i64.wrap ((k:Int)+1)).toNat<((c.np:Int) - (k:Int)).toNat):=by
   intro hno
   have hba8:BytesAt w₈ a (c.page i k):=RowAt.upd (RowAt.ext (RowAt.ext hba he6) hn7.upd) hput8.upd1 (fun p hp e=>by
    obtain ⟨b',o',hab,hlt⟩:=RowAt.blk hba (List.ne_nil_of_length_pos (by simp [hpl];omega))
    rw [hp] at hab
    cases hab
    have:b'=B2:=e
    have:=he6.size
    omega)
   have hsb:=seal_Blank_spec (c:=cp) hba8 (by omega)
   rw [hpl] at hsb
   refine hsb.mono ?_
   rintro _ _ ⟨rfl,rfl⟩
   rename_i w₈
   refine ⟨_,rfl,?_⟩
   have hpt:=page_take c i k
   cases hbp:isBlank (c.page i k) with
   | false =>
    simp only [Bool.not_false,br_true]
    refine store_of hg8 (by simp) fun w₁₂ hput12=>?_
    refine hblank (X:=True) hno w₁₂ (Put.upd e8 hput12 (.inl (by omega))) ?_
    have:=hput12.get
    rw [this,hpt,isBlank_append,hbp,Bool.and_false]
    rfl
   | true =>
    simp only [Bool.not_true,br_false]
    refine hblank (X:=True) hno w₈ e8 ?_
    rw [hg8,hpt,isBlank_append,hbp,Bool.and_true]
  refine br_eq (fun hk0=>?_) fun hk0=>hstep (.inl (by omega))
  have hk0':k=0:=by omega
  subst hk0'
  refine br_eq (fun hz=>?_) fun hz=>hstep (.inr (by omega))
  intro w₉ hd9
  have e9:=e8.trans hd9.upd
  have h9:=h.ext e9
  refine ⟨fun u=>u=w₉,rfl,_,_,_,fun u hu=>hu ▸ cell_of h9.head rfl,_,_,_,fun u hu=>hu ▸ head_cells (Ext.get hd9.upd hput8.get),?_⟩
  refine h9.idx hi fun _=>?_
  refine h9.store hi ⟨2,(getHead (c.page i 0)).1⟩ fun w' hu' hp'=>⟨by trivial,(Upd.ext e9).trans hu',?_⟩
  have:P.relook c i=P.setBlk i ⟨2,(getHead (c.page i 0)).1⟩:=by
   unfold Pool.relook lookAt
   rw [if_neg (by rw [hd];simp),if_pos (by omega)]
  rw [this]
  exact hp'
 ·have hk':k=c.np:=by omega
  subst hk'
  obtain ⟨hd,hno⟩:=hpos (by omega)
  rw [List.take_of_length_le (by omega)] at hgu
  intro w₁₅ hd15
  have e15:=heu.trans hd15.upd
  have h15:=h.ext e15
  refine ⟨fun u=>u=w₁₅,rfl,_,_,_,fun u hu=>hu ▸ cell_of h15.head rfl,(if isBlank (c.blk i) then 0 else 1),0,0,0,fun u hu=>hu ▸ cellsAt_of (o:=0) (Ext.get hd15.upd hgu) (fun j v hj=>by simpa using hj),?_⟩
  refine h15.idx hi fun _=>?_
  have hv:(if isBlank (c.blk i)=true then (0:Int) else 1)=(((if isBlank (c.blk i)=true then 0 else 1):Nat):Int):=by split<;>rfl
  have hval:[Value.int .i64 (if isBlank (c.blk i)=true then (0:Int) else 1),Value.int .u8 0,Value.int .u32 0,Value.int .u64 0]=Blk.vals ⟨if isBlank (c.blk i)=true then 0 else 1,Head.none⟩:=by rw [hv];rfl
  rw [hval]
  refine h15.store hi _ fun w' hu' hp'=>⟨by trivial,(Upd.ext e15).trans hu',?_⟩
  have:P.relook c i=P.setBlk i ⟨if isBlank (c.blk i)=true then 0 else 1,Head.none⟩:=by
   unfold Pool.relook lookAt
   rw [if_neg (by rw [hd];simp),if_neg hno]
   split<;>rfl
  rw [this]
  exact hp'
theorem ChipRep.lt {w:World} {p:Nat} {c:Chip} {L:Loc} {G:Nat→Prop} (h:ChipRep w p c L G):∀ x,x∈p :: L.bb :: L.locs→x<w.heap.size:=by
 intro x hx
 simp only [List.mem_cons] at hx
 rcases hx with rfl | rfl | hx
 ·exact (Array.getElem?_eq_some_iff.1 h.head).1
 ·exact OwnAt.blk h.bad rfl
 ·obtain ⟨j,hj,e⟩:=List.getElem_of_mem hx
  obtain ⟨vs0,_,hv0⟩:=h.rows
  obtain ⟨l,cap,hl,_,hbi⟩:=hv0 j (by rw [← h.len];exact hj)
  rw [List.getElem?_eq_getElem hj,e] at hl
  cases hl
  exact OwnAt.blk hbi rfl
theorem write_half {w:World} {M:PLoc} {P:Pool} {c:Chip} {L:Loc} {G:Nat→Prop} (h:PC w M P c L G) {i:Nat} (hi:i<c.nb) {kind:UInt8} {era:Nat} (hera:era<4294967296) {R:Value→World→Prop}
  (hR:∀ w' L',Upd (PF M L) w w'→SameLoc L L'→PC w' M (writeHead P c i kind era).1 (writeHead P c i kind era).2.1 L' G→R (.int .i64 ((writeHead P c i kind era).2.2:Nat)) w') :
  ∃ x11:Int,World.cell? w ⟨M.q,0+2,none⟩= some (Value.int .u64 x11)∧
  storeP w ⟨M.q,0+2,none⟩ [Value.int .u64 (IntKind.u64.wrap (x11+1))] fun w9 =>
  ∀ w10:World,Drew w9 w10→
  ∃ S2:World→Prop,S2 w10∧
  ∃ p4:Option Addr,(∀ u3,S2 u3→World.cell? u3 ⟨M.q,0,none⟩= some (Value.pointer p4))∧
  ∃ x12:Int,(∀ u4,S2 u4→World.cell? u4 ⟨M.q,0+2,none⟩= some (Value.int .u64 x12))∧
  CallsR prog K.nand_Chip_Geo #[Value.pointer p4] w10 fun v7 w11 =>
  ∃ x13:Int,∃ x14:Int,∃ x15:Int,∃ x16:Int,v7=Value.agg #[Value.int .i64 x13,Value.int .i64 x14,Value.int .i64 x15,Value.int .i64 x16]∧S2 w11∧
  CallsR prog K.pool_PutHead #[Value.int .i64 x15,Value.agg #[Value.int .u8 (kind.toNat:Int),Value.int .u32 (era:Int),Value.int .u64 x12]] w11 fun v8 w12 =>
  ∃ (a3:Option Addr) (l3 c3:Nat),∃ x17:Int,v8=Value.tuple #[Value.slice a3 l3 c3,Value.int .i64 x17]∧S2 w12∧
  ∃ p5:Option Addr,World.cell? w12 ⟨M.q,0,none⟩= some (Value.pointer p5)∧
  CallsR prog K.nand_Chip_Program #[Value.pointer p5,Value.int .i64 (i:Int),Value.int .i64 0,Value.slice a3 l3 c3] w12 fun v9 w13 =>
  ∃ x18:Int,v9=Value.int .i64 x18∧
  CallsR prog K.pool_Pool_look #[Value.pointer (some ⟨M.q,0,none⟩),Value.int .i64 (i:Int)] w13 fun v10 w14=>v10=Value.tuple #[]∧R (Value.int .i64 x18) w14:=by
 refine ⟨_,cell_of h.head rfl,store_of h.head (by simp) fun w₉ hput=>?_⟩
 have hq:IntKind.u64.wrap ((P.last:Int)+1)=((P.raise.last:Nat):Int):=by
  rw [wu64_mod];rfl
 have hlast:P.raise.last<18446744073709551616:=Nat.mod_lt _ (by omega)
 have h9:PC w₉ M P.raise c L G:=h.rehead (Put.upd1 hput) (last:=P.raise.last) (turn:=P.turn) h.turn (by
  have:=hput.get
  rw [this,hq];rfl)
 intro w₁₀ hd10
 have h10:=h9.ext hd10.upd
 have hu10:Upd (·=M.q) w w₁₀:=(Put.upd1 hput).then hd10.upd
 refine ⟨fun u=>Ext w₁₀ u,Upd.refl _ _,_,fun u hu=>cell_of (h10.ext hu).head rfl,_,fun u hu=>cell_of (h10.ext hu).head rfl,?_⟩
 refine (nand_Geo_spec h10.chip).mono ?_
 rintro _ w₁₁ ⟨rfl,he11⟩
 refine ⟨_,_,_,_,rfl,he11,?_⟩
 refine (pool_PutHead_spec (c.sz:Nat) ⟨kind,era,P.raise.last⟩ ⟨hera,hlast⟩ w₁₁).mono ?_
 rintro _ w₁₂ ⟨he12,a3,c3,rfl,hb3,hf3,_⟩
 have e12:=he11.trans he12
 have h12:=h10.ext e12
 have h11:=h10.ext he11
 refine ⟨_,_,_,_,rfl,e12,_,cell_of h12.head rfl,?_⟩
 refine (nand_Program_spec h12.chip (i:Int) 0 (cp:=c3) hb3 (fun p hp hm=>?_)).mono ?_
 ·have h1:=hf3 p hp
  have h2:=h11.chip.lt p.block (by
   simp only [List.mem_cons] at hm ⊢
   rcases hm with hm | hm
   ·exact .inl hm
   ·exact .inr (.inr hm))
  omega
 rintro _ w₁₃ ⟨hu13,L',hs13,h13,rfl⟩
 have hpc13:PC w₁₃ M P.raise _ L' G:=h12.rechip hu13 h13 hs13 (Chip.program_geo _ _ _ _) (fun x hx=>(h.apart x hx).2)
 refine ⟨_,rfl,?_⟩
 refine (pool_look_spec hpc13 (by rw [(Chip.program_geo c (i:Int) 0 _).1];exact hi)).mono ?_
 rintro _ w₁₄ ⟨rfl,hu14,h14⟩
 refine ⟨rfl,hR w₁₄ L' ?_ hs13 h14⟩
 refine (((hu10.mono fun x _ hx=>.inl hx).then e12).trans (hu13.mono fun x _ hx=>.inr (.inr hx))).trans (hu14.mono fun x _ hx=>.inr (.inl hx))
theorem pool_try_spec {w:World} {M:PLoc} {P:Pool} {c:Chip} {L:Loc} {G:Nat→Prop} (h:PC w M P c L G) {i:Nat} (hi:i<c.nb) {kind:UInt8} {era:Nat} (hera:era<4294967296) :
  CallsR prog K.pool_Pool_try #[.pointer (some ⟨M.q,0,none⟩),.int .i64 i,bv kind,.int .u32 era] w fun v w'=>v= .int .i64 ((tryBlk P c i kind era).2.2:Nat)∧Upd (PF M L) w w'∧∃ L',SameLoc L L'∧PC w' M (tryBlk P c i kind era).1 (tryBlk P c i kind era).2.1 L' G:=by
 apply pool_Pool_try.sh
 simp only [pool_Pool_try.body,nilC_some',add_lit]
 refine ⟨_,_,_,cell_of h.head rfl,?_⟩
 refine h.idx hi fun hr=>?_
 have hc:=RowAt.cell hr (i:=0) (v:=.int .i64 (P.blk i).what) rfl
 obtain ⟨b,o,hab,hc⟩:=hc
 cases hab
 refine ⟨_,hc,br_eq (fun h1=>?_) fun h1=>?_⟩
 ·have ht:tryBlk P c i kind era=if (c.erase i).2≠0 then (P.relook (c.erase i).1 i,(c.erase i).1,(c.erase i).2) else writeHead (P.relook (c.erase i).1 i) (c.erase i).1 i kind era:=by
   unfold tryBlk;rw [if_pos (by omega)]
  rw [ht]
  refine ⟨_,cell_of h.head rfl,?_⟩
  refine (nand_Erase_spec h.chip (i:Int)).mono ?_
  rintro _ w₁ ⟨hu1,L1,hs1,hc1,rfl⟩
  have hg:=Chip.erase_geo c (i:Int)
  have hp1:PC w₁ M P _ L1 G:=h.rechip hu1 hc1 hs1 hg (fun x hx=>(h.apart x hx).2)
  refine ⟨_,rfl,?_⟩
  refine (pool_look_spec hp1 (by rw [hg.1];exact hi)).mono ?_
  rintro _ w₂ ⟨rfl,hu2,hp2⟩
  refine ⟨rfl,?_⟩
  have hu12:Upd (PF M L) w w₂:=(hu1.mono fun x _ hx=>.inr (.inr hx)).trans (hu2.mono fun x _ hx=>.inr (.inl hx))
  refine br_ne (fun hne=>?_) fun heq=>?_
  ·rw [if_pos (by omega)]
   exact ⟨by trivial,hu12,L1,hs1,hp2⟩
  ·rw [if_neg (by omega)]
   refine write_half (kind:=kind) hp2 (by rw [hg.1];exact hi) hera (R:=fun v w'=>v= .int .i64 ((writeHead (P.relook (c.erase i).1 i) (c.erase i).1 i kind era).2.2:Nat)∧Upd (PF M L) w w'∧∃ L',SameLoc L L'∧PC w' M (writeHead (P.relook (c.erase i).1 i) (c.erase i).1 i kind era).1 (writeHead (P.relook (c.erase i).1 i) (c.erase i).1 i kind era).2.1 L' G) fun w' L' hu' hs' hp'=>⟨by trivial,hu12.trans (by rw [PF.same hs1] at hu';exact hu'),L',hs1.trans hs',hp'⟩
 ·have ht:tryBlk P c i kind era=writeHead P c i kind era:=by unfold tryBlk;rw [if_neg (by omega)]
  rw [ht]
  exact write_half (kind:=kind) h hi hera (R:=fun v w'=>v= .int .i64 ((writeHead P c i kind era).2.2:Nat)∧Upd (PF M L) w w'∧∃ L',SameLoc L L'∧PC w' M (writeHead P c i kind era).1 (writeHead P c i kind era).2.1 L' G) fun w' L' hu' hs' hp'=>⟨by trivial,hu',L',hs',hp'⟩
theorem tryBlk_geo (P:Pool) (c:Chip) (i:Nat) (kind:UInt8) (era:Nat):c.SameGeo (tryBlk P c i kind era).2.1:=by
 unfold tryBlk writeHead
 split
 ·split
  ·exact Chip.erase_geo _ _
  ·exact (Chip.erase_geo _ _).trans (Chip.program_geo _ _ _ _)
 ·exact Chip.program_geo _ _ _ _
theorem pool_Take_spec {w:World} {M:PLoc} {P:Pool} {c:Chip} {L:Loc} {G:Nat→Prop} (h:PC w M P c L G) {kind:UInt8} {era:Nat} (hera:era<4294967296) :
  CallsR prog K.pool_Pool_Take #[.pointer (some ⟨M.q,0,none⟩),bv kind,.int .u32 era] w fun v w' =>
   v= .tuple #[.int .i64 ((takePool P c kind era).block:Nat),.int .i64 ((takePool P c kind era).err:Nat)]∧Upd (PF M L) w w'∧∃ L',SameLoc L L'∧PC w' M (takePool P c kind era).pool (takePool P c kind era).chip L' G:=by
 apply pool_Pool_Take.sh
 unfold pool_Pool_Take.body
 refine (pool_off_spec h).mono ?_
 rintro _ _ ⟨rfl,rfl⟩
 rename_i w
 refine ⟨_,rfl,?_⟩
 simp only [br_false,nilC_some',add_lit]
 have hno:(kind.toNat<1∨kind.toNat > 3∨era<1)→takePool P c kind era=⟨P,c,0,2⟩:=fun hc=>by unfold takePool;rw [if_pos hc]
 refine ⟨fun u=>u=w∧¬ (kind.toNat<1∨kind.toNat > 3∨era<1),?_,?_⟩
 ·refine br_dec (fun h1=>?_) fun h1=>br_dec (fun h2=>?_) fun h2=>br_dec (fun h3=>?_) fun h3=>⟨by trivial,by omega⟩
  ·rw [hno (by omega)];exact ⟨by trivial,Upd.refl _ _,L,SameLoc.refl _,h⟩
  ·rw [hno (by omega)];exact ⟨by trivial,Upd.refl _ _,L,SameLoc.refl _,h⟩
  ·rw [hno (by omega)];exact ⟨by trivial,Upd.refl _ _,L,SameLoc.refl _,h⟩
 rintro w₂ ⟨rfl,hcond⟩
 refine (pool_alive_spec h).mono ?_
 rintro _ w₃ ⟨rfl,he3⟩
 refine ⟨_,rfl,br_ne (fun hne=>?_) fun heq=>?_⟩
 ·have:takePool P c kind era=⟨P,c,0,c.ask 0 0⟩:=by unfold takePool;rw [if_neg hcond,if_pos (by omega)]
  rw [this]
  exact ⟨by trivial,Upd.ext he3,L,SameLoc.refl _,h.ext he3⟩
 have ht:takePool P c kind era=takeGo kind era P c (List.range c.nb):=by unfold takePool;rw [if_neg hcond,if_neg (by omega)]
 rw [ht]
 have h3:=h.ext he3
 have hnb1:=h.chip.ok.nb1
 have hnb2:=h.chip.ok.nb2
 refine ⟨_,_,_,cell_of h3.head rfl,?_⟩
 refine ⟨fun x u=>∃ (k:Nat) (P':Pool) (c':Chip) (L':Loc),x=k∧k≤c.nb∧Upd (PF M L) w₂ u∧SameLoc L L'∧c.SameGeo c'∧PC u M P' c' L' G∧takeGo kind era P c (List.range c.nb)=takeGo kind era P' c' ((List.range c.nb).drop k),
  fun x _=>(c.nb - x).toNat,⟨0,P,c,L,rfl,by omega,Upd.ext he3,SameLoc.refl _,.refl _,h3,by simp⟩,?_⟩
 rintro x u ⟨k,P',c',L',rfl,hk,hu,hsl,hg,hp,htg⟩
 refine br_dec (fun hlt=>?_) fun hge=>?_
 ·have hk':k<c.nb:=by omega
  have hturn:=hp.turn
  rw [hg.1] at hturn
  have hdrop:(List.range c.nb).drop k=k :: (List.range c.nb).drop (k+1):=by
   rw [List.drop_eq_getElem_cons (by simpa using hk')];simp
  have hmod:(P'.turn+k) % c.nb<c.nb:=Nat.mod_lt _ (by omega)
  have e1:IntKind.i64.wrap ((k:Int)+1)=((k+1:Nat):Int):=w64 (by omega) (by omega)
  have e2:IntKind.i64.wrap ((P'.turn:Int)+(k:Int))=((P'.turn+k:Nat):Int):=w64 (by omega) (by omega)
  have hnext:∀ {u':World} {P2:Pool} {c2:Chip} {L2:Loc},Upd (PF M L) w₂ u'→SameLoc L L2→c.SameGeo c2→PC u' M P2 c2 L2 G→takeGo kind era P c (List.range c.nb)=takeGo kind era P2 c2 ((List.range c.nb).drop (k+1))→
    (∃ (k':Nat) (P':Pool) (c':Chip) (L':Loc),IntKind.i64.wrap ((k:Int)+1)=k'∧k'≤c.nb∧Upd (PF M L) w₂ u'∧SameLoc L L'∧c.SameGeo c'∧PC u' M P' c' L' G∧takeGo kind era P c (List.range c.nb)=takeGo kind era P' c' ((List.range c.nb).drop k'))∧
     ((c.nb:Int) - IntKind.i64.wrap ((k:Int)+1)).toNat<((c.nb:Int) - (k:Int)).toNat:=by
   intro u' P2 c2 L2 a1 a2 a3 a4 a5
   rw [e1]
   exact ⟨⟨k+1,P2,c2,L2,rfl,hk',a1,a2,a3,a4,a5⟩,by omega⟩
  refine ⟨_,cell_of hp.head rfl,by omega,_,cell_of hp.head rfl,?_⟩
  rw [e2,tmod_nat]
  rw [hdrop] at htg
  refine (nand_Bad_spec hp.chip _).mono ?_
  rintro _ _ ⟨rfl,rfl⟩
  rename_i u
  have hd0:decide ((0:Int)≤(((P'.turn+k) % c.nb:Nat):Int))=true:=decide_eq_true (by omega)
  refine ⟨_,rfl,?_⟩
  rw [hd0,Bool.true_and,Int.toNat_natCast]
  refine br_intro (fun hb=>?_) fun hb=>?_
  ·refine hnext hu hsl hg hp ?_
   rw [htg,takeGo,if_pos (.inl (by rw [hg.1];exact hb))]
  refine ⟨_,_,_,cell_of hp.head rfl,?_⟩
  refine hp.idx (by rw [hg.1];exact hmod) fun hr=>?_
  obtain ⟨b',o',hab,hc⟩:=RowAt.cell hr (i:=0) (v:=.int .i64 (P'.blk ((P'.turn+k) % c.nb)).what) rfl
  cases hab
  refine ⟨_,hc,br_eq (fun h2=>?_) fun h2=>?_⟩
  ·refine hnext hu hsl hg hp ?_
   rw [htg,takeGo,if_pos (.inr (by rw [hg.1];omega))]
  have hcnd:¬ (c'.isBad ((P'.turn+k) % c'.nb)=true∨(P'.blk ((P'.turn+k) % c'.nb)).what=2):=by
   rw [hg.1,hb];simp;omega
  rw [takeGo,if_neg hcnd,hg.1] at htg
  refine (pool_try_spec hp (by rw [hg.1];exact hmod) hera).mono ?_
  rintro _ u' ⟨rfl,hu',L2,hs2,hp2⟩
  rw [PF.same hsl] at hu'
  have hg2:=hg.trans (tryBlk_geo P' c' ((P'.turn+k) % c.nb) kind era)
  refine ⟨_,rfl,br_eq (fun h0=>?_) fun h0=>?_⟩
  ·rw [if_pos (by omega)] at htg
   refine store_of hp2.head (by simp) fun w₇ hput=>?_
   have e3:IntKind.i64.wrap ((((P'.turn+k) % c.nb:Nat):Int)+1)=(((P'.turn+k) % c.nb+1:Nat):Int):=w64 (by omega) (by omega)
   have h7:=hp2.rehead (Put.upd1 hput) (last:=(tryBlk P' c' ((P'.turn+k) % c.nb) kind era).1.last) (turn:=(P'.turn+k) % c.nb+1) (by rw [hg2.1];exact hmod) (by
    have:=hput.get
    rw [this,e3];rfl)
   rw [htg]
   exact ⟨by trivial,(hu.trans hu').trans ((Put.upd1 hput).mono fun x _ hx=>.inl hx),L2,hsl.trans hs2,h7⟩
  rw [if_neg (by omega)] at htg
  refine br_eq (fun h10=>?_) fun h10=>?_
  ·rw [if_pos (by omega)] at htg
   rw [htg,h10]
   exact ⟨by trivial,hu.trans hu',L2,hsl.trans hs2,hp2⟩
  ·rw [if_neg (by omega)] at htg
   exact hnext (hu.trans hu') (hsl.trans hs2) hg2 hp2 htg
 ·have:k=c.nb:=by omega
  subst this
  rw [List.drop_of_length_le (by simp)] at htg
  rw [htg]
  exact ⟨by trivial,hu,L',hsl,hp⟩
theorem pool_Free_spec {w:World} {M:PLoc} {P:Pool} {c:Chip} {L:Loc} {G:Nat→Prop} (h:PC w M P c L G) (i:Int) :
  CallsR prog K.pool_Pool_Free #[.pointer (some ⟨M.q,0,none⟩),.int .i64 i] w fun v w' =>
   v= .int .i64 ((freePool P c i).2.2:Nat)∧Upd (PF M L) w w'∧∃ L',SameLoc L L'∧PC w' M (freePool P c i).1 (freePool P c i).2.1 L' G:=by
 apply pool_Pool_Free.sh
 unfold pool_Pool_Free.body
 refine (pool_off_spec h).mono ?_
 rintro _ _ ⟨rfl,rfl⟩
 rename_i w
 refine ⟨_,rfl,?_⟩
 simp only [br_false,nilC_some',add_lit]
 have hno:(i<0∨i≥c.nb∨(P.blk i.toNat).what≠2∨c.isBad i.toNat=true)→freePool P c i=(P,c,12):=fun hc=>by unfold freePool;rw [if_pos hc]
 refine br_dec (fun h1=>?_) fun h1=>?_
 ·rw [hno (.inl h1)];exact ⟨by trivial,Upd.refl _ _,L,SameLoc.refl _,h⟩
 refine ⟨_,_,_,cell_of h.head rfl,br_dec (fun h2=>?_) fun h2=>?_⟩
 ·rw [hno (.inr (.inl h2))];exact ⟨by trivial,Upd.refl _ _,L,SameLoc.refl _,h⟩
 obtain ⟨j,rfl⟩: ∃ j:Nat,i=j:=⟨i.toNat,by omega⟩
 have hj:j<c.nb:=by omega
 simp only [Int.toNat_natCast] at hno
 refine ⟨_,_,_,cell_of h.head rfl,h.idx hj fun hr=>?_⟩
 obtain ⟨b',o',hab,hc⟩:=RowAt.cell hr (i:=0) (v:=.int .i64 (P.blk j).what) rfl
 cases hab
 refine ⟨_,hc,br_ne (fun h3=>?_) fun h3=>?_⟩
 ·rw [hno (.inr (.inr (.inl (by omega))))];exact ⟨by trivial,Upd.refl _ _,L,SameLoc.refl _,h⟩
 refine ⟨_,cell_of h.head rfl,?_⟩
 refine (nand_Bad_spec h.chip _).mono ?_
 rintro _ _ ⟨rfl,rfl⟩
 rename_i w
 have hd0:decide ((0:Int)≤((j:Nat):Int))=true:=decide_eq_true (by omega)
 refine ⟨_,rfl,?_⟩
 rw [hd0,Bool.true_and,Int.toNat_natCast]
 refine br_intro (fun h4=>?_) fun h4=>?_
 ·rw [hno (.inr (.inr (.inr h4)))];exact ⟨by trivial,Upd.refl _ _,L,SameLoc.refl _,h⟩
 have hf:freePool P c (j:Int)=(P.relook (c.erase j).1 j,(c.erase j).1,if (c.erase j).2=9 then 0 else (c.erase j).2):=by
  unfold freePool
  rw [if_neg (by
   rw [Int.toNat_natCast,h4]
   rintro (h | h | h | h)
   ·omega
   ·omega
   ·omega
   ·cases h)]
  simp only [Int.toNat_natCast]
 rw [hf]
 refine ⟨_,cell_of h.head rfl,?_⟩
 refine (nand_Erase_spec h.chip (j:Int)).mono ?_
 rintro _ w₁ ⟨hu1,L1,hs1,hc1,rfl⟩
 have hg:=Chip.erase_geo c (j:Int)
 have hp1:PC w₁ M P _ L1 G:=h.rechip hu1 hc1 hs1 hg (fun x hx=>(h.apart x hx).2)
 refine ⟨_,rfl,?_⟩
 refine (pool_look_spec hp1 (by rw [hg.1];exact hj)).mono ?_
 rintro _ w₂ ⟨rfl,hu2,hp2⟩
 have hu12:Upd (PF M L) w w₂:=(hu1.mono fun x _ hx=>.inr (.inr hx)).trans (hu2.mono fun x _ hx=>.inr (.inl hx))
 refine ⟨rfl,br_eq (fun h9=>?_) fun h9=>?_⟩
 ·rw [if_pos (by omega)]
  exact ⟨by trivial,hu12,L1,hs1,hp2⟩
 ·rw [if_neg (by omega)]
  exact ⟨by trivial,hu12,L1,hs1,hp2⟩
theorem pool_Last_spec {w:World} {M:PLoc} {P:Pool} {c:Chip} {L:Loc} {G:Nat→Prop} (h:PC w M P c L G) :
  CallsR prog K.pool_Pool_Last #[.pointer (some ⟨M.q,0,none⟩)] w fun v w'=>v= .int .u64 (P.last:Nat)∧w'=w:=by
 apply pool_Pool_Last.sh
 unfold pool_Pool_Last.body
 refine (pool_off_spec h).mono ?_
 rintro _ _ ⟨rfl,rfl⟩
 refine ⟨_,rfl,?_⟩
 simp only [br_false,nilC_some',add_lit]
 exact ⟨_,cell_of h.head rfl,by trivial,by trivial⟩
theorem pool_Chip_spec {w:World} {M:PLoc} {P:Pool} {c:Chip} {L:Loc} {G:Nat→Prop} (h:PC w M P c L G) :
  CallsR prog K.pool_Pool_Chip #[.pointer (some ⟨M.q,0,none⟩)] w fun v w'=>v= .pointer (some ⟨M.p,0,none⟩)∧w'=w:=by
 apply pool_Pool_Chip.sh
 unfold pool_Pool_Chip.body
 refine (pool_off_spec h).mono ?_
 rintro _ _ ⟨rfl,rfl⟩
 refine ⟨_,rfl,?_⟩
 simp only [br_false,nilC_some',add_lit]
 exact ⟨_,cell_of h.head rfl,by trivial,by trivial⟩
theorem pool_Blanks_spec {w:World} {M:PLoc} {P:Pool} {c:Chip} {L:Loc} {G:Nat→Prop} (h:PC w M P c L G) :
  CallsR prog K.pool_Pool_Blanks #[.pointer (some ⟨M.q,0,none⟩)] w fun v w'=>v= .int .i64 (blanksPool P c:Nat)∧Ext w w':=by
 apply pool_Pool_Blanks.sh
 unfold pool_Pool_Blanks.body
 refine (pool_off_spec h).mono ?_
 rintro _ _ ⟨rfl,rfl⟩
 rename_i w
 refine ⟨_,rfl,?_⟩
 simp only [br_false,nilC_some',add_lit]
 have hnb2:=h.chip.ok.nb2
 refine ⟨_,_,_,cell_of h.head rfl,?_⟩
 refine ⟨fun x y u=>∃ i:Nat,y=i∧i≤c.nb∧Ext w u∧x=(((List.range i).filter fun i=>decide ((P.blk i).what≠2) && !c.isBad i).length:Nat),fun _ y _=>(c.nb - y).toNat,⟨0,rfl,by omega,Upd.refl _ _,rfl⟩,?_⟩
 rintro x y u ⟨i,rfl,hi,hu,rfl⟩
 have hpu:=h.ext hu
 refine br_dec (fun hlt=>?_) fun hge=>?_
 ·have hi':i<c.nb:=by omega
  have e1:IntKind.i64.wrap ((i:Int)+1)=((i+1:Nat):Int):=w64 (by omega) (by omega)
  have hle:((List.range i).filter fun i=>decide ((P.blk i).what≠2) && !c.isBad i).length≤i:=Nat.le_trans (List.length_filter_le _ _) (by simp)
  refine hpu.idx hi' fun hr=>?_
  refine ⟨(P.blk i).what,(P.blk i).head.kind.toNat,(P.blk i).head.era,(P.blk i).head.seq,RowAt.cells hr,fun B w₃ hn3=>?_⟩
  refine store_of hn3.get (by simp) fun w₄ hput4=>?_
  have hB:B=u.heap.size:=hn3.num
  have e4:Ext w w₄:=Put.upd (hu.trans hn3.upd) hput4 (.inl (by have:=hu.size;omega))
  have hg4:=hput4.get
  have hp4:=h.ext e4
  refine ⟨(P.blk i).what,?_,?_⟩
  ·refine cell_of hg4 ?_
   rw [splice_all _ _ (by simp)];rfl
  have hrs:∀ b:Bool,(decide ((P.blk i).what≠2) && !c.isBad i)=b→(((List.range (i+1)).filter fun i=>decide ((P.blk i).what≠2) && !c.isBad i).length:Nat)=((List.range i).filter fun i=>decide ((P.blk i).what≠2) && !c.isBad i).length+if b then 1 else 0:=by
   intro b hb
   rw [List.range_succ,List.filter_append,List.length_append]
   simp only [List.filter_cons,hb,List.filter_nil]
   cases b<;>rfl
  refine br_ne (fun hne=>?_) fun heq=>?_
  ·refine ⟨_,cell_of hp4.head rfl,?_⟩
   refine (nand_Bad_spec hp4.chip _).mono ?_
   rintro _ _ ⟨rfl,rfl⟩
   rename_i w₄
   have hd0:decide ((0:Int)≤((i:Nat):Int))=true:=decide_eq_true (by omega)
   have hd1:decide ((P.blk i).what≠2)=true:=decide_eq_true (by omega)
   refine ⟨_,rfl,?_⟩
   rw [hd0,Bool.true_and,Int.toNat_natCast,e1]
   refine br_intro (fun hb=>?_) fun hb=>?_
   ·have:=hrs true (by rw [hd1,hb];rfl)
    refine ⟨⟨i+1,rfl,hi',e4,?_⟩,meas hi'⟩
    rw [this,w64 (by omega) (by omega)]
    simp
   ·have:=hrs false (by rw [hd1,hb];rfl)
    refine ⟨⟨i+1,rfl,hi',e4,?_⟩,meas hi'⟩
    rw [this]
    simp
  ·rw [e1]
   have hd1:decide ((P.blk i).what≠2)=false:=decide_eq_false (by omega)
   have:=hrs false (by rw [hd1];rfl)
   refine ⟨⟨i+1,rfl,hi',e4,?_⟩,meas hi'⟩
   rw [this]
   simp
 ·have:i=c.nb:=by omega
  subst this
  exact ⟨by trivial,hu⟩
theorem zerosL_flat {α:Type} (f:α→List Value) (b:α) (n:Nat):zerosL (f b) n=(List.replicate n b).flatMap f:=by
 induction n with
 | zero=>rfl
 | succ n ih=>simp [zerosL,List.replicate_succ] at ih ⊢;try exact ih
theorem scanGo_turn (c:Chip) (i:Nat):(scanGo c i).turn≤i:=by
 induction i with
 | zero=>exact Nat.le_refl _
 | succ i ih =>
  unfold scanGo
  split
  ·exact Nat.le_refl _
  ·show (scanGo c i).turn≤_;omega
theorem pool_Scan_spec {w:World} {p:Nat} {c:Chip} {L:Loc} {G:Nat→Prop} (h:ChipRep w p c L G) (hG:∀ x,G x→x<w.heap.size) :
  CallsR prog K.pool_Scan #[.pointer (some ⟨p,0,none⟩)] w fun v w'=>Ext w w'∧
   if c.dead then v= .tuple #[.pointer none,.int .i64 10]
   else ∃ q pb,v= .tuple #[.pointer (some ⟨q,0,none⟩),.int .i64 0]∧w.heap.size≤q∧w.heap.size≤pb∧q<w'.heap.size∧pb<w'.heap.size∧PC w' ⟨q,pb,c.nb,p⟩ (scanPool c) c L G:=by
 have hok:=h.ok
 have hnb1:=hok.nb1
 have hnb2:=hok.nb2
 apply pool_Scan.sh
 refine ⟨fun u=>Ext w u,?_,?_⟩
 ·simp only [Option.isNone_some,br_false]
  refine (nand_Geo_spec h).mono ?_
  rintro _ w₁ ⟨rfl,he1⟩
  exact ⟨_,_,_,_,rfl,br_eq (fun h=>by omega) fun _=>he1⟩
 intro w₂ he2
 have h2:=h.ext he2
 refine (nand_Read_spec h2 0 0).mono ?_
 rintro v w₃ ⟨he3,hv⟩
 have e3:=he2.trans he3
 rw [ask00 hok] at hv
 rcases Bool.eq_false_or_eq_true c.dead with hd | hd
 ·rw [hd] at hv
  simp only [if_true,if_neg (show ¬ (10=0) by omega)] at hv
  subst hv
  refine ⟨_,_,_,_,rfl,br_ne (fun _=>⟨e3,?_⟩) fun h=>by omega⟩
  rw [if_pos hd]
  rfl
 rw [hd] at hv
 simp only [Bool.false_eq_true,if_false,if_true] at hv
 obtain ⟨a,cp,rfl,_⟩:=hv
 refine ⟨_,_,_,_,rfl,br_ne (fun h=>by omega) fun _=>?_⟩
 have h3:=h.ext e3
 refine (nand_Geo_spec h3).mono ?_
 rintro _ w₄ ⟨rfl,he4⟩
 have e4:=e3.trans he4
 refine ⟨_,_,_,_,rfl,?_⟩
 refine ⟨by omega,by omega,by omega,by omega,rfl,fun pb w₅ hn5 q w₆ hn6=>?_⟩
 have e6:=(e4.trans hn5.upd).trans hn6.upd
 have h6:=h.ext e6
 have hpb:pb=w₄.heap.size:=hn5.num
 have hq:q=w₅.heap.size:=hn6.num
 have hs4:=e4.size
 have hs5:=hn5.size
 have hs6:=hn6.size
 simp only [Int.toNat_natCast] at hn5 hn6 ⊢
 have hz:zerosL [Value.int .i64 0,Value.int .u8 0,Value.int .u32 0,Value.int .u64 0] c.nb=(List.replicate c.nb Blk.zero).flatMap Blk.vals:=zerosL_flat Blk.vals Blk.zero c.nb
 rw [hz] at hn5
 have hpc6:PC w₆ ⟨q,pb,c.nb,p⟩ (scanGo c 0) c L G:=by
  refine ⟨h6,hn6.get,?_,Nat.zero_le _,fun x hx=>?_,by show q≠pb;omega⟩
  ·have:=OwnAt.new (n:=c.nb) (size:=4) hn5 (by simp [Blk.vals])
   exact OwnAt.ext this hn6.upd
  ·have hxw:w.heap.size≤x:=by
    rcases hx with hx | hx
    ·have:x=q:=hx
     omega
    ·have:x=pb:=hx
     omega
   exact ⟨fun hm=>by have:=h.lt x hm;omega,fun hg=>by have:=hG x hg;omega⟩
 simp only [add_lit]
 refine ⟨_,_,_,cell_of hn6.get rfl,?_⟩
 refine ⟨fun x u=>∃ i:Nat,x=i∧i≤c.nb∧Upd (fun x=>x=q∨x=pb) w₆ u∧PC u ⟨q,pb,c.nb,p⟩ (scanGo c i) c L G,fun x _=>(c.nb - x).toNat,⟨0,rfl,by omega,Upd.refl _ _,hpc6⟩,?_⟩
 rintro x u ⟨i,rfl,hi,hu,hp⟩
 have hfin:∀ {u':World},Upd (fun x=>x=q∨x=pb) w₆ u'→Ext w u':=fun hu'=>Upd.beyond e6 hu' (fun x hx=>by rcases hx with rfl | rfl<;>omega)
 refine br_dec (fun hlt=>?_) fun hge=>?_
 ·have hi':i<c.nb:=by omega
  have e1:IntKind.i64.wrap ((i:Int)+1)=((i+1:Nat):Int):=w64 (by omega) (by omega)
  refine (pool_look_spec hp hi').mono ?_
  rintro _ w₈ ⟨rfl,hu8,hp8⟩
  have hu08:Upd (fun x=>x=q∨x=pb) w₆ w₈:=hu.trans (hu8.mono fun x _ hx=>.inr hx)
  refine ⟨rfl,_,_,_,cell_of hp8.head rfl,hp8.idx hi' fun hr=>?_⟩
  simp only [add_lit]
  generalize hP8:(scanGo c i).relook c i=P8 at *
  have hc1:=RowAt.cells (RowAt.drop hr 1)
  refine ⟨(P8.blk i).head.kind.toNat,(P8.blk i).head.era,(P8.blk i).head.seq,hc1,fun B w₉ hn9=>?_⟩
  rw [head_zero] at hn9
  refine head_put (h:=(P8.blk i).head) hn9.get rfl fun w₁₀ hput10=>?_
  have hB:B=w₈.heap.size:=hn9.num
  have hs8:=hu08.size
  have hu10:Upd (fun x=>x=q∨x=pb) w₆ w₁₀:=Put.upd (hu08.then hn9.upd) hput10 (.inl (by omega))
  intro w₁₁ hd11
  have hu11:=hu10.then hd11.upd
  have e811:Ext w₈ w₁₁:=(Put.upd hn9.upd hput10 (.inl (by omega))).trans hd11.upd
  have hp11:=hp8.ext e811
  have hg11:=Ext.get hd11.upd hput10.get
  have hgo:scanGo c (i+1)=if (P8.blk i).head.seq > (scanGo c i).last∨((P8.blk i).head.seq=(scanGo c i).last∧(P8.blk i).head.seq > 0) then { P8 with last:=(P8.blk i).head.seq,turn:=i+1 } else P8:=by
   rw [scanGo,hP8]
  have hl8:P8.last=(scanGo c i).last:=by rw [← hP8];rfl
  have hset:((P8.blk i).head.seq > (scanGo c i).last∨((P8.blk i).head.seq=(scanGo c i).last∧(P8.blk i).head.seq > 0))→
    storeP w₁₁ ⟨q,0+2,none⟩ [Value.int .u64 ((P8.blk i).head.seq:Nat)] fun w12 =>
    storeP w12 ⟨q,0+3,none⟩ [Value.int .i64 (IntKind.i64.wrap ((i:Int)+1))] fun w13 =>
     (∃ i':Nat,IntKind.i64.wrap ((i:Int)+1)=i'∧i'≤c.nb∧Upd (fun x=>x=q∨x=pb) w₆ w13∧PC w13 ⟨q,pb,c.nb,p⟩ (scanGo c i') c L G)∧((c.nb:Int) - IntKind.i64.wrap ((i:Int)+1)).toNat<((c.nb:Int) - (i:Int)).toNat:=by
   intro hcnd
   refine store_of hp11.head (by simp) fun w₁₂ hput12=>?_
   refine store_of hput12.get (by simp [splice]) fun w₁₃ hput13=>?_
   rw [e1]
   have hq2:=(Put.upd1 hput12).trans (Put.upd1 hput13)
   refine ⟨⟨i+1,rfl,hi',hu11.trans (hq2.mono fun x _ hx=>.inl hx),?_⟩,meas hi'⟩
   rw [hgo,if_pos hcnd]
   refine hp11.rehead hq2 (last:=(P8.blk i).head.seq) (turn:=i+1) hi' ?_
   have:=hput13.get
   rw [this,e1];rfl
  have hkeep:¬ ((P8.blk i).head.seq > (scanGo c i).last∨((P8.blk i).head.seq=(scanGo c i).last∧(P8.blk i).head.seq > 0))→
    (∃ i':Nat,IntKind.i64.wrap ((i:Int)+1)=i'∧i'≤c.nb∧Upd (fun x=>x=q∨x=pb) w₆ w₁₁∧PC w₁₁ ⟨q,pb,c.nb,p⟩ (scanGo c i') c L G)∧((c.nb:Int) - IntKind.i64.wrap ((i:Int)+1)).toNat<((c.nb:Int) - (i:Int)).toNat:=by
   intro hcnd
   rw [e1]
   refine ⟨⟨i+1,rfl,hi',hu11,?_⟩,meas hi'⟩
   rw [hgo,if_neg hcnd]
   exact hp11
  have hcq:World.cell? w₁₁ ⟨q,0+2,none⟩= some (.int .u64 ((scanGo c i).last:Nat)):=by rw [← hl8];exact cell_of hp11.head rfl
  refine ⟨fun v=>v=w₁₁,rfl,_,fun v hv=>hv ▸ cell_of hg11 rfl,_,fun v hv=>hv ▸ hcq,br_dec (fun h1=>?_) fun h1=>?_⟩
  ·exact ⟨_,cell_of hg11 rfl,hset (.inl (by omega))⟩
  refine ⟨_,fun v hv=>hv ▸ cell_of hg11 rfl,_,fun v hv=>hv ▸ hcq,br_eq (fun h2=>?_) fun h2=>hkeep (by omega)⟩
  refine ⟨_,fun v hv=>hv ▸ cell_of hg11 rfl,br_dec (fun h3=>?_) fun h3=>hkeep (by omega)⟩
  exact ⟨_,cell_of hg11 rfl,hset (.inr (by omega))⟩
 ·have:i=c.nb:=by omega
  subst this
  have hsu:=hu.size
  refine ⟨hfin hu,?_⟩
  rw [if_neg (by rw [hd];simp)]
  exact ⟨q,pb,rfl,by omega,by omega,by omega,by omega,hp⟩
def pref {α:Type} (lt:α→α→Bool) (l:List α) (i:Nat):List α:=(l.take i).foldl (fun acc x=>sink lt x acc) []
theorem sink_length {α:Type} (lt:α→α→Bool) (x:α) (l:List α):(sink lt x l).length=l.length+1:=by
 induction l with
 | nil=>rfl
 | cons y l ih=>unfold sink;split<;>simp [ih]
theorem pref_succ {α:Type} (lt:α→α→Bool) (l:List α) (i:Nat) (hi:i<l.length):pref lt l (i+1)=sink lt l[i] (pref lt l i):=by
 unfold pref
 rw [List.take_succ_eq_append_getElem hi,List.foldl_append]
 rfl
theorem pref_length {α:Type} (lt:α→α→Bool) (l:List α) (i:Nat) (hi:i≤l.length):(pref lt l i).length=i:=by
 induction i with
 | zero=>simp [pref]
 | succ i ih=>rw [pref_succ lt l i hi,sink_length,ih (by omega)]
theorem pref_all {α:Type} (lt:α→α→Bool) (l:List α):(pref lt l l.length).reverse=isort lt l:=by simp [pref,isort]
theorem sink_mem {α:Type} (lt:α→α→Bool) (x y:α) (l:List α):y∈sink lt x l ↔ y=x∨y∈l:=by
 induction l with
 | nil=>simp [sink]
 | cons z l ih =>
  unfold sink
  split
  ·simp [ih];constructor
   ·rintro (h | h | h)
    ·exact .inr (.inl h)
    ·exact .inl h
    ·exact .inr (.inr h)
   ·rintro (h | h | h)
    ·exact .inr (.inl h)
    ·exact .inl h
    ·exact .inr (.inr h)
  ·simp
theorem isort_mem {α:Type} (lt:α→α→Bool) (y:α) (l:List α):y∈isort lt l ↔ y∈l:=by
 unfold isort
 rw [List.mem_reverse]
 have:∀ (acc:List α),y∈l.foldl (fun acc x=>sink lt x acc) acc ↔ y∈acc∨y∈l:=by
  induction l with
  | nil=>intro acc;simp
  | cons x l ih =>
   intro acc
   rw [List.foldl_cons,ih,sink_mem]
   simp only [List.mem_cons]
   constructor
   ·rintro ((h | h) | h)
    ·exact .inr (.inl h)
    ·exact .inl h
    ·exact .inr (.inr h)
   ·rintro (h | h | h)
    ·exact .inl (.inr h)
    ·exact .inl (.inl h)
    ·exact .inr h
 rw [this];simp
theorem isort_length {α:Type} (lt:α→α→Bool) (l:List α):(isort lt l).length=l.length:=by
 rw [← pref_all,List.length_reverse,pref_length lt l _ (Nat.le_refl _)]
abbrev takenV (t:Taken):Value:=.agg #[.int .i64 t.block,bv t.head.kind,.int .u32 t.head.era,.int .u64 t.head.seq,.bool t.bad]
theorem pool_Taken_1_spec (a b:Taken) (ha:a.block<1000000) (hb:b.block<1000000) (w:World) :
  CallsR prog K.pool_Pool_Taken_1 #[takenV a,takenV b] w fun v w'=>∃ x:Int,v= .int .i64 x∧decide (x<0)=takenLt a b∧Ext w w':=by
 apply pool_Pool_Taken_1.sh
 intro B₁ w₁ hn1 B₂ w₂ hn2
 have e2:=hn1.upd.trans hn2.upd
 have h1:=Ext.get hn2.upd hn1.get
 have h2:=hn2.get
 simp only [add_lit]
 refine ⟨_,cell_of h1 rfl,_,cell_of h2 rfl,br_dec (fun hlt=>⟨_,rfl,?_,e2⟩) fun hge=>⟨_,cell_of h1 rfl,_,cell_of h2 rfl,br_dec (fun hgt=>⟨_,rfl,?_,e2⟩) fun hle=>⟨_,cell_of h1 rfl,_,cell_of h2 rfl,_,rfl,?_,e2⟩⟩⟩
 ·have q:decide (a.head.seq<b.head.seq)=true:=decide_eq_true (by omega)
  simp [takenLt,q]
 ·have q:decide (a.head.seq<b.head.seq)=false:=decide_eq_false (by omega)
  have q2:decide (a.head.seq=b.head.seq)=false:=decide_eq_false (by omega)
  simp [takenLt,q,q2]
 ·have q:decide (a.head.seq<b.head.seq)=false:=decide_eq_false (by omega)
  have q2:decide (a.head.seq=b.head.seq)=true:=decide_eq_true (by omega)
  rw [w64 (by omega) (by omega)]
  simp only [takenLt,q,q2,Bool.false_or,Bool.true_and]
  exact decide_eq_decide.2 (by omega)
theorem swap_list {α:Type} (A R:List α) (x y:α):((A ++ y :: x :: R).set (A.length+1) y).set A.length x=A ++ x :: y :: R:=by
 rw [List.set_append_right _ _ (by omega),List.set_append_right _ _ (by omega)]
 simp
theorem own_set {α:Type} {f:α→List Value} {k:Nat} (hf:∀ x,(f x).length=k) {w:World} {b cap:Nat} {e:TypeId} {l:List α} (h:OwnAt w (some ⟨b,0,none⟩) l.length cap e k (l.flatMap f)) {i:Nat} (hi:i<l.length) (x:α) {K:World→Prop}
  (hk:∀ w',Upd (·=b) w w'→OwnAt w' (some ⟨b,0,none⟩) (l.set i x).length cap e k ((l.set i x).flatMap f)→K w'):storeP w ⟨b,i * k,none⟩ (f x) K:=by
 refine own_store h (by rw [flat_len hf,hf,← Nat.succ_mul];exact Nat.mul_le_mul_right _ hi) fun w' hu ho=>hk w' hu ?_
 rw [hf,flat_set hf l hi x] at ho
 rw [List.length_set]
 exact ho
theorem insertionSort_spec {w:World} {a:Option Addr} {l:List Taken} {cap cp:Nat} (h:OwnAt w a l.length cap T.api_Taken 5 (l.flatMap Taken.vals)) (hb:∀ t∈l,t.block<1000000) (hl:l.length<1000) :
  CallsR prog K.slices_insertionSortCmpFunc_api_Taken #[.slice a l.length cp,.int .i64 0,.int .i64 l.length,.func (.func K.pool_Pool_Taken_1) #[] #[]] w fun v w'=>v= .tuple #[]∧Upd (fun b=>a=some ⟨b,0,none⟩) w w'∧OwnAt w' a (isort takenLt l).length cap T.api_Taken 5 ((isort takenLt l).flatMap Taken.vals):=by
 apply slices_insertionSortCmpFunc_api_Taken.sh
 have e01:IntKind.i64.wrap ((0:Int)+1)=((1:Nat):Int):=by decide
 unfold slices_insertionSortCmpFunc_api_Taken.body
 rw [e01]
 refine ⟨fun x u=>∃ i:Nat,x=i∧1≤i∧(i≤l.length∨i=1)∧Upd (fun b=>a=some ⟨b,0,none⟩) w u∧OwnAt u a ((pref takenLt l i).reverse ++ l.drop i).length cap T.api_Taken 5 (((pref takenLt l i).reverse ++ l.drop i).flatMap Taken.vals),
  fun x _=>(l.length - x).toNat,⟨1,rfl,by omega,.inr rfl,Upd.refl _ _,?_⟩,?_⟩
 ·have:(pref takenLt l 1).reverse ++ l.drop 1=l:=by
   cases l with
   | nil=>rfl
   | cons x l=>rfl
  rw [this];exact h
 rintro x u ⟨i,rfl,hi1,hi,hu,ho⟩
 refine br_dec (fun hlt=>?_) fun hge=>?_
 ·have hil:i<l.length:=by omega
  have hpl:=pref_length takenLt l i (by omega)
  have hdrop:l.drop i=l[i] :: l.drop (i+1):=List.drop_eq_getElem_cons hil
  have hblk:∀ t,t∈pref takenLt l i→t.block<1000000:=by
   intro t ht
   have:t∈isort takenLt (l.take i):=by unfold isort;exact List.mem_reverse.2 ht
   rw [isort_mem] at this
   exact hb t (List.mem_of_mem_take this)
  have hbi:l[i].block<1000000:=hb _ (List.getElem_mem hil)
  rw [hdrop] at ho
  obtain ⟨B,rfl⟩: ∃ B,a=some ⟨B,0,none⟩:=by
   obtain ⟨_,_,hx⟩:=h
   rcases hx with ⟨_,hx,_⟩| ⟨b,cur,hx,_⟩
   ·omega
   ·exact ⟨b,hx⟩
  have hF:∀ {u u':World},Upd (·=B) u u'→Upd (fun b=>(some ⟨B,0,none⟩: Option Addr)=some ⟨b,0,none⟩) u u':=fun k=>k.mono fun x _ hx=>by rw [hx]
  have e1:IntKind.i64.wrap ((i:Int)+1)=((i+1:Nat):Int):=w64 (by omega) (by omega)
  refine ⟨fun x v=>∃ A D:List Taken,x=(A.length:Int)∧pref takenLt l i=D ++ A∧sink takenLt l[i] (pref takenLt l i)=D ++ sink takenLt l[i] A∧Upd (fun b=>(some ⟨B,0,none⟩: Option Addr)=some ⟨b,0,none⟩) w v∧
    OwnAt v (some ⟨B,0,none⟩) (A.reverse ++ l[i] :: (D.reverse ++ l.drop (i+1))).length cap T.api_Taken 5 ((A.reverse ++ l[i] :: (D.reverse ++ l.drop (i+1))).flatMap Taken.vals),fun x _=>x.toNat,⟨pref takenLt l i,[],by rw [hpl],rfl,rfl,hu,ho⟩,?_⟩
  rintro y v ⟨A,D,rfl,hAD,hsk,huv,hov⟩ w₃ hd3
  have hlen:∀ X:Taken,(A.reverse ++ X :: (D.reverse ++ l.drop (i+1))).length=l.length:=by
   intro X
   have:D.length+A.length=i:=by rw [← hpl,hAD,List.length_append]
   simp;omega
  have hend:∀ {v':World},sink takenLt l[i] A=l[i] :: A→Upd (fun b=>(some ⟨B,0,none⟩: Option Addr)=some ⟨b,0,none⟩) w v'→
    OwnAt v' (some ⟨B,0,none⟩) (A.reverse ++ l[i] :: (D.reverse ++ l.drop (i+1))).length cap T.api_Taken 5 ((A.reverse ++ l[i] :: (D.reverse ++ l.drop (i+1))).flatMap Taken.vals)→
    (∃ i':Nat,IntKind.i64.wrap ((i:Int)+1)=i'∧1≤i'∧(i'≤l.length∨i'=1)∧Upd (fun b=>(some ⟨B,0,none⟩: Option Addr)=some ⟨b,0,none⟩) w v'∧OwnAt v' (some ⟨B,0,none⟩) ((pref takenLt l i').reverse ++ l.drop i').length cap T.api_Taken 5 (((pref takenLt l i').reverse ++ l.drop i').flatMap Taken.vals))∧
     ((l.length:Int) - IntKind.i64.wrap ((i:Int)+1)).toNat<((l.length:Int) - (i:Int)).toNat:=by
   intro v' hs hu' ho'
   rw [e1]
   refine ⟨⟨i+1,rfl,by omega,.inl hil,hu',?_⟩,meas hil⟩
   have:(pref takenLt l (i+1)).reverse ++ l.drop (i+1)=A.reverse ++ l[i] :: (D.reverse ++ l.drop (i+1)):=by
    rw [pref_succ takenLt l i hil,hsk,hs]
    simp
   rw [this];exact ho'
  have hov3:=OwnAt.ext hov hd3.upd
  have huv3:=huv.then hd3.upd
  refine ⟨fun z=>z=w₃,rfl,br_dec (fun hpos=>?_) fun hzero=>?_⟩
  ·obtain ⟨y,A',rfl⟩: ∃ y A',A=y :: A':=by
    cases A with
    | nil=>simp at hpos
    | cons y A'=>exact ⟨y,A',rfl⟩
   have hly:=hlen l[i]
   simp only [List.reverse_cons,List.append_assoc,List.singleton_append,List.length_cons] at hov3 hpos hly ⊢
   generalize hR:D.reverse ++ l.drop (i+1)=R at *
   have hA:A'.reverse.length=A'.length:=List.length_reverse
   have hlx:A'.length+1<(A'.reverse ++ y :: l[i] :: R).length:=by simp
   have hgx:(A'.reverse ++ y :: l[i] :: R)[A'.length+1]=l[i]:=by rw [List.getElem_append_right (by omega)];simp
   have hgy:(A'.reverse ++ y :: l[i] :: R)[A'.length]=y:=by rw [List.getElem_append_right (by omega)];simp
   have em:IntKind.i64.wrap (((A'.length+1:Nat):Int) - 1)=((A'.length:Nat):Int):=by rw [w64 (by omega) (by omega)];omega
   rw [em]
   refine idx_flat (f:=Taken.vals) (l:=A'.reverse ++ y :: l[i] :: R) Taken.vals_length (by omega) hov3.row (by omega) hlx fun b o hab hr=>?_
   cases hab
   rw [hgx] at hr
   refine ⟨l[i].block,l[i].head.kind.toNat,l[i].head.era,l[i].head.seq,l[i].bad,fun z hz=>hz ▸ RowAt.cells hr,?_⟩
   refine idx_flat (f:=Taken.vals) (l:=A'.reverse ++ y :: l[i] :: R) Taken.vals_length (by omega) hov3.row (by omega) (by omega) fun b o hab hr=>?_
   cases hab
   rw [hgy] at hr
   refine ⟨y.block,y.head.kind.toNat,y.head.era,y.head.seq,y.bad,fun z hz=>hz ▸ RowAt.cells hr,?_⟩
   have hby:y.block<1000000:=hblk y (by rw [hAD];simp)
   refine ⟨rfl,?_⟩
   refine (pool_Taken_1_spec l[i] y hbi hby w₃).mono ?_
   rintro _ w₄ ⟨x11,rfl,hx11,he4⟩
   have hov4:=OwnAt.ext hov3 he4
   have huv4:=huv3.then he4
   refine ⟨_,rfl,?_⟩
   rw [hx11]
   refine br_intro (fun ht=>?_) fun hf=>?_
   ·intro w₅ hd5
    have hov5:=OwnAt.ext hov4 hd5.upd
    have huv5:=huv4.then hd5.upd
    refine ⟨fun z=>z=w₅,rfl,?_⟩
    refine idx_flat (f:=Taken.vals) (l:=A'.reverse ++ y :: l[i] :: R) Taken.vals_length (by omega) hov5.row (by omega) (by omega) fun b o hab hr=>?_
    cases hab
    rw [hgy] at hr
    refine ⟨y.block,y.head.kind.toNat,y.head.era,y.head.seq,y.bad,fun z hz=>hz ▸ RowAt.cells hr,?_⟩
    refine idx_flat (f:=Taken.vals) (l:=A'.reverse ++ y :: l[i] :: R) Taken.vals_length (by omega) hov5.row (by omega) hlx fun b o hab hr=>?_
    cases hab
    rw [hgx] at hr
    refine ⟨l[i].block,l[i].head.kind.toNat,l[i].head.era,l[i].head.seq,l[i].bad,fun z hz=>hz ▸ RowAt.cells hr,?_⟩
    refine idx_flat (f:=Taken.vals) (l:=A'.reverse ++ y :: l[i] :: R) Taken.vals_length (by omega) hov5.row (by omega) hlx fun b o hab _=>?_
    cases hab
    rw [Nat.zero_add]
    refine own_set Taken.vals_length hov5 hlx y fun w₆ hu6 ho6=>?_
    refine idx_flat (f:=Taken.vals) Taken.vals_length (by omega) ho6.row (by rw [List.length_set];omega) (by rw [List.length_set];omega) fun b o hab _=>?_
    cases hab
    rw [Nat.zero_add]
    refine own_set Taken.vals_length ho6 (by rw [List.length_set];omega) l[i] fun w₇ hu7 ho7=>?_
    have hsw:((A'.reverse ++ y :: l[i] :: R).set (A'.length+1) y).set A'.length l[i]=A'.reverse ++ l[i] :: y :: R:=by
     have:=swap_list A'.reverse R l[i] y
     rw [hA] at this
     exact this
    rw [hsw] at ho7
    refine ⟨⟨A',D ++ [y],rfl,by rw [hAD];simp,?_,(huv5.trans (hF hu6)).trans (hF hu7),?_⟩,by omega⟩
    ·rw [hsk]
     have:sink takenLt l[i] (y :: A')=y :: sink takenLt l[i] A':=by rw [sink,if_pos ht]
     rw [this];simp
    ·have:A'.reverse ++ l[i] :: ((D ++ [y]).reverse ++ l.drop (i+1))=A'.reverse ++ l[i] :: y :: R:=by rw [← hR];simp
     rw [this];exact ho7
   ·refine hend ?_ huv4 ?_
    ·rw [sink,if_neg (by rw [hf];simp)]
    ·simp only [List.reverse_cons,List.append_assoc,List.singleton_append]
     exact hov4
  ·have:A=[]:=List.eq_nil_of_length_eq_zero (by omega)
   subst this
   exact hend rfl huv3 hov3
 ·refine ⟨by trivial,hu,?_⟩
  rcases hi with hi | hi
  ·have:i=l.length:=by omega
   subst this
   rw [pref_all,List.drop_length,List.append_nil] at ho
   exact ho
  ·subst hi
   have:(pref takenLt l 1).reverse ++ l.drop 1=isort takenLt l:=by
    match l,hge with
    | [],_=>rfl
    | [x],_=>rfl
    | x :: y :: l,hge=>simp at hge;omega
   rw [this] at ho
   exact ho
theorem sortStable_spec {w:World} {a:Option Addr} {l:List Taken} {cap cp:Nat} (h:OwnAt w a l.length cap T.api_Taken 5 (l.flatMap Taken.vals)) (hb:∀ t∈l,t.block<1000000) (hl:l.length<20) :
  CallsR prog K.slices_SortStableFunc_api_Taken #[.slice a l.length cp,.func (.func K.pool_Pool_Taken_1) #[] #[]] w fun v w'=>v= .tuple #[]∧Upd (fun b=>a=some ⟨b,0,none⟩) w w'∧OwnAt w' a (isort takenLt l).length cap T.api_Taken 5 ((isort takenLt l).flatMap Taken.vals):=by
 apply slices_SortStableFunc_api_Taken.sh
 have key:CallsR prog K.slices_stableCmpFunc_api_Taken #[.slice a l.length cp,.int .i64 l.length,.func (.func K.pool_Pool_Taken_1) #[] #[]] w fun v w'=>v= .tuple #[]∧Upd (fun b=>a=some ⟨b,0,none⟩) w w'∧OwnAt w' a (isort takenLt l).length cap T.api_Taken 5 ((isort takenLt l).flatMap Taken.vals):=by
  apply slices_stableCmpFunc_api_Taken.sh
  refine ⟨fun x y u=>x=0∧y=20∧u=w,fun _ _ _=>0,⟨rfl,rfl,rfl⟩,?_⟩
  rintro x y u ⟨rfl,rfl,rfl⟩
  refine br_dec (fun h=>by omega) fun _=>?_
  refine (insertionSort_spec (cp:=cp) h hb (by omega)).mono ?_
  rintro _ w₃ ⟨rfl,hu,ho⟩
  refine ⟨rfl,fun x u=>x=20∧u=w₃,fun _ _=>0,⟨rfl,rfl⟩,?_⟩
  rintro x v ⟨rfl,rfl⟩
  exact br_dec (fun h=>by omega) fun _=>⟨by trivial,hu,ho⟩
 refine key.mono ?_
 rintro _ w' ⟨rfl,hr⟩
 exact ⟨rfl,by trivial,hr⟩
theorem takenRaw_length (P:Pool) (c:Chip) (n:Nat):(takenRaw P c n).length≤n:=by
 unfold takenRaw
 exact Nat.le_trans (List.length_filterMap_le _ _) (by simp)
theorem takenRaw_succ (P:Pool) (c:Chip) (n:Nat):takenRaw P c (n+1)=takenRaw P c n ++ if (P.blk n).what=2 then [⟨n,(P.blk n).head,c.isBad n⟩] else []:=by
 unfold takenRaw
 rw [List.range_succ,List.filterMap_append]
 congr 1
 simp only [List.filterMap_cons,List.filterMap_nil]
 split<;>simp_all
theorem takenRaw_block {P:Pool} {c:Chip} {n:Nat} {t:Taken} (h:t∈takenRaw P c n):t.block<n:=by
 unfold takenRaw at h
 rw [List.mem_filterMap] at h
 obtain ⟨i,hi,h⟩:=h
 split at h
 ·simp at h hi
  rw [← h];exact hi
 ·cases h
theorem pool_Taken_spec {w:World} {M:PLoc} {P:Pool} {c:Chip} {L:Loc} {G:Nat→Prop} (h:PC w M P c L G) (hnb:c.nb<20) :
  CallsR prog K.pool_Pool_Taken #[.pointer (some ⟨M.q,0,none⟩)] w fun v w'=>Ext w w'∧∃ a cap,v= .slice a (takenPool P c).length cap∧OwnAt w' a (takenPool P c).length cap T.api_Taken 5 ((takenPool P c).flatMap Taken.vals)∧Fresh w a:=by
 apply pool_Pool_Taken.sh
 unfold pool_Pool_Taken.body
 refine (pool_off_spec h).mono ?_
 rintro _ _ ⟨rfl,rfl⟩
 rename_i w
 refine ⟨_,rfl,?_⟩
 simp only [br_false,nilC_some',add_lit]
 refine ⟨_,_,_,cell_of h.head rfl,?_⟩
 refine ⟨fun a l cap x u=>∃ i:Nat,x=i∧i≤c.nb∧l=(takenRaw P c i).length∧Ext w u∧OwnAt u a (takenRaw P c i).length cap T.api_Taken 5 ((takenRaw P c i).flatMap Taken.vals)∧Fresh w a,fun _ _ _ x _=>(c.nb - x).toNat,
  ⟨0,rfl,by omega,rfl,Upd.refl _ _,OwnAt.nil _ _ _,Fresh.none _⟩,?_⟩
 rintro a l cap x u ⟨i,rfl,hi,rfl,hu,ho,hf⟩
 have hpu:=h.ext hu
 refine br_dec (fun hlt=>?_) fun hge=>?_
 ·have hi':i<c.nb:=by omega
  have e1:IntKind.i64.wrap ((i:Int)+1)=((i+1:Nat):Int):=w64 (by omega) (by omega)
  have hlen:=takenRaw_length P c i
  have hsucc:=takenRaw_succ P c i
  refine hpu.idx hi' fun hr=>?_
  refine ⟨(P.blk i).what,(P.blk i).head.kind.toNat,(P.blk i).head.era,(P.blk i).head.seq,RowAt.cells hr,fun B w₃ hn3=>?_⟩
  refine store_of hn3.get (by simp) fun w₄ hput4=>?_
  have hB:B=u.heap.size:=hn3.num
  have hsu:=hu.size
  have e34:Ext u w₄:=Put.upd hn3.upd hput4 (.inl (by omega))
  have e4:=hu.trans e34
  have hg4:=hput4.get
  rw [splice_all _ _ (by simp)] at hg4
  have hp4:=h.ext e4
  refine ⟨(P.blk i).what,cell_of hg4 rfl,br_eq (fun h2=>?_) fun h2=>?_⟩
  ·rw [if_pos (by omega)] at hsucc
   intro w₅ hd5
   have e5:=e4.trans hd5.upd
   have hp5:=h.ext e5
   have hg5:=Ext.get hd5.upd hg4
   have hs3:=hn3.size
   have hs4:=hput4.size
   have hown:∀ b,a=some ⟨b,0,none⟩→w.heap.size≤b∧b<u.heap.size:=fun b hb=>⟨hf _ hb,OwnAt.blk ho hb⟩
   have hqw:M.q<w.heap.size:=(Array.getElem?_eq_some_iff.1 h.head).1
   refine ⟨fun v=>Upd (fun b=>a=some ⟨b,0,none⟩) w₅ v,Upd.refl _ _,(P.blk i).head.kind.toNat,(P.blk i).head.era,(P.blk i).head.seq,fun v hv=>?_,_,fun v hv=>cell_of (hv.get hp5.head (fun e=>by have:=hown _ e;omega)) rfl,?_⟩
   ·have:=hv.get hg5 (fun e=>by have:=hown _ e;omega)
    exact cellsAt_of (o:=1) this (fun j v hj=>by
     match j,hj with
     | 0,hj=>simpa using hj
     | 1,hj=>simpa using hj
     | 2,hj=>simpa using hj
     | j+3,hj=>simp at hj)
   refine (nand_Bad_spec hp5.chip _).mono ?_
   rintro _ _ ⟨rfl,rfl⟩
   rename_i w₅
   have hd0:decide ((0:Int)≤((i:Nat):Int))=true:=decide_eq_true (by omega)
   refine ⟨_,rfl,Upd.refl _ _,?_⟩
   rw [hd0,Bool.true_and,Int.toNat_natCast]
   intro B2 w₇ hn7
   refine ⟨Upd.ext hn7.upd,?_⟩
   have ho7:OwnAt w₇ a (takenRaw P c i).length cap T.api_Taken 5 ((takenRaw P c i).flatMap Taken.vals):=OwnAt.ext ho ((e34.trans hd5.upd).trans hn7.upd)
   refine append_flat (f:=Taken.vals) Taken.vals_length (x:=⟨i,(P.blk i).head,c.isBad i⟩) ho7 (by simp [Taken.vals]) hn7 rfl (by intro v hv;simp [Taken.vals] at hv;rcases hv with rfl | rfl | rfl | rfl | rfl<;>rfl) rfl (by omega) (by omega) fun a' c' w₈ hu8 ho8 hf8=>?_
   rw [← hsucc] at ho8 ⊢
   have e7:=e5.trans hn7.upd
   refine ⟨(Upd.ext hn7.upd).trans hu8,⟨i+1,e1,hi',rfl,Upd.beyond e7 hu8 (fun x hx=>(hown x hx).1),ho8,?_⟩,by rw [e1];exact meas hi'⟩
   rcases hf8 with rfl | ⟨b,rfl,hb⟩
   ·exact hf
   ·exact Fresh.some (by have:=e7.size;omega)
  ·rw [if_neg (by omega),List.append_nil] at hsucc
   refine ⟨⟨i+1,e1,hi',by rw [hsucc],e4,by rw [hsucc];exact OwnAt.ext ho e34,hf⟩,by rw [e1];exact meas hi'⟩
 ·have:i=c.nb:=by omega
  subst this
  have hlen:=takenRaw_length P c c.nb
  refine (sortStable_spec (cp:=cap) ho (fun t ht=>by have:=takenRaw_block ht;omega) (by omega)).mono ?_
  rintro _ w₉ ⟨rfl,hu9,ho9⟩
  have e9:Ext w w₉:=Upd.beyond hu hu9 (fun x hx=>hf _ hx)
  refine ⟨rfl,e9,a,cap,?_,ho9,hf⟩
  unfold takenPool
  rw [isort_length]
def refHead (c:Chip) (i:Int):Head×Bool:=if c.ask i 0≠0 then (Head.none,false) else ((getHead (c.page i.toNat 0)).1,decide ((getHead (c.page i.toNat 0)).2=0))
def refBlanks (c:Chip):Nat:=((List.range c.nb).filter fun i:Nat=> !(refHead c i).2 && !c.isBad i).length
section
set_option maxRecDepth 100000
def newChip (nb np sz sp:Nat):Chip:=⟨nb,np,sz,sp,List.replicate nb (List.replicate (np * sz) 255),List.replicate nb false,[],0,false,0⟩
end
def CIn (F:Nat→Prop) (A:Nat) (w:World) (p:Nat) (c:Chip):Prop:=∃ L G,ChipRep w p c L G∧(∀ x,x∈p :: L.bb :: L.locs→F x)∧∀ x,G x→A≤x∧x<w.heap.size
def PIn (F:Nat→Prop) (A:Nat) (w:World) (M:PLoc) (P:Pool) (c:Chip):Prop:=∃ L G,PC w M P c L G∧(∀ x,PF M L x→F x)∧∀ x,G x→A≤x∧x<w.heap.size
abbrev Bet (A S:Nat):Nat→Prop:=fun x=>A≤x∧x<S
abbrev CAt (A S:Nat) (w:World) (p:Nat) (c:Chip):Prop:=CIn (Bet A S) A w p c
abbrev PAt (A S:Nat) (w:World) (M:PLoc) (P:Pool) (c:Chip):Prop:=PIn (Bet A S) A w M P c
theorem CIn.ext {F:Nat→Prop} {A:Nat} {w w':World} {p:Nat} {c:Chip} (h:CIn F A w p c) (k:Ext w w'):CIn F A w' p c:=by
 obtain ⟨L,G,hr,hF,hG⟩:=h
 exact ⟨L,G,hr.ext k,hF,fun x hx=>⟨(hG x hx).1,Nat.lt_of_lt_of_le (hG x hx).2 k.size⟩⟩
theorem PIn.ext {F:Nat→Prop} {A:Nat} {w w':World} {M:PLoc} {P:Pool} {c:Chip} (h:PIn F A w M P c) (k:Ext w w'):PIn F A w' M P c:=by
 obtain ⟨L,G,hr,hF,hG⟩:=h
 exact ⟨L,G,hr.ext k,hF,fun x hx=>⟨(hG x hx).1,Nat.lt_of_lt_of_le (hG x hx).2 k.size⟩⟩
theorem PIn.chip {F:Nat→Prop} {A:Nat} {w:World} {M:PLoc} {P:Pool} {c:Chip} (h:PIn F A w M P c):CIn F A w M.p c:=by
 obtain ⟨L,G,hr,hF,hG⟩:=h
 exact ⟨L,G,hr.chip,fun x hx=>hF x (.inr (.inr hx)),hG⟩
theorem CIn.ok {F:Nat→Prop} {A:Nat} {w:World} {p:Nat} {c:Chip} (h:CIn F A w p c):c.Ok:=by
 obtain ⟨L,G,hr,hF,hG⟩:=h
 exact hr.ok
theorem CIn.mono {F F':Nat→Prop} {A:Nat} {w:World} {p:Nat} {c:Chip} (h:CIn F A w p c) (hf:∀ x,F x→F' x):CIn F' A w p c:=by
 obtain ⟨L,G,hr,hF,hG⟩:=h
 exact ⟨L,G,hr,fun x hx=>hf x (hF x hx),hG⟩
theorem PIn.mono {F F':Nat→Prop} {A:Nat} {w:World} {M:PLoc} {P:Pool} {c:Chip} (h:PIn F A w M P c) (hf:∀ x,F x→F' x):PIn F' A w M P c:=by
 obtain ⟨L,G,hr,hF,hG⟩:=h
 exact ⟨L,G,hr,fun x hx=>hf x (hF x hx),hG⟩
theorem CAt.ext {A S:Nat} {w w':World} {p:Nat} {c:Chip} (h:CAt A S w p c) (k:Ext w w'):CAt A S w' p c:=by
 obtain ⟨L,G,hr,hF,hG⟩:=h
 exact ⟨L,G,hr.ext k,hF,fun x hx=>⟨(hG x hx).1,Nat.lt_of_lt_of_le (hG x hx).2 k.size⟩⟩
theorem PAt.ext {A S:Nat} {w w':World} {M:PLoc} {P:Pool} {c:Chip} (h:PAt A S w M P c) (k:Ext w w'):PAt A S w' M P c:=by
 obtain ⟨L,G,hr,hF,hG⟩:=h
 exact ⟨L,G,hr.ext k,hF,fun x hx=>⟨(hG x hx).1,Nat.lt_of_lt_of_le (hG x hx).2 k.size⟩⟩
theorem PAt.chip {A S:Nat} {w:World} {M:PLoc} {P:Pool} {c:Chip} (h:PAt A S w M P c):CAt A S w M.p c:=by
 obtain ⟨L,G,hr,hF,hG⟩:=h
 exact ⟨L,G,hr.chip,fun x hx=>hF x (.inr (.inr hx)),hG⟩
theorem CAt.ok {A S:Nat} {w:World} {p:Nat} {c:Chip} (h:CAt A S w p c):c.Ok:=by
 obtain ⟨L,G,hr,hF,hG⟩:=h
 exact hr.ok
theorem PAt.size {A S:Nat} {w:World} {M:PLoc} {P:Pool} {c:Chip} (h:PAt A S w M P c):M.q<w.heap.size:=by
 obtain ⟨L,G,hr,hF,hG⟩:=h
 exact (Array.getElem?_eq_some_iff.1 hr.head).1
theorem CAt.of {w w':World} {p:Nat} {c:Chip} {A:Nat} (h:ChipAt w' p c (fun x=>w.heap.size≤x∧x<w'.heap.size)) (hA:A≤w.heap.size):CAt A w'.heap.size w' p c:=by
 obtain ⟨L,G,hr,hF,hG,_⟩:=h
 exact ⟨L,G,hr,fun x hx=>⟨Nat.le_trans hA (hF x hx).1,(hF x hx).2⟩,fun x hx=>⟨Nat.le_trans hA (hG x hx).1,(hG x hx).2⟩⟩
theorem cScanF {F:Nat→Prop} {A:Nat} {w:World} {p:Nat} {c:Chip} (h:CIn F A w p c) :
  CallsR prog K.pool_Scan #[.pointer (some ⟨p,0,none⟩)] w fun v w'=>Ext w w'∧
   if c.dead then v= .tuple #[.pointer none,.int .i64 10]
   else ∃ M:PLoc,M.p=p∧v= .tuple #[.pointer (some ⟨M.q,0,none⟩),.int .i64 0]∧PIn (fun x=>F x∨(w.heap.size≤x∧x<w'.heap.size)) A w' M (scanPool c) c:=by
 obtain ⟨L,G,hr,hF,hG⟩:=h
 refine (pool_Scan_spec hr (fun x hx=>(hG x hx).2)).mono ?_
 rintro v w' ⟨he,hv⟩
 refine ⟨he,?_⟩
 split at hv
 ·rename_i hd
  rw [if_pos hd];exact hv
 ·rename_i hd
  rw [if_neg hd]
  obtain ⟨q,pb,rfl,hq,hpb,hq',hpb',hp⟩:=hv
  refine ⟨⟨q,pb,c.nb,p⟩,rfl,rfl,L,G,hp,fun x hx=>?_,fun x hx=>⟨(hG x hx).1,Nat.lt_of_lt_of_le (hG x hx).2 he.size⟩⟩
  rcases hx with hx | hx | hx
  ·have:x=q:=hx
   exact .inr (by omega)
  ·have:x=pb:=hx
   exact .inr (by omega)
  ·exact .inl (hF x hx)
theorem pBlanks {F:Nat→Prop} {A:Nat} {w:World} {M:PLoc} {P:Pool} {c:Chip} (h:PIn F A w M P c) :
  CallsR prog K.pool_Pool_Blanks #[.pointer (some ⟨M.q,0,none⟩)] w fun v w'=>v= .int .i64 (blanksPool P c:Nat)∧Ext w w':=by
 obtain ⟨L,G,hr,hF,hG⟩:=h
 exact pool_Blanks_spec hr
theorem pLast {F:Nat→Prop} {A:Nat} {w:World} {M:PLoc} {P:Pool} {c:Chip} (h:PIn F A w M P c) :
  CallsR prog K.pool_Pool_Last #[.pointer (some ⟨M.q,0,none⟩)] w fun v w'=>v= .int .u64 (P.last:Nat)∧w'=w:=by
 obtain ⟨L,G,hr,hF,hG⟩:=h
 exact pool_Last_spec hr
theorem pChip {F:Nat→Prop} {A:Nat} {w:World} {M:PLoc} {P:Pool} {c:Chip} (h:PIn F A w M P c) :
  CallsR prog K.pool_Pool_Chip #[.pointer (some ⟨M.q,0,none⟩)] w fun v w'=>v= .pointer (some ⟨M.p,0,none⟩)∧w'=w:=by
 obtain ⟨L,G,hr,hF,hG⟩:=h
 exact pool_Chip_spec hr
def TakenAt (w w':World) (v:Value) (l:List Taken):Prop:=∃ a cap,v= .slice a l.length cap∧OwnAt w' a l.length cap T.api_Taken 5 (l.flatMap Taken.vals)∧Fresh w a
theorem pTaken {F:Nat→Prop} {A:Nat} {w:World} {M:PLoc} {P:Pool} {c:Chip} (h:PIn F A w M P c) (hnb:c.nb<20) {l:List Taken} (hl:takenPool P c=l) :
  CallsR prog K.pool_Pool_Taken #[.pointer (some ⟨M.q,0,none⟩)] w fun v w'=>Ext w w'∧TakenAt w w' v l:=by
 subst hl
 obtain ⟨L,G,hr,hF,hG⟩:=h
 exact pool_Taken_spec hr hnb
theorem cBad {F:Nat→Prop} {A:Nat} {w:World} {p:Nat} {c:Chip} (h:CIn F A w p c) (i:Int) :
  CallsR prog K.nand_Chip_Bad #[.pointer (some ⟨p,0,none⟩),.int .i64 i] w fun v w'=>v= .bool (decide (0≤i) && c.isBad i.toNat)∧w'=w:=by
 obtain ⟨L,G,hr,hF,hG⟩:=h
 exact nand_Bad_spec hr i
theorem takePool_geo (P:Pool) (c:Chip) (kind:UInt8) (era:Nat):c.SameGeo (takePool P c kind era).chip:=by
 have go:∀ (ks:List Nat) (P:Pool) (c:Chip),c.SameGeo (takeGo kind era P c ks).chip:=by
  intro ks
  induction ks with
  | nil=>intro P c;exact .refl _
  | cons k ks ih =>
   intro P c
   unfold takeGo
   split
   ·exact ih P c
   ·split
    ·exact tryBlk_geo _ _ _ _ _
    ·split
     ·exact tryBlk_geo _ _ _ _ _
     ·exact (tryBlk_geo P c _ kind era).trans (ih _ _)
 unfold takePool
 split
 ·exact .refl _
 ·split
  ·exact .refl _
  ·exact go _ _ _
theorem new_put {w:World} {cs:Array Value} {T:TypeId} {vs:List Value} {K:Nat→World→Prop} (hl:vs.length=cs.size)
  (hk:∀ B w2,B=w.heap.size→w2.heap.size=w.heap.size+1→Ext w w2→w2.heap[B]?=some (.cells vs.toArray T (0,0))→K B w2) :
  ∀ (B:Nat) (w1:World),New w (.cells cs T) B w1→storeP w1 ⟨B,0,none⟩ vs (fun w2=>K B w2):=by
 intro B w1 hn
 refine store_of hn.get (by simp [hl]) fun w2 hp=>?_
 have hB:B=w.heap.size:=hn.num
 refine hk B w2 hB (by rw [hp.size,hn.size]) (Put.upd hn.upd hp (.inl (by omega))) ?_
 have:=hp.get
 rwa [splice_all _ _ hl.symm] at this
theorem cells_all {w:World} {B:Nat} {vs:List Value} {T:TypeId} {fr:Nat×Nat} (h:w.heap[B]?=some (.cells vs.toArray T fr)):cellsAt w ⟨B,0,none⟩ vs 0 :=
 cellsAt_of (o:=0) h fun j v hj=>by simpa using hj
theorem put_all {w:World} {B:Nat} {cs:Array Value} {vs:List Value} {T:TypeId} {K:World→Prop} (h:w.heap[B]?=some (.cells cs T (0,0))) (hl:vs.length=cs.size)
  (hk:∀ w2,Upd (·=B) w w2→w2.heap.size=w.heap.size→w2.heap[B]?=some (.cells vs.toArray T (0,0))→K w2):storeP w ⟨B,0,none⟩ vs K:=by
 refine store_of h (by simp [hl]) fun w2 hp=>hk w2 hp.upd1 hp.size ?_
 have:=hp.get
 rwa [splice_all _ _ hl.symm] at this
theorem exists_least {Q:Nat→Prop} (h:∃ n,Q n):∃ n,Q n∧∀ m,Q m→n≤m:=by
 obtain ⟨n,hn⟩:=h
 induction n using Nat.strongRecOn with
 | _ n ih =>
  by_cases hx:∃ m,m<n∧Q m
  ·obtain ⟨m,h1,h2⟩:=hx
   exact ih m h1 h2
  ·exact ⟨n,hn,fun m hm=>Nat.le_of_not_lt fun hlt=>hx ⟨m,hlt,hm⟩⟩
open Classical in
noncomputable def least (Q:Nat→Prop):Nat:=if h:∃ n,Q n then Classical.choose (exists_least h) else 0
theorem least_spec {Q:Nat→Prop} (h:∃ n,Q n):Q (least Q)∧∀ m,Q m→least Q≤m:=by
 unfold least
 rw [dif_pos h]
 exact Classical.choose_spec (exists_least h)
def LJ (J':Nat→World→Prop):World→Prop:=fun u=>∃ n,J' n u
noncomputable def Lμ (J':Nat→World→Prop):World→Nat:=fun u=>least fun n=>J' n u
theorem loop_step {J':Nat→World→Prop} {u:World} (h:LJ J' u):∃ n,J' n u∧∀ m u',m<n→J' m u'→LJ J' u'∧Lμ J' u' < Lμ J' u:=by
 obtain ⟨h1,_⟩:=least_spec (Q:=fun n=>J' n u) h
 refine ⟨_,h1,fun m u' hm hj=>⟨⟨m,hj⟩,?_⟩⟩
 exact Nat.lt_of_le_of_lt ((least_spec (Q:=fun n=>J' n u') ⟨m,hj⟩).2 m hj) hm
theorem u8b (x y:UInt8):((x.toNat:Int) == (y.toNat:Int))=(x == y):=by
 rw [Bool.eq_iff_iff]
 simp only [beq_iff_eq,Int.natCast_inj,UInt8.toNat_inj]
section
structure ERep (α:Type) where
 k:Nat
 R:World→(Nat→Prop)→List Value→α→Prop
 pos:1≤k
 len:∀ {w G vs x},R w G vs x→vs.length=k
 one:∀ {w G vs x},R w G vs x→∀ v∈vs,v.oneCell'=true
 upd:∀ {w w' F G vs x},R w G vs x→Upd F w w'→(∀ b,G b→¬ F b)→R w' G vs x
 mono:∀ {w G G' vs x},R w G vs x→(∀ b,G b→G' b)→R w G' vs x
 cells:∀ {w w' G vs x},R w G vs x→CellsLe w w'→R w' G vs x
section
variable {α:Type} (r:ERep α)
theorem ERep.ext {r:ERep α} {w w':World} {G:Nat→Prop} {vs:List Value} {x:α} (h:r.R w G vs x) (k:Ext w w'):r.R w' G vs x:=r.upd h k fun _ _ hf=>hf
def Rows (w:World) (G:Nat→Prop):List Value→List α→Prop
 | vs,[]=>vs=[]
 | vs,x :: l=>∃ u t,vs=u ++ t∧r.R w G u x∧Rows w G t l
variable {r}
theorem Rows.len {w:World} {G:Nat→Prop}:∀ {l:List α} {vs:List Value},Rows r w G vs l→vs.length=l.length * r.k
 | [],vs,h=>by cases h;simp
 | x :: l,vs,⟨u,t,e,hu,ht⟩=>by rw [e,List.length_append,r.len hu,Rows.len ht,List.length_cons,Nat.succ_mul];omega
theorem Rows.one {w:World} {G:Nat→Prop}:∀ {l:List α} {vs:List Value},Rows r w G vs l→∀ v∈vs,v.oneCell'=true
 | [],vs,h=>by cases h;simp
 | x :: l,vs,⟨u,t,e,hu,ht⟩=>by
  intro v hv
  rw [e,List.mem_append] at hv
  rcases hv with hv | hv
  ·exact r.one hu v hv
  ·exact Rows.one ht v hv
theorem Rows.upd {w w':World} {F G:Nat→Prop} (k:Upd F w w') (hf:∀ b,G b→¬ F b):∀ {l:List α} {vs:List Value},Rows r w G vs l→Rows r w' G vs l
 | [],vs,h=>h
 | x :: l,vs,⟨u,t,e,hu,ht⟩=>⟨u,t,e,r.upd hu k hf,Rows.upd k hf ht⟩
theorem Rows.ext {w w':World} {G:Nat→Prop} {l:List α} {vs:List Value} (h:Rows r w G vs l) (k:Ext w w'):Rows r w' G vs l:=Rows.upd k (fun _ _ hf=>hf) h
theorem Rows.mono {w:World} {G G':Nat→Prop} (hg:∀ b,G b→G' b):∀ {l:List α} {vs:List Value},Rows r w G vs l→Rows r w G' vs l
 | [],vs,h=>h
 | x :: l,vs,⟨u,t,e,hu,ht⟩=>⟨u,t,e,r.mono hu hg,Rows.mono hg ht⟩
theorem Rows.cellsLe {w w':World} {G:Nat→Prop} (k:CellsLe w w'):∀ {l:List α} {vs:List Value},Rows r w G vs l→Rows r w' G vs l
 | [],vs,h=>h
 | x :: l,vs,⟨u,t,e,hu,ht⟩=>⟨u,t,e,r.cells hu k,Rows.cellsLe k ht⟩
theorem Rows.append {w:World} {G:Nat→Prop}:∀ {l m:List α} {vs us:List Value},Rows r w G vs l→Rows r w G us m→Rows r w G (vs ++ us) (l ++ m)
 | [],m,vs,us,h,h2=>by cases h;simpa using h2
 | x :: l,m,vs,us,⟨u,t,e,hu,ht⟩,h2=>⟨u,t ++ us,by rw [e,List.append_assoc],hu,Rows.append ht h2⟩
theorem Rows.single {w:World} {G:Nat→Prop} {vs:List Value} {x:α} (h:r.R w G vs x):Rows r w G vs [x]:=⟨vs,[],by simp,h,rfl⟩
theorem Rows.drop {w:World} {G:Nat→Prop}:∀ {l:List α} {vs:List Value} (i:Nat),Rows r w G vs l→Rows r w G (vs.drop (i * r.k)) (l.drop i)
 | l,vs,0,h=>by simpa using h
 | [],vs,i+1,h=>by cases h;simp;rfl
 | x :: l,vs,i+1,⟨u,t,e,hu,ht⟩=>by
  have hl:=r.len hu
  rw [e,List.drop_succ_cons,Nat.succ_mul,Nat.add_comm,← List.drop_drop]
  have:(u ++ t).drop r.k=t:=by rw [← hl];simp
  rw [this]
  exact Rows.drop i ht
theorem Rows.take {w:World} {G:Nat→Prop}:∀ {l:List α} {vs:List Value} (i:Nat),Rows r w G vs l→Rows r w G (vs.take (i * r.k)) (l.take i)
 | l,vs,0,h=>by simp;rfl
 | [],vs,i+1,h=>by cases h;simp;rfl
 | x :: l,vs,i+1,⟨u,t,e,hu,ht⟩=>by
  have hl:=r.len hu
  rw [e,List.take_succ_cons,Nat.succ_mul,Nat.add_comm,List.take_append,hl]
  rw [List.take_of_length_le (by omega)]
  exact ⟨u,_,rfl,hu,by rw [Nat.add_sub_cancel_left];exact Rows.take i ht⟩
theorem Rows.get {w:World} {G:Nat→Prop} {l:List α} {vs:List Value} (h:Rows r w G vs l) {i:Nat} (hi:i<l.length):r.R w G ((vs.drop (i * r.k)).take r.k) l[i]:=by
 have h1:=Rows.drop i h
 rw [List.drop_eq_getElem_cons hi] at h1
 obtain ⟨u,t,e,hu,ht⟩:=h1
 have hl:=r.len hu
 rw [e,← hl]
 simpa using hu
theorem Rows.set {w:World} {G:Nat→Prop} {l:List α} {vs us:List Value} (h:Rows r w G vs l) {i:Nat} (hi:i<l.length) {x:α} (hx:r.R w G us x):Rows r w G (vs.take (i * r.k) ++ us ++ vs.drop (i * r.k+r.k)) (l.set i x):=by
 rw [List.set_eq_take_append_cons_drop,if_pos hi]
 have e:l.take i ++ x :: l.drop (i+1)=(l.take i ++ [x]) ++ l.drop (i+1):=by simp
 rw [e,← Nat.succ_mul]
 exact ((Rows.take i h).append (Rows.single hx)).append (Rows.drop (i+1) h)
variable (r)
def SliceAt (w:World) (G:Nat→Prop) (a:Option Addr) (l:List α):Prop:=∃ vs,RowAt w a vs∧Rows r w G vs l∧(l≠[]→∀ p,a=some p→G p.block)
def OwnS (w:World) (G:Nat→Prop) (a:Option Addr) (cap:Nat) (e:TypeId) (l:List α):Prop:=∃ vs,OwnAt w a l.length cap e r.k vs∧Rows r w G vs l
variable {r}
theorem SliceAt.nil (w:World) (G:Nat→Prop) (a:Option Addr):SliceAt r w G a []:=⟨[],RowAt.nil _ _,rfl,fun h=>(h rfl).elim⟩
theorem SliceAt.upd {w w':World} {F G:Nat→Prop} {a:Option Addr} {l:List α} (h:SliceAt r w G a l) (k:Upd F w w') (hf:∀ b,G b→¬ F b):SliceAt r w' G a l:=by
 obtain ⟨vs,h1,h2,h3⟩:=h
 cases l with
 | nil=>exact SliceAt.nil _ _ _
 | cons x l=>exact ⟨vs,RowAt.upd h1 k (fun p hp=>hf _ (h3 (by simp) p hp)),Rows.upd k hf h2,h3⟩
theorem SliceAt.ext {w w':World} {G:Nat→Prop} {a:Option Addr} {l:List α} (h:SliceAt r w G a l) (k:Ext w w'):SliceAt r w' G a l:=SliceAt.upd h k fun _ _ hf=>hf
theorem SliceAt.cellsLe {w w':World} {G:Nat→Prop} {a:Option Addr} {l:List α} (h:SliceAt r w G a l) (k:CellsLe w w'):SliceAt r w' G a l:=by
 obtain ⟨vs,h1,h2,h3⟩:=h
 exact ⟨vs,RowAt.cellsLe h1 k,Rows.cellsLe k h2,h3⟩
theorem SliceAt.mono {w:World} {G G':Nat→Prop} {a:Option Addr} {l:List α} (h:SliceAt r w G a l) (hg:∀ b,G b→G' b):SliceAt r w G' a l:=by
 obtain ⟨vs,h1,h2,h3⟩:=h
 exact ⟨vs,h1,Rows.mono hg h2,fun hn p hp=>hg _ (h3 hn p hp)⟩
theorem SliceAt.take {w:World} {G:Nat→Prop} {a:Option Addr} {l:List α} (h:SliceAt r w G a l) (i:Nat):SliceAt r w G a (l.take i):=by
 obtain ⟨vs,h1,h2,h3⟩:=h
 exact ⟨_,RowAt.take h1 (i * r.k),Rows.take i h2,fun hn=>h3 (fun e=>hn (by rw [e];simp))⟩
theorem SliceAt.drop {w:World} {G:Nat→Prop} {b o:Nat} {l:List α} (h:SliceAt r w G (some ⟨b,o,none⟩) l) (i:Nat):SliceAt r w G (some ⟨b,o+i * r.k,none⟩) (l.drop i):=by
 obtain ⟨vs,h1,h2,h3⟩:=h
 refine ⟨_,RowAt.drop h1 (i * r.k),Rows.drop i h2,fun hn p hp=>?_⟩
 cases hp
 exact h3 (fun e=>hn (by rw [e];simp)) ⟨b,o,none⟩ rfl
theorem SliceAt.blk {w:World} {G:Nat→Prop} {a:Option Addr} {l:List α} (h:SliceAt r w G a l) (hn:l≠[]):∃ b o,a=some ⟨b,o,none⟩∧b<w.heap.size∧G b:=by
 obtain ⟨vs,h1,h2,h3⟩:=h
 have hl:=Rows.len h2
 have:vs≠[]:=List.ne_nil_of_length_pos (by rw [hl];exact Nat.mul_pos (List.length_pos_iff.2 hn) r.pos)
 obtain ⟨b,o,e,hb⟩:=RowAt.blk h1 this
 exact ⟨b,o,e,hb,h3 hn _ e⟩
theorem SliceAt.idx {w:World} {G:Nat→Prop} {a:Option Addr} {l:List α} (h:SliceAt r w G a l) {n i:Nat} (hn:n=l.length) (hi:i<l.length) {K:Addr→Prop}
  (hk:∀ b o vs,a=some ⟨b,o,none⟩→RowAt w (some ⟨b,o+i * r.k,none⟩) vs→r.R w G vs l[i]→G b→K ⟨b,o+i * r.k,none⟩):idxP a n (i:Int) r.k K:=by
 subst hn
 refine ⟨by omega,by omega,?_⟩
 obtain ⟨b,o,rfl,hb,hG⟩:=h.blk (List.ne_nil_of_length_pos (by omega))
 obtain ⟨vs,h1,h2,h3⟩:=h
 simp only [nilC_some',add_lit,Int.toNat_natCast]
 exact hk b o _ rfl (RowAt.take (RowAt.drop h1 (i * r.k)) r.k) (h2.get hi) hG
theorem OwnS.nil (w:World) (G:Nat→Prop) (e:TypeId):OwnS r w G none 0 e []:=⟨[],OwnAt.nil _ _ _,rfl⟩
theorem OwnS.upd {w w':World} {F G:Nat→Prop} {a:Option Addr} {cap:Nat} {e:TypeId} {l:List α} (h:OwnS r w G a cap e l) (k:Upd F w w') (hf:∀ b,G b→¬ F b) (ha:∀ b,a=some ⟨b,0,none⟩→¬ F b):OwnS r w' G a cap e l:=by
 obtain ⟨vs,h1,h2⟩:=h
 exact ⟨vs,OwnAt.upd h1 k ha,Rows.upd k hf h2⟩
theorem OwnS.ext {w w':World} {G:Nat→Prop} {a:Option Addr} {cap:Nat} {e:TypeId} {l:List α} (h:OwnS r w G a cap e l) (k:Ext w w'):OwnS r w' G a cap e l:=OwnS.upd h k (fun _ _ hf=>hf) (fun _ _ hf=>hf)
theorem OwnS.cellsLe {w w':World} {G:Nat→Prop} {a:Option Addr} {cap:Nat} {e:TypeId} {l:List α} (h:OwnS r w G a cap e l) (k:CellsLe w w'):OwnS r w' G a cap e l:=by
 obtain ⟨vs,h1,h2⟩:=h
 exact ⟨vs,h1.cellsLe k,Rows.cellsLe k h2⟩
theorem OwnS.mono {w:World} {G G':Nat→Prop} {a:Option Addr} {cap:Nat} {e:TypeId} {l:List α} (h:OwnS r w G a cap e l) (hg:∀ b,G b→G' b):OwnS r w G' a cap e l:=by
 obtain ⟨vs,h1,h2⟩:=h
 exact ⟨vs,h1,Rows.mono hg h2⟩
theorem OwnS.at_ {w:World} {G:Nat→Prop} {a:Option Addr} {cap:Nat} {e:TypeId} {l:List α} (h:OwnS r w G a cap e l) (hg:∀ p,a=some p→G p.block):SliceAt r w G a l:=by
 obtain ⟨vs,h1,h2⟩:=h
 exact ⟨vs,h1.row,h2,fun _=>hg⟩
theorem OwnS.cap {w:World} {G:Nat→Prop} {a:Option Addr} {cap:Nat} {e:TypeId} {l:List α} (h:OwnS r w G a cap e l):l.length≤cap:=by
 obtain ⟨vs,h1,h2⟩:=h
 exact h1.2.1
theorem OwnS.blk {w:World} {G:Nat→Prop} {a:Option Addr} {cap:Nat} {e:TypeId} {l:List α} (h:OwnS r w G a cap e l) {q:Addr} (hq:a=some q):∃ b,a=some ⟨b,0,none⟩∧b<w.heap.size∧q=⟨b,0,none⟩:=by
 obtain ⟨vs,⟨_,_,hx⟩,h2⟩:=h
 rcases hx with ⟨hx,_⟩| ⟨b,cur,hx,hb,_⟩
 ·rw [hx] at hq;cases hq
 ·rw [hx] at hq;cases hq;exact ⟨b,hx,(Array.getElem?_eq_some_iff.1 hb).1,rfl⟩
theorem OwnS.push {w₀ w₁:World} {G:Nat→Prop} {a:Option Addr} {cap n bytes:Nat} {e:TypeId} {l:List α} {z:List Value} (h:OwnS r w₁ G a cap e l) {B:Nat} {x:α} {cs:Array Value} (hx:r.R w₁ G cs.toList x) (hn:New w₀ (.cells cs e) B w₁) (hnl:n=l.length)
  (hz:z.length=r.k) (hb:l.length≤1000000000) (hby:bytes≤10000) (hG:∀ b,a=some ⟨b,0,none⟩→¬ G b) {K:Option Addr→Nat→Nat→World→Prop}
  (hk:∀ a' c' w',Upd (fun b=>a=some ⟨b,0,none⟩) w₁ w'→OwnS r w' G a' c' e (l ++ [x])→(a'=a∨∃ b,a'=some ⟨b,0,none⟩∧w₁.heap.size≤b)→K a' (l ++ [x]).length c' w') :
  appendP e r.k bytes z a n cap (.slice (some ⟨B,0,none⟩) 1 1) w₁ K:=by
 subst hnl
 obtain ⟨vs,ho,hr⟩:=h
 have hl:=r.len hx
 have hrow:RowAt w₁ (some ⟨B,0,none⟩) cs.toList:=RowAt.of hn.get fun j v hj=>by simpa using hj
 refine append_own ho rfl (read_row hrow (by rw [hl];omega)) (by rw [hl];omega) (r.one hx) hz ?_ (by omega) fun a' c' w' hu ho' hf'=>?_
 ·have:(2 * (l.length+1)+192) * bytes≤(2 * (1000000000+1)+192) * 10000:=Nat.mul_le_mul (by omega) hby
  omega
 ·have:=hk a' c' w' hu ⟨_,by simpa using ho',Rows.upd hu (fun b hb hb'=>hG b hb' hb) (hr.append (Rows.single hx))⟩ hf'
  simpa using this
theorem OwnS.concat {w₁:World} {G:Nat→Prop} {a ax:Option Addr} {cap cx n m bytes:Nat} {e:TypeId} {l xs:List α} {z:List Value} (h:OwnS r w₁ G a cap e l) (hx:SliceAt r w₁ G ax xs) (hnl:n=l.length) (hm:m=xs.length)
  (hz:z.length=r.k) (hb:l.length+xs.length≤1000000000) (hby:bytes≤10000) (hG:∀ b,a=some ⟨b,0,none⟩→¬ G b) {K:Option Addr→Nat→Nat→World→Prop}
  (hk:∀ a' c' w',Upd (fun b=>a=some ⟨b,0,none⟩) w₁ w'→OwnS r w' G a' c' e (l ++ xs)→(a'=a∨∃ b,a'=some ⟨b,0,none⟩∧w₁.heap.size≤b)→K a' (l ++ xs).length c' w') :
  appendP e r.k bytes z a n cap (.slice ax m cx) w₁ K:=by
 subst hnl;subst hm
 obtain ⟨vs,ho,hr⟩:=h
 obtain ⟨us,hu1,hu2,hu3⟩:=hx
 refine append_own ho rfl (read_row hu1 (by rw [Rows.len hu2])) (by rw [Rows.len hu2]) (Rows.one hu2) hz ?_ (by omega) fun a' c' w' hu ho' hf'=>?_
 ·have:(2 * (l.length+xs.length)+192) * bytes≤(2 * 1000000000+192) * 10000:=Nat.mul_le_mul (by omega) hby
  omega
 ·have:=hk a' c' w' hu ⟨_,by simpa using ho',Rows.upd hu (fun b hb hb'=>hG b hb' hb) (hr.append hu2)⟩ hf'
  simpa using this
theorem OwnS.store {w:World} {G:Nat→Prop} {b cap:Nat} {e:TypeId} {l:List α} (h:OwnS r w G (some ⟨b,0,none⟩) cap e l) (hG:¬ G b) {i:Nat} (hi:i<l.length) {us:List Value} {x:α} (hx:r.R w G us x) {K:World→Prop}
  (hk:∀ w',Upd (·=b) w w'→OwnS r w' G (some ⟨b,0,none⟩) cap e (l.set i x)→K w'):storeP w ⟨b,i * r.k,none⟩ us K:=by
 obtain ⟨vs,ho,hr⟩:=h
 have hl:=r.len hx
 have hvl:=Rows.len hr
 have hin:i * r.k+r.k≤l.length * r.k:=by
  have:=Nat.mul_le_mul_right r.k (show i+1≤l.length from hi)
  rwa [Nat.succ_mul] at this
 refine own_store ho (by omega) fun w' hu ho'=>hk w' hu ⟨vs.take (i * r.k) ++ us ++ vs.drop (i * r.k+us.length),?_,?_⟩
 ·rw [List.length_set];exact ho'
 ·have:=Rows.upd hu (fun b' hb hb'=>hG (by subst hb';exact hb)) (hr.set hi hx)
  rw [hl];exact this
end
def flatR {α:Type} (f:α→List Value) (k:Nat) (hk:1≤k) (hl:∀ x,(f x).length=k) (h1:∀ x,∀ v∈f x,v.oneCell'=true):ERep α where
 k:=k
 R:=fun _ _ vs x=>vs=f x
 pos:=hk
 len:=fun h=>by rw [h,hl]
 one:=fun h=>by rw [h];exact h1 _
 upd:=fun h _ _=>h
 mono:=fun h _=>h
 cells:=fun h _=>h
def ERep.pair {α β γ:Type} (r:ERep β) (s:ERep γ) (f:α→β) (g:α→γ):ERep α where
 k:=r.k+s.k
 R:=fun w G vs x=>∃ u v,vs=u ++ v∧r.R w G u (f x)∧s.R w G v (g x)
 pos:=Nat.le_trans r.pos (Nat.le_add_right _ _)
 len:=fun ⟨u,v,e,hu,hv⟩=>by rw [e,List.length_append,r.len hu,s.len hv]
 one:=fun ⟨u,v,e,hu,hv⟩=>by
  rw [e]
  intro z hz
  rcases List.mem_append.1 hz with hz | hz
  ·exact r.one hu z hz
  ·exact s.one hv z hz
 upd:=fun ⟨u,v,e,hu,hv⟩ k hf=>⟨u,v,e,r.upd hu k hf,s.upd hv k hf⟩
 mono:=fun ⟨u,v,e,hu,hv⟩ hg=>⟨u,v,e,r.mono hu hg,s.mono hv hg⟩
 cells:=fun ⟨u,v,e,hu,hv⟩ k=>⟨u,v,e,r.cells hu k,s.cells hv k⟩
def sliceR {β:Type} (r:ERep β):ERep (List β) where
 k:=1
 R:=fun w G vs x=>∃ a c,vs=[.slice a x.length c]∧x.length≤c∧SliceAt r w G a x
 pos:=Nat.le_refl _
 len:=fun ⟨a,c,e,_⟩=>by rw [e];rfl
 one:=fun ⟨a,c,e,_⟩=>by
  rw [e]
  intro v hv
  simp at hv
  rw [hv];rfl
 upd:=fun ⟨a,c,e,hc,h⟩ k hf=>⟨a,c,e,hc,h.upd k hf⟩
 mono:=fun ⟨a,c,e,hc,h⟩ hg=>⟨a,c,e,hc,h.mono hg⟩
 cells:=fun ⟨a,c,e,hc,h⟩ k=>⟨a,c,e,hc,h.cellsLe k⟩
def bytesR:ERep (List UInt8) where
 k:=1
 R:=fun w G vs x=>∃ a c,vs=[.slice a x.length c]∧x.length≤c∧BytesAt w a x∧(x≠[]→∀ p,a=some p→G p.block)
 pos:=Nat.le_refl _
 len:=fun ⟨a,c,e,_⟩=>by rw [e];rfl
 one:=fun ⟨a,c,e,_⟩=>by
  rw [e]
  intro v hv
  simp at hv
  rw [hv];rfl
 upd:=fun {w w' F G vs x} ⟨a,c,e,hc,hb,hg⟩ k hf=>⟨a,c,e,hc,BytesAt.updM hb k hg hf,hg⟩
 mono:=fun ⟨a,c,e,hc,hb,hg⟩ hh=>⟨a,c,e,hc,hb,fun hn p hp=>hh _ (hg hn p hp)⟩
 cells:=fun ⟨a,c,e,hc,hb,hg⟩ k=>⟨a,c,e,hc,RowAt.cellsLe hb k,hg⟩
end
section
section
variable {α:Type}
def ListAt (r:ERep α) (Q:Nat→Prop) (S:Nat) (w:World) (a:Option Addr) (cap:Nat) (e:TypeId) (l:List α):Prop :=
 ∃ G,OwnS r w G a cap e l∧(∀ x,G x→(S≤x∨Q x)∧x<w.heap.size)∧∀ b,a=some ⟨b,0,none⟩→S≤b∧¬ G b
variable {r:ERep α} {Q:Nat→Prop} {S:Nat}
theorem ListAt.nil (w:World) (e:TypeId):ListAt r Q S w none 0 e []:=⟨NoB,OwnS.nil _ _ _,fun _ h=>h.elim,fun _ h=>by cases h⟩
theorem ListAt.ext {w w':World} {a:Option Addr} {cap:Nat} {e:TypeId} {l:List α} (h:ListAt r Q S w a cap e l) (k:Ext w w'):ListAt r Q S w' a cap e l:=by
 obtain ⟨G,h1,h2,h3⟩:=h
 exact ⟨G,h1.ext k,fun x hx=>⟨(h2 x hx).1,Nat.lt_of_lt_of_le (h2 x hx).2 k.size⟩,h3⟩
theorem ListAt.cellsLe {w w':World} {a:Option Addr} {cap:Nat} {e:TypeId} {l:List α} (h:ListAt r Q S w a cap e l) (k:CellsLe w w'):ListAt r Q S w' a cap e l:=by
 obtain ⟨G,h1,h2,h3⟩:=h
 exact ⟨G,h1.cellsLe k,fun x hx=>⟨(h2 x hx).1,Nat.lt_of_lt_of_le (h2 x hx).2 k.size⟩,h3⟩
theorem ListAt.upd {w w':World} {F:Nat→Prop} {a:Option Addr} {cap:Nat} {e:TypeId} {l:List α} (h:ListAt r Q S w a cap e l) (k:Upd F w w') (hF:∀ x,F x→x<S∧¬ Q x):ListAt r Q S w' a cap e l:=by
 obtain ⟨G,h1,h2,h3⟩:=h
 refine ⟨G,h1.upd k (fun b hb hf=>?_) (fun b hb hf=>?_),fun x hx=>⟨(h2 x hx).1,Nat.lt_of_lt_of_le (h2 x hx).2 k.size⟩,h3⟩
 ·have hf':=hF b hf
  rcases (h2 b hb).1 with hq | hq
  ·omega
  ·exact hf'.2 hq
 ·have hf':=hF b hf
  have:=(h3 b hb).1
  omega
theorem ListAt.lt {w:World} {a:Option Addr} {cap:Nat} {e:TypeId} {l:List α} (h:ListAt r Q S w a cap e l) {b:Nat} (hb:a=some ⟨b,0,none⟩):b<w.heap.size:=by
 obtain ⟨G,h1,_⟩:=h
 obtain ⟨b',h2,h3,h4⟩:=h1.blk hb
 cases h4
 exact h3
theorem ListAt.cap {w:World} {a:Option Addr} {cap:Nat} {e:TypeId} {l:List α} (h:ListAt r Q S w a cap e l):l.length≤cap:=by
 obtain ⟨G,h1,_⟩:=h
 exact h1.cap
theorem ListAt.slice {w:World} {a:Option Addr} {cap:Nat} {e:TypeId} {l:List α} (h:ListAt r Q S w a cap e l):∃ G,SliceAt r w G a l∧∀ x,G x→(S≤x∨Q x)∧x<w.heap.size:=by
 obtain ⟨G,h1,h2,h3⟩:=h
 refine ⟨fun x=>G x∨a=some ⟨x,0,none⟩,(h1.mono fun _ hb=>.inl hb).at_ fun p hp=>?_,fun x hx=>?_⟩
 ·obtain ⟨b,hb,_,rfl⟩:=h1.blk hp
  exact .inr hb
 ·rcases hx with hx | hx
  ·exact h2 x hx
  ·obtain ⟨b,hb,hlt,e⟩:=h1.blk hx
   cases e
   exact ⟨.inl (h3 _ hx).1,hlt⟩
theorem ListAt.weak {w:World} {Q':Nat→Prop} {S':Nat} {a:Option Addr} {cap:Nat} {e:TypeId} {l:List α} (h:ListAt r Q S w a cap e l) (hS:S'≤S) (hQ:∀ x,Q x→S'≤x∨Q' x):ListAt r Q' S' w a cap e l:=by
 obtain ⟨G,h1,h2,h3⟩:=h
 refine ⟨G,h1,fun x hx=>⟨?_,(h2 x hx).2⟩,fun b hb=>⟨Nat.le_trans hS (h3 b hb).1,(h3 b hb).2⟩⟩
 rcases (h2 x hx).1 with h | h
 ·exact .inl (Nat.le_trans hS h)
 ·exact hQ x h
theorem ListAt.push {w₀ w₁:World} {H:Nat→Prop} {a:Option Addr} {cap n bytes:Nat} {e:TypeId} {l:List α} {z:List Value} (h:ListAt r Q S w₁ a cap e l) {B:Nat} {x:α} {cs:Array Value} (hx:r.R w₁ H cs.toList x) (hH:∀ b,H b→(S≤b∨Q b)∧b<w₁.heap.size∧a≠some ⟨b,0,none⟩) (hn:New w₀ (.cells cs e) B w₁) (hnl:n=l.length)
  (hz:z.length=r.k) (hb:l.length≤1000000000) (hby:bytes≤10000) (hS:S≤w₁.heap.size) {K:Option Addr→Nat→Nat→World→Prop}
  (hk:∀ a' c' w',Upd (fun b=>S≤b) w₁ w'→ListAt r Q S w' a' c' e (l ++ [x])→K a' (l ++ [x]).length c' w') :
  appendP e r.k bytes z a n cap (.slice (some ⟨B,0,none⟩) 1 1) w₁ K:=by
 obtain ⟨G,h1,h2,h3⟩:=h
 have hG:∀ b,G b∨H b→(S≤b∨Q b)∧b<w₁.heap.size:=fun b hb=>by
  rcases hb with hb | hb
  ·exact h2 b hb
  ·exact ⟨(hH b hb).1,(hH b hb).2.1⟩
 have hno:∀ b,a=some ⟨b,0,none⟩→¬ (G b∨H b):=fun b hb hb'=>by
  rcases hb' with hb' | hb'
  ·exact (h3 b hb).2 hb'
  ·exact (hH b hb').2.2 hb
 refine OwnS.push (G:=fun b=>G b∨H b) (h1.mono fun _ hb=>.inl hb) (r.mono hx fun _ hb=>.inr hb) hn hnl hz hb hby hno fun a' c' w' hu ho hf=>?_
 refine hk a' c' w' (hu.mono fun b _ hb=>(h3 b hb).1) ⟨_,ho,fun b hb=>⟨(hG b hb).1,Nat.lt_of_lt_of_le (hG b hb).2 hu.size⟩,fun b hb=>?_⟩
 rcases hf with hf | ⟨b',hb',hl⟩
 ·subst hf;exact ⟨(h3 b hb).1,hno b hb⟩
 ·rw [hb'] at hb
  cases hb
  exact ⟨Nat.le_trans hS hl,fun hb=>absurd (hG _ hb).2 (by omega)⟩
theorem ListAt.concat {w₁:World} {H:Nat→Prop} {a ax:Option Addr} {cap cx n m bytes:Nat} {e:TypeId} {l xs:List α} {z:List Value} (h:ListAt r Q S w₁ a cap e l) (hx:SliceAt r w₁ H ax xs) (hH:∀ b,H b→(S≤b∨Q b)∧b<w₁.heap.size∧a≠some ⟨b,0,none⟩) (hnl:n=l.length) (hm:m=xs.length)
  (hz:z.length=r.k) (hb:l.length+xs.length≤1000000000) (hby:bytes≤10000) (hS:S≤w₁.heap.size) {K:Option Addr→Nat→Nat→World→Prop}
  (hk:∀ a' c' w',Upd (fun b=>S≤b) w₁ w'→ListAt r Q S w' a' c' e (l ++ xs)→K a' (l ++ xs).length c' w') :
  appendP e r.k bytes z a n cap (.slice ax m cx) w₁ K:=by
 obtain ⟨G,h1,h2,h3⟩:=h
 have hG:∀ b,G b∨H b→(S≤b∨Q b)∧b<w₁.heap.size:=fun b hb=>by
  rcases hb with hb | hb
  ·exact h2 b hb
  ·exact ⟨(hH b hb).1,(hH b hb).2.1⟩
 have hno:∀ b,a=some ⟨b,0,none⟩→¬ (G b∨H b):=fun b hb hb'=>by
  rcases hb' with hb' | hb'
  ·exact (h3 b hb).2 hb'
  ·exact (hH b hb').2.2 hb
 refine OwnS.concat (G:=fun b=>G b∨H b) (h1.mono fun _ hb=>.inl hb) (hx.mono fun _ hb=>.inr hb) hnl hm hz hb hby hno fun a' c' w' hu ho hf=>?_
 refine hk a' c' w' (hu.mono fun b _ hb=>(h3 b hb).1) ⟨_,ho,fun b hb=>⟨(hG b hb).1,Nat.lt_of_lt_of_le (hG b hb).2 hu.size⟩,fun b hb=>?_⟩
 rcases hf with hf | ⟨b',hb',hl⟩
 ·subst hf;exact ⟨(h3 b hb).1,hno b hb⟩
 ·rw [hb'] at hb
  cases hb
  exact ⟨Nat.le_trans hS hl,fun hb=>absurd (hG _ hb).2 (by omega)⟩
end
theorem Ext.own {w w₁ w':World} {S:Nat} (h:Ext w w₁) (k:Upd (fun b=>S≤b) w₁ w') (hS:w.heap.size≤S):Ext w w':=h.beyond k fun x hx=>Nat.le_trans hS hx
end
end Go.Den
