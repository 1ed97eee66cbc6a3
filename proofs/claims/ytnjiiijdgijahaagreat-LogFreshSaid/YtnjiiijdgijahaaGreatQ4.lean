/- Contracts of layer 6 (fact) and its reference: the order of keys, where one stands. (Merged and shortened by program: SRead MFact SFact SKey SRec Rep7 SPut11 MLog MFacts MBerger MHead MDeed MPlay MPlay2 MPlay3 MPlay4 MRises MCuts MPage MJour MJour2 SJour SJour2 SScan MRound SScan2 SLoad SLaw12 SChip MLaw12 SScan3 SFact2.) -/
import Derived.Test.YtnjiiijdgijahaaGreatQ3
set_option linter.unusedVariables false
set_option linter.unusedSimpArgs false
set_option maxRecDepth 20000
namespace Go.Den
abbrev St:=Option (List UInt8)
def takeS (k:Nat):St→Nat×Nat×St
 | some l=>if l.length<k then (0,4,none) else (fromLE (l.take k),0,some (l.drop k))
 | none=>(0,4,none)
def cutS (k:Nat):St→List UInt8×Nat×St
 | some l=>if l.length<k then ([],4,none) else (l.take k,0,some (l.drop k))
 | none=>([],4,none)
def rowS (s:St):List UInt8×Nat×St:=if (takeS 1 s).2.1=0 then cutS (takeS 1 s).1 (takeS 1 s).2.2 else ([],4,none)
def leftS:St→Nat
 | some l=>l.length
 | none=>0
theorem takeS_cases (k:Nat) (s:St):takeS k s=(0,4,none)∨∃ l,s=some l∧k≤l.length∧takeS k s=(fromLE (l.take k),0,some (l.drop k)):=by
 cases s with
 | none=>exact .inl rfl
 | some l =>
  by_cases h:l.length<k
  ·exact .inl (by simp [takeS,h])
  ·exact .inr ⟨l,rfl,by omega,by simp [takeS,h]⟩
theorem takeS_lt (k:Nat) (s:St):(takeS k s).1<256 ^ k:=by
 rcases takeS_cases k s with h | ⟨l,_,hk,h⟩
 ·rw [h];exact Nat.pow_pos (by omega)
 ·rw [h]
  have:=fromLE_lt (l.take k)
  simpa [Nat.min_eq_left hk] using this
theorem takeS_err {k:Nat} {s:St} (h:(takeS k s).2.1≠0):takeS k s=(0,4,none):=by
 rcases takeS_cases k s with h' | ⟨l,_,hk,h'⟩
 ·exact h'
 ·rw [h'] at h;exact absurd rfl h
theorem cutS_cases (k:Nat) (s:St):cutS k s=([],4,none)∨∃ l,s=some l∧k≤l.length∧cutS k s=(l.take k,0,some (l.drop k)):=by
 cases s with
 | none=>exact .inl rfl
 | some l =>
  by_cases h:l.length<k
  ·exact .inl (by simp [cutS,h])
  ·exact .inr ⟨l,rfl,by omega,by simp [cutS,h]⟩
theorem rowS_err {s:St} (h:(rowS s).2.1≠0):rowS s=([],4,none):=by
 unfold rowS at h ⊢
 split
 ·rename_i h0
  rw [if_pos h0] at h
  rcases cutS_cases (takeS 1 s).1 (takeS 1 s).2.2 with h' | ⟨l,_,_,h'⟩
  ·exact h'
  ·rw [h'] at h;exact absurd rfl h
 ·rfl
theorem rowS_len (s:St):(rowS s).1.length<256:=by
 unfold rowS
 split
 ·have hlt:=takeS_lt 1 s
  rcases cutS_cases (takeS 1 s).1 (takeS 1 s).2.2 with h' | ⟨l,_,_,h'⟩
  ·rw [h'];decide
  ·rw [h']
   simp only [List.length_take]
   omega
 ·decide
def RdIn (G:Nat→Prop) (w:World) (r:Nat):St→Prop
 | some l=>ReaderIn G w r l false
 | none=>∃ l,ReaderIn G w r l true
theorem ReaderIn.updG {F G:Nat→Prop} {w w':World} {r:Nat} {l:List UInt8} {no:Bool} (h:ReaderIn G w r l no) (k:Upd F w w') (hr:¬ F r) (hG:∀ x,G x→¬ F x):ReaderIn G w' r l no:=by
 obtain ⟨a,c,h1,h2,h3,h4⟩:=h.at_
 exact ⟨a,c,Upd.get k h1 hr,RowAt.upd h2 k fun p hp=>hG _ (h4 p hp),h3,h4⟩
theorem RdIn.upd {F G:Nat→Prop} {w w':World} {r:Nat}:∀ {s:St},RdIn G w r s→Upd F w w'→¬ F r→(∀ x,G x→¬ F x)→RdIn G w' r s
 | some l,h,k,hr,hG=>ReaderIn.updG h k hr hG
 | none,⟨l,h⟩,k,hr,hG=>⟨l,h.updG k hr hG⟩
theorem RdIn.ext {G:Nat→Prop} {w w':World} {r:Nat} {s:St} (h:RdIn G w r s) (k:Ext w w'):RdIn G w' r s:=h.upd k (fun h=>h) fun _ _ h=>h
theorem rdTake {G:Nat→Prop} {w:World} {r k:Nat} {s:St} (hk:isSz k=true) (hG:¬ G r) (h:RdIn G w r s) :
  CallsR prog K.ends_Reader_Take #[.pointer (some ⟨r,0,none⟩),.int .i64 k] w fun v w'=>Upd (·=r) w w'∧v= .tuple #[.int .u64 ((takeS k s).1:Nat),.int .i64 ((takeS k s).2.1:Nat)]∧RdIn G w' r (takeS k s).2.2:=by
 cases s with
 | none =>
  obtain ⟨l,h⟩:=h
  refine (ends_Reader_Take_in r k l true w hk hG h).mono ?_
  rintro v w' ⟨hu,hv⟩
  rw [if_pos (.inl rfl)] at hv
  exact ⟨hu,hv.1,l,hv.2⟩
 | some l =>
  refine (ends_Reader_Take_in r k l false w hk hG h).mono ?_
  rintro v w' ⟨hu,hv⟩
  refine ⟨hu,?_⟩
  unfold takeS
  by_cases hl:l.length<k
  ·rw [if_pos (.inr hl)] at hv
   simp only [if_pos hl]
   exact ⟨hv.1,l,hv.2⟩
  ·rw [if_neg (by rintro (h | h);cases h;exact hl h)] at hv
   simp only [if_neg hl]
   exact hv
theorem rdCut {G:Nat→Prop} {w:World} {r k:Nat} {s:St} (hG:¬ G r) (h:RdIn G w r s) :
  CallsR prog K.ends_Reader_cut #[.pointer (some ⟨r,0,none⟩),.int .i64 k] w fun v w'=>Upd (·=r) w w'∧(∃ a c,v= .tuple #[.slice a (cutS k s).1.length c,.int .i64 ((cutS k s).2.1:Nat)]∧BytesAt w' a (cutS k s).1)∧RdIn G w' r (cutS k s).2.2:=by
 cases s with
 | none =>
  obtain ⟨l,h⟩:=h
  refine (ends_Reader_cut_in r k l true w hG h).mono ?_
  rintro v w' ⟨hu,hv⟩
  rw [if_pos (.inl rfl)] at hv
  exact ⟨hu,⟨none,0,hv.1,BytesAt.nil _ _⟩,l,hv.2⟩
 | some l =>
  refine (ends_Reader_cut_in r k l false w hG h).mono ?_
  rintro v w' ⟨hu,hv⟩
  refine ⟨hu,?_⟩
  unfold cutS
  by_cases hl:l.length<k
  ·rw [if_pos (.inr hl)] at hv
   simp only [if_pos hl]
   exact ⟨⟨none,0,hv.1,BytesAt.nil _ _⟩,l,hv.2⟩
  ·rw [if_neg (by rintro (h | h);cases h;exact hl h)] at hv
   simp only [if_neg hl]
   obtain ⟨a,c,h1,h2,h3⟩:=hv
   have:(l.take k).length=k:=by simp;omega
   exact ⟨⟨a,c,by rw [this];exact h1,h2⟩,h3⟩
theorem rdRow {G:Nat→Prop} {w:World} {r:Nat} {s:St} (hG:¬ G r) (h:RdIn G w r s) :
  CallsR prog K.ends_Reader_Row #[.pointer (some ⟨r,0,none⟩)] w fun v w'=>Upd (·=r) w w'∧(∃ a c,v= .tuple #[.slice a (rowS s).1.length c,.int .i64 ((rowS s).2.1:Nat)]∧BytesAt w' a (rowS s).1∧(rowS s).1.length≤c∧∀ p,a=some p→w.heap.size≤p.block∧p.block<w'.heap.size)∧RdIn G w' r (rowS s).2.2:=by
 apply ends_Reader_Row.sh
 unfold ends_Reader_Row.body
 refine (rdTake (k:=1) (by decide) hG h).mono ?_
 rintro _ w₁ ⟨hu,rfl,hr⟩
 refine ⟨_,_,rfl,br_ne (fun he=>?_) fun he=>?_⟩
 ·have he':=takeS_err (k:=1) (s:=s) (by omega)
  have hrow:rowS s=([],4,none):=by unfold rowS;rw [he'];rfl
  rw [he'] at hr ⊢
  rw [hrow]
  exact ⟨hu,⟨none,0,rfl,BytesAt.nil _ _,Nat.le_refl _,fun _ h=>by cases h⟩,hr⟩
 ·have he0:(takeS 1 s).2.1=0:=by omega
  have hrow:rowS s=cutS (takeS 1 s).1 (takeS 1 s).2.2:=by unfold rowS;rw [if_pos he0]
  have hlt:=takeS_lt 1 s
  rw [w64n (by omega)]
  refine (rdCut hG hr).mono ?_
  rintro _ w₂ ⟨hu2,⟨a,c,rfl,hb⟩,hr2⟩
  rw [← hrow] at hb hr2 ⊢
  have hlen:=rowS_len s
  refine ⟨_,_,_,_,rfl,append_copy hb (by omega) fun a' c' w₃ he hb' hc hf hn=>?_⟩
  refine ⟨(hu.trans hu2).trans he.ext,⟨a',c',rfl,hb',hc,fun p hp=>⟨?_,?_⟩⟩,hr2.ext he⟩
  ·exact Nat.le_trans (Nat.le_trans hu.size hu2.size) (hf p hp)
  ·by_cases hl:(rowS s).1=[]
   ·rw [hn hl] at hp;cases hp
   ·obtain ⟨b,o,hab,hlt⟩:=RowAt.blk hb' (by simpa using hl)
    rw [hab] at hp;cases hp;exact hlt
theorem rdLeft {G:Nat→Prop} {w:World} {r:Nat} {s:St} (h:RdIn G w r s) :
  CallsR prog K.ends_Reader_Left #[.pointer (some ⟨r,0,none⟩)] w fun v w'=>v= .int .i64 (leftS s:Nat)∧w'=w:=by
 apply ends_Reader_Left.sh
 unfold ends_Reader_Left.body
 cases s with
 | none =>
  obtain ⟨l,h⟩:=h
  refine (ends_Reader_off_spec r l true w h).mono ?_
  rintro _ _ ⟨rfl,rfl⟩
  obtain ⟨a,c,hr,_⟩:=h.at_
  refine ⟨_,rfl,?_⟩
  simp only [br_false,nilC_some',add_lit,Nat.zero_add]
  exact ⟨true,cell_of hr rfl,by simp [leftS]⟩
 | some l =>
  refine (ends_Reader_off_spec r l false w h).mono ?_
  rintro _ _ ⟨rfl,rfl⟩
  obtain ⟨a,c,hr,_⟩:=ReaderIn.at_ h
  refine ⟨_,rfl,?_⟩
  simp only [br_false,nilC_some',add_lit,Nat.zero_add]
  exact ⟨false,cell_of hr rfl,a,l.length,c,cell_of hr rfl,by simp [leftS]⟩
def RRdIn (G:Nat→Prop) (w:World) (r:Nat):St→Prop
 | some l=>RReaderIn G w r l false∧l.length≤1000000000000
 | none=>∃ l,RReaderIn G w r l true
theorem RReaderIn.updG {F G:Nat→Prop} {w w':World} {r:Nat} {l:List UInt8} {no:Bool} (h:RReaderIn G w r l no) (k:Upd F w w') (hr:¬ F r) (hG:∀ x,G x→¬ F x):RReaderIn G w' r l no:=by
 obtain ⟨a,c,h1,h2,h3,h4⟩:=h.at_
 exact ⟨a,c,Upd.get k h1 hr,RowAt.upd h2 k fun p hp=>hG _ (h4 p hp),h3,h4⟩
theorem RRdIn.upd {F G:Nat→Prop} {w w':World} {r:Nat}:∀ {s:St},RRdIn G w r s→Upd F w w'→¬ F r→(∀ x,G x→¬ F x)→RRdIn G w' r s
 | some l,h,k,hr,hG=>⟨RReaderIn.updG h.1 k hr hG,h.2⟩
 | none,⟨l,h⟩,k,hr,hG=>⟨l,h.updG k hr hG⟩
theorem RRdIn.ext {G:Nat→Prop} {w w':World} {r:Nat} {s:St} (h:RRdIn G w r s) (k:Ext w w'):RRdIn G w' r s:=h.upd k (fun h=>h) fun _ _ h=>h
end Go.Den
namespace Go.Den
def mayByte (c:UInt8):Bool:=(decide (97≤c.toNat) && decide (c.toNat≤122)) || (decide (48≤c.toNat) && decide (c.toNat≤57)) || decide (c.toNat=46) || decide (c.toNat=45)
def isName (s:List UInt8):Bool:=s.all mayByte && decide (1≤s.length) && decide (s.length≤12) && !(s == [46]) && !(s == [46,46])
structure Key where
 ino:Int
 what:UInt8
 name:ByteArray
 chunk:Int
 deriving DecidableEq
namespace Key
def zero:Key:=⟨0,0,ByteArray.empty,0⟩
def bytes (k:Key):List UInt8:=k.name.data.toList
def vals (k:Key):List Value:=[.int .i64 k.ino,bv k.what,.string k.name,.int .i64 k.chunk]
def may (k:Key):Bool:=decide (1≤k.ino) && decide (k.ino≤65535) &&
 ((decide (k.what.toNat=1) && decide (k.bytes=[]) && decide (k.chunk=0)) || (decide (k.what.toNat=2) && isName k.bytes && decide (k.chunk=0)) || (decide (k.what.toNat=3) && decide (k.bytes=[]) && decide (0≤k.chunk) && decide (k.chunk<8)))
def code (k:Key):List Int:=k.ino :: (k.what.toNat:Int) :: (k.bytes.map (fun b=>(b.toNat:Int)+1) ++ [0,k.chunk])
end Key
abbrev keyV (k:Key):Value:=.agg #[.int .i64 k.ino,bv k.what,.string k.name,.int .i64 k.chunk]
def listLt:List Int→List Int→Bool
 | [],[]=>false
 | [],_ :: _=>true
 | _ :: _,[]=>false
 | x :: xs,y :: ys=>decide (x<y) || (decide (x=y) && listLt xs ys)
theorem listLt_irrefl:∀ l,listLt l l=false
 | []=>rfl
 | x :: l=>by simp [listLt,listLt_irrefl l]
theorem listLt_trans:∀ {a b c},listLt a b=true→listLt b c=true→listLt a c=true
 | [],[],_,h,_=>by cases h
 | [],_ :: _,[],_,h=>by cases h
 | [],_ :: _,_ :: _,_,_=>rfl
 | _ :: _,[],_,h,_=>by cases h
 | _ :: _,_ :: _,[],_,h=>by cases h
 | x :: xs,y :: ys,z :: zs,h,k=>by
  simp only [listLt,Bool.or_eq_true,Bool.and_eq_true,decide_eq_true_eq] at h k ⊢
  rcases h with h | ⟨h1,h2⟩
  ·rcases k with k | ⟨k1,k2⟩
   ·exact .inl (by omega)
   ·exact .inl (by omega)
  ·rcases k with k | ⟨k1,k2⟩
   ·exact .inl (by omega)
   ·exact .inr ⟨by omega,listLt_trans h2 k2⟩
theorem listLt_total:∀ {a b},listLt a b=false→listLt b a=false→a=b
 | [],[],_,_=>rfl
 | [],_ :: _,h,_=>by cases h
 | _ :: _,[],_,h=>by cases h
 | x :: xs,y :: ys,h,k=>by
  simp only [listLt,Bool.or_eq_false_iff,Bool.and_eq_false_iff,decide_eq_false_iff_not] at h k
  have e:x=y:=by omega
  subst e
  have h2:listLt xs ys=false:=by rcases h.2 with h | h;exact absurd rfl h;exact h
  have k2:listLt ys xs=false:=by rcases k.2 with h | h;exact absurd rfl h;exact h
  rw [listLt_total h2 k2]
theorem map_append_inj {f:UInt8→Int} (hf:∀ x y,f x=f y→x=y) (h0:∀ x,f x≠0):∀ {a b:List UInt8} {x y:Int},a.map f ++ [0,x]=b.map f ++ [0,y]→a=b∧x=y
 | [],[],_,_,h=>by simpa using h
 | [],b :: bs,_,_,h=>by simp at h;exact absurd h.1.symm (h0 b)
 | a :: l,[],_,_,h=>by simp at h;exact absurd h.1 (h0 a)
 | a :: l,b :: bs,_,_,h=>by
  simp only [List.map_cons,List.cons_append,List.cons.injEq] at h
  obtain ⟨e1,e2⟩:=map_append_inj hf h0 h.2
  exact ⟨by rw [hf _ _ h.1,e1],e2⟩
theorem Key.code_inj {a b:Key} (h:a.code=b.code):a=b:=by
 obtain ⟨a1,a2,a3,a4⟩:=a
 obtain ⟨b1,b2,b3,b4⟩:=b
 simp only [Key.code,Key.bytes,List.cons.injEq] at h
 obtain ⟨h1,h2,h3⟩:=h
 obtain ⟨e1,e2⟩:=map_append_inj (f:=fun b:UInt8=>(b.toNat:Int)+1) (fun x y h=>UInt8.toNat_inj.1 (by have h':(x.toNat:Int)+1=(y.toNat:Int)+1:=h;omega)) (fun x=>by show (x.toNat:Int)+1≠0;omega) h3
 have e3:a3=b3:=by
  obtain ⟨⟨a3⟩⟩:=a3
  obtain ⟨⟨b3⟩⟩:=b3
  simp only at e1
  rw [e1]
 rw [h1,UInt8.toNat_inj.1 (by omega:a2.toNat=b2.toNat),e3,e2]
def before (a b:Key):Bool:=listLt a.code b.code
theorem before_irrefl (a:Key):before a a=false:=listLt_irrefl _
theorem before_trans {a b c:Key} (h:before a b=true) (k:before b c=true):before a c=true:=listLt_trans h k
theorem before_total {a b:Key} (h:before a b=false) (k:before b a=false):a=b:=Key.code_inj (listLt_total h k)
theorem before_asymm {a b:Key} (h:before a b=true):before b a=false:=by
 cases hb:before b a with
 | false=>rfl
 | true =>
  have:=before_trans h hb
  rw [before_irrefl] at this
  cases this
structure Fact where
 key:Key
 val:List UInt8
 deriving DecidableEq
structure Change where
 key:Key
 val:List UInt8
 gone:Bool
 deriving DecidableEq
def ordered:List Fact→Bool
 | []=>true
 | [_]=>true
 | x :: y :: l=>before x.key y.key && ordered (y :: l)
def Sorted (l:List Fact):Prop:=l.Pairwise fun a b=>before a.key b.key=true
theorem ordered_sorted:∀ {l:List Fact},ordered l=true ↔ Sorted l
 | []=>by simp [ordered,Sorted]
 | [x]=>by simp [ordered,Sorted]
 | x :: y :: l=>by
  unfold ordered
  rw [Bool.and_eq_true,ordered_sorted (l:=y :: l)]
  unfold Sorted
  rw [List.pairwise_cons (a:=x)]
  constructor
  ·rintro ⟨h1,h2⟩
   refine ⟨fun z hz=>?_,h2⟩
   rcases List.mem_cons.1 hz with rfl | hz
   ·exact h1
   ·exact before_trans h1 ((List.pairwise_cons.1 h2).1 z hz)
  ·rintro ⟨h1,h2⟩
   exact ⟨h1 y (by simp),h2⟩
def putF (c:Change):List Fact→List Fact
 | []=>if c.gone then [] else [⟨c.key,c.val⟩]
 | x :: l=>if x.key=c.key then (if c.gone then l else ⟨c.key,c.val⟩:: l) else if before c.key x.key then (if c.gone then x :: l else ⟨c.key,c.val⟩:: x :: l) else x :: putF c l
def applyL (l:List Fact) (cs:List Change):List Fact:=cs.foldl (fun l c=>putF c l) l
def applyF (l:List Fact) (cs:List Change):List Fact:=if ordered l then applyL l cs else []
theorem putF_mem {c:Change} {y:Fact}:∀ {l:List Fact},y∈putF c l→y∈l∨(c.gone=false∧y=⟨c.key,c.val⟩)
 | [],h=>by
  unfold putF at h
  split at h
  ·cases h
  ·rename_i hg
   exact .inr ⟨by simpa using hg,by simpa using h⟩
 | x :: l,h=>by
  unfold putF at h
  split at h
  ·split at h
   ·exact .inl (by simp [h])
   ·rename_i hg
    rcases List.mem_cons.1 h with h | h
    ·exact .inr ⟨by simpa using hg,h⟩
    ·exact .inl (by simp [h])
  ·split at h
   ·split at h
    ·exact .inl h
    ·rename_i hg
     rcases List.mem_cons.1 h with h | h
     ·exact .inr ⟨by simpa using hg,h⟩
     ·exact .inl h
   ·rcases List.mem_cons.1 h with h | h
    ·exact .inl (by simp [h])
    ·rcases putF_mem h with h | h
     ·exact .inl (by simp [h])
     ·exact .inr h
theorem putF_sorted {c:Change}:∀ {l:List Fact},Sorted l→Sorted (putF c l)
 | [],h=>by
  unfold putF
  split
  ·exact List.Pairwise.nil
  ·exact List.pairwise_singleton _ _
 | x :: l,h=>by
  obtain ⟨h1,h2⟩:=List.pairwise_cons.1 h
  unfold putF
  split
  ·rename_i he
   split
   ·exact h2
   ·refine List.pairwise_cons.2 ⟨fun y hy=>?_,h2⟩
    have:=h1 y hy
    rw [he] at this
    exact this
  ·rename_i he
   split
   ·rename_i hb
    split
    ·exact h
    ·refine List.pairwise_cons.2 ⟨fun y hy=>?_,h⟩
     rcases List.mem_cons.1 hy with rfl | hy
     ·exact hb
     ·exact before_trans hb (h1 y hy)
   ·rename_i hb
    refine List.pairwise_cons.2 ⟨fun y hy=>?_,putF_sorted h2⟩
    rcases putF_mem hy with hy | ⟨_,rfl⟩
    ·exact h1 y hy
    ·cases hx:before x.key c.key with
     | true=>rfl
     | false=>exact absurd (before_total hx (by simpa using hb)) he
theorem applyL_sorted:∀ {cs:List Change} {l:List Fact},Sorted l→Sorted (applyL l cs)
 | [],l,h=>h
 | c :: cs,l,h=>applyL_sorted (cs:=cs) (putF_sorted h)
theorem putF_length (c:Change):∀ (l:List Fact),(putF c l).length≤l.length+1
 | []=>by unfold putF;split<;>simp
 | x :: l=>by
  have:=putF_length c l
  unfold putF
  split
  ·split<;>simp<;>omega
  ·split
   ·split<;>simp<;>omega
   ·simp;omega
def placeF (l:List Fact) (k:Key):Nat:=(l.takeWhile fun f=>before f.key k).length
theorem placeF_le (l:List Fact) (k:Key):placeF l k≤l.length:=by
 unfold placeF
 induction l with
 | nil=>simp
 | cons x l ih =>
  rw [List.takeWhile_cons]
  split
  ·simp;exact ih
  ·simp
theorem placeF_cons (x:Fact) (l:List Fact) (k:Key):placeF (x :: l) k=if before x.key k then placeF l k+1 else 0:=by
 unfold placeF
 rw [List.takeWhile_cons]
 split<;>simp
theorem placeF_at:∀ {l:List Fact} {k:Key},Sorted l→∀ (i:Nat) (hi:i<l.length),(before l[i].key k=true ↔ i<placeF l k)
 | x :: l,k,h,i,hi=>by
  obtain ⟨h1,h2⟩:=List.pairwise_cons.1 h
  rw [placeF_cons]
  cases i with
  | zero =>
   simp only [List.getElem_cons_zero]
   split
   ·rename_i hb;simp [hb]
   ·rename_i hb;simp [hb]
  | succ i =>
   simp only [List.getElem_cons_succ]
   have:=placeF_at h2 i (by simpa using hi) (k:=k)
   split
   ·rw [this];omega
   ·rename_i hb
    constructor
    ·intro hx
     have:=before_trans (h1 _ (List.getElem_mem _)) hx
     rw [this] at hb
     exact absurd rfl hb
    ·intro hx;omega
theorem putF_place {c:Change}:∀ {l:List Fact},Sorted l→putF c l=(if hp:placeF l c.key<l.length∧(∀ h:placeF l c.key<l.length,l[placeF l c.key].key=c.key) then
   (if c.gone then l.take (placeF l c.key) ++ l.drop (placeF l c.key+1) else l.set (placeF l c.key) ⟨c.key,c.val⟩)
  else if c.gone then l else l.take (placeF l c.key) ++ [⟨c.key,c.val⟩] ++ l.drop (placeF l c.key))
 | [],h=>by
  unfold putF
  rw [dif_neg (by simp)]
  simp
 | x :: l,h=>by
  obtain ⟨h1,h2⟩:=List.pairwise_cons.1 h
  have hpc:=placeF_cons x l c.key
  unfold putF
  by_cases he:x.key=c.key
  ·have hp0:placeF (x :: l) c.key=0:=by rw [hpc,if_neg (by rw [he,before_irrefl];simp)]
   rw [if_pos he,dif_pos (by rw [hp0];exact ⟨by simp,fun _=>by simpa using he⟩),hp0]
   simp
  ·rw [if_neg he]
   by_cases hb:before c.key x.key=true
   ·have hp0:placeF (x :: l) c.key=0:=by rw [hpc,if_neg (by rw [before_asymm hb];simp)]
    rw [if_pos hb,dif_neg (by rw [hp0];rintro ⟨_,hx⟩;exact he (hx (by simp))),hp0]
    simp
   ·rw [if_neg hb]
    have hbx:before x.key c.key=true:=by
     cases hx:before x.key c.key with
     | true=>rfl
     | false=>exact absurd (before_total hx (by simpa using hb)) he
    have hp1:placeF (x :: l) c.key=placeF l c.key+1:=by rw [hpc,if_pos hbx]
    rw [putF_place h2]
    by_cases hcond:placeF l c.key<l.length∧(∀ h:placeF l c.key<l.length,l[placeF l c.key].key=c.key)
    ·rw [dif_pos hcond,dif_pos (by rw [hp1];exact ⟨by simpa using hcond.1,fun _=>by simpa using hcond.2 hcond.1⟩),hp1]
     split<;>simp
    ·rw [dif_neg hcond,dif_neg (by
      rw [hp1]
      rintro ⟨k1,k2⟩
      exact hcond ⟨by simpa using k1,fun _=>by simpa using k2 k1⟩),hp1]
     split<;>simp
end Go.Den
namespace Go.Den
theorem str_beq (a b:ByteArray):(a.toList == b.toList)=(a.data.toList == b.data.toList):=by
 rw [ByteArray.toList_eq,ByteArray.toList_eq]
theorem path_may_spec (c:UInt8) (w:World):CallsR prog K.path_may #[bv c] w fun v w'=>v= .bool (mayByte c)∧w'=w:=by
 apply path_may.sh
 unfold path_may.body
 have fin:∀ {b:Bool},mayByte c=b→(fun v w'=>v=Value.bool (mayByte c)∧w'=w) (Value.bool b) w:=fun h=>⟨by rw [h],rfl⟩
 have e:∀ {b:Bool},(mayByte c=true ↔ b=true)→mayByte c=b:=fun h=>by rw [Bool.eq_iff_iff];exact h
 have hm:mayByte c=true ↔ (97≤c.toNat∧c.toNat≤122)∨(48≤c.toNat∧c.toNat≤57)∨c.toNat=46∨c.toNat=45:=by
  unfold mayByte
  simp only [Bool.or_eq_true,Bool.and_eq_true,decide_eq_true_eq]
  constructor
  ·rintro (((h | h) | h) | h)
   ·exact .inl h
   ·exact .inr (.inl h)
   ·exact .inr (.inr (.inl h))
   ·exact .inr (.inr (.inr h))
  ·rintro (h | h | h | h)
   ·exact .inl (.inl (.inl h))
   ·exact .inl (.inl (.inr h))
   ·exact .inl (.inr h)
   ·exact .inr h
 have yes:(97≤c.toNat∧c.toNat≤122)∨(48≤c.toNat∧c.toNat≤57)∨c.toNat=46∨c.toNat=45→(fun v w'=>v=Value.bool (mayByte c)∧w'=w) (Value.bool true) w:=fun h=>fin (hm.2 h)
 have no:¬ ((97≤c.toNat∧c.toNat≤122)∨(48≤c.toNat∧c.toNat≤57)∨c.toNat=46∨c.toNat=45)→(fun v w'=>v=Value.bool (mayByte c)∧w'=w) (Value.bool false) w:=fun h=>fin (by
  cases hb:mayByte c with
  | false=>rfl
  | true=>exact absurd (hm.1 hb) h)
 have dots:¬ (97≤c.toNat∧c.toNat≤122)→¬ (48≤c.toNat∧c.toNat≤57)→br ((c.toNat:Int) == 46) (br ((c.toNat:Int) == 46) ((fun v w'=>v=Value.bool (mayByte c)∧w'=w) (Value.bool true) w) ((fun v w'=>v=Value.bool (mayByte c)∧w'=w) (Value.bool false) w))
   (br ((c.toNat:Int) == 45) ((fun v w'=>v=Value.bool (mayByte c)∧w'=w) (Value.bool true) w) ((fun v w'=>v=Value.bool (mayByte c)∧w'=w) (Value.bool false) w)):=fun h1 h2 =>
  br_eq (fun h=>br_eq (fun _=>yes (by omega)) fun h'=>absurd h h') fun h=>br_eq (fun h'=>yes (by omega)) fun h'=>no (by omega)
 refine br_dec (fun h1=>br_dec (fun h2=>br_dec (fun _=>yes (by omega)) fun h=>absurd h2 h) fun h2=>br_dec (fun h3=>br_dec (fun h4=>by omega) fun h4=>dots (by omega) (by omega)) fun h3=>by omega) fun h1=>?_
 exact br_dec (fun h3=>br_dec (fun h4=>br_dec (fun _=>yes (by omega)) fun h=>absurd h4 h) fun h4=>dots (by omega) (by omega)) fun h3=>dots (by omega) (by omega)
theorem all_take_succ {α:Type} {l:List α} {i:Nat} (hi:i<l.length) (p:α→Bool):(l.take (i+1)).all p=((l.take i).all p && p l[i]):=by
 rw [List.take_succ_eq_append_getElem hi,List.all_append]
 simp
theorem size_data (s:ByteArray):s.size=s.data.toList.length:=by rw [Array.length_toList];rfl
theorem name_tail {s:ByteArray} (hall:s.data.toList.all mayByte=true) {w w':World} {R:Value→World→Prop} (hR:R (.bool (isName s.data.toList)) w') {p:Prop} [Decidable p] (hp:p ↔ 1≤s.data.toList.length) :
  br (decide p) (br (decide (((s.size:Nat):Int)≤12)) (br (!(s.toList == (⟨#[46]⟩: ByteArray).toList)) (R (Value.bool (!(s.toList == (⟨#[46,46]⟩: ByteArray).toList))) w') (R (Value.bool false) w')) (R (Value.bool false) w')) (R (Value.bool false) w'):=by
 have hn:isName s.data.toList=(decide (1≤s.data.toList.length) && decide (s.data.toList.length≤12) && !(s.data.toList == [46]) && !(s.data.toList == [46,46])):=by
  unfold isName
  rw [hall];rfl
 rw [hn] at hR
 have hsz:=size_data s
 rw [str_beq,str_beq]
 refine br_dec (fun h1=>br_dec (fun h2=>br_intro (fun h3=>?_) fun h3=>?_) fun h2=>?_) fun h1=>?_
 ·have h3':(!(s.data.toList == [46]))=true:=h3
  rw [decide_eq_true (hp.1 h1),decide_eq_true (by omega:s.data.toList.length≤12),h3'] at hR
  exact hR
 ·have h3':(!(s.data.toList == [46]))=false:=h3
  rw [h3'] at hR
  simpa using hR
 ·rw [decide_eq_false (p:=s.data.toList.length≤12) (by omega)] at hR
  simpa using hR
 ·rw [decide_eq_false (p:=1≤s.data.toList.length) (fun h=>h1 (hp.2 h))] at hR
  simpa using hR
theorem isName_false {s:List UInt8} (h:s.all mayByte=false):isName s=false:=by
 unfold isName
 rw [h];rfl
theorem all_false {l:List UInt8} {i:Nat} (hi:i<l.length) (h:mayByte l[i]=false):l.all mayByte=false:=by
 rw [List.all_eq_false]
 exact ⟨l[i],List.getElem_mem hi,by rw [h];simp⟩
theorem path_Name_spec (s:ByteArray) (hs:s.size<9223372036854775807) (w:World):CallsR prog K.path_Name #[.string s] w fun v w'=>v= .bool (isName s.data.toList)∧w'=w:=by
 apply path_Name.sh
 unfold path_Name.body
 have hsz:=size_data s
 refine ⟨fun x u=>∃ i:Nat,x=i∧i≤s.data.toList.length∧u=w∧(s.data.toList.take i).all mayByte=true,fun x _=>(s.data.toList.length - x).toNat,⟨0,rfl,by omega,rfl,by simp⟩,?_⟩
 rintro x u ⟨i,rfl,hi,rfl,ha⟩
 refine br_dec (fun hlt=>⟨by omega,?_⟩) fun hge=>?_
 ·have hi':i<s.data.toList.length:=by omega
  refine ⟨s.data.toList[i],by simp [hi'],?_⟩
  refine (path_may_spec _ _).mono ?_
  rintro _ _ ⟨rfl,rfl⟩
  refine ⟨_,rfl,br_intro (fun hb=>⟨?_,rfl⟩) fun hb=>?_⟩
  ·rw [isName_false (all_false hi' (by simpa using hb))]
  ·have e1:IntKind.i64.wrap ((i:Int)+1)=((i+1:Nat):Int):=w64 (by omega) (by omega)
   rw [e1]
   exact ⟨⟨i+1,rfl,hi',rfl,by rw [all_take_succ hi',ha];simpa using hb⟩,meas hi'⟩
 ·have:i=s.data.toList.length:=by omega
  subst this
  rw [List.take_length] at ha
  exact name_tail (w:=u) ha (R:=fun v w'=>v= .bool (isName s.data.toList)∧w'=u) ⟨rfl,rfl⟩ (by omega)
theorem carrackref05_Name_spec (s:ByteArray) (hs:s.size<9223372036854775807) (w:World):CallsR prog K.carrackref05_Name #[.string s] w fun v w'=>v= .bool (isName s.data.toList)∧w'=w:=by
 apply carrackref05_Name.sh
 unfold carrackref05_Name.body
 have hsz:=size_data s
 refine ⟨fun x u=>∃ i:Nat,x=i∧i≤s.data.toList.length∧u=w∧(s.data.toList.take i).all mayByte=true,fun x _=>(s.data.toList.length - x).toNat,⟨0,rfl,by omega,rfl,by simp⟩,?_⟩
 rintro x u ⟨i,rfl,hi,rfl,ha⟩
 refine br_dec (fun hlt=>⟨by omega,?_⟩) fun hge=>?_
 ·have hi':i<s.data.toList.length:=by omega
  refine ⟨s.data.toList[i],by simp [hi'],?_⟩
  have e1:IntKind.i64.wrap ((i:Int)+1)=((i+1:Nat):Int):=w64 (by omega) (by omega)
  rw [e1]
  generalize hc:s.data.toList[i]=c
  have hm:mayByte c=true ↔ (97≤c.toNat∧c.toNat≤122)∨(48≤c.toNat∧c.toNat≤57)∨c.toNat=46∨c.toNat=45:=by
   unfold mayByte
   simp only [Bool.or_eq_true,Bool.and_eq_true,decide_eq_true_eq]
   constructor
   ·rintro (((h | h) | h) | h)
    ·exact .inl h
    ·exact .inr (.inl h)
    ·exact .inr (.inr (.inl h))
    ·exact .inr (.inr (.inr h))
   ·rintro (h | h | h | h)
    ·exact .inl (.inl (.inl h))
    ·exact .inl (.inl (.inr h))
    ·exact .inl (.inr h)
    ·exact .inr h
  have yes:(97≤c.toNat∧c.toNat≤122)∨(48≤c.toNat∧c.toNat≤57)∨c.toNat=46∨c.toNat=45→(∃ k:Nat,((i+1:Nat):Int)=k∧k≤s.data.toList.length∧u=u∧(s.data.toList.take k).all mayByte=true)∧((s.data.toList.length:Int) - ((i+1:Nat):Int)).toNat<((s.data.toList.length:Int) - (i:Int)).toNat:=fun h =>
   ⟨⟨i+1,rfl,hi',rfl,by rw [all_take_succ hi',ha,hc,hm.2 h];rfl⟩,meas hi'⟩
  have no:¬ ((97≤c.toNat∧c.toNat≤122)∨(48≤c.toNat∧c.toNat≤57)∨c.toNat=46∨c.toNat=45)→(fun v w'=>v=Value.bool (isName s.data.toList)∧w'=u) (Value.bool false) u:=fun h=>⟨by
   rw [isName_false (all_false hi' (by
    rw [hc]
    cases hb:mayByte c with
    | false=>rfl
    | true=>exact absurd (hm.1 hb) h))],rfl⟩
  have dots:¬ (97≤c.toNat∧c.toNat≤122)→¬ (48≤c.toNat∧c.toNat≤57)→br ((c.toNat:Int) == 46) ((∃ k:Nat,((i+1:Nat):Int)=k∧k≤s.data.toList.length∧u=u∧(s.data.toList.take k).all mayByte=true)∧((s.data.toList.length:Int) - ((i+1:Nat):Int)).toNat<((s.data.toList.length:Int) - (i:Int)).toNat)
    (br (!((c.toNat:Int) == 45)) ((fun v w'=>v=Value.bool (isName s.data.toList)∧w'=u) (Value.bool false) u) ((∃ k:Nat,((i+1:Nat):Int)=k∧k≤s.data.toList.length∧u=u∧(s.data.toList.take k).all mayByte=true)∧((s.data.toList.length:Int) - ((i+1:Nat):Int)).toNat<((s.data.toList.length:Int) - (i:Int)).toNat)):=fun h1 h2 =>
   br_eq (fun h=>yes (by omega)) fun h=>br_intro (fun h'=>no (by have h0:(c.toNat:Int)≠45:=(by simpa using h');omega)) fun h'=>yes (by have h0:(c.toNat:Int)=45:=(by simpa using h');omega)
  exact br_dec (fun h1=>br_dec (fun h2=>yes (by omega)) fun h2=>br_dec (fun h3=>br_dec (fun h4=>by omega) fun h4=>dots (by omega) (by omega)) fun h3=>by omega) fun h1 =>
   br_dec (fun h3=>br_dec (fun h4=>yes (by omega)) fun h4=>dots (by omega) (by omega)) fun h3=>dots (by omega) (by omega)
 ·have:i=s.data.toList.length:=by omega
  subst this
  rw [List.take_length] at ha
  exact name_tail (w:=u) ha (R:=fun v w'=>v= .bool (isName s.data.toList)∧w'=u) ⟨rfl,rfl⟩ (by omega)
theorem Key.may_ino {k:Key} (h:¬ (1≤k.ino∧k.ino≤65535)):k.may=false:=by
 unfold Key.may
 by_cases h1:1≤k.ino
 ·rw [decide_eq_false (p:=k.ino≤65535) (fun h2=>h ⟨h1,h2⟩)];simp
 ·rw [decide_eq_false h1];simp
theorem Key.may_in {k:Key} (h:1≤k.ino∧k.ino≤65535):k.may=((decide (k.what.toNat=1) && decide (k.bytes=[]) && decide (k.chunk=0)) || (decide (k.what.toNat=2) && isName k.bytes && decide (k.chunk=0)) || (decide (k.what.toNat=3) && decide (k.bytes=[]) && decide (0≤k.chunk) && decide (k.chunk<8))):=by
 unfold Key.may
 rw [decide_eq_true h.1,decide_eq_true h.2];rfl
theorem empty_beq (k:Key):(k.name.toList == (⟨#[]⟩: ByteArray).toList)=decide (k.bytes=[]):=by
 rw [str_beq,Bool.eq_iff_iff]
 unfold Key.bytes
 simp
theorem fact_MayKey_spec (k:Key) (hn:k.name.size<9223372036854775807) (w:World):CallsR prog K.fact_MayKey #[keyV k] w fun v w'=>v= .bool k.may∧Ext w w':=by
 apply fact_MayKey.sh
 unfold fact_MayKey.body
 simp only [add_lit,Nat.zero_add]
 intro B1 w1 hn1
 have g:=hn1.get
 have hE:=hn1.upd
 refine ⟨_,cell_of g rfl,br_dec (fun h=>⟨by rw [Key.may_ino (by omega)],hE⟩) fun h1=>⟨_,cell_of g rfl,br_dec (fun h=>⟨by rw [Key.may_ino (by omega)],hE⟩) fun h2=>?_⟩⟩
 rw [Key.may_in ⟨by omega,by omega⟩]
 refine ⟨_,cell_of g rfl,br_eq (fun hw=>?_) fun hw1=>br_eq (fun hw=>?_) fun hw2=>br_eq (fun hw=>?_) fun hw3=>?_⟩
 ·refine ⟨_,_,_,_,cellsAt_of (o:=0) g (fun j v hj=>by simpa using hj),_,cell_of g rfl,_,cell_of g rfl,?_,hE⟩
  have e1:k.what.toNat=1:=by omega
  rw [e1,empty_beq]
  simp only [beq_self_eq_true,Bool.true_and,Bool.and_true]
  congr 1
  rw [Bool.eq_iff_iff]
  simp
 ·refine ⟨_,cell_of g rfl,?_⟩
  refine (path_Name_spec k.name hn w1).mono ?_
  rintro _ _ ⟨rfl,rfl⟩
  rename_i w1
  have e2:k.what.toNat=2:=by omega
  rw [e2]
  have hb:isName k.bytes=isName k.name.data.toList:=rfl
  rw [hb]
  refine ⟨_,rfl,br_intro (fun h=>⟨_,cell_of g rfl,?_,hE⟩) fun h=>⟨?_,hE⟩⟩
  ·rw [h]
   congr 1
   rw [Bool.eq_iff_iff]
   simp
  ·rw [h];simp
 ·have e3:k.what.toNat=3:=by omega
  rw [e3]
  refine ⟨_,cell_of g rfl,?_⟩
  rw [empty_beq]
  refine br_dec (fun h=>⟨_,cell_of g rfl,br_dec (fun h'=>⟨_,cell_of g rfl,?_,hE⟩) fun h'=>⟨?_,hE⟩⟩) fun h=>⟨?_,hE⟩
  ·rw [decide_eq_true h,decide_eq_true (by omega:0≤k.chunk)];simp
  ·rw [decide_eq_false (p:=0≤k.chunk) (by omega)];simp
  ·rw [decide_eq_false h];simp
 ·refine ⟨?_,hE⟩
  rw [decide_eq_false (p:=k.what.toNat=1) (by omega),decide_eq_false (p:=k.what.toNat=2) (by omega),decide_eq_false (p:=k.what.toNat=3) (by omega)]
  simp
theorem carrackref06_MayKey_spec (k:Key) (hn:k.name.size<9223372036854775807) (w:World):CallsR prog K.carrackref06_MayKey #[keyV k] w fun v w'=>v= .bool k.may∧Ext w w':=by
 apply carrackref06_MayKey.sh
 unfold carrackref06_MayKey.body
 simp only [add_lit,Nat.zero_add]
 intro B1 w1 hn1
 have g:=hn1.get
 have hE:=hn1.upd
 refine ⟨_,cell_of g rfl,br_dec (fun h=>⟨by rw [Key.may_ino (by omega)],hE⟩) fun h1=>⟨_,cell_of g rfl,br_dec (fun h=>⟨by rw [Key.may_ino (by omega)],hE⟩) fun h2=>?_⟩⟩
 rw [Key.may_in ⟨by omega,by omega⟩]
 refine ⟨_,cell_of g rfl,br_eq (fun hw=>?_) fun hw1=>br_eq (fun hw=>?_) fun hw2=>br_eq (fun hw=>?_) fun hw3=>?_⟩
 ·have e1:k.what.toNat=1:=by omega
  rw [e1]
  refine ⟨_,cell_of g rfl,?_⟩
  rw [empty_beq]
  refine br_dec (fun h=>⟨_,cell_of g rfl,?_,hE⟩) fun h=>⟨?_,hE⟩
  ·rw [decide_eq_true h]
   congr 1
   rw [Bool.eq_iff_iff]
   simp
  ·rw [decide_eq_false h];simp
 ·refine ⟨_,cell_of g rfl,?_⟩
  refine (carrackref05_Name_spec k.name hn w1).mono ?_
  rintro _ _ ⟨rfl,rfl⟩
  rename_i w1
  have e2:k.what.toNat=2:=by omega
  rw [e2]
  have hb:isName k.bytes=isName k.name.data.toList:=rfl
  rw [hb]
  refine ⟨_,rfl,br_intro (fun h=>⟨_,cell_of g rfl,?_,hE⟩) fun h=>⟨?_,hE⟩⟩
  ·rw [h]
   congr 1
   rw [Bool.eq_iff_iff]
   simp
  ·rw [h];simp
 ·have e3:k.what.toNat=3:=by omega
  rw [e3]
  refine ⟨_,cell_of g rfl,?_⟩
  rw [empty_beq]
  refine br_dec (fun h=>⟨_,cell_of g rfl,br_dec (fun h'=>⟨_,cell_of g rfl,?_,hE⟩) fun h'=>⟨?_,hE⟩⟩) fun h=>⟨?_,hE⟩
  ·rw [decide_eq_true h,decide_eq_true (by omega:0≤k.chunk)];simp
  ·rw [decide_eq_false (p:=0≤k.chunk) (by omega)];simp
  ·rw [decide_eq_false h];simp
 ·refine ⟨?_,hE⟩
  rw [decide_eq_false (p:=k.what.toNat=1) (by omega),decide_eq_false (p:=k.what.toNat=2) (by omega),decide_eq_false (p:=k.what.toNat=3) (by omega)]
  simp
def finKey (k:Key) (s:St):Key×Nat×St:=if k.may then (k,0,s) else (Key.zero,5,s)
def keyS (s:St):Key×Nat×St :=
 let a:=takeS 2 s
 let b:=takeS 1 a.2.2
 if b.2.1≠0 then (Key.zero,4,none)
 else if b.1=2 then
  let c:=rowS b.2.2
  if c.2.1≠0 then (Key.zero,4,none) else finKey ⟨a.1,UInt8.ofNat b.1,⟨c.1.toArray⟩,0⟩ c.2.2
 else if b.1=3 then
  let c:=takeS 1 b.2.2
  if c.2.1≠0 then (Key.zero,4,none) else finKey ⟨a.1,UInt8.ofNat b.1,ByteArray.empty,c.1⟩ c.2.2
 else finKey ⟨a.1,UInt8.ofNat b.1,ByteArray.empty,0⟩ b.2.2
theorem str_of {w:World} {a:Option Addr} {l:List UInt8} (h:BytesAt w a l) {K:ByteArray→Prop} (hk:K ⟨l.toArray⟩):strOfP w a l.length K:=by
 cases a with
 | none =>
  cases l with
  | nil=>exact hk
  | cons x l =>
   obtain ⟨b,o,e,_⟩:=RowAt.blk h (by simp)
   cases e
 | some q =>
  refine ⟨l,rfl,?_,hk⟩
  cases l with
  | nil=>trivial
  | cons x l =>
   obtain ⟨b,o,e,_⟩:=RowAt.blk h (by simp)
   cases e
   exact h.cells
theorem wu8n {x:Nat} (h:x<256):Value.int .u8 (IntKind.u8.wrap (x:Int))=bv (UInt8.ofNat x):=by rw [bv_mod,Nat.mod_eq_of_lt h]
abbrev KeyAt (u:World) (B:Nat) (k:Key):Prop:=u.heap[B]?=some (.cells k.vals.toArray T.api_Key (0,0))
theorem key_put {w:World} {B:Nat} {cs:Array Value} {k:Key} {K:World→Prop} (hc:w.heap[B]?=some (.cells cs T.api_Key (0,0))) (hs:cs.size=4) (hk:∀ w',Upd (·=B) w w'→w'.heap.size=w.heap.size→KeyAt w' B k→K w') :
  storeP w ⟨B,0,none⟩ [.int .i64 k.ino,bv k.what,.string k.name,.int .i64 k.chunk] K:=put_all hc (by rw [hs];rfl) hk
theorem key_cells {w:World} {B:Nat} {k:Key} (hc:KeyAt w B k):cellsAt w ⟨B,0,none⟩ [.int .i64 k.ino,bv k.what,.string k.name,.int .i64 k.chunk] 0:=cells_all hc
theorem key_name {w:World} {B:Nat} {k:Key} {n:ByteArray} {K:World→Prop} (hc:KeyAt w B k) (hk:∀ w',Upd (·=B) w w'→KeyAt w' B { k with name:=n }→K w'):storeP w ⟨B,2,none⟩ [.string n] K :=
 store_of hc (by simp [Key.vals]) fun w' hp=>hk w' hp.upd1 hp.get
theorem key_chunk {w:World} {B:Nat} {k:Key} {n:Int} {K:World→Prop} (hc:KeyAt w B k) (hk:∀ w',Upd (·=B) w w'→KeyAt w' B { k with chunk:=n }→K w'):storeP w ⟨B,3,none⟩ [.int .i64 n] K :=
 store_of hc (by simp [Key.vals]) fun w' hp=>hk w' hp.upd1 hp.get
theorem key_out {u:World} {B:Nat} {k k0:Key} {e:Int} {R:Value→World→Prop} (g:KeyAt u B k0) (hR:∀ u',Upd (·=B) u u'→R (.tuple #[keyV k,.int .i64 e]) u') :
  storeP u ⟨B,0,none⟩ [.int .i64 k.ino,bv k.what,.string k.name,.int .i64 k.chunk] fun w'=>∃ x y:Int,∃ n:ByteArray,∃ z:Int,cellsAt w' ⟨B,0,none⟩ [.int .i64 x,.int .u8 y,.string n,.int .i64 z] 0∧R (.tuple #[.agg #[.int .i64 x,.int .u8 y,.string n,.int .i64 z],.int .i64 e]) w' :=
 key_put g rfl fun w' hu _ hg=>⟨_,_,_,_,key_cells hg,hR w' hu⟩
theorem key_fin {f:FuncId} {u:World} {B1 B2:Nat} {k k0:Key} {R:Value→World→Prop} (hB:B1≠B2) (g1:KeyAt u B1 k0) (g2:KeyAt u B2 k) (hm:CallsR prog f #[keyV k] u fun v w'=>v= .bool k.may∧Ext u w')
  (hR:∀ u',Upd (·=B1) u u'→R (.tuple #[keyV (if k.may then k else Key.zero),.int .i64 (if k.may then 0 else 5)]) u') :
  ∃ x y:Int,∃ n:ByteArray,∃ z:Int,cellsAt u ⟨B2,0,none⟩ [.int .i64 x,.int .u8 y,.string n,.int .i64 z] 0∧CallsR prog f #[.agg #[.int .i64 x,.int .u8 y,.string n,.int .i64 z]] u fun v w'=>∃ b:Bool,v= .bool b∧br (!b)
   (storeP w' ⟨B1,0,none⟩ [.int .i64 Key.zero.ino,bv Key.zero.what,.string Key.zero.name,.int .i64 Key.zero.chunk] fun w'=>∃ x y:Int,∃ n:ByteArray,∃ z:Int,cellsAt w' ⟨B1,0,none⟩ [.int .i64 x,.int .u8 y,.string n,.int .i64 z] 0∧R (.tuple #[.agg #[.int .i64 x,.int .u8 y,.string n,.int .i64 z],.int .i64 5]) w')
   (∃ x y:Int,∃ n:ByteArray,∃ z:Int,cellsAt w' ⟨B2,0,none⟩ [.int .i64 x,.int .u8 y,.string n,.int .i64 z] 0∧storeP w' ⟨B1,0,none⟩ [.int .i64 x,.int .u8 y,.string n,.int .i64 z] fun w'=>∃ x y:Int,∃ n:ByteArray,∃ z:Int,cellsAt w' ⟨B1,0,none⟩ [.int .i64 x,.int .u8 y,.string n,.int .i64 z] 0∧R (.tuple #[.agg #[.int .i64 x,.int .u8 y,.string n,.int .i64 z],.int .i64 0]) w'):=by
 refine ⟨_,_,_,_,key_cells g2,hm.mono ?_⟩
 rintro _ w' ⟨rfl,he⟩
 refine ⟨_,rfl,br_intro (fun hb=>?_) fun hb=>?_⟩
 ·have hb':k.may=false:=by simpa using hb
  rw [hb'] at hR
  exact key_out (Ext.get he g1) fun u' hu=>hR u' ((Upd.ext he).trans hu)
 ·have hb':k.may=true:=by simpa using hb
  rw [hb'] at hR
  exact ⟨_,_,_,_,key_cells (Ext.get he g2),key_out (Ext.get he g1) fun u' hu=>hR u' ((Upd.ext he).trans hu)⟩
theorem empty_small:ByteArray.empty.size<9223372036854775807:=by decide
theorem finKey_is (k:Key) (s:St):finKey k s=(if k.may then k else Key.zero,if k.may then 0 else 5,s):=by unfold finKey;split<;>rfl
theorem finErr (b:Bool):(((if b=true then 0 else 5:Nat):Nat):Int)=if b=true then 0 else 5:=by cases b<;>rfl
theorem fact_GetKey_spec {G:Nat→Prop} {w:World} {r:Nat} {s:St} (hG:¬ G r) (hGs:∀ x,G x→x<w.heap.size) (hrs:r<w.heap.size) (h:RdIn G w r s) :
  CallsR prog K.fact_GetKey #[.pointer (some ⟨r,0,none⟩)] w fun v w'=>v= .tuple #[keyV (keyS s).1,.int .i64 ((keyS s).2.1:Nat)]∧Upd (·=r) w w'∧RdIn G w' r (keyS s).2.2:=by
 apply fact_GetKey.sh
 suffices H:∀ R:Value→World→Prop,(∀ v w',v= .tuple #[keyV (keyS s).1,.int .i64 ((keyS s).2.1:Nat)]∧Upd (·=r) w w'∧RdIn G w' r (keyS s).2.2→R v w')→fact_GetKey.body (some ⟨r,0,none⟩) w R from H _ fun _ _ h=>h
 intro R hR
 unfold fact_GetKey.body
 simp only [add_lit,Nat.zero_add]
 intro B1 w₁ hn1
 have hb1:B1=w.heap.size:=hn1.num
 have g1:KeyAt w₁ B1 Key.zero:=hn1.get
 have done:∀ {u u':World} {B:Nat} {s':St},Upd (·=r) w u→RdIn G u r s'→B1≤B→Upd (·=B) u u'→Upd (·=r) w u'∧RdIn G u' r s':=fun {u u' B s'} h1 h2 hB h3 =>
  ⟨Upd.mono (F:=fun x=>x=r∨x=B) ((h1.mono fun _ _ h=>.inl h).trans (h3.mono fun _ _ h=>.inr h)) fun x hx hor=>by
   rcases hor with h | h
   ·exact h
   ·omega,
   h2.upd h3 (by omega) fun x hx e=>by have:=hGs x hx;omega⟩
 refine (rdTake (k:=2) (by decide) hG (h.ext hn1.upd)).mono ?_
 rintro _ w₂ ⟨hu2,rfl,hr2⟩
 have u2:Upd (·=r) w w₂:=(Upd.ext hn1.upd).trans hu2
 have g2:KeyAt w₂ B1 Key.zero:=hu2.get g1 (by omega)
 have hs2:B1<w₂.heap.size:=(Array.getElem?_eq_some_iff.1 g2).1
 have a2:=takeS_lt 2 s
 have h256:(256:Nat) ^ 2=65536:=by decide
 refine ⟨_,_,rfl,br_eq (fun he=>?_) fun _=>?_⟩
 ·exfalso
  rcases takeS_cases 2 s with e | ⟨l,_,_,e⟩
  ·rw [e] at he;exact absurd he (by decide)
  ·rw [e] at he;simp at he
 refine (rdTake (k:=1) (by decide) hG hr2).mono ?_
 rintro _ w₄ ⟨hu4,rfl,hr4⟩
 have u4:=u2.trans hu4
 have g4:KeyAt w₄ B1 Key.zero:=hu4.get g2 (by omega)
 have hs4:=hu4.size
 have a4:=takeS_lt 1 (takeS 2 s).2.2
 have hk:keyS s=keyS s:=rfl
 generalize ha:takeS 2 s=A at *
 generalize hb:takeS 1 A.2.2=B at *
 have hkey:keyS s=if B.2.1≠0 then (Key.zero,4,none)
   else if B.1=2 then (if (rowS B.2.2).2.1≠0 then (Key.zero,4,none) else finKey ⟨A.1,UInt8.ofNat B.1,⟨(rowS B.2.2).1.toArray⟩,0⟩ (rowS B.2.2).2.2)
   else if B.1=3 then (if (takeS 1 B.2.2).2.1≠0 then (Key.zero,4,none) else finKey ⟨A.1,UInt8.ofNat B.1,ByteArray.empty,(takeS 1 B.2.2).1⟩ (takeS 1 B.2.2).2.2)
   else finKey ⟨A.1,UInt8.ofNat B.1,ByteArray.empty,0⟩ B.2.2:=by
  unfold keyS
  simp only [ha,hb]
 refine ⟨_,_,rfl,?_⟩
 rw [wu8n (by omega),w64n (by omega)]
 refine new_put (vs:=Key.vals ⟨A.1,UInt8.ofNat B.1,ByteArray.empty,0⟩) rfl fun B2 w₆ hb2 hs6 he6 g6=>?_
 have u6:=u4.then he6
 have r6:=hr4.ext he6
 have g16:KeyAt w₆ B1 Key.zero:=Ext.get he6 g4
 refine br_ne (fun hne=>?_) fun he=>?_
 ·refine br_ne (fun _=>?_) fun h=>absurd h hne
  have hB:B=(0,4,none):=by rw [← hb];exact takeS_err (by rw [hb];omega)
  rw [if_pos (by omega)] at hkey;rw [hkey] at hR
  rw [hB] at r6 ⊢
  exact key_out (k:=Key.zero) g16 fun u' hu=>hR _ _ ⟨rfl,done u6 r6 (Nat.le_refl _) hu⟩
 ·rw [if_neg (by omega)] at hkey
  refine br_eq (fun h2=>?_) fun h2=>?_
  ·rw [if_pos (by omega)] at hkey
   refine (rdRow hG r6).mono ?_
   rintro _ w₁₁ ⟨hu11,⟨a,c,rfl,hby,hc,hf⟩,hr11⟩
   have u11:=u6.trans hu11
   have hs11:=hu11.size
   have g11:KeyAt w₁₁ B1 Key.zero:=hu11.get g16 (by omega)
   have g12:KeyAt w₁₁ B2 ⟨A.1,UInt8.ofNat B.1,ByteArray.empty,0⟩:=hu11.get g6 (by omega)
   refine ⟨_,_,_,_,rfl,str_of hby (key_name g12 fun w₁₂ hu12 g22=>?_)⟩
   have g21:KeyAt w₁₂ B1 Key.zero:=hu12.get g11 (by omega)
   obtain ⟨u12,r12⟩:=done u11 hr11 (by omega) hu12
   have hlen:=rowS_len B.2.2
   refine br_ne (fun hne=>?_) fun he3=>?_
   ·have hrow:rowS B.2.2=([],4,none):=rowS_err (by omega)
    rw [if_pos (by omega)] at hkey;rw [hkey] at hR
    rw [hrow] at r12 ⊢
    exact key_out (k:=Key.zero) g21 fun u' hu=>hR _ _ ⟨rfl,done u12 r12 (Nat.le_refl _) hu⟩
   ·rw [if_neg (by omega),finKey_is] at hkey;rw [hkey] at hR;simp only [finErr] at hR
    exact key_fin (by omega) g21 g22 (fact_MayKey_spec _ (by simp [ByteArray.size];omega) _) fun u' hu=>hR _ _ ⟨rfl,done u12 r12 (Nat.le_refl _) hu⟩
  ·rw [if_neg (by omega)] at hkey
   refine br_eq (fun h3=>?_) fun h3=>?_
   ·rw [if_pos (by omega)] at hkey
    refine (rdTake (k:=1) (by decide) hG r6).mono ?_
    rintro _ w₁₁ ⟨hu11,rfl,hr11⟩
    have a11:=takeS_lt 1 B.2.2
    have u11:=u6.trans hu11
    have hs11:=hu11.size
    have g11:KeyAt w₁₁ B1 Key.zero:=hu11.get g16 (by omega)
    have g12:KeyAt w₁₁ B2 ⟨A.1,UInt8.ofNat B.1,ByteArray.empty,0⟩:=hu11.get g6 (by omega)
    refine ⟨_,_,rfl,?_⟩
    rw [w64n (by omega)]
    refine key_chunk g12 fun w₁₂ hu12 g22=>?_
    have g21:KeyAt w₁₂ B1 Key.zero:=hu12.get g11 (by omega)
    obtain ⟨u12,r12⟩:=done u11 hr11 (by omega) hu12
    refine br_ne (fun hne=>?_) fun he3=>?_
    ·have hrow:takeS 1 B.2.2=(0,4,none):=takeS_err (by omega)
     rw [if_pos (by omega)] at hkey;rw [hkey] at hR
     rw [hrow] at r12 ⊢
     exact key_out (k:=Key.zero) g21 fun u' hu=>hR _ _ ⟨rfl,done u12 r12 (Nat.le_refl _) hu⟩
    ·rw [if_neg (by omega),finKey_is] at hkey;rw [hkey] at hR;simp only [finErr] at hR
     exact key_fin (by omega) g21 g22 (fact_MayKey_spec _ empty_small _) fun u' hu=>hR _ _ ⟨rfl,done u12 r12 (Nat.le_refl _) hu⟩
   ·rw [if_neg (by omega)] at hkey
    refine br_ne (fun hne=>absurd he hne) fun _=>?_
    rw [finKey_is] at hkey;rw [hkey] at hR;simp only [finErr] at hR
    exact key_fin (by omega) g16 g6 (fact_MayKey_spec _ empty_small _) fun u' hu=>hR _ _ ⟨rfl,done u6 r6 (Nat.le_refl _) hu⟩
theorem row_cell {w:World} {b o:Nat} {vs:List Value} (h:RowAt w (some ⟨b,o,none⟩) vs) {j:Nat} {v:Value} (hj:vs[j]?=some v):w.cell? ⟨b,o+j,none⟩= some v:=by
 obtain ⟨b',o',e,hc⟩:=h.cell hj
 cases e
 exact hc
theorem Key.oneCell (k:Key):∀ v∈k.vals,v.oneCell'=true:=by
 intro v hv
 simp only [Key.vals,List.mem_cons,List.not_mem_nil,or_false] at hv
 rcases hv with rfl | rfl | rfl | rfl<;>rfl
def keyR:ERep Key:=flatR Key.vals 4 (by decide) (fun _=>rfl) Key.oneCell
def boolR:ERep Bool:=flatR (fun b=>[.bool b]) 1 (by decide) (fun _=>rfl) (fun b v hv=>by simp at hv;rw [hv];rfl)
def intR:ERep Int:=flatR (fun x=>[.int .i64 x]) 1 (by decide) (fun _=>rfl) (fun b v hv=>by simp at hv;rw [hv];rfl)
def u8R:ERep UInt8:=flatR (fun x=>[bv x]) 1 (by decide) (fun _=>rfl) (fun b v hv=>by simp at hv;rw [hv];rfl)
def changeR:ERep Change:=ERep.pair keyR (ERep.pair bytesR boolR (fun x:List UInt8×Bool=>x.1) (fun x=>x.2)) (fun x:Change=>x.key) (fun x=>(x.val,x.gone))
abbrev changeVs (k:Key) (a:Option Addr) (n c:Nat) (b:Bool):List Value:=[.int .i64 k.ino,bv k.what,.string k.name,.int .i64 k.chunk,.slice a n c,.bool b]
theorem changeR_intro {w:World} {G:Nat→Prop} {x:Change} {a:Option Addr} {c:Nat} (hc:x.val.length≤c) (hb:BytesAt w a x.val) (hg:x.val≠[]→∀ p,a=some p→G p.block) :
  changeR.R w G (changeVs x.key a x.val.length c x.gone) x:=⟨x.key.vals,[.slice a x.val.length c,.bool x.gone],rfl,rfl,[.slice a x.val.length c],[.bool x.gone],rfl,⟨a,c,rfl,hc,hb,hg⟩,rfl⟩
theorem changeR_elim {w:World} {G:Nat→Prop} {x:Change} {vs:List Value} (h:changeR.R w G vs x) :
  ∃ a c,vs=changeVs x.key a x.val.length c x.gone∧x.val.length≤c∧BytesAt w a x.val∧(x.val≠[]→∀ p,a=some p→G p.block):=by
 obtain ⟨u,v,rfl,hu,s,t,rfl,⟨a,c,hs,hc,hb,hg⟩,ht⟩:=h
 have hu':u=x.key.vals:=hu
 have ht':t=[.bool x.gone]:=ht
 subst hu';subst ht'
 have hs':s=[.slice a x.val.length c]:=hs
 subst hs'
 exact ⟨a,c,rfl,hc,hb,hg⟩
def Change.zero:Change:=⟨Key.zero,[],false⟩
def oneS (s:St):Change×Nat×St :=
 let a:=takeS 1 s
 if a.2.1≠0 then (Change.zero,4,none)
 else if 1<a.1 then (Change.zero,5,a.2.2)
 else
  let k:=keyS a.2.2
  if k.2.1≠0 then (Change.zero,k.2.1,k.2.2)
  else if a.1=0 then (⟨k.1,[],true⟩,0,k.2.2)
  else
   let v:=rowS k.2.2
   if v.2.1≠0 then (Change.zero,4,none) else if v.1.length=0 then (Change.zero,5,v.2.2) else (⟨k.1,v.1,false⟩,0,v.2.2)
def goS:Nat→St→List Change→List Change×Nat
 | 0,s,acc=>if 0<leftS s then ([],5) else (acc,0)
 | n+1,s,acc=>if (oneS s).2.1≠0 then ([],(oneS s).2.1) else goS n (oneS s).2.2 (acc ++ [(oneS s).1])
def getS (b:List UInt8):List Change×Nat :=
 if (takeS 1 (some b)).2.1≠0 then ([],4) else if (takeS 1 (some b)).1=0 then ([],5) else goS (takeS 1 (some b)).1 (takeS 1 (some b)).2.2 []
def dropS (b:List UInt8):Nat×Nat:=if b.length≠8 then (0,5) else if fromLE b=0 then (0,5) else (fromLE b,0)
theorem chg_out {u:World} {B:Nat} {cs:Array Value} {k:Key} {a:Option Addr} {n c:Nat} {b:Bool} {e:Int} {R:Value→World→Prop} (g:u.heap[B]?=some (.cells cs T.api_Change (0,0))) (hcs:cs.size=6)
  (hR:∀ u',Upd (·=B) u u'→R (.tuple #[.agg #[.int .i64 k.ino,bv k.what,.string k.name,.int .i64 k.chunk,.slice a n c,.bool b],.int .i64 e]) u') :
  storeP u ⟨B,0,none⟩ (changeVs k a n c b) fun w'=>∃ x y:Int,∃ m:ByteArray,∃ z:Int,∃ (a':Option Addr) (n' c':Nat),∃ b':Bool,cellsAt w' ⟨B,0,none⟩ [.int .i64 x,.int .u8 y,.string m,.int .i64 z,.slice a' n' c',.bool b'] 0∧R (.tuple #[.agg #[.int .i64 x,.int .u8 y,.string m,.int .i64 z,.slice a' n' c',.bool b'],.int .i64 e]) w' :=
 put_all g (by rw [hcs];rfl) fun w' hu _ hg=>⟨_,_,_,_,_,_,_,_,cells_all hg,hR w' hu⟩
theorem rec_reader_one_spec {G:Nat→Prop} {w:World} {r:Nat} {s:St} (hG:¬ G r) (hGs:∀ x,G x→x<w.heap.size) (hrs:r<w.heap.size) (h:RdIn G w r s) :
  CallsR prog K.rec_reader_one #[.agg #[.pointer (some ⟨r,0,none⟩)]] w fun v w'=>Upd (·=r) w w'∧RdIn G w' r (oneS s).2.2∧∃ k a n c b,v= .tuple #[.agg #[.int .i64 k.ino,bv k.what,.string k.name,.int .i64 k.chunk,.slice a n c,.bool b],.int .i64 ((oneS s).2.1:Nat)]∧
   ((oneS s).2.1=0→k=(oneS s).1.key∧b=(oneS s).1.gone∧n=(oneS s).1.val.length∧n≤c∧BytesAt w' a (oneS s).1.val∧∀ p,a=some p→w.heap.size≤p.block∧p.block<w'.heap.size):=by
 apply rec_reader_one.sh
 suffices H:∀ R:Value→World→Prop,(∀ v w',(Upd (·=r) w w'∧RdIn G w' r (oneS s).2.2∧∃ k a n c b,v= .tuple #[.agg #[.int .i64 k.ino,bv k.what,.string k.name,.int .i64 k.chunk,.slice a n c,.bool b],.int .i64 ((oneS s).2.1:Nat)]∧
   ((oneS s).2.1=0→k=(oneS s).1.key∧b=(oneS s).1.gone∧n=(oneS s).1.val.length∧n≤c∧BytesAt w' a (oneS s).1.val∧∀ p,a=some p→w.heap.size≤p.block∧p.block<w'.heap.size))→R v w')→rec_reader_one.body (some ⟨r,0,none⟩) w R from H _ fun _ _ h=>h
 intro R hR
 unfold rec_reader_one.body
 intro B1 w₁ hn1 B2 w₂ hn2
 have hb1:B1=w.heap.size:=hn1.num
 have hb2:B2=w₁.heap.size:=hn2.num
 have hs1:=hn1.size
 have hs2:=hn2.size
 have e2:Ext w w₂:=hn1.upd.trans hn2.upd
 have done:∀ {u u':World} {s':St},Upd (·=r) w u→RdIn G u r s'→Upd (·=B2) u u'→Upd (·=r) w u'∧RdIn G u' r s':=fun {u u' s'} h1 h2 h3 =>
  ⟨Upd.mono (F:=fun x=>x=r∨x=B2) ((h1.mono fun _ _ h=>.inl h).trans (h3.mono fun _ _ h=>.inr h)) fun x hx hor=>by
   rcases hor with h | h
   ·exact h
   ·omega,
   h2.upd h3 (by omega) fun x hx e=>by have:=hGs x hx;omega⟩
 have g11:w₂.heap[B1]?=some (.cells #[.pointer (some ⟨r,0,none⟩)] T.rec_reader (0,0)):=Ext.get hn2.upd hn1.get
 have g12:=hn2.get
 refine ⟨_,cell_of g11 rfl,(rdTake (k:=1) (by decide) hG (h.ext e2)).mono ?_⟩
 rintro _ w₃ ⟨hu3,rfl,hr3⟩
 have u3:Upd (·=r) w w₃:=(Upd.ext e2).trans hu3
 have g31:=hu3.get g11 (by omega)
 have g32:=hu3.get g12 (by omega)
 have hs3:=hu3.size
 have a3:=takeS_lt 1 s
 have hone:oneS s=oneS s:=rfl
 conv at hone=>rhs;unfold oneS
 refine ⟨_,_,rfl,br_ne (fun hne=>?_) fun he=>?_⟩
 ·have hA:takeS 1 s=(0,4,none):=takeS_err (by omega)
  rw [hA] at hone
  replace hone:oneS s=(Change.zero,4,none):=hone
  rw [hone] at hR
  rw [hA] at hr3 ⊢
  exact chg_out (k:=Key.zero) g32 rfl fun u' hu=>hR _ _ ⟨(done u3 hr3 hu).1,(done u3 hr3 hu).2,Key.zero,none,0,0,false,rfl,fun h=>by cases h⟩
 ·simp only [] at hone
  rw [if_neg (by omega)] at hone
  refine br_dec (fun h1=>?_) fun h1=>?_
  ·rw [if_pos (by omega)] at hone
   rw [hone] at hR
   exact chg_out (k:=Key.zero) g32 rfl fun u' hu=>hR _ _ ⟨(done u3 hr3 hu).1,(done u3 hr3 hu).2,Key.zero,none,0,0,false,rfl,fun h=>by cases h⟩
  ·rw [if_neg (by omega)] at hone
   refine ⟨_,cell_of g31 rfl,(fact_GetKey_spec hG (fun x hx=>by have:=hGs x hx;omega) (by omega) hr3).mono ?_⟩
   rintro _ w₆ ⟨rfl,hu6,hr6⟩
   have u6:=u3.trans hu6
   have hs6:=hu6.size
   refine ⟨_,_,_,_,_,rfl,new_put (vs:=Key.vals (keyS (takeS 1 s).2.2).1) rfl fun B3 w₈ hb3 hs8 he8 g83=>?_⟩
   have u8:=u6.then he8
   have r8:=hr6.ext he8
   have g81:=Ext.get he8 (hu6.get g31 (by omega))
   have g82:=Ext.get he8 (hu6.get g32 (by omega))
   refine br_ne (fun hne=>?_) fun he6=>?_
   ·rw [if_pos (by omega)] at hone
    rw [hone] at hR
    exact ⟨_,_,_,_,key_cells g83,chg_out g82 rfl fun u' hu=>hR _ _ ⟨(done u8 r8 hu).1,(done u8 r8 hu).2,_,_,_,_,_,rfl,fun h=>absurd h (by show ¬ (keyS (takeS 1 s).2.2).2.1=0;omega)⟩⟩
   ·rw [if_neg (by omega)] at hone
    refine br_eq (fun h0=>?_) fun h0=>?_
    ·rw [if_pos (by omega)] at hone
     rw [hone] at hR
     refine ⟨_,_,_,_,key_cells g83,chg_out g82 rfl fun u' hu=>hR _ _ ⟨(done u8 r8 hu).1,(done u8 r8 hu).2,_,none,0,0,true,?_,fun _=>⟨rfl,rfl,rfl,Nat.le_refl _,BytesAt.nil _ none,fun _ hp=>by cases hp⟩⟩⟩
     rw [he6];rfl
    ·rw [if_neg (by omega)] at hone
     refine ⟨_,cell_of g81 rfl,(rdRow hG r8).mono ?_⟩
     rintro _ w₁₁ ⟨hu11,⟨a,c,rfl,hby,hc,hf⟩,hr11⟩
     have u11:=u8.trans hu11
     have g112:=hu11.get g82 (by omega)
     have g113:=hu11.get g83 (by omega)
     refine ⟨_,_,_,_,rfl,br_eq (fun he11=>br_eq (fun hl=>?_) fun hl=>?_) fun hne=>?_⟩
     ·rw [if_neg (by omega),if_pos (by omega)] at hone
      rw [hone] at hR
      exact ⟨_,_,_,_,key_cells g113,chg_out g112 rfl fun u' hu=>hR _ _ ⟨(done u11 hr11 hu).1,(done u11 hr11 hu).2,_,_,_,_,_,rfl,fun h=>by cases h⟩⟩
     ·rw [if_neg (by omega),if_neg (by omega)] at hone
      rw [hone] at hR
      refine ⟨_,_,_,_,key_cells g113,chg_out g112 rfl fun u' hu=>hR _ _ ⟨(done u11 hr11 hu).1,(done u11 hr11 hu).2,_,a,_,c,false,?_,fun _=>⟨rfl,rfl,rfl,hc,?_,fun p hp=>?_⟩⟩⟩
      ·rw [he11];rfl
      ·refine RowAt.upd hby hu fun p hp e=>?_
       have:=(hf p hp).1
       omega
      ·have:=hf p hp
       have:=hu.size
       omega
     ·have hrow:=rowS_err (s:=(keyS (takeS 1 s).2.2).2.2) (by omega)
      rw [if_pos (by omega)] at hone
      rw [hone] at hR
      rw [hrow] at hr11 ⊢
      exact ⟨_,_,_,_,key_cells g113,chg_out g112 rfl fun u' hu=>hR _ _ ⟨(done u11 hr11 hu).1,(done u11 hr11 hu).2,_,_,_,_,_,rfl,fun h=>by cases h⟩⟩
theorem goS_step {n i:Nat} {s:St} {acc:List Change} (hi:i<n):goS (n - i) s acc=if (oneS s).2.1≠0 then ([],(oneS s).2.1) else goS (n - (i+1)) (oneS s).2.2 (acc ++ [(oneS s).1]):=by
 obtain ⟨m,hm⟩: ∃ m,n - i=m+1:=⟨n - i - 1,by omega⟩
 have hm':n - (i+1)=m:=by omega
 rw [hm,hm'];rfl
theorem getS_take {b:List UInt8} (h0:(takeS 1 (some b)).2.1=0) (h1:(takeS 1 (some b)).1≠0):getS b=goS ((takeS 1 (some b)).1 - 0) (takeS 1 (some b)).2.2 []:=by
 unfold getS
 rw [if_neg (by omega),if_neg (by omega)];rfl
def ListOut {α:Type} (r:ERep α) (e:TypeId) (w w':World) (v:Value) (l:List α) (x:Nat):Prop:=∃ a c,v= .tuple #[.slice a l.length c,.int .i64 (x:Nat)]∧ListAt r NoB w.heap.size w' a c e l∧Ext w w'
theorem ListOut.none {α:Type} {r:ERep α} {e:TypeId} {w w':World} {x:Nat} {l:List α} (hl:l=[]) (h:Ext w w'):ListOut r e w w' (.tuple #[.slice .none 0 0,.int .i64 (x:Nat)]) l x:=by
 subst hl;exact ⟨.none,0,rfl,ListAt.nil _ _,h⟩
theorem rec_Get_spec {w:World} {a:Option Addr} {b:List UInt8} {c:Nat} (hb:BytesAt w a b) (hn:b.length≤281474976710656) :
  CallsR prog K.rec_Get #[.slice a b.length c] w fun v w'=>ListOut changeR T.api_Change w w' v (getS b).1 (getS b).2:=by
 apply rec_Get.sh
 suffices H:∀ R:Value→World→Prop,(∀ v w',ListOut changeR T.api_Change w w' v (getS b).1 (getS b).2→R v w')→rec_Get.body a b.length c w R from H _ fun _ _ h=>h
 intro R hR
 unfold rec_Get.body
 refine (ends_New_in a b c w hb hn).mono ?_
 rintro _ w₁ ⟨r,rfl,hr1,hrd,he1⟩
 have hrs1:r<w₁.heap.size:=by obtain ⟨_,_,h,_⟩:=hrd.at_;exact (Array.getElem?_eq_some_iff.1 h).1
 refine ⟨_,rfl,new_put (vs:=[.pointer (some ⟨r,0,none⟩)]) rfl fun B1 w₃ hb1 hs3 he3 g3=>?_⟩
 have hG:¬ (fun x=>w.heap.size≤x∧x<r) r:=by simp
 have hrd3:RdIn (fun x=>w.heap.size≤x∧x<r) w₃ r (some b):=ReaderIn.updG hrd he3 (fun h=>h) (fun _ _ h=>h)
 have e3:Ext w w₃:=he1.trans he3
 refine ⟨_,cell_of g3 rfl,(rdTake (k:=1) (by decide) hG hrd3).mono ?_⟩
 rintro _ w₄ ⟨hu4,rfl,hr4⟩
 have e4:Ext w w₄:=e3.beyond hu4 fun x hx=>by omega
 have hs4:=hu4.size
 have g4:=hu4.get g3 (by omega)
 have a4:=takeS_lt 1 (some b)
 refine ⟨_,_,rfl,br_ne (fun hne=>?_) fun he=>br_eq (fun h0=>?_) fun h0=>?_⟩
 ·have hA:takeS 1 (some b)=(0,4,none):=takeS_err (by omega)
  have hg:getS b=([],4):=by unfold getS;rw [hA];rfl
  rw [hg] at hR
  rw [hA]
  exact hR _ _ (ListOut.none rfl e4)
 ·have hg:getS b=([],5):=by unfold getS;rw [if_neg (by omega),if_pos (by omega)]
  rw [hg] at hR
  exact hR _ _ (ListOut.none (x:=5) rfl e4)
 have hget:=getS_take (b:=b) (by omega) (by omega)
 generalize takeS 1 (some b)=A at *
 refine ⟨fun a1 l1 c1 x u=>∃ (i:Nat) (s:St) (acc:List Change),x=i∧i≤A.1∧l1=acc.length∧acc.length=i∧ListAt changeR NoB w₃.heap.size u a1 c1 T.api_Change acc∧RdIn (fun x=>w.heap.size≤x∧x<r) u r s∧Ext w u∧w₃.heap.size≤u.heap.size∧u.heap[B1]?=some (.cells [Value.pointer (some ⟨r,0,none⟩)].toArray T.rec_reader (0,0))∧getS b=goS (A.1 - i) s acc,
  fun _ _ _ x _=>((A.1:Int) - x).toNat,⟨0,_,[],rfl,by omega,rfl,rfl,ListAt.nil _ _,hr4,e4,hu4.size,g4,hget⟩,?_⟩
 rintro a1 l1 c1 x u ⟨i,s,acc,rfl,hi,rfl,hacc,hl,hrd,heu,hsu,gu,hgo⟩
 refine br_dec (fun hlt=>?_) fun hge=>?_
 ·have hi':i<A.1:=by omega
  rw [goS_step hi'] at hgo
  refine ⟨_,cells_all gu,(rec_reader_one_spec hG (fun x hx=>by omega) (by omega) hrd).mono ?_⟩
  rintro _ w₆ ⟨hu6,hr6,k,a2,n2,c2,b2,rfl,hok⟩
  have hs6:=hu6.size
  refine ⟨_,_,_,_,_,_,_,_,_,rfl,new_put (vs:=changeVs k a2 n2 c2 b2) rfl fun B2 w₈ hb2 hs8 he8 g8=>?_⟩
  have e6:Ext w w₆:=heu.beyond hu6 fun x hx=>by omega
  have hl6:ListAt changeR NoB w₃.heap.size w₆ a1 c1 T.api_Change acc:=hl.upd hu6 fun x hx=>⟨by omega,fun h=>h⟩
  have g6:=hu6.get gu (by omega)
  refine br_ne (fun hne=>?_) fun he6=>?_
  ·rw [if_pos (by omega)] at hgo
   rw [hgo] at hR
   exact hR _ _ (ListOut.none rfl (e6.trans he8))
  ·rw [if_neg (by omega)] at hgo
   obtain ⟨rfl,rfl,rfl,hc2,hby,hf⟩:=hok (by omega)
   refine ⟨_,_,_,_,_,_,_,_,cells_all g8,fun B3 w₉ hn9=>?_⟩
   have he9:=hn9.upd
   have hs9:=hn9.size
   have hl9:=(hl6.ext he8).ext he9
   refine ListAt.push (r:=changeR) (H:=fun b=>u.heap.size≤b∧b<w₆.heap.size) hl9 (changeR_intro hc2 ((hby.ext he8).ext he9) fun _ p hp=>hf p hp) (fun b hb=>⟨.inl (by omega),by omega,fun h=>?_⟩) hn9 rfl rfl (by omega) (by omega) (by omega) fun a' c' w₁₀ hu10 hl10=>?_
   ·have:=hl.lt h
    omega
   ·have e10:Ext w w₁₀:=((e6.trans he8).trans he9).beyond hu10 fun x hx=>by omega
    have hs10:=hu10.size
    have ew:IntKind.u64.wrap ((i:Int)+1)=((i+1:Nat):Int):=wu64 (by omega) (by omega)
    simp only [ew]
    refine ⟨⟨i+1,_,_,rfl,hi',rfl,by simp [hacc],hl10,(((hr6.ext he8).ext he9).upd hu10 (by omega) fun x hx=>by omega),e10,by omega,hu10.get (Ext.get he9 (Ext.get he8 g6)) (by omega),hgo⟩,meas hi'⟩
 ·have hin:i=A.1:=by omega
  subst hin
  rw [Nat.sub_self] at hgo
  refine ⟨_,cell_of gu rfl,(rdLeft hrd).mono ?_⟩
  rintro _ _ ⟨rfl,rfl⟩
  refine ⟨_,rfl,br_dec (fun hl0=>?_) fun hl0=>?_⟩
  ·have hg:getS b=([],5):=by rw [hgo];unfold goS;rw [if_pos (by omega)]
   rw [hg] at hR
   exact hR _ _ (ListOut.none (x:=5) rfl heu)
  ·have hg:getS b=(acc,0):=by rw [hgo];unfold goS;rw [if_neg (by omega)]
   rw [hg] at hR
   exact hR _ _ ⟨a1,c1,rfl,hl.weak (by omega) (fun _ h=>h.elim),heu⟩
theorem take_all8 {b:List UInt8} (h:b.length=8):takeS 8 (some b)=(fromLE b,0,some []):=by
 unfold takeS
 simp only []
 rw [if_neg (by omega),List.take_of_length_le (by omega),List.drop_of_length_le (by omega)]
theorem rec_GetDrop_spec {w:World} {a:Option Addr} {b:List UInt8} {c:Nat} (hb:BytesAt w a b) (hn:b.length≤281474976710656) :
  CallsR prog K.rec_GetDrop #[.slice a b.length c] w fun v w'=>v= .tuple #[.int .u64 ((dropS b).1:Nat),.int .i64 ((dropS b).2:Nat)]∧Ext w w':=by
 apply rec_GetDrop.sh
 suffices H:∀ R:Value→World→Prop,(∀ v w',v= .tuple #[.int .u64 ((dropS b).1:Nat),.int .i64 ((dropS b).2:Nat)]∧Ext w w'→R v w')→rec_GetDrop.body a b.length c w R from H _ fun _ _ h=>h
 intro R hR
 unfold rec_GetDrop.body
 refine (ends_New_in a b c w hb hn).mono ?_
 rintro _ w₁ ⟨r,rfl,hr1,hrd,he1⟩
 have hG:¬ (fun x=>w.heap.size≤x∧x<r) r:=by simp
 refine ⟨_,rfl,(rdTake (s:=some b) (k:=8) (by decide) hG hrd).mono ?_⟩
 rintro _ w₂ ⟨hu2,rfl,_⟩
 have e2:Ext w w₂:=he1.beyond hu2 fun x hx=>by omega
 refine ⟨_,_,rfl,br_ne (fun hne=>?_) fun he=>br_ne (fun h8=>?_) fun h8=>?_⟩
 ·have hg:dropS b=(0,5):=by
   unfold dropS
   rw [if_pos]
   intro h
   rw [take_all8 h] at hne
   exact hne rfl
  rw [hg] at hR
  exact hR _ _ ⟨rfl,e2⟩
 ·have hg:dropS b=(0,5):=by unfold dropS;rw [if_pos (by omega)]
  rw [hg] at hR
  exact hR _ _ ⟨rfl,e2⟩
 ·have h8':b.length=8:=by omega
  rw [take_all8 h8']
  refine br_eq (fun h0=>?_) fun h0=>?_
  ·have hg:dropS b=(0,5):=by unfold dropS;rw [if_neg (by omega),if_pos (by have:((fromLE b:Nat):Int)=0:=h0;omega)]
   rw [hg] at hR
   exact hR _ _ ⟨rfl,e2⟩
  ·have hg:dropS b=(fromLE b,0):=by unfold dropS;rw [if_neg (by omega),if_neg (by have:¬ ((fromLE b:Nat):Int)=0:=h0;omega)]
   rw [hg] at hR
   exact hR _ _ ⟨rfl,e2⟩
def BList (S:Nat) (w:World) (a:Option Addr) (cap:Nat) (l:List UInt8):Prop:=OwnAt w a l.length cap T.uint8 1 (l.map bv)∧∀ b,a=some ⟨b,0,none⟩→S≤b
theorem BList.nil (S:Nat) (w:World):BList S w none 0 []:=⟨OwnAt.nil _ _ _,fun _ h=>by cases h⟩
theorem BList.bytes {S:Nat} {w:World} {a:Option Addr} {cap:Nat} {l:List UInt8} (h:BList S w a cap l):BytesAt w a l:=h.1.row
theorem BList.cap {S:Nat} {w:World} {a:Option Addr} {cap:Nat} {l:List UInt8} (h:BList S w a cap l):l.length≤cap:=h.1.2.1
theorem BList.weak {S S':Nat} {w:World} {a:Option Addr} {cap:Nat} {l:List UInt8} (h:BList S w a cap l) (hS:S'≤S):BList S' w a cap l:=⟨h.1,fun b hb=>Nat.le_trans hS (h.2 b hb)⟩
theorem BList.upd {S:Nat} {w w':World} {F:Nat→Prop} {a:Option Addr} {cap:Nat} {l:List UInt8} (h:BList S w a cap l) (k:Upd F w w') (hF:∀ x,F x→x<S):BList S w' a cap l :=
 ⟨h.1.upd k fun b hb hf=>absurd (h.2 b hb) (by have:=hF b hf;omega),h.2⟩
theorem BList.ext {S:Nat} {w w':World} {a:Option Addr} {cap:Nat} {l:List UInt8} (h:BList S w a cap l) (k:Ext w w'):BList S w' a cap l:=⟨h.1.ext k,h.2⟩
theorem BList.lt {S:Nat} {w:World} {a:Option Addr} {cap:Nat} {l:List UInt8} (h:BList S w a cap l) {p:Addr} (hp:a=some p):S≤p.block∧p.block<w.heap.size:=by
 have hb:=h.1.2.2
 rcases hb with ⟨hx,_⟩| ⟨b,cur,hx,hb,_⟩
 ·rw [hx] at hp;cases hp
 ·have hs:=h.2 b hx
  rw [hx] at hp;cases hp
  exact ⟨hs,(Array.getElem?_eq_some_iff.1 hb).1⟩
theorem BList.new {S:Nat} {w w':World} {B:Nat} {cs:Array Value} (h:New w (.cells cs T.uint8) B w') {l:List UInt8} (hl:cs.toList=l.map bv) (hS:S≤w.heap.size):BList S w' (some ⟨B,0,none⟩) l.length l:=by
 have hsz:cs.size=l.length * 1:=by rw [← Array.length_toList,hl];simp
 have:=OwnAt.new h (n:=l.length) (size:=1) hsz
 rw [hl] at this
 exact ⟨this,fun b hb=>by cases hb;rw [h.num];exact hS⟩
theorem BList.cat {S:Nat} {w:World} {a ax:Option Addr} {cap n m cx:Nat} {l xs:List UInt8} (h:BList S w a cap l) (hn:n=l.length) (hm:m=xs.length) (hx:BytesAt w ax xs) (hb:l.length+xs.length≤140737488355232) (hS:S≤w.heap.size) {K:Option Addr→Nat→Nat→World→Prop}
  (hk:∀ a' c' w',Upd (fun b=>S≤b) w w'→BList S w' a' c' (l ++ xs)→K a' (l ++ xs).length c' w'):appendP T.uint8 1 1 [Value.int .u8 0] a n cap (.slice ax m cx) w K:=by
 subst hn;subst hm
 refine append_bytes h.1 hx hb fun a' c' w' hu ho hf=>hk a' c' w' (hu.mono fun b _ hb=>h.2 b hb) ⟨ho,fun b hb=>?_⟩
 rcases hf with hf | ⟨b',hb',hl⟩
 ·subst hf;exact h.2 b hb
 ·rw [hb'] at hb;cases hb;omega
theorem BList.push {S:Nat} {w w₁:World} {a:Option Addr} {cap n:Nat} {l:List UInt8} {B:Nat} {x:UInt8} (h:BList S w a cap l) (hn:n=l.length) (hnew:New w (.cells #[bv x] T.uint8) B w₁) (hb:l.length+1≤140737488355232) (hS:S≤w.heap.size) {K:Option Addr→Nat→Nat→World→Prop}
  (hk:∀ a' c' w',Upd (fun b=>S≤b) w w'→BList S w' a' c' (l ++ [x])→K a' (l ++ [x]).length c' w'):appendP T.uint8 1 1 [Value.int .u8 0] a n cap (.slice (some ⟨B,0,none⟩) 1 1) w₁ K :=
 BList.cat (xs:=[x]) (h.ext hnew.upd) hn rfl (RowAt.of hnew.get fun j v hj=>by simpa using hj) (by simpa using hb) (by have:=hnew.size;omega) fun a' c' w' hu hl=>hk a' c' w' ((Upd.ext hnew.upd).trans hu) hl
theorem BList.catX {G:Nat→Prop} {S:Nat} {w:World} {a ax:Option Addr} {cap n m cx:Nat} {l xs:List UInt8} (h:BList S w a cap l) (hG:∀ b,a=some ⟨b,0,none⟩→¬ G b) (hGs:∀ x,G x→x<w.heap.size) (hn:n=l.length) (hm:m=xs.length) (hx:BytesAt w ax xs) (hb:l.length+xs.length≤140737488355232) (hS:S≤w.heap.size) {K:Option Addr→Nat→Nat→World→Prop}
  (hk:∀ a' c' w',Upd (fun b=>S≤b∧¬ G b) w w'→BList S w' a' c' (l ++ xs)→(∀ b,a'=some ⟨b,0,none⟩→¬ G b)→K a' (l ++ xs).length c' w'):appendP T.uint8 1 1 [Value.int .u8 0] a n cap (.slice ax m cx) w K:=by
 subst hn;subst hm
 refine append_bytes h.1 hx hb fun a' c' w' hu ho hf=>hk a' c' w' (hu.mono fun b _ hb=>⟨h.2 b hb,hG b hb⟩) ⟨ho,fun b hb=>?_⟩ fun b hb hg=>?_
 ·rcases hf with hf | ⟨b',hb',hl⟩
  ·subst hf;exact h.2 b hb
  ·rw [hb'] at hb;cases hb;omega
 ·rcases hf with hf | ⟨b',hb',hl⟩
  ·subst hf;exact hG b hb hg
  ·rw [hb'] at hb;cases hb
   have:=hGs _ hg
   omega
theorem BList.pushX {G:Nat→Prop} {S:Nat} {w w₁:World} {a:Option Addr} {cap n:Nat} {l:List UInt8} {B:Nat} {x:UInt8} (h:BList S w a cap l) (hG:∀ b,a=some ⟨b,0,none⟩→¬ G b) (hGs:∀ x,G x→x<w.heap.size) (hn:n=l.length) (hnew:New w (.cells #[bv x] T.uint8) B w₁) (hb:l.length+1≤140737488355232) (hS:S≤w.heap.size) {K:Option Addr→Nat→Nat→World→Prop}
  (hk:∀ a' c' w',Upd (fun b=>S≤b∧¬ G b) w w'→BList S w' a' c' (l ++ [x])→(∀ b,a'=some ⟨b,0,none⟩→¬ G b)→K a' (l ++ [x]).length c' w'):appendP T.uint8 1 1 [Value.int .u8 0] a n cap (.slice (some ⟨B,0,none⟩) 1 1) w₁ K :=
 BList.catX (G:=G) (xs:=[x]) (h.ext hnew.upd) hG (fun x hx=>by have:=hGs x hx;have:=hnew.size;omega) hn rfl (RowAt.of hnew.get fun j v hj=>by simpa using hj) (by simpa using hb) (by have:=hnew.size;omega) fun a' c' w' hu hl=>hk a' c' w' ((Upd.ext hnew.upd).trans hu) hl
def BytesOut (w w':World) (v:Value) (l:List UInt8) (e:Nat):Prop:=∃ a c,v= .tuple #[.slice a l.length c,.int .i64 (e:Nat)]∧BList w.heap.size w' a c l∧Ext w w'
theorem BytesOut.none {w w':World} {e:Nat} (h:Ext w w'):BytesOut w w' (.tuple #[.slice .none 0 0,.int .i64 (e:Nat)]) [] e:=⟨.none,0,rfl,BList.nil _ _,h⟩
def rowB (b:List UInt8):List UInt8×Nat:=if b.length≤255 then (UInt8.ofNat b.length :: b,0) else ([],3)
theorem carrackref01_Row_spec {w:World} {a:Option Addr} {b:List UInt8} {c:Nat} (hb:BytesAt w a b) :
  CallsR prog K.carrackref01_Row #[.slice a b.length c] w fun v w'=>BytesOut w w' v (rowB b).1 (rowB b).2:=by
 apply carrackref01_Row.sh
 suffices H:∀ R:Value→World→Prop,(∀ v w',BytesOut w w' v (rowB b).1 (rowB b).2→R v w')→carrackref01_Row.body a b.length c w R from H _ fun _ _ h=>h
 intro R hR
 unfold carrackref01_Row.body
 refine br_dec (fun hl=>?_) fun hl=>?_
 ·have h:rowB b=([],3):=by unfold rowB;rw [if_neg (by omega)]
  rw [h] at hR
  exact hR _ _ (BytesOut.none (e:=3) (Upd.refl _ _))
 ·have h:rowB b=(UInt8.ofNat b.length :: b,0):=by unfold rowB;rw [if_pos (by omega)]
  rw [h] at hR
  intro B1 w₁ hn1
  rw [bv_mod,Nat.mod_eq_of_lt (by omega)] at hn1
  have hs1:=hn1.size
  refine BList.cat (l:=[UInt8.ofNat b.length]) (S:=w.heap.size) (BList.new hn1 rfl (Nat.le_refl _)) rfl rfl (hb.ext hn1.upd) (by simp;omega) (by omega) fun a' c' w' hu hl'=>?_
  exact hR _ _ ⟨a',c',rfl,hl',hn1.upd.own hu (Nat.le_refl _)⟩
def keyB (k:Key):List UInt8:=leB k.ino.toNat 2 ++ [k.what] ++ (if k.what=2 then UInt8.ofNat k.bytes.length :: k.bytes else if k.what=3 then [UInt8.ofNat k.chunk.toNat] else [])
def putKeyB (k:Key):List UInt8×Nat:=if k.may then (keyB k,0) else ([],2)
theorem Key.may_elim {k:Key} (h:k.may=true):1≤k.ino∧k.ino≤65535∧((k.what=1∧k.bytes=[]∧k.chunk=0)∨(k.what=2∧isName k.bytes=true∧k.chunk=0)∨(k.what=3∧k.bytes=[]∧0≤k.chunk∧k.chunk<8)):=by
 unfold Key.may at h
 simp only [Bool.and_eq_true,Bool.or_eq_true,decide_eq_true_eq] at h
 obtain ⟨⟨h1,h2⟩,h3⟩:=h
 refine ⟨h1,h2,?_⟩
 rcases h3 with (⟨⟨h,h'⟩,h''⟩| ⟨⟨h,h'⟩,h''⟩) | ⟨⟨⟨h,h'⟩,h''⟩,h'''⟩
 ·exact .inl ⟨UInt8.toNat_inj.1 h,h',h''⟩
 ·exact .inr (.inl ⟨UInt8.toNat_inj.1 h,h',h''⟩)
 ·exact .inr (.inr ⟨UInt8.toNat_inj.1 h,h',h'',h'''⟩)
theorem isName_len {s:List UInt8} (h:isName s=true):1≤s.length∧s.length≤12:=by
 unfold isName at h
 simp only [Bool.and_eq_true,decide_eq_true_eq] at h
 exact ⟨h.1.1.1.2,h.1.1.2⟩
theorem keyB_len {k:Key} (h:k.may=true):3≤(keyB k).length∧(keyB k).length≤16:=by
 obtain ⟨_,_,h3⟩:=Key.may_elim h
 unfold keyB
 simp only [List.length_append,leB_length,List.length_cons,List.length_nil]
 rcases h3 with ⟨h,_⟩| ⟨h,h',_⟩| ⟨h,_⟩
 ·rw [h,if_neg (by decide),if_neg (by decide)];simp
 ·have:=isName_len h'
  rw [h,if_pos rfl]
  simp only [List.length_cons]
  omega
 ·rw [h,if_neg (by decide),if_pos rfl];simp
theorem tmod_256 {n:Nat}:Int.tmod (n:Int) 256=((n % 256:Nat):Int):=tmod_nat n 256
theorem tdiv_256 {n:Nat}:Int.tdiv (n:Int) 256=((n / 256:Nat):Int):=tdiv_nat n 256
theorem carrackref06_PutKey_spec (k:Key) (hn:k.name.size<9223372036854775807) (w:World) :
  CallsR prog K.carrackref06_PutKey #[keyV k] w fun v w'=>BytesOut w w' v (putKeyB k).1 (putKeyB k).2:=by
 apply carrackref06_PutKey.sh
 suffices H:∀ R:Value→World→Prop,(∀ v w',BytesOut w w' v (putKeyB k).1 (putKeyB k).2→R v w')→carrackref06_PutKey.body k.ino k.what.toNat k.name k.chunk w R from H _ fun _ _ h=>h
 intro R hR
 unfold carrackref06_PutKey.body
 simp only [add_lit,Nat.zero_add]
 intro B1 w₁ hn1
 have g1:KeyAt w₁ B1 k:=hn1.get
 have hb1:B1=w.heap.size:=hn1.num
 have hs1:=hn1.size
 refine ⟨_,_,_,_,key_cells g1,(carrackref06_MayKey_spec k hn w₁).mono ?_⟩
 rintro _ w₂ ⟨rfl,he2⟩
 have g2:KeyAt w₂ B1 k:=Ext.get he2 g1
 have e2:Ext w w₂:=hn1.upd.trans he2
 have hs2:=he2.size
 refine ⟨_,rfl,br_intro (fun hm=>?_) fun hm=>?_⟩
 ·have h:putKeyB k=([],2):=by unfold putKeyB;rw [if_neg (by simpa using hm)]
  rw [h] at hR
  exact hR _ _ (BytesOut.none (e:=2) e2)
 have hm':k.may=true:=by simpa using hm
 have h:putKeyB k=(keyB k,0):=by unfold putKeyB;rw [if_pos hm']
 rw [h] at hR
 obtain ⟨h1,h2,h3⟩:=Key.may_elim hm'
 obtain ⟨n,hn0⟩: ∃ n:Nat,k.ino=n:=⟨k.ino.toNat,by omega⟩
 refine ⟨_,cell_of g2 rfl,by decide,_,cell_of g2 rfl,by decide,_,cell_of g2 rfl,fun B2 w₃ hn3=>?_⟩
 rw [hn0,tmod_256,tdiv_256,w64n (by omega),bv_mod,bv_mod,Nat.mod_mod] at hn3
 have hbl:(leB k.ino.toNat 2 ++ [k.what]).length=3:=by simp [leB_length]
 have hbase:BList w₂.heap.size w₃ (some ⟨B2,0,none⟩) 3 (leB k.ino.toNat 2 ++ [k.what]):=by
  have:=BList.new (S:=w₂.heap.size) (l:=leB k.ino.toNat 2 ++ [k.what]) hn3 (by rw [hn0,leB_two];rfl) (Nat.le_refl _)
  rw [hbl] at this
  exact this
 have hs3:=hn3.size
 have e3:Ext w w₃:=e2.trans hn3.upd
 have g3:KeyAt w₃ B1 k:=Ext.get hn3.upd g2
 refine ⟨_,cell_of g3 rfl,br_eq (fun hw=>?_) fun hw=>br_eq (fun hw3=>?_) fun hw3=>?_⟩
 ·have hw':k.what=2:=UInt8.toNat_inj.1 (by show k.what.toNat=2;omega)
  have hname:isName k.bytes=true:=by
   rcases h3 with ⟨h,_⟩| ⟨_,h,_⟩| ⟨h,_⟩
   ·rw [hw'] at h;cases h
   ·exact h
   ·rw [hw'] at h;cases h
  have hlen:=isName_len hname
  have hbs:k.name.size=k.bytes.length:=size_data _
  have hkey:keyB k=leB k.ino.toNat 2 ++ [k.what] ++ [UInt8.ofNat k.bytes.length] ++ k.bytes:=by unfold keyB;rw [if_pos hw'];simp
  have hpl:(leB k.ino.toNat 2 ++ [k.what] ++ [UInt8.ofNat k.bytes.length]).length=4:=by simp [leB_length]
  refine ⟨_,cell_of g3 rfl,fun B3 w₄ hn4=>?_⟩
  rw [hbs,bv_mod,Nat.mod_eq_of_lt (by omega)] at hn4
  refine BList.push hbase hbl.symm hn4 (by omega) (by omega) fun a1 c1 w₅ hu5 hl5=>?_
  have e5:Ext w w₅:=Ext.own e3 hu5 (by omega)
  have hs5:=hu5.size
  generalize hpre:leB k.ino.toNat 2 ++ [k.what] ++ [UInt8.ofNat k.bytes.length]=pre at *
  refine ⟨fun a l c x u=>∃ i:Nat,x=i∧i≤k.bytes.length∧l=(pre ++ k.bytes.take i).length∧BList w₂.heap.size u a c (pre ++ k.bytes.take i)∧Ext w u∧KeyAt u B1 k∧w₂.heap.size≤u.heap.size,fun _ _ _ x _=>((k.bytes.length:Int) - x).toNat,
   ⟨0,rfl,by omega,by simp,by simpa using hl5,e5,hu5.get g3 (by omega),by omega⟩,?_⟩
  rintro a l c x u ⟨i,rfl,hi,rfl,hl,heu,gu,hsu⟩
  refine ⟨_,cell_of gu rfl,?_⟩
  rw [hbs]
  refine br_dec (fun hlt=>?_) fun hge=>?_
  ·have hi':i<k.bytes.length:=by omega
   refine ⟨_,cell_of gu rfl,by omega,k.bytes[i],by rw [Int.toNat_natCast];exact List.getElem?_eq_getElem hi',fun B4 w₇ hn7=>?_⟩
   have hplen:(pre ++ k.bytes.take i).length≤20:=by simp [hpl];omega
   refine BList.push hl rfl hn7 (by omega) hsu fun a' c' w₈ hu8 hl8=>?_
   have ew:IntKind.i64.wrap ((i:Int)+1)=((i+1:Nat):Int):=w64 (by omega) (by omega)
   simp only [ew]
   have htk:pre ++ k.bytes.take i ++ [k.bytes[i]]=pre ++ k.bytes.take (i+1):=by rw [List.append_assoc,List.take_succ_eq_append_getElem hi']
   rw [htk] at hl8 ⊢
   exact ⟨⟨i+1,rfl,hi',rfl,hl8,Ext.own heu hu8 (by omega),hu8.get gu (by omega),by have:=hu8.size;omega⟩,meas hi'⟩
  ·have:i=k.bytes.length:=by omega
   subst this
   rw [List.take_length] at hl ⊢
   rw [hkey] at hR
   exact hR _ _ ⟨a,c,rfl,hl.weak (by omega),heu⟩
 ·have hw':k.what=3:=UInt8.toNat_inj.1 (by show k.what.toNat=3;omega)
  have hch:0≤k.chunk∧k.chunk<8:=by
   rcases h3 with ⟨h,_⟩| ⟨h,_⟩| ⟨_,_,h⟩
   ·rw [hw'] at h;cases h
   ·rw [hw'] at h;cases h
   ·exact h
  obtain ⟨m,hm0⟩: ∃ m:Nat,k.chunk=m:=⟨k.chunk.toNat,by omega⟩
  have hkey:keyB k=leB k.ino.toNat 2 ++ [k.what] ++ [UInt8.ofNat m]:=by unfold keyB;rw [if_neg (by rw [hw'];decide),if_pos hw',hm0];rfl
  refine ⟨_,cell_of g3 rfl,fun B5 w₉ hn9=>?_⟩
  rw [hm0,bv_mod,Nat.mod_eq_of_lt (by omega)] at hn9
  refine BList.push hbase hbl.symm hn9 (by omega) (by omega) fun a1 c1 w₅ hu5 hl5=>?_
  rw [← hkey] at hl5 ⊢
  exact hR _ _ ⟨a1,c1,rfl,hl5.weak (by omega),Ext.own e3 hu5 (by omega)⟩
 ·have hkey:keyB k=leB k.ino.toNat 2 ++ [k.what]:=by
   unfold keyB
   rw [if_neg (by intro h;rw [h] at hw;exact hw rfl),if_neg (by intro h;rw [h] at hw3;exact hw3 rfl),List.append_nil]
  rw [← hkey] at hbase hbl
  refine hR _ _ ⟨some ⟨B2,0,none⟩,3,?_,hbase.weak (by omega),e3⟩
  rw [hbl];rfl
def mayC (c:Change):Bool:=c.key.may && (if c.gone then decide (c.val.length=0) else decide (1≤c.val.length) && decide (c.val.length≤255))
def mayL (l:List Change):Bool:=decide (1≤l.length) && decide (l.length≤255) && l.all mayC
def chgB (c:Change):List UInt8:=if c.gone then 0 :: keyB c.key else 1 :: (keyB c.key ++ UInt8.ofNat c.val.length :: c.val)
def bodyB (l:List Change):List UInt8:=UInt8.ofNat l.length :: l.flatMap chgB
def Small (l:List Change):Prop:=∀ x∈l,x.key.name.size<9223372036854775807
theorem carrackref11_may_spec (x:Change) {w:World} {a:Option Addr} {c:Nat} (hn:x.key.name.size<9223372036854775807) :
  CallsR prog K.carrackref11_may #[.agg #[.int .i64 x.key.ino,bv x.key.what,.string x.key.name,.int .i64 x.key.chunk,.slice a x.val.length c,.bool x.gone]] w fun v w'=>v= .bool (mayC x)∧Ext w w':=by
 apply carrackref11_may.sh
 suffices H:∀ R:Value→World→Prop,(∀ v w',v= .bool (mayC x)∧Ext w w'→R v w')→carrackref11_may.body x.key.ino x.key.what.toNat x.key.name x.key.chunk a x.val.length c x.gone w R from H _ fun _ _ h=>h
 intro R hR
 unfold carrackref11_may.body
 simp only [add_lit,Nat.zero_add]
 intro B1 w₁ hn1
 have g1:w₁.heap[B1]?=some (.cells (changeVs x.key a x.val.length c x.gone).toArray T.api_Change (0,0)):=hn1.get
 refine ⟨_,_,_,_,cellsAt_of (o:=0) (vs:=x.key.vals) g1 (fun j v hj=>by
  rcases j with _ | _ | _ | _ | j
  all_goals simp [Key.vals] at hj ⊢
  all_goals exact hj),(carrackref06_MayKey_spec x.key hn w₁).mono ?_⟩
 rintro _ w₂ ⟨rfl,he2⟩
 have g2:=Ext.get he2 g1
 have e2:Ext w w₂:=hn1.upd.trans he2
 refine ⟨_,rfl,br_intro (fun hm=>?_) fun hm=>?_⟩
 ·exact hR _ _ ⟨by unfold mayC;rw [show x.key.may=false by simpa using hm];rfl,e2⟩
 have hm':x.key.may=true:=by simpa using hm
 refine ⟨_,cell_of g2 rfl,br_intro (fun hg=>?_) fun hg=>?_⟩
 ·refine ⟨_,_,_,cell_of g2 rfl,hR _ _ ⟨?_,e2⟩⟩
  unfold mayC
  rw [hm',if_pos hg,Bool.true_and]
  congr 1
  rw [Bool.eq_iff_iff];simp
 ·have hmc:mayC x=(decide (1≤x.val.length) && decide (x.val.length≤255)):=by
   unfold mayC
   rw [hm',if_neg (by rw [hg];decide),Bool.true_and]
  rw [hmc] at hR
  refine ⟨_,_,_,cell_of g2 rfl,br_dec (fun h1=>⟨_,_,_,cell_of g2 rfl,hR _ _ ⟨?_,e2⟩⟩) fun h1=>hR _ _ ⟨?_,e2⟩⟩
  ·rw [decide_eq_true (by omega:1≤x.val.length),Bool.true_and]
   congr 1
   rw [Bool.eq_iff_iff];simp;omega
  ·rw [decide_eq_false (by omega:¬ 1≤x.val.length),Bool.false_and]
theorem carrackref11_May_spec {l:List Change} {w:World} {G:Nat→Prop} {a:Option Addr} {c:Nat} (h:SliceAt changeR w G a l) (hs:Small l) :
  CallsR prog K.carrackref11_May #[.slice a l.length c] w fun v w'=>v= .bool (mayL l)∧Ext w w':=by
 apply carrackref11_May.sh
 suffices H:∀ R:Value→World→Prop,(∀ v w',v= .bool (mayL l)∧Ext w w'→R v w')→carrackref11_May.body a l.length c w R from H _ fun _ _ h=>h
 intro R hR
 unfold carrackref11_May.body
 refine br_dec (fun h1=>hR _ _ ⟨by unfold mayL;rw [decide_eq_false (by omega:¬ 1≤l.length)];rfl,Upd.refl _ _⟩) fun h1=>br_dec (fun h2=>hR _ _ ⟨by unfold mayL;rw [decide_eq_false (by omega:¬ l.length≤255)];simp,Upd.refl _ _⟩) fun h2=>?_
 have hml:mayL l=l.all mayC:=by unfold mayL;rw [decide_eq_true (by omega:1≤l.length),decide_eq_true (by omega:l.length≤255)];rfl
 rw [hml] at hR
 refine ⟨fun x u=>∃ i:Nat,x=i∧i≤l.length∧Ext w u∧(l.take i).all mayC=true,fun x _=>((l.length:Int) - x).toNat,⟨0,rfl,by omega,Upd.refl _ _,by simp⟩,?_⟩
 rintro x u ⟨i,rfl,hi,heu,hall⟩
 refine br_dec (fun hlt=>?_) fun hge=>?_
 ·have hi':i<l.length:=by omega
  refine SliceAt.idx (r:=changeR) (h.ext heu) rfl hi' fun b o vs ha hrow hR' hG=>?_
  obtain ⟨a',c',rfl,hc',hb',hg'⟩:=changeR_elim hR'
  refine ⟨_,_,_,_,_,_,_,_,hrow.cells,(carrackref11_may_spec l[i] (hs _ (List.getElem_mem _))).mono ?_⟩
  rintro _ w₂ ⟨rfl,he2⟩
  have ew:IntKind.i64.wrap ((i:Int)+1)=((i+1:Nat):Int):=w64 (by omega) (by omega)
  simp only [ew]
  refine ⟨_,rfl,br_intro (fun hm=>?_) fun hm=>?_⟩
  ·refine hR _ _ ⟨?_,heu.trans he2⟩
   have:l.all mayC=false:=by
    rw [List.all_eq_false]
    exact ⟨l[i],List.getElem_mem _,by simpa using hm⟩
   rw [this]
  ·exact ⟨⟨i+1,rfl,hi',heu.trans he2,by rw [List.take_succ_eq_append_getElem hi',List.all_append,hall];simpa using hm⟩,meas hi'⟩
 ·have:i=l.length:=by omega
  subst this
  rw [List.take_length] at hall
  exact hR _ _ ⟨by rw [hall],heu⟩
theorem chgB_len {x:Change} (h:mayC x=true):(chgB x).length≤300:=by
 unfold mayC at h
 rw [Bool.and_eq_true] at h
 have hk:=keyB_len h.1
 unfold chgB
 split
 ·simp;omega
 ·rename_i hg
  rw [if_neg hg,Bool.and_eq_true,decide_eq_true_eq,decide_eq_true_eq] at h
  simp;omega
theorem flat_len_le {α:Type} {f:α→List UInt8} {n:Nat}:∀ (l:List α),(∀ x∈l,(f x).length≤n)→(l.flatMap f).length≤l.length * n
 | [],_=>by simp
 | x :: l,h=>by
  rw [List.flatMap_cons,List.length_append,List.length_cons,Nat.succ_mul]
  have:=h x (by simp)
  have:=flat_len_le l fun y hy=>h y (by simp [hy])
  omega
theorem mayL_elim {l:List Change} (h:mayL l=true):1≤l.length∧l.length≤255∧∀ x∈l,mayC x=true:=by
 unfold mayL at h
 simp only [Bool.and_eq_true,decide_eq_true_eq,List.all_eq_true] at h
 exact ⟨h.1.1,h.1.2,h.2⟩
theorem bodyB_len {l:List Change} (h:mayL l=true):(bodyB l).length≤100000:=by
 obtain ⟨h1,h2,h3⟩:=mayL_elim h
 unfold bodyB
 have:=flat_len_le (f:=chgB) l (fun x hx=>chgB_len (h3 x hx))
 simp only [List.length_cons]
 omega
theorem carrackref11_body_spec {l:List Change} {w:World} {G:Nat→Prop} {a:Option Addr} {c:Nat} (h:SliceAt changeR w G a l) (hs:Small l) (hm:mayL l=true) :
  CallsR prog K.carrackref11_body #[.slice a l.length c] w fun v w'=>∃ a' c',v= .slice a' (bodyB l).length c'∧BList w.heap.size w' a' c' (bodyB l)∧Ext w w':=by
 apply carrackref11_body.sh
 suffices H:∀ R:Value→World→Prop,(∀ v w',(∃ a' c',v= .slice a' (bodyB l).length c'∧BList w.heap.size w' a' c' (bodyB l)∧Ext w w')→R v w')→carrackref11_body.body a l.length c w R from H _ fun _ _ h=>h
 intro R hR
 unfold carrackref11_body.body
 obtain ⟨h1,h2,h3⟩:=mayL_elim hm
 intro B1 w₁ hn1
 rw [bv_mod,Nat.mod_eq_of_lt (by omega)] at hn1
 have hs1:=hn1.size
 refine ⟨fun a' l' c' x u=>∃ i:Nat,x=i∧i≤l.length∧l'=(UInt8.ofNat l.length :: (l.take i).flatMap chgB).length∧BList w.heap.size u a' c' (UInt8.ofNat l.length :: (l.take i).flatMap chgB)∧Ext w u,fun _ _ _ x _=>((l.length:Int) - x).toNat,
  ⟨0,rfl,by omega,by simp,BList.new (l:=[UInt8.ofNat l.length]) hn1 rfl (Nat.le_refl _),hn1.upd⟩,?_⟩
 rintro a1 l1 c1 x u ⟨i,rfl,hi,rfl,hl,heu⟩
 have hsu:=heu.size
 refine br_dec (fun hlt=>?_) fun hge=>?_
 ·have hi':i<l.length:=by omega
  have ew:IntKind.i64.wrap ((i:Int)+1)=((i+1:Nat):Int):=w64 (by omega) (by omega)
  simp only [ew]
  have hmx:=h3 l[i] (List.getElem_mem _)
  have hacc:(UInt8.ofNat l.length :: (l.take i).flatMap chgB).length≤100000:=by
   have:=flat_len_le (f:=chgB) (l.take i) (fun x hx=>chgB_len (h3 x (List.mem_of_mem_take hx)))
   simp only [List.length_cons,List.length_take] at this ⊢
   have:min i l.length * 300≤255 * 300:=Nat.mul_le_mul_right _ (by omega)
   omega
  have hsucc:UInt8.ofNat l.length :: (l.take (i+1)).flatMap chgB=(UInt8.ofNat l.length :: (l.take i).flatMap chgB) ++ chgB l[i]:=by
   rw [List.take_succ_eq_append_getElem hi',List.flatMap_append];simp
  generalize hpre:UInt8.ofNat l.length :: (l.take i).flatMap chgB=pre at *
  have hkm:l[i].key.may=true:=by unfold mayC at hmx;rw [Bool.and_eq_true] at hmx;exact hmx.1
  have hkl:=keyB_len hkm
  refine SliceAt.idx (r:=changeR) (h.ext heu) rfl hi' fun b o vs ha hrow hR' hG=>?_
  obtain ⟨av,cv,rfl,hcv,hbv,hgv⟩:=changeR_elim hR'
  refine ⟨_,_,_,_,(RowAt.take hrow 4).cells,(carrackref06_PutKey_spec l[i].key (hs _ (List.getElem_mem _)) u).mono ?_⟩
  rintro _ w₃ ⟨a2,c2,rfl,hl2,he3⟩
  have hpk:putKeyB l[i].key=(keyB l[i].key,0):=by unfold putKeyB;rw [if_pos hkm]
  rw [hpk] at hl2 ⊢
  simp only [] at hl2 ⊢
  have hs3:=he3.size
  have e3:=heu.trans he3
  have hl3:=hl.ext he3
  refine ⟨_,_,_,_,rfl,SliceAt.idx (r:=changeR) (h.ext e3) rfl hi' fun b' o' vs' ha' hrow' hR'' hG'=>?_⟩
  obtain ⟨av',cv',rfl,hcv',hbv',hgv'⟩:=changeR_elim hR''
  simp only [add_lit]
  refine ⟨_,row_cell hrow' (j:=5) rfl,br_intro (fun hg=>?_) fun hg=>?_⟩
  ·have hcb:chgB l[i]=[0] ++ keyB l[i].key:=by unfold chgB;rw [if_pos hg];rfl
   intro B2 w₄ hn4
   have hs4:=hn4.size
   refine BList.pushX (G:=fun b=>u.heap.size≤b∧b<w₃.heap.size) (x:=0) hl3 (fun b hb hg=>by have:=(hl.lt hb).2;have:b<u.heap.size:=this;omega) (fun x hx=>hx.2) rfl hn4 (by omega) (by omega) fun a3 c3 w₅ hu5 hl5 hg5=>?_
   have hs5:=hu5.size
   have hkb:BytesAt w₅ a2 (keyB l[i].key):=RowAt.upd hl2.bytes hu5 fun p hp hF=>hF.2 (hl2.lt hp)
   have e5:Ext w w₅:=e3.beyond hu5 fun x hx=>hx.1
   refine BList.catX (G:=NoB) hl5 (fun _ _ h=>h) (fun _ h=>h.elim) rfl rfl hkb (by simp;omega) (by omega) fun a4 c4 w₆ hu6 hl6 _=>?_
   rw [List.append_assoc,← hcb,← hsucc] at hl6 ⊢
   exact ⟨⟨i+1,rfl,hi',rfl,hl6,e5.beyond hu6 fun x hx=>hx.1⟩,meas hi'⟩
  ·have hmv:1≤l[i].val.length∧l[i].val.length≤255:=by
    unfold mayC at hmx
    rw [hkm,if_neg (by rw [hg];decide),Bool.true_and,Bool.and_eq_true,decide_eq_true_eq,decide_eq_true_eq] at hmx
    exact hmx
   have hcb:chgB l[i]=[1] ++ keyB l[i].key ++ (UInt8.ofNat l[i].val.length :: l[i].val):=by unfold chgB;rw [if_neg (by rw [hg];decide)];simp
   refine SliceAt.idx (r:=changeR) (h.ext e3) rfl hi' fun b' o' vs' ha' hrow' hR'' hG'=>?_
   obtain ⟨av',cv',rfl,hcv',hbv',hgv'⟩:=changeR_elim hR''
   simp only [add_lit]
   refine ⟨_,_,_,row_cell hrow' (j:=4) rfl,(carrackref01_Row_spec hbv').mono ?_⟩
   rintro _ w₇ ⟨a6,c6,rfl,hl6,he7⟩
   have hrb:rowB l[i].val=(UInt8.ofNat l[i].val.length :: l[i].val,0):=by unfold rowB;rw [if_pos hmv.2]
   rw [hrb] at hl6 ⊢
   simp only [] at hl6 ⊢
   have hs7:=he7.size
   have e7:=e3.trans he7
   refine ⟨_,_,_,_,rfl,fun B3 w₈ hn8=>?_⟩
   have hs8:=hn8.size
   refine BList.pushX (G:=fun b=>u.heap.size≤b∧b<w₇.heap.size) (x:=1) (hl3.ext he7) (fun b hb hg=>by have:b<u.heap.size:=(hl.lt hb).2;omega) (fun x hx=>hx.2) rfl hn8 (by omega) (by omega) fun a3 c3 w₉ hu9 hl9 hg9=>?_
   have hs9:=hu9.size
   have hkb:BytesAt w₉ a2 (keyB l[i].key):=RowAt.upd (hl2.bytes.ext he7) hu9 fun p hp hF=>hF.2 (by have:=hl2.lt hp;omega)
   have hvb:BytesAt w₉ a6 (UInt8.ofNat l[i].val.length :: l[i].val):=RowAt.upd hl6.bytes hu9 fun p hp hF=>hF.2 (by have:=hl6.lt hp;omega)
   have e9:Ext w w₉:=e7.beyond hu9 fun x hx=>hx.1
   refine BList.catX (G:=fun b=>u.heap.size≤b∧b<w₇.heap.size) hl9 hg9 (fun x hx=>by omega) rfl rfl hkb (by simp;omega) (by omega) fun a4 c4 w₁₀ hu10 hl10 _=>?_
   have hs10:=hu10.size
   have hvb10:BytesAt w₁₀ a6 (UInt8.ofNat l[i].val.length :: l[i].val):=RowAt.upd hvb hu10 fun p hp hF=>hF.2 (by have:=hl6.lt hp;omega)
   have e10:Ext w w₁₀:=e9.beyond hu10 fun x hx=>hx.1
   refine BList.catX (G:=NoB) hl10 (fun _ _ h=>h) (fun _ h=>h.elim) rfl rfl hvb10 (by simp;omega) (by omega) fun a5 c5 w₁₁ hu11 hl11 _=>?_
   have hassoc:pre ++ [1] ++ keyB l[i].key ++ (UInt8.ofNat l[i].val.length :: l[i].val)=UInt8.ofNat l.length :: (l.take (i+1)).flatMap chgB:=by rw [hsucc,hcb];simp
   rw [hassoc] at hl11 ⊢
   exact ⟨⟨i+1,rfl,hi',rfl,hl11,e10.beyond hu11 fun x hx=>hx.1⟩,meas hi'⟩
 ·have:i=l.length:=by omega
  subst this
  rw [List.take_length] at hl ⊢
  exact hR _ _ ⟨a1,c1,rfl,hl,heu⟩
def putPage (size:Int) (kind:UInt8) (body:List UInt8):List UInt8×Nat :=
 if isSize size=false∨kind<1∨kind > 7 then ([],2) else if (body.length:Int) > size - 5 then ([],3) else (pageOf size.toNat kind body,0)
def putL (size:Int) (l:List Change):List UInt8×Nat:=if mayL l then putPage size 2 (bodyB l) else ([],2)
def putDropB (size:Int) (seq:Nat):List UInt8×Nat:=if seq=0 then ([],2) else putPage size 3 (leB seq 8)
theorem putPage_ref {size k:Int} {kind:UInt8} (hk:k=(kind.toNat:Int)) {a:Option Addr} {body:List UInt8} {c:Nat} {w:World} (h:BytesAt w a body) (hn:body.length≤281474976710656) (hsz:size<9223372036854775808) (hsz0: -9223372036854775808≤size) :
  CallsR prog K.carrackref02_Put #[.int .i64 size,.int .u8 k,.slice a body.length c] w fun v w'=>BytesOut w w' v (putPage size kind body).1 (putPage size kind body).2:=by
 refine (carrackref02_Put_own size k kind hk h hn hsz hsz0).mono ?_
 rintro v w' ⟨he,hv⟩
 unfold putPage
 by_cases h1:isSize size=false∨kind<1∨kind > 7
 ·rw [if_pos h1] at hv
  rw [if_pos h1,hv]
  exact BytesOut.none (e:=2) he
 ·rw [if_neg h1] at hv
  rw [if_neg h1]
  by_cases h2:(body.length:Int) > size - 5
  ·rw [if_pos h2] at hv
   rw [if_pos h2,hv]
   exact BytesOut.none (e:=3) he
  ·rw [if_neg h2] at hv
   rw [if_neg h2]
   obtain ⟨a',c',rfl,hb,hf,hc⟩:=hv
   have hl:(pageOf size.toNat kind body).length=size.toNat:=pageOf_length _ _ _ (by omega)
   exact ⟨a',c',by rw [hl];rfl,⟨by rw [hl];exact hb,fun b hb=>hf _ hb⟩,he⟩
theorem carrackref11_Put_spec {l:List Change} {w:World} {G:Nat→Prop} {a:Option Addr} {c:Nat} (h:SliceAt changeR w G a l) (hs:Small l) (size:Int) (hsz:size<9223372036854775808) (hsz0: -9223372036854775808≤size) :
  CallsR prog K.carrackref11_Put #[.int .i64 size,.slice a l.length c] w fun v w'=>BytesOut w w' v (putL size l).1 (putL size l).2:=by
 apply carrackref11_Put.sh
 suffices H:∀ R:Value→World→Prop,(∀ v w',BytesOut w w' v (putL size l).1 (putL size l).2→R v w')→carrackref11_Put.body size a l.length c w R from H _ fun _ _ h=>h
 intro R hR
 unfold carrackref11_Put.body
 refine (carrackref11_May_spec h hs).mono ?_
 rintro _ w₁ ⟨rfl,he1⟩
 refine ⟨_,rfl,br_intro (fun hm=>?_) fun hm=>?_⟩
 ·have hp:putL size l=([],2):=by unfold putL;rw [if_neg (by simpa using hm)]
  rw [hp] at hR
  exact hR _ _ (BytesOut.none (e:=2) he1)
 ·have hm':mayL l=true:=by simpa using hm
  have hp:putL size l=putPage size 2 (bodyB l):=by unfold putL;rw [if_pos hm']
  rw [hp] at hR
  refine (carrackref11_body_spec (h.ext he1) hs hm').mono ?_
  rintro _ w₂ ⟨a2,c2,rfl,hl2,he2⟩
  have:=bodyB_len hm'
  refine ⟨_,_,_,rfl,(putPage_ref (kind:=2) rfl hl2.bytes (by omega) hsz hsz0).mono ?_⟩
  rintro _ w₃ ⟨a3,c3,rfl,hb3,he3⟩
  exact ⟨_,_,_,_,rfl,hR _ _ ⟨a3,c3,rfl,hb3.weak (he1.trans he2).size,(he1.trans he2).trans he3⟩⟩
end Go.Den
namespace Go.Den
def costF (f:Fact):Nat:=if f.key.may then 2+(keyB f.key).length+f.val.length else 0
def mayF (f:Fact):Bool:=f.key.may && decide (1≤f.val.length) && decide (f.val.length≤255)
def roomOf (size:Int):Int:=(if isSize size=true then size - 5 else 0) - 1
def cutGo (room:Int) (i from_ used:Nat):List Fact→List Nat
 | []=>[]
 | f :: l=>if i=0∨room<((used+costF f:Nat):Int)∨i - from_=255 then i :: cutGo room (i+1) i (costF f) l else cutGo room (i+1) from_ (used+costF f) l
def cutsF (size:Int) (l:List Fact):List Nat×Nat :=
 if roomOf size<0 then ([],2)
 else if l.all mayF=false∨ordered l=false then ([],2)
 else if l.all (fun f=>decide ((costF f:Int)≤roomOf size))=false then ([],3)
 else (cutGo (roomOf size) 0 0 0 l,0)
def asChange (f:Fact):Change:=⟨f.key,f.val,false⟩
def pagesGo (size:Int) (l:List Fact):List Nat→List (List UInt8)→List (List UInt8)×Nat
 | [],acc=>(acc,0)
 | a :: at_,acc =>
  let p:=putL size (((l.take (match at_ with | []=>l.length | b :: _=>b)).drop a).map asChange)
  if p.2≠0 then ([],p.2) else pagesGo size l at_ (acc ++ [p.1])
def packF (size:Int) (l:List Fact):List (List UInt8)×Nat :=
 if (cutsF size l).2≠0 then ([],(cutsF size l).2) else pagesGo size l (cutsF size l).1 []
theorem cutGo_sorted (room:Int):∀ (l:List Fact) (i from_ used:Nat),(cutGo room i from_ used l).Pairwise (· < ·)∧∀ x∈cutGo room i from_ used l,i≤x∧x<i+l.length
 | [],i,from_,used=>⟨List.Pairwise.nil,fun _ h=>by cases h⟩
 | f :: l,i,from_,used=>by
  unfold cutGo
  split
  ·obtain ⟨h1,h2⟩:=cutGo_sorted room l (i+1) i (costF f)
   refine ⟨List.pairwise_cons.2 ⟨fun y hy=>by have:=h2 y hy;omega,h1⟩,fun x hx=>?_⟩
   rcases List.mem_cons.1 hx with rfl | hx
   ·simp
   ·have:=h2 x hx;simp;omega
  ·obtain ⟨h1,h2⟩:=cutGo_sorted room l (i+1) from_ (used+costF f)
   exact ⟨h1,fun x hx=>by have:=h2 x hx;simp;omega⟩
theorem costF_le {f:Fact} (h:mayF f=true):costF f≤300:=by
 unfold mayF at h
 simp only [Bool.and_eq_true,decide_eq_true_eq] at h
 unfold costF
 rw [if_pos h.1.1]
 have:=keyB_len h.1.1
 omega
structure LogS where
 pool:Pool
 chip:Chip
 era:Nat
 facts:List Fact
 block:Int
 page:Nat
def ownL (era:Nat) (l:List Taken):List Taken:=l.filter fun t=>decide (t.head.kind=1) && decide (t.head.era=era)
namespace LogS
def take (s:LogS):LogS×Nat :=
 let r:=takePool s.pool s.chip 1 s.era
 if r.err=0 then ({ s with pool:=r.pool,chip:=r.chip,block:=r.block,page:=1 },0) else ({ s with pool:=r.pool,chip:=r.chip },r.err)
def write (b:List UInt8):Nat→LogS→LogS×Nat
 | 0,s=>(s,0)
 | n+1,s =>
  let t:=if s.block= -1∨s.page≥s.chip.np then s.take else (s,0)
  if t.2≠0 then t else
   let q:=t.1.chip.program t.1.block t.1.page b
   if q.2≠9 then ({ t.1 with chip:=q.1,page:=t.1.page+1 },q.2) else write b n { t.1 with chip:=q.1,page:=t.1.page+1,block:= -1 }
def fuel (s:LogS):Nat:=s.chip.hits.length+2
def writeAll:List (List UInt8)→LogS→LogS×Nat
 | [],s=>(s,0)
 | b :: l,s=>if (s.write b s.fuel).2≠0 then s.write b s.fuel else writeAll l (s.write b s.fuel).1
def freeAll (first:Nat):List Taken→LogS→LogS×Nat
 | [],s=>(s,0)
 | t :: l,s=>if t.head.seq≥first∨t.bad=true then freeAll first l s
  else
   let r:=freePool s.pool s.chip t.block
   if r.2.2≠0 then ({ s with pool:=r.1,chip:=r.2.1 },r.2.2) else freeAll first l { s with pool:=r.1,chip:=r.2.1 }
def anew (s:LogS):LogS×Nat :=
 let p:=packF s.chip.sz s.facts
 if p.2≠0 then (s,p.2) else
  let t:=s.take
  if t.2≠0 then t else
   let u:=writeAll (p.1 ++ [(putDropB s.chip.sz t.1.pool.last).1]) t.1
   if u.2≠0 then u else freeAll t.1.pool.last (ownL s.era (takenPool u.1.pool u.1.chip)) u.1
def low (s:LogS) (facts:Nat):Bool:=decide (blanksPool s.pool s.chip<(facts+2+(s.chip.np - 1) - 1) / (s.chip.np - 1)+2+s.chip.sp)
def put (s:LogS) (cs:List Change):LogS×Nat :=
 if s.chip.ask 0 0≠0 then (s,s.chip.ask 0 0) else
  let p:=putL s.chip.sz cs
  if p.2≠0 then (s,p.2) else
   let fs:=applyF s.facts cs
   let t:=if s.low fs.length then s.anew else (s,0)
   if t.2=10 then t else
    let u:=t.1.write p.1 t.1.fuel
    if u.2≠0 then u else ({ u.1 with facts:=fs },0)
def tidy (s:LogS) (blanks:Int):LogS×Nat :=
 if s.chip.ask 0 0≠0 then (s,s.chip.ask 0 0)
 else if (blanksPool s.pool s.chip:Int)≥blanks then (s,0)
 else if s.anew.2≠0 then s.anew
 else if (blanksPool s.anew.1.pool s.anew.1.chip:Int)<blanks then (s.anew.1,11) else (s.anew.1,0)
end LogS
theorem lg_strike_hits (c:Chip):c.strike.1.hits.length≤c.hits.length∧(c.strike.2≠none→c.strike.1.hits.length<c.hits.length)∧∀ j,c.strike.1.isBad j=c.isBad j:=by
 unfold Chip.strike
 split
 ·rename_i h
  exact ⟨Nat.le_refl _,fun h=>absurd rfl h,fun _=>rfl⟩
 ·rename_i h r hh
  split
  ·exact ⟨Nat.le_refl _,fun h=>absurd rfl h,fun _=>rfl⟩
  ·rw [hh]
   exact ⟨by simp,fun _=>by simp,fun _=>rfl⟩
theorem lg_done_hits (c:Chip) (b off n:Nat) (new:List UInt8):(c.done b off n new).1.hits.length≤c.hits.length∧((c.done b off n new).2≠0→(c.done b off n new).1.hits.length<c.hits.length)∧((c.done b off n new).2=0→∀ j,(c.done b off n new).1.isBad j=c.isBad j):=by
 obtain ⟨h1,h2,h3⟩:=lg_strike_hits c
 unfold Chip.done Chip.finish
 cases hs:c.strike.2 with
 | none=>exact ⟨h1,fun h=>absurd rfl h,fun _ j=>h3 j⟩
 | some h =>
  have h2':=h2 (by rw [hs];simp)
  simp only
  split
  ·exact ⟨h1,fun _=>h2',fun h=>by cases h⟩
  ·exact ⟨h1,fun _=>h2',fun h=>by cases h⟩
theorem lg_ask_ne9 (c:Chip) (i j:Int):c.ask i j≠9:=by
 unfold Chip.ask
 split
 ·decide
 ·split<;>decide
theorem lg_program_hits (c:Chip) (i k:Int) (b:List UInt8):(c.program i k b).1.hits.length≤c.hits.length∧((c.program i k b).2=9→c.isBad i.toNat=false→(c.program i k b).1.hits.length<c.hits.length)∧((c.program i k b).2=0→∀ j,(c.program i k b).1.isBad j=c.isBad j):=by
 unfold Chip.program
 split
 ·exact ⟨Nat.le_refl _,fun h=>absurd h (lg_ask_ne9 _ _ _),fun _ _=>rfl⟩
 ·split
  ·exact ⟨Nat.le_refl _,(fun h=>by cases h),fun _ _=>rfl⟩
  ·split
   ·rename_i hb
    exact ⟨Nat.le_refl _,fun _ h=>(by rw [h] at hb;cases hb),fun _ _=>rfl⟩
   ·split
    ·exact ⟨Nat.le_refl _,(fun h=>by cases h),fun _ _=>rfl⟩
    ·obtain ⟨h1,h2,h3⟩:=lg_done_hits c i.toNat (k.toNat * c.sz) c.sz b
     exact ⟨h1,fun h _=>h2 (by rw [h];decide),h3⟩
theorem lg_erase_hits (c:Chip) (i:Int):(c.erase i).1.hits.length≤c.hits.length∧((c.erase i).2=0→∀ j,(c.erase i).1.isBad j=c.isBad j):=by
 unfold Chip.erase
 split
 ·exact ⟨Nat.le_refl _,fun _ _=>rfl⟩
 ·split
  ·exact ⟨Nat.le_refl _,fun _ _=>rfl⟩
  ·obtain ⟨h1,_,h3⟩:=lg_done_hits c i.toNat 0 (c.np * c.sz) (List.replicate (c.np * c.sz) 255)
   exact ⟨h1,h3⟩
theorem lg_try_hits (P:Pool) (c:Chip) (i:Nat) (kind:UInt8) (era:Nat):(tryBlk P c i kind era).2.1.hits.length≤c.hits.length∧((tryBlk P c i kind era).2.2=0→∀ j,(tryBlk P c i kind era).2.1.isBad j=c.isBad j):=by
 have wh:∀ (P:Pool) (c:Chip),(writeHead P c i kind era).2.1.hits.length≤c.hits.length∧((writeHead P c i kind era).2.2=0→∀ j,(writeHead P c i kind era).2.1.isBad j=c.isBad j):=fun P c=>by
  obtain ⟨h1,_,h3⟩:=lg_program_hits c i 0 (putHead c.sz ⟨kind,era,P.raise.last⟩).1
  exact ⟨h1,h3⟩
 unfold tryBlk
 split
 ·obtain ⟨e1,e2⟩:=lg_erase_hits c i
  split
  ·rename_i hne
   exact ⟨e1,fun h=>absurd h hne⟩
  ·rename_i hz
   obtain ⟨h1,h2⟩:=wh (P.relook (c.erase i).1 i) (c.erase i).1
   exact ⟨Nat.le_trans h1 e1,fun h j=>(h2 h j).trans (e2 (by omega) j)⟩
 ·exact wh P c
theorem lg_takeGo_hits (kind:UInt8) (era:Nat):∀ (ks:List Nat) (P:Pool) (c:Chip),(takeGo kind era P c ks).chip.hits.length≤c.hits.length∧((takeGo kind era P c ks).err=0→(takeGo kind era P c ks).chip.isBad (takeGo kind era P c ks).block=false)
 | [],P,c=>⟨Nat.le_refl _,fun h=>by cases h⟩
 | k :: ks,P,c=>by
  unfold takeGo
  split
  ·exact lg_takeGo_hits kind era ks P c
  ·rename_i hgood
   obtain ⟨h1,h2⟩:=lg_try_hits P c ((P.turn+k) % c.nb) kind era
   split
   ·rename_i h0
    refine ⟨h1,fun _=>?_⟩
    show (tryBlk P c ((P.turn+k) % c.nb) kind era).2.1.isBad ((P.turn+k) % c.nb)=false
    rw [h2 h0]
    cases hb:c.isBad ((P.turn+k) % c.nb) with
    | false=>rfl
    | true=>exact absurd (.inl hb) hgood
   ·split
    ·exact ⟨h1,fun h=>by cases h⟩
    ·obtain ⟨h3,h4⟩:=lg_takeGo_hits kind era ks (tryBlk P c ((P.turn+k) % c.nb) kind era).1 (tryBlk P c ((P.turn+k) % c.nb) kind era).2.1
     exact ⟨Nat.le_trans h3 h1,h4⟩
theorem lg_takePool_hits (P:Pool) (c:Chip) (kind:UInt8) (era:Nat):(takePool P c kind era).chip.hits.length≤c.hits.length∧((takePool P c kind era).err=0→(takePool P c kind era).chip.isBad (takePool P c kind era).block=false):=by
 unfold takePool
 split
 ·exact ⟨Nat.le_refl _,fun h=>by cases h⟩
 ·split
  ·rename_i h
   exact ⟨Nat.le_refl _,fun h'=>absurd h' h⟩
  ·exact lg_takeGo_hits kind era _ P c
def LogS.left (s:LogS):Nat:=s.chip.hits.length+(if s.block= -1 then 1 else 2)
end Go.Den
namespace Go.Den
def getF:List Fact→Key→Option (List UInt8)
 | [],_=>none
 | x :: l,k=>if x.key=k then some x.val else getF l k
theorem getF_none:∀ {l:List Fact} {k:Key},(∀ y∈l,y.key≠k)→getF l k=none
 | [],_,_=>rfl
 | x :: l,k,h=>by
  unfold getF
  rw [if_neg (h x (by simp))]
  exact getF_none fun y hy=>h y (by simp [hy])
theorem before_ne {a b:Key} (h:before a b=true):a≠b:=fun e=>by rw [e,before_irrefl] at h;cases h
theorem getF_head {x:Fact} {l:List Fact} (h:Sorted (x :: l)):getF l x.key=none :=
 getF_none fun y hy e=>before_ne ((List.pairwise_cons.1 h).1 y hy) e.symm
theorem getF_ahead {l:List Fact} {k:Key} (h:∀ y∈l,before k y.key=true):getF l k=none :=
 getF_none fun y hy e=>before_ne (h y hy) e.symm
theorem facts_ext:∀ {l m:List Fact},Sorted l→Sorted m→(∀ k,getF l k=getF m k)→l=m
 | [],[],_,_,_=>rfl
 | [],y :: m,_,_,h=>by have:=h y.key;simp [getF] at this
 | x :: l,[],_,_,h=>by have:=h x.key;simp [getF] at this
 | x :: l,y :: m,hl,hm,h=>by
  obtain ⟨l1,l2⟩:=List.pairwise_cons.1 hl
  obtain ⟨m1,m2⟩:=List.pairwise_cons.1 hm
  have hk:x.key=y.key:=by
   by_cases h1:before x.key y.key=true
   ·have h2:=h x.key
    rw [getF_ahead (l:=y :: m) (fun z hz=>by
     rcases List.mem_cons.1 hz with rfl | hz
     ·exact h1
     ·exact before_trans h1 (m1 z hz))] at h2
    simp [getF] at h2
   ·by_cases h1':before y.key x.key=true
    ·have h2:=h y.key
     rw [getF_ahead (l:=x :: l) (fun z hz=>by
      rcases List.mem_cons.1 hz with rfl | hz
      ·exact h1'
      ·exact before_trans h1' (l1 z hz))] at h2
     simp [getF] at h2
    ·exact before_total (by simpa using h1) (by simpa using h1')
  have hv:x.val=y.val:=by
   have:=h x.key
   unfold getF at this
   rw [if_pos rfl,if_pos hk.symm] at this
   simpa using this
  have hxy:x=y:=by
   cases x;cases y
   simp only at hk hv
   rw [hk,hv]
  subst hxy
  rw [facts_ext l2 m2 fun k=>?_]
  by_cases e:x.key=k
  ·rw [← e,getF_head hl,getF_head hm]
  ·have:=h k
   unfold getF at this
   rwa [if_neg e,if_neg e] at this
theorem getF_putF {c:Change} {k:Key}:∀ {l:List Fact},Sorted l→getF (putF c l) k=if c.key=k then (if c.gone then none else some c.val) else getF l k
 | [],h=>by
  unfold putF
  cases c.gone<;>simp [getF]
 | x :: l,h=>by
  obtain ⟨h1,h2⟩:=List.pairwise_cons.1 h
  unfold putF
  by_cases he:x.key=c.key
  ·rw [if_pos he]
   have hh:=getF_head h
   by_cases hk:c.key=k
   ·rw [if_pos hk]
    cases c.gone
    ·simp [getF,hk]
    ·simp only [if_true]
     rw [← hk,← he];exact hh
   ·rw [if_neg hk]
    have hx:¬ x.key=k:=by rw [he];exact hk
    cases c.gone<;>simp [getF,hk,hx]
  ·rw [if_neg he]
   by_cases hb:before c.key x.key=true
   ·rw [if_pos hb]
    have hh:getF (x :: l) c.key=none:=getF_ahead fun z hz=>by
     rcases List.mem_cons.1 hz with rfl | hz
     ·exact hb
     ·exact before_trans hb (h1 z hz)
    by_cases hk:c.key=k
    ·rw [if_pos hk]
     cases c.gone
     ·simp [getF,hk]
     ·simp only [if_true]
      rw [← hk];exact hh
    ·rw [if_neg hk]
     cases c.gone<;>simp [getF,hk]
   ·rw [if_neg hb]
    have ih:=getF_putF (c:=c) (k:=k) h2
    unfold getF
    by_cases hx:x.key=k
    ·have hk:¬ c.key=k:=fun e=>he (hx.trans e.symm)
     rw [if_pos hx,if_neg hk,if_pos hx]
    ·rw [if_neg hx,ih,if_neg hx]
def effect (cs:List Change) (k:Key) (d:Option (List UInt8)):Option (List UInt8):=cs.foldl (fun d c=>if c.key=k then (if c.gone then none else some c.val) else d) d
theorem getF_applyL {k:Key}:∀ {cs:List Change} {l:List Fact},Sorted l→getF (applyL l cs) k=effect cs k (getF l k)
 | [],l,h=>rfl
 | c :: cs,l,h=>by
  show getF (applyL (putF c l) cs) k=effect cs k (if c.key=k then (if c.gone then none else some c.val) else getF l k)
  rw [getF_applyL (putF_sorted h),getF_putF h]
theorem effect_cases (k:Key):∀ cs:List Change,(∃ v,∀ d,effect cs k d=v)∨∀ d,effect cs k d=d
 | []=>.inr fun _=>rfl
 | c :: cs=>by
  rcases effect_cases k cs with ⟨v,h⟩| h
  ·exact .inl ⟨v,fun d=>h _⟩
  ·by_cases e:c.key=k
   ·refine .inl ⟨if c.gone then none else some c.val,fun d=>?_⟩
    show effect cs k (if c.key=k then (if c.gone then none else some c.val) else d)=_
    rw [h,if_pos e]
   ·refine .inr fun d=>?_
    show effect cs k (if c.key=k then (if c.gone then none else some c.val) else d)=_
    rw [h,if_neg e]
theorem effect_twice (cs:List Change) (k:Key) (d:Option (List UInt8)):effect cs k (effect cs k d)=effect cs k d:=by
 rcases effect_cases k cs with ⟨v,h⟩| h
 ·rw [h,h]
 ·rw [h]
theorem applyF_eq {l:List Fact} (h:ordered l=true) (cs:List Change):applyF l cs=applyL l cs:=by unfold applyF;rw [if_pos h]
theorem applyF_ordered (l:List Fact) (cs:List Change):ordered (applyF l cs)=true:=by
 unfold applyF
 split
 ·rename_i h
  exact ordered_sorted.2 (applyL_sorted (ordered_sorted.1 h))
 ·rfl
theorem applyF_nil {l:List Fact} (h:ordered l=true):applyF l []=l:=by rw [applyF_eq h];rfl
theorem applyF_append {l:List Fact} (h:ordered l=true) (cs ds:List Change):applyF (applyF l cs) ds=applyF l (cs ++ ds):=by
 rw [applyF_eq (applyF_ordered l cs),applyF_eq h,applyF_eq h]
 unfold applyL
 rw [List.foldl_append]
theorem applyF_twice {l:List Fact} (h:ordered l=true) (cs:List Change):applyF (applyF l cs) cs=applyF l cs:=by
 have h':=ordered_sorted.1 h
 rw [applyF_eq (applyF_ordered l cs),applyF_eq h]
 have h1:=applyL_sorted (cs:=cs) h'
 refine facts_ext (applyL_sorted h1) h1 fun k=>?_
 rw [getF_applyL h1,getF_applyL h',effect_twice]
theorem getF_mem {f:Fact}:∀ {l:List Fact},Sorted l→f∈l→getF l f.key=some f.val
 | x :: l,h,hf=>by
  unfold getF
  rcases List.mem_cons.1 hf with rfl | hf
  ·rw [if_pos rfl]
  ·rw [if_neg (before_ne ((List.pairwise_cons.1 h).1 f hf))]
   exact getF_mem (List.pairwise_cons.1 h).2 hf
theorem applyF_same {l:List Fact} (h:ordered l=true) {m:List Fact} (hm:∀ f∈m,f∈l):applyF l (m.map asChange)=l:=by
 have h':=ordered_sorted.1 h
 rw [applyF_eq h]
 refine facts_ext (applyL_sorted h') h' fun k=>?_
 rw [getF_applyL h']
 have:∀ (m:List Fact),(∀ f∈m,f∈l)→effect (m.map asChange) k (getF l k)=getF l k:=by
  intro m
  induction m with
  | nil=>intro _;rfl
  | cons x m ih =>
   intro hm
   show effect (m.map asChange) k (if x.key=k then (if false=true then none else some x.val) else getF l k)=_
   have hx:(if x.key=k then (if false=true then none else some x.val) else getF l k)=getF l k:=by
    split
    ·rename_i e
     rw [if_neg (by decide),← e,getF_mem h' (hm x (by simp))]
    ·rfl
   rw [hx]
   exact ih fun f hf=>hm f (by simp [hf])
 exact this m hm
theorem applyF_all {l:List Fact} (h:ordered l=true):applyF [] (l.map asChange)=l:=by
 have h':=ordered_sorted.1 h
 have h0:Sorted []:=List.Pairwise.nil
 rw [applyF_eq rfl]
 refine facts_ext (applyL_sorted h0) h' fun k=>?_
 rw [getF_applyL h0]
 have:∀ (m:List Fact) (d:Option (List UInt8)),Sorted m→effect (m.map asChange) k d=(getF m k).or d:=by
  intro m
  induction m with
  | nil=>intro d _;rfl
  | cons x m ih =>
   intro d hs
   show effect (m.map asChange) k (if x.key=k then (if false=true then none else some x.val) else d)=_
   rw [ih _ (List.pairwise_cons.1 hs).2]
   show (getF m k).or _=(if x.key=k then some x.val else getF m k).or d
   by_cases e:x.key=k
   ·rw [if_pos e,if_pos e,if_neg (by decide),← e,getF_head hs];rfl
   ·rw [if_neg e,if_neg e]
 rw [this l _ h']
 show (getF l k).or none=getF l k
 cases getF l k<;>rfl
def bit (x:UInt8) (k:Nat):Bool:=x.toBitVec.getLsbD k
theorem bit_nat (x:UInt8) (k:Nat):bit x k=x.toNat.testBit k:=rfl
theorem bit_div (x:UInt8) (k:Nat):(x.toNat / 2 ^ k % 2 == 0)= !bit x k:=by
 rw [bit_nat,Nat.testBit_eq_decide_div_mod_eq]
 have:x.toNat / 2 ^ k % 2=0∨x.toNat / 2 ^ k % 2=1:=by omega
 rcases this with h | h<;>rw [h]<;>rfl
theorem bit_high (x:UInt8) {k:Nat} (h:8≤k):bit x k=false:=by
 unfold bit
 exact BitVec.getLsbD_of_ge _ _ h
theorem bit_ext {x y:UInt8} (h:∀ k,k<8→bit x k=bit y k):x=y:=by
 have:x.toBitVec=y.toBitVec:=BitVec.eq_of_getLsbD_eq fun k hk=>h k hk
 exact UInt8.toBitVec_inj.1 this
theorem zeros8_bits (x:UInt8):zeros8 x=((List.range 8).filter fun k=> !bit x k).length:=by
 unfold zeros8
 congr 2
 funext k
 exact bit_div x k
theorem filter_le {α:Type} {p q:α→Bool}:∀ {l:List α},(∀ a∈l,p a=true→q a=true)→(l.filter p).length≤(l.filter q).length∧((l.filter p).length=(l.filter q).length→∀ a∈l,q a=true→p a=true)
 | [],_=>by simp
 | a :: l,h=>by
  obtain ⟨h1,h2⟩:=filter_le (l:=l) fun b hb=>h b (by simp [hb])
  have ha:=h a (by simp)
  simp only [List.filter_cons]
  cases hp:p a with
  | true =>
   have hq:=ha hp
   simp only [hq,if_true,List.length_cons]
   refine ⟨by omega,fun he b hb hqb=>?_⟩
   rcases List.mem_cons.1 hb with rfl | hb
   ·exact hp
   ·exact h2 (by omega) b hb hqb
  | false =>
   cases hq:q a with
   | true =>
    simp only [Bool.false_eq_true,if_false,if_true,List.length_cons]
    exact ⟨by omega,fun he=>by omega⟩
   | false =>
    simp only [Bool.false_eq_true,if_false]
    refine ⟨h1,fun he b hb hqb=>?_⟩
    rcases List.mem_cons.1 hb with rfl | hb
    ·rw [hq] at hqb;cases hqb
    ·exact h2 he b hb hqb
def sub8 (y x:UInt8):Prop:=∀ k,bit y k=true→bit x k=true
theorem sub8_zeros {y x:UInt8} (h:sub8 y x):zeros8 x≤zeros8 y∧(zeros8 x=zeros8 y→x=y):=by
 rw [zeros8_bits,zeros8_bits]
 obtain ⟨h1,h2⟩:=filter_le (p:=fun k=> !bit x k) (q:=fun k=> !bit y k) (l:=List.range 8) (fun k _ hk=>by
  cases hy:bit y k with
  | false=>rfl
  | true=>rw [h k hy] at hk;cases hk)
 refine ⟨h1,fun he=>bit_ext fun k hk=>?_⟩
 have:=h2 he k (by simpa using hk)
 cases hy:bit y k with
 | true=>exact h k hy
 | false =>
  rw [hy] at this
  simpa using this
theorem sub8_le {y x:UInt8} (h:sub8 y x):y.toNat≤x.toNat:=by
 have:y.toNat &&& x.toNat=y.toNat:=by
  apply Nat.eq_of_testBit_eq
  intro k
  rw [Nat.testBit_and]
  have:=h k
  rw [bit_nat,bit_nat] at this
  cases hy:y.toNat.testBit k with
  | false=>rfl
  | true=>rw [this hy];rfl
 rw [← this]
 exact Nat.and_le_right
theorem sub8_trans {x y z:UInt8} (h:sub8 x y) (k:sub8 y z):sub8 x z:=fun i hi=>k i (h i hi)
theorem bit_mix (m o n:UInt8) {k:Nat} (hk:k<8):bit (mix m o n) k=((bit o k && !bit m k) || (bit n k && bit m k)):=by
 unfold bit mix
 rw [UInt8.toBitVec_or,UInt8.toBitVec_and,UInt8.toBitVec_and,UInt8.toBitVec_not,BitVec.getLsbD_or,BitVec.getLsbD_and,BitVec.getLsbD_and,BitVec.getLsbD_not]
 simp [hk]
theorem bit_255 {k:Nat} (hk:k<8):bit 255 k=true:=by
 match k,hk with
 | 0,_ | 1,_ | 2,_ | 3,_ | 4,_ | 5,_ | 6,_ | 7,_=>rfl
theorem sub8_erase (m o:UInt8):sub8 o (mix m o 255):=by
 intro k hk
 by_cases h8:k<8
 ·rw [bit_mix _ _ _ h8,hk,bit_255 h8]
  cases bit m k<;>rfl
 ·rw [bit_high _ (by omega)] at hk;cases hk
theorem sub8_write (m n:UInt8):sub8 n (mix m 255 n):=by
 intro k hk
 by_cases h8:k<8
 ·rw [bit_mix _ _ _ h8,hk,bit_255 h8]
  cases bit m k<;>rfl
 ·rw [bit_high _ (by omega)] at hk;cases hk
theorem mix_full (o n:UInt8):mix 255 o n=n:=by
 apply bit_ext
 intro k hk
 rw [bit_mix _ _ _ hk,bit_255 hk]
 simp
def SubL (Q X:List UInt8):Prop:=Q.length=X.length∧∀ i,i<Q.length→sub8 (Q.getD i 0) (X.getD i 0)
theorem SubL.trans {A B C:List UInt8} (h:SubL A B) (k:SubL B C):SubL A C:=⟨h.1.trans k.1,fun i hi=>sub8_trans (h.2 i hi) (k.2 i (by rw [← h.1];exact hi))⟩
theorem SubL.cons {y x:UInt8} {ys xs:List UInt8} (h:SubL (y :: ys) (x :: xs)):sub8 y x∧SubL ys xs:=by
 obtain ⟨hl,hb⟩:=h
 refine ⟨hb 0 (by simp),by simpa using hl,fun i hi=>?_⟩
 exact hb (i+1) (by simpa using hi)
theorem SubL.take {A B:List UInt8} (h:SubL A B) (n:Nat):SubL (A.take n) (B.take n):=by
 refine ⟨by simp [h.1],fun i hi=>?_⟩
 have hi':i<A.length∧i<n:=by simp at hi;omega
 have hb:=h.2 i hi'.1
 have hl:=h.1
 simpa [List.getD,List.getElem?_take,hi'.2] using hb
theorem SubL.drop {A B:List UInt8} (h:SubL A B) (n:Nat):SubL (A.drop n) (B.drop n):=by
 refine ⟨by simp [h.1],fun i hi=>?_⟩
 have hb:=h.2 (n+i) (by simp at hi;omega)
 simpa [List.getD] using hb
theorem SubL.nts:∀ {Q X:List UInt8},SubL Q X→noughts X≤noughts Q∧(noughts X=noughts Q→X=Q)
 | [],[],_=>⟨Nat.le_refl _,fun _=>rfl⟩
 | [],_ :: _,h=>by have:=h.1;simp at this
 | _ :: _,[],h=>by have:=h.1;simp at this
 | y :: ys,x :: xs,h=>by
  obtain ⟨h1,h2⟩:=h.cons
  obtain ⟨a1,a2⟩:=sub8_zeros h1
  obtain ⟨b1,b2⟩:=SubL.nts h2
  have e1:noughts (x :: xs)=zeros8 x+noughts xs:=by simp [Go.Den.noughts]
  have e2:noughts (y :: ys)=zeros8 y+noughts ys:=by simp [Go.Den.noughts]
  rw [e1,e2]
  refine ⟨by omega,fun he=>?_⟩
  rw [a2 (by omega),b2 (by omega)]
theorem SubL.fle:∀ {Q X:List UInt8},SubL Q X→fromLE Q≤fromLE X
 | [],[],_=>Nat.le_refl _
 | [],_ :: _,h=>by have:=h.1;simp at this
 | _ :: _,[],h=>by have:=h.1;simp at this
 | y :: ys,x :: xs,h=>by
  obtain ⟨h1,h2⟩:=h.cons
  have a:=sub8_le h1
  have b:=SubL.fle h2
  simp only [Go.Den.fromLE]
  omega
theorem SubL.antisymm {A B:List UInt8} (h:SubL A B) (k:SubL B A):A=B:=by
 have h1:=h.nts
 have h2:=k.nts
 exact (h1.2 (by omega)).symm
def Sound (Q:List UInt8):Prop:=2≤Q.length∧fromLE (Q.take 2)=noughts (Q.drop 2)
def Safe (X:List UInt8):Prop:=∃ Q,Sound Q∧SubL Q X
theorem berger {Q X:List UInt8} (h:SubL Q X) (hq:Sound Q) (hx:Sound X):X=Q:=by
 have h1:=(h.drop 2).nts
 have h2:=(h.take 2).fle
 have e1:=hq.2
 have e2:=hx.2
 have hd:X.drop 2=Q.drop 2:=h1.2 (by omega)
 have hf:fromLE (X.take 2)=fromLE (Q.take 2):=by rw [e1,e2,hd]
 have hl:(X.take 2).length=(Q.take 2).length:=by simp [h.1]
 have ht:X.take 2=Q.take 2:=by
  have a:=leB_fromLE (X.take 2)
  have b:=leB_fromLE (Q.take 2)
  rw [hf,hl,b] at a
  exact a.symm
 rw [← List.take_append_drop 2 X,ht,hd,List.take_append_drop]
theorem Safe.up {X Y:List UInt8} (h:Safe X) (k:SubL X Y):Safe Y:=by
 obtain ⟨Q,hq,hs⟩:=h
 exact ⟨Q,hq,hs.trans k⟩
theorem Safe.same {X Y:List UInt8} (h:Safe X) (k:SubL X Y) (hy:Sound Y):Y=X:=by
 obtain ⟨Q,hq,hs⟩:=h
 have e:=berger (hs.trans k) hq hy
 subst e
 exact SubL.antisymm hs k
theorem getHead_sound {b:List UInt8} (h:(getHead b).2=0):Sound b:=by
 have hp:(getPage b).2.2=0:=by
  unfold getHead at h
  split at h
  ·exact absurd h (by assumption)
  ·rename_i hc;exact Classical.byContradiction hc
 unfold getPage at hp
 split at hp
 ·cases hp
 ·rename_i hs
  split at hp
  ·cases hp
  ·split at hp
   ·cases hp
   ·rename_i hn
    have hs':isSize b.length=true:=by simpa using hs
    simp [isSize] at hs'
    exact ⟨by omega,Classical.byContradiction hn⟩
theorem pageOf_sound {size:Nat} {kind:UInt8} {body:List UInt8} (hb:body.length+5≤size) (hs:size≤8000):Sound (pageOf size kind body):=by
 have hl:=pageOf_length size kind body hb
 have hrl:=pageRest_length size kind body hb
 have hn:=noughts_le (pageRest size kind body)
 have h2:=leB_length 2 (noughts (pageRest size kind body))
 have e:(256:Nat) ^ 2=65536:=by decide
 refine ⟨by omega,?_⟩
 unfold pageOf
 rw [List.take_append_of_le_length (by omega),List.take_of_length_le (by omega),List.drop_append_of_le_length (by omega),List.drop_of_length_le (by omega),List.nil_append]
 exact fromLE_leB 2 _ (by omega)
theorem mixL_getD (h:Option Hit) (old new:List UInt8) {i:Nat} (hi:i<old.length):(mixL h old new).getD i 0=mix (maskAt h i) (old.getD i 0) (new.getD i 0):=by
 simp [mixL,List.getD,hi]
theorem mixL_none (old new:List UInt8) (hl:new.length=old.length):mixL none old new=new:=by
 apply List.ext_getElem
 ·simp [mixL_length,hl]
 ·intro i h1 h2
  simp only [mixL,List.getElem_map,List.getElem_range,maskAt,mix_full]
  simp [List.getD,h2]
theorem mixL_erase (h:Option Hit) (old:List UInt8) (n:Nat) (hn:old.length≤n):SubL old (mixL h old (List.replicate n 255)):=by
 refine ⟨(mixL_length _ _ _).symm,fun i hi=>?_⟩
 rw [mixL_getD _ _ _ hi]
 have:(List.replicate n (255:UInt8)).getD i 0=255:=by simp [List.getD,show i<n by omega]
 rw [this]
 exact sub8_erase _ _
theorem mixL_write (h:Option Hit) (n:Nat) (new:List UInt8) (hl:new.length=n):SubL new (mixL h (List.replicate n 255) new):=by
 refine ⟨by rw [mixL_length];simp [hl],fun i hi=>?_⟩
 rw [mixL_getD _ _ _ (by simp;omega)]
 have:(List.replicate n (255:UInt8)).getD i 0=255:=by simp [List.getD,show i<n by omega]
 rw [this]
 exact sub8_write _ _
theorem isBlank_replicate (n:Nat):isBlank (List.replicate n 255)=true:=by simp [isBlank]
theorem getPage_pageOf {size:Nat} {kind:UInt8} {body:List UInt8} (hs:isSize size=true) (hk1:¬ kind<1) (hk7:¬ kind > 7) (hb:body.length+5≤size):getPage (pageOf size kind body)=(kind,body,0):=by
 have hs':=hs
 simp [isSize] at hs'
 have hlen:=pageOf_length size kind body hb
 have hrl:=pageRest_length size kind body hb
 have hn:=noughts_le (pageRest size kind body)
 have h2:=leB_length 2 (noughts (pageRest size kind body))
 have h3:=leB_length 2 body.length
 have e256:(256:Nat) ^ 2=65536:=by decide
 obtain ⟨n0,n1,hN⟩: ∃ n0 n1,leB (noughts (pageRest size kind body)) 2=[n0,n1]:=⟨_,_,rfl⟩
 obtain ⟨m0,m1,hM⟩: ∃ m0 m1,leB body.length 2=[m0,m1]:=⟨_,_,rfl⟩
 have hp:pageOf size kind body=n0 :: n1 :: kind :: m0 :: m1 :: (body ++ List.replicate (size - 5 - body.length) 255):=by
  unfold pageOf
  rw [hN]
  unfold pageRest
  rw [hM]
  simp
 have hr:pageRest size kind body=kind :: m0 :: m1 :: (body ++ List.replicate (size - 5 - body.length) 255):=by
  unfold pageRest
  rw [hM]
  simp
 have f1:fromLE [n0,n1]=noughts (pageRest size kind body):=by rw [← hN];exact fromLE_leB 2 _ (by omega)
 have f2:fromLE [m0,m1]=body.length:=by rw [← hM];exact fromLE_leB 2 _ (by omega)
 have hkb:kind≠255:=fun e=>hk7 (by rw [e];decide)
 have hnb:isBlank (pageOf size kind body)=false:=by
  rw [hp]
  simp [isBlank,hkb]
 unfold getPage
 rw [hlen,if_neg (by rw [hs];simp),if_neg (by rw [hnb];simp)]
 have d2:(pageOf size kind body).drop 2=pageRest size kind body:=by rw [hp,hr];rfl
 have t2:(pageOf size kind body).take 2=[n0,n1]:=by rw [hp];rfl
 have g2:(pageOf size kind body).getD 2 0=kind:=by rw [hp];rfl
 have t3:((pageOf size kind body).drop 3).take 2=[m0,m1]:=by rw [hp];rfl
 rw [d2,t2,f1,if_neg (by simp),g2,t3,f2]
 have d5:(pageOf size kind body).drop (5+body.length)=List.replicate (size - 5 - body.length) 255:=by
  rw [hp,← List.drop_drop]
  show (body ++ List.replicate (size - 5 - body.length) 255).drop body.length=_
  simp
 have t5:((pageOf size kind body).take (5+body.length)).drop 5=body:=by
  rw [hp,Nat.add_comm]
  show ((n0 :: n1 :: kind :: m0 :: m1 :: (body ++ List.replicate (size - 5 - body.length) 255)).take (body.length+5)).drop 5=body
  simp
 rw [d5,t5,isBlank_replicate,if_neg]
 rintro (h | h | h | h)
 ·exact hk1 h
 ·exact hk7 h
 ·omega
 ·cases h
theorem getHead_pageOf {size:Nat} {h:Head} (hs:isSize size=true) (ho:h.Ok) (hm:h.may=true):getHead (pageOf size 1 h.body)=(h,0):=by
 have hbl:=h.body_length
 have hsz:=putHead_size hs
 have hg:=getPage_pageOf (kind:=1) (body:=h.body) hs (by decide) (by decide) (by omega)
 unfold getHead
 rw [hg]
 simp only []
 rw [if_neg (by simp),if_neg (by rw [hbl];simp)]
 have e4:(256:Nat) ^ 4=4294967296:=by decide
 have e8:(256:Nat) ^ 8=18446744073709551616:=by decide
 have h4:=leB_length 4 h.era
 have h8:=leB_length 8 h.seq
 have b0:h.body.getD 0 0=h.kind:=rfl
 have b1:(h.body.drop 1).take 4=leB h.era 4:=by
  show (leB h.era 4 ++ leB h.seq 8).take 4=_
  rw [List.take_append_of_le_length (by omega),List.take_of_length_le (by omega)]
 have b5:(h.body.drop 5).take 8=leB h.seq 8:=by
  show ((leB h.era 4 ++ leB h.seq 8).drop 4).take 8=_
  rw [List.drop_append_of_le_length (by omega),List.drop_of_length_le (by omega),List.nil_append,List.take_of_length_le (by omega)]
 have f1:fromLE (leB h.era 4)=h.era:=fromLE_leB 4 _ (by have:=ho.1;omega)
 have f2:fromLE (leB h.seq 8)=h.seq:=fromLE_leB 8 _ (by have:=ho.2;omega)
 rw [b0,b1,b5,f1,f2]
 have e:(Head.mk h.kind h.era h.seq)=h:=rfl
 rw [e,hm]
 rfl
structure Deed (c c':Chip) (i e:Nat):Prop where
 geo:c.SameGeo c'
 ok:c'.Ok
 blk:∀ j,j≠i→c'.blk j=c.blk j
 bad:∀ j,j≠i→c'.isBad j=c.isBad j
 cases:(e=0∧c'.dead=c.dead∧c'.bad=c.bad)∨(e=9∧c'.dead=c.dead∧c'.isBad i=true)∨(e=10∧c'.dead=true∧c'.bad=c.bad)
 calm:(∀ t∈c.hits,t.fails=false)→e≠9∧(∀ t∈c'.hits,t.fails=false)∧c'.bad=c.bad
 quiet:c.hits=[]→e=0∧c'.hits=[]
theorem strike_same (c:Chip):c.strike.1.nb=c.nb∧c.strike.1.np=c.np∧c.strike.1.sz=c.sz∧c.strike.1.blocks=c.blocks∧c.strike.1.bad=c.bad∧c.strike.1.dead=c.dead∧(∀ t∈c.strike.1.hits,t∈c.hits)∧(∀ t,c.strike.2=some t→t∈c.hits)∧(c.hits=[]→c.strike.2=none∧c.strike.1.hits=[]):=by
 unfold Chip.strike
 split
 ·rename_i h
  exact ⟨rfl,rfl,rfl,rfl,rfl,rfl,(fun t ht=>ht),(fun t ht=>by cases ht),fun _=>⟨rfl,h⟩⟩
 ·rename_i t r h
  split
  ·exact ⟨rfl,rfl,rfl,rfl,rfl,rfl,(fun t ht=>ht),(fun t ht=>by cases ht),fun h'=>by rw [h] at h';cases h'⟩
  ·exact ⟨rfl,rfl,rfl,rfl,rfl,rfl,(fun t ht=>by rw [h];simp [ht]),(fun t ht=>by cases ht;rw [h];simp),fun h'=>by rw [h] at h';cases h'⟩
theorem getD_set_ne {α:Type} {l:List α} {i j:Nat} {x d:α} (h:j≠i):(l.set i x).getD j d=l.getD j d:=by
 simp [List.getD,List.getElem?_set_ne (Ne.symm h)]
theorem getD_set_eq {α:Type} {l:List α} {i:Nat} {x d:α} (h:i<l.length):(l.set i x).getD i d=x:=by
 simp [List.getD,h]
def madeBlk (c:Chip) (b off n:Nat) (new:List UInt8):List UInt8:=(c.blk b).take off ++ mixL c.strike.2 (((c.blk b).drop off).take n) new ++ (c.blk b).drop (off+n)
theorem done_deed {c:Chip} (h:c.Ok) {b off n:Nat} (hb:b<c.nb) (ho:off+n≤c.np * c.sz) (new:List UInt8) :
  Deed c (c.done b off n new).1 b (c.done b off n new).2∧(c.done b off n new).1.blk b=madeBlk c b off n new∧(c.done b off n new).1.dead=(if (c.done b off n new).2=10 then true else c.dead):=by
 obtain ⟨s1,s2,s3,s4,s5,s6,s7,s8,s9⟩:=strike_same c
 have hbl:=h.blk_len hb
 have hml:(madeBlk c b off n new).length=c.np * c.sz:=by simp [madeBlk,mixL_length];omega
 have hbb:b<c.blocks.length:=by rw [h.bl];exact hb
 have hbd:b<c.bad.length:=by rw [h.bad];exact hb
 have hdone:c.done b off n new=(c.strike.1.setBlk b (madeBlk c b off n new)).finish b c.strike.2:=rfl
 have hmid:∀ (bad:List Bool) (dead:Bool),bad.length=c.nb→({ c.strike.1.setBlk b (madeBlk c b off n new) with bad:=bad,dead:=dead }:Chip).Ok:=by
  intro bad dead hl
  refine ⟨by show 8≤c.strike.1.nb;rw [s1];exact h.nb1,by show c.strike.1.nb≤64;rw [s1];exact h.nb2,by show 4≤c.strike.1.np;rw [s2];exact h.np1,by show c.strike.1.np≤32;rw [s2];exact h.np2,by show 128≤c.strike.1.sz;rw [s3];exact h.sz1,by show c.strike.1.sz≤256;rw [s3];exact h.sz2,?_,?_,?_⟩
  ·show (c.strike.1.blocks.set b _).length=c.strike.1.nb
   rw [List.length_set,s4,s1];exact h.bl
  ·intro x hx
   have hx':x∈c.strike.1.blocks.set b (madeBlk c b off n new):=hx
   show x.length=c.strike.1.np * c.strike.1.sz
   rw [s2,s3]
   rw [s4] at hx'
   rcases List.mem_or_eq_of_mem_set hx' with hx' | hx'
   ·exact h.bl2 x hx'
   ·rw [hx'];exact hml
  ·show bad.length=c.strike.1.nb
   rw [s1];exact hl
 have hblk:∀ (bad:List Bool) (dead:Bool) j,({ c.strike.1.setBlk b (madeBlk c b off n new) with bad:=bad,dead:=dead }:Chip).blk j=if j=b then madeBlk c b off n new else c.blk j:=by
  intro bad dead j
  show (c.strike.1.blocks.set b _).getD j []=_
  rw [s4]
  split
  ·rename_i e;subst e;exact getD_set_eq hbb
  ·rename_i e;exact getD_set_ne e
 rw [hdone]
 cases hh:c.strike.2 with
 | none =>
  have e:(c.strike.1.setBlk b (madeBlk c b off n new)).finish b none=({ c.strike.1.setBlk b (madeBlk c b off n new) with bad:=c.strike.1.bad,dead:=c.strike.1.dead },0):=rfl
  rw [e]
  refine ⟨⟨⟨s1,s2,s3,(c.strike_geo).2.2.2⟩,hmid _ _ (by rw [s5];exact h.bad),fun j hj=>by rw [hblk,if_neg hj],fun j hj=>by show c.strike.1.bad.getD j false=_;rw [s5];rfl,.inl ⟨rfl,s6,s5⟩,fun hc=>⟨by simp,fun t ht=>hc t (s7 t ht),s5⟩,fun hq=>⟨rfl,(s9 hq).2⟩⟩,by rw [hblk,if_pos rfl],?_⟩
  simp only [if_neg (show ¬ (0=10) by omega)]
  exact s6
 | some t =>
  have htm:=s8 t hh
  have hnq:¬ c.hits=[]:=fun hq=>by rw [(s9 hq).1] at hh;cases hh
  cases hf:t.fails with
  | true =>
   have e:(c.strike.1.setBlk b (madeBlk c b off n new)).finish b (some t)=({ c.strike.1.setBlk b (madeBlk c b off n new) with bad:=c.strike.1.bad.set b true,dead:=c.strike.1.dead },9):=by
    simp only [Chip.finish,hf,if_true];rfl
   rw [e]
   refine ⟨⟨⟨s1,s2,s3,(c.strike_geo).2.2.2⟩,hmid _ _ (by rw [List.length_set,s5];exact h.bad),fun j hj=>by rw [hblk,if_neg hj],fun j hj=>?_,.inr (.inl ⟨rfl,s6,?_⟩),fun hc=>?_,fun hq=>absurd hq hnq⟩,by rw [hblk,if_pos rfl],?_⟩
   ·show (c.strike.1.bad.set b true).getD j false=_
    rw [s5];exact getD_set_ne hj
   ·show (c.strike.1.bad.set b true).getD b false=true
    rw [s5];exact getD_set_eq hbd
   ·rw [hc t htm] at hf;cases hf
   ·simp only [if_neg (show ¬ (9=10) by omega)];exact s6
  | false =>
   have e:(c.strike.1.setBlk b (madeBlk c b off n new)).finish b (some t)=({ c.strike.1.setBlk b (madeBlk c b off n new) with bad:=c.strike.1.bad,dead:=true },10):=by
    simp only [Chip.finish,hf];rfl
   rw [e]
   refine ⟨⟨⟨s1,s2,s3,(c.strike_geo).2.2.2⟩,hmid _ _ (by rw [s5];exact h.bad),fun j hj=>by rw [hblk,if_neg hj],fun j hj=>by show c.strike.1.bad.getD j false=_;rw [s5];rfl,.inr (.inr ⟨rfl,rfl,s5⟩),fun hc=>⟨by simp,fun t ht=>hc t (s7 t ht),s5⟩,fun hq=>absurd hq hnq⟩,by rw [hblk,if_pos rfl],?_⟩
   simp only [if_true]
def hd (c:Chip) (i:Nat):Head×Nat:=getHead (c.page i 0)
def isHd (c:Chip) (i:Nat):Prop:=(hd c i).2=0
def view (c:Chip) (i:Nat):Blk:=if (hd c i).2=0 then ⟨2,(hd c i).1⟩ else if isBlank (c.blk i) then ⟨0,Head.none⟩ else ⟨1,Head.none⟩
theorem lookAt_view (c:Chip) (i:Nat) (old:Blk):lookAt c i old=if c.dead then old else view c i:=rfl
theorem view_what (c:Chip) (i:Nat):(view c i).what=2 ↔ isHd c i:=by
 unfold view isHd
 split
 ·rename_i h;simp [h]
 ·rename_i h;split<;>simp [h]
theorem hd_blk {c c':Chip} (hg:c.SameGeo c') {i:Nat} (h:c'.blk i=c.blk i):hd c' i=hd c i:=by
 unfold hd Chip.page
 rw [h,hg.2.2.1]
theorem view_blk {c c':Chip} (hg:c.SameGeo c') {i:Nat} (h:c'.blk i=c.blk i):view c' i=view c i:=by
 unfold view
 rw [hd_blk hg h,h]
structure CI (c:Chip):Prop where
 ok:c.Ok
 safe:∀ i,i<c.nb→Safe (c.page i 0)
 uniq:∀ i j,i<c.nb→j<c.nb→i≠j→isHd c i→isHd c j→(hd c i).1.seq≠(hd c j).1.seq
structure Inv (P:Pool) (c:Chip):Prop where
 ci:CI c
 len:P.blocks.length=c.nb
 known:c.dead=false→∀ i,i<c.nb→P.blk i=view c i
 last:∀ i,i<c.nb→isHd c i→(hd c i).1.seq≤P.last
theorem setBlk_blk {P:Pool} {i j:Nat} {b:Blk} (hi:i<P.blocks.length):(P.setBlk i b).blk j=if j=i then b else P.blk j:=by
 show (P.blocks.set i b).getD j Blk.zero=_
 split
 ·rename_i e;subst e;exact getD_set_eq hi
 ·rename_i e;exact getD_set_ne e
theorem Inv.deed {P P':Pool} {c c':Chip} {i e:Nat} (h:Inv P c) (hd0:c.dead=false) (hi:i<c.nb) (hde:Deed c c' i e) (hs:Safe (c'.page i 0)) (hbl:P'.blocks=(P.relook c' i).blocks) (hl:P.last≤P'.last)
  (hnew:isHd c' i→(isHd c i∧hd c' i=hd c i)∨(P.last<(hd c' i).1.seq∧(hd c' i).1.seq≤P'.last)):Inv P' c':=by
 have hnb:=hde.geo.1
 have hoth:∀ j,j≠i→hd c' j=hd c j:=fun j hj=>hd_blk hde.geo (hde.blk j hj)
 have hothH:∀ j,j≠i→(isHd c' j ↔ isHd c j):=fun j hj=>by unfold isHd;rw [hoth j hj]
 have hpg:∀ j,j≠i→c'.page j 0=c.page j 0:=fun j hj=>by unfold Chip.page;rw [hde.blk j hj,hde.geo.2.2.1]
 have hil:i<P.blocks.length:=by rw [h.len];exact hi
 refine ⟨⟨hde.ok,fun j hj=>?_,fun j k hj hk hjk h1 h2=>?_⟩,?_,fun hd' j hj=>?_,fun j hj h1=>?_⟩
 ·by_cases hji:j=i
  ·subst hji;exact hs
  ·rw [hpg j hji];exact h.ci.safe j (by rw [← hnb];exact hj)
 ·rw [hnb] at hj hk
  by_cases hji:j=i
  ·subst hji
   have hkj:k≠j:=fun e=>hjk e.symm
   have h2':=(hothH k hkj).1 h2
   rw [hoth k hkj]
   rcases hnew h1 with ⟨ho,he⟩| ⟨hlt,_⟩
   ·rw [he];exact h.ci.uniq j k hj hk hjk ho h2'
   ·have:=h.last k hk h2';omega
  ·by_cases hki:k=i
   ·subst hki
    have h1':=(hothH j hji).1 h1
    rw [hoth j hji]
    rcases hnew h2 with ⟨ho,he⟩| ⟨hlt,_⟩
    ·rw [he];exact h.ci.uniq j k hj hk hjk h1' ho
    ·have:=h.last j hj h1';omega
   ·rw [hoth j hji,hoth k hki]
    exact h.ci.uniq j k hj hk hjk ((hothH j hji).1 h1) ((hothH k hki).1 h2)
 ·rw [hbl,hnb]
  show (P.blocks.set i _).length=_
  rw [List.length_set];exact h.len
 ·rw [hnb] at hj
  have:P'.blk j=(P.relook c' i).blk j:=by unfold Pool.blk;rw [hbl]
  rw [this]
  unfold Pool.relook
  rw [setBlk_blk hil,lookAt_view]
  by_cases hji:j=i
  ·subst hji
   rw [if_pos rfl,if_neg (by rw [hd'];simp)]
  ·rw [if_neg hji,h.known hd0 j hj]
   exact (view_blk hde.geo (hde.blk j hji)).symm
 ·rw [hnb] at hj
  by_cases hji:j=i
  ·subst hji
   rcases hnew h1 with ⟨ho,he⟩| ⟨_,hle⟩
   ·rw [he];have:=h.last j hj ho;omega
   ·exact hle
  ·rw [hoth j hji]
   have:=h.last j hj ((hothH j hji).1 h1)
   omega
theorem done_zero {c:Chip} {b off n:Nat} {new:List UInt8} (h:(c.done b off n new).2=0):c.strike.2=none:=by
 unfold Chip.done Chip.finish at h
 cases hh:c.strike.2 with
 | none=>rfl
 | some t =>
  rw [hh] at h
  simp only [] at h
  split at h<;>cases h
theorem isBlank_eq {l:List UInt8} (h:isBlank l=true):l=List.replicate l.length 255:=by
 refine List.eq_replicate_iff.2 ⟨rfl,fun b hb=>?_⟩
 simp only [isBlank,List.all_eq_true,beq_iff_eq] at h
 exact h b hb
theorem page0 {c:Chip} (i:Nat):c.page i 0=(c.blk i).take c.sz:=by simp [Chip.page]
theorem erase_done {c:Chip} (h:c.Ok) (hd0:c.dead=false) {i:Nat} (hi:i<c.nb) (hb:c.isBad i=false):c.erase i=c.done i 0 (c.np * c.sz) (List.replicate (c.np * c.sz) 255):=by
 unfold Chip.erase
 have:=h.np1
 have ha:c.ask i 0=0:=ask_ok (k:=0) hd0 hi (by omega)
 rw [if_neg (by omega)]
 simp only [Int.toNat_natCast]
 rw [if_neg (by rw [hb];simp)]
theorem erase_inv {P:Pool} {c:Chip} (h:Inv P c) (hd0:c.dead=false) {i:Nat} (hi:i<c.nb) (hb:c.isBad i=false) :
  Deed c (c.erase i).1 i (c.erase i).2∧Inv (P.relook (c.erase i).1 i) (c.erase i).1∧((c.erase i).2=0→(c.erase i).1.blk i=List.replicate (c.np * c.sz) 255)∧(isHd (c.erase i).1 i→isHd c i∧hd (c.erase i).1 i=hd c i):=by
 rw [erase_done h.ci.ok hd0 hi hb]
 obtain ⟨hde,hbl,hdd⟩:=done_deed h.ci.ok hi (off:=0) (n:=c.np * c.sz) (by omega) (List.replicate (c.np * c.sz) 255)
 have hz:=@done_zero c i 0 (c.np * c.sz) (List.replicate (c.np * c.sz) 255)
 generalize hr:c.done i 0 (c.np * c.sz) (List.replicate (c.np * c.sz) 255)=r at *
 have hlen:=h.ci.ok.blk_len hi
 have hmb:madeBlk c i 0 (c.np * c.sz) (List.replicate (c.np * c.sz) 255)=mixL c.strike.2 (c.blk i) (List.replicate (c.np * c.sz) 255):=by
  unfold madeBlk
  rw [Nat.zero_add,List.drop_zero,List.take_zero,List.nil_append,List.take_of_length_le (show (c.blk i).length≤c.np * c.sz by omega),List.drop_of_length_le (show (c.blk i).length≤c.np * c.sz by omega),List.append_nil]
 rw [hmb] at hbl
 have hsub:SubL (c.blk i) (r.1.blk i):=by rw [hbl];exact mixL_erase _ _ _ (by omega)
 have hsp:SubL (c.page i 0) (r.1.page i 0):=by rw [page0,page0,hde.geo.2.2.1];exact hsub.take _
 have hsafe:=h.ci.safe i hi
 have hkeep:isHd r.1 i→isHd c i∧hd r.1 i=hd c i:=by
  intro hh
  have e:=hsafe.same hsp (getHead_sound hh)
  have:hd r.1 i=hd c i:=by unfold hd;rw [e]
  exact ⟨by unfold isHd;rw [← this];exact hh,this⟩
 refine ⟨hde,h.deed hd0 hi hde (hsafe.up hsp) rfl (Nat.le_refl _) (fun hh=>.inl (hkeep hh)),fun h0=>?_,hkeep⟩
 rw [hbl,hz h0,mixL_none _ _ (by simp;omega)]
theorem view_zero {c:Chip} {i:Nat} (h:(view c i).what=0):isBlank (c.blk i)=true:=by
 unfold view at h
 split at h
 ·cases h
 ·split at h
  ·assumption
  ·cases h
theorem view_one {c:Chip} {i:Nat} (h:(view c i).what≠2) (h1:(view c i).what≠1):(view c i).what=0:=by
 unfold view at h h1 ⊢
 split
 ·rename_i hh;rw [if_pos hh] at h;exact absurd rfl h
 ·rename_i hh
  rw [if_neg hh] at h1
  split
  ·rfl
  ·rename_i hb;rw [if_neg hb] at h1;exact absurd rfl h1
theorem write_inv {P:Pool} {c:Chip} (h:Inv P c) (hd0:c.dead=false) {i:Nat} (hi:i<c.nb) (hb:c.isBad i=false) (hbl:isBlank (c.blk i)=true) {kind:UInt8} {era:Nat} (hk1:1≤kind.toNat) (hk3:kind.toNat≤3) (he1:1≤era) (he2:era<4294967296) (hl:P.last+1<18446744073709551616) :
  (writeHead P c i kind era).1.last=P.last+1∧(writeHead P c i kind era).1.turn=P.turn∧Deed c (writeHead P c i kind era).2.1 i (writeHead P c i kind era).2.2∧Inv (writeHead P c i kind era).1 (writeHead P c i kind era).2.1∧
   ((writeHead P c i kind era).2.2=0→hd (writeHead P c i kind era).2.1 i=(⟨kind,era,P.last+1⟩,0)):=by
 have hok:=h.ci.ok
 have hlast:P.raise.last=P.last+1:=Nat.mod_eq_of_lt hl
 have hsz:isSize (c.sz:Int)=true:=by
  have:=hok.sz1
  have:=hok.sz2
  simp [isSize];omega
 have hm:(Head.mk kind era (P.last+1)).may=true:=by
  simp [Head.may];omega
 have hHok:(Head.mk kind era (P.last+1)).Ok:=⟨he2,hl⟩
 have hput:putHead c.sz ⟨kind,era,P.raise.last⟩= (pageOf c.sz 1 (Head.mk kind era (P.last+1)).body,0):=by
  unfold putHead
  rw [hlast,if_neg (by rw [hm,hsz];simp)]
  simp
 have hbody:=(Head.mk kind era (P.last+1)).body_length
 have hpl:(pageOf c.sz 1 (Head.mk kind era (P.last+1)).body).length=c.sz:=pageOf_length _ _ _ (by have:=hok.sz1;omega)
 have hpg:=getHead_pageOf hsz hHok hm
 generalize hpage:pageOf c.sz 1 (Head.mk kind era (P.last+1)).body=pg at *
 have hprog:c.program i 0 pg=c.done i 0 c.sz pg:=by
  have:=hok.np1
  have ha:c.ask i 0=0:=ask_ok (k:=0) hd0 hi (by omega)
  unfold Chip.program
  rw [if_neg (by omega),if_neg (by omega)]
  simp only [Int.toNat_natCast,tn0,Nat.zero_mul,List.drop_zero]
  rw [if_neg (by rw [hb];simp),if_neg (by rw [hbl];simp)]
 have hw:writeHead P c i kind era=(P.raise.relook (c.done i 0 c.sz pg).1 i,(c.done i 0 c.sz pg).1,(c.done i 0 c.sz pg).2):=by
  unfold writeHead
  rw [hput,hprog]
 rw [hw]
 have hfit:c.sz≤c.np * c.sz:=Nat.le_mul_of_pos_left _ (by have:=hok.np1;omega)
 obtain ⟨hde,hblk,hdd⟩:=done_deed hok hi (off:=0) (n:=c.sz) (by omega) pg
 have hz:=@done_zero c i 0 c.sz pg
 generalize hr:c.done i 0 c.sz pg=r at *
 have hlen:=hok.blk_len hi
 have hrep:=isBlank_eq hbl
 have htk:(c.blk i).take c.sz=List.replicate c.sz 255:=by rw [hrep,hlen,List.take_replicate,Nat.min_eq_left hfit]
 have hpage0:r.1.page i 0=mixL c.strike.2 (List.replicate c.sz 255) pg:=by
  rw [page0,hde.geo.2.2.1,hblk]
  unfold madeBlk
  rw [Nat.zero_add,List.drop_zero,htk,List.take_zero,List.nil_append,List.take_append_of_le_length (by simp [mixL_length]),List.take_of_length_le (by simp [mixL_length])]
 have hsub:SubL pg (r.1.page i 0):=by rw [hpage0];exact mixL_write _ _ _ hpl
 have hsound:Sound pg:=by rw [← hpage];exact pageOf_sound (by have:=hok.sz1;omega) (by have:=hok.sz2;omega)
 have hnew:isHd r.1 i→hd r.1 i=(⟨kind,era,P.last+1⟩,0):=by
  intro hh
  have e:=berger hsub hsound (getHead_sound hh)
  unfold hd
  rw [e];exact hpg
 refine ⟨hlast,rfl,hde,h.deed hd0 hi hde ⟨pg,hsound,hsub⟩ rfl (by show P.last≤P.raise.last;omega) (fun hh=>.inr ?_),fun h0=>?_⟩
 ·rw [hnew hh]
  show P.last<P.last+1∧P.last+1≤P.raise.last
  omega
 ·have e:r.1.page i 0=pg:=by rw [hpage0,hz h0,mixL_none _ _ (by simp [hpl])]
  unfold hd
  rw [e];exact hpg
theorem Deed.trans {c c1 c2:Chip} {i e:Nat} (h:Deed c c1 i 0) (k:Deed c1 c2 i e):Deed c c2 i e:=by
 obtain ⟨hd1,hb1⟩: c1.dead=c.dead∧c1.bad=c.bad:=by
  rcases h.cases with ⟨_,a,b⟩| ⟨a,_⟩| ⟨a,_⟩
  ·exact ⟨a,b⟩
  ·cases a
  ·cases a
 refine ⟨h.geo.trans k.geo,k.ok,fun j hj=>(k.blk j hj).trans (h.blk j hj),fun j hj=>(k.bad j hj).trans (h.bad j hj),?_,fun hc=>?_,fun hq=>k.quiet (h.quiet hq).2⟩
 ·rcases k.cases with ⟨a,b,d⟩| ⟨a,b,d⟩| ⟨a,b,d⟩
  ·exact .inl ⟨a,by rw [b,hd1],by rw [d,hb1]⟩
  ·exact .inr (.inl ⟨a,by rw [b,hd1],d⟩)
  ·exact .inr (.inr ⟨a,b,by rw [d,hb1]⟩)
 ·have h1:=h.calm hc
  have k1:=k.calm h1.2.1
  exact ⟨k1.1,k1.2.1,by rw [k1.2.2,hb1]⟩
structure TryR (P:Pool) (c:Chip) (i:Nat) (kind:UInt8) (era:Nat) (P':Pool) (c':Chip) (e:Nat):Prop where
 deed:Deed c c' i e
 inv:Inv P' c'
 lo:P.last≤P'.last
 hi:P'.last≤P.last+1
 turn:P'.turn=P.turn
 ok:e=0→hd c' i=(⟨kind,era,P'.last⟩,0)∧P'.last=P.last+1
theorem try_inv {P:Pool} {c:Chip} (h:Inv P c) (hd0:c.dead=false) {i:Nat} (hi:i<c.nb) (hb:c.isBad i=false) (hw:(P.blk i).what≠2) {kind:UInt8} {era:Nat} (hk1:1≤kind.toNat) (hk3:kind.toNat≤3) (he1:1≤era) (he2:era<4294967296) (hl:P.last+1<18446744073709551616) :
  TryR P c i kind era (tryBlk P c i kind era).1 (tryBlk P c i kind era).2.1 (tryBlk P c i kind era).2.2:=by
 have hkn:=h.known hd0 i hi
 unfold tryBlk
 split
 ·rename_i h1
  obtain ⟨hde,hinv,hz,hk⟩:=erase_inv h hd0 hi hb
  split
  ·rename_i hne
   exact ⟨hde,hinv,Nat.le_refl _,Nat.le_succ _,rfl,fun h0=>absurd h0 hne⟩
  ·rename_i heq
   have h0:(c.erase i).2=0:=Classical.byContradiction heq
   have hdd:(c.erase i).1.dead=c.dead∧(c.erase i).1.bad=c.bad:=by
    rcases hde.cases with ⟨_,a,b⟩| ⟨a,_⟩| ⟨a,_⟩
    ·exact ⟨a,b⟩
    ·omega
    ·omega
   rw [h0] at hde
   have hnb:=hde.geo.1
   obtain ⟨w1,w2,w3,w4,w5⟩:=write_inv (i:=i) hinv (by rw [hdd.1];exact hd0) (by rw [hnb];exact hi) (by unfold Chip.isBad;rw [hdd.2];exact hb) (by rw [hz h0];exact isBlank_replicate _) hk1 hk3 he1 he2 hl
   refine ⟨hde.trans w3,w4,by rw [w1];exact Nat.le_succ _,by rw [w1];exact Nat.le_refl _,w2,fun e=>⟨?_,w1⟩⟩
   rw [w5 e,w1]
 ·rename_i h1
  have hbk:isBlank (c.blk i)=true:=by
   rw [hkn] at h1 hw
   exact view_zero (view_one hw h1)
  obtain ⟨w1,w2,w3,w4,w5⟩:=write_inv h hd0 hi hb hbk hk1 hk3 he1 he2 hl
  exact ⟨w3,w4,by rw [w1];exact Nat.le_succ _,by rw [w1];exact Nat.le_refl _,w2,fun e=>⟨by rw [w5 e,w1],w1⟩⟩
theorem isHd_blk {c c':Chip} (hg:c.SameGeo c') {i:Nat} (h:c'.blk i=c.blk i):isHd c' i ↔ isHd c i:=by
 unfold isHd
 rw [hd_blk hg h]
theorem Inv.what {P:Pool} {c:Chip} (h:Inv P c) (hd0:c.dead=false) {i:Nat} (hi:i<c.nb):(P.blk i).what=2 ↔ isHd c i:=by
 rw [h.known hd0 i hi];exact view_what c i
structure TakeP (kind:UInt8) (era:Nat) (ks:List Nat) (P:Pool) (c:Chip) (R:TakeR):Prop where
 inv:Inv R.pool R.chip
 geo:c.SameGeo R.chip
 lo:P.last≤R.pool.last
 hi:R.pool.last≤P.last+ks.length
 turn:P.turn≤c.nb→R.pool.turn≤c.nb
 kept:∀ j,j<c.nb→isHd c j→R.chip.blk j=c.blk j∧R.chip.isBad j=c.isBad j
 bads:∀ j,j<c.nb→c.isBad j=true→R.chip.isBad j=true
 cases:(R.err=0∧R.chip.dead=false∧R.block<c.nb∧¬ isHd c R.block∧R.chip.isBad R.block=false∧hd R.chip R.block=(⟨kind,era,R.pool.last⟩,0)∧P.last<R.pool.last)∨
  (R.err=10∧R.chip.dead=true)∨(R.err=11∧R.chip.dead=false∧∀ k∈ks,R.chip.isBad ((P.turn+k) % c.nb)=true∨isHd R.chip ((P.turn+k) % c.nb))
 calm:(∀ t∈c.hits,t.fails=false)→(∀ t∈R.chip.hits,t.fails=false)∧R.chip.bad=c.bad∧∃ i0,∀ j,j≠i0→R.chip.blk j=c.blk j
 quiet:c.hits=[]→R.chip.hits=[]∧R.err≠10∧(R.err=11→R.chip=c∧R.pool=P)∧(R.err=0→∀ j,j≠R.block→R.chip.blk j=c.blk j∧R.chip.isBad j=c.isBad j)
theorem takeGo_inv {kind:UInt8} {era:Nat} (hk1:1≤kind.toNat) (hk3:kind.toNat≤3) (he1:1≤era) (he2:era<4294967296):∀ (ks:List Nat) {P:Pool} {c:Chip},Inv P c→c.dead=false→P.last+ks.length<18446744073709551616→TakeP kind era ks P c (takeGo kind era P c ks)
 | [],P,c,h,hd0,hl=>by
  rw [takeGo]
  exact ⟨h,.refl _,Nat.le_refl _,by simp,fun h=>h,fun _ _ _=>⟨rfl,rfl⟩,fun _ _ h=>h,.inr (.inr ⟨rfl,hd0,fun k hk=>by simp at hk⟩),fun hc=>⟨hc,rfl,0,fun _ _=>rfl⟩,fun hq=>⟨hq,by simp,fun _=>⟨rfl,rfl⟩,fun h0=>by cases h0⟩⟩
 | k :: ks,P,c,h,hd0,hl=>by
  have hnb:=h.ci.ok.nb1
  have hmod:(P.turn+k) % c.nb<c.nb:=Nat.mod_lt _ (by omega)
  simp only [List.length_cons] at hl
  rw [takeGo]
  by_cases hcnd:c.isBad ((P.turn+k) % c.nb)=true∨(P.blk ((P.turn+k) % c.nb)).what=2
  ·rw [if_pos hcnd]
   have r:=takeGo_inv hk1 hk3 he1 he2 ks h hd0 (by omega)
   refine ⟨r.inv,r.geo,r.lo,by have:=r.hi;simp;omega,r.turn,r.kept,r.bads,?_,r.calm,r.quiet⟩
   rcases r.cases with h0 | h10 | ⟨h1,h2,h3⟩
   ·exact .inl h0
   ·exact .inr (.inl h10)
   ·refine .inr (.inr ⟨h1,h2,fun x hx=>?_⟩)
    rcases List.mem_cons.1 hx with rfl | hx
    ·rcases hcnd with hb | hw
     ·exact .inl (r.bads _ hmod hb)
     ·have hh:=(h.what hd0 hmod).1 hw
      exact .inr ((isHd_blk r.geo (r.kept _ hmod hh).1).2 hh)
    ·exact h3 x hx
  ·rw [if_neg hcnd]
   have hb:c.isBad ((P.turn+k) % c.nb)=false:=by
    cases hb:c.isBad ((P.turn+k) % c.nb) with
    | false=>rfl
    | true=>exact absurd (.inl hb) hcnd
   have hw:(P.blk ((P.turn+k) % c.nb)).what≠2:=fun hw=>hcnd (.inr hw)
   have hnh:¬ isHd c ((P.turn+k) % c.nb):=fun hh=>hw ((h.what hd0 hmod).2 hh)
   have t:=try_inv h hd0 hmod hb hw hk1 hk3 he1 he2 (by omega)
   generalize hi:(P.turn+k) % c.nb=i at *
   generalize hT:tryBlk P c i kind era=T at *
   have hkept:∀ j,isHd c j→T.2.1.blk j=c.blk j∧T.2.1.isBad j=c.isBad j:=fun j hj=>by
    have hji:j≠i:=fun e=>hnh (e ▸ hj)
    exact ⟨t.deed.blk j hji,t.deed.bad j hji⟩
   have hbads:∀ j,c.isBad j=true→T.2.1.isBad j=true:=fun j hj=>by
    have hji:j≠i:=fun e=>by rw [e,hb] at hj;cases hj
    rw [t.deed.bad j hji];exact hj
   by_cases h0:T.2.2=0
   ·rw [if_pos h0]
    obtain ⟨hhd,hls⟩:=t.ok h0
    obtain ⟨hdd,hbad⟩: T.2.1.dead=c.dead∧T.2.1.bad=c.bad:=by
     rcases t.deed.cases with ⟨_,a,b⟩| ⟨a,_⟩| ⟨a,_⟩
     ·exact ⟨a,b⟩
     ·omega
     ·omega
    refine ⟨⟨t.inv.ci,t.inv.len,t.inv.known,t.inv.last⟩,t.deed.geo,t.lo,by have:=t.hi;simp;omega,fun _=>by show i+1≤c.nb;omega,fun j _ hj=>hkept j hj,fun j _ hj=>hbads j hj,.inl ⟨rfl,by rw [← hd0];exact hdd,hmod,hnh,?_,hhd,by show P.last<T.1.last;omega⟩,fun hc=>⟨(t.deed.calm hc).2.1,(t.deed.calm hc).2.2,i,fun j hj=>t.deed.blk j hj⟩,
     fun hq=>⟨(t.deed.quiet hq).2,by simp,(fun h=>by cases h),fun _ j hj=>⟨t.deed.blk j hj,t.deed.bad j hj⟩⟩⟩
    show T.2.1.isBad i=false
    unfold Chip.isBad;rw [hbad];exact hb
   ·rw [if_neg h0]
    by_cases h10:T.2.2=10
    ·rw [if_pos h10]
     have hdd:T.2.1.dead=true:=by
      rcases t.deed.cases with ⟨a,_⟩| ⟨a,_⟩| ⟨_,a,_⟩
      ·omega
      ·omega
      ·exact a
     refine ⟨t.inv,t.deed.geo,t.lo,by have:=t.hi;simp;omega,fun h=>by show T.1.turn≤c.nb;rw [t.turn];exact h,fun j _ hj=>hkept j hj,fun j _ hj=>hbads j hj,.inr (.inl ⟨rfl,hdd⟩),fun hc=>⟨(t.deed.calm hc).2.1,(t.deed.calm hc).2.2,i,fun j hj=>t.deed.blk j hj⟩,fun hq=>absurd (t.deed.quiet hq).1 h0⟩
    ·rw [if_neg h10]
     obtain ⟨h9,hdd,hbi⟩: T.2.2=9∧T.2.1.dead=c.dead∧T.2.1.isBad i=true:=by
      rcases t.deed.cases with ⟨a,_⟩| a | ⟨a,_⟩
      ·exact absurd a h0
      ·exact a
      ·exact absurd a h10
     have r:=takeGo_inv hk1 hk3 he1 he2 ks t.inv (by rw [hdd];exact hd0) (by have:=t.hi;omega)
     have hnbT:T.2.1.nb=c.nb:=t.deed.geo.1
     have hhT:∀ j,isHd c j→isHd T.2.1 j:=fun j hj=>(isHd_blk t.deed.geo (hkept j hj).1).2 hj
     refine ⟨r.inv,t.deed.geo.trans r.geo,Nat.le_trans t.lo r.lo,by have:=r.hi;have:=t.hi;simp;omega,fun h=>by have:=r.turn (by rw [t.turn,hnbT];exact h);rw [hnbT] at this;exact this,fun j hj hh=>?_,fun j hj hh=>r.bads j (by rw [hnbT];exact hj) (hbads j hh),?_,fun hc=>absurd h9 (t.deed.calm hc).1,fun hq=>absurd (t.deed.quiet hq).1 h0⟩
     ·obtain ⟨a,b⟩:=r.kept j (by rw [hnbT];exact hj) (hhT j hh)
      exact ⟨a.trans (hkept j hh).1,b.trans (hkept j hh).2⟩
     ·rcases r.cases with ⟨a1,a2,a3,a4,a5,a6,a7⟩| a | ⟨a1,a2,a3⟩
      ·refine .inl ⟨a1,a2,by rw [← hnbT];exact a3,fun hh=>a4 (hhT _ hh),a5,a6,by have:=t.lo;omega⟩
      ·exact .inr (.inl a)
      ·refine .inr (.inr ⟨a1,a2,fun x hx=>?_⟩)
       rcases List.mem_cons.1 hx with rfl | hx
       ·rw [hi];exact .inl (r.bads i (by rw [hnbT];exact hmod) hbi)
       ·have:=a3 x hx
        rw [t.turn,hnbT] at this
        exact this
theorem mod_all {n t j:Nat} (ht:t≤n) (hj:j<n):∃ k,k<n∧(t+k) % n=j:=by
 by_cases h:t≤j
 ·exact ⟨j - t,by omega,by rw [show t+(j - t)=j by omega];exact Nat.mod_eq_of_lt hj⟩
 ·by_cases h2:t=n
  ·exact ⟨j,hj,by rw [h2,Nat.add_mod_left];exact Nat.mod_eq_of_lt hj⟩
  ·exact ⟨j+n - t,by omega,by rw [show t+(j+n - t)=j+n by omega,Nat.add_mod_right];exact Nat.mod_eq_of_lt hj⟩
theorem takePool_go {P:Pool} {c:Chip} (h:c.Ok) (hd0:c.dead=false) {kind:UInt8} {era:Nat} (hk1:1≤kind.toNat) (hk3:kind.toNat≤3) (he1:1≤era):takePool P c kind era=takeGo kind era P c (List.range c.nb):=by
 unfold takePool
 rw [if_neg (by omega),if_neg (by rw [ask00 h,hd0];simp)]
theorem blank_notHd {c:Chip} (h:c.Ok) {i:Nat} (hi:i<c.nb) (hb:isBlank (c.blk i)=true):¬ isHd c i:=by
 have hlen:=h.blk_len hi
 have hpg:isBlank (c.page i 0)=true:=by
  rw [page0]
  simp only [isBlank,List.all_eq_true] at hb ⊢
  exact fun x hx=>hb x (List.mem_of_mem_take hx)
 have hpl:(c.page i 0).length=c.sz:=page_len h hi (by have:=h.np1;omega)
 have hsz:isSize ((c.page i 0).length:Int)=true:=by
  have:=h.sz1
  have:=h.sz2
  rw [hpl];simp [isSize];omega
 intro hh
 have hg:(getPage (c.page i 0)).2.2=6:=by
  unfold getPage
  rw [if_neg (by rw [hsz];simp),if_pos hpg]
 unfold isHd hd getHead at hh
 rw [if_pos (by omega)] at hh
 omega
def Mine (c:Chip) (i:Int):Prop:=0≤i∧i<c.nb∧isHd c i.toNat∧c.isBad i.toNat=false
theorem free_not {P:Pool} {c:Chip} (h:Inv P c) (hd0:c.dead=false) {i:Int} (hm:¬ Mine c i):freePool P c i=(P,c,12):=by
 unfold freePool
 refine if_pos (Classical.byContradiction fun hn=>hm ?_)
 have h1:¬ i<0:=fun h=>hn (.inl h)
 have h2:¬ i≥c.nb:=fun h=>hn (.inr (.inl h))
 have hlt:i.toNat<c.nb:=by omega
 have h3:(P.blk i.toNat).what=2:=Classical.byContradiction fun h=>hn (.inr (.inr (.inl h)))
 have h4:¬ c.isBad i.toNat=true:=fun h=>hn (.inr (.inr (.inr h)))
 exact ⟨by omega,by omega,(h.what hd0 hlt).1 h3,by simpa using h4⟩
structure FreeP (P:Pool) (c:Chip) (i:Nat) (r:Pool×Chip×Nat) (e:Nat):Prop where
 deed:Deed c r.2.1 i e
 inv:Inv r.1 r.2.1
 last:r.1.last=P.last
 turn:r.1.turn=P.turn
 err:r.2.2=if e=9 then 0 else e
 gone:e=0→¬ isHd r.2.1 i
 keep:isHd r.2.1 i→isHd c i∧hd r.2.1 i=hd c i
theorem free_mine {P:Pool} {c:Chip} (h:Inv P c) (hd0:c.dead=false) {i:Int} (hm:Mine c i):∃ e,FreeP P c i.toNat (freePool P c i) e:=by
 obtain ⟨h0,h1,h2,h3⟩:=hm
 have hlt:i.toNat<c.nb:=by omega
 have hei:c.erase i=c.erase (i.toNat:Int):=by rw [Int.toNat_of_nonneg h0]
 have hf:freePool P c i=(P.relook (c.erase i).1 i.toNat,(c.erase i).1,if (c.erase i).2=9 then 0 else (c.erase i).2):=by
  unfold freePool
  rw [if_neg]
  rintro (a | a | a | a)
  ·omega
  ·omega
  ·exact a ((h.what hd0 hlt).2 h2)
  ·rw [h3] at a;cases a
 rw [hf,hei]
 obtain ⟨hde,hinv,hz,hk⟩:=erase_inv h hd0 hlt h3
 refine ⟨_,hde,hinv,rfl,rfl,rfl,fun h0=>?_,hk⟩
 exact blank_notHd hde.ok (by rw [hde.geo.1];exact hlt) (by show isBlank ((c.erase (i.toNat:Int)).1.blk i.toNat)=true;rw [hz h0];exact isBlank_replicate _)
theorem sorted_ext {α:Type} {f:α→Nat}:∀ {l m:List α},l.Pairwise (fun a b=>f a<f b)→m.Pairwise (fun a b=>f a<f b)→(∀ x,x∈l ↔ x∈m)→l=m
 | [],[],_,_,_=>rfl
 | [],b :: m,_,_,h=>by have:=(h b).2 (by simp);simp at this
 | a :: l,[],_,_,h=>by have:=(h a).1 (by simp);simp at this
 | a :: l,b :: m,hl,hm,h=>by
  obtain ⟨l1,l2⟩:=List.pairwise_cons.1 hl
  obtain ⟨m1,m2⟩:=List.pairwise_cons.1 hm
  have hab:a=b:=by
   rcases List.mem_cons.1 ((h a).1 (by simp)) with e | ha
   ·exact e
   ·rcases List.mem_cons.1 ((h b).2 (by simp)) with e | hb
    ·exact e.symm
    ·have:=l1 b hb;have:=m1 a ha;omega
  subst hab
  rw [sorted_ext l2 m2 fun x=>?_]
  constructor
  ·intro hx
   rcases List.mem_cons.1 ((h x).1 (by simp [hx])) with e | hx'
   ·have:=l1 x hx;rw [e] at this;omega
   ·exact hx'
  ·intro hx
   rcases List.mem_cons.1 ((h x).2 (by simp [hx])) with e | hx'
   ·have:=m1 x hx;rw [e] at this;omega
   ·exact hx'
theorem sink_sorted {x:Taken}:∀ {l:List Taken},l.Pairwise (fun a b=>b.head.seq<a.head.seq)→(∀ y∈l,y.head.seq≠x.head.seq)→(sink takenLt x l).Pairwise (fun a b=>b.head.seq<a.head.seq)
 | [],_,_=>by simp [sink]
 | y :: l,hl,hx=>by
  obtain ⟨l1,l2⟩:=List.pairwise_cons.1 hl
  have hyx:=hx y (by simp)
  unfold sink
  split
  ·rename_i hlt
   have hxy:x.head.seq<y.head.seq:=by
    simp [takenLt] at hlt
    omega
   refine List.pairwise_cons.2 ⟨fun z hz=>?_,sink_sorted l2 fun z hz=>hx z (by simp [hz])⟩
   rcases (sink_mem takenLt x z l).1 hz with rfl | hz
   ·exact hxy
   ·exact l1 z hz
  ·rename_i hlt
   have hxy:y.head.seq<x.head.seq:=by
    have:takenLt x y=false:=by simpa using hlt
    simp [takenLt] at this
    omega
   refine List.pairwise_cons.2 ⟨fun z hz=>?_,hl⟩
   rcases List.mem_cons.1 hz with rfl | hz
   ·exact hxy
   ·have:=l1 z hz;omega
theorem isort_sorted {l:List Taken} (h:l.Pairwise (fun a b=>a.head.seq≠b.head.seq)):(isort takenLt l).Pairwise (fun a b=>a.head.seq<b.head.seq):=by
 unfold isort
 rw [List.pairwise_reverse]
 have key:∀ (l acc:List Taken),acc.Pairwise (fun a b=>b.head.seq<a.head.seq)→l.Pairwise (fun a b=>a.head.seq≠b.head.seq)→(∀ a∈acc,∀ b∈l,a.head.seq≠b.head.seq)→(l.foldl (fun acc x=>sink takenLt x acc) acc).Pairwise (fun a b=>b.head.seq<a.head.seq):=by
  intro l
  induction l with
  | nil=>intro acc ha _ _;exact ha
  | cons x l ih =>
   intro acc ha hl hx
   obtain ⟨l1,l2⟩:=List.pairwise_cons.1 hl
   rw [List.foldl_cons]
   refine ih _ (sink_sorted ha fun y hy=>hx y hy x (by simp)) l2 fun a ha' b hb=>?_
   rcases (sink_mem takenLt x a acc).1 ha' with rfl | ha'
   ·exact l1 b hb
   ·exact hx a ha' b (by simp [hb])
 exact key l [] List.Pairwise.nil h fun a ha=>by simp at ha
theorem view_pos {c:Chip} {i:Nat} (h:isHd c i):view c i=⟨2,(hd c i).1⟩:=if_pos h
theorem view_neg {c:Chip} {i:Nat} (h:¬ isHd c i):(view c i).head=Head.none:=by
 unfold view
 rw [if_neg (show ¬ (hd c i).2=0 from h)]
 split<;>rfl
def IsTaken (c:Chip) (n:Nat) (t:Taken):Prop:=t.block<n∧isHd c t.block∧t.head=(hd c t.block).1∧t.bad=c.isBad t.block
theorem raw_mem {P:Pool} {c:Chip} (h:Inv P c) (hd0:c.dead=false) {n:Nat} (hn:n≤c.nb) (t:Taken):t∈takenRaw P c n ↔ IsTaken c n t:=by
 unfold takenRaw IsTaken
 rw [List.mem_filterMap]
 constructor
 ·rintro ⟨i,hi,e⟩
  have hi':i<n:=by simpa using hi
  split at e
  ·rename_i hw
   cases e
   have hh:=(h.what hd0 (by omega)).1 hw
   refine ⟨hi',hh,?_,rfl⟩
   rw [h.known hd0 i (by omega),view_pos hh]
  ·cases e
 ·rintro ⟨h1,h2,h3,h4⟩
  refine ⟨t.block,by simpa using h1,?_⟩
  rw [if_pos ((h.what hd0 (by omega)).2 h2)]
  obtain ⟨b,hh,bad⟩:=t
  simp only [] at h1 h2 h3 h4 ⊢
  rw [h.known hd0 b (by omega),view_pos h2,h3,h4]
theorem raw_distinct {P:Pool} {c:Chip} (h:Inv P c) (hd0:c.dead=false):∀ n,n≤c.nb→(takenRaw P c n).Pairwise (fun a b=>a.head.seq≠b.head.seq)
 | 0,_=>by simp [takenRaw]
 | n+1,hn=>by
  rw [takenRaw_succ]
  rw [List.pairwise_append]
  refine ⟨raw_distinct h hd0 n (by omega),?_,fun a ha b hb=>?_⟩
  ·split<;>simp
  ·obtain ⟨a1,a2,a3,_⟩:=(raw_mem h hd0 (by omega) a).1 ha
   have hb':b∈takenRaw P c (n+1):=by rw [takenRaw_succ];exact List.mem_append.2 (.inr hb)
   obtain ⟨b1,b2,b3,_⟩:=(raw_mem h hd0 hn b).1 hb'
   have hbn:b.block=n:=by
    split at hb
    ·simp at hb;rw [hb]
    ·simp at hb
   rw [a3,b3]
   exact h.ci.uniq _ _ (by omega) (by omega) (by omega) a2 b2
theorem taken_mem {P:Pool} {c:Chip} (h:Inv P c) (hd0:c.dead=false) (t:Taken):t∈takenPool P c ↔ IsTaken c c.nb t:=by
 unfold takenPool
 rw [isort_mem]
 exact raw_mem h hd0 (Nat.le_refl _) t
theorem taken_sorted {P:Pool} {c:Chip} (h:Inv P c) (hd0:c.dead=false):(takenPool P c).Pairwise (fun a b=>a.head.seq<b.head.seq):=isort_sorted (raw_distinct h hd0 _ (Nat.le_refl _))
theorem refHead_eq {c:Chip} (h:c.Ok) (hd0:c.dead=false) {i:Nat} (hi:i<c.nb):refHead c i=((hd c i).1,decide ((hd c i).2=0)):=by
 have:=h.np1
 have ha:c.ask i 0=0:=ask_ok (k:=0) hd0 hi (by omega)
 unfold refHead
 rw [if_neg (by omega)]
 rfl
theorem filter_congr' {α:Type} {p q:α→Bool} {l:List α} (h:∀ a∈l,p a=q a):l.filter p=l.filter q:=by
 induction l with
 | nil=>rfl
 | cons a l ih=>rw [List.filter_cons,List.filter_cons,h a (by simp),ih fun b hb=>h b (by simp [hb])]
theorem blanks_ref {P:Pool} {c:Chip} (h:Inv P c) (hd0:c.dead=false):blanksPool P c=refBlanks c:=by
 unfold blanksPool refBlanks
 congr 1
 refine filter_congr' fun i hi=>?_
 have hi':i<c.nb:=by simpa using hi
 congr 1
 rw [refHead_eq h.ci.ok hd0 hi']
 have:=h.what hd0 hi'
 by_cases hh:isHd c i
 ·have e1:decide ((P.blk i).what≠2)=false:=decide_eq_false (fun h=>h (this.2 hh))
  have e2:decide ((hd c i).2=0)=true:=decide_eq_true hh
  rw [e1,e2];rfl
 ·have e1:decide ((P.blk i).what≠2)=true:=decide_eq_true (fun h=>hh (this.1 h))
  have e2:decide ((hd c i).2=0)=false:=decide_eq_false hh
  rw [e1,e2];rfl
theorem blanks_zero {c:Chip} (h:CI c) (hd0:c.dead=false) (hall:∀ j,j<c.nb→c.isBad j=true∨isHd c j):refBlanks c=0:=by
 unfold refBlanks
 rw [List.length_eq_zero_iff,List.filter_eq_nil_iff]
 intro i hi
 have hi':i<c.nb:=by simpa using hi
 rw [refHead_eq h.ok hd0 hi']
 rcases hall i hi' with hb | hh
 ·rw [hb];simp
 ·simp only []
  rw [decide_eq_true (show (hd c i).2=0 from hh)];simp
theorem scanGo_inv {c:Chip} (h:CI c) (hd0:c.dead=false):∀ n,n≤c.nb→(scanGo c n).blocks.length=c.nb∧(∀ i,i<n→(scanGo c n).blk i=view c i)∧(∀ i,i<n→isHd c i→(hd c i).1.seq≤(scanGo c n).last)∧
  ((scanGo c n).last=0∨∃ i,i<n∧isHd c i∧(scanGo c n).last=(hd c i).1.seq)
 | 0,_=>⟨by simp [scanGo],fun i hi=>by omega,fun i hi=>by omega,.inl rfl⟩
 | n+1,hn=>by
  obtain ⟨h1,h2,h3,h4⟩:=scanGo_inv h hd0 n (by omega)
  have hb:∀ i,i<n+1→((scanGo c n).relook c n).blk i=view c i:=by
   intro i hi
   unfold Pool.relook
   rw [setBlk_blk (by omega),lookAt_view,hd0]
   by_cases e:i=n
   ·rw [if_pos e,e];rfl
   ·rw [if_neg e];exact h2 i (by omega)
  have hl:((scanGo c n).relook c n).blocks.length=c.nb:=by
   show ((scanGo c n).blocks.set n _).length=_
   rw [List.length_set];exact h1
  have hbn:=hb n (by omega)
  rw [scanGo,hbn]
  have hseq:isHd c n→(view c n).head.seq=(hd c n).1.seq:=fun hh=>by rw [view_pos hh]
  have hseq0:¬ isHd c n→(view c n).head.seq=0:=fun hh=>by rw [view_neg hh];rfl
  split
  ·rename_i hc
   have hh:isHd c n:=Classical.byContradiction fun hn'=>by rw [hseq0 hn'] at hc;omega
   refine ⟨hl,hb,fun i hi hi'=>?_,.inr ⟨n,by omega,hh,hseq hh⟩⟩
   show _≤(view c n).head.seq
   rw [hseq hh]
   by_cases e:i=n
   ·rw [e];exact Nat.le_refl _
   ·have:=h3 i (by omega) hi'
    rw [hseq hh] at hc
    omega
  ·rename_i hc
   refine ⟨hl,hb,fun i hi hi'=>?_,?_⟩
   ·show _≤(scanGo c n).last
    by_cases e:i=n
    ·rw [e] at hi' ⊢
     rw [hseq hi'] at hc
     omega
    ·exact h3 i (by omega) hi'
   ·rcases h4 with h4 | ⟨i,a,b,d⟩
    ·exact .inl h4
    ·exact .inr ⟨i,by omega,b,d⟩
theorem scan_inv {c:Chip} (h:CI c) (hd0:c.dead=false):Inv (scanPool c) c∧(∀ m,(∀ i,i<c.nb→isHd c i→(hd c i).1.seq≤m)→(scanPool c).last≤m):=by
 obtain ⟨h1,h2,h3,h4⟩:=scanGo_inv h hd0 c.nb (Nat.le_refl _)
 refine ⟨⟨h,h1,fun _=>h2,h3⟩,fun m hm=>?_⟩
 show (scanGo c c.nb).last≤m
 rcases h4 with h4 | ⟨i,a,b,d⟩
 ·omega
 ·rw [d];exact hm i a b
theorem power_ci {c:Chip} (h:CI c):CI c.power:=⟨⟨h.ok.nb1,h.ok.nb2,h.ok.np1,h.ok.np2,h.ok.sz1,h.ok.sz2,h.ok.bl,h.ok.bl2,h.ok.bad⟩,h.safe,h.uniq⟩
theorem blank_page_safe (n:Nat) (hn:128≤n) (hn2:n≤256):Safe (List.replicate n 255):=by
 refine ⟨pageOf n 1 [],pageOf_sound (by simp;omega) (by omega),?_⟩
 have hl:=pageOf_length n 1 [] (by simp;omega)
 refine ⟨by simp [hl],fun i hi=>?_⟩
 have:(List.replicate n (255:UInt8)).getD i 0=255:=by simp [List.getD,show i<n by omega]
 rw [this]
 intro k hk
 by_cases h8:k<8
 ·exact bit_255 h8
 ·rw [bit_high _ (by omega)] at hk;cases hk
theorem new_ci {nb np sz sp:Nat} (nb1:8≤nb) (nb2:nb≤64) (np1:4≤np) (np2:np≤32) (sz1:128≤sz) (sz2:sz≤256) (c:Chip) (hc:c=⟨nb,np,sz,sp,List.replicate nb (List.replicate (np * sz) 255),List.replicate nb false,[],0,false,0⟩):CI c∧∀ i,i<c.nb→¬ isHd c i:=by
 subst hc
 have hok:Chip.Ok ⟨nb,np,sz,sp,List.replicate nb (List.replicate (np * sz) 255),List.replicate nb false,[],0,false,0⟩:=by
  refine ⟨nb1,nb2,np1,np2,sz1,sz2,by simp,fun b hb=>?_,by simp⟩
  rw [List.eq_of_mem_replicate hb];simp
 have hblk:∀ i,i<nb→Chip.blk ⟨nb,np,sz,sp,List.replicate nb (List.replicate (np * sz) 255),List.replicate nb false,[],0,false,0⟩ i=List.replicate (np * sz) 255:=fun i hi=>by
  simp [Chip.blk,List.getD,hi]
 have hfit:sz≤np * sz:=Nat.le_mul_of_pos_left _ (by omega)
 have hno:∀ i,i<nb→¬ isHd ⟨nb,np,sz,sp,List.replicate nb (List.replicate (np * sz) 255),List.replicate nb false,[],0,false,0⟩ i:=fun i hi=>blank_notHd hok hi (by rw [hblk i hi];exact isBlank_replicate _)
 refine ⟨⟨hok,fun i hi=>?_,fun i j hi _ _ h _=>absurd h (hno i hi)⟩,hno⟩
 rw [page0,hblk i hi]
 show Safe ((List.replicate (np * sz) 255).take sz)
 rw [List.take_replicate,Nat.min_eq_left hfit]
 exact blank_page_safe sz sz1 sz2
theorem program_inv {P:Pool} {c:Chip} (h:Inv P c) {i k:Nat} (hi:i<c.nb) (hk:1≤k) (hkn:k<c.np) (hh:c.dead=false→isHd c i) (b:List UInt8) :
  Inv P (c.program i k b).1∧(c.hits=[]→(c.program i k b).1.hits=[]∧(c.program i k b).1.dead=c.dead):=by
 have hok:=h.ci.ok
 unfold Chip.program
 split
 ·exact ⟨h,fun hq=>⟨hq,rfl⟩⟩
 rename_i hask
 have hask0:c.ask i k=0:=Classical.byContradiction hask
 obtain ⟨hd0,_⟩:=ask_zero hask0
 split
 ·exact ⟨h,fun hq=>⟨hq,rfl⟩⟩
 rename_i hl
 split
 ·exact ⟨h,fun hq=>⟨hq,rfl⟩⟩
 split
 ·exact ⟨h,fun hq=>⟨hq,rfl⟩⟩
 simp only [Int.toNat_natCast]
 have hfit:=page_in hkn
 obtain ⟨hde,hblk,hdd⟩:=done_deed hok hi (off:=k * c.sz) (n:=c.sz) hfit b
 generalize hr:c.done i (k * c.sz) c.sz b=r at *
 have hlen:=hok.blk_len hi
 have hks:c.sz≤k * c.sz:=Nat.le_mul_of_pos_left _ hk
 have hp0:r.1.page i 0=c.page i 0:=by
  rw [page0,page0,hde.geo.2.2.1,hblk]
  unfold madeBlk
  rw [List.append_assoc,List.take_append_of_le_length (by simp;omega),List.take_take,Nat.min_eq_left hks]
 have hhd:hd r.1 i=hd c i:=by unfold hd;rw [hp0]
 have hisd:isHd r.1 i:=by unfold isHd;rw [hhd];exact hh hd0
 have hil:i<P.blocks.length:=by rw [h.len];exact hi
 have hinv:=h.deed hd0 hi hde (by rw [hp0];exact h.ci.safe i hi) (P':=P.relook r.1 i) rfl (Nat.le_refl _) (fun _=>.inl ⟨hh hd0,hhd⟩)
 refine ⟨⟨hinv.ci,by rw [h.len];exact hde.geo.1.symm,fun hdr j hj=>?_,hinv.last⟩,fun hq=>⟨(hde.quiet hq).2,?_⟩⟩
 ·have:=hinv.known hdr j hj
  rw [← this]
  unfold Pool.relook
  rw [setBlk_blk hil]
  split
  ·rename_i e
   subst e
   rw [lookAt_view,hdr,h.known hd0 j hi,view_pos (hh hd0)]
   show _=view r.1 j
   rw [view_pos hisd,hhd]
  ·rfl
 ·rw [hdd,if_neg (by have:=(hde.quiet hq).1;omega)]
theorem sub_len {α:Type}:∀ {l m:List α},l.Nodup→(∀ x∈l,x∈m)→l.length≤m.length
 | [],m,_,_=>by simp
 | x :: l,m,hn,hs=>by
  obtain ⟨s,t,rfl⟩:=List.append_of_mem (hs x (by simp))
  obtain ⟨h1,h2⟩:=List.nodup_cons.1 hn
  have:=sub_len (l:=l) (m:=s ++ t) h2 fun y hy=>by
   have hne:y≠x:=fun e=>h1 (e ▸ hy)
   have:=hs y (by simp [hy])
   simp only [List.mem_append,List.mem_cons] at this ⊢
   rcases this with h | h | h
   ·exact .inl h
   ·exact absurd h hne
   ·exact .inr h
  simp at this ⊢
  omega
theorem now_mem {c:Chip} (h:CI c) (t:Taken):t∈takenPool (scanPool c.power) c.power ↔ IsTaken c c.nb t:=by
 rw [taken_mem (scan_inv (power_ci h) rfl).1 rfl]
 exact Iff.rfl
theorem mul_lt_page {j k sz:Nat} (h:j<k):j * sz+sz≤k * sz:=by
 have:=Nat.mul_le_mul_right sz (show j+1≤k by omega)
 rwa [Nat.succ_mul] at this
theorem page_made {B M:List UInt8} {k j sz:Nat} (hM:M.length=sz) (hB:k * sz+sz≤B.length) :
  ((B.take (k * sz) ++ M ++ B.drop (k * sz+sz)).drop (j * sz)).take sz=if j=k then M else (B.drop (j * sz)).take sz:=by
 apply List.ext_getElem?
 intro x
 rw [List.getElem?_take]
 by_cases hx:x<sz
 ·rw [if_pos hx,List.getElem?_drop]
  have hl:(B.take (k * sz)).length=k * sz:=by simp;omega
  rcases Nat.lt_trichotomy j k with h | h | h
  ·have:=mul_lt_page (sz:=sz) h
   rw [if_neg (by omega),List.getElem?_append_left (by simp;omega),List.getElem?_append_left (by omega),List.getElem?_take,if_pos (by omega),List.getElem?_take,if_pos hx,List.getElem?_drop]
  ·subst h
   rw [if_pos rfl,List.getElem?_append_left (by simp;omega),List.getElem?_append_right (by omega),hl]
   congr 1
   omega
  ·have:=mul_lt_page (sz:=sz) h
   rw [if_neg (by omega),List.getElem?_append_right (by simp;omega),List.getElem?_drop,List.getElem?_take,if_pos hx,List.getElem?_drop]
   congr 1
   simp
   omega
 ·rw [if_neg hx]
  split
  ·rw [List.getElem?_eq_none (by omega)]
  ·rw [List.getElem?_take,if_neg hx]
def OpenFrom (c:Chip) (i k:Nat):Prop:=isBlank ((c.blk i).drop (k * c.sz))=true
theorem OpenFrom.mono {c:Chip} {i k m:Nat} (h:OpenFrom c i k) (hkm:k≤m):OpenFrom c i m:=by
 unfold OpenFrom isBlank at *
 obtain ⟨d,rfl⟩:=Nat.exists_eq_add_of_le hkm
 rw [Nat.add_mul,← List.drop_drop]
 rw [List.all_eq_true] at h ⊢
 exact fun x hx=>h x (List.mem_of_mem_drop hx)
theorem OpenFrom.page {c:Chip} (ho:c.Ok) {i k m:Nat} (hi:i<c.nb) (h:OpenFrom c i k) (hkm:k≤m) (hm:m<c.np):c.page i m=List.replicate c.sz 255:=by
 have h':=h.mono hkm
 have hlen:=ho.blk_len hi
 have hp:=page_in hm
 unfold OpenFrom at h'
 have:=isBlank_eq h'
 unfold Chip.page
 rw [this,List.take_replicate,List.length_drop,hlen]
 congr 1
 omega
theorem OpenFrom.blk {c c':Chip} (hg:c.SameGeo c') {i k:Nat} (h:OpenFrom c i k) (hb:c'.blk i=c.blk i):OpenFrom c' i k:=by
 unfold OpenFrom at *
 rw [hb,hg.2.2.1];exact h
theorem page_blk {c c':Chip} (hg:c.SameGeo c') {i k:Nat} (hb:c'.blk i=c.blk i):c'.page i k=c.page i k:=by
 unfold Chip.page
 rw [hb,hg.2.2.1]
theorem OpenFrom.of_blank {c:Chip} {i k:Nat} (h:isBlank (c.blk i)=true):OpenFrom c i k:=by
 have:OpenFrom c i 0:=by unfold OpenFrom;simpa using h
 exact this.mono (Nat.zero_le _)
structure Wrote (c c':Chip) (i k e:Nat) (pg:List UInt8):Prop where
 deed:Deed c c' i e
 dead:c'.dead=if e=10 then true else c.dead
 sub:SubL pg (c'.page i k)
 ok:e=0→c'.page i k=pg
 other:∀ j,j≠k→c'.page i j=c.page i j
 open_:OpenFrom c' i (k+1)
 hits:c'.hits.length≤c.hits.length
 less:e≠0→c'.hits.length<c.hits.length
theorem strike_hits (c:Chip):c.strike.1.hits.length≤c.hits.length∧(c.strike.2≠none→c.strike.1.hits.length<c.hits.length):=by
 unfold Chip.strike
 split
 ·simp
 ·rename_i h r he
  split
  ·simp
  ·simp [he]
theorem finish_hits (c:Chip) (b:Nat) (h:Option Hit):(c.finish b h).1.hits=c.hits∧((c.finish b h).2≠0→h≠none):=by
 unfold Chip.finish
 split
 ·simp
 ·split<;>simp
theorem done_hits (c:Chip) (b off n:Nat) (new:List UInt8):(c.done b off n new).1.hits.length≤c.hits.length∧((c.done b off n new).2≠0→(c.done b off n new).1.hits.length<c.hits.length):=by
 unfold Chip.done
 obtain ⟨h1,h2⟩:=strike_hits c
 obtain ⟨f1,f2⟩:=finish_hits (c.strike.1.setBlk b ((c.blk b).take off ++ mixL c.strike.2 (((c.blk b).drop off).take n) new ++ (c.blk b).drop (off+n))) b c.strike.2
 rw [f1]
 exact ⟨h1,fun h=>h2 (f2 h)⟩
theorem program_done {c:Chip} (hd0:c.dead=false) {i k:Nat} (hi:i<c.nb) (hk:k<c.np) (hb:c.isBad i=false) (hop:OpenFrom c i k) {pg:List UInt8} (hl:pg.length=c.sz):c.program i k pg=c.done i (k * c.sz) c.sz pg:=by
 have ha:c.ask i k=0:=ask_ok hd0 hi hk
 unfold OpenFrom at hop
 unfold Chip.program
 rw [if_neg (by omega),if_neg (by omega)]
 simp only [Int.toNat_natCast]
 rw [if_neg (by rw [hb];simp),if_neg (by rw [hop];simp)]
theorem program_wrote {c:Chip} (hok:c.Ok) (hd0:c.dead=false) {i k:Nat} (hi:i<c.nb) (hk:k<c.np) (hb:c.isBad i=false) (hop:OpenFrom c i k) {pg:List UInt8} (hl:pg.length=c.sz) :
  Wrote c (c.program i k pg).1 i k (c.program i k pg).2 pg:=by
 rw [program_done hd0 hi hk hb hop hl]
 obtain ⟨hde,hblk,hdd⟩:=done_deed hok hi (off:=k * c.sz) (n:=c.sz) (page_in hk) pg
 have hz:=@done_zero c i (k * c.sz) c.sz pg
 obtain ⟨hh1,hh2⟩:=done_hits c i (k * c.sz) c.sz pg
 generalize hr:c.done i (k * c.sz) c.sz pg=r at *
 have hlen:=hok.blk_len hi
 have hin:=page_in hk
 have hpo:=hop.page hok hi (Nat.le_refl _) hk
 have hold:((c.blk i).drop (k * c.sz)).take c.sz=List.replicate c.sz 255:=hpo
 have hml:(mixL c.strike.2 (List.replicate c.sz 255) pg).length=c.sz:=by simp [mixL_length]
 have hb':r.1.blk i=(c.blk i).take (k * c.sz) ++ mixL c.strike.2 (List.replicate c.sz 255) pg ++ (c.blk i).drop (k * c.sz+c.sz):=by
  rw [hblk]
  unfold madeBlk
  rw [hold]
 have hpg:∀ j,r.1.page i j=if j=k then mixL c.strike.2 (List.replicate c.sz 255) pg else c.page i j:=by
  intro j
  show ((r.1.blk i).drop (j * r.1.sz)).take r.1.sz=_
  rw [hde.geo.2.2.1,hb',page_made hml (by omega)]
  rfl
 refine ⟨hde,hdd,?_,fun h0=>?_,fun j hj=>by rw [hpg,if_neg hj],?_,hh1,hh2⟩
 ·rw [hpg,if_pos rfl];exact mixL_write _ _ _ hl
 ·rw [hpg,if_pos rfl,hz h0,mixL_none _ _ (by simp [hl])]
 ·unfold OpenFrom
  rw [hde.geo.2.2.1,hb',Nat.succ_mul,List.drop_append_of_le_length (by simp;omega),List.drop_of_length_le (by simp;omega),List.nil_append]
  have:=hop.mono (Nat.le_succ k)
  unfold OpenFrom at this
  rwa [Nat.succ_mul] at this
theorem write_open {P:Pool} {c:Chip} (hok:c.Ok) (hd0:c.dead=false) {i:Nat} (hi:i<c.nb) (hb:c.isBad i=false) (hbl:isBlank (c.blk i)=true) (kind:UInt8) (era:Nat) (hp:(putHead c.sz ⟨kind,era,P.raise.last⟩).1.length=c.sz) :
  OpenFrom (writeHead P c i kind era).2.1 i 1∧(writeHead P c i kind era).2.1.hits.length≤c.hits.length:=by
 have hnp:=hok.np1
 have w:=program_wrote hok hd0 hi (k:=0) (by omega) hb (OpenFrom.of_blank hbl) hp
 exact ⟨w.open_,w.hits⟩
theorem putHead_len {c:Chip} (hok:c.Ok) {P:Pool} {kind:UInt8} {era:Nat} (hk1:1≤kind.toNat) (hk3:kind.toNat≤3) (he1:1≤era) (hl:P.last+1<18446744073709551616):(putHead c.sz ⟨kind,era,P.raise.last⟩).1.length=c.sz:=by
 have hlast:P.raise.last=P.last+1:=Nat.mod_eq_of_lt hl
 have hsz:isSize (c.sz:Int)=true:=by
  have:=hok.sz1
  have:=hok.sz2
  simp [isSize];omega
 have hm:(Head.mk kind era (P.last+1)).may=true:=by
  simp [Head.may];omega
 have hput:putHead c.sz ⟨kind,era,P.raise.last⟩= (pageOf c.sz 1 (Head.mk kind era (P.last+1)).body,0):=by
  unfold putHead
  rw [hlast,if_neg (by rw [hm,hsz];simp)]
  simp
 have hbody:=(Head.mk kind era (P.last+1)).body_length
 rw [hput]
 exact pageOf_length _ _ _ (by have:=hok.sz1;omega)
theorem erase_hits {c:Chip} (hok:c.Ok) (hd0:c.dead=false) {i:Nat} (hi:i<c.nb) (hb:c.isBad i=false):(c.erase i).1.hits.length≤c.hits.length:=by
 rw [erase_done hok hd0 hi hb]
 exact (done_hits _ _ _ _ _).1
theorem try_open {P:Pool} {c:Chip} (h:Inv P c) (hd0:c.dead=false) {i:Nat} (hi:i<c.nb) (hb:c.isBad i=false) (hw:(P.blk i).what≠2) {kind:UInt8} {era:Nat} (hk1:1≤kind.toNat) (hk3:kind.toNat≤3) (he1:1≤era) (hl:P.last+1<18446744073709551616) :
  (isHd (tryBlk P c i kind era).2.1 i→OpenFrom (tryBlk P c i kind era).2.1 i 1)∧(tryBlk P c i kind era).2.1.hits.length≤c.hits.length:=by
 have hkn:=h.known hd0 i hi
 have hnh:¬ isHd c i:=fun e=>hw ((h.what hd0 hi).2 e)
 unfold tryBlk
 split
 ·rename_i h1
  obtain ⟨hde,hinv,hz,hk⟩:=erase_inv h hd0 hi hb
  have hhe:=erase_hits h.ci.ok hd0 hi hb
  split
  ·rename_i hne
   exact ⟨fun e=>absurd (hk e).1 hnh,hhe⟩
  ·rename_i heq
   have h0:(c.erase i).2=0:=Classical.byContradiction heq
   have hdd:(c.erase i).1.dead=c.dead∧(c.erase i).1.bad=c.bad:=by
    rcases hde.cases with ⟨_,a,b⟩| ⟨a,_⟩| ⟨a,_⟩
    ·exact ⟨a,b⟩
    ·omega
    ·omega
   have hnb:=hde.geo.1
   have hsz:=hde.geo.2.2.1
   have hh:=putHead_len (c:=(c.erase i).1) (P:=P.relook (c.erase i).1 i) (kind:=kind) (era:=era) hde.ok hk1 hk3 he1 hl
   obtain ⟨w1,w2⟩:=write_open (P:=P.relook (c.erase i).1 i) hde.ok (by rw [hdd.1];exact hd0) (by rw [hnb];exact hi) (by unfold Chip.isBad;rw [hdd.2];exact hb) (by rw [hz h0];exact isBlank_replicate _) kind era hh
   exact ⟨fun _=>w1,Nat.le_trans w2 hhe⟩
 ·rename_i h1
  have hbk:isBlank (c.blk i)=true:=by
   rw [hkn] at h1 hw
   exact view_zero (view_one hw h1)
  obtain ⟨w1,w2⟩:=write_open (P:=P) h.ci.ok hd0 hi hb hbk kind era (putHead_len h.ci.ok hk1 hk3 he1 hl)
  exact ⟨fun _=>w1,w2⟩
theorem takeGo_open {kind:UInt8} {era:Nat} (hk1:1≤kind.toNat) (hk3:kind.toNat≤3) (he1:1≤era) (he2:era<4294967296):∀ (ks:List Nat) {P:Pool} {c:Chip},Inv P c→c.dead=false→P.last+ks.length<18446744073709551616→
  (∀ j,j<c.nb→¬ isHd c j→isHd (takeGo kind era P c ks).chip j→OpenFrom (takeGo kind era P c ks).chip j 1)∧(takeGo kind era P c ks).chip.hits.length≤c.hits.length
 | [],P,c,h,hd0,hl=>⟨fun j _ hn hh=>absurd hh hn,Nat.le_refl _⟩
 | k :: ks,P,c,h,hd0,hl=>by
  have hnb:=h.ci.ok.nb1
  have hmod:(P.turn+k) % c.nb<c.nb:=Nat.mod_lt _ (by omega)
  simp only [List.length_cons] at hl
  unfold takeGo
  split
  ·exact takeGo_open hk1 hk3 he1 he2 ks h hd0 (by omega)
  ·rename_i hno
   have hb:c.isBad ((P.turn+k) % c.nb)=false:=by
    cases hbb:c.isBad ((P.turn+k) % c.nb) with
    | false=>rfl
    | true=>exact absurd (.inl hbb) hno
   have hw:(P.blk ((P.turn+k) % c.nb)).what≠2:=fun e=>hno (.inr e)
   obtain ⟨o1,o2⟩:=try_open h hd0 hmod hb hw hk1 hk3 he1 (by omega)
   have tr:=try_inv h hd0 hmod hb hw hk1 hk3 he1 he2 (by omega)
   generalize hi:(P.turn+k) % c.nb=i at *
   generalize hT:tryBlk P c i kind era=T at *
   have one:∀ j,j<c.nb→¬ isHd c j→isHd T.2.1 j→OpenFrom T.2.1 j 1:=by
    intro j hj hn hh
    by_cases e:j=i
    ·subst e;exact o1 hh
    ·exact absurd ((isHd_blk tr.deed.geo (tr.deed.blk j e)).1 hh) hn
   split
   ·exact ⟨one,o2⟩
   split
   ·exact ⟨one,o2⟩
   ·rename_i h0 h10
    have hd1:T.2.1.dead=false:=by
     rcases tr.deed.cases with ⟨_,a,_⟩| ⟨_,a,_⟩| ⟨a,_⟩
     ·rw [a];exact hd0
     ·rw [a];exact hd0
     ·exact absurd a h10
    have hhi:=tr.hi
    obtain ⟨r1,r2⟩:=takeGo_open hk1 hk3 he1 he2 ks tr.inv hd1 (by omega)
    have tp:=takeGo_inv hk1 hk3 he1 he2 ks tr.inv hd1 (by omega)
    refine ⟨fun j hj hn hh=>?_,Nat.le_trans r2 o2⟩
    have hj1:j<T.2.1.nb:=by rw [tr.deed.geo.1];exact hj
    by_cases hh1:isHd T.2.1 j
    ·exact (one j hj hn hh1).blk tp.geo (tp.kept j hj1 hh1).1
    ·exact r1 j hj1 hh1 hh
end Go.Den
namespace Go.Den
structure Turn where
 from_:UInt8
 to:UInt8
 phase:UInt8
 deriving DecidableEq
namespace Turn
def zero:Turn:=⟨0,0,0⟩
def body (t:Turn):List UInt8:=[t.from_,t.to,t.phase]
def vals (t:Turn):List Value:=[bv t.from_,bv t.to,bv t.phase]
def may (t:Turn):Bool:=((t.from_ == 1 && t.to == 2) || (t.from_ == 2 && t.to == 1)) && (t.phase == 1 || t.phase == 2)
end Turn
structure Saying where
 begun:Bool
 done:Bool
 turn:Turn
def Saying.zero:Saying:=⟨false,false,Turn.zero⟩
structure Saying.Le (s s':Saying):Prop where
 begun:s.begun=true→s'.begun=true∧s'.turn=s.turn
 done:s.done=true→s'.done=true
 zero:s.turn.phase=0→s'.turn.phase=0
theorem Saying.Le.trans {a b c:Saying} (h:a.Le b) (k:b.Le c):a.Le c :=
 ⟨fun e=>⟨(k.begun (h.begun e).1).1,((k.begun (h.begun e).1).2).trans (h.begun e).2⟩,fun e=>k.done (h.done e),fun e=>k.zero (h.zero e)⟩
end Go.Den
namespace Go.Den
theorem write_new {P:Pool} {c:Chip} (hok:c.Ok) (hd0:c.dead=false) {i:Nat} (hi:i<c.nb) (hb:c.isBad i=false) (hbl:isBlank (c.blk i)=true) {kind:UInt8} {era:Nat} (hk1:1≤kind.toNat) (hk3:kind.toNat≤3) (he1:1≤era) (he2:era<4294967296) (hl:P.last+1<18446744073709551616)
  (hh:isHd (writeHead P c i kind era).2.1 i):(hd (writeHead P c i kind era).2.1 i).1=⟨kind,era,P.last+1⟩:=by
 have hnp:=hok.np1
 have hlast:P.raise.last=P.last+1:=Nat.mod_eq_of_lt hl
 have hsz:isSize (c.sz:Int)=true:=by
  have:=hok.sz1
  have:=hok.sz2
  simp [isSize];omega
 have hm:(Head.mk kind era (P.last+1)).may=true:=by
  simp [Head.may];omega
 have hput:putHead c.sz ⟨kind,era,P.raise.last⟩= (pageOf c.sz 1 (Head.mk kind era (P.last+1)).body,0):=by
  unfold putHead
  rw [hlast,if_neg (by rw [hm,hsz];simp)]
  simp
 have hbody:=(Head.mk kind era (P.last+1)).body_length
 have w:=program_wrote hok hd0 hi (k:=0) (by omega) hb (OpenFrom.of_blank hbl) (putHead_len hok (P:=P) hk1 hk3 he1 hl)
 have e:(writeHead P c i kind era).2.1=(c.program i ((0:Nat):Int) (putHead c.sz ⟨kind,era,P.raise.last⟩).1).1:=rfl
 rw [e] at hh ⊢
 have hsub:=w.sub
 rw [hput] at hsub hh ⊢
 have hsound:Sound (pageOf c.sz 1 (Head.mk kind era (P.last+1)).body):=pageOf_sound (by have:=hok.sz1;omega) (by have:=hok.sz2;omega)
 have e2:=berger hsub hsound (getHead_sound hh)
 have hhd:=getHead_pageOf hsz ⟨he2,hl⟩ hm
 show (getHead _).1=_
 rw [e2,show (pageOf c.sz 1 (Head.mk kind era (P.last+1)).body)=pageOf (c.sz:Int).toNat 1 (Head.mk kind era (P.last+1)).body from rfl]
 exact congrArg Prod.fst hhd
theorem try_new {P:Pool} {c:Chip} (h:Inv P c) (hd0:c.dead=false) {i:Nat} (hi:i<c.nb) (hb:c.isBad i=false) (hw:(P.blk i).what≠2) {kind:UInt8} {era:Nat} (hk1:1≤kind.toNat) (hk3:kind.toNat≤3) (he1:1≤era) (he2:era<4294967296) (hl:P.last+1<18446744073709551616)
  (hh:isHd (tryBlk P c i kind era).2.1 i):(hd (tryBlk P c i kind era).2.1 i).1=⟨kind,era,P.last+1⟩:=by
 have hkn:=h.known hd0 i hi
 have hnh:¬ isHd c i:=fun e=>hw ((h.what hd0 hi).2 e)
 revert hh
 unfold tryBlk
 split
 ·rename_i h1
  obtain ⟨hde,hinv,hz,hk⟩:=erase_inv h hd0 hi hb
  split
  ·rename_i hne
   exact fun e=>absurd (hk e).1 hnh
  ·rename_i heq
   have h0:(c.erase i).2=0:=Classical.byContradiction heq
   have hdd:(c.erase i).1.dead=c.dead∧(c.erase i).1.bad=c.bad:=by
    rcases hde.cases with ⟨_,a,b⟩| ⟨a,_⟩| ⟨a,_⟩
    ·exact ⟨a,b⟩
    ·omega
    ·omega
   have hnb:=hde.geo.1
   exact write_new (P:=P.relook (c.erase i).1 i) hde.ok (by rw [hdd.1];exact hd0) (by rw [hnb];exact hi) (by unfold Chip.isBad;rw [hdd.2];exact hb) (by rw [hz h0];exact isBlank_replicate _) hk1 hk3 he1 he2 hl
 ·rename_i h1
  have hbk:isBlank (c.blk i)=true:=by
   rw [hkn] at h1 hw
   exact view_zero (view_one hw h1)
  exact write_new h.ci.ok hd0 hi hb hbk hk1 hk3 he1 he2 hl
theorem takeGo_new {kind:UInt8} {era:Nat} (hk1:1≤kind.toNat) (hk3:kind.toNat≤3) (he1:1≤era) (he2:era<4294967296):∀ (ks:List Nat) {P:Pool} {c:Chip},Inv P c→c.dead=false→P.last+ks.length<18446744073709551616→
  ∀ j,j<c.nb→¬ isHd c j→isHd (takeGo kind era P c ks).chip j→(hd (takeGo kind era P c ks).chip j).1.kind=kind∧(hd (takeGo kind era P c ks).chip j).1.era=era∧P.last<(hd (takeGo kind era P c ks).chip j).1.seq
 | [],P,c,h,hd0,hl=>fun j _ hn hh=>absurd hh hn
 | k :: ks,P,c,h,hd0,hl=>by
  have hnb:=h.ci.ok.nb1
  have hmod:(P.turn+k) % c.nb<c.nb:=Nat.mod_lt _ (by omega)
  simp only [List.length_cons] at hl
  unfold takeGo
  split
  ·exact takeGo_new hk1 hk3 he1 he2 ks h hd0 (by omega)
  ·rename_i hno
   have hb:c.isBad ((P.turn+k) % c.nb)=false:=by
    cases hbb:c.isBad ((P.turn+k) % c.nb) with
    | false=>rfl
    | true=>exact absurd (.inl hbb) hno
   have hw:(P.blk ((P.turn+k) % c.nb)).what≠2:=fun e=>hno (.inr e)
   have o1:=try_new h hd0 hmod hb hw hk1 hk3 he1 he2 (by omega)
   have tr:=try_inv h hd0 hmod hb hw hk1 hk3 he1 he2 (by omega)
   generalize hi:(P.turn+k) % c.nb=i at *
   generalize hT:tryBlk P c i kind era=T at *
   have one:∀ j,j<c.nb→¬ isHd c j→isHd T.2.1 j→(hd T.2.1 j).1.kind=kind∧(hd T.2.1 j).1.era=era∧P.last<(hd T.2.1 j).1.seq:=by
    intro j hj hn hh
    by_cases e:j=i
    ·subst e
     rw [o1 hh]
     exact ⟨rfl,rfl,Nat.lt_succ_self _⟩
    ·exact absurd ((isHd_blk tr.deed.geo (tr.deed.blk j e)).1 hh) hn
   split
   ·exact one
   split
   ·exact one
   ·rename_i h0 h10
    have hd1:T.2.1.dead=false:=by
     rcases tr.deed.cases with ⟨_,a,_⟩| ⟨_,a,_⟩| ⟨a,_⟩
     ·rw [a];exact hd0
     ·rw [a];exact hd0
     ·exact absurd a h10
    have hhi:=tr.hi
    have hlo:=tr.lo
    have r1:=takeGo_new hk1 hk3 he1 he2 ks tr.inv hd1 (by omega)
    have tp:=takeGo_inv hk1 hk3 he1 he2 ks tr.inv hd1 (by omega)
    intro j hj hn hh
    have hj1:j<T.2.1.nb:=by rw [tr.deed.geo.1];exact hj
    by_cases hh1:isHd T.2.1 j
    ·have e:=hd_blk tp.geo (tp.kept j hj1 hh1).1
     rw [e]
     exact one j hj hn hh1
    ·obtain ⟨a,b,d⟩:=r1 j hj1 hh1 hh
     exact ⟨a,b,by omega⟩
theorem free_hits {P:Pool} {c:Chip} (h:Inv P c) (hd0:c.dead=false) (i:Int):(freePool P c i).2.1.hits.length≤c.hits.length:=by
 by_cases hm:Mine c i
 ·unfold freePool
  split
  ·exact Nat.le_refl _
  ·have e:i=(i.toNat:Int):=by have:=hm.1;omega
   rw [e]
   exact erase_hits h.ci.ok hd0 (by have:=hm.2.1;omega) hm.2.2.2
 ·rw [free_not h hd0 hm]
  exact Nat.le_refl _
theorem cGeo {F:Nat→Prop} {A:Nat} {w:World} {p:Nat} {c:Chip} (h:CIn F A w p c) :
  CallsR prog K.nand_Chip_Geo #[.pointer (some ⟨p,0,none⟩)] w fun v w'=>v= .agg #[.int .i64 c.nb,.int .i64 c.np,.int .i64 c.sz,.int .i64 c.sp]∧Ext w w':=by
 obtain ⟨L,G,hr,_⟩:=h
 exact nand_Geo_spec hr
theorem cReadAt {F:Nat→Prop} {A:Nat} {w:World} {p:Nat} {c:Chip} (h:CIn F A w p c) (block page:Int) :
  CallsR prog K.nand_Chip_Read #[.pointer (some ⟨p,0,none⟩),.int .i64 block,.int .i64 page] w fun v w'=>Ext w w'∧
   if c.ask block page=0 then ∃ a cp,v= .tuple #[.slice a c.sz cp,.int .i64 0]∧BytesAt w' a (c.page block.toNat page.toNat)∧c.sz≤cp∧Fresh w a
   else v= .tuple #[.slice none 0 0,.int .i64 (c.ask block page:Nat)]:=by
 obtain ⟨L,G,hr,_⟩:=h
 exact nand_Read_spec hr block page
theorem cPage {F:Nat→Prop} {A:Nat} {w:World} {p:Nat} {c:Chip} (h:CIn F A w p c) (hd0:c.dead=false) {i k:Nat} (hi:i<c.nb) (hk:k<c.np) :
  CallsR prog K.nand_Chip_Read #[.pointer (some ⟨p,0,none⟩),.int .i64 i,.int .i64 k] w fun v w'=>Ext w w'∧∃ a cp,v= .tuple #[.slice a (c.page i k).length cp,.int .i64 0]∧BytesAt w' a (c.page i k)∧(c.page i k).length≤cp∧Fresh w a:=by
 refine (cReadAt h i k).mono ?_
 rintro v w' ⟨he,hv⟩
 rw [if_pos (ask_ok hd0 hi hk)] at hv
 obtain ⟨a,cp,rfl,hb,hc,hf⟩:=hv
 simp only [Int.toNat_natCast] at hb
 rw [← page_len h.ok hi hk]
 exact ⟨he,a,cp,rfl,hb,by rw [page_len h.ok hi hk];exact hc,hf⟩
structure PageSay where
 page:Int
 changes:List Change
 drop:Nat
def u64R:ERep Nat:=flatR (fun x=>[.int .u64 (x:Nat)]) 1 (by decide) (fun _=>rfl) (fun b v hv=>by simp at hv;rw [hv];rfl)
def pageR:ERep PageSay:=ERep.pair intR (ERep.pair (sliceR changeR) u64R (fun x:List Change×Nat=>x.1) (fun x=>x.2)) (fun x:PageSay=>x.page) (fun x=>(x.changes,x.drop))
abbrev pageVs (n:Int) (a:Option Addr) (l c:Nat) (d:Nat):List Value:=[.int .i64 n,.slice a l c,.int .u64 d]
theorem pageR_intro {w:World} {G:Nat→Prop} {x:PageSay} {a:Option Addr} {c:Nat} (hc:x.changes.length≤c) (h:SliceAt changeR w G a x.changes):pageR.R w G (pageVs x.page a x.changes.length c x.drop) x :=
 ⟨[.int .i64 x.page],[.slice a x.changes.length c,.int .u64 (x.drop:Nat)],rfl,rfl,[.slice a x.changes.length c],[.int .u64 (x.drop:Nat)],rfl,⟨a,c,rfl,hc,h⟩,rfl⟩
theorem pageR_elim {w:World} {G:Nat→Prop} {x:PageSay} {vs:List Value} (h:pageR.R w G vs x):∃ a c,vs=pageVs x.page a x.changes.length c x.drop∧x.changes.length≤c∧SliceAt changeR w G a x.changes:=by
 obtain ⟨u,v,rfl,hu,s,t,rfl,⟨a,c,hs,hc,hb⟩,ht⟩:=h
 have hu':u=[.int .i64 x.page]:=hu
 have ht':t=[.int .u64 (x.drop:Nat)]:=ht
 have hs':s=[.slice a x.changes.length c]:=hs
 subst hu';subst ht';subst hs'
 exact ⟨a,c,rfl,hc,hb⟩
def pageS (n:Int) (b:List UInt8):Option PageSay :=
 if (getPage b).2.2≠0 then none
 else if (getPage b).1=2 then (if (getS (getPage b).2.1).2=0 then some ⟨n,(getS (getPage b).2.1).1,0⟩ else none)
 else if (getPage b).1=3 then (if (dropS (getPage b).2.1).2=0 then some ⟨n,[],(dropS (getPage b).2.1).1⟩ else none)
 else none
theorem getPage_len (b:List UInt8):(getPage b).2.1.length≤b.length:=by
 unfold getPage
 repeat' split
 all_goals simp
 all_goals omega
theorem pg_out {u:World} {B1 B2:Nat} {cs:Array Value} {n:Int} {a:Option Addr} {l c:Nat} {d:Nat} {b:Bool} {R:Value→World→Prop} (g1:u.heap[B1]?=some (.cells cs T.api_Page (0,0))) (hcs:cs.size=3) (g2:u.heap[B2]?=some (.cells (pageVs n a l c d).toArray T.api_Page (0,0)))
  (hR:∀ u',Upd (·=B1) u u'→R (.tuple #[.agg #[.int .i64 n,.slice a l c,.int .u64 d],.bool b]) u') :
  ∃ x:Int,∃ (a':Option Addr) (n' c':Nat),∃ y:Int,cellsAt u ⟨B2,0,none⟩ [.int .i64 x,.slice a' n' c',.int .u64 y] 0∧storeP u ⟨B1,0,none⟩ [.int .i64 x,.slice a' n' c',.int .u64 y] fun w' =>
   ∃ x:Int,∃ (a':Option Addr) (n' c':Nat),∃ y:Int,cellsAt w' ⟨B1,0,none⟩ [.int .i64 x,.slice a' n' c',.int .u64 y] 0∧R (.tuple #[.agg #[.int .i64 x,.slice a' n' c',.int .u64 y],.bool b]) w' :=
 ⟨_,_,_,_,_,cells_all g2,put_all g1 (by rw [hcs];rfl) fun w' hu _ hg=>⟨_,_,_,_,_,cells_all hg,hR w' hu⟩⟩
def PageOut (w w':World) (v:Value) (o:Option PageSay):Prop:=Ext w w'∧∃ (m:Int) (a:Option Addr) (l c d:Nat) (b:Bool),v= .tuple #[.agg #[.int .i64 m,.slice a l c,.int .u64 d],.bool b]∧b=o.isSome∧
 ∀ P,o=some P→m=P.page∧d=P.drop∧l=P.changes.length∧l≤c∧∃ G,SliceAt changeR w' G a P.changes∧∀ x,G x→w.heap.size≤x∧x<w'.heap.size
theorem PageOut.none {w w':World} {o:Option PageSay} (ho:o= .none) (h:Ext w w') {m:Int} {a:Option Addr} {l c d:Nat} {b:Bool} (hb:b=false):PageOut w w' (.tuple #[.agg #[.int .i64 m,.slice a l c,.int .u64 d],.bool b]) o:=by
 subst ho
 exact ⟨h,m,a,l,c,d,b,rfl,hb,fun P hP=>by cases hP⟩
theorem scan_page_spec {w:World} {n:Int} {a:Option Addr} {b:List UInt8} {c:Nat} (hb:BytesAt w a b) (hc:b.length≤c) (hn:b.length≤100000) :
  CallsR prog K.scan_page #[.int .i64 n,.slice a b.length c] w fun v w'=>PageOut w w' v (pageS n b):=by
 apply scan_page.sh
 suffices H:∀ R:Value→World→Prop,(∀ v w',PageOut w w' v (pageS n b)→R v w')→scan_page.body n a b.length c w R from H _ fun _ _ h=>h
 intro R hR
 unfold scan_page.body
 simp only [add_lit,Nat.zero_add]
 intro B1 w₁ hn1
 have hb1:B1=w.heap.size:=hn1.num
 have hs1:=hn1.size
 refine (seal_Get_spec (hb.ext hn1.upd) hc).mono ?_
 rintro _ w₂ ⟨he2,a2,c2,rfl,hb2,hc2⟩
 have hs2:=he2.size
 have hlen:=getPage_len b
 have g2:=Ext.get he2 hn1.get
 have hS:pageS n b=pageS n b:=rfl
 conv at hS=>rhs;unfold pageS
 refine ⟨_,_,_,_,_,rfl,new_put (vs:=pageVs n none 0 0 0) rfl fun B2 w₄ hb4 hs4 he4 g4=>?_⟩
 have e4:Ext w w₄:=(hn1.upd.trans he2).trans he4
 have g14:=Ext.get he4 g2
 have own:∀ {u u':World},Ext w u→Upd (·=B1) u u'→Ext w u':=fun h k=>h.beyond k fun x hx=>by omega
 refine br_ne (fun hne=>?_) fun he=>?_
 ·rw [if_pos (by omega)] at hS
  exact pg_out g14 rfl g4 fun u' hu=>hR _ _ (PageOut.none hS (own e4 hu) (by simpa using hne))
 rw [if_neg (by omega)] at hS
 refine br_eq (fun h2=>?_) fun h2=>?_
 ·have k2:(getPage b).1=2:=UInt8.toNat_inj.1 (by have:((getPage b).1.toNat:Int)=2:=h2;show (getPage b).1.toNat=2;omega)
  rw [if_pos k2] at hS
  refine (rec_Get_spec (hb2.ext he4) (by omega)).mono ?_
  rintro _ w₆ ⟨a6,c6,rfl,hl6,he6⟩
  have hs6:=he6.size
  refine ⟨_,_,_,_,rfl,store_of (Ext.get he6 g4) (by simp) fun w₇ hp7=>?_⟩
  have hu7:=hp7.upd1
  have e7:Ext w w₇:=(e4.trans he6).beyond hu7 fun x hx=>by omega
  refine pg_out (hu7.get (Ext.get he6 g14) (by omega)) rfl hp7.get fun u' hu=>hR _ _ ?_
  by_cases hz:(getS (getPage b).2.1).2=0
  ·rw [if_pos hz] at hS
   refine ⟨own e7 hu,_,_,_,_,_,_,rfl,by rw [hS,hz];rfl,fun P hP=>?_⟩
   rw [hS] at hP
   cases hP
   refine ⟨rfl,rfl,rfl,hl6.cap,?_⟩
   have hlu:=(hl6.upd hu7 fun x hx=>⟨by omega,fun h=>h⟩).upd hu fun x hx=>⟨by omega,fun h=>h⟩
   obtain ⟨G,h1,h2⟩:=hlu.slice
   exact ⟨G,h1,fun x hx=>⟨by have h5:=(h2 x hx).1;have h6:=e4.size;rcases h5 with h | h;exact Nat.le_trans h6 h;exact h.elim,(h2 x hx).2⟩⟩
  ·rw [if_neg hz] at hS
   exact PageOut.none hS (own e7 hu) (by simpa using hz)
 have k2:¬ (getPage b).1=2:=fun h=>h2 (by show ((getPage b).1.toNat:Int)=2;rw [h];rfl)
 rw [if_neg k2] at hS
 refine br_eq (fun h3=>?_) fun h3=>?_
 ·have k3:(getPage b).1=3:=UInt8.toNat_inj.1 (by have:((getPage b).1.toNat:Int)=3:=h3;show (getPage b).1.toNat=3;omega)
  rw [if_pos k3] at hS
  refine (rec_GetDrop_spec (hb2.ext he4) (by omega)).mono ?_
  rintro _ w₆ ⟨rfl,he6⟩
  have hs6:=he6.size
  refine ⟨_,_,rfl,store_of (Ext.get he6 g4) (by simp) fun w₇ hp7=>?_⟩
  have hu7:=hp7.upd1
  have e7:Ext w w₇:=(e4.trans he6).beyond hu7 fun x hx=>by omega
  refine pg_out (d:=(dropS (getPage b).2.1).1) (hu7.get (Ext.get he6 g14) (by omega)) rfl hp7.get fun u' hu=>hR _ _ ?_
  by_cases hz:(dropS (getPage b).2.1).2=0
  ·rw [if_pos hz] at hS
   refine ⟨own e7 hu,_,_,_,_,_,_,rfl,by rw [hS,hz];rfl,fun P hP=>?_⟩
   rw [hS] at hP
   cases hP
   exact ⟨rfl,rfl,rfl,Nat.le_refl _,NoB,SliceAt.nil _ _ _,fun _ h=>h.elim⟩
  ·rw [if_neg hz] at hS
   exact PageOut.none hS (own e7 hu) (by simpa using hz)
 ·have k3:¬ (getPage b).1=3:=fun h=>h3 (by show ((getPage b).1.toNat:Int)=3;rw [h];rfl)
  rw [if_neg k3] at hS
  exact pg_out g14 rfl g4 fun u' hu=>hR _ _ (PageOut.none hS (own e4 hu) rfl)
def pagesTo (c:Chip) (i k:Nat):List PageSay:=(List.range k).filterMap fun k:Nat=>if k=0 then none else pageS k (c.page i k)
def pagesS (c:Chip) (i:Nat):List PageSay:=pagesTo c i c.np
theorem pagesTo_one (c:Chip) (i:Nat):pagesTo c i 1=[]:=rfl
theorem pagesTo_succ (c:Chip) (i k:Nat) (hk:1≤k):pagesTo c i (k+1)=pagesTo c i k ++ (pageS k (c.page i k)).toList:=by
 unfold pagesTo
 rw [List.range_succ,List.filterMap_append]
 congr 1
 rw [List.filterMap_cons,if_neg (by omega)]
 cases pageS k (c.page i k)<;>rfl
theorem pagesTo_length (c:Chip) (i k:Nat):(pagesTo c i k).length≤k:=by
 have:=List.length_filterMap_le (fun k:Nat=>if k=0 then none else pageS k (c.page i k)) (List.range k)
 simpa [pagesTo] using this
theorem ask_none0 {c:Chip} {i j:Int} (h:c.ask i j=0):c.dead=false∧0≤i∧i<c.nb∧0≤j∧j<c.np:=by
 unfold Chip.ask at h
 split at h
 ·cases h
 ·rename_i hd
  split at h
  ·cases h
  ·rename_i hx
   refine ⟨by simpa using hd,?_⟩
   omega
def pagesOut (c:Chip) (block:Int):List PageSay:=if c.ask block 0=0 then pagesS c block.toNat else []
theorem scan_Pages_spec {F:Nat→Prop} {A:Nat} {w:World} {p:Nat} {c:Chip} (h:CIn F A w p c) (block:Int) :
  CallsR prog K.scan_Pages #[.pointer (some ⟨p,0,none⟩),.int .i64 block] w fun v w'=>ListOut pageR T.api_Page w w' v (pagesOut c block) (c.ask block 0):=by
 apply scan_Pages.sh
 suffices H:∀ R:Value→World→Prop,(∀ v w',ListOut pageR T.api_Page w w' v (pagesOut c block) (c.ask block 0)→R v w')→scan_Pages.body (some ⟨p,0,none⟩) block w R from H _ fun _ _ h=>h
 intro R hR
 unfold scan_Pages.body
 refine (cReadAt h block 0).mono ?_
 rintro v w₁ ⟨he1,hv⟩
 have hs1:=he1.size
 by_cases h0:c.ask block 0=0
 ·rw [if_pos h0] at hv
  obtain ⟨a,cp,rfl,_⟩:=hv
  obtain ⟨hd0,hb0,hb1,_,hp1⟩:=ask_none0 h0
  obtain ⟨i,rfl⟩: ∃ i:Nat,block=i:=⟨block.toNat,by omega⟩
  have hok:=h.ok
  have hnp:=hok.np2
  have hnp1:=hok.np1
  refine ⟨_,_,_,_,rfl,br_ne (fun hne=>absurd rfl hne) fun _=>?_⟩
  refine ⟨fun a l cc x u=>∃ k:Nat,x=k∧1≤k∧k≤c.np∧l=(pagesTo c i k).length∧ListAt pageR NoB w.heap.size u a cc T.api_Page (pagesTo c i k)∧Ext w u∧w₁.heap.size≤u.heap.size,fun _ _ _ x _=>((c.np:Int) - x).toNat,
   ⟨1,rfl,Nat.le_refl _,by omega,rfl,ListAt.nil _ _,he1,Nat.le_refl _⟩,?_⟩
  rintro a1 l1 c1 x u ⟨k,rfl,hk1,hk,rfl,hl,heu,hsu⟩
  have hcu:=h.ext heu
  have hlen:=pagesTo_length c i k
  refine (cGeo hcu).mono ?_
  rintro _ w₃ ⟨rfl,he3⟩
  have e3:=heu.trans he3
  refine ⟨_,_,_,_,rfl,br_dec (fun hlt=>?_) fun hge=>?_⟩
  ·have hk':k<c.np:=by omega
   refine (cPage (h.ext e3) hd0 (by omega:i<c.nb) hk').mono ?_
   rintro _ w₄ ⟨he4,a4,c4,rfl,hb4,hc4,hf4⟩
   have hsz:=page_len hok (by omega:i<c.nb) hk'
   have hsz2:=hok.sz2
   refine ⟨_,_,_,_,rfl,(scan_page_spec hb4 hc4 (by omega)).mono ?_⟩
   rintro _ w₅ ⟨he5,m,a5,l5,c5,d5,b5,rfl,hb5,hP⟩
   have e5:=(e3.trans he4).trans he5
   refine ⟨_,_,_,_,_,_,rfl,new_put (vs:=pageVs m a5 l5 c5 d5) rfl fun B1 w₇ hb7 hs7 he7 g7=>?_⟩
   have ew:IntKind.i64.wrap ((k:Int)+1)=((k+1:Nat):Int):=w64 (by omega) (by omega)
   simp only [ew]
   have hl7:ListAt pageR NoB w.heap.size w₇ a1 c1 T.api_Page (pagesTo c i k):=(((hl.ext he3).ext he4).ext he5).ext he7
   have hs3:=he3.size
   have hs4:=he4.size
   have hs5:=he5.size
   have hs0:=heu.size
   refine br_intro (fun hb=>?_) fun hb=>?_
   ·rw [hb5] at hb
    obtain ⟨P,hPs⟩:=Option.isSome_iff_exists.1 hb
    obtain ⟨rfl,rfl,rfl,hlc,G,hG1,hG2⟩:=hP P hPs
    have hsucc:pagesTo c i (k+1)=pagesTo c i k ++ [P]:=by rw [pagesTo_succ c i k hk1,hPs];rfl
    refine ⟨_,_,_,_,_,cells_all g7,fun B2 w₈ hn8=>?_⟩
    have he8:=hn8.upd
    have hs8:=hn8.size
    refine ListAt.push (r:=pageR) (H:=G) (x:=P) (hl7.ext he8) (pageR_intro hlc ((hG1.ext he7).ext he8)) (fun b hb=>⟨.inl (by have:=hG2 b hb;omega),by have:=hG2 b hb;omega,fun hab=>?_⟩) hn8 rfl rfl (by omega) (by omega) (by omega) fun a' c' w₉ hu9 hl9=>?_
    ·have:=hG2 b hb
     have:=hl.lt hab
     omega
    ·rw [← hsucc] at hl9 ⊢
     exact ⟨⟨k+1,rfl,by omega,hk',rfl,hl9,Ext.own ((e5.trans he7).trans he8) hu9 (Nat.le_refl _),by have:=hu9.size;omega⟩,meas hk'⟩
   ·have hPn:pageS k (c.page i k)=none:=by rw [hb5] at hb;simpa using hb
    have hsucc:pagesTo c i (k+1)=pagesTo c i k:=by rw [pagesTo_succ c i k hk1,hPn];simp
    refine ⟨⟨k+1,rfl,by omega,hk',by rw [hsucc],by rw [hsucc];exact hl7,e5.trans he7,by omega⟩,meas hk'⟩
  ·have hk':k=c.np:=by omega
   subst hk'
   refine hR _ _ ⟨a1,c1,?_,?_,e3⟩
   ·unfold pagesOut;rw [if_pos h0,h0];rfl
   ·unfold pagesOut;rw [if_pos h0];exact hl.ext he3
 ·rw [if_neg h0] at hv
  subst hv
  refine ⟨_,_,_,_,rfl,br_ne (fun hne=>?_) fun he=>absurd he (by omega)⟩
  exact hR _ _ (ListOut.none (by unfold pagesOut;rw [if_neg h0]) he1)
theorem kind_is {x:UInt8} {n:Nat} (hn:n<256) (h:(x.toNat:Int)=n):x=UInt8.ofNat n:=by
 apply UInt8.toNat_inj.1
 rw [UInt8.toNat_ofNat']
 omega
theorem takeS_app {a l:List UInt8} {k:Nat} (h:a.length=k):takeS k (some (a ++ l))=(fromLE a,0,some l):=by
 unfold takeS
 simp only
 rw [if_neg (by simp;omega)]
 subst h
 simp
theorem ofNat_toNat {n:Nat} (h:n<256):(UInt8.ofNat n).toNat=n:=by
 rw [UInt8.toNat_ofNat']
 exact Nat.mod_eq_of_lt h
theorem takeS_one (b:UInt8) (l:List UInt8):takeS 1 (some (b :: l))=(b.toNat,0,some l):=by
 have:=takeS_app (a:=[b]) (l:=l) (k:=1) rfl
 rw [fromLE_one] at this
 exact this
theorem rowS_app {a l:List UInt8} (h:a.length<256):rowS (some (UInt8.ofNat a.length :: (a ++ l)))=(a,0,some l):=by
 unfold rowS
 rw [takeS_one,if_pos rfl,ofNat_toNat h]
 unfold cutS
 simp only
 rw [if_neg (by simp)]
 simp
theorem name_of (k:Key):(⟨k.bytes.toArray⟩: ByteArray)=k.name:=by
 obtain ⟨_,_,⟨⟨a⟩⟩,_⟩:=k
 rfl
theorem empty_name {k:Key} (h:k.bytes=[]):k.name=ByteArray.empty:=by
 rw [← name_of,h];rfl
theorem keyS_keyB {k:Key} (h:k.may=true) (l:List UInt8):keyS (some (keyB k ++ l))=(k,0,some l):=by
 obtain ⟨h1,h2,h3⟩:=Key.may_elim h
 have hino:fromLE (leB k.ino.toNat 2)=k.ino.toNat:=fromLE_leB 2 _ (by omega)
 have hfin:finKey k (some l)=(k,0,some l):=by unfold finKey;rw [if_pos h]
 have hin:((k.ino.toNat:Nat):Int)=k.ino:=by omega
 unfold keyS keyB
 rw [List.append_assoc,List.append_assoc,takeS_app (leB_length 2 _),hino]
 simp only [List.cons_append,List.nil_append]
 rw [takeS_one]
 simp only
 rcases h3 with ⟨w,hb,hc⟩| ⟨w,hn,hc⟩| ⟨w,hb,hc,hc2⟩
 ·have hk:(⟨(k.ino.toNat:Nat),UInt8.ofNat k.what.toNat,ByteArray.empty,0⟩: Key)=k:=by
   rw [← empty_name hb,← hc,hin]
   simp
  rw [w]
  simp only [show ((1:UInt8)=2)=False by simp,show ((1:UInt8)=3)=False by simp,if_false,List.nil_append]
  rw [if_neg (by decide),if_neg (by decide),if_neg (by decide)]
  rw [w] at hk
  rw [hk,hfin]
 ·have hl:=isName_len hn
  have hk:(⟨(k.ino.toNat:Nat),UInt8.ofNat k.what.toNat,⟨k.bytes.toArray⟩,0⟩: Key)=k:=by
   rw [name_of,← hc,hin]
   simp
  rw [w]
  simp only [if_true,List.cons_append]
  rw [if_neg (by decide),if_pos (by decide),rowS_app (by omega)]
  simp only
  rw [if_neg (by decide)]
  rw [w] at hk
  rw [hk,hfin]
 ·have hk:(⟨(k.ino.toNat:Nat),UInt8.ofNat k.what.toNat,ByteArray.empty,(k.chunk.toNat:Nat)⟩: Key)=k:=by
   rw [← empty_name hb,hin,show ((k.chunk.toNat:Nat):Int)=k.chunk by omega]
   simp
  rw [w]
  simp only [show ((3:UInt8)=2)=False by simp,if_false,if_true,List.cons_append,List.nil_append]
  rw [if_neg (by decide),if_neg (by decide),if_pos (by decide),takeS_one,ofNat_toNat (by omega)]
  simp only
  rw [if_neg (by decide)]
  rw [w] at hk
  rw [hk,hfin]
theorem oneS_chgB {c:Change} (h:mayC c=true) (l:List UInt8):oneS (some (chgB c ++ l))=(c,0,some l):=by
 have hm:c.key.may=true∧(if c.gone then decide (c.val.length=0) else decide (1≤c.val.length) && decide (c.val.length≤255))=true:=by
  unfold mayC at h
  simpa using h
 obtain ⟨key,val,gone⟩:=c
 simp only at hm
 unfold oneS chgB
 cases gone with
 | true =>
  simp only [if_true] at hm
  have hv:val=[]:=List.eq_nil_of_length_eq_zero (of_decide_eq_true hm.2)
  subst hv
  simp only [if_true,List.cons_append]
  rw [takeS_one]
  simp only
  rw [keyS_keyB hm.1,if_neg (by decide),if_neg (by decide),if_neg (fun h=>h rfl),if_pos (by decide)]
 | false =>
  have hv:=hm.2
  simp only [Bool.and_eq_true,decide_eq_true_eq,Bool.false_eq_true,if_false] at hv
  simp only [Bool.false_eq_true,if_false,List.cons_append,List.append_assoc]
  rw [takeS_one]
  simp only
  rw [keyS_keyB hm.1,if_neg (by decide),if_neg (by decide),if_neg (fun h=>h rfl),if_neg (by decide),rowS_app (by omega)]
  simp only
  rw [if_neg (by decide),if_neg (by omega)]
theorem goS_flat:∀ (cs acc:List Change),(∀ x∈cs,mayC x=true)→goS cs.length (some (cs.flatMap chgB)) acc=(acc ++ cs,0)
 | [],acc,_=>by
  show (if 0<leftS (some []) then ([],5) else (acc,0))=_
  rw [if_neg (by simp [leftS]),List.append_nil]
 | c :: cs,acc,h=>by
  rw [List.length_cons,List.flatMap_cons]
  have e:=oneS_chgB (h c (by simp)) (cs.flatMap chgB)
  show (if (oneS (some (chgB c ++ cs.flatMap chgB))).2.1≠0 then ([],(oneS (some (chgB c ++ cs.flatMap chgB))).2.1) else goS cs.length (oneS (some (chgB c ++ cs.flatMap chgB))).2.2 (acc ++ [(oneS (some (chgB c ++ cs.flatMap chgB))).1]))=_
  rw [e]
  simp only
  rw [if_neg (fun h=>h rfl),goS_flat cs _ fun x hx=>h x (by simp [hx])]
  simp
theorem getS_bodyB {cs:List Change} (h:mayL cs=true):getS (bodyB cs)=(cs,0):=by
 unfold mayL at h
 simp only [Bool.and_eq_true,decide_eq_true_eq,List.all_eq_true] at h
 unfold getS bodyB
 rw [takeS_one,ofNat_toNat (by omega)]
 simp only
 rw [if_neg (by decide),if_neg (by omega),goS_flat cs [] h.2,List.nil_append]
theorem dropS_leB {seq:Nat} (h0:seq≠0) (h:seq<18446744073709551616):dropS (leB seq 8)=(seq,0):=by
 have e:fromLE (leB seq 8)=seq:=fromLE_leB 8 _ h
 unfold dropS
 rw [if_neg (by rw [leB_length];decide),e,if_neg h0]
structure SaysP (sz:Nat) (pg:List UInt8) (cs:List Change) (d:Nat):Prop where
 len:pg.length=sz
 sound:Sound pg
 say:∀ n,pageS n pg=some ⟨n,cs,d⟩
theorem putL_says {sz:Nat} (h1:128≤sz) (h2:sz≤256) {cs:List Change} (h:(putL sz cs).2=0):SaysP sz (putL sz cs).1 cs 0∧mayL cs=true:=by
 have hsz:isSize (sz:Int)=true:=by simp [isSize];omega
 unfold putL at h ⊢
 split at h
 ·rename_i hm
  rw [if_pos hm]
  unfold putPage at h ⊢
  split at h
  ·cases h
  ·split at h
   ·cases h
   ·rename_i hn hb
    rw [if_neg hn,if_neg hb]
    have hbl:(bodyB cs).length+5≤sz:=by omega
    refine ⟨⟨pageOf_length _ _ _ (by simpa using hbl),pageOf_sound (by simpa using hbl) (by simpa using (by omega:sz≤8000)),fun n=>?_⟩,hm⟩
    have hg:getPage (pageOf sz 2 (bodyB cs))=(2,bodyB cs,0):=getPage_pageOf hsz (by decide) (by decide) hbl
    show pageS n (pageOf sz 2 (bodyB cs))=_
    unfold pageS
    rw [hg]
    simp only
    rw [if_neg (by decide),if_pos trivial,getS_bodyB hm,if_pos rfl]
 ·cases h
theorem putDrop_says {sz:Nat} (h1:128≤sz) (h2:sz≤256) {seq:Nat} (h0:seq≠0) (h:seq<18446744073709551616):(putDropB sz seq).2=0∧SaysP sz (putDropB sz seq).1 [] seq:=by
 have hsz:isSize (sz:Int)=true:=by simp [isSize];omega
 have hlen:=leB_length 8 seq
 have hp:putDropB sz seq=(pageOf sz 3 (leB seq 8),0):=by
  unfold putDropB putPage
  rw [if_neg h0,if_neg (by rw [hsz];decide),if_neg (by omega)]
  simp
 rw [hp]
 refine ⟨rfl,pageOf_length _ _ _ (by omega),pageOf_sound (by omega) (by omega),fun n=>?_⟩
 have hg:getPage (pageOf sz 3 (leB seq 8))=(3,leB seq 8,0):=getPage_pageOf hsz (by decide) (by decide) (by omega)
 show pageS n (pageOf sz 3 (leB seq 8))=_
 unfold pageS
 rw [hg]
 simp only
 rw [if_neg (by decide),if_neg (by decide),if_pos trivial,dropS_leB h0 h,if_pos rfl]
theorem getPage_sound' {b:List UInt8} (hp:(getPage b).2.2=0):Sound b:=by
 unfold getPage at hp
 split at hp
 ·cases hp
 ·rename_i hs
  split at hp
  ·cases hp
  ·split at hp
   ·cases hp
   ·rename_i hn
    have hs':isSize b.length=true:=by simpa using hs
    simp [isSize] at hs'
    exact ⟨by omega,Classical.byContradiction hn⟩
theorem pageS_sound {n:Int} {b:List UInt8} (h:pageS n b≠none):Sound b:=by
 refine getPage_sound' ?_
 unfold pageS at h
 split at h
 ·exact absurd rfl h
 ·rename_i h0;omega
theorem pageS_blank (n:Int) (k:Nat):pageS n (List.replicate k 255)=none:=by
 have:(getPage (List.replicate k 255)).2.2≠0:=by
  unfold getPage
  split
  ·simp
  ·rw [if_pos (isBlank_replicate k)];simp
 unfold pageS
 rw [if_pos this]
theorem SaysP.sub {sz:Nat} {pg X:List UInt8} {cs:List Change} {d:Nat} (h:SaysP sz pg cs d) (hX:SubL pg X) (n:Int):pageS n X=none∨X=pg:=by
 by_cases hx:pageS n X=none
 ·exact .inl hx
 ·exact .inr (berger hX h.sound (pageS_sound hx))
structure Part where
 block:Int
 seq:Nat
 pages:List PageSay
abbrev partVs (b:Int) (s:Nat) (a:Option Addr) (l c:Nat):List Value:=[.int .i64 b,.int .u64 s,.slice a l c]
def partR:ERep Part:=ERep.pair intR (ERep.pair u64R (sliceR pageR) (fun x:Nat×List PageSay=>x.1) (fun x=>x.2)) (fun x:Part=>x.block) (fun x=>(x.seq,x.pages))
theorem partR_intro {w:World} {G:Nat→Prop} {x:Part} {a:Option Addr} {c:Nat} (hc:x.pages.length≤c) (h:SliceAt pageR w G a x.pages):partR.R w G (partVs x.block x.seq a x.pages.length c) x :=
 ⟨[.int .i64 x.block],[.int .u64 (x.seq:Nat),.slice a x.pages.length c],rfl,rfl,[.int .u64 (x.seq:Nat)],[.slice a x.pages.length c],rfl,rfl,a,c,rfl,hc,h⟩
theorem partR_elim {w:World} {G:Nat→Prop} {x:Part} {vs:List Value} (h:partR.R w G vs x):∃ a c,vs=partVs x.block x.seq a x.pages.length c∧x.pages.length≤c∧SliceAt pageR w G a x.pages:=by
 obtain ⟨u,v,rfl,hu,s,t,rfl,ht,a,c,hs,hc,hb⟩:=h
 have hu':u=[.int .i64 x.block]:=hu
 have ht':s=[.int .u64 (x.seq:Nat)]:=ht
 have hs':t=[.slice a x.pages.length c]:=hs
 subst hu';subst ht';subst hs'
 exact ⟨a,c,rfl,hc,hb⟩
def isLog (era:Nat) (t:Taken):Bool:=decide (t.head.kind=1) && decide (t.head.era=era)
def partOf (c:Chip) (t:Taken):Part:=⟨t.block,t.head.seq,pagesS c t.block⟩
def partsL (c:Chip) (era:Nat) (l:List Taken):List Part:=(l.filter (isLog era)).map (partOf c)
def lowP (n:Nat) (l:List PageSay):Nat:=l.foldl (fun n p=>max n p.drop) n
def lowL (l:List Part):Nat:=l.foldl (fun n x=>lowP n x.pages) 0
def readErr (c:Chip) (era:Nat):Nat:=if c.dead then 10 else if era=0 then 2 else 0
def readParts (c:Chip) (era:Nat):List Part:=if readErr c era≠0 then [] else partsL c era (takenPool (scanPool c) c)
theorem partsL_succ (c:Chip) (era:Nat) {l:List Taken} {i:Nat} (hi:i<l.length):partsL c era (l.take (i+1))=partsL c era (l.take i) ++ if isLog era l[i] then [partOf c l[i]] else []:=by
 unfold partsL
 rw [List.take_succ_eq_append_getElem hi,List.filter_append,List.map_append]
 congr 1
 rw [List.filter_cons]
 split<;>rfl
theorem lowL_snoc (l:List Part) (x:Part):lowL (l ++ [x])=lowP (lowL l) x.pages:=by unfold lowL;rw [List.foldl_append];rfl
theorem lowP_succ (n:Nat) {l:List PageSay} {i:Nat} (hi:i<l.length):lowP n (l.take (i+1))=max (lowP n (l.take i)) l[i].drop:=by
 unfold lowP
 rw [List.take_succ_eq_append_getElem hi,List.foldl_append];rfl
theorem partsL_length (c:Chip) (era:Nat) (l:List Taken):(partsL c era l).length≤l.length:=by
 unfold partsL
 rw [List.length_map]
 exact List.length_filter_le _ _
theorem max_if (a b:Nat):(if (b:Int) > (a:Int) then (b:Int) else (a:Int))=((max a b:Nat):Int):=by
 split<;>omega
theorem scan_read_spec {F:Nat→Prop} {A:Nat} {w:World} {p:Nat} {c:Chip} (h:CIn F A w p c) (hnb:c.nb<20) (era:Nat) :
  CallsR prog K.scan_read #[.pointer (some ⟨p,0,none⟩),.int .u32 era] w fun v w'=>∃ a cap,v= .tuple #[.slice a (readParts c era).length cap,.int .u64 (lowL (readParts c era):Nat),.int .i64 (readErr c era:Nat)]∧ListAt partR NoB w.heap.size w' a cap T.scan_part (readParts c era)∧Ext w w':=by
 apply scan_read.sh
 suffices H:∀ R:Value→World→Prop,(∀ v w',(∃ a cap,v= .tuple #[.slice a (readParts c era).length cap,.int .u64 (lowL (readParts c era):Nat),.int .i64 (readErr c era:Nat)]∧ListAt partR NoB w.heap.size w' a cap T.scan_part (readParts c era)∧Ext w w')→R v w')→scan_read.body (some ⟨p,0,none⟩) era w R from H _ fun _ _ h=>h
 intro R hR
 unfold scan_read.body
 refine (cScanF h).mono ?_
 rintro _ w₁ ⟨he1,hv⟩
 have hs1:=he1.size
 split at hv
 ·rename_i hd
  subst hv
  have he:readErr c era=10:=by unfold readErr;rw [if_pos hd]
  have hp:readParts c era=[]:=by unfold readParts;rw [he];rfl
  rw [hp,he] at hR
  exact ⟨_,_,rfl,br_ne (fun _=>hR _ _ ⟨none,0,rfl,ListAt.nil _ _,he1⟩) fun h=>by cases h⟩
 rename_i hd
 have hd0:c.dead=false:=by simpa using hd
 obtain ⟨M,rfl,rfl,hp2⟩:=hv
 refine ⟨_,_,rfl,br_ne (fun h=>(h rfl).elim) fun _=>br_eq (fun he0=>?_) fun he0=>?_⟩
 ·have he:readErr c era=2:=by unfold readErr;rw [if_neg hd,if_pos (by omega)]
  have hp:readParts c era=[]:=by unfold readParts;rw [he];rfl
  rw [hp,he] at hR
  exact hR _ _ ⟨none,0,rfl,ListAt.nil _ _,he1⟩
 have he:readErr c era=0:=by unfold readErr;rw [if_neg hd,if_neg (by omega)]
 have hp:readParts c era=partsL c era (takenPool (scanPool c) c):=by unfold readParts;rw [he];rfl
 rw [hp,he] at hR
 refine (pTaken hp2 hnb rfl).mono ?_
 rintro _ w₂ ⟨he2,a1,c1,rfl,ho2,hf2⟩
 have e2:Ext w w₂:=he1.trans he2
 have hs2:=he2.size
 have hll:(takenPool (scanPool c) c).length≤c.nb:=by
  unfold takenPool
  rw [isort_length]
  exact takenRaw_length _ _ _
 have hlb:∀ x∈takenPool (scanPool c) c,x.block<c.nb:=by
  intro x hx
  unfold takenPool at hx
  rw [isort_mem] at hx
  exact takenRaw_block hx
 generalize takenPool (scanPool c) c=l at *
 have hrow:RowAt w₂ a1 (l.flatMap Taken.vals):=ho2.row
 refine ⟨_,_,_,rfl,fun a2 l2 c2 x2 x3 u=>∃ i:Nat,x3=i∧i≤l.length∧l2=(partsL c era (l.take i)).length∧x2=(lowL (partsL c era (l.take i)):Nat)∧ListAt partR NoB w₂.heap.size u a2 c2 T.scan_part (partsL c era (l.take i))∧Ext w₂ u,fun _ _ _ _ x _=>((l.length:Int) - x).toNat,
  ⟨0,rfl,by omega,rfl,rfl,ListAt.nil _ _,Upd.refl _ _⟩,?_⟩
 rintro a2 l2 c2 x2 x3 u ⟨i,rfl,hi,rfl,rfl,hl,heu⟩
 have hpl:=partsL_length c era (l.take i)
 rw [List.length_take] at hpl
 refine br_dec (fun hlt=>?_) fun hge=>?_
 ·have hi':i<l.length:=by omega
  have ew:IntKind.i64.wrap ((i:Int)+1)=((i+1:Nat):Int):=w64 (by omega) (by omega)
  simp only [ew]
  have hsu:=heu.size
  have hsucc:=partsL_succ c era hi'
  refine idx_flat (f:=Taken.vals) (k:=5) (fun _=>rfl) (by decide) (hrow.ext heu) rfl hi' fun b o ha hr=>?_
  refine ⟨_,_,_,_,_,hr.cells,new_put (vs:=l[i].vals) rfl fun B1 w₅ hb5 hs5 he5 g5=>?_⟩
  have e5:=heu.trans he5
  have hl5:=hl.ext he5
  refine ⟨_,cell_of g5 rfl,br_ne (fun hk=>?_) fun hk=>?_⟩
  ·have hlog:isLog era l[i]=false:=by
    unfold isLog
    rw [decide_eq_false (fun e=>hk (by rw [e];rfl))];rfl
   rw [hlog] at hsucc
   simp only [Bool.false_eq_true,if_false,List.append_nil] at hsucc
   exact ⟨⟨i+1,rfl,hi',by rw [hsucc],by rw [hsucc],by rw [hsucc];exact hl5,e5⟩,meas hi'⟩
  simp only [add_lit,Nat.zero_add]
  refine ⟨_,cell_of g5 rfl,br_ne (fun hk2=>?_) fun hk2=>?_⟩
  ·have hlog:isLog era l[i]=false:=by
    unfold isLog
    rw [decide_eq_false (p:=l[i].head.era=era) (fun e=>hk2 (by rw [e]))];simp
   rw [hlog] at hsucc
   simp only [Bool.false_eq_true,if_false,List.append_nil] at hsucc
   exact ⟨⟨i+1,rfl,hi',by rw [hsucc],by rw [hsucc],by rw [hsucc];exact hl5,e5⟩,meas hi'⟩
  have hlog:isLog era l[i]=true:=by
   unfold isLog
   rw [decide_eq_true (show l[i].head.kind=1 from kind_is (n:=1) (by decide) hk),decide_eq_true (p:=l[i].head.era=era) (by omega)];rfl
  rw [hlog] at hsucc
  simp only [if_true] at hsucc
  refine ⟨_,cell_of g5 rfl,_,cell_of g5 rfl,new_put (vs:=partVs l[i].block l[i].head.seq none 0 0) rfl fun B2 w₇ hb7 hs7 he7 g7=>?_⟩
  have e7:=e5.trans he7
  have hbk:=hlb _ (List.getElem_mem hi')
  refine ⟨_,cell_of (Ext.get he7 g5) rfl,(scan_Pages_spec (h.ext (e2.trans e7)) l[i].block).mono ?_⟩
  have hask:c.ask l[i].block 0=0:=ask_ok (k:=0) hd0 hbk (by have:=h.ok.np1;omega)
  have hpo:pagesOut c l[i].block=pagesS c l[i].block:=by unfold pagesOut;rw [if_pos hask,Int.toNat_natCast]
  rw [hpo,hask]
  rintro _ w₈ ⟨a3,c3,rfl,hl8,he8⟩
  have hs8:=he8.size
  have hpgl:=pagesTo_length c l[i].block c.np
  have hnp2:=h.ok.np2
  change (pagesS c l[i].block).length≤c.np at hpgl
  have hpt:partOf c l[i]=⟨l[i].block,l[i].head.seq,pagesS c l[i].block⟩:=rfl
  generalize pagesS c l[i].block=pg at *
  refine ⟨_,_,_,_,rfl,store_of (Ext.get he8 g7) (by simp) fun w₉ hp9=>?_⟩
  have g9:w₉.heap[B2]?=some (.cells (partVs l[i].block l[i].head.seq a3 pg.length c3).toArray T.scan_part (0,0)):=hp9.get
  have hu9:=hp9.upd1
  have hs9:=hu9.size
  have hl9:=hl8.upd hu9 fun x hx=>⟨by omega,fun h=>h⟩
  have hlu9:ListAt partR NoB w₂.heap.size w₉ a2 c2 T.scan_part (partsL c era (l.take i)):=by
   obtain ⟨G,h1,h2,h3⟩:=((hl5.ext he7).ext he8)
   obtain ⟨G',h1',h2',h3'⟩:=hl5
   refine ⟨G',(((h1'.ext he7).ext he8).upd hu9 (fun b hb e=>?_) fun b hb e=>?_),fun x hx=>⟨(h2' x hx).1,by have:=(h2' x hx).2;have:=he7.size;omega⟩,h3'⟩
   ·have:=(h2' b hb).2;omega
   ·have:=hl.lt hb;omega
  have e9:Ext w₂ w₉:=(e7.trans he8).beyond hu9 fun x hx=>by omega
  obtain ⟨G3,hG3,hG3'⟩:=hl9.slice
  refine ⟨_,_,_,cell_of g9 rfl,fun x14 x15 v=>∃ k:Nat,x15=k∧k≤pg.length∧x14=(lowP (lowL (partsL c era (l.take i))) (pg.take k):Nat)∧Ext w₉ v,fun _ x _=>((pg.length:Int) - x).toNat,⟨0,rfl,by omega,rfl,Upd.refl _ _⟩,?_⟩
  rintro x14 x15 v ⟨k,rfl,hk,rfl,hev⟩
  refine br_dec (fun hltk=>?_) fun hgek=>?_
  ·have hk':k<pg.length:=by omega
   have ewk:IntKind.i64.wrap ((k:Int)+1)=((k+1:Nat):Int):=w64 (by omega) (by omega)
   refine SliceAt.idx (r:=pageR) (hG3.ext hev) rfl hk' fun b o vs ha hrow' hR' hG=>?_
   obtain ⟨ac,cc,rfl,_,_⟩:=pageR_elim hR'
   refine ⟨_,_,_,_,_,hrow'.cells,new_put (vs:=pageVs pg[k].page ac pg[k].changes.length cc pg[k].drop) rfl fun B3 w₁₂ hb12 hs12 he12 g12=>?_⟩
   simp only [add_lit,Nat.zero_add]
   refine ⟨_,cell_of g12 rfl,?_⟩
   rw [ewk,max_if]
   exact ⟨⟨k+1,rfl,hk',by rw [lowP_succ _ hk'],hev.trans he12⟩,meas hk'⟩
  ·have hkk:k=pg.length:=by omega
   subst hkk
   rw [List.take_length]
   refine ⟨_,_,_,_,_,cells_all (Ext.get hev g9),fun B4 w₁₃ hn13=>?_⟩
   have hs13:=hn13.size
   have hsv:=hev.size
   refine ListAt.push (r:=partR) (H:=G3) (x:=partOf c l[i]) ((hlu9.ext hev).ext hn13.upd) (partR_intro (x:=partOf c l[i]) (by rw [hpt];exact hl9.cap) (by rw [hpt];exact (hG3.ext hev).ext hn13.upd)) (fun b hb=>⟨?_,?_,fun hab=>?_⟩) (by rw [hpt];exact hn13) rfl rfl (by omega) (by omega) (by omega) fun a' c' w₁₄ hu14 hl14=>?_
   ·have:=(hG3' b hb).1
    rcases this with h | h
    ·left;have:=e7.size;omega
    ·exact h.elim
   ·have:=(hG3' b hb).2;omega
   ·have h5:=(hG3' b hb).1
    have h6:=hl.lt hab
    rcases h5 with h | h
    ·have:=e7.size;have:=e5.size;have:=he5.size;have:=he7.size;omega
    ·exact h
   ·rw [← hsucc] at hl14 ⊢
    refine ⟨⟨i+1,rfl,hi',rfl,?_,hl14,Ext.own ((e9.trans hev).trans hn13.upd) hu14 (Nat.le_refl _)⟩,meas hi'⟩
    rw [hsucc,lowL_snoc,hpt]
 ·have hii:i=l.length:=by omega
  subst hii
  rw [List.take_length] at hl ⊢
  exact hR _ _ ⟨a2,c2,rfl,hl.weak e2.size fun _ h=>h.elim,e2.trans heu⟩
structure Still (c:Chip) (nb np sz sp:Nat):Prop where
 nb:c.nb=nb
 np:c.np=np
 sz:c.sz=sz
 sp:c.sp=sp
 hits:c.hits=[]
 since:c.since=0
 dead:c.dead=false
 deeds:c.deeds=0
theorem Still.blk {c:Chip} {nb np sz sp:Nat} (h:Still c nb np sz sp) (i:Nat) (b:List UInt8):Still (c.setBlk i b) nb np sz sp:=⟨h.1,h.2,h.3,h.4,h.5,h.6,h.7,h.8⟩
theorem Still.bad {c:Chip} {nb np sz sp:Nat} (h:Still c nb np sz sp) (b:List Bool):Still { c with bad:=b } nb np sz sp:=⟨h.1,h.2,h.3,h.4,h.5,h.6,h.7,h.8⟩
def IList (S:Nat) (w:World) (a:Option Addr) (cap:Nat) (l:List Int):Prop:=OwnAt w a l.length cap T.int 1 (l.map (Value.int .i64))∧∀ b,a=some ⟨b,0,none⟩→S≤b
theorem IList.nil (S:Nat) (w:World):IList S w none 0 []:=⟨OwnAt.nil _ _ _,fun _ h=>by cases h⟩
theorem IList.ext {S:Nat} {w w':World} {a:Option Addr} {cap:Nat} {l:List Int} (h:IList S w a cap l) (k:Ext w w'):IList S w' a cap l:=⟨h.1.ext k,h.2⟩
theorem IList.upd {S:Nat} {w w':World} {F:Nat→Prop} {a:Option Addr} {cap:Nat} {l:List Int} (h:IList S w a cap l) (k:Upd F w w') (hF:∀ x,F x→x<S):IList S w' a cap l :=
 ⟨h.1.upd k fun b hb hf=>absurd (h.2 b hb) (by have:=hF b hf;omega),h.2⟩
theorem IList.push {S:Nat} {w w₁:World} {a:Option Addr} {cap n:Nat} {l:List Int} {B:Nat} {x:Int} (h:IList S w a cap l) (hn:n=l.length) (hnew:New w (.cells #[.int .i64 x] T.int) B w₁) (hb:l.length+1≤17592186044000) (hS:S≤w.heap.size) {K:Option Addr→Nat→Nat→World→Prop}
  (hk:∀ a' c' w',Upd (fun b=>S≤b) w w'→IList S w' a' c' (l ++ [x])→K a' (l ++ [x]).length c' w'):appendP T.int 1 8 [Value.int .i64 0] a n cap (.slice (some ⟨B,0,none⟩) 1 1) w₁ K:=by
 subst hn
 have hrow:RowAt w₁ (some ⟨B,0,none⟩) [.int .i64 x]:=RowAt.of hnew.get fun j v hj=>by simpa using hj
 refine append_own (h.1.ext hnew.upd) rfl (read_row hrow rfl) rfl (fun v hv=>by simp at hv;rw [hv];rfl) rfl (by omega) (by omega) fun a' c' w' hu ho hf=>?_
 have hs:=hnew.size
 have:=hk a' c' w' ((Upd.ext hnew.upd).trans (hu.mono fun b _ hb=>h.2 b hb)) ⟨by simpa using ho,fun b hb=>by
  rcases hf with hf | ⟨b',hb',hl⟩
  ·subst hf;exact h.2 b hb
  ·rw [hb'] at hb;cases hb;omega⟩
 simpa using this
theorem CAt.low {A S:Nat} {w:World} {p:Nat} {c:Chip} (h:CAt A S w p c):A≤p∧p<S:=by
 obtain ⟨L,G,hr,hF,_⟩:=h
 exact hF p (by simp)
section
set_option maxRecDepth 100000
def w12:Chip:=newChip 16 8 128 0
def h12:List UInt8×Nat:=putHead 128 ⟨1,1,1⟩
def x12:Chip×Nat:=w12.program 3 0 h12.1
end
theorem IList.pushX {G:Nat→Prop} {S:Nat} {w w₁:World} {a:Option Addr} {cap n:Nat} {l:List Int} {B:Nat} {x:Int} (h:IList S w a cap l) (hG:∀ b,a=some ⟨b,0,none⟩→¬ G b) (hGs:∀ x,G x→x<w.heap.size) (hn:n=l.length) (hnew:New w (.cells #[.int .i64 x] T.int) B w₁) (hb:l.length+1≤17592186044000) (hS:S≤w.heap.size) {K:Option Addr→Nat→Nat→World→Prop}
  (hk:∀ a' c' w',Upd (fun b=>S≤b∧¬ G b) w w'→IList S w' a' c' (l ++ [x])→(∀ b,a'=some ⟨b,0,none⟩→¬ G b)→K a' (l ++ [x]).length c' w'):appendP T.int 1 8 [Value.int .i64 0] a n cap (.slice (some ⟨B,0,none⟩) 1 1) w₁ K:=by
 subst hn
 have hrow:RowAt w₁ (some ⟨B,0,none⟩) [.int .i64 x]:=RowAt.of hnew.get fun j v hj=>by simpa using hj
 refine append_own (h.1.ext hnew.upd) rfl (read_row hrow rfl) rfl (fun v hv=>by simp at hv;rw [hv];rfl) rfl (by omega) (by omega) fun a' c' w' hu ho hf=>?_
 have hs:=hnew.size
 have:=hk a' c' w' ((Upd.ext hnew.upd).trans (hu.mono fun b _ hb=>⟨h.2 b hb,hG b hb⟩)) ⟨by simpa using ho,fun b hb=>by
  rcases hf with hf | ⟨b',hb',hl⟩
  ·subst hf;exact h.2 b hb
  ·rw [hb'] at hb;cases hb;omega⟩ (fun b hb hg=>by
  rcases hf with hf | ⟨b',hb',hl⟩
  ·subst hf;exact hG b hb hg
  ·rw [hb'] at hb;cases hb;have:=hGs _ hg;omega)
 simpa using this
theorem readParts_length {c:Chip} (era:Nat):(readParts c era).length≤c.nb:=by
 unfold readParts
 split
 ·exact Nat.zero_le _
 ·refine Nat.le_trans (partsL_length _ _ _) ?_
  unfold takenPool
  rw [isort_length]
  exact takenRaw_length _ _ _
theorem zlt:(0:Nat)<256:=by decide
theorem oneS_small (s:St):(oneS s).1.val.length<256:=by
 unfold oneS
 simp only []
 split
 ·exact zlt
 ·split
  ·exact zlt
  ·split
   ·exact zlt
   ·split
    ·exact zlt
    ·split
     ·exact zlt
     ·split
      ·exact zlt
      ·exact rowS_len _
theorem goS_small:∀ (n:Nat) (s:St) (acc:List Change),(∀ x∈acc,x.val.length<256)→∀ x∈(goS n s acc).1,x.val.length<256
 | 0,s,acc,h=>by
  unfold goS
  split
  ·simp
  ·exact h
 | n+1,s,acc,h=>by
  unfold goS
  split
  ·simp
  ·refine goS_small n _ _ fun x hx=>?_
   rcases List.mem_append.1 hx with hx | hx
   ·exact h x hx
   ·simp at hx;subst hx;exact oneS_small s
theorem getS_small (b:List UInt8):∀ x∈(getS b).1,x.val.length<256:=by
 unfold getS
 split
 ·simp
 ·split
  ·simp
  ·exact goS_small _ _ _ (by simp)
theorem goS_length:∀ (n:Nat) (s:St) (acc:List Change),(goS n s acc).1.length≤acc.length+n
 | 0,s,acc=>by
  unfold goS
  split
  ·simp
  ·simp
 | n+1,s,acc=>by
  unfold goS
  split
  ·simp
  ·have:=goS_length n (oneS s).2.2 (acc ++ [(oneS s).1])
   simp at this
   omega
theorem getS_length (b:List UInt8):(getS b).1.length≤255:=by
 unfold getS
 split
 ·simp
 ·split
  ·simp
  ·have:=goS_length (takeS 1 (some b)).1 (takeS 1 (some b)).2.2 []
   have h2:=takeS_lt 1 (some b)
   simp at this
   omega
theorem pageS_small {n:Int} {b:List UInt8} {P:PageSay} (h:pageS n b=some P):(∀ x∈P.changes,x.val.length<256)∧P.changes.length≤255:=by
 unfold pageS at h
 split at h
 ·cases h
 ·split at h
  ·split at h
   ·cases h;exact ⟨getS_small _,getS_length _⟩
   ·cases h
  ·split at h
   ·split at h
    ·cases h;exact ⟨by simp,by simp⟩
    ·cases h
   ·cases h
theorem pagesS_small {c:Chip} {i:Nat} {P:PageSay} (h:P∈pagesS c i):(∀ x∈P.changes,x.val.length<256)∧P.changes.length≤255:=by
 unfold pagesS pagesTo at h
 obtain ⟨k,_,hk⟩:=List.mem_filterMap.1 h
 split at hk
 ·cases hk
 ·exact pageS_small hk
theorem code_tail (c d:Int):∀ (x y:List UInt8),listLt (x.map (fun b=>(b.toNat:Int)+1) ++ [0,c]) (y.map (fun b=>(b.toNat:Int)+1) ++ [0,d])=(Op.bytesLess x y || (decide (x=y) && decide (c<d)))
 | [],[]=>by simp [listLt,Op.bytesLess]
 | [],b :: ys=>by
  have:(0:Int)<(b.toNat:Int)+1:=by omega
  simp [listLt,Op.bytesLess,this]
 | a :: xs,[]=>by
  have h1:¬ ((a.toNat:Int)+1<0):=by omega
  have h2:¬ ((a.toNat:Int)+1=0):=by omega
  simp [listLt,Op.bytesLess,h1,h2]
 | a :: xs,b :: ys=>by
  have ih:=code_tail c d xs ys
  have h1:decide ((a.toNat:Int)+1<(b.toNat:Int)+1)=decide (a<b):=by
   rw [decide_eq_decide,UInt8.lt_iff_toNat_lt];omega
  have h2:decide ((a.toNat:Int)+1=(b.toNat:Int)+1)=decide (a=b):=by
   rw [decide_eq_decide,← UInt8.toNat_inj];omega
  simp only [List.map_cons,List.cons_append,listLt,ih,h1,h2,Op.bytesLess,List.cons.injEq]
  by_cases hab:a=b
  ·subst hab
   simp
  ·simp [hab]
theorem before_eq (a b:Key):before a b=(decide (a.ino<b.ino) || (decide (a.ino=b.ino) && (decide (a.what<b.what) || (decide (a.what=b.what) && (Op.bytesLess a.bytes b.bytes || (decide (a.bytes=b.bytes) && decide (a.chunk<b.chunk))))))):=by
 unfold before Key.code
 simp only [listLt,code_tail]
 have h1:decide ((a.what.toNat:Int)<(b.what.toNat:Int))=decide (a.what<b.what):=by
  rw [decide_eq_decide,UInt8.lt_iff_toNat_lt];omega
 have h2:decide ((a.what.toNat:Int)=(b.what.toNat:Int))=decide (a.what=b.what):=by
  rw [decide_eq_decide,← UInt8.toNat_inj];omega
 rw [h1,h2]
theorem less_irrefl:∀ x:List UInt8,Op.bytesLess x x=false
 | []=>rfl
 | a :: x=>by simp [Op.bytesLess,less_irrefl x]
def cmpI (x y:Int):Int:=if x<y then -1 else if x > y then 1 else 0
def cmpS (x y:List UInt8):Int:=if Op.bytesLess x y then -1 else if x=y then 0 else 1
def firstOf:List Int→Int
 | []=>0
 | x :: l=>if x≠0 then x else firstOf l
def orderK (a b:Key):Int:=firstOf [cmpI a.ino b.ino,cmpI a.what.toNat b.what.toNat,cmpS a.bytes b.bytes,cmpI a.chunk b.chunk]
theorem orderK_lt (a b:Key):decide (orderK a b<0)=before a b:=by
 rw [before_eq]
 unfold orderK cmpI cmpS
 simp only [firstOf]
 have hw:a.what<b.what ↔ a.what.toNat<b.what.toNat:=UInt8.lt_iff_toNat_lt
 have hw2:a.what=b.what ↔ a.what.toNat=b.what.toNat:=UInt8.toNat_inj.symm
 by_cases h1:a.ino<b.ino
 ·simp [h1]
 by_cases h2:a.ino > b.ino
 ·have:a.ino≠b.ino:=by omega
  simp [h1,h2,this]
 have h3:a.ino=b.ino:=by omega
 by_cases h4:a.what.toNat<b.what.toNat
 ·have h4':(a.what.toNat:Int)<(b.what.toNat:Int):=by omega
  simp [h3,hw,h4,h4']
 by_cases h5:a.what.toNat > b.what.toNat
 ·have h5':¬ (a.what.toNat:Int)<(b.what.toNat:Int):=by omega
  have h5'':(b.what.toNat:Int)<(a.what.toNat:Int):=by omega
  have h6:¬ a.what.toNat=b.what.toNat:=by omega
  simp [h3,hw,hw2,h4,h5,h5',h5'',h6]
 have h6:a.what.toNat=b.what.toNat:=by omega
 have h7:a.what=b.what:=hw2.2 h6
 cases hb:Op.bytesLess a.bytes b.bytes with
 | true=>simp [h3,h7,hb]
 | false =>
  by_cases he:a.bytes=b.bytes
  ·by_cases hc:a.chunk<b.chunk
   ·simp [h3,h7,he,hc,less_irrefl]
   ·by_cases hc2:a.chunk > b.chunk
    ·simp [h3,h7,he,hc,hc2,less_irrefl]
    ·simp [h3,h7,he,hc,hc2,less_irrefl]
  ·simp [h3,h7,hb,he]
theorem cmp_int_spec (x y:Int) (w:World):CallsR prog K.cmp_Compare_int #[.int .i64 x,.int .i64 y] w fun v w'=>v= .int .i64 (cmpI x y)∧w'=w:=by
 apply cmp_Compare_int.sh
 unfold cmp_Compare_int.body
 have nan:∀ x:Int,CallsR prog K.cmp_isNaN_int #[.int .i64 x] w fun v w'=>v= .bool false∧w'=w:=fun x=>by
  apply cmp_isNaN_int.sh
  unfold cmp_isNaN_int.body
  exact ⟨by simp,rfl⟩
 refine (nan x).mono ?_
 rintro _ _ ⟨rfl,rfl⟩
 refine ⟨_,rfl,(nan y).mono ?_⟩
 rintro _ _ ⟨rfl,rfl⟩
 refine ⟨_,rfl,?_⟩
 simp only [br_false]
 unfold cmpI
 refine br_dec (fun h=>⟨by rw [if_pos h],by trivial⟩) fun h=>br_dec (fun h2=>⟨by rw [if_neg h,if_pos h2],by trivial⟩) fun h2=>⟨by rw [if_neg h,if_neg h2],by trivial⟩
theorem cmp_u8_spec (x y:UInt8) (w:World):CallsR prog K.cmp_Compare_uint8 #[bv x,bv y] w fun v w'=>v= .int .i64 (cmpI x.toNat y.toNat)∧w'=w:=by
 apply cmp_Compare_uint8.sh
 unfold cmp_Compare_uint8.body
 have nan:∀ x:UInt8,CallsR prog K.cmp_isNaN_uint8 #[bv x] w fun v w'=>v= .bool false∧w'=w:=fun x=>by
  apply cmp_isNaN_uint8.sh
  unfold cmp_isNaN_uint8.body
  exact ⟨by simp,rfl⟩
 refine (nan x).mono ?_
 rintro _ _ ⟨rfl,rfl⟩
 refine ⟨_,rfl,(nan y).mono ?_⟩
 rintro _ _ ⟨rfl,rfl⟩
 refine ⟨_,rfl,?_⟩
 simp only [br_false]
 unfold cmpI
 refine br_dec (fun h=>⟨by rw [if_pos h],by trivial⟩) fun h=>br_dec (fun h2=>⟨by rw [if_neg h,if_pos h2],by trivial⟩) fun h2=>⟨by rw [if_neg h,if_neg h2],by trivial⟩
theorem toList_data (s:ByteArray):s.toList=s.data.toList:=by rw [ByteArray.toList_eq]
theorem cmp_str_spec (x y:ByteArray) (w:World):CallsR prog K.cmp_Compare_string #[.string x,.string y] w fun v w'=>v= .int .i64 (cmpS x.data.toList y.data.toList)∧w'=w:=by
 apply cmp_Compare_string.sh
 unfold cmp_Compare_string.body
 have nan:∀ x:ByteArray,CallsR prog K.cmp_isNaN_string #[.string x] w fun v w'=>v= .bool false∧w'=w:=fun x=>by
  apply cmp_isNaN_string.sh
  unfold cmp_isNaN_string.body
  exact ⟨by simp,rfl⟩
 refine (nan x).mono ?_
 rintro _ _ ⟨rfl,rfl⟩
 refine ⟨_,rfl,(nan y).mono ?_⟩
 rintro _ _ ⟨rfl,rfl⟩
 refine ⟨_,rfl,?_⟩
 simp only [br_false,toList_data]
 unfold cmpS
 refine br_intro (fun h=>⟨by rw [if_pos h],by trivial⟩) fun h=>br_intro (fun h2=>⟨?_,by trivial⟩) fun h2=>⟨?_,by trivial⟩
 ·rw [if_neg (by rw [h];decide)]
  have:¬ x.data.toList=y.data.toList:=by intro e;rw [e] at h2;simp at h2
  rw [if_neg this]
 ·rw [if_neg (by rw [h];decide)]
  have:x.data.toList=y.data.toList:=by rw [h] at h2;simpa using h2
  rw [if_pos this]
theorem cmp_or_spec {w:World} {b:Nat} {l:List Int} (hr:RowAt w (some ⟨b,0,none⟩) (l.map (Value.int .i64))) (hn:l.length<1000000) (c:Nat):CallsR prog K.cmp_Or_int #[.slice (some ⟨b,0,none⟩) l.length c] w fun v w'=>v= .int .i64 (firstOf l)∧w'=w:=by
 apply cmp_Or_int.sh
 unfold cmp_Or_int.body
 refine ⟨fun x u=>∃ i:Nat,x=i∧i≤l.length∧u=w∧firstOf l=firstOf (l.drop i),fun x _=>((l.length:Int) - x).toNat,⟨0,rfl,by omega,rfl,rfl⟩,?_⟩
 rintro x u ⟨i,rfl,hi,rfl,hf⟩
 refine br_dec (fun hlt=>?_) fun hge=>?_
 ·have hi':i<l.length:=by omega
  refine ⟨by omega,by omega,?_⟩
  simp only [nilC_some',add_lit,Nat.zero_add,Nat.mul_one,Int.toNat_natCast]
  have hd:l.drop i=l[i] :: l.drop (i+1):=List.drop_eq_getElem_cons hi'
  have hcell:=row_cell hr (j:=i) (v:=.int .i64 l[i]) (by simp [hi'])
  rw [Nat.zero_add] at hcell
  refine ⟨_,hcell,br_ne (fun h=>⟨?_,by trivial⟩) fun h=>?_⟩
  ·rw [hf,hd];simp only [firstOf];rw [if_pos h]
  ·rw [w64 (by omega) (by omega)]
   exact ⟨⟨i+1,by omega,hi',by trivial,by rw [hf,hd];simp only [firstOf];rw [if_neg (by simpa using h)]⟩,by omega⟩
 ·have:l.drop i=[]:=List.drop_of_length_le (by omega)
  rw [this] at hf
  exact ⟨by rw [hf];rfl,rfl⟩
theorem fact_order_spec (a b:Key) (w:World):CallsR prog K.fact_order #[keyV a,keyV b] w fun v w'=>v= .int .i64 (orderK a b)∧Ext w w':=by
 apply fact_order.sh
 suffices H:∀ R:Value→World→Prop,(∀ v w',v= .int .i64 (orderK a b)∧Ext w w'→R v w')→fact_order.body a.ino a.what.toNat a.name a.chunk b.ino b.what.toNat b.name b.chunk w R from H _ fun _ _ h=>h
 intro R hR
 unfold fact_order.body
 simp only [add_lit,Nat.zero_add]
 intro B1 w₁ hn1 B2 w₂ hn2 w₃ hd3
 have g1:KeyAt w₃ B1 a:=Ext.get hd3.upd (Ext.get hn2.upd hn1.get)
 have g2:KeyAt w₃ B2 b:=Ext.get hd3.upd hn2.get
 have e3:Ext w w₃:=(hn1.upd.trans hn2.upd).trans hd3.upd
 refine ⟨fun u=>Ext w₃ u,Upd.refl _ _,_,fun u h=>cell_of (Ext.get h g1) rfl,_,fun u h=>cell_of (Ext.get h g2) rfl,_,fun u h=>cell_of (Ext.get h g1) rfl,_,fun u h=>cell_of (Ext.get h g2) rfl,_,fun u h=>cell_of (Ext.get h g1) rfl,_,fun u h=>cell_of (Ext.get h g2) rfl,_,fun u h=>cell_of (Ext.get h g1) rfl,_,fun u h=>cell_of (Ext.get h g2) rfl,?_⟩
 refine (cmp_int_spec _ _ w₃).mono ?_
 rintro _ _ ⟨rfl,rfl⟩
 refine ⟨_,rfl,Upd.refl _ _,(cmp_u8_spec _ _ _).mono ?_⟩
 rintro _ _ ⟨rfl,rfl⟩
 refine ⟨_,rfl,Upd.refl _ _,(cmp_str_spec _ _ _).mono ?_⟩
 rintro _ _ ⟨rfl,rfl⟩
 refine ⟨_,rfl,Upd.refl _ _,(cmp_int_spec _ _ _).mono ?_⟩
 rintro _ _ ⟨rfl,rfl⟩
 refine ⟨_,rfl,Upd.refl _ _,fun B3 w₈ hn8=>⟨hn8.upd,?_⟩⟩
 refine (cmp_or_spec (l:=[cmpI a.ino b.ino,cmpI a.what.toNat b.what.toNat,cmpS a.bytes b.bytes,cmpI a.chunk b.chunk]) (RowAt.of hn8.get fun j v hj=>by simpa [Key.bytes] using hj) (by simp) 4).mono ?_
 rintro _ _ ⟨rfl,rfl⟩
 exact ⟨_,rfl,hn8.upd,hR _ _ ⟨rfl,e3.trans hn8.upd⟩⟩
theorem fact_Before_spec (a b:Key) (w:World):CallsR prog K.fact_Before #[keyV a,keyV b] w fun v w'=>v= .bool (before a b)∧Ext w w':=by
 apply fact_Before.sh
 suffices H:∀ R:Value→World→Prop,(∀ v w',v= .bool (before a b)∧Ext w w'→R v w')→fact_Before.body a.ino a.what.toNat a.name a.chunk b.ino b.what.toNat b.name b.chunk w R from H _ fun _ _ h=>h
 intro R hR
 unfold fact_Before.body
 intro B1 w₁ hn1 B2 w₂ hn2
 have g1:KeyAt w₂ B1 a:=Ext.get hn2.upd hn1.get
 have g2:KeyAt w₂ B2 b:=hn2.get
 refine ⟨_,_,_,_,key_cells g1,_,_,_,_,key_cells g2,(fact_order_spec a b w₂).mono ?_⟩
 rintro _ w₃ ⟨rfl,he3⟩
 exact ⟨_,rfl,hR _ _ ⟨by rw [orderK_lt],(hn1.upd.trans hn2.upd).trans he3⟩⟩
def factR:ERep Fact:=ERep.pair keyR bytesR (fun x:Fact=>x.key) (fun x=>x.val)
abbrev factVs (k:Key) (a:Option Addr) (n c:Nat):List Value:=[.int .i64 k.ino,bv k.what,.string k.name,.int .i64 k.chunk,.slice a n c]
theorem factR_intro {w:World} {G:Nat→Prop} {x:Fact} {a:Option Addr} {c:Nat} (hc:x.val.length≤c) (hb:BytesAt w a x.val) (hg:x.val≠[]→∀ p,a=some p→G p.block):factR.R w G (factVs x.key a x.val.length c) x :=
 ⟨x.key.vals,[.slice a x.val.length c],rfl,rfl,a,c,rfl,hc,hb,hg⟩
theorem factR_elim {w:World} {G:Nat→Prop} {x:Fact} {vs:List Value} (h:factR.R w G vs x):∃ a c,vs=factVs x.key a x.val.length c∧x.val.length≤c∧BytesAt w a x.val∧(x.val≠[]→∀ p,a=some p→G p.block):=by
 obtain ⟨u,v,rfl,hu,a,c,hs,hc,hb,hg⟩:=h
 have hu':u=x.key.vals:=hu
 have hs':v=[.slice a x.val.length c]:=hs
 subst hu';subst hs'
 exact ⟨a,c,rfl,hc,hb,hg⟩
theorem ordered_take (l:List Fact) {i:Nat} (hi:i+1<l.length):ordered (l.take (i+2))=(ordered (l.take (i+1)) && before (l[i]'(by omega)).key l[i+1].key):=by
 induction l generalizing i with
 | nil=>simp at hi
 | cons x l ih =>
  cases l with
  | nil=>simp at hi
  | cons y l =>
   cases i with
   | zero=>simp [ordered]
   | succ i =>
    have:=ih (i:=i) (by simpa using hi)
    simp only [List.take_succ_cons,ordered,List.getElem_cons_succ] at this ⊢
    rw [this,Bool.and_assoc]
theorem ordered_small {l:List Fact} (h:l.length≤1):ordered l=true:=by
 match l,h with
 | [],_=>rfl
 | [x],_=>rfl
theorem ordered_false {l:List Fact}:∀ {n:Nat},ordered (l.take n)=false→ordered l=false:=by
 intro n h
 cases ho:ordered l with
 | false=>rfl
 | true =>
  have:=ordered_sorted.1 ho
  have h2:ordered (l.take n)=true:=ordered_sorted.2 (List.Pairwise.sublist (List.take_sublist _ _) this)
  rw [h] at h2;cases h2
theorem fact_isOrdered_spec {w:World} {G:Nat→Prop} {a:Option Addr} {c:Nat} {l:List Fact} (h:SliceAt factR w G a l) (hn:l.length<9000000000000000000) :
  CallsR prog K.fact_isOrdered #[.slice a l.length c] w fun v w'=>v= .bool (ordered l)∧Ext w w':=by
 apply fact_isOrdered.sh
 unfold fact_isOrdered.body
 refine ⟨fun x u=>∃ i:Nat,x=((i+1:Nat):Int)∧(i+1≤l.length∨i=0)∧Ext w u∧ordered (l.take (i+1))=true,fun x _=>((l.length:Int) - x).toNat,⟨0,rfl,.inr rfl,Upd.refl _ _,ordered_small (by rw [List.length_take];omega)⟩,?_⟩
 rintro x u ⟨i,rfl,hi,heu,ho⟩
 refine br_dec (fun hlt=>?_) fun hge=>⟨?_,heu⟩
 ·have hi':i+1<l.length:=by omega
  have hi0:i<l.length:=by omega
  intro w₂ hd2
  have e2:=heu.trans hd2.upd
  have q1:IntKind.i64.wrap (((i+1:Nat):Int) - 1)=(i:Int):=by rw [w64 (by omega) (by omega)];omega
  have q2:IntKind.i64.wrap (((i+1:Nat):Int)+1)=((i+1+1:Nat):Int):=by rw [w64 (by omega) (by omega)];omega
  simp only [q1,q2]
  refine ⟨fun u=>Ext w₂ u,Upd.refl _ _,SliceAt.idx (r:=factR) (h.ext e2) rfl hi0 fun b o vs _ hrow hR _=>?_⟩
  obtain ⟨_,_,rfl,_,_,_⟩:=factR_elim hR
  refine ⟨_,_,_,_,fun u1 hu1=>(RowAt.take (hrow.ext hu1) 4).cells,SliceAt.idx (r:=factR) (h.ext e2) rfl hi' fun b o vs _ hrow hR _=>?_⟩
  obtain ⟨_,_,rfl,_,_,_⟩:=factR_elim hR
  refine ⟨_,_,_,_,fun u1 hu1=>(RowAt.take (hrow.ext hu1) 4).cells,(fact_Before_spec l[i].key l[i+1].key w₂).mono ?_⟩
  rintro _ w₃ ⟨rfl,he3⟩
  have hstep:=ordered_take l hi'
  rw [ho,Bool.true_and] at hstep
  refine ⟨_,rfl,br_intro (fun hb=>⟨?_,e2.trans he3⟩) fun hb=>⟨⟨i+1,rfl,.inl hi',e2.trans he3,by rw [hstep];simpa using hb⟩,by omega⟩⟩
  rw [ordered_false (n:=i+2) (by rw [hstep];simpa using hb)]
 ·rw [List.take_of_length_le (by omega)] at ho
  rw [ho]
theorem less_cons_iff (a b:UInt8) (x y:List UInt8):Op.bytesLess (a :: x) (b :: y)=(decide (a<b) || (a == b && Op.bytesLess x y)):=rfl
theorem less_at:∀ {x y:List UInt8} (i:Nat) (hx:i<x.length) (hy:i<y.length),x.take i=y.take i→x[i]≠y[i]→Op.bytesLess x y=decide (x[i]<y[i])
 | a :: x,b :: y,0,_,_,_,hne=>by
  simp only [List.getElem_cons_zero] at hne ⊢
  rw [less_cons_iff]
  simp [hne]
 | a :: x,b :: y,i+1,hx,hy,ht,hne=>by
  simp only [List.take_succ_cons,List.cons.injEq] at ht
  obtain ⟨rfl,ht⟩:=ht
  simp only [List.getElem_cons_succ] at hne ⊢
  rw [less_cons_iff,less_at i (by simpa using hx) (by simpa using hy) ht hne]
  have:¬ a<a:=by rw [UInt8.lt_iff_toNat_lt];omega
  simp [this]
theorem less_pre:∀ {x y:List UInt8} (i:Nat),x.take i=y.take i→(i=x.length∨i=y.length)→i≤x.length→i≤y.length→Op.bytesLess x y=decide (x.length<y.length)∧(x.length=y.length→x=y)
 | [],[],_,_,_,_,_=>⟨rfl,fun _=>rfl⟩
 | [],b :: y,i,_,h,h1,h2=>⟨by simp [Op.bytesLess],fun e=>by simp at e⟩
 | a :: x,[],i,_,h,h1,h2=>⟨by simp [Op.bytesLess],fun e=>by simp at e⟩
 | a :: x,b :: y,0,_,h,_,_=>by simp at h
 | a :: x,b :: y,i+1,ht,h,h1,h2=>by
  simp only [List.take_succ_cons,List.cons.injEq] at ht
  obtain ⟨rfl,ht⟩:=ht
  have ih:=less_pre i ht (by simpa using h) (by simpa using h1) (by simpa using h2)
  rw [less_cons_iff,ih.1]
  have:¬ a<a:=by rw [UInt8.lt_iff_toNat_lt];omega
  exact ⟨by simp [this],fun e=>by rw [ih.2 (by simpa using e)]⟩
theorem carrackref06_order_spec (s t:ByteArray) (hs:s.size<9223372036854775807) (ht:t.size<9223372036854775807) (w:World) :
  CallsR prog K.carrackref06_order #[.string s,.string t] w fun v w'=>Ext w w'∧∃ n:Int,v= .int .i64 n∧(decide (n<0)=Op.bytesLess s.data.toList t.data.toList)∧(n=0 ↔ s.data.toList=t.data.toList):=by
 apply carrackref06_order.sh
 unfold carrackref06_order.body
 have e1:=size_data s
 have e2:=size_data t
 rw [e1,e2]
 generalize s.data.toList=x at *
 generalize t.data.toList=y at *
 refine ⟨fun z u=>∃ i:Nat,z=i∧i≤x.length∧i≤y.length∧Ext w u∧x.take i=y.take i,fun z _=>((x.length:Int) - z).toNat,⟨0,rfl,by omega,by omega,Upd.refl _ _,rfl⟩,?_⟩
 rintro z u ⟨i,rfl,hx,hy,heu,heq⟩
 have fin:(i=x.length∨i=y.length)→(Ext w u∧∃ n:Int,Value.int .i64 (IntKind.i64.wrap (((x.length:Nat):Int) - ((y.length:Nat):Int)))= .int .i64 n∧(decide (n<0)=Op.bytesLess x y)∧(n=0 ↔ x=y)):=fun h=>by
  obtain ⟨p1,p2⟩:=less_pre i heq h hx hy
  refine ⟨heu,_,rfl,?_,?_⟩
  ·rw [w64 (by omega) (by omega),p1,decide_eq_decide];omega
  ·rw [w64 (by omega) (by omega)]
   exact ⟨fun e=>p2 (by omega),fun e=>by rw [e];omega⟩
 refine br_dec (fun hlt=>br_dec (fun hlt2=>?_) fun h=>fin (.inr (by omega))) fun h=>fin (.inl (by omega))
 have hx':i<x.length:=by omega
 have hy':i<y.length:=by omega
 intro w₂ hd2
 refine ⟨(·=w₂),rfl,by omega,x[i],by simp [hx'],by omega,y[i],by simp [hy'],br_ne (fun hne=>?_) fun heq'=>?_⟩
 ·intro w₃ hd3
  refine ⟨(·=w₃),rfl,by omega,x[i],by simp [hx'],by omega,y[i],by simp [hy'],(heu.trans hd2.upd).trans hd3.upd,_,rfl,?_,?_⟩
  ·have hne':x[i]≠y[i]:=fun e=>hne (by rw [e])
   rw [less_at i hx' hy' heq hne',w64n (by have:=x[i].toNat_lt;omega),w64n (by have:=y[i].toNat_lt;omega),w64 (by have:=x[i].toNat_lt;have:=y[i].toNat_lt;omega) (by have:=x[i].toNat_lt;have:=y[i].toNat_lt;omega),decide_eq_decide,UInt8.lt_iff_toNat_lt]
   omega
  ·rw [w64n (by have:=x[i].toNat_lt;omega),w64n (by have:=y[i].toNat_lt;omega),w64 (by have:=x[i].toNat_lt;have:=y[i].toNat_lt;omega) (by have:=x[i].toNat_lt;have:=y[i].toNat_lt;omega)]
   constructor
   ·intro e;exact absurd (by omega) hne
   ·rintro rfl;exact absurd rfl hne
 ·rw [w64 (by omega) (by omega)]
  have hxy:x[i]=y[i]:=UInt8.toNat_inj.1 (by have:(x[i].toNat:Int)=(y[i].toNat:Int):=heq';omega)
  exact ⟨⟨i+1,rfl,hx',hy',heu.trans hd2.upd,by rw [List.take_succ_eq_append_getElem hx',List.take_succ_eq_append_getElem hy',heq,hxy]⟩,meas hx'⟩
theorem carrackref06_Before_spec (a b:Key) (ha:a.name.size<9223372036854775807) (hb:b.name.size<9223372036854775807) (w:World):CallsR prog K.carrackref06_Before #[keyV a,keyV b] w fun v w'=>v= .bool (before a b)∧Ext w w':=by
 apply carrackref06_Before.sh
 suffices H:∀ R:Value→World→Prop,(∀ v w',v= .bool (before a b)∧Ext w w'→R v w')→carrackref06_Before.body a.ino a.what.toNat a.name a.chunk b.ino b.what.toNat b.name b.chunk w R from H _ fun _ _ h=>h
 intro R hR
 unfold carrackref06_Before.body
 simp only [add_lit,Nat.zero_add]
 intro B1 w₁ hn1 B2 w₂ hn2
 have g1:KeyAt w₂ B1 a:=Ext.get hn2.upd hn1.get
 have g2:KeyAt w₂ B2 b:=hn2.get
 have e2:=hn1.upd.trans hn2.upd
 rw [before_eq] at hR
 refine ⟨_,cell_of g1 rfl,_,cell_of g2 rfl,br_ne (fun hne=>⟨_,cell_of g1 rfl,_,cell_of g2 rfl,hR _ _ ⟨?_,e2⟩⟩) fun h1=>?_⟩
 ·rw [decide_eq_false (p:=a.ino=b.ino) hne];simp
 rw [decide_eq_false (p:=a.ino<b.ino) (by omega),decide_eq_true (p:=a.ino=b.ino) h1,Bool.false_or,Bool.true_and] at hR
 refine ⟨_,cell_of g1 rfl,_,cell_of g2 rfl,br_ne (fun hne=>⟨_,cell_of g1 rfl,_,cell_of g2 rfl,hR _ _ ⟨?_,e2⟩⟩) fun h2=>?_⟩
 ·have hne':a.what≠b.what:=fun e=>hne (by rw [e])
  rw [decide_eq_false (p:=a.what=b.what) hne']
  simp only [Bool.false_and,Bool.or_false]
  congr 1
  rw [decide_eq_decide,UInt8.lt_iff_toNat_lt];omega
 have h2':a.what=b.what:=UInt8.toNat_inj.1 (by have:(a.what.toNat:Int)=(b.what.toNat:Int):=h2;omega)
 rw [decide_eq_false (p:=a.what<b.what) (by rw [UInt8.lt_iff_toNat_lt];omega),decide_eq_true (p:=a.what=b.what) h2',Bool.false_or,Bool.true_and] at hR
 refine ⟨_,cell_of g1 rfl,_,cell_of g2 rfl,(carrackref06_order_spec a.name b.name ha hb w₂).mono ?_⟩
 rintro _ w₃ ⟨he3,n,rfl,hn1',hn2'⟩
 have hbl:Op.bytesLess a.bytes b.bytes=decide (n<0):=hn1'.symm
 have hbe:n=0 ↔ a.bytes=b.bytes:=hn2'
 refine ⟨_,rfl,br_ne (fun hne=>hR _ _ ⟨?_,e2.trans he3⟩) fun h3=>⟨_,cell_of (Ext.get he3 g1) rfl,_,cell_of (Ext.get he3 g2) rfl,hR _ _ ⟨?_,e2.trans he3⟩⟩⟩
 ·rw [hbl,decide_eq_false (p:=a.bytes=b.bytes) (fun e=>hne (hbe.2 e))];simp
 ·rw [hbl,decide_eq_true (p:=a.bytes=b.bytes) (hbe.1 h3),decide_eq_false (p:=n<0) (by omega)];simp
end Go.Den
