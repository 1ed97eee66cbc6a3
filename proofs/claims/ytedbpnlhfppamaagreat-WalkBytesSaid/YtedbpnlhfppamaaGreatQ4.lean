/- Contracts of point (layer 17) and its reference. (Merged and shortened by program: SPool4 SRef4 MLaw4a SLaw4 Rep4 Rep5 Rep6 SRead MFact SFact SKey SRec SFact2 MLeaf MBerger MHead MDeed MPlay MPlay2 MPlay3 MPlay4 MRises MCuts MPage MJour MJour2 SJour SJour2 SScan SScan2 Rep7 SPut11 SLoad SLaw12 SChip MLaw12 SScan3 SFact3 SFact4 Rep8 SClone SOwn SApply SPlay SPlay2 SJour3 SScan4 SLeaf SLeaf3 SPut15 SPoint.) -/
import Derived.Test.YtedbpnlhfppamaaGreatQ3
import Derived.Lib.Overlaps
set_option linter.unusedVariables false
set_option linter.unusedSimpArgs false
set_option maxRecDepth 20000
namespace Go.Den
def pref {α:Type} (lt:α→α→Bool) (l:List α) (i:Nat):List α:=(l.take i).foldl (fun acc x=>sink lt x acc) []
theorem sink_length {α:Type} (lt:α→α→Bool) (x:α) (l:List α):(sink lt x l).length=l.length+1:=by
 induction l with
 | nil=>rfl
 | cons y l ih=>unfold sink;split<;>simp [ih]
theorem pref_succ {α:Type} (lt:α→α→Bool) (l:List α) (i:Nat) (hi:i<l.length):pref lt l (i+1)=sink lt l[i] (pref lt l i):=by
 unfold pref
 rw [List.take_succ_eq_append_getElem hi,List.foldl_append]
 rfl
theorem pref_length {α:Type} (lt:α→α→Bool) (l:List α) (i:Nat) (hi:i≤l.length):(pref lt l i).length=i:=by
 induction i with
 | zero=>simp [pref]
 | succ i ih=>rw [pref_succ lt l i hi,sink_length,ih (by omega)]
theorem pref_all {α:Type} (lt:α→α→Bool) (l:List α):(pref lt l l.length).reverse=isort lt l:=by simp [pref,isort]
theorem sink_mem {α:Type} (lt:α→α→Bool) (x y:α) (l:List α):y∈sink lt x l ↔ y=x∨y∈l:=by
 induction l with
 | nil=>simp [sink]
 | cons z l ih =>
  unfold sink
  split
  ·simp [ih];constructor
   ·rintro (h | h | h)
    ·exact .inr (.inl h)
    ·exact .inl h
    ·exact .inr (.inr h)
   ·rintro (h | h | h)
    ·exact .inr (.inl h)
    ·exact .inl h
    ·exact .inr (.inr h)
  ·simp
theorem isort_mem {α:Type} (lt:α→α→Bool) (y:α) (l:List α):y∈isort lt l ↔ y∈l:=by
 unfold isort
 rw [List.mem_reverse]
 have:∀ (acc:List α),y∈l.foldl (fun acc x=>sink lt x acc) acc ↔ y∈acc∨y∈l:=by
  induction l with
  | nil=>intro acc;simp
  | cons x l ih =>
   intro acc
   rw [List.foldl_cons,ih,sink_mem]
   simp only [List.mem_cons]
   constructor
   ·rintro ((h | h) | h)
    ·exact .inr (.inl h)
    ·exact .inl h
    ·exact .inr (.inr h)
   ·rintro (h | h | h)
    ·exact .inl (.inr h)
    ·exact .inl (.inl h)
    ·exact .inr h
 rw [this];simp
theorem isort_length {α:Type} (lt:α→α→Bool) (l:List α):(isort lt l).length=l.length:=by
 rw [← pref_all,List.length_reverse,pref_length lt l _ (Nat.le_refl _)]
abbrev takenV (t:Taken):Value:=.agg #[.int .i64 t.block,bv t.head.kind,.int .u32 t.head.era,.int .u64 t.head.seq,.bool t.bad]
theorem pool_Taken_1_spec (a b:Taken) (ha:a.block<1000000) (hb:b.block<1000000) (w:World) :
  CallsR prog K.pool_Pool_Taken_1 #[takenV a,takenV b] w fun v w'=>∃ x:Int,v= .int .i64 x∧decide (x<0)=takenLt a b∧Ext w w':=by
 apply pool_Pool_Taken_1.sh
 intro B₁ w₁ hn1 B₂ w₂ hn2
 have e2:=hn1.upd.trans hn2.upd
 have h1:=Ext.get hn2.upd hn1.get
 have h2:=hn2.get
 simp only [add_lit]
 refine ⟨_,cell_of h1 rfl,_,cell_of h2 rfl,br_dec (fun hlt=>⟨_,rfl,?_,e2⟩) fun hge=>⟨_,cell_of h1 rfl,_,cell_of h2 rfl,br_dec (fun hgt=>⟨_,rfl,?_,e2⟩) fun hle=>⟨_,cell_of h1 rfl,_,cell_of h2 rfl,_,rfl,?_,e2⟩⟩⟩
 ·have q:decide (a.head.seq<b.head.seq)=true:=decide_eq_true (by omega)
  simp [takenLt,q]
 ·have q:decide (a.head.seq<b.head.seq)=false:=decide_eq_false (by omega)
  have q2:decide (a.head.seq=b.head.seq)=false:=decide_eq_false (by omega)
  simp [takenLt,q,q2]
 ·have q:decide (a.head.seq<b.head.seq)=false:=decide_eq_false (by omega)
  have q2:decide (a.head.seq=b.head.seq)=true:=decide_eq_true (by omega)
  rw [w64 (by omega) (by omega)]
  simp only [takenLt,q,q2,Bool.false_or,Bool.true_and]
  exact decide_eq_decide.2 (by omega)
theorem swap_list {α:Type} (A R:List α) (x y:α):((A ++ y :: x :: R).set (A.length+1) y).set A.length x=A ++ x :: y :: R:=by
 rw [List.set_append_right _ _ (by omega),List.set_append_right _ _ (by omega)]
 simp
theorem own_set {α:Type} {f:α→List Value} {k:Nat} (hf:∀ x,(f x).length=k) {w:World} {b cap:Nat} {e:TypeId} {l:List α} (h:OwnAt w (some ⟨b,0,none⟩) l.length cap e k (l.flatMap f)) {i:Nat} (hi:i<l.length) (x:α) {K:World→Prop}
  (hk:∀ w',Upd (·=b) w w'→OwnAt w' (some ⟨b,0,none⟩) (l.set i x).length cap e k ((l.set i x).flatMap f)→K w'):storeP w ⟨b,i * k,none⟩ (f x) K:=by
 refine own_store h (by rw [flat_len hf,hf,← Nat.succ_mul];exact Nat.mul_le_mul_right _ hi) fun w' hu ho=>hk w' hu ?_
 rw [hf,flat_set hf l hi x] at ho
 rw [List.length_set]
 exact ho
theorem insertionSort_spec {w:World} {a:Option Addr} {l:List Taken} {cap cp:Nat} (h:OwnAt w a l.length cap T.api_Taken 5 (l.flatMap Taken.vals)) (hb:∀ t∈l,t.block<1000000) (hl:l.length<1000) :
  CallsR prog K.slices_insertionSortCmpFunc_api_Taken #[.slice a l.length cp,.int .i64 0,.int .i64 l.length,.func (.func K.pool_Pool_Taken_1) #[] #[]] w fun v w'=>v= .tuple #[]∧Upd (fun b=>a=some ⟨b,0,none⟩) w w'∧OwnAt w' a (isort takenLt l).length cap T.api_Taken 5 ((isort takenLt l).flatMap Taken.vals):=by
 apply slices_insertionSortCmpFunc_api_Taken.sh
 have e01:IntKind.i64.wrap ((0:Int)+1)=((1:Nat):Int):=by decide
 unfold slices_insertionSortCmpFunc_api_Taken.body
 rw [e01]
 refine ⟨fun x u=>∃ i:Nat,x=i∧1≤i∧(i≤l.length∨i=1)∧Upd (fun b=>a=some ⟨b,0,none⟩) w u∧OwnAt u a ((pref takenLt l i).reverse ++ l.drop i).length cap T.api_Taken 5 (((pref takenLt l i).reverse ++ l.drop i).flatMap Taken.vals),
  fun x _=>(l.length - x).toNat,⟨1,rfl,by omega,.inr rfl,Upd.refl _ _,?_⟩,?_⟩
 ·have:(pref takenLt l 1).reverse ++ l.drop 1=l:=by
   cases l with
   | nil=>rfl
   | cons x l=>rfl
  rw [this];exact h
 rintro x u ⟨i,rfl,hi1,hi,hu,ho⟩
 refine br_dec (fun hlt=>?_) fun hge=>?_
 ·have hil:i<l.length:=by omega
  have hpl:=pref_length takenLt l i (by omega)
  have hdrop:l.drop i=l[i] :: l.drop (i+1):=List.drop_eq_getElem_cons hil
  have hblk:∀ t,t∈pref takenLt l i→t.block<1000000:=by
   intro t ht
   have:t∈isort takenLt (l.take i):=by unfold isort;exact List.mem_reverse.2 ht
   rw [isort_mem] at this
   exact hb t (List.mem_of_mem_take this)
  have hbi:l[i].block<1000000:=hb _ (List.getElem_mem hil)
  rw [hdrop] at ho
  obtain ⟨B,rfl⟩: ∃ B,a=some ⟨B,0,none⟩:=by
   obtain ⟨_,_,hx⟩:=h
   rcases hx with ⟨_,hx,_⟩| ⟨b,cur,hx,_⟩
   ·omega
   ·exact ⟨b,hx⟩
  have hF:∀ {u u':World},Upd (·=B) u u'→Upd (fun b=>(some ⟨B,0,none⟩: Option Addr)=some ⟨b,0,none⟩) u u':=fun k=>k.mono fun x _ hx=>by rw [hx]
  have e1:IntKind.i64.wrap ((i:Int)+1)=((i+1:Nat):Int):=w64 (by omega) (by omega)
  refine ⟨fun x v=>∃ A D:List Taken,x=(A.length:Int)∧pref takenLt l i=D ++ A∧sink takenLt l[i] (pref takenLt l i)=D ++ sink takenLt l[i] A∧Upd (fun b=>(some ⟨B,0,none⟩: Option Addr)=some ⟨b,0,none⟩) w v∧
    OwnAt v (some ⟨B,0,none⟩) (A.reverse ++ l[i] :: (D.reverse ++ l.drop (i+1))).length cap T.api_Taken 5 ((A.reverse ++ l[i] :: (D.reverse ++ l.drop (i+1))).flatMap Taken.vals),fun x _=>x.toNat,⟨pref takenLt l i,[],by rw [hpl],rfl,rfl,hu,ho⟩,?_⟩
  rintro y v ⟨A,D,rfl,hAD,hsk,huv,hov⟩ w₃ hd3
  have hlen:∀ X:Taken,(A.reverse ++ X :: (D.reverse ++ l.drop (i+1))).length=l.length:=by
   intro X
   have:D.length+A.length=i:=by rw [← hpl,hAD,List.length_append]
   simp;omega
  have hend:∀ {v':World},sink takenLt l[i] A=l[i] :: A→Upd (fun b=>(some ⟨B,0,none⟩: Option Addr)=some ⟨b,0,none⟩) w v'→
    OwnAt v' (some ⟨B,0,none⟩) (A.reverse ++ l[i] :: (D.reverse ++ l.drop (i+1))).length cap T.api_Taken 5 ((A.reverse ++ l[i] :: (D.reverse ++ l.drop (i+1))).flatMap Taken.vals)→
    (∃ i':Nat,IntKind.i64.wrap ((i:Int)+1)=i'∧1≤i'∧(i'≤l.length∨i'=1)∧Upd (fun b=>(some ⟨B,0,none⟩: Option Addr)=some ⟨b,0,none⟩) w v'∧OwnAt v' (some ⟨B,0,none⟩) ((pref takenLt l i').reverse ++ l.drop i').length cap T.api_Taken 5 (((pref takenLt l i').reverse ++ l.drop i').flatMap Taken.vals))∧
     ((l.length:Int) - IntKind.i64.wrap ((i:Int)+1)).toNat<((l.length:Int) - (i:Int)).toNat:=by
   intro v' hs hu' ho'
   rw [e1]
   refine ⟨⟨i+1,rfl,by omega,.inl hil,hu',?_⟩,meas hil⟩
   have:(pref takenLt l (i+1)).reverse ++ l.drop (i+1)=A.reverse ++ l[i] :: (D.reverse ++ l.drop (i+1)):=by
    rw [pref_succ takenLt l i hil,hsk,hs]
    simp
   rw [this];exact ho'
  have hov3:=OwnAt.ext hov hd3.upd
  have huv3:=huv.then hd3.upd
  refine ⟨fun z=>z=w₃,rfl,br_dec (fun hpos=>?_) fun hzero=>?_⟩
  ·obtain ⟨y,A',rfl⟩: ∃ y A',A=y :: A':=by
    cases A with
    | nil=>simp at hpos
    | cons y A'=>exact ⟨y,A',rfl⟩
   have hly:=hlen l[i]
   simp only [List.reverse_cons,List.append_assoc,List.singleton_append,List.length_cons] at hov3 hpos hly ⊢
   generalize hR:D.reverse ++ l.drop (i+1)=R at *
   have hA:A'.reverse.length=A'.length:=List.length_reverse
   have hlx:A'.length+1<(A'.reverse ++ y :: l[i] :: R).length:=by simp
   have hgx:(A'.reverse ++ y :: l[i] :: R)[A'.length+1]=l[i]:=by rw [List.getElem_append_right (by omega)];simp
   have hgy:(A'.reverse ++ y :: l[i] :: R)[A'.length]=y:=by rw [List.getElem_append_right (by omega)];simp
   have em:IntKind.i64.wrap (((A'.length+1:Nat):Int) - 1)=((A'.length:Nat):Int):=by rw [w64 (by omega) (by omega)];omega
   rw [em]
   refine idx_flat (f:=Taken.vals) (l:=A'.reverse ++ y :: l[i] :: R) Taken.vals_length (by omega) hov3.row (by omega) hlx fun b o hab hr=>?_
   cases hab
   rw [hgx] at hr
   refine ⟨l[i].block,l[i].head.kind.toNat,l[i].head.era,l[i].head.seq,l[i].bad,fun z hz=>hz ▸ RowAt.cells hr,?_⟩
   refine idx_flat (f:=Taken.vals) (l:=A'.reverse ++ y :: l[i] :: R) Taken.vals_length (by omega) hov3.row (by omega) (by omega) fun b o hab hr=>?_
   cases hab
   rw [hgy] at hr
   refine ⟨y.block,y.head.kind.toNat,y.head.era,y.head.seq,y.bad,fun z hz=>hz ▸ RowAt.cells hr,?_⟩
   have hby:y.block<1000000:=hblk y (by rw [hAD];simp)
   refine ⟨rfl,?_⟩
   refine (pool_Taken_1_spec l[i] y hbi hby w₃).mono ?_
   rintro _ w₄ ⟨x11,rfl,hx11,he4⟩
   have hov4:=OwnAt.ext hov3 he4
   have huv4:=huv3.then he4
   refine ⟨_,rfl,?_⟩
   rw [hx11]
   refine br_intro (fun ht=>?_) fun hf=>?_
   ·intro w₅ hd5
    have hov5:=OwnAt.ext hov4 hd5.upd
    have huv5:=huv4.then hd5.upd
    refine ⟨fun z=>z=w₅,rfl,?_⟩
    refine idx_flat (f:=Taken.vals) (l:=A'.reverse ++ y :: l[i] :: R) Taken.vals_length (by omega) hov5.row (by omega) (by omega) fun b o hab hr=>?_
    cases hab
    rw [hgy] at hr
    refine ⟨y.block,y.head.kind.toNat,y.head.era,y.head.seq,y.bad,fun z hz=>hz ▸ RowAt.cells hr,?_⟩
    refine idx_flat (f:=Taken.vals) (l:=A'.reverse ++ y :: l[i] :: R) Taken.vals_length (by omega) hov5.row (by omega) hlx fun b o hab hr=>?_
    cases hab
    rw [hgx] at hr
    refine ⟨l[i].block,l[i].head.kind.toNat,l[i].head.era,l[i].head.seq,l[i].bad,fun z hz=>hz ▸ RowAt.cells hr,?_⟩
    refine idx_flat (f:=Taken.vals) (l:=A'.reverse ++ y :: l[i] :: R) Taken.vals_length (by omega) hov5.row (by omega) hlx fun b o hab _=>?_
    cases hab
    rw [Nat.zero_add]
    refine own_set Taken.vals_length hov5 hlx y fun w₆ hu6 ho6=>?_
    refine idx_flat (f:=Taken.vals) Taken.vals_length (by omega) ho6.row (by rw [List.length_set];omega) (by rw [List.length_set];omega) fun b o hab _=>?_
    cases hab
    rw [Nat.zero_add]
    refine own_set Taken.vals_length ho6 (by rw [List.length_set];omega) l[i] fun w₇ hu7 ho7=>?_
    have hsw:((A'.reverse ++ y :: l[i] :: R).set (A'.length+1) y).set A'.length l[i]=A'.reverse ++ l[i] :: y :: R:=by
     have:=swap_list A'.reverse R l[i] y
     rw [hA] at this
     exact this
    rw [hsw] at ho7
    refine ⟨⟨A',D ++ [y],rfl,by rw [hAD];simp,?_,(huv5.trans (hF hu6)).trans (hF hu7),?_⟩,by omega⟩
    ·rw [hsk]
     have:sink takenLt l[i] (y :: A')=y :: sink takenLt l[i] A':=by rw [sink,if_pos ht]
     rw [this];simp
    ·have:A'.reverse ++ l[i] :: ((D ++ [y]).reverse ++ l.drop (i+1))=A'.reverse ++ l[i] :: y :: R:=by rw [← hR];simp
     rw [this];exact ho7
   ·refine hend ?_ huv4 ?_
    ·rw [sink,if_neg (by rw [hf];simp)]
    ·simp only [List.reverse_cons,List.append_assoc,List.singleton_append]
     exact hov4
  ·have:A=[]:=List.eq_nil_of_length_eq_zero (by omega)
   subst this
   exact hend rfl huv3 hov3
 ·refine ⟨by trivial,hu,?_⟩
  rcases hi with hi | hi
  ·have:i=l.length:=by omega
   subst this
   rw [pref_all,List.drop_length,List.append_nil] at ho
   exact ho
  ·subst hi
   have:(pref takenLt l 1).reverse ++ l.drop 1=isort takenLt l:=by
    match l,hge with
    | [],_=>rfl
    | [x],_=>rfl
    | x :: y :: l,hge=>simp at hge;omega
   rw [this] at ho
   exact ho
theorem sortStable_spec {w:World} {a:Option Addr} {l:List Taken} {cap cp:Nat} (h:OwnAt w a l.length cap T.api_Taken 5 (l.flatMap Taken.vals)) (hb:∀ t∈l,t.block<1000000) (hl:l.length<20) :
  CallsR prog K.slices_SortStableFunc_api_Taken #[.slice a l.length cp,.func (.func K.pool_Pool_Taken_1) #[] #[]] w fun v w'=>v= .tuple #[]∧Upd (fun b=>a=some ⟨b,0,none⟩) w w'∧OwnAt w' a (isort takenLt l).length cap T.api_Taken 5 ((isort takenLt l).flatMap Taken.vals):=by
 apply slices_SortStableFunc_api_Taken.sh
 have key:CallsR prog K.slices_stableCmpFunc_api_Taken #[.slice a l.length cp,.int .i64 l.length,.func (.func K.pool_Pool_Taken_1) #[] #[]] w fun v w'=>v= .tuple #[]∧Upd (fun b=>a=some ⟨b,0,none⟩) w w'∧OwnAt w' a (isort takenLt l).length cap T.api_Taken 5 ((isort takenLt l).flatMap Taken.vals):=by
  apply slices_stableCmpFunc_api_Taken.sh
  refine ⟨fun x y u=>x=0∧y=20∧u=w,fun _ _ _=>0,⟨rfl,rfl,rfl⟩,?_⟩
  rintro x y u ⟨rfl,rfl,rfl⟩
  refine br_dec (fun h=>by omega) fun _=>?_
  refine (insertionSort_spec (cp:=cp) h hb (by omega)).mono ?_
  rintro _ w₃ ⟨rfl,hu,ho⟩
  refine ⟨rfl,fun x u=>x=20∧u=w₃,fun _ _=>0,⟨rfl,rfl⟩,?_⟩
  rintro x v ⟨rfl,rfl⟩
  exact br_dec (fun h=>by omega) fun _=>⟨by trivial,hu,ho⟩
 refine key.mono ?_
 rintro _ w' ⟨rfl,hr⟩
 exact ⟨rfl,by trivial,hr⟩
theorem takenRaw_length (P:Pool) (c:Chip) (n:Nat):(takenRaw P c n).length≤n:=by
 unfold takenRaw
 exact Nat.le_trans (List.length_filterMap_le _ _) (by simp)
theorem takenRaw_succ (P:Pool) (c:Chip) (n:Nat):takenRaw P c (n+1)=takenRaw P c n ++ if (P.blk n).what=2 then [⟨n,(P.blk n).head,c.isBad n⟩] else []:=by
 unfold takenRaw
 rw [List.range_succ,List.filterMap_append]
 congr 1
 simp only [List.filterMap_cons,List.filterMap_nil]
 split<;>simp_all
theorem takenRaw_block {P:Pool} {c:Chip} {n:Nat} {t:Taken} (h:t∈takenRaw P c n):t.block<n:=by
 unfold takenRaw at h
 rw [List.mem_filterMap] at h
 obtain ⟨i,hi,h⟩:=h
 split at h
 ·simp at h hi
  rw [← h];exact hi
 ·cases h
theorem pool_Taken_spec {w:World} {M:PLoc} {P:Pool} {c:Chip} {L:Loc} {G:Nat→Prop} (h:PC w M P c L G) (hnb:c.nb<20) :
  CallsR prog K.pool_Pool_Taken #[.pointer (some ⟨M.q,0,none⟩)] w fun v w'=>Ext w w'∧∃ a cap,v= .slice a (takenPool P c).length cap∧OwnAt w' a (takenPool P c).length cap T.api_Taken 5 ((takenPool P c).flatMap Taken.vals)∧Fresh w a:=by
 apply pool_Pool_Taken.sh
 unfold pool_Pool_Taken.body
 refine (pool_off_spec h).mono ?_
 rintro _ _ ⟨rfl,rfl⟩
 rename_i w
 refine ⟨_,rfl,?_⟩
 simp only [br_false,nilC_some',add_lit]
 refine ⟨_,_,_,cell_of h.head rfl,?_⟩
 refine ⟨fun a l cap x u=>∃ i:Nat,x=i∧i≤c.nb∧l=(takenRaw P c i).length∧Ext w u∧OwnAt u a (takenRaw P c i).length cap T.api_Taken 5 ((takenRaw P c i).flatMap Taken.vals)∧Fresh w a,fun _ _ _ x _=>(c.nb - x).toNat,
  ⟨0,rfl,by omega,rfl,Upd.refl _ _,OwnAt.nil _ _ _,Fresh.none _⟩,?_⟩
 rintro a l cap x u ⟨i,rfl,hi,rfl,hu,ho,hf⟩
 have hpu:=h.ext hu
 refine br_dec (fun hlt=>?_) fun hge=>?_
 ·have hi':i<c.nb:=by omega
  have e1:IntKind.i64.wrap ((i:Int)+1)=((i+1:Nat):Int):=w64 (by omega) (by omega)
  have hlen:=takenRaw_length P c i
  have hsucc:=takenRaw_succ P c i
  refine hpu.idx hi' fun hr=>?_
  refine ⟨(P.blk i).what,(P.blk i).head.kind.toNat,(P.blk i).head.era,(P.blk i).head.seq,RowAt.cells hr,fun B w₃ hn3=>?_⟩
  refine store_of hn3.get (by simp) fun w₄ hput4=>?_
  have hB:B=u.heap.size:=hn3.num
  have hsu:=hu.size
  have e34:Ext u w₄:=Put.upd hn3.upd hput4 (.inl (by omega))
  have e4:=hu.trans e34
  have hg4:=hput4.get
  rw [splice_all _ _ (by simp)] at hg4
  have hp4:=h.ext e4
  refine ⟨(P.blk i).what,cell_of hg4 rfl,br_eq (fun h2=>?_) fun h2=>?_⟩
  ·rw [if_pos (by omega)] at hsucc
   intro w₅ hd5
   have e5:=e4.trans hd5.upd
   have hp5:=h.ext e5
   have hg5:=Ext.get hd5.upd hg4
   have hs3:=hn3.size
   have hs4:=hput4.size
   have hown:∀ b,a=some ⟨b,0,none⟩→w.heap.size≤b∧b<u.heap.size:=fun b hb=>⟨hf _ hb,OwnAt.blk ho hb⟩
   have hqw:M.q<w.heap.size:=(Array.getElem?_eq_some_iff.1 h.head).1
   refine ⟨fun v=>Upd (fun b=>a=some ⟨b,0,none⟩) w₅ v,Upd.refl _ _,(P.blk i).head.kind.toNat,(P.blk i).head.era,(P.blk i).head.seq,fun v hv=>?_,_,fun v hv=>cell_of (hv.get hp5.head (fun e=>by have:=hown _ e;omega)) rfl,?_⟩
   ·have:=hv.get hg5 (fun e=>by have:=hown _ e;omega)
    exact cellsAt_of (o:=1) this (fun j v hj=>by
     match j,hj with
     | 0,hj=>simpa using hj
     | 1,hj=>simpa using hj
     | 2,hj=>simpa using hj
     | j+3,hj=>simp at hj)
   refine (nand_Bad_spec hp5.chip _).mono ?_
   rintro _ _ ⟨rfl,rfl⟩
   rename_i w₅
   have hd0:decide ((0:Int)≤((i:Nat):Int))=true:=decide_eq_true (by omega)
   refine ⟨_,rfl,Upd.refl _ _,?_⟩
   rw [hd0,Bool.true_and,Int.toNat_natCast]
   intro B2 w₇ hn7
   refine ⟨Upd.ext hn7.upd,?_⟩
   have ho7:OwnAt w₇ a (takenRaw P c i).length cap T.api_Taken 5 ((takenRaw P c i).flatMap Taken.vals):=OwnAt.ext ho ((e34.trans hd5.upd).trans hn7.upd)
   refine append_flat (f:=Taken.vals) Taken.vals_length (x:=⟨i,(P.blk i).head,c.isBad i⟩) ho7 (by simp [Taken.vals]) hn7 rfl (by intro v hv;simp [Taken.vals] at hv;rcases hv with rfl | rfl | rfl | rfl | rfl<;>rfl) rfl (by omega) (by omega) fun a' c' w₈ hu8 ho8 hf8=>?_
   rw [← hsucc] at ho8 ⊢
   have e7:=e5.trans hn7.upd
   refine ⟨(Upd.ext hn7.upd).trans hu8,⟨i+1,e1,hi',rfl,Upd.beyond e7 hu8 (fun x hx=>(hown x hx).1),ho8,?_⟩,by rw [e1];exact meas hi'⟩
   rcases hf8 with rfl | ⟨b,rfl,hb⟩
   ·exact hf
   ·exact Fresh.some (by have:=e7.size;omega)
  ·rw [if_neg (by omega),List.append_nil] at hsucc
   refine ⟨⟨i+1,e1,hi',by rw [hsucc],e4,by rw [hsucc];exact OwnAt.ext ho e34,hf⟩,by rw [e1];exact meas hi'⟩
 ·have:i=c.nb:=by omega
  subst this
  have hlen:=takenRaw_length P c c.nb
  refine (sortStable_spec (cp:=cap) ho (fun t ht=>by have:=takenRaw_block ht;omega) (by omega)).mono ?_
  rintro _ w₉ ⟨rfl,hu9,ho9⟩
  have e9:Ext w w₉:=Upd.beyond hu hu9 (fun x hx=>hf _ hx)
  refine ⟨rfl,e9,a,cap,?_,ho9,hf⟩
  unfold takenPool
  rw [isort_length]
def refHead (c:Chip) (i:Int):Head×Bool:=if c.ask i 0≠0 then (Head.none,false) else ((getHead (c.page i.toNat 0)).1,decide ((getHead (c.page i.toNat 0)).2=0))
def posOf (t:Taken) (l:List Taken):Nat:=(l.takeWhile fun x=>decide (x.head.seq≤t.head.seq)).length
def insAt (t:Taken) (l:List Taken):List Taken:=l.take (posOf t l) ++ [t] ++ l.drop (posOf t l)
def refGo (c:Chip):Nat→List Taken
 | 0=>[]
 | i+1=>if (refHead c i).2 then insAt ⟨i,(refHead c i).1,c.isBad i⟩ (refGo c i) else refGo c i
def refTaken (c:Chip):List Taken:=refGo c c.nb
theorem insAt_length (t:Taken) (l:List Taken):(insAt t l).length=l.length+1:=by
 unfold insAt
 simp
 omega
theorem refGo_length (c:Chip) (i:Nat):(refGo c i).length≤i:=by
 induction i with
 | zero=>simp [refGo]
 | succ i ih =>
  unfold refGo
  split
  ·rw [insAt_length];omega
  ·omega
theorem takeWhile_at {α:Type} (p:α→Bool):∀ (l:List α) (k:Nat) (hk:k≤l.length),(∀ x∈l.take k,p x=true)→(∀ (h:k<l.length),p l[k]=false)→(l.takeWhile p).length=k
 | [],k,hk,_,_=>by simp at hk;simp [hk]
 | x :: l,0,_,_,h=>by
  have:=h (by simp)
  have:p x=false:=this
  simp [List.takeWhile_cons,this]
 | x :: l,k+1,hk,ha,h=>by
  have hx:p x=true:=ha x (by simp)
  rw [List.takeWhile_cons,if_pos hx,List.length_cons]
  congr 1
  refine takeWhile_at p l k (by simpa using hk) (fun y hy=>ha y (by simp [hy])) (fun hlt=>?_)
  have:=h (by simpa using hlt)
  simpa using this
theorem carrackref04_Head_spec {w:World} {p:Nat} {c:Chip} {L:Loc} {G:Nat→Prop} (h:ChipRep w p c L G) (i:Int) :
  CallsR prog K.carrackref04_Head #[.pointer (some ⟨p,0,none⟩),.int .i64 i] w fun v w'=>Ext w w'∧v= .tuple #[headV (refHead c i).1,.bool (refHead c i).2]:=by
 apply carrackref04_Head.sh
 intro B w₁ hn
 have hB:B=w.heap.size:=hn.num
 rw [head_zero] at hn
 have h1:=h.ext hn.upd
 refine (nand_Read_spec h1 i 0).mono ?_
 rintro v w₂ ⟨he2,hv⟩
 have e2:=hn.upd.trans he2
 have hg2:=Ext.get he2 hn.get
 split at hv
 ·rename_i h0
  obtain ⟨a,cp,rfl,hba,hcp,hfa⟩:=hv
  refine ⟨_,_,_,_,rfl,br_ne (fun h=>by omega) fun _=>?_⟩
  obtain ⟨hd,hb0,hb1,_,hp1⟩:=ask_zero h0
  have hpl:(c.page i.toNat 0).length=c.sz:=page_len h.ok hb1 (by have:=h.ok.np1;omega)
  simp only [tn0] at hba
  have hgh:=carrackref04_GetHead_spec (c:=cp) hba (by omega)
  rw [hpl] at hgh
  refine hgh.mono ?_
  rintro _ w₄ ⟨he4,rfl⟩
  have e4:=e2.trans he4
  refine ⟨_,_,_,_,rfl,fun B2 w₅ hn5=>?_⟩
  have hB2:B2=w₄.heap.size:=hn5.num
  rw [head_zero] at hn5
  have hs4:=e4.size
  have hs12:=hn.size
  have hs1:=he2.size
  have hs3:=he4.size
  refine head_put (h:=(getHead (c.page i.toNat 0)).1) hn5.get rfl fun w₆ hput6=>?_
  have hg6:w₆.heap[B]?=_:=hput6.upd1.get (Ext.get hn5.upd (Ext.get he4 hg2)) (by omega)
  have e6:Ext w w₆:=Put.upd (e4.trans hn5.upd) hput6 (.inl (by omega))
  refine ⟨_,_,_,head_cells hput6.get,head_put hg6 rfl fun w₇ hput7=>⟨_,_,_,head_cells hput7.get,Put.upd e6 hput7 (.inl (by omega)),?_⟩⟩
  unfold refHead
  rw [if_neg (by omega)]
  simp only [Value.tuple.injEq]
  congr 4
  rw [Bool.eq_iff_iff]
  simp
 ·rename_i h0
  subst hv
  refine ⟨_,_,_,_,rfl,br_ne (fun _=>?_) fun h=>by omega⟩
  refine head_put (h:=Head.none) hg2 rfl fun w₃ hput=>⟨_,_,_,head_cells hput.get,Put.upd e2 hput (.inl (by omega)),?_⟩
  unfold refHead
  rw [if_pos h0]
theorem oneCell_taken (t:Taken):∀ v∈t.vals,v.oneCell'=true:=by
 intro v hv
 simp [Taken.vals] at hv
 rcases hv with rfl | rfl | rfl | rfl | rfl<;>rfl
theorem insert_tail {w:World} {p:Nat} {c:Chip} {L:Loc} {G:Nat→Prop} (h:ChipRep w p c L G) {a:Option Addr} {out:List Taken} {cap i j B:Nat} {hd:Head} (ho:OwnAt w a out.length cap T.api_Taken 5 (out.flatMap Taken.vals)) (hl:out.length≤1000) (hj:j≤out.length)
  (hB:w.heap[B]?=some (.cells hd.vals.toArray T.api_Head (0,0))) {Q:Option Addr→Nat→Nat→World→Prop}
  (hk:∀ a' c' w',Ext w w'→OwnAt w' a' (out.take j ++ [Taken.mk i hd (c.isBad i)] ++ out.drop j).length c' T.api_Taken 5 ((out.take j ++ [Taken.mk i hd (c.isBad i)] ++ out.drop j).flatMap Taken.vals)→Fresh w a'→Q a' (out.take j ++ [Taken.mk i hd (c.isBad i)] ++ out.drop j).length c' w') :
  sliceP 5 a out.length cap none (some (j:Int)) none fun a2 l2 c2 =>
    appendP T.api_Taken 5 32 [Value.int .i64 0,Value.int .u8 0,Value.int .u32 0,Value.int .u64 0,Value.bool false] none 0 0 (Value.slice a2 l2 c2) w fun a3 l3 c3 w8 =>
    ∀ w9:World,Drew w8 w9→
    ∃ S2:World→Prop,S2 w9∧
    ∃ x12:Int,∃ x13:Int,∃ x14:Int,(∀ u3,S2 u3→cellsAt u3 ⟨B,0,none⟩ [Value.int .u8 x12,Value.int .u32 x13,Value.int .u64 x14] 0)∧
    CallsR prog K.nand_Chip_Bad #[Value.pointer (some ⟨p,0,none⟩),Value.int .i64 (i:Int)] w9 fun v3 w10 =>
    ∃ b2:Bool,v3=Value.bool b2∧S2 w10∧
    ∀ (B2:Nat) (w11:World),New w10 (.cells #[Value.int .i64 (i:Int),Value.int .u8 x12,Value.int .u32 x13,Value.int .u64 x14,Value.bool b2] T.api_Taken) B2 w11→S2 w11∧
    appendP T.api_Taken 5 32 [Value.int .i64 0,Value.int .u8 0,Value.int .u32 0,Value.int .u64 0,Value.bool false] a3 l3 c3 (Value.slice (some ⟨B2,0,none⟩) 1 1) w11 fun a4 l4 c4 w12=>S2 w12∧
    sliceP 5 a out.length cap (some (j:Int)) none none fun a5 l5 c5 =>
    appendP T.api_Taken 5 32 [Value.int .i64 0,Value.int .u8 0,Value.int .u32 0,Value.int .u64 0,Value.bool false] a4 l4 c4 (Value.slice a5 l5 c5) w12 fun a6 l6 c6 w13=>Q a6 l6 c6 w13:=by
 have hcap:=ho.2.1
 refine slice_to (by omega) (by omega) hcap ?_
 rw [Int.toNat_natCast]
 have hr1:RowAt w a ((out.take j).flatMap Taken.vals):=by rw [← flat_take Taken.vals_length];exact RowAt.take ho.row _
 refine append_rows (f:=Taken.vals) Taken.vals_length (l:=[]) (xs:=out.take j) (OwnAt.nil _ _ _) hr1 rfl (by simp;omega) (fun x _=>oneCell_taken x) rfl (by simp;omega) (by omega) fun a3 c3 w₈ hu8 ho8 hf8=>?_
 have e8:Ext w w₈:=hu8.mono (fun x _ hx=>by cases hx)
 have hf8':Fresh w a3:=by
  rcases hf8 with rfl | ⟨b,rfl,hb⟩
  ·exact Fresh.none _
  ·exact Fresh.some hb
 intro w₉ hd9
 have e9:=e8.trans hd9.upd
 have h9:=h.ext e9
 have hg9:=Ext.get e9 hB
 have hBw:B<w.heap.size:=(Array.getElem?_eq_some_iff.1 hB).1
 refine ⟨fun u=>u.heap[B]?=some (.cells hd.vals.toArray T.api_Head (0,0)),hg9,hd.kind.toNat,hd.era,hd.seq,fun u hu=>head_cells hu,?_⟩
 refine (nand_Bad_spec h9 _).mono ?_
 rintro _ _ ⟨rfl,rfl⟩
 rename_i w₉
 have hd0:decide ((0:Int)≤((i:Nat):Int))=true:=decide_eq_true (by omega)
 refine ⟨_,rfl,hg9,?_⟩
 rw [hd0,Bool.true_and,Int.toNat_natCast]
 intro B2 w₁₁ hn11
 have hg11:=Ext.get hn11.upd hg9
 refine ⟨hg11,?_⟩
 have ho11:=OwnAt.ext (OwnAt.ext ho8 hd9.upd) hn11.upd
 refine append_flat (f:=Taken.vals) Taken.vals_length (x:=⟨i,hd,c.isBad i⟩) ho11 (by simp [Taken.vals]) hn11 rfl (oneCell_taken _) rfl (by simp;omega) (by omega) fun a4 c4 w₁₂ hu12 ho12 hf12=>?_
 have e11:=e9.trans hn11.upd
 have e12:Ext w w₁₂:=Upd.beyond e11 hu12 (fun x hx=>hf8' _ hx)
 have hf12':Fresh w a4:=by
  rcases hf12 with rfl | ⟨b,rfl,hb⟩
  ·exact hf8'
  ·exact Fresh.some (by have:=e11.size;omega)
 refine ⟨Ext.get e12 hB,?_⟩
 refine slice_from (by omega) (by omega) hcap ?_
 rw [Int.toNat_natCast]
 have hr2:RowAt w₁₂ (if cap=j then a else a.map (·.add (j * 5))) ((out.drop j).flatMap Taken.vals):=by
  rw [← flat_drop Taken.vals_length];exact row_from (RowAt.ext ho.row e12) (by rw [flat_len Taken.vals_length]) hcap
 refine append_rows (f:=Taken.vals) Taken.vals_length (xs:=out.drop j) ho12 hr2 rfl (by simp) (fun x _=>oneCell_taken x) rfl (by simp;omega) (by omega) fun a6 c6 w₁₃ hu13 ho13 hf13=>?_
 have e13:Ext w w₁₃:=Upd.beyond e12 hu13 (fun x hx=>hf12' _ hx)
 simp only [List.nil_append] at ho13 ⊢
 refine hk a6 c6 w₁₃ e13 ho13 ?_
 rcases hf13 with rfl | ⟨b,rfl,hb⟩
 ·exact hf12'
 ·exact Fresh.some (by have:=e12.size;omega)
theorem carrackref04_Taken_spec {w:World} {p:Nat} {c:Chip} {L:Loc} {G:Nat→Prop} (h:ChipRep w p c L G) :
  CallsR prog K.carrackref04_Taken #[.pointer (some ⟨p,0,none⟩)] w fun v w'=>Ext w w'∧∃ a cap,v= .slice a (refTaken c).length cap∧OwnAt w' a (refTaken c).length cap T.api_Taken 5 ((refTaken c).flatMap Taken.vals)∧Fresh w a:=by
 apply carrackref04_Taken.sh
 have hnb:=h.ok.nb2
 refine ⟨fun a l cap x u=>∃ i:Nat,x=i∧i≤c.nb∧l=(refGo c i).length∧Ext w u∧OwnAt u a (refGo c i).length cap T.api_Taken 5 ((refGo c i).flatMap Taken.vals)∧Fresh w a,fun _ _ _ x _=>(c.nb - x).toNat,
  ⟨0,rfl,by omega,rfl,Upd.refl _ _,OwnAt.nil _ _ _,Fresh.none _⟩,?_⟩
 rintro a l cap x u ⟨i,rfl,hi,rfl,hu,ho,hf⟩
 have hlen:=refGo_length c i
 refine (nand_Geo_spec (h.ext hu)).mono ?_
 rintro _ w₂ ⟨rfl,he2⟩
 have e2:=hu.trans he2
 refine ⟨_,_,_,_,rfl,br_dec (fun hlt=>?_) fun hge=>?_⟩
 ·have hi':i<c.nb:=by omega
  have e1:IntKind.i64.wrap ((i:Int)+1)=((i+1:Nat):Int):=w64 (by omega) (by omega)
  refine (carrackref04_Head_spec (h.ext e2) (i:Int)).mono ?_
  rintro _ w₃ ⟨he3,rfl⟩
  have e3:=e2.trans he3
  refine ⟨_,_,_,_,rfl,fun B w₄ hn4=>?_⟩
  rw [head_zero] at hn4
  refine head_put (h:=(refHead c i).1) hn4.get rfl fun w₅ hput5=>?_
  have hB:B=w₃.heap.size:=hn4.num
  have hs3:=e3.size
  have e5:Ext w w₅:=Put.upd (e3.trans hn4.upd) hput5 (.inl (by omega))
  have eu3:Ext u w₃:=he2.trans he3
  have hsu3:=eu3.size
  have eu5:Ext u w₅:=Put.upd (eu3.trans hn4.upd) hput5 (.inl (by omega))
  have hgo:refGo c (i+1)=if (refHead c i).2 then insAt ⟨i,(refHead c i).1,c.isBad i⟩ (refGo c i) else refGo c i:=by rw [refGo]
  cases hh:(refHead c i).2 with
  | false =>
   simp only [Bool.not_false,br_true]
   rw [hh] at hgo
   simp only [Bool.false_eq_true,if_false] at hgo
   exact ⟨⟨i+1,e1,hi',by rw [hgo],e5,by rw [hgo];exact OwnAt.ext ho eu5,hf⟩,by rw [e1];exact meas hi'⟩
  | true =>
   simp only [Bool.not_true,br_false]
   rw [hh] at hgo
   simp only [if_true] at hgo
   refine ⟨fun y v=>∃ j:Nat,y=j∧j≤(refGo c i).length∧Ext w₅ v∧∀ t∈(refGo c i).take j,t.head.seq≤(refHead c i).1.seq,fun y _=>((refGo c i).length - y).toNat,⟨0,rfl,by omega,Upd.refl _ _,fun t ht=>by simp at ht⟩,?_⟩
   rintro y v ⟨j,rfl,hj,hv5,hall⟩ w₇ hd7
   have e57:=hv5.trans hd7.upd
   have e7:=e5.trans e57
   have ho7:=OwnAt.ext (OwnAt.ext ho eu5) e57
   have hg7:=Ext.get e57 hput5.get
   have hins:(∀ (hlt:j<(refGo c i).length),decide ((refGo c i)[j].head.seq≤(refHead c i).1.seq)=false)→(refGo c i).take j ++ [⟨i,(refHead c i).1,c.isBad i⟩] ++ (refGo c i).drop j=refGo c (i+1):=by
    intro hstop
    have hpos:posOf ⟨i,(refHead c i).1,c.isBad i⟩ (refGo c i)=j:=takeWhile_at _ _ j hj (fun t ht=>decide_eq_true (hall t ht)) hstop
    rw [hgo]
    unfold insAt
    rw [hpos]
   refine ⟨fun z=>z=w₇,rfl,br_dec (fun hlt=>?_) fun hge=>?_⟩
   ·have hj':j<(refGo c i).length:=by omega
    refine idx_flat (f:=Taken.vals) Taken.vals_length (by omega) ho7.row rfl hj' fun b o hab hr=>?_
    simp only [add_lit]
    obtain ⟨b',o',hab',hc⟩:=RowAt.cell hr (i:=3) (v:=.int .u64 (refGo c i)[j].head.seq) rfl
    cases hab'
    refine ⟨_,fun z hz=>hz ▸ hc,_,fun z hz=>hz ▸ cell_of hg7 rfl,br_dec (fun hle=>?_) fun hgt=>?_⟩
    ·have e2:IntKind.i64.wrap ((j:Int)+1)=((j+1:Nat):Int):=w64 (by omega) (by omega)
     rw [e2]
     refine ⟨⟨j+1,rfl,hj',e57,fun t ht=>?_⟩,meas hj'⟩
     rw [List.take_succ_eq_append_getElem hj'] at ht
     rcases List.mem_append.1 ht with ht | ht
     ·exact hall t ht
     ·simp at ht
      subst ht
      omega
    ·have hin:=hins (fun _=>decide_eq_false (by omega))
     refine insert_tail (i:=i) (h.ext e7) ho7 (by omega) hj hg7 fun a6 c6 w₁₃ he13 ho13 hf13=>?_
     rw [hin] at ho13 ⊢
     exact ⟨⟨i+1,e1,hi',rfl,e7.trans he13,ho13,Fresh.mono hf13 e7.size⟩,by rw [e1];exact meas hi'⟩
   ·have hin:=hins (fun h=>by omega)
    refine insert_tail (i:=i) (h.ext e7) ho7 (by omega) hj hg7 fun a6 c6 w₁₃ he13 ho13 hf13=>?_
    rw [hin] at ho13 ⊢
    exact ⟨⟨i+1,e1,hi',rfl,e7.trans he13,ho13,Fresh.mono hf13 e7.size⟩,by rw [e1];exact meas hi'⟩
 ·have:i=c.nb:=by omega
  subst this
  exact ⟨e2,a,cap,rfl,OwnAt.ext ho he2,hf⟩
section
set_option maxRecDepth 100000
def newChip (nb np sz sp:Nat):Chip:=⟨nb,np,sz,sp,List.replicate nb (List.replicate (np * sz) 255),List.replicate nb false,[],0,false,0⟩
end
def CIn (F:Nat→Prop) (A:Nat) (w:World) (p:Nat) (c:Chip):Prop:=∃ L G,ChipRep w p c L G∧(∀ x,x∈p :: L.bb :: L.locs→F x)∧∀ x,G x→A≤x∧x<w.heap.size
def PIn (F:Nat→Prop) (A:Nat) (w:World) (M:PLoc) (P:Pool) (c:Chip):Prop:=∃ L G,PC w M P c L G∧(∀ x,PF M L x→F x)∧∀ x,G x→A≤x∧x<w.heap.size
abbrev Bet (A S:Nat):Nat→Prop:=fun x=>A≤x∧x<S
abbrev CAt (A S:Nat) (w:World) (p:Nat) (c:Chip):Prop:=CIn (Bet A S) A w p c
abbrev PAt (A S:Nat) (w:World) (M:PLoc) (P:Pool) (c:Chip):Prop:=PIn (Bet A S) A w M P c
theorem CIn.ext {F:Nat→Prop} {A:Nat} {w w':World} {p:Nat} {c:Chip} (h:CIn F A w p c) (k:Ext w w'):CIn F A w' p c:=by
 obtain ⟨L,G,hr,hF,hG⟩:=h
 exact ⟨L,G,hr.ext k,hF,fun x hx=>⟨(hG x hx).1,Nat.lt_of_lt_of_le (hG x hx).2 k.size⟩⟩
theorem CIn.ok {F:Nat→Prop} {A:Nat} {w:World} {p:Nat} {c:Chip} (h:CIn F A w p c):c.Ok:=by
 obtain ⟨L,G,hr,hF,hG⟩:=h
 exact hr.ok
theorem CIn.mono {F F':Nat→Prop} {A:Nat} {w:World} {p:Nat} {c:Chip} (h:CIn F A w p c) (hf:∀ x,F x→F' x):CIn F' A w p c:=by
 obtain ⟨L,G,hr,hF,hG⟩:=h
 exact ⟨L,G,hr,fun x hx=>hf x (hF x hx),hG⟩
theorem PIn.mono {F F':Nat→Prop} {A:Nat} {w:World} {M:PLoc} {P:Pool} {c:Chip} (h:PIn F A w M P c) (hf:∀ x,F x→F' x):PIn F' A w M P c:=by
 obtain ⟨L,G,hr,hF,hG⟩:=h
 exact ⟨L,G,hr,fun x hx=>hf x (hF x hx),hG⟩
theorem CAt.ext {A S:Nat} {w w':World} {p:Nat} {c:Chip} (h:CAt A S w p c) (k:Ext w w'):CAt A S w' p c:=by
 obtain ⟨L,G,hr,hF,hG⟩:=h
 exact ⟨L,G,hr.ext k,hF,fun x hx=>⟨(hG x hx).1,Nat.lt_of_lt_of_le (hG x hx).2 k.size⟩⟩
theorem CAt.ok {A S:Nat} {w:World} {p:Nat} {c:Chip} (h:CAt A S w p c):c.Ok:=by
 obtain ⟨L,G,hr,hF,hG⟩:=h
 exact hr.ok
theorem PAt.size {A S:Nat} {w:World} {M:PLoc} {P:Pool} {c:Chip} (h:PAt A S w M P c):M.q<w.heap.size:=by
 obtain ⟨L,G,hr,hF,hG⟩:=h
 exact (Array.getElem?_eq_some_iff.1 hr.head).1
theorem CAt.of {w w':World} {p:Nat} {c:Chip} {A:Nat} (h:ChipAt w' p c (fun x=>w.heap.size≤x∧x<w'.heap.size)) (hA:A≤w.heap.size):CAt A w'.heap.size w' p c:=by
 obtain ⟨L,G,hr,hF,hG,_⟩:=h
 exact ⟨L,G,hr,fun x hx=>⟨Nat.le_trans hA (hF x hx).1,(hF x hx).2⟩,fun x hx=>⟨Nat.le_trans hA (hG x hx).1,(hG x hx).2⟩⟩
theorem cNew (w:World) {A nb np sz sp:Nat} (hA:A≤w.heap.size) (nb1:8≤nb) (nb2:nb≤64) (np1:4≤np) (np2:np≤32) (sz1:128≤sz) (sz2:sz≤256) (sp2:sp≤4) :
  CallsR prog K.nand_New #[.agg #[.int .i64 nb,.int .i64 np,.int .i64 sz,.int .i64 sp]] w fun v w'=>Ext w w'∧∃ p,v= .tuple #[.pointer (some ⟨p,0,none⟩),.int .i64 0]∧CAt A w'.heap.size w' p (newChip nb np sz sp):=by
 refine (nand_New_spec w nb1 nb2 np1 np2 sz1 sz2 sp2).mono ?_
 rintro v w' ⟨he,p,rfl,hc⟩
 exact ⟨he,p,rfl,CAt.of hc hA⟩
theorem cScanF {F:Nat→Prop} {A:Nat} {w:World} {p:Nat} {c:Chip} (h:CIn F A w p c) :
  CallsR prog K.pool_Scan #[.pointer (some ⟨p,0,none⟩)] w fun v w'=>Ext w w'∧
   if c.dead then v= .tuple #[.pointer none,.int .i64 10]
   else ∃ M:PLoc,M.p=p∧v= .tuple #[.pointer (some ⟨M.q,0,none⟩),.int .i64 0]∧PIn (fun x=>F x∨(w.heap.size≤x∧x<w'.heap.size)) A w' M (scanPool c) c:=by
 obtain ⟨L,G,hr,hF,hG⟩:=h
 refine (pool_Scan_spec hr (fun x hx=>(hG x hx).2)).mono ?_
 rintro v w' ⟨he,hv⟩
 refine ⟨he,?_⟩
 split at hv
 ·rename_i hd
  rw [if_pos hd];exact hv
 ·rename_i hd
  rw [if_neg hd]
  obtain ⟨q,pb,rfl,hq,hpb,hq',hpb',hp⟩:=hv
  refine ⟨⟨q,pb,c.nb,p⟩,rfl,rfl,L,G,hp,fun x hx=>?_,fun x hx=>⟨(hG x hx).1,Nat.lt_of_lt_of_le (hG x hx).2 he.size⟩⟩
  rcases hx with hx | hx | hx
  ·have:x=q:=hx
   exact .inr (by omega)
  ·have:x=pb:=hx
   exact .inr (by omega)
  ·exact .inl (hF x hx)
def TakenAt (w w':World) (v:Value) (l:List Taken):Prop:=∃ a cap,v= .slice a l.length cap∧OwnAt w' a l.length cap T.api_Taken 5 (l.flatMap Taken.vals)∧Fresh w a
theorem pTaken {F:Nat→Prop} {A:Nat} {w:World} {M:PLoc} {P:Pool} {c:Chip} (h:PIn F A w M P c) (hnb:c.nb<20) {l:List Taken} (hl:takenPool P c=l) :
  CallsR prog K.pool_Pool_Taken #[.pointer (some ⟨M.q,0,none⟩)] w fun v w'=>Ext w w'∧TakenAt w w' v l:=by
 subst hl
 obtain ⟨L,G,hr,hF,hG⟩:=h
 exact pool_Taken_spec hr hnb
theorem rTaken {F:Nat→Prop} {A:Nat} {w:World} {p:Nat} {c:Chip} (h:CIn F A w p c) :
  CallsR prog K.carrackref04_Taken #[.pointer (some ⟨p,0,none⟩)] w fun v w'=>Ext w w'∧TakenAt w w' v (refTaken c):=by
 obtain ⟨L,G,hr,hF,hG⟩:=h
 exact carrackref04_Taken_spec hr
theorem new_put {w:World} {cs:Array Value} {T:TypeId} {vs:List Value} {K:Nat→World→Prop} (hl:vs.length=cs.size)
  (hk:∀ B w2,B=w.heap.size→w2.heap.size=w.heap.size+1→Ext w w2→w2.heap[B]?=some (.cells vs.toArray T (0,0))→K B w2) :
  ∀ (B:Nat) (w1:World),New w (.cells cs T) B w1→storeP w1 ⟨B,0,none⟩ vs (fun w2=>K B w2):=by
 intro B w1 hn
 refine store_of hn.get (by simp [hl]) fun w2 hp=>?_
 have hB:B=w.heap.size:=hn.num
 refine hk B w2 hB (by rw [hp.size,hn.size]) (Put.upd hn.upd hp (.inl (by omega))) ?_
 have:=hp.get
 rwa [splice_all _ _ hl.symm] at this
theorem cells_all {w:World} {B:Nat} {vs:List Value} {T:TypeId} {fr:Nat×Nat} (h:w.heap[B]?=some (.cells vs.toArray T fr)):cellsAt w ⟨B,0,none⟩ vs 0 :=
 cellsAt_of (o:=0) h fun j v hj=>by simpa using hj
theorem put_all {w:World} {B:Nat} {cs:Array Value} {vs:List Value} {T:TypeId} {K:World→Prop} (h:w.heap[B]?=some (.cells cs T (0,0))) (hl:vs.length=cs.size)
  (hk:∀ w2,Upd (·=B) w w2→w2.heap.size=w.heap.size→w2.heap[B]?=some (.cells vs.toArray T (0,0))→K w2):storeP w ⟨B,0,none⟩ vs K:=by
 refine store_of h (by simp [hl]) fun w2 hp=>hk w2 hp.upd1 hp.size ?_
 have:=hp.get
 rwa [splice_all _ _ hl.symm] at this
theorem u8b (x y:UInt8):((x.toNat:Int) == (y.toNat:Int))=(x == y):=by
 rw [Bool.eq_iff_iff]
 simp only [beq_iff_eq,Int.natCast_inj,UInt8.toNat_inj]
theorem u8i (x:UInt8) (n:Nat) (hn:n<256):(x.toNat:Int)=(n:Int) ↔ x=UInt8.ofNat n:=by
 constructor
 ·intro h
  apply UInt8.toNat_inj.1
  simp
  omega
 ·rintro rfl
  simp
  omega
section
structure ERep (α:Type) where
 k:Nat
 R:World→(Nat→Prop)→List Value→α→Prop
 pos:1≤k
 len:∀ {w G vs x},R w G vs x→vs.length=k
 one:∀ {w G vs x},R w G vs x→∀ v∈vs,v.oneCell'=true
 upd:∀ {w w' F G vs x},R w G vs x→Upd F w w'→(∀ b,G b→¬ F b)→R w' G vs x
 mono:∀ {w G G' vs x},R w G vs x→(∀ b,G b→G' b)→R w G' vs x
 cells:∀ {w w' G vs x},R w G vs x→CellsLe w w'→R w' G vs x
section
variable {α:Type} (r:ERep α)
def Rows (w:World) (G:Nat→Prop):List Value→List α→Prop
 | vs,[]=>vs=[]
 | vs,x :: l=>∃ u t,vs=u ++ t∧r.R w G u x∧Rows w G t l
variable {r}
theorem Rows.len {w:World} {G:Nat→Prop}:∀ {l:List α} {vs:List Value},Rows r w G vs l→vs.length=l.length * r.k
 | [],vs,h=>by cases h;simp
 | x :: l,vs,⟨u,t,e,hu,ht⟩=>by rw [e,List.length_append,r.len hu,Rows.len ht,List.length_cons,Nat.succ_mul];omega
theorem Rows.one {w:World} {G:Nat→Prop}:∀ {l:List α} {vs:List Value},Rows r w G vs l→∀ v∈vs,v.oneCell'=true
 | [],vs,h=>by cases h;simp
 | x :: l,vs,⟨u,t,e,hu,ht⟩=>by
  intro v hv
  rw [e,List.mem_append] at hv
  rcases hv with hv | hv
  ·exact r.one hu v hv
  ·exact Rows.one ht v hv
theorem Rows.upd {w w':World} {F G:Nat→Prop} (k:Upd F w w') (hf:∀ b,G b→¬ F b):∀ {l:List α} {vs:List Value},Rows r w G vs l→Rows r w' G vs l
 | [],vs,h=>h
 | x :: l,vs,⟨u,t,e,hu,ht⟩=>⟨u,t,e,r.upd hu k hf,Rows.upd k hf ht⟩
theorem Rows.mono {w:World} {G G':Nat→Prop} (hg:∀ b,G b→G' b):∀ {l:List α} {vs:List Value},Rows r w G vs l→Rows r w G' vs l
 | [],vs,h=>h
 | x :: l,vs,⟨u,t,e,hu,ht⟩=>⟨u,t,e,r.mono hu hg,Rows.mono hg ht⟩
theorem Rows.cellsLe {w w':World} {G:Nat→Prop} (k:CellsLe w w'):∀ {l:List α} {vs:List Value},Rows r w G vs l→Rows r w' G vs l
 | [],vs,h=>h
 | x :: l,vs,⟨u,t,e,hu,ht⟩=>⟨u,t,e,r.cells hu k,Rows.cellsLe k ht⟩
theorem Rows.append {w:World} {G:Nat→Prop}:∀ {l m:List α} {vs us:List Value},Rows r w G vs l→Rows r w G us m→Rows r w G (vs ++ us) (l ++ m)
 | [],m,vs,us,h,h2=>by cases h;simpa using h2
 | x :: l,m,vs,us,⟨u,t,e,hu,ht⟩,h2=>⟨u,t ++ us,by rw [e,List.append_assoc],hu,Rows.append ht h2⟩
theorem Rows.single {w:World} {G:Nat→Prop} {vs:List Value} {x:α} (h:r.R w G vs x):Rows r w G vs [x]:=⟨vs,[],by simp,h,rfl⟩
theorem Rows.drop {w:World} {G:Nat→Prop}:∀ {l:List α} {vs:List Value} (i:Nat),Rows r w G vs l→Rows r w G (vs.drop (i * r.k)) (l.drop i)
 | l,vs,0,h=>by simpa using h
 | [],vs,i+1,h=>by cases h;simp;rfl
 | x :: l,vs,i+1,⟨u,t,e,hu,ht⟩=>by
  have hl:=r.len hu
  rw [e,List.drop_succ_cons,Nat.succ_mul,Nat.add_comm,← List.drop_drop]
  have:(u ++ t).drop r.k=t:=by rw [← hl];simp
  rw [this]
  exact Rows.drop i ht
theorem Rows.take {w:World} {G:Nat→Prop}:∀ {l:List α} {vs:List Value} (i:Nat),Rows r w G vs l→Rows r w G (vs.take (i * r.k)) (l.take i)
 | l,vs,0,h=>by simp;rfl
 | [],vs,i+1,h=>by cases h;simp;rfl
 | x :: l,vs,i+1,⟨u,t,e,hu,ht⟩=>by
  have hl:=r.len hu
  rw [e,List.take_succ_cons,Nat.succ_mul,Nat.add_comm,List.take_append,hl]
  rw [List.take_of_length_le (by omega)]
  exact ⟨u,_,rfl,hu,by rw [Nat.add_sub_cancel_left];exact Rows.take i ht⟩
theorem Rows.get {w:World} {G:Nat→Prop} {l:List α} {vs:List Value} (h:Rows r w G vs l) {i:Nat} (hi:i<l.length):r.R w G ((vs.drop (i * r.k)).take r.k) l[i]:=by
 have h1:=Rows.drop i h
 rw [List.drop_eq_getElem_cons hi] at h1
 obtain ⟨u,t,e,hu,ht⟩:=h1
 have hl:=r.len hu
 rw [e,← hl]
 simpa using hu
variable (r)
def SliceAt (w:World) (G:Nat→Prop) (a:Option Addr) (l:List α):Prop:=∃ vs,RowAt w a vs∧Rows r w G vs l∧(l≠[]→∀ p,a=some p→G p.block)
def OwnS (w:World) (G:Nat→Prop) (a:Option Addr) (cap:Nat) (e:TypeId) (l:List α):Prop:=∃ vs,OwnAt w a l.length cap e r.k vs∧Rows r w G vs l
variable {r}
theorem SliceAt.nil (w:World) (G:Nat→Prop) (a:Option Addr):SliceAt r w G a []:=⟨[],RowAt.nil _ _,rfl,fun h=>(h rfl).elim⟩
theorem SliceAt.upd {w w':World} {F G:Nat→Prop} {a:Option Addr} {l:List α} (h:SliceAt r w G a l) (k:Upd F w w') (hf:∀ b,G b→¬ F b):SliceAt r w' G a l:=by
 obtain ⟨vs,h1,h2,h3⟩:=h
 cases l with
 | nil=>exact SliceAt.nil _ _ _
 | cons x l=>exact ⟨vs,RowAt.upd h1 k (fun p hp=>hf _ (h3 (by simp) p hp)),Rows.upd k hf h2,h3⟩
theorem SliceAt.ext {w w':World} {G:Nat→Prop} {a:Option Addr} {l:List α} (h:SliceAt r w G a l) (k:Ext w w'):SliceAt r w' G a l:=SliceAt.upd h k fun _ _ hf=>hf
theorem SliceAt.cellsLe {w w':World} {G:Nat→Prop} {a:Option Addr} {l:List α} (h:SliceAt r w G a l) (k:CellsLe w w'):SliceAt r w' G a l:=by
 obtain ⟨vs,h1,h2,h3⟩:=h
 exact ⟨vs,RowAt.cellsLe h1 k,Rows.cellsLe k h2,h3⟩
theorem SliceAt.mono {w:World} {G G':Nat→Prop} {a:Option Addr} {l:List α} (h:SliceAt r w G a l) (hg:∀ b,G b→G' b):SliceAt r w G' a l:=by
 obtain ⟨vs,h1,h2,h3⟩:=h
 exact ⟨vs,h1,Rows.mono hg h2,fun hn p hp=>hg _ (h3 hn p hp)⟩
theorem SliceAt.take {w:World} {G:Nat→Prop} {a:Option Addr} {l:List α} (h:SliceAt r w G a l) (i:Nat):SliceAt r w G a (l.take i):=by
 obtain ⟨vs,h1,h2,h3⟩:=h
 exact ⟨_,RowAt.take h1 (i * r.k),Rows.take i h2,fun hn=>h3 (fun e=>hn (by rw [e];simp))⟩
theorem SliceAt.drop {w:World} {G:Nat→Prop} {b o:Nat} {l:List α} (h:SliceAt r w G (some ⟨b,o,none⟩) l) (i:Nat):SliceAt r w G (some ⟨b,o+i * r.k,none⟩) (l.drop i):=by
 obtain ⟨vs,h1,h2,h3⟩:=h
 refine ⟨_,RowAt.drop h1 (i * r.k),Rows.drop i h2,fun hn p hp=>?_⟩
 cases hp
 exact h3 (fun e=>hn (by rw [e];simp)) ⟨b,o,none⟩ rfl
theorem SliceAt.blk {w:World} {G:Nat→Prop} {a:Option Addr} {l:List α} (h:SliceAt r w G a l) (hn:l≠[]):∃ b o,a=some ⟨b,o,none⟩∧b<w.heap.size∧G b:=by
 obtain ⟨vs,h1,h2,h3⟩:=h
 have hl:=Rows.len h2
 have:vs≠[]:=List.ne_nil_of_length_pos (by rw [hl];exact Nat.mul_pos (List.length_pos_iff.2 hn) r.pos)
 obtain ⟨b,o,e,hb⟩:=RowAt.blk h1 this
 exact ⟨b,o,e,hb,h3 hn _ e⟩
theorem SliceAt.idx {w:World} {G:Nat→Prop} {a:Option Addr} {l:List α} (h:SliceAt r w G a l) {n i:Nat} (hn:n=l.length) (hi:i<l.length) {K:Addr→Prop}
  (hk:∀ b o vs,a=some ⟨b,o,none⟩→RowAt w (some ⟨b,o+i * r.k,none⟩) vs→r.R w G vs l[i]→G b→K ⟨b,o+i * r.k,none⟩):idxP a n (i:Int) r.k K:=by
 subst hn
 refine ⟨by omega,by omega,?_⟩
 obtain ⟨b,o,rfl,hb,hG⟩:=h.blk (List.ne_nil_of_length_pos (by omega))
 obtain ⟨vs,h1,h2,h3⟩:=h
 simp only [nilC_some',add_lit,Int.toNat_natCast]
 exact hk b o _ rfl (RowAt.take (RowAt.drop h1 (i * r.k)) r.k) (h2.get hi) hG
theorem OwnS.nil (w:World) (G:Nat→Prop) (e:TypeId):OwnS r w G none 0 e []:=⟨[],OwnAt.nil _ _ _,rfl⟩
theorem OwnS.upd {w w':World} {F G:Nat→Prop} {a:Option Addr} {cap:Nat} {e:TypeId} {l:List α} (h:OwnS r w G a cap e l) (k:Upd F w w') (hf:∀ b,G b→¬ F b) (ha:∀ b,a=some ⟨b,0,none⟩→¬ F b):OwnS r w' G a cap e l:=by
 obtain ⟨vs,h1,h2⟩:=h
 exact ⟨vs,OwnAt.upd h1 k ha,Rows.upd k hf h2⟩
theorem OwnS.ext {w w':World} {G:Nat→Prop} {a:Option Addr} {cap:Nat} {e:TypeId} {l:List α} (h:OwnS r w G a cap e l) (k:Ext w w'):OwnS r w' G a cap e l:=OwnS.upd h k (fun _ _ hf=>hf) (fun _ _ hf=>hf)
theorem OwnS.mono {w:World} {G G':Nat→Prop} {a:Option Addr} {cap:Nat} {e:TypeId} {l:List α} (h:OwnS r w G a cap e l) (hg:∀ b,G b→G' b):OwnS r w G' a cap e l:=by
 obtain ⟨vs,h1,h2⟩:=h
 exact ⟨vs,h1,Rows.mono hg h2⟩
theorem OwnS.at_ {w:World} {G:Nat→Prop} {a:Option Addr} {cap:Nat} {e:TypeId} {l:List α} (h:OwnS r w G a cap e l) (hg:∀ p,a=some p→G p.block):SliceAt r w G a l:=by
 obtain ⟨vs,h1,h2⟩:=h
 exact ⟨vs,h1.row,h2,fun _=>hg⟩
theorem OwnS.cap {w:World} {G:Nat→Prop} {a:Option Addr} {cap:Nat} {e:TypeId} {l:List α} (h:OwnS r w G a cap e l):l.length≤cap:=by
 obtain ⟨vs,h1,h2⟩:=h
 exact h1.2.1
theorem OwnS.blk {w:World} {G:Nat→Prop} {a:Option Addr} {cap:Nat} {e:TypeId} {l:List α} (h:OwnS r w G a cap e l) {q:Addr} (hq:a=some q):∃ b,a=some ⟨b,0,none⟩∧b<w.heap.size∧q=⟨b,0,none⟩:=by
 obtain ⟨vs,⟨_,_,hx⟩,h2⟩:=h
 rcases hx with ⟨hx,_⟩| ⟨b,cur,hx,hb,_⟩
 ·rw [hx] at hq;cases hq
 ·rw [hx] at hq;cases hq;exact ⟨b,hx,(Array.getElem?_eq_some_iff.1 hb).1,rfl⟩
theorem OwnS.push {w₀ w₁:World} {G:Nat→Prop} {a:Option Addr} {cap n bytes:Nat} {e:TypeId} {l:List α} {z:List Value} (h:OwnS r w₁ G a cap e l) {B:Nat} {x:α} {cs:Array Value} (hx:r.R w₁ G cs.toList x) (hn:New w₀ (.cells cs e) B w₁) (hnl:n=l.length)
  (hz:z.length=r.k) (hb:l.length≤1000000000) (hby:bytes≤10000) (hG:∀ b,a=some ⟨b,0,none⟩→¬ G b) {K:Option Addr→Nat→Nat→World→Prop}
  (hk:∀ a' c' w',Upd (fun b=>a=some ⟨b,0,none⟩) w₁ w'→OwnS r w' G a' c' e (l ++ [x])→(a'=a∨∃ b,a'=some ⟨b,0,none⟩∧w₁.heap.size≤b)→K a' (l ++ [x]).length c' w') :
  appendP e r.k bytes z a n cap (.slice (some ⟨B,0,none⟩) 1 1) w₁ K:=by
 subst hnl
 obtain ⟨vs,ho,hr⟩:=h
 have hl:=r.len hx
 have hrow:RowAt w₁ (some ⟨B,0,none⟩) cs.toList:=RowAt.of hn.get fun j v hj=>by simpa using hj
 refine append_own ho rfl (read_row hrow (by rw [hl];omega)) (by rw [hl];omega) (r.one hx) hz ?_ (by omega) fun a' c' w' hu ho' hf'=>?_
 ·have:(2 * (l.length+1)+192) * bytes≤(2 * (1000000000+1)+192) * 10000:=Nat.mul_le_mul (by omega) hby
  omega
 ·have:=hk a' c' w' hu ⟨_,by simpa using ho',Rows.upd hu (fun b hb hb'=>hG b hb' hb) (hr.append (Rows.single hx))⟩ hf'
  simpa using this
theorem OwnS.concat {w₁:World} {G:Nat→Prop} {a ax:Option Addr} {cap cx n m bytes:Nat} {e:TypeId} {l xs:List α} {z:List Value} (h:OwnS r w₁ G a cap e l) (hx:SliceAt r w₁ G ax xs) (hnl:n=l.length) (hm:m=xs.length)
  (hz:z.length=r.k) (hb:l.length+xs.length≤1000000000) (hby:bytes≤10000) (hG:∀ b,a=some ⟨b,0,none⟩→¬ G b) {K:Option Addr→Nat→Nat→World→Prop}
  (hk:∀ a' c' w',Upd (fun b=>a=some ⟨b,0,none⟩) w₁ w'→OwnS r w' G a' c' e (l ++ xs)→(a'=a∨∃ b,a'=some ⟨b,0,none⟩∧w₁.heap.size≤b)→K a' (l ++ xs).length c' w') :
  appendP e r.k bytes z a n cap (.slice ax m cx) w₁ K:=by
 subst hnl;subst hm
 obtain ⟨vs,ho,hr⟩:=h
 obtain ⟨us,hu1,hu2,hu3⟩:=hx
 refine append_own ho rfl (read_row hu1 (by rw [Rows.len hu2])) (by rw [Rows.len hu2]) (Rows.one hu2) hz ?_ (by omega) fun a' c' w' hu ho' hf'=>?_
 ·have:(2 * (l.length+xs.length)+192) * bytes≤(2 * 1000000000+192) * 10000:=Nat.mul_le_mul (by omega) hby
  omega
 ·have:=hk a' c' w' hu ⟨_,by simpa using ho',Rows.upd hu (fun b hb hb'=>hG b hb' hb) (hr.append hu2)⟩ hf'
  simpa using this
end
def flatR {α:Type} (f:α→List Value) (k:Nat) (hk:1≤k) (hl:∀ x,(f x).length=k) (h1:∀ x,∀ v∈f x,v.oneCell'=true):ERep α where
 k:=k
 R:=fun _ _ vs x=>vs=f x
 pos:=hk
 len:=fun h=>by rw [h,hl]
 one:=fun h=>by rw [h];exact h1 _
 upd:=fun h _ _=>h
 mono:=fun h _=>h
 cells:=fun h _=>h
def ERep.pair {α β γ:Type} (r:ERep β) (s:ERep γ) (f:α→β) (g:α→γ):ERep α where
 k:=r.k+s.k
 R:=fun w G vs x=>∃ u v,vs=u ++ v∧r.R w G u (f x)∧s.R w G v (g x)
 pos:=Nat.le_trans r.pos (Nat.le_add_right _ _)
 len:=fun ⟨u,v,e,hu,hv⟩=>by rw [e,List.length_append,r.len hu,s.len hv]
 one:=fun ⟨u,v,e,hu,hv⟩=>by
  rw [e]
  intro z hz
  rcases List.mem_append.1 hz with hz | hz
  ·exact r.one hu z hz
  ·exact s.one hv z hz
 upd:=fun ⟨u,v,e,hu,hv⟩ k hf=>⟨u,v,e,r.upd hu k hf,s.upd hv k hf⟩
 mono:=fun ⟨u,v,e,hu,hv⟩ hg=>⟨u,v,e,r.mono hu hg,s.mono hv hg⟩
 cells:=fun ⟨u,v,e,hu,hv⟩ k=>⟨u,v,e,r.cells hu k,s.cells hv k⟩
def sliceR {β:Type} (r:ERep β):ERep (List β) where
 k:=1
 R:=fun w G vs x=>∃ a c,vs=[.slice a x.length c]∧x.length≤c∧SliceAt r w G a x
 pos:=Nat.le_refl _
 len:=fun ⟨a,c,e,_⟩=>by rw [e];rfl
 one:=fun ⟨a,c,e,_⟩=>by
  rw [e]
  intro v hv
  simp at hv
  rw [hv];rfl
 upd:=fun ⟨a,c,e,hc,h⟩ k hf=>⟨a,c,e,hc,h.upd k hf⟩
 mono:=fun ⟨a,c,e,hc,h⟩ hg=>⟨a,c,e,hc,h.mono hg⟩
 cells:=fun ⟨a,c,e,hc,h⟩ k=>⟨a,c,e,hc,h.cellsLe k⟩
def bytesR:ERep (List UInt8) where
 k:=1
 R:=fun w G vs x=>∃ a c,vs=[.slice a x.length c]∧x.length≤c∧BytesAt w a x∧(x≠[]→∀ p,a=some p→G p.block)
 pos:=Nat.le_refl _
 len:=fun ⟨a,c,e,_⟩=>by rw [e];rfl
 one:=fun ⟨a,c,e,_⟩=>by
  rw [e]
  intro v hv
  simp at hv
  rw [hv];rfl
 upd:=fun {w w' F G vs x} ⟨a,c,e,hc,hb,hg⟩ k hf=>⟨a,c,e,hc,BytesAt.updM hb k hg hf,hg⟩
 mono:=fun ⟨a,c,e,hc,hb,hg⟩ hh=>⟨a,c,e,hc,hb,fun hn p hp=>hh _ (hg hn p hp)⟩
 cells:=fun ⟨a,c,e,hc,hb,hg⟩ k=>⟨a,c,e,hc,RowAt.cellsLe hb k,hg⟩
end
section
section
variable {α:Type}
def ListAt (r:ERep α) (Q:Nat→Prop) (S:Nat) (w:World) (a:Option Addr) (cap:Nat) (e:TypeId) (l:List α):Prop :=
 ∃ G,OwnS r w G a cap e l∧(∀ x,G x→(S≤x∨Q x)∧x<w.heap.size)∧∀ b,a=some ⟨b,0,none⟩→S≤b∧¬ G b
variable {r:ERep α} {Q:Nat→Prop} {S:Nat}
theorem ListAt.nil (w:World) (e:TypeId):ListAt r Q S w none 0 e []:=⟨NoB,OwnS.nil _ _ _,fun _ h=>h.elim,fun _ h=>by cases h⟩
theorem ListAt.ext {w w':World} {a:Option Addr} {cap:Nat} {e:TypeId} {l:List α} (h:ListAt r Q S w a cap e l) (k:Ext w w'):ListAt r Q S w' a cap e l:=by
 obtain ⟨G,h1,h2,h3⟩:=h
 exact ⟨G,h1.ext k,fun x hx=>⟨(h2 x hx).1,Nat.lt_of_lt_of_le (h2 x hx).2 k.size⟩,h3⟩
theorem ListAt.upd {w w':World} {F:Nat→Prop} {a:Option Addr} {cap:Nat} {e:TypeId} {l:List α} (h:ListAt r Q S w a cap e l) (k:Upd F w w') (hF:∀ x,F x→x<S∧¬ Q x):ListAt r Q S w' a cap e l:=by
 obtain ⟨G,h1,h2,h3⟩:=h
 refine ⟨G,h1.upd k (fun b hb hf=>?_) (fun b hb hf=>?_),fun x hx=>⟨(h2 x hx).1,Nat.lt_of_lt_of_le (h2 x hx).2 k.size⟩,h3⟩
 ·have hf':=hF b hf
  rcases (h2 b hb).1 with hq | hq
  ·omega
  ·exact hf'.2 hq
 ·have hf':=hF b hf
  have:=(h3 b hb).1
  omega
theorem ListAt.lt {w:World} {a:Option Addr} {cap:Nat} {e:TypeId} {l:List α} (h:ListAt r Q S w a cap e l) {b:Nat} (hb:a=some ⟨b,0,none⟩):b<w.heap.size:=by
 obtain ⟨G,h1,_⟩:=h
 obtain ⟨b',h2,h3,h4⟩:=h1.blk hb
 cases h4
 exact h3
theorem ListAt.cap {w:World} {a:Option Addr} {cap:Nat} {e:TypeId} {l:List α} (h:ListAt r Q S w a cap e l):l.length≤cap:=by
 obtain ⟨G,h1,_⟩:=h
 exact h1.cap
theorem ListAt.slice {w:World} {a:Option Addr} {cap:Nat} {e:TypeId} {l:List α} (h:ListAt r Q S w a cap e l):∃ G,SliceAt r w G a l∧∀ x,G x→(S≤x∨Q x)∧x<w.heap.size:=by
 obtain ⟨G,h1,h2,h3⟩:=h
 refine ⟨fun x=>G x∨a=some ⟨x,0,none⟩,(h1.mono fun _ hb=>.inl hb).at_ fun p hp=>?_,fun x hx=>?_⟩
 ·obtain ⟨b,hb,_,rfl⟩:=h1.blk hp
  exact .inr hb
 ·rcases hx with hx | hx
  ·exact h2 x hx
  ·obtain ⟨b,hb,hlt,e⟩:=h1.blk hx
   cases e
   exact ⟨.inl (h3 _ hx).1,hlt⟩
theorem ListAt.push {w₀ w₁:World} {H:Nat→Prop} {a:Option Addr} {cap n bytes:Nat} {e:TypeId} {l:List α} {z:List Value} (h:ListAt r Q S w₁ a cap e l) {B:Nat} {x:α} {cs:Array Value} (hx:r.R w₁ H cs.toList x) (hH:∀ b,H b→(S≤b∨Q b)∧b<w₁.heap.size∧a≠some ⟨b,0,none⟩) (hn:New w₀ (.cells cs e) B w₁) (hnl:n=l.length)
  (hz:z.length=r.k) (hb:l.length≤1000000000) (hby:bytes≤10000) (hS:S≤w₁.heap.size) {K:Option Addr→Nat→Nat→World→Prop}
  (hk:∀ a' c' w',Upd (fun b=>S≤b) w₁ w'→ListAt r Q S w' a' c' e (l ++ [x])→K a' (l ++ [x]).length c' w') :
  appendP e r.k bytes z a n cap (.slice (some ⟨B,0,none⟩) 1 1) w₁ K:=by
 obtain ⟨G,h1,h2,h3⟩:=h
 have hG:∀ b,G b∨H b→(S≤b∨Q b)∧b<w₁.heap.size:=fun b hb=>by
  rcases hb with hb | hb
  ·exact h2 b hb
  ·exact ⟨(hH b hb).1,(hH b hb).2.1⟩
 have hno:∀ b,a=some ⟨b,0,none⟩→¬ (G b∨H b):=fun b hb hb'=>by
  rcases hb' with hb' | hb'
  ·exact (h3 b hb).2 hb'
  ·exact (hH b hb').2.2 hb
 refine OwnS.push (G:=fun b=>G b∨H b) (h1.mono fun _ hb=>.inl hb) (r.mono hx fun _ hb=>.inr hb) hn hnl hz hb hby hno fun a' c' w' hu ho hf=>?_
 refine hk a' c' w' (hu.mono fun b _ hb=>(h3 b hb).1) ⟨_,ho,fun b hb=>⟨(hG b hb).1,Nat.lt_of_lt_of_le (hG b hb).2 hu.size⟩,fun b hb=>?_⟩
 rcases hf with hf | ⟨b',hb',hl⟩
 ·subst hf;exact ⟨(h3 b hb).1,hno b hb⟩
 ·rw [hb'] at hb
  cases hb
  exact ⟨Nat.le_trans hS hl,fun hb=>absurd (hG _ hb).2 (by omega)⟩
end
theorem Ext.own {w w₁ w':World} {S:Nat} (h:Ext w w₁) (k:Upd (fun b=>S≤b) w₁ w') (hS:w.heap.size≤S):Ext w w':=h.beyond k fun x hx=>Nat.le_trans hS hx
end
abbrev St:=Option (List UInt8)
def takeS (k:Nat):St→Nat×Nat×St
 | some l=>if l.length<k then (0,4,none) else (fromLE (l.take k),0,some (l.drop k))
 | none=>(0,4,none)
def cutS (k:Nat):St→List UInt8×Nat×St
 | some l=>if l.length<k then ([],4,none) else (l.take k,0,some (l.drop k))
 | none=>([],4,none)
def rowS (s:St):List UInt8×Nat×St:=if (takeS 1 s).2.1=0 then cutS (takeS 1 s).1 (takeS 1 s).2.2 else ([],4,none)
def leftS:St→Nat
 | some l=>l.length
 | none=>0
theorem takeS_cases (k:Nat) (s:St):takeS k s=(0,4,none)∨∃ l,s=some l∧k≤l.length∧takeS k s=(fromLE (l.take k),0,some (l.drop k)):=by
 cases s with
 | none=>exact .inl rfl
 | some l =>
  by_cases h:l.length<k
  ·exact .inl (by simp [takeS,h])
  ·exact .inr ⟨l,rfl,by omega,by simp [takeS,h]⟩
theorem takeS_lt (k:Nat) (s:St):(takeS k s).1<256 ^ k:=by
 rcases takeS_cases k s with h | ⟨l,_,hk,h⟩
 ·rw [h];exact Nat.pow_pos (by omega)
 ·rw [h]
  have:=fromLE_lt (l.take k)
  simpa [Nat.min_eq_left hk] using this
theorem takeS_err {k:Nat} {s:St} (h:(takeS k s).2.1≠0):takeS k s=(0,4,none):=by
 rcases takeS_cases k s with h' | ⟨l,_,hk,h'⟩
 ·exact h'
 ·rw [h'] at h;exact absurd rfl h
theorem cutS_cases (k:Nat) (s:St):cutS k s=([],4,none)∨∃ l,s=some l∧k≤l.length∧cutS k s=(l.take k,0,some (l.drop k)):=by
 cases s with
 | none=>exact .inl rfl
 | some l =>
  by_cases h:l.length<k
  ·exact .inl (by simp [cutS,h])
  ·exact .inr ⟨l,rfl,by omega,by simp [cutS,h]⟩
theorem rowS_err {s:St} (h:(rowS s).2.1≠0):rowS s=([],4,none):=by
 unfold rowS at h ⊢
 split
 ·rename_i h0
  rw [if_pos h0] at h
  rcases cutS_cases (takeS 1 s).1 (takeS 1 s).2.2 with h' | ⟨l,_,_,h'⟩
  ·exact h'
  ·rw [h'] at h;exact absurd rfl h
 ·rfl
theorem rowS_len (s:St):(rowS s).1.length<256:=by
 unfold rowS
 split
 ·have hlt:=takeS_lt 1 s
  rcases cutS_cases (takeS 1 s).1 (takeS 1 s).2.2 with h' | ⟨l,_,_,h'⟩
  ·rw [h'];decide
  ·rw [h']
   simp only [List.length_take]
   omega
 ·decide
def RdIn (G:Nat→Prop) (w:World) (r:Nat):St→Prop
 | some l=>ReaderIn G w r l false
 | none=>∃ l,ReaderIn G w r l true
theorem ReaderIn.updG {F G:Nat→Prop} {w w':World} {r:Nat} {l:List UInt8} {no:Bool} (h:ReaderIn G w r l no) (k:Upd F w w') (hr:¬ F r) (hG:∀ x,G x→¬ F x):ReaderIn G w' r l no:=by
 obtain ⟨a,c,h1,h2,h3,h4⟩:=h.at_
 exact ⟨a,c,Upd.get k h1 hr,RowAt.upd h2 k fun p hp=>hG _ (h4 p hp),h3,h4⟩
theorem RdIn.upd {F G:Nat→Prop} {w w':World} {r:Nat}:∀ {s:St},RdIn G w r s→Upd F w w'→¬ F r→(∀ x,G x→¬ F x)→RdIn G w' r s
 | some l,h,k,hr,hG=>ReaderIn.updG h k hr hG
 | none,⟨l,h⟩,k,hr,hG=>⟨l,h.updG k hr hG⟩
theorem RdIn.ext {G:Nat→Prop} {w w':World} {r:Nat} {s:St} (h:RdIn G w r s) (k:Ext w w'):RdIn G w' r s:=h.upd k (fun h=>h) fun _ _ h=>h
theorem rdTake {G:Nat→Prop} {w:World} {r k:Nat} {s:St} (hk:isSz k=true) (hG:¬ G r) (h:RdIn G w r s) :
  CallsR prog K.ends_Reader_Take #[.pointer (some ⟨r,0,none⟩),.int .i64 k] w fun v w'=>Upd (·=r) w w'∧v= .tuple #[.int .u64 ((takeS k s).1:Nat),.int .i64 ((takeS k s).2.1:Nat)]∧RdIn G w' r (takeS k s).2.2:=by
 cases s with
 | none =>
  obtain ⟨l,h⟩:=h
  refine (ends_Reader_Take_in r k l true w hk hG h).mono ?_
  rintro v w' ⟨hu,hv⟩
  rw [if_pos (.inl rfl)] at hv
  exact ⟨hu,hv.1,l,hv.2⟩
 | some l =>
  refine (ends_Reader_Take_in r k l false w hk hG h).mono ?_
  rintro v w' ⟨hu,hv⟩
  refine ⟨hu,?_⟩
  unfold takeS
  by_cases hl:l.length<k
  ·rw [if_pos (.inr hl)] at hv
   simp only [if_pos hl]
   exact ⟨hv.1,l,hv.2⟩
  ·rw [if_neg (by rintro (h | h);cases h;exact hl h)] at hv
   simp only [if_neg hl]
   exact hv
theorem rdCut {G:Nat→Prop} {w:World} {r k:Nat} {s:St} (hG:¬ G r) (h:RdIn G w r s) :
  CallsR prog K.ends_Reader_cut #[.pointer (some ⟨r,0,none⟩),.int .i64 k] w fun v w'=>Upd (·=r) w w'∧(∃ a c,v= .tuple #[.slice a (cutS k s).1.length c,.int .i64 ((cutS k s).2.1:Nat)]∧BytesAt w' a (cutS k s).1)∧RdIn G w' r (cutS k s).2.2:=by
 cases s with
 | none =>
  obtain ⟨l,h⟩:=h
  refine (ends_Reader_cut_in r k l true w hG h).mono ?_
  rintro v w' ⟨hu,hv⟩
  rw [if_pos (.inl rfl)] at hv
  exact ⟨hu,⟨none,0,hv.1,BytesAt.nil _ _⟩,l,hv.2⟩
 | some l =>
  refine (ends_Reader_cut_in r k l false w hG h).mono ?_
  rintro v w' ⟨hu,hv⟩
  refine ⟨hu,?_⟩
  unfold cutS
  by_cases hl:l.length<k
  ·rw [if_pos (.inr hl)] at hv
   simp only [if_pos hl]
   exact ⟨⟨none,0,hv.1,BytesAt.nil _ _⟩,l,hv.2⟩
  ·rw [if_neg (by rintro (h | h);cases h;exact hl h)] at hv
   simp only [if_neg hl]
   obtain ⟨a,c,h1,h2,h3⟩:=hv
   have:(l.take k).length=k:=by simp;omega
   exact ⟨⟨a,c,by rw [this];exact h1,h2⟩,h3⟩
theorem rdRow {G:Nat→Prop} {w:World} {r:Nat} {s:St} (hG:¬ G r) (h:RdIn G w r s) :
  CallsR prog K.ends_Reader_Row #[.pointer (some ⟨r,0,none⟩)] w fun v w'=>Upd (·=r) w w'∧(∃ a c,v= .tuple #[.slice a (rowS s).1.length c,.int .i64 ((rowS s).2.1:Nat)]∧BytesAt w' a (rowS s).1∧(rowS s).1.length≤c∧∀ p,a=some p→w.heap.size≤p.block∧p.block<w'.heap.size)∧RdIn G w' r (rowS s).2.2:=by
 apply ends_Reader_Row.sh
 unfold ends_Reader_Row.body
 refine (rdTake (k:=1) (by decide) hG h).mono ?_
 rintro _ w₁ ⟨hu,rfl,hr⟩
 refine ⟨_,_,rfl,br_ne (fun he=>?_) fun he=>?_⟩
 ·have he':=takeS_err (k:=1) (s:=s) (by omega)
  have hrow:rowS s=([],4,none):=by unfold rowS;rw [he'];rfl
  rw [he'] at hr ⊢
  rw [hrow]
  exact ⟨hu,⟨none,0,rfl,BytesAt.nil _ _,Nat.le_refl _,fun _ h=>by cases h⟩,hr⟩
 ·have he0:(takeS 1 s).2.1=0:=by omega
  have hrow:rowS s=cutS (takeS 1 s).1 (takeS 1 s).2.2:=by unfold rowS;rw [if_pos he0]
  have hlt:=takeS_lt 1 s
  rw [w64n (by omega)]
  refine (rdCut hG hr).mono ?_
  rintro _ w₂ ⟨hu2,⟨a,c,rfl,hb⟩,hr2⟩
  rw [← hrow] at hb hr2 ⊢
  have hlen:=rowS_len s
  refine ⟨_,_,_,_,rfl,append_copy hb (by omega) fun a' c' w₃ he hb' hc hf hn=>?_⟩
  refine ⟨(hu.trans hu2).trans he.ext,⟨a',c',rfl,hb',hc,fun p hp=>⟨?_,?_⟩⟩,hr2.ext he⟩
  ·exact Nat.le_trans (Nat.le_trans hu.size hu2.size) (hf p hp)
  ·by_cases hl:(rowS s).1=[]
   ·rw [hn hl] at hp;cases hp
   ·obtain ⟨b,o,hab,hlt⟩:=RowAt.blk hb' (by simpa using hl)
    rw [hab] at hp;cases hp;exact hlt
theorem rdLeft {G:Nat→Prop} {w:World} {r:Nat} {s:St} (h:RdIn G w r s) :
  CallsR prog K.ends_Reader_Left #[.pointer (some ⟨r,0,none⟩)] w fun v w'=>v= .int .i64 (leftS s:Nat)∧w'=w:=by
 apply ends_Reader_Left.sh
 unfold ends_Reader_Left.body
 cases s with
 | none =>
  obtain ⟨l,h⟩:=h
  refine (ends_Reader_off_spec r l true w h).mono ?_
  rintro _ _ ⟨rfl,rfl⟩
  obtain ⟨a,c,hr,_⟩:=h.at_
  refine ⟨_,rfl,?_⟩
  simp only [br_false,nilC_some',add_lit,Nat.zero_add]
  exact ⟨true,cell_of hr rfl,by simp [leftS]⟩
 | some l =>
  refine (ends_Reader_off_spec r l false w h).mono ?_
  rintro _ _ ⟨rfl,rfl⟩
  obtain ⟨a,c,hr,_⟩:=ReaderIn.at_ h
  refine ⟨_,rfl,?_⟩
  simp only [br_false,nilC_some',add_lit,Nat.zero_add]
  exact ⟨false,cell_of hr rfl,a,l.length,c,cell_of hr rfl,by simp [leftS]⟩
def RRdIn (G:Nat→Prop) (w:World) (r:Nat):St→Prop
 | some l=>RReaderIn G w r l false∧l.length≤1000000000000
 | none=>∃ l,RReaderIn G w r l true
theorem RReaderIn.updG {F G:Nat→Prop} {w w':World} {r:Nat} {l:List UInt8} {no:Bool} (h:RReaderIn G w r l no) (k:Upd F w w') (hr:¬ F r) (hG:∀ x,G x→¬ F x):RReaderIn G w' r l no:=by
 obtain ⟨a,c,h1,h2,h3,h4⟩:=h.at_
 exact ⟨a,c,Upd.get k h1 hr,RowAt.upd h2 k fun p hp=>hG _ (h4 p hp),h3,h4⟩
theorem RRdIn.upd {F G:Nat→Prop} {w w':World} {r:Nat}:∀ {s:St},RRdIn G w r s→Upd F w w'→¬ F r→(∀ x,G x→¬ F x)→RRdIn G w' r s
 | some l,h,k,hr,hG=>⟨RReaderIn.updG h.1 k hr hG,h.2⟩
 | none,⟨l,h⟩,k,hr,hG=>⟨l,h.updG k hr hG⟩
theorem RRdIn.ext {G:Nat→Prop} {w w':World} {r:Nat} {s:St} (h:RRdIn G w r s) (k:Ext w w'):RRdIn G w' r s:=h.upd k (fun h=>h) fun _ _ h=>h
theorem rrdTake {G:Nat→Prop} {w:World} {r k:Nat} {s:St} (hk:isSz k=true) (hG:¬ G r) (h:RRdIn G w r s) :
  CallsR prog K.carrackref01_Reader_Take #[.pointer (some ⟨r,0,none⟩),.int .i64 k] w fun v w'=>Upd (·=r) w w'∧v= .tuple #[.int .u64 ((takeS k s).1:Nat),.int .i64 ((takeS k s).2.1:Nat)]∧RRdIn G w' r (takeS k s).2.2:=by
 cases s with
 | none =>
  obtain ⟨l,h⟩:=h
  refine (carrackref01_Reader_Take_in r k l true w hk hG h).mono ?_
  rintro v w' ⟨hu,hv⟩
  rw [if_pos (.inl rfl)] at hv
  exact ⟨hu,hv.1,l,hv.2⟩
 | some l =>
  refine (carrackref01_Reader_Take_in r k l false w hk hG h.1).mono ?_
  rintro v w' ⟨hu,hv⟩
  refine ⟨hu,?_⟩
  unfold takeS
  by_cases hl:l.length<k
  ·rw [if_pos (.inr hl)] at hv
   simp only [if_pos hl]
   exact ⟨hv.1,l,hv.2⟩
  ·rw [if_neg (by rintro (h | h);cases h;exact hl h)] at hv
   simp only [if_neg hl]
   exact ⟨hv.1,hv.2,by have:=h.2;rw [List.length_drop];omega⟩
theorem rrdLeft {G:Nat→Prop} {w:World} {r:Nat} {s:St} (h:RRdIn G w r s) :
  CallsR prog K.carrackref01_Reader_Left #[.pointer (some ⟨r,0,none⟩)] w fun v w'=>v= .int .i64 (leftS s:Nat)∧w'=w:=by
 apply carrackref01_Reader_Left.sh
 unfold carrackref01_Reader_Left.body
 simp only [nilC_some',add_lit,Nat.zero_add]
 cases s with
 | none =>
  obtain ⟨l,h⟩:=h
  obtain ⟨a,c,hr,_⟩:=h.at_
  exact ⟨true,cell_of hr rfl,by simp [leftS]⟩
 | some l =>
  obtain ⟨a,c,hr,_⟩:=h.1.at_
  exact ⟨false,cell_of hr rfl,a,l.length,c,cell_of hr rfl,by simp [leftS]⟩
theorem rowS_some {l:List UInt8} (h1:1≤l.length):rowS (some l)=cutS (l.getD 0 0).toNat (some (l.drop 1)):=by
 have e1:fromLE (l.take 1)=(l.getD 0 0).toNat:=by cases l<;>simp [fromLE]
 have e2:takeS 1 (some l)=((l.getD 0 0).toNat,0,some (l.drop 1)):=by simp [takeS,Nat.not_lt.2 h1,e1]
 unfold rowS
 rw [e2];rfl
theorem rrdRow {G:Nat→Prop} {w:World} {r:Nat} {s:St} (hG:¬ G r) (h:RRdIn G w r s) :
  CallsR prog K.carrackref01_Reader_Row #[.pointer (some ⟨r,0,none⟩)] w fun v w'=>Upd (·=r) w w'∧(∃ a c,v= .tuple #[.slice a (rowS s).1.length c,.int .i64 ((rowS s).2.1:Nat)]∧BytesAt w' a (rowS s).1∧(rowS s).1.length≤c∧∀ p,a=some p→w.heap.size≤p.block∧p.block<w'.heap.size)∧RRdIn G w' r (rowS s).2.2:=by
 apply carrackref01_Reader_Row.sh
 unfold carrackref01_Reader_Row.body
 simp only [nilC_some',add_lit,Nat.zero_add]
 have bad:∀ {u:World} {l:List UInt8} {no:Bool},RReaderIn G u r l no→Ext w u→rowS s=([],4,none)→storeP u ⟨r,1,none⟩ [.bool true] fun w'=>Upd (·=r) w w'∧(∃ a c,Value.tuple #[.slice none 0 0,.int .i64 4]= .tuple #[.slice a (rowS s).1.length c,.int .i64 ((rowS s).2.1:Nat)]∧BytesAt w' a (rowS s).1∧(rowS s).1.length≤c∧∀ p,a=some p→w.heap.size≤p.block∧p.block<w'.heap.size)∧RRdIn G w' r (rowS s).2.2:=by
  intro u l no hr he hrow
  obtain ⟨a,c,h1,h2,h3,h4⟩:=hr.at_
  rw [hrow]
  refine store_of h1 (by simp) fun w' hput=>⟨Upd.trans he.ext hput.upd1,⟨none,0,rfl,BytesAt.nil _ _,Nat.le_refl _,fun _ h=>by cases h⟩,l,⟨a,c,hput.get,?_,h3,h4⟩⟩
  exact RowAt.upd h2 hput.upd1 fun p hp e=>hG (e ▸ h4 p hp)
 cases s with
 | none =>
  obtain ⟨l,h⟩:=h
  refine ⟨fun _=>False,fun w₁ hd=>?_,fun _ h=>h.elim⟩
  have hr:=h.updG hd.upd (fun h=>h) (fun _ _ h=>h)
  obtain ⟨a,c,h1,_⟩:=hr.at_
  refine ⟨(·=w₁),rfl,true,?_,?_⟩
  ·rintro u rfl;exact cell_of h1 rfl
  ·exact bad hr hd.upd rfl
 | some l =>
  obtain ⟨hrd,hsz⟩:=h
  refine ⟨fun u=>RReaderIn G u r l false∧Ext w u∧1≤l.length∧(l.getD 0 0).toNat≤l.length - 1,fun w₁ hd=>?_,?_⟩
  ·have hr:=hrd.updG hd.upd (fun h=>h) (fun _ _ h=>h)
   obtain ⟨a,c,h1,h2,h3,h4⟩:=hr.at_
   refine ⟨(·=w₁),rfl,false,?_,?_⟩
   ·rintro u rfl;exact cell_of h1 rfl
   ·refine ⟨a,l.length,c,?_,br_dec (fun hl=>?_) fun hl=>?_⟩
    ·rintro u rfl;exact cell_of h1 rfl
    ·refine bad hr hd.upd ?_
     have:takeS 1 (some l)=(0,4,none):=by simp only [takeS];rw [if_pos (by omega)]
     unfold rowS;rw [this];rfl
    ·have hl1:1≤l.length:=by omega
     refine ⟨a,l.length,c,?_,a,l.length,c,?_,?_⟩
     ·rintro u rfl;exact cell_of h1 rfl
     ·rintro u rfl;exact cell_of h1 rfl
     refine idx_byteS (S:=(·=w₁)) (l:=l) (i:=0) (a:=a) (by rintro u rfl;exact h2) ⟨_,rfl⟩ (by omega) (by omega) ?_
     have hbx:=(l.getD 0 0).toNat_lt
     have q1:IntKind.i64.wrap ((l.length:Int) - 1)=(l.length:Int) - 1:=w64 (by omega) (by omega)
     have q2:IntKind.i64.wrap ((l.getD (Int.toNat 0) 0).toNat:Int)=((l.getD 0 0).toNat:Int):=w64 (by simp only [Int.toNat_zero];omega) (by simp only [Int.toNat_zero];omega)
     simp only [q1,q2]
     refine br_dec (fun hlt=>?_) fun hge=>?_
     ·refine bad hr hd.upd ?_
      rw [rowS_some hl1]
      unfold cutS
      simp only []
      rw [if_pos (by rw [List.length_drop];omega)]
     ·exact ⟨hr,hd.upd,hl1,by omega⟩
  ·rintro w₅ ⟨hr,he,hl1,hle⟩
   obtain ⟨a,c,h1,h2,h3,h4⟩:=hr.at_
   have hbx:=(l.getD 0 0).toNat_lt
   have hrow:rowS (some l)=((l.drop 1).take (l.getD 0 0).toNat,0,some (l.drop (1+(l.getD 0 0).toNat))):=by
    rw [rowS_some hl1]
    unfold cutS
    simp only []
    rw [if_neg (by rw [List.length_drop];omega),List.drop_drop]
   refine ⟨a,l.length,c,cell_of h1 rfl,idx_byte h2 (by omega) (by omega) ?_⟩
   have q2:IntKind.i64.wrap ((l.getD (Int.toNat 0) 0).toNat:Int)=((l.getD 0 0).toNat:Int):=w64 (by simp only [Int.toNat_zero];omega) (by simp only [Int.toNat_zero];omega)
   have q3:IntKind.i64.wrap ((1:Int)+((l.getD 0 0).toNat:Int))=1+((l.getD 0 0).toNat:Int):=w64 (by omega) (by omega)
   simp only [q2,q3]
   have q4:((1:Int)+((l.getD 0 0).toNat:Int)).toNat=1+(l.getD 0 0).toNat:=by omega
   refine ⟨a,l.length,c,cell_of h1 rfl,slice_bytes_mid h2 (by omega) (by omega) (by omega) h3 (.inl rfl) fun a6 c6 hb6 hc6=>?_⟩
   have em:(l.take ((1:Int)+((l.getD 0 0).toNat:Int)).toNat).drop (Int.toNat 1)=(rowS (some l)).1:=by
    rw [hrow,q4]
    show (l.take (1+(l.getD 0 0).toNat)).drop 1=(l.drop 1).take (l.getD 0 0).toNat
    rw [List.drop_take,Nat.add_sub_cancel_left]
   have hlen:=rowS_len (some l)
   rw [em] at hb6 hc6 ⊢
   refine append_copy hb6 (by omega) fun a7 c7 w₆ he6 hb7 hc7 hf7 hn7=>?_
   have g1:=Ext.get he6 h1
   refine ⟨a,l.length,c,cell_of g1 rfl,slice_bytes_from (h2.ext he6) (by omega) (by omega) h3 fun a9 c9 hb9 hc9 ha9 _ _=>?_⟩
   rw [q4] at hb9 hc9 ⊢
   refine store_of g1 (by simp) fun w₇ hput=>⟨(he.trans he6).ext.trans hput.upd1,⟨a7,c7,?_,RowAt.upd hb7 hput.upd1 fun p hp e=>?_,hc7,fun p hp=>⟨Nat.le_trans he.size (hf7 p hp),?_⟩⟩,?_⟩
   ·rw [hrow];rfl
   ·have:=hf7 p hp
    have hr5:r<w₅.heap.size:=(Array.getElem?_eq_some_iff.1 h1).1
    omega
   ·by_cases hl:(rowS (some l)).1=[]
    ·rw [hn7 hl] at hp;cases hp
    ·obtain ⟨b,o,hab,hlt⟩:=RowAt.blk hb7 (by simpa using hl)
     rw [hab] at hp;cases hp;rw [hput.size];exact hlt
   ·rw [hrow]
    have hne:∀ p,a9=some p→G p.block:=by
     intro p hp
     rcases ha9 with ha9 | ha9
     ·exact h4 p (ha9 ▸ hp)
     ·rw [ha9] at hp
      cases a with
      | none=>simp at hp
      | some q =>
       simp at hp
       have:=h4 q rfl
       rw [← hp]
       unfold Addr.add
       split<;>exact this
    exact ⟨⟨a9,c9,hput.get,RowAt.upd hb9 hput.upd1 fun p hp e=>hG (e ▸ hne p hp),hc9,hne⟩,by rw [List.length_drop];omega⟩
end Go.Den
namespace Go.Den
def mayByte (c:UInt8):Bool:=(decide (97≤c.toNat) && decide (c.toNat≤122)) || (decide (48≤c.toNat) && decide (c.toNat≤57)) || decide (c.toNat=46) || decide (c.toNat=45)
def isName (s:List UInt8):Bool:=s.all mayByte && decide (1≤s.length) && decide (s.length≤12) && !(s == [46]) && !(s == [46,46])
structure Key where
 ino:Int
 what:UInt8
 name:ByteArray
 chunk:Int
 deriving DecidableEq
namespace Key
def zero:Key:=⟨0,0,ByteArray.empty,0⟩
def bytes (k:Key):List UInt8:=k.name.data.toList
def vals (k:Key):List Value:=[.int .i64 k.ino,bv k.what,.string k.name,.int .i64 k.chunk]
def may (k:Key):Bool:=decide (1≤k.ino) && decide (k.ino≤65535) &&
 ((decide (k.what.toNat=1) && decide (k.bytes=[]) && decide (k.chunk=0)) || (decide (k.what.toNat=2) && isName k.bytes && decide (k.chunk=0)) || (decide (k.what.toNat=3) && decide (k.bytes=[]) && decide (0≤k.chunk) && decide (k.chunk<8)))
def code (k:Key):List Int:=k.ino :: (k.what.toNat:Int) :: (k.bytes.map (fun b=>(b.toNat:Int)+1) ++ [0,k.chunk])
end Key
abbrev keyV (k:Key):Value:=.agg #[.int .i64 k.ino,bv k.what,.string k.name,.int .i64 k.chunk]
def listLt:List Int→List Int→Bool
 | [],[]=>false
 | [],_ :: _=>true
 | _ :: _,[]=>false
 | x :: xs,y :: ys=>decide (x<y) || (decide (x=y) && listLt xs ys)
theorem listLt_trans:∀ {a b c},listLt a b=true→listLt b c=true→listLt a c=true
 | [],[],_,h,_=>by cases h
 | [],_ :: _,[],_,h=>by cases h
 | [],_ :: _,_ :: _,_,_=>rfl
 | _ :: _,[],_,h,_=>by cases h
 | _ :: _,_ :: _,[],_,h=>by cases h
 | x :: xs,y :: ys,z :: zs,h,k=>by
  simp only [listLt,Bool.or_eq_true,Bool.and_eq_true,decide_eq_true_eq] at h k ⊢
  rcases h with h | ⟨h1,h2⟩
  ·rcases k with k | ⟨k1,k2⟩
   ·exact .inl (by omega)
   ·exact .inl (by omega)
  ·rcases k with k | ⟨k1,k2⟩
   ·exact .inl (by omega)
   ·exact .inr ⟨by omega,listLt_trans h2 k2⟩
def before (a b:Key):Bool:=listLt a.code b.code
theorem before_trans {a b c:Key} (h:before a b=true) (k:before b c=true):before a c=true:=listLt_trans h k
structure Fact where
 key:Key
 val:List UInt8
 deriving DecidableEq
structure Change where
 key:Key
 val:List UInt8
 gone:Bool
 deriving DecidableEq
def ordered:List Fact→Bool
 | []=>true
 | [_]=>true
 | x :: y :: l=>before x.key y.key && ordered (y :: l)
def Sorted (l:List Fact):Prop:=l.Pairwise fun a b=>before a.key b.key=true
theorem ordered_sorted:∀ {l:List Fact},ordered l=true ↔ Sorted l
 | []=>by simp [ordered,Sorted]
 | [x]=>by simp [ordered,Sorted]
 | x :: y :: l=>by
  unfold ordered
  rw [Bool.and_eq_true,ordered_sorted (l:=y :: l)]
  unfold Sorted
  rw [List.pairwise_cons (a:=x)]
  constructor
  ·rintro ⟨h1,h2⟩
   refine ⟨fun z hz=>?_,h2⟩
   rcases List.mem_cons.1 hz with rfl | hz
   ·exact h1
   ·exact before_trans h1 ((List.pairwise_cons.1 h2).1 z hz)
  ·rintro ⟨h1,h2⟩
   exact ⟨h1 y (by simp),h2⟩
end Go.Den
namespace Go.Den
theorem str_beq (a b:ByteArray):(a.toList == b.toList)=(a.data.toList == b.data.toList):=by
 rw [ByteArray.toList_eq,ByteArray.toList_eq]
theorem path_may_spec (c:UInt8) (w:World):CallsR prog K.path_may #[bv c] w fun v w'=>v= .bool (mayByte c)∧w'=w:=by
 apply path_may.sh
 unfold path_may.body
 have fin:∀ {b:Bool},mayByte c=b→(fun v w'=>v=Value.bool (mayByte c)∧w'=w) (Value.bool b) w:=fun h=>⟨by rw [h],rfl⟩
 have e:∀ {b:Bool},(mayByte c=true ↔ b=true)→mayByte c=b:=fun h=>by rw [Bool.eq_iff_iff];exact h
 have hm:mayByte c=true ↔ (97≤c.toNat∧c.toNat≤122)∨(48≤c.toNat∧c.toNat≤57)∨c.toNat=46∨c.toNat=45:=by
  unfold mayByte
  simp only [Bool.or_eq_true,Bool.and_eq_true,decide_eq_true_eq]
  constructor
  ·rintro (((h | h) | h) | h)
   ·exact .inl h
   ·exact .inr (.inl h)
   ·exact .inr (.inr (.inl h))
   ·exact .inr (.inr (.inr h))
  ·rintro (h | h | h | h)
   ·exact .inl (.inl (.inl h))
   ·exact .inl (.inl (.inr h))
   ·exact .inl (.inr h)
   ·exact .inr h
 have yes:(97≤c.toNat∧c.toNat≤122)∨(48≤c.toNat∧c.toNat≤57)∨c.toNat=46∨c.toNat=45→(fun v w'=>v=Value.bool (mayByte c)∧w'=w) (Value.bool true) w:=fun h=>fin (hm.2 h)
 have no:¬ ((97≤c.toNat∧c.toNat≤122)∨(48≤c.toNat∧c.toNat≤57)∨c.toNat=46∨c.toNat=45)→(fun v w'=>v=Value.bool (mayByte c)∧w'=w) (Value.bool false) w:=fun h=>fin (by
  cases hb:mayByte c with
  | false=>rfl
  | true=>exact absurd (hm.1 hb) h)
 have dots:¬ (97≤c.toNat∧c.toNat≤122)→¬ (48≤c.toNat∧c.toNat≤57)→br ((c.toNat:Int) == 46) (br ((c.toNat:Int) == 46) ((fun v w'=>v=Value.bool (mayByte c)∧w'=w) (Value.bool true) w) ((fun v w'=>v=Value.bool (mayByte c)∧w'=w) (Value.bool false) w))
   (br ((c.toNat:Int) == 45) ((fun v w'=>v=Value.bool (mayByte c)∧w'=w) (Value.bool true) w) ((fun v w'=>v=Value.bool (mayByte c)∧w'=w) (Value.bool false) w)):=fun h1 h2 =>
  br_eq (fun h=>br_eq (fun _=>yes (by omega)) fun h'=>absurd h h') fun h=>br_eq (fun h'=>yes (by omega)) fun h'=>no (by omega)
 refine br_dec (fun h1=>br_dec (fun h2=>br_dec (fun _=>yes (by omega)) fun h=>absurd h2 h) fun h2=>br_dec (fun h3=>br_dec (fun h4=>by omega) fun h4=>dots (by omega) (by omega)) fun h3=>by omega) fun h1=>?_
 exact br_dec (fun h3=>br_dec (fun h4=>br_dec (fun _=>yes (by omega)) fun h=>absurd h4 h) fun h4=>dots (by omega) (by omega)) fun h3=>dots (by omega) (by omega)
theorem all_take_succ {α:Type} {l:List α} {i:Nat} (hi:i<l.length) (p:α→Bool):(l.take (i+1)).all p=((l.take i).all p && p l[i]):=by
 rw [List.take_succ_eq_append_getElem hi,List.all_append]
 simp
theorem size_data (s:ByteArray):s.size=s.data.toList.length:=by rw [Array.length_toList];rfl
theorem name_tail {s:ByteArray} (hall:s.data.toList.all mayByte=true) {w w':World} {R:Value→World→Prop} (hR:R (.bool (isName s.data.toList)) w') {p:Prop} [Decidable p] (hp:p ↔ 1≤s.data.toList.length) :
  br (decide p) (br (decide (((s.size:Nat):Int)≤12)) (br (!(s.toList == (⟨#[46]⟩: ByteArray).toList)) (R (Value.bool (!(s.toList == (⟨#[46,46]⟩: ByteArray).toList))) w') (R (Value.bool false) w')) (R (Value.bool false) w')) (R (Value.bool false) w'):=by
 have hn:isName s.data.toList=(decide (1≤s.data.toList.length) && decide (s.data.toList.length≤12) && !(s.data.toList == [46]) && !(s.data.toList == [46,46])):=by
  unfold isName
  rw [hall];rfl
 rw [hn] at hR
 have hsz:=size_data s
 rw [str_beq,str_beq]
 refine br_dec (fun h1=>br_dec (fun h2=>br_intro (fun h3=>?_) fun h3=>?_) fun h2=>?_) fun h1=>?_
 ·have h3':(!(s.data.toList == [46]))=true:=h3
  rw [decide_eq_true (hp.1 h1),decide_eq_true (by omega:s.data.toList.length≤12),h3'] at hR
  exact hR
 ·have h3':(!(s.data.toList == [46]))=false:=h3
  rw [h3'] at hR
  simpa using hR
 ·rw [decide_eq_false (p:=s.data.toList.length≤12) (by omega)] at hR
  simpa using hR
 ·rw [decide_eq_false (p:=1≤s.data.toList.length) (fun h=>h1 (hp.2 h))] at hR
  simpa using hR
theorem isName_false {s:List UInt8} (h:s.all mayByte=false):isName s=false:=by
 unfold isName
 rw [h];rfl
theorem all_false {l:List UInt8} {i:Nat} (hi:i<l.length) (h:mayByte l[i]=false):l.all mayByte=false:=by
 rw [List.all_eq_false]
 exact ⟨l[i],List.getElem_mem hi,by rw [h];simp⟩
theorem path_Name_spec (s:ByteArray) (hs:s.size<9223372036854775807) (w:World):CallsR prog K.path_Name #[.string s] w fun v w'=>v= .bool (isName s.data.toList)∧w'=w:=by
 apply path_Name.sh
 unfold path_Name.body
 have hsz:=size_data s
 refine ⟨fun x u=>∃ i:Nat,x=i∧i≤s.data.toList.length∧u=w∧(s.data.toList.take i).all mayByte=true,fun x _=>(s.data.toList.length - x).toNat,⟨0,rfl,by omega,rfl,by simp⟩,?_⟩
 rintro x u ⟨i,rfl,hi,rfl,ha⟩
 refine br_dec (fun hlt=>⟨by omega,?_⟩) fun hge=>?_
 ·have hi':i<s.data.toList.length:=by omega
  refine ⟨s.data.toList[i],by simp [hi'],?_⟩
  refine (path_may_spec _ _).mono ?_
  rintro _ _ ⟨rfl,rfl⟩
  refine ⟨_,rfl,br_intro (fun hb=>⟨?_,rfl⟩) fun hb=>?_⟩
  ·rw [isName_false (all_false hi' (by simpa using hb))]
  ·have e1:IntKind.i64.wrap ((i:Int)+1)=((i+1:Nat):Int):=w64 (by omega) (by omega)
   rw [e1]
   exact ⟨⟨i+1,rfl,hi',rfl,by rw [all_take_succ hi',ha];simpa using hb⟩,meas hi'⟩
 ·have:i=s.data.toList.length:=by omega
  subst this
  rw [List.take_length] at ha
  exact name_tail (w:=u) ha (R:=fun v w'=>v= .bool (isName s.data.toList)∧w'=u) ⟨rfl,rfl⟩ (by omega)
theorem carrackref05_Name_spec (s:ByteArray) (hs:s.size<9223372036854775807) (w:World):CallsR prog K.carrackref05_Name #[.string s] w fun v w'=>v= .bool (isName s.data.toList)∧w'=w:=by
 apply carrackref05_Name.sh
 unfold carrackref05_Name.body
 have hsz:=size_data s
 refine ⟨fun x u=>∃ i:Nat,x=i∧i≤s.data.toList.length∧u=w∧(s.data.toList.take i).all mayByte=true,fun x _=>(s.data.toList.length - x).toNat,⟨0,rfl,by omega,rfl,by simp⟩,?_⟩
 rintro x u ⟨i,rfl,hi,rfl,ha⟩
 refine br_dec (fun hlt=>⟨by omega,?_⟩) fun hge=>?_
 ·have hi':i<s.data.toList.length:=by omega
  refine ⟨s.data.toList[i],by simp [hi'],?_⟩
  have e1:IntKind.i64.wrap ((i:Int)+1)=((i+1:Nat):Int):=w64 (by omega) (by omega)
  rw [e1]
  generalize hc:s.data.toList[i]=c
  have hm:mayByte c=true ↔ (97≤c.toNat∧c.toNat≤122)∨(48≤c.toNat∧c.toNat≤57)∨c.toNat=46∨c.toNat=45:=by
   unfold mayByte
   simp only [Bool.or_eq_true,Bool.and_eq_true,decide_eq_true_eq]
   constructor
   ·rintro (((h | h) | h) | h)
    ·exact .inl h
    ·exact .inr (.inl h)
    ·exact .inr (.inr (.inl h))
    ·exact .inr (.inr (.inr h))
   ·rintro (h | h | h | h)
    ·exact .inl (.inl (.inl h))
    ·exact .inl (.inl (.inr h))
    ·exact .inl (.inr h)
    ·exact .inr h
  have yes:(97≤c.toNat∧c.toNat≤122)∨(48≤c.toNat∧c.toNat≤57)∨c.toNat=46∨c.toNat=45→(∃ k:Nat,((i+1:Nat):Int)=k∧k≤s.data.toList.length∧u=u∧(s.data.toList.take k).all mayByte=true)∧((s.data.toList.length:Int) - ((i+1:Nat):Int)).toNat<((s.data.toList.length:Int) - (i:Int)).toNat:=fun h =>
   ⟨⟨i+1,rfl,hi',rfl,by rw [all_take_succ hi',ha,hc,hm.2 h];rfl⟩,meas hi'⟩
  have no:¬ ((97≤c.toNat∧c.toNat≤122)∨(48≤c.toNat∧c.toNat≤57)∨c.toNat=46∨c.toNat=45)→(fun v w'=>v=Value.bool (isName s.data.toList)∧w'=u) (Value.bool false) u:=fun h=>⟨by
   rw [isName_false (all_false hi' (by
    rw [hc]
    cases hb:mayByte c with
    | false=>rfl
    | true=>exact absurd (hm.1 hb) h))],rfl⟩
  have dots:¬ (97≤c.toNat∧c.toNat≤122)→¬ (48≤c.toNat∧c.toNat≤57)→br ((c.toNat:Int) == 46) ((∃ k:Nat,((i+1:Nat):Int)=k∧k≤s.data.toList.length∧u=u∧(s.data.toList.take k).all mayByte=true)∧((s.data.toList.length:Int) - ((i+1:Nat):Int)).toNat<((s.data.toList.length:Int) - (i:Int)).toNat)
    (br (!((c.toNat:Int) == 45)) ((fun v w'=>v=Value.bool (isName s.data.toList)∧w'=u) (Value.bool false) u) ((∃ k:Nat,((i+1:Nat):Int)=k∧k≤s.data.toList.length∧u=u∧(s.data.toList.take k).all mayByte=true)∧((s.data.toList.length:Int) - ((i+1:Nat):Int)).toNat<((s.data.toList.length:Int) - (i:Int)).toNat)):=fun h1 h2 =>
   br_eq (fun h=>yes (by omega)) fun h=>br_intro (fun h'=>no (by have h0:(c.toNat:Int)≠45:=(by simpa using h');omega)) fun h'=>yes (by have h0:(c.toNat:Int)=45:=(by simpa using h');omega)
  exact br_dec (fun h1=>br_dec (fun h2=>yes (by omega)) fun h2=>br_dec (fun h3=>br_dec (fun h4=>by omega) fun h4=>dots (by omega) (by omega)) fun h3=>by omega) fun h1 =>
   br_dec (fun h3=>br_dec (fun h4=>yes (by omega)) fun h4=>dots (by omega) (by omega)) fun h3=>dots (by omega) (by omega)
 ·have:i=s.data.toList.length:=by omega
  subst this
  rw [List.take_length] at ha
  exact name_tail (w:=u) ha (R:=fun v w'=>v= .bool (isName s.data.toList)∧w'=u) ⟨rfl,rfl⟩ (by omega)
theorem Key.may_ino {k:Key} (h:¬ (1≤k.ino∧k.ino≤65535)):k.may=false:=by
 unfold Key.may
 by_cases h1:1≤k.ino
 ·rw [decide_eq_false (p:=k.ino≤65535) (fun h2=>h ⟨h1,h2⟩)];simp
 ·rw [decide_eq_false h1];simp
theorem Key.may_in {k:Key} (h:1≤k.ino∧k.ino≤65535):k.may=((decide (k.what.toNat=1) && decide (k.bytes=[]) && decide (k.chunk=0)) || (decide (k.what.toNat=2) && isName k.bytes && decide (k.chunk=0)) || (decide (k.what.toNat=3) && decide (k.bytes=[]) && decide (0≤k.chunk) && decide (k.chunk<8))):=by
 unfold Key.may
 rw [decide_eq_true h.1,decide_eq_true h.2];rfl
theorem empty_beq (k:Key):(k.name.toList == (⟨#[]⟩: ByteArray).toList)=decide (k.bytes=[]):=by
 rw [str_beq,Bool.eq_iff_iff]
 unfold Key.bytes
 simp
theorem fact_MayKey_spec (k:Key) (hn:k.name.size<9223372036854775807) (w:World):CallsR prog K.fact_MayKey #[keyV k] w fun v w'=>v= .bool k.may∧Ext w w':=by
 apply fact_MayKey.sh
 unfold fact_MayKey.body
 simp only [add_lit,Nat.zero_add]
 intro B1 w1 hn1
 have g:=hn1.get
 have hE:=hn1.upd
 refine ⟨_,cell_of g rfl,br_dec (fun h=>⟨by rw [Key.may_ino (by omega)],hE⟩) fun h1=>⟨_,cell_of g rfl,br_dec (fun h=>⟨by rw [Key.may_ino (by omega)],hE⟩) fun h2=>?_⟩⟩
 rw [Key.may_in ⟨by omega,by omega⟩]
 refine ⟨_,cell_of g rfl,br_eq (fun hw=>?_) fun hw1=>br_eq (fun hw=>?_) fun hw2=>br_eq (fun hw=>?_) fun hw3=>?_⟩
 ·refine ⟨_,_,_,_,cellsAt_of (o:=0) g (fun j v hj=>by simpa using hj),_,cell_of g rfl,_,cell_of g rfl,?_,hE⟩
  have e1:k.what.toNat=1:=by omega
  rw [e1,empty_beq]
  simp only [beq_self_eq_true,Bool.true_and,Bool.and_true]
  congr 1
  rw [Bool.eq_iff_iff]
  simp
 ·refine ⟨_,cell_of g rfl,?_⟩
  refine (path_Name_spec k.name hn w1).mono ?_
  rintro _ _ ⟨rfl,rfl⟩
  rename_i w1
  have e2:k.what.toNat=2:=by omega
  rw [e2]
  have hb:isName k.bytes=isName k.name.data.toList:=rfl
  rw [hb]
  refine ⟨_,rfl,br_intro (fun h=>⟨_,cell_of g rfl,?_,hE⟩) fun h=>⟨?_,hE⟩⟩
  ·rw [h]
   congr 1
   rw [Bool.eq_iff_iff]
   simp
  ·rw [h];simp
 ·have e3:k.what.toNat=3:=by omega
  rw [e3]
  refine ⟨_,cell_of g rfl,?_⟩
  rw [empty_beq]
  refine br_dec (fun h=>⟨_,cell_of g rfl,br_dec (fun h'=>⟨_,cell_of g rfl,?_,hE⟩) fun h'=>⟨?_,hE⟩⟩) fun h=>⟨?_,hE⟩
  ·rw [decide_eq_true h,decide_eq_true (by omega:0≤k.chunk)];simp
  ·rw [decide_eq_false (p:=0≤k.chunk) (by omega)];simp
  ·rw [decide_eq_false h];simp
 ·refine ⟨?_,hE⟩
  rw [decide_eq_false (p:=k.what.toNat=1) (by omega),decide_eq_false (p:=k.what.toNat=2) (by omega),decide_eq_false (p:=k.what.toNat=3) (by omega)]
  simp
theorem carrackref06_MayKey_spec (k:Key) (hn:k.name.size<9223372036854775807) (w:World):CallsR prog K.carrackref06_MayKey #[keyV k] w fun v w'=>v= .bool k.may∧Ext w w':=by
 apply carrackref06_MayKey.sh
 unfold carrackref06_MayKey.body
 simp only [add_lit,Nat.zero_add]
 intro B1 w1 hn1
 have g:=hn1.get
 have hE:=hn1.upd
 refine ⟨_,cell_of g rfl,br_dec (fun h=>⟨by rw [Key.may_ino (by omega)],hE⟩) fun h1=>⟨_,cell_of g rfl,br_dec (fun h=>⟨by rw [Key.may_ino (by omega)],hE⟩) fun h2=>?_⟩⟩
 rw [Key.may_in ⟨by omega,by omega⟩]
 refine ⟨_,cell_of g rfl,br_eq (fun hw=>?_) fun hw1=>br_eq (fun hw=>?_) fun hw2=>br_eq (fun hw=>?_) fun hw3=>?_⟩
 ·have e1:k.what.toNat=1:=by omega
  rw [e1]
  refine ⟨_,cell_of g rfl,?_⟩
  rw [empty_beq]
  refine br_dec (fun h=>⟨_,cell_of g rfl,?_,hE⟩) fun h=>⟨?_,hE⟩
  ·rw [decide_eq_true h]
   congr 1
   rw [Bool.eq_iff_iff]
   simp
  ·rw [decide_eq_false h];simp
 ·refine ⟨_,cell_of g rfl,?_⟩
  refine (carrackref05_Name_spec k.name hn w1).mono ?_
  rintro _ _ ⟨rfl,rfl⟩
  rename_i w1
  have e2:k.what.toNat=2:=by omega
  rw [e2]
  have hb:isName k.bytes=isName k.name.data.toList:=rfl
  rw [hb]
  refine ⟨_,rfl,br_intro (fun h=>⟨_,cell_of g rfl,?_,hE⟩) fun h=>⟨?_,hE⟩⟩
  ·rw [h]
   congr 1
   rw [Bool.eq_iff_iff]
   simp
  ·rw [h];simp
 ·have e3:k.what.toNat=3:=by omega
  rw [e3]
  refine ⟨_,cell_of g rfl,?_⟩
  rw [empty_beq]
  refine br_dec (fun h=>⟨_,cell_of g rfl,br_dec (fun h'=>⟨_,cell_of g rfl,?_,hE⟩) fun h'=>⟨?_,hE⟩⟩) fun h=>⟨?_,hE⟩
  ·rw [decide_eq_true h,decide_eq_true (by omega:0≤k.chunk)];simp
  ·rw [decide_eq_false (p:=0≤k.chunk) (by omega)];simp
  ·rw [decide_eq_false h];simp
 ·refine ⟨?_,hE⟩
  rw [decide_eq_false (p:=k.what.toNat=1) (by omega),decide_eq_false (p:=k.what.toNat=2) (by omega),decide_eq_false (p:=k.what.toNat=3) (by omega)]
  simp
def finKey (k:Key) (s:St):Key×Nat×St:=if k.may then (k,0,s) else (Key.zero,5,s)
def keyS (s:St):Key×Nat×St :=
 let a:=takeS 2 s
 let b:=takeS 1 a.2.2
 if b.2.1≠0 then (Key.zero,4,none)
 else if b.1=2 then
  let c:=rowS b.2.2
  if c.2.1≠0 then (Key.zero,4,none) else finKey ⟨a.1,UInt8.ofNat b.1,⟨c.1.toArray⟩,0⟩ c.2.2
 else if b.1=3 then
  let c:=takeS 1 b.2.2
  if c.2.1≠0 then (Key.zero,4,none) else finKey ⟨a.1,UInt8.ofNat b.1,ByteArray.empty,c.1⟩ c.2.2
 else finKey ⟨a.1,UInt8.ofNat b.1,ByteArray.empty,0⟩ b.2.2
theorem str_of {w:World} {a:Option Addr} {l:List UInt8} (h:BytesAt w a l) {K:ByteArray→Prop} (hk:K ⟨l.toArray⟩):strOfP w a l.length K:=by
 cases a with
 | none =>
  cases l with
  | nil=>exact hk
  | cons x l =>
   obtain ⟨b,o,e,_⟩:=RowAt.blk h (by simp)
   cases e
 | some q =>
  refine ⟨l,rfl,?_,hk⟩
  cases l with
  | nil=>trivial
  | cons x l =>
   obtain ⟨b,o,e,_⟩:=RowAt.blk h (by simp)
   cases e
   exact h.cells
theorem wu8n {x:Nat} (h:x<256):Value.int .u8 (IntKind.u8.wrap (x:Int))=bv (UInt8.ofNat x):=by rw [bv_mod,Nat.mod_eq_of_lt h]
abbrev KeyAt (u:World) (B:Nat) (k:Key):Prop:=u.heap[B]?=some (.cells k.vals.toArray T.api_Key (0,0))
theorem key_put {w:World} {B:Nat} {cs:Array Value} {k:Key} {K:World→Prop} (hc:w.heap[B]?=some (.cells cs T.api_Key (0,0))) (hs:cs.size=4) (hk:∀ w',Upd (·=B) w w'→w'.heap.size=w.heap.size→KeyAt w' B k→K w') :
  storeP w ⟨B,0,none⟩ [.int .i64 k.ino,bv k.what,.string k.name,.int .i64 k.chunk] K:=put_all hc (by rw [hs];rfl) hk
theorem key_cells {w:World} {B:Nat} {k:Key} (hc:KeyAt w B k):cellsAt w ⟨B,0,none⟩ [.int .i64 k.ino,bv k.what,.string k.name,.int .i64 k.chunk] 0:=cells_all hc
theorem key_name {w:World} {B:Nat} {k:Key} {n:ByteArray} {K:World→Prop} (hc:KeyAt w B k) (hk:∀ w',Upd (·=B) w w'→KeyAt w' B { k with name:=n }→K w'):storeP w ⟨B,2,none⟩ [.string n] K :=
 store_of hc (by simp [Key.vals]) fun w' hp=>hk w' hp.upd1 hp.get
theorem key_chunk {w:World} {B:Nat} {k:Key} {n:Int} {K:World→Prop} (hc:KeyAt w B k) (hk:∀ w',Upd (·=B) w w'→KeyAt w' B { k with chunk:=n }→K w'):storeP w ⟨B,3,none⟩ [.int .i64 n] K :=
 store_of hc (by simp [Key.vals]) fun w' hp=>hk w' hp.upd1 hp.get
theorem key_out {u:World} {B:Nat} {k k0:Key} {e:Int} {R:Value→World→Prop} (g:KeyAt u B k0) (hR:∀ u',Upd (·=B) u u'→R (.tuple #[keyV k,.int .i64 e]) u') :
  storeP u ⟨B,0,none⟩ [.int .i64 k.ino,bv k.what,.string k.name,.int .i64 k.chunk] fun w'=>∃ x y:Int,∃ n:ByteArray,∃ z:Int,cellsAt w' ⟨B,0,none⟩ [.int .i64 x,.int .u8 y,.string n,.int .i64 z] 0∧R (.tuple #[.agg #[.int .i64 x,.int .u8 y,.string n,.int .i64 z],.int .i64 e]) w' :=
 key_put g rfl fun w' hu _ hg=>⟨_,_,_,_,key_cells hg,hR w' hu⟩
theorem key_fin {f:FuncId} {u:World} {B1 B2:Nat} {k k0:Key} {R:Value→World→Prop} (hB:B1≠B2) (g1:KeyAt u B1 k0) (g2:KeyAt u B2 k) (hm:CallsR prog f #[keyV k] u fun v w'=>v= .bool k.may∧Ext u w')
  (hR:∀ u',Upd (·=B1) u u'→R (.tuple #[keyV (if k.may then k else Key.zero),.int .i64 (if k.may then 0 else 5)]) u') :
  ∃ x y:Int,∃ n:ByteArray,∃ z:Int,cellsAt u ⟨B2,0,none⟩ [.int .i64 x,.int .u8 y,.string n,.int .i64 z] 0∧CallsR prog f #[.agg #[.int .i64 x,.int .u8 y,.string n,.int .i64 z]] u fun v w'=>∃ b:Bool,v= .bool b∧br (!b)
   (storeP w' ⟨B1,0,none⟩ [.int .i64 Key.zero.ino,bv Key.zero.what,.string Key.zero.name,.int .i64 Key.zero.chunk] fun w'=>∃ x y:Int,∃ n:ByteArray,∃ z:Int,cellsAt w' ⟨B1,0,none⟩ [.int .i64 x,.int .u8 y,.string n,.int .i64 z] 0∧R (.tuple #[.agg #[.int .i64 x,.int .u8 y,.string n,.int .i64 z],.int .i64 5]) w')
   (∃ x y:Int,∃ n:ByteArray,∃ z:Int,cellsAt w' ⟨B2,0,none⟩ [.int .i64 x,.int .u8 y,.string n,.int .i64 z] 0∧storeP w' ⟨B1,0,none⟩ [.int .i64 x,.int .u8 y,.string n,.int .i64 z] fun w'=>∃ x y:Int,∃ n:ByteArray,∃ z:Int,cellsAt w' ⟨B1,0,none⟩ [.int .i64 x,.int .u8 y,.string n,.int .i64 z] 0∧R (.tuple #[.agg #[.int .i64 x,.int .u8 y,.string n,.int .i64 z],.int .i64 0]) w'):=by
 refine ⟨_,_,_,_,key_cells g2,hm.mono ?_⟩
 rintro _ w' ⟨rfl,he⟩
 refine ⟨_,rfl,br_intro (fun hb=>?_) fun hb=>?_⟩
 ·have hb':k.may=false:=by simpa using hb
  rw [hb'] at hR
  exact key_out (Ext.get he g1) fun u' hu=>hR u' ((Upd.ext he).trans hu)
 ·have hb':k.may=true:=by simpa using hb
  rw [hb'] at hR
  exact ⟨_,_,_,_,key_cells (Ext.get he g2),key_out (Ext.get he g1) fun u' hu=>hR u' ((Upd.ext he).trans hu)⟩
theorem empty_small:ByteArray.empty.size<9223372036854775807:=by decide
theorem finKey_is (k:Key) (s:St):finKey k s=(if k.may then k else Key.zero,if k.may then 0 else 5,s):=by unfold finKey;split<;>rfl
theorem finErr (b:Bool):(((if b=true then 0 else 5:Nat):Nat):Int)=if b=true then 0 else 5:=by cases b<;>rfl
theorem fact_GetKey_spec {G:Nat→Prop} {w:World} {r:Nat} {s:St} (hG:¬ G r) (hGs:∀ x,G x→x<w.heap.size) (hrs:r<w.heap.size) (h:RdIn G w r s) :
  CallsR prog K.fact_GetKey #[.pointer (some ⟨r,0,none⟩)] w fun v w'=>v= .tuple #[keyV (keyS s).1,.int .i64 ((keyS s).2.1:Nat)]∧Upd (·=r) w w'∧RdIn G w' r (keyS s).2.2:=by
 apply fact_GetKey.sh
 suffices H:∀ R:Value→World→Prop,(∀ v w',v= .tuple #[keyV (keyS s).1,.int .i64 ((keyS s).2.1:Nat)]∧Upd (·=r) w w'∧RdIn G w' r (keyS s).2.2→R v w')→fact_GetKey.body (some ⟨r,0,none⟩) w R from H _ fun _ _ h=>h
 intro R hR
 unfold fact_GetKey.body
 simp only [add_lit,Nat.zero_add]
 intro B1 w₁ hn1
 have hb1:B1=w.heap.size:=hn1.num
 have g1:KeyAt w₁ B1 Key.zero:=hn1.get
 have done:∀ {u u':World} {B:Nat} {s':St},Upd (·=r) w u→RdIn G u r s'→B1≤B→Upd (·=B) u u'→Upd (·=r) w u'∧RdIn G u' r s':=fun {u u' B s'} h1 h2 hB h3 =>
  ⟨Upd.mono (F:=fun x=>x=r∨x=B) ((h1.mono fun _ _ h=>.inl h).trans (h3.mono fun _ _ h=>.inr h)) fun x hx hor=>by
   rcases hor with h | h
   ·exact h
   ·omega,
   h2.upd h3 (by omega) fun x hx e=>by have:=hGs x hx;omega⟩
 refine (rdTake (k:=2) (by decide) hG (h.ext hn1.upd)).mono ?_
 rintro _ w₂ ⟨hu2,rfl,hr2⟩
 have u2:Upd (·=r) w w₂:=(Upd.ext hn1.upd).trans hu2
 have g2:KeyAt w₂ B1 Key.zero:=hu2.get g1 (by omega)
 have hs2:B1<w₂.heap.size:=(Array.getElem?_eq_some_iff.1 g2).1
 have a2:=takeS_lt 2 s
 have h256:(256:Nat) ^ 2=65536:=by decide
 refine ⟨_,_,rfl,br_eq (fun he=>?_) fun _=>?_⟩
 ·exfalso
  rcases takeS_cases 2 s with e | ⟨l,_,_,e⟩
  ·rw [e] at he;exact absurd he (by decide)
  ·rw [e] at he;simp at he
 refine (rdTake (k:=1) (by decide) hG hr2).mono ?_
 rintro _ w₄ ⟨hu4,rfl,hr4⟩
 have u4:=u2.trans hu4
 have g4:KeyAt w₄ B1 Key.zero:=hu4.get g2 (by omega)
 have hs4:=hu4.size
 have a4:=takeS_lt 1 (takeS 2 s).2.2
 have hk:keyS s=keyS s:=rfl
 generalize ha:takeS 2 s=A at *
 generalize hb:takeS 1 A.2.2=B at *
 have hkey:keyS s=if B.2.1≠0 then (Key.zero,4,none)
   else if B.1=2 then (if (rowS B.2.2).2.1≠0 then (Key.zero,4,none) else finKey ⟨A.1,UInt8.ofNat B.1,⟨(rowS B.2.2).1.toArray⟩,0⟩ (rowS B.2.2).2.2)
   else if B.1=3 then (if (takeS 1 B.2.2).2.1≠0 then (Key.zero,4,none) else finKey ⟨A.1,UInt8.ofNat B.1,ByteArray.empty,(takeS 1 B.2.2).1⟩ (takeS 1 B.2.2).2.2)
   else finKey ⟨A.1,UInt8.ofNat B.1,ByteArray.empty,0⟩ B.2.2:=by
  unfold keyS
  simp only [ha,hb]
 refine ⟨_,_,rfl,?_⟩
 rw [wu8n (by omega),w64n (by omega)]
 refine new_put (vs:=Key.vals ⟨A.1,UInt8.ofNat B.1,ByteArray.empty,0⟩) rfl fun B2 w₆ hb2 hs6 he6 g6=>?_
 have u6:=u4.then he6
 have r6:=hr4.ext he6
 have g16:KeyAt w₆ B1 Key.zero:=Ext.get he6 g4
 refine br_ne (fun hne=>?_) fun he=>?_
 ·refine br_ne (fun _=>?_) fun h=>absurd h hne
  have hB:B=(0,4,none):=by rw [← hb];exact takeS_err (by rw [hb];omega)
  rw [if_pos (by omega)] at hkey;rw [hkey] at hR
  rw [hB] at r6 ⊢
  exact key_out (k:=Key.zero) g16 fun u' hu=>hR _ _ ⟨rfl,done u6 r6 (Nat.le_refl _) hu⟩
 ·rw [if_neg (by omega)] at hkey
  refine br_eq (fun h2=>?_) fun h2=>?_
  ·rw [if_pos (by omega)] at hkey
   refine (rdRow hG r6).mono ?_
   rintro _ w₁₁ ⟨hu11,⟨a,c,rfl,hby,hc,hf⟩,hr11⟩
   have u11:=u6.trans hu11
   have hs11:=hu11.size
   have g11:KeyAt w₁₁ B1 Key.zero:=hu11.get g16 (by omega)
   have g12:KeyAt w₁₁ B2 ⟨A.1,UInt8.ofNat B.1,ByteArray.empty,0⟩:=hu11.get g6 (by omega)
   refine ⟨_,_,_,_,rfl,str_of hby (key_name g12 fun w₁₂ hu12 g22=>?_)⟩
   have g21:KeyAt w₁₂ B1 Key.zero:=hu12.get g11 (by omega)
   obtain ⟨u12,r12⟩:=done u11 hr11 (by omega) hu12
   have hlen:=rowS_len B.2.2
   refine br_ne (fun hne=>?_) fun he3=>?_
   ·have hrow:rowS B.2.2=([],4,none):=rowS_err (by omega)
    rw [if_pos (by omega)] at hkey;rw [hkey] at hR
    rw [hrow] at r12 ⊢
    exact key_out (k:=Key.zero) g21 fun u' hu=>hR _ _ ⟨rfl,done u12 r12 (Nat.le_refl _) hu⟩
   ·rw [if_neg (by omega),finKey_is] at hkey;rw [hkey] at hR;simp only [finErr] at hR
    exact key_fin (by omega) g21 g22 (fact_MayKey_spec _ (by simp [ByteArray.size];omega) _) fun u' hu=>hR _ _ ⟨rfl,done u12 r12 (Nat.le_refl _) hu⟩
  ·rw [if_neg (by omega)] at hkey
   refine br_eq (fun h3=>?_) fun h3=>?_
   ·rw [if_pos (by omega)] at hkey
    refine (rdTake (k:=1) (by decide) hG r6).mono ?_
    rintro _ w₁₁ ⟨hu11,rfl,hr11⟩
    have a11:=takeS_lt 1 B.2.2
    have u11:=u6.trans hu11
    have hs11:=hu11.size
    have g11:KeyAt w₁₁ B1 Key.zero:=hu11.get g16 (by omega)
    have g12:KeyAt w₁₁ B2 ⟨A.1,UInt8.ofNat B.1,ByteArray.empty,0⟩:=hu11.get g6 (by omega)
    refine ⟨_,_,rfl,?_⟩
    rw [w64n (by omega)]
    refine key_chunk g12 fun w₁₂ hu12 g22=>?_
    have g21:KeyAt w₁₂ B1 Key.zero:=hu12.get g11 (by omega)
    obtain ⟨u12,r12⟩:=done u11 hr11 (by omega) hu12
    refine br_ne (fun hne=>?_) fun he3=>?_
    ·have hrow:takeS 1 B.2.2=(0,4,none):=takeS_err (by omega)
     rw [if_pos (by omega)] at hkey;rw [hkey] at hR
     rw [hrow] at r12 ⊢
     exact key_out (k:=Key.zero) g21 fun u' hu=>hR _ _ ⟨rfl,done u12 r12 (Nat.le_refl _) hu⟩
    ·rw [if_neg (by omega),finKey_is] at hkey;rw [hkey] at hR;simp only [finErr] at hR
     exact key_fin (by omega) g21 g22 (fact_MayKey_spec _ empty_small _) fun u' hu=>hR _ _ ⟨rfl,done u12 r12 (Nat.le_refl _) hu⟩
   ·rw [if_neg (by omega)] at hkey
    refine br_ne (fun hne=>absurd he hne) fun _=>?_
    rw [finKey_is] at hkey;rw [hkey] at hR;simp only [finErr] at hR
    exact key_fin (by omega) g16 g6 (fact_MayKey_spec _ empty_small _) fun u' hu=>hR _ _ ⟨rfl,done u6 r6 (Nat.le_refl _) hu⟩
theorem carrackref06_GetKey_spec {G:Nat→Prop} {w:World} {r:Nat} {s:St} (hG:¬ G r) (hGs:∀ x,G x→x<w.heap.size) (hrs:r<w.heap.size) (h:RRdIn G w r s) :
  CallsR prog K.carrackref06_GetKey #[.pointer (some ⟨r,0,none⟩)] w fun v w'=>v= .tuple #[keyV (keyS s).1,.int .i64 ((keyS s).2.1:Nat)]∧Upd (·=r) w w'∧RRdIn G w' r (keyS s).2.2:=by
 apply carrackref06_GetKey.sh
 suffices H:∀ R:Value→World→Prop,(∀ v w',v= .tuple #[keyV (keyS s).1,.int .i64 ((keyS s).2.1:Nat)]∧Upd (·=r) w w'∧RRdIn G w' r (keyS s).2.2→R v w')→carrackref06_GetKey.body (some ⟨r,0,none⟩) w R from H _ fun _ _ h=>h
 intro R hR
 unfold carrackref06_GetKey.body
 simp only [add_lit,Nat.zero_add]
 intro B1 w₁ hn1
 have hb1:B1=w.heap.size:=hn1.num
 have g1:KeyAt w₁ B1 Key.zero:=hn1.get
 have done:∀ {u u':World} {B:Nat} {s':St},Upd (·=r) w u→RRdIn G u r s'→B1≤B→Upd (·=B) u u'→Upd (·=r) w u'∧RRdIn G u' r s':=fun {u u' B s'} h1 h2 hB h3 =>
  ⟨Upd.mono (F:=fun x=>x=r∨x=B) ((h1.mono fun _ _ h=>.inl h).trans (h3.mono fun _ _ h=>.inr h)) fun x hx hor=>by
   rcases hor with h | h
   ·exact h
   ·omega,
   h2.upd h3 (by omega) fun x hx e=>by have:=hGs x hx;omega⟩
 refine (rrdTake (k:=2) (by decide) hG (h.ext hn1.upd)).mono ?_
 rintro _ w₂ ⟨hu2,rfl,hr2⟩
 have u2:Upd (·=r) w w₂:=(Upd.ext hn1.upd).trans hu2
 have g2:KeyAt w₂ B1 Key.zero:=hu2.get g1 (by omega)
 have hs2:B1<w₂.heap.size:=(Array.getElem?_eq_some_iff.1 g2).1
 have a2:=takeS_lt 2 s
 have h256:(256:Nat) ^ 2=65536:=by decide
 have hnone:keyS none=(Key.zero,4,none):=rfl
 refine ⟨_,_,rfl,br_ne (fun hne=>?_) fun _=>?_⟩
 ·have hA:takeS 2 s=(0,4,none):=takeS_err (by omega)
  have hkey:keyS s=(Key.zero,4,none):=by unfold keyS;simp only [hA];rfl
  rw [hkey] at hR
  rw [hA] at hr2 ⊢
  exact key_out (k:=Key.zero) g2 fun u' hu=>hR _ _ ⟨rfl,done u2 hr2 (Nat.le_refl _) hu⟩
 refine (rrdTake (k:=1) (by decide) hG hr2).mono ?_
 rintro _ w₄ ⟨hu4,rfl,hr4⟩
 have u4:=u2.trans hu4
 have g4:KeyAt w₄ B1 Key.zero:=hu4.get g2 (by omega)
 have hs4:=hu4.size
 have a4:=takeS_lt 1 (takeS 2 s).2.2
 generalize ha:takeS 2 s=A at *
 generalize hb:takeS 1 A.2.2=B at *
 have hkey:keyS s=if B.2.1≠0 then (Key.zero,4,none)
   else if B.1=2 then (if (rowS B.2.2).2.1≠0 then (Key.zero,4,none) else finKey ⟨A.1,UInt8.ofNat B.1,⟨(rowS B.2.2).1.toArray⟩,0⟩ (rowS B.2.2).2.2)
   else if B.1=3 then (if (takeS 1 B.2.2).2.1≠0 then (Key.zero,4,none) else finKey ⟨A.1,UInt8.ofNat B.1,ByteArray.empty,(takeS 1 B.2.2).1⟩ (takeS 1 B.2.2).2.2)
   else finKey ⟨A.1,UInt8.ofNat B.1,ByteArray.empty,0⟩ B.2.2:=by
  unfold keyS
  simp only [ha,hb]
 refine ⟨_,_,rfl,br_ne (fun hne=>?_) fun he=>?_⟩
 ·have hB:B=(0,4,none):=by rw [← hb];exact takeS_err (by rw [hb];omega)
  rw [if_pos (by omega)] at hkey;rw [hkey] at hR
  rw [hB] at hr4 ⊢
  exact key_out (k:=Key.zero) g4 fun u' hu=>hR _ _ ⟨rfl,done u4 hr4 (Nat.le_refl _) hu⟩
 rw [if_neg (by omega)] at hkey
 rw [wu8n (by omega),w64n (by omega)]
 refine new_put (vs:=Key.vals ⟨A.1,UInt8.ofNat B.1,ByteArray.empty,0⟩) rfl fun B2 w₆ hb2 hs6 he6 g6=>?_
 have u6:=u4.then he6
 have r6:=hr4.ext he6
 have g16:KeyAt w₆ B1 Key.zero:=Ext.get he6 g4
 refine br_eq (fun h2=>?_) fun h2=>?_
 ·rw [if_pos (by omega)] at hkey
  refine (rrdRow hG r6).mono ?_
  rintro _ w₁₁ ⟨hu11,⟨a,c,rfl,hby,hc,hf⟩,hr11⟩
  have u11:=u6.trans hu11
  have hs11:=hu11.size
  have g11:KeyAt w₁₁ B1 Key.zero:=hu11.get g16 (by omega)
  have g12:KeyAt w₁₁ B2 ⟨A.1,UInt8.ofNat B.1,ByteArray.empty,0⟩:=hu11.get g6 (by omega)
  have hlen:=rowS_len B.2.2
  refine ⟨_,_,_,_,rfl,br_ne (fun hne=>?_) fun he3=>?_⟩
  ·have hrow:rowS B.2.2=([],4,none):=rowS_err (by omega)
   rw [if_pos (by omega)] at hkey;rw [hkey] at hR
   rw [hrow] at hr11 ⊢
   exact key_out (k:=Key.zero) g11 fun u' hu=>hR _ _ ⟨rfl,done u11 hr11 (Nat.le_refl _) hu⟩
  ·refine str_of hby (key_name g12 fun w₁₂ hu12 g22=>?_)
   have g21:KeyAt w₁₂ B1 Key.zero:=hu12.get g11 (by omega)
   obtain ⟨u12,r12⟩:=done u11 hr11 (by omega) hu12
   rw [if_neg (by omega),finKey_is] at hkey;rw [hkey] at hR;simp only [finErr] at hR
   exact key_fin (by omega) g21 g22 (carrackref06_MayKey_spec _ (by simp [ByteArray.size];omega) _) fun u' hu=>hR _ _ ⟨rfl,done u12 r12 (Nat.le_refl _) hu⟩
 ·rw [if_neg (by omega)] at hkey
  refine br_eq (fun h3=>?_) fun h3=>?_
  ·rw [if_pos (by omega)] at hkey
   refine (rrdTake (k:=1) (by decide) hG r6).mono ?_
   rintro _ w₁₁ ⟨hu11,rfl,hr11⟩
   have a11:=takeS_lt 1 B.2.2
   have u11:=u6.trans hu11
   have hs11:=hu11.size
   have g11:KeyAt w₁₁ B1 Key.zero:=hu11.get g16 (by omega)
   have g12:KeyAt w₁₁ B2 ⟨A.1,UInt8.ofNat B.1,ByteArray.empty,0⟩:=hu11.get g6 (by omega)
   refine ⟨_,_,rfl,br_ne (fun hne=>?_) fun he3=>?_⟩
   ·have hrow:takeS 1 B.2.2=(0,4,none):=takeS_err (by omega)
    rw [if_pos (by omega)] at hkey;rw [hkey] at hR
    rw [hrow] at hr11 ⊢
    exact key_out (k:=Key.zero) g11 fun u' hu=>hR _ _ ⟨rfl,done u11 hr11 (Nat.le_refl _) hu⟩
   ·rw [w64n (by omega)]
    refine key_chunk g12 fun w₁₂ hu12 g22=>?_
    have g21:KeyAt w₁₂ B1 Key.zero:=hu12.get g11 (by omega)
    obtain ⟨u12,r12⟩:=done u11 hr11 (by omega) hu12
    rw [if_neg (by omega),finKey_is] at hkey;rw [hkey] at hR;simp only [finErr] at hR
    exact key_fin (by omega) g21 g22 (carrackref06_MayKey_spec _ empty_small _) fun u' hu=>hR _ _ ⟨rfl,done u12 r12 (Nat.le_refl _) hu⟩
  ·rw [if_neg (by omega)] at hkey
   rw [finKey_is] at hkey;rw [hkey] at hR;simp only [finErr] at hR
   exact key_fin (by omega) g16 g6 (carrackref06_MayKey_spec _ empty_small _) fun u' hu=>hR _ _ ⟨rfl,done u6 r6 (Nat.le_refl _) hu⟩
theorem row_cell {w:World} {b o:Nat} {vs:List Value} (h:RowAt w (some ⟨b,o,none⟩) vs) {j:Nat} {v:Value} (hj:vs[j]?=some v):w.cell? ⟨b,o+j,none⟩= some v:=by
 obtain ⟨b',o',e,hc⟩:=h.cell hj
 cases e
 exact hc
theorem Key.oneCell (k:Key):∀ v∈k.vals,v.oneCell'=true:=by
 intro v hv
 simp only [Key.vals,List.mem_cons,List.not_mem_nil,or_false] at hv
 rcases hv with rfl | rfl | rfl | rfl<;>rfl
def keyR:ERep Key:=flatR Key.vals 4 (by decide) (fun _=>rfl) Key.oneCell
def boolR:ERep Bool:=flatR (fun b=>[.bool b]) 1 (by decide) (fun _=>rfl) (fun b v hv=>by simp at hv;rw [hv];rfl)
def intR:ERep Int:=flatR (fun x=>[.int .i64 x]) 1 (by decide) (fun _=>rfl) (fun b v hv=>by simp at hv;rw [hv];rfl)
def u8R:ERep UInt8:=flatR (fun x=>[bv x]) 1 (by decide) (fun _=>rfl) (fun b v hv=>by simp at hv;rw [hv];rfl)
def changeR:ERep Change:=ERep.pair keyR (ERep.pair bytesR boolR (fun x:List UInt8×Bool=>x.1) (fun x=>x.2)) (fun x:Change=>x.key) (fun x=>(x.val,x.gone))
def ListOut {α:Type} (r:ERep α) (e:TypeId) (w w':World) (v:Value) (l:List α) (x:Nat):Prop:=∃ a c,v= .tuple #[.slice a l.length c,.int .i64 (x:Nat)]∧ListAt r NoB w.heap.size w' a c e l∧Ext w w'
theorem ListOut.none {α:Type} {r:ERep α} {e:TypeId} {w w':World} {x:Nat} {l:List α} (hl:l=[]) (h:Ext w w'):ListOut r e w w' (.tuple #[.slice .none 0 0,.int .i64 (x:Nat)]) l x:=by
 subst hl;exact ⟨.none,0,rfl,ListAt.nil _ _,h⟩
theorem code_tail (c d:Int):∀ (x y:List UInt8),listLt (x.map (fun b=>(b.toNat:Int)+1) ++ [0,c]) (y.map (fun b=>(b.toNat:Int)+1) ++ [0,d])=(Op.bytesLess x y || (decide (x=y) && decide (c<d)))
 | [],[]=>by simp [listLt,Op.bytesLess]
 | [],b :: ys=>by
  have:(0:Int)<(b.toNat:Int)+1:=by omega
  simp [listLt,Op.bytesLess,this]
 | a :: xs,[]=>by
  have h1:¬ ((a.toNat:Int)+1<0):=by omega
  have h2:¬ ((a.toNat:Int)+1=0):=by omega
  simp [listLt,Op.bytesLess,h1,h2]
 | a :: xs,b :: ys=>by
  have ih:=code_tail c d xs ys
  have h1:decide ((a.toNat:Int)+1<(b.toNat:Int)+1)=decide (a<b):=by
   rw [decide_eq_decide,UInt8.lt_iff_toNat_lt];omega
  have h2:decide ((a.toNat:Int)+1=(b.toNat:Int)+1)=decide (a=b):=by
   rw [decide_eq_decide,← UInt8.toNat_inj];omega
  simp only [List.map_cons,List.cons_append,listLt,ih,h1,h2,Op.bytesLess,List.cons.injEq]
  by_cases hab:a=b
  ·subst hab
   simp
  ·simp [hab]
theorem before_eq (a b:Key):before a b=(decide (a.ino<b.ino) || (decide (a.ino=b.ino) && (decide (a.what<b.what) || (decide (a.what=b.what) && (Op.bytesLess a.bytes b.bytes || (decide (a.bytes=b.bytes) && decide (a.chunk<b.chunk))))))):=by
 unfold before Key.code
 simp only [listLt,code_tail]
 have h1:decide ((a.what.toNat:Int)<(b.what.toNat:Int))=decide (a.what<b.what):=by
  rw [decide_eq_decide,UInt8.lt_iff_toNat_lt];omega
 have h2:decide ((a.what.toNat:Int)=(b.what.toNat:Int))=decide (a.what=b.what):=by
  rw [decide_eq_decide,← UInt8.toNat_inj];omega
 rw [h1,h2]
theorem less_irrefl:∀ x:List UInt8,Op.bytesLess x x=false
 | []=>rfl
 | a :: x=>by simp [Op.bytesLess,less_irrefl x]
def cmpI (x y:Int):Int:=if x<y then -1 else if x > y then 1 else 0
def cmpS (x y:List UInt8):Int:=if Op.bytesLess x y then -1 else if x=y then 0 else 1
def firstOf:List Int→Int
 | []=>0
 | x :: l=>if x≠0 then x else firstOf l
def orderK (a b:Key):Int:=firstOf [cmpI a.ino b.ino,cmpI a.what.toNat b.what.toNat,cmpS a.bytes b.bytes,cmpI a.chunk b.chunk]
theorem orderK_lt (a b:Key):decide (orderK a b<0)=before a b:=by
 rw [before_eq]
 unfold orderK cmpI cmpS
 simp only [firstOf]
 have hw:a.what<b.what ↔ a.what.toNat<b.what.toNat:=UInt8.lt_iff_toNat_lt
 have hw2:a.what=b.what ↔ a.what.toNat=b.what.toNat:=UInt8.toNat_inj.symm
 by_cases h1:a.ino<b.ino
 ·simp [h1]
 by_cases h2:a.ino > b.ino
 ·have:a.ino≠b.ino:=by omega
  simp [h1,h2,this]
 have h3:a.ino=b.ino:=by omega
 by_cases h4:a.what.toNat<b.what.toNat
 ·have h4':(a.what.toNat:Int)<(b.what.toNat:Int):=by omega
  simp [h3,hw,h4,h4']
 by_cases h5:a.what.toNat > b.what.toNat
 ·have h5':¬ (a.what.toNat:Int)<(b.what.toNat:Int):=by omega
  have h5'':(b.what.toNat:Int)<(a.what.toNat:Int):=by omega
  have h6:¬ a.what.toNat=b.what.toNat:=by omega
  simp [h3,hw,hw2,h4,h5,h5',h5'',h6]
 have h6:a.what.toNat=b.what.toNat:=by omega
 have h7:a.what=b.what:=hw2.2 h6
 cases hb:Op.bytesLess a.bytes b.bytes with
 | true=>simp [h3,h7,hb]
 | false =>
  by_cases he:a.bytes=b.bytes
  ·by_cases hc:a.chunk<b.chunk
   ·simp [h3,h7,he,hc,less_irrefl]
   ·by_cases hc2:a.chunk > b.chunk
    ·simp [h3,h7,he,hc,hc2,less_irrefl]
    ·simp [h3,h7,he,hc,hc2,less_irrefl]
  ·simp [h3,h7,hb,he]
theorem cmp_int_spec (x y:Int) (w:World):CallsR prog K.cmp_Compare_int #[.int .i64 x,.int .i64 y] w fun v w'=>v= .int .i64 (cmpI x y)∧w'=w:=by
 apply cmp_Compare_int.sh
 unfold cmp_Compare_int.body
 have nan:∀ x:Int,CallsR prog K.cmp_isNaN_int #[.int .i64 x] w fun v w'=>v= .bool false∧w'=w:=fun x=>by
  apply cmp_isNaN_int.sh
  unfold cmp_isNaN_int.body
  exact ⟨by simp,rfl⟩
 refine (nan x).mono ?_
 rintro _ _ ⟨rfl,rfl⟩
 refine ⟨_,rfl,(nan y).mono ?_⟩
 rintro _ _ ⟨rfl,rfl⟩
 refine ⟨_,rfl,?_⟩
 simp only [br_false]
 unfold cmpI
 refine br_dec (fun h=>⟨by rw [if_pos h],by trivial⟩) fun h=>br_dec (fun h2=>⟨by rw [if_neg h,if_pos h2],by trivial⟩) fun h2=>⟨by rw [if_neg h,if_neg h2],by trivial⟩
theorem cmp_u8_spec (x y:UInt8) (w:World):CallsR prog K.cmp_Compare_uint8 #[bv x,bv y] w fun v w'=>v= .int .i64 (cmpI x.toNat y.toNat)∧w'=w:=by
 apply cmp_Compare_uint8.sh
 unfold cmp_Compare_uint8.body
 have nan:∀ x:UInt8,CallsR prog K.cmp_isNaN_uint8 #[bv x] w fun v w'=>v= .bool false∧w'=w:=fun x=>by
  apply cmp_isNaN_uint8.sh
  unfold cmp_isNaN_uint8.body
  exact ⟨by simp,rfl⟩
 refine (nan x).mono ?_
 rintro _ _ ⟨rfl,rfl⟩
 refine ⟨_,rfl,(nan y).mono ?_⟩
 rintro _ _ ⟨rfl,rfl⟩
 refine ⟨_,rfl,?_⟩
 simp only [br_false]
 unfold cmpI
 refine br_dec (fun h=>⟨by rw [if_pos h],by trivial⟩) fun h=>br_dec (fun h2=>⟨by rw [if_neg h,if_pos h2],by trivial⟩) fun h2=>⟨by rw [if_neg h,if_neg h2],by trivial⟩
theorem toList_data (s:ByteArray):s.toList=s.data.toList:=by rw [ByteArray.toList_eq]
theorem cmp_str_spec (x y:ByteArray) (w:World):CallsR prog K.cmp_Compare_string #[.string x,.string y] w fun v w'=>v= .int .i64 (cmpS x.data.toList y.data.toList)∧w'=w:=by
 apply cmp_Compare_string.sh
 unfold cmp_Compare_string.body
 have nan:∀ x:ByteArray,CallsR prog K.cmp_isNaN_string #[.string x] w fun v w'=>v= .bool false∧w'=w:=fun x=>by
  apply cmp_isNaN_string.sh
  unfold cmp_isNaN_string.body
  exact ⟨by simp,rfl⟩
 refine (nan x).mono ?_
 rintro _ _ ⟨rfl,rfl⟩
 refine ⟨_,rfl,(nan y).mono ?_⟩
 rintro _ _ ⟨rfl,rfl⟩
 refine ⟨_,rfl,?_⟩
 simp only [br_false,toList_data]
 unfold cmpS
 refine br_intro (fun h=>⟨by rw [if_pos h],by trivial⟩) fun h=>br_intro (fun h2=>⟨?_,by trivial⟩) fun h2=>⟨?_,by trivial⟩
 ·rw [if_neg (by rw [h];decide)]
  have:¬ x.data.toList=y.data.toList:=by intro e;rw [e] at h2;simp at h2
  rw [if_neg this]
 ·rw [if_neg (by rw [h];decide)]
  have:x.data.toList=y.data.toList:=by rw [h] at h2;simpa using h2
  rw [if_pos this]
theorem cmp_or_spec {w:World} {b:Nat} {l:List Int} (hr:RowAt w (some ⟨b,0,none⟩) (l.map (Value.int .i64))) (hn:l.length<1000000) (c:Nat):CallsR prog K.cmp_Or_int #[.slice (some ⟨b,0,none⟩) l.length c] w fun v w'=>v= .int .i64 (firstOf l)∧w'=w:=by
 apply cmp_Or_int.sh
 unfold cmp_Or_int.body
 refine ⟨fun x u=>∃ i:Nat,x=i∧i≤l.length∧u=w∧firstOf l=firstOf (l.drop i),fun x _=>((l.length:Int) - x).toNat,⟨0,rfl,by omega,rfl,rfl⟩,?_⟩
 rintro x u ⟨i,rfl,hi,rfl,hf⟩
 refine br_dec (fun hlt=>?_) fun hge=>?_
 ·have hi':i<l.length:=by omega
  refine ⟨by omega,by omega,?_⟩
  simp only [nilC_some',add_lit,Nat.zero_add,Nat.mul_one,Int.toNat_natCast]
  have hd:l.drop i=l[i] :: l.drop (i+1):=List.drop_eq_getElem_cons hi'
  have hcell:=row_cell hr (j:=i) (v:=.int .i64 l[i]) (by simp [hi'])
  rw [Nat.zero_add] at hcell
  refine ⟨_,hcell,br_ne (fun h=>⟨?_,by trivial⟩) fun h=>?_⟩
  ·rw [hf,hd];simp only [firstOf];rw [if_pos h]
  ·rw [w64 (by omega) (by omega)]
   exact ⟨⟨i+1,by omega,hi',by trivial,by rw [hf,hd];simp only [firstOf];rw [if_neg (by simpa using h)]⟩,by omega⟩
 ·have:l.drop i=[]:=List.drop_of_length_le (by omega)
  rw [this] at hf
  exact ⟨by rw [hf];rfl,rfl⟩
theorem fact_order_spec (a b:Key) (w:World):CallsR prog K.fact_order #[keyV a,keyV b] w fun v w'=>v= .int .i64 (orderK a b)∧Ext w w':=by
 apply fact_order.sh
 suffices H:∀ R:Value→World→Prop,(∀ v w',v= .int .i64 (orderK a b)∧Ext w w'→R v w')→fact_order.body a.ino a.what.toNat a.name a.chunk b.ino b.what.toNat b.name b.chunk w R from H _ fun _ _ h=>h
 intro R hR
 unfold fact_order.body
 simp only [add_lit,Nat.zero_add]
 intro B1 w₁ hn1 B2 w₂ hn2 w₃ hd3
 have g1:KeyAt w₃ B1 a:=Ext.get hd3.upd (Ext.get hn2.upd hn1.get)
 have g2:KeyAt w₃ B2 b:=Ext.get hd3.upd hn2.get
 have e3:Ext w w₃:=(hn1.upd.trans hn2.upd).trans hd3.upd
 refine ⟨fun u=>Ext w₃ u,Upd.refl _ _,_,fun u h=>cell_of (Ext.get h g1) rfl,_,fun u h=>cell_of (Ext.get h g2) rfl,_,fun u h=>cell_of (Ext.get h g1) rfl,_,fun u h=>cell_of (Ext.get h g2) rfl,_,fun u h=>cell_of (Ext.get h g1) rfl,_,fun u h=>cell_of (Ext.get h g2) rfl,_,fun u h=>cell_of (Ext.get h g1) rfl,_,fun u h=>cell_of (Ext.get h g2) rfl,?_⟩
 refine (cmp_int_spec _ _ w₃).mono ?_
 rintro _ _ ⟨rfl,rfl⟩
 refine ⟨_,rfl,Upd.refl _ _,(cmp_u8_spec _ _ _).mono ?_⟩
 rintro _ _ ⟨rfl,rfl⟩
 refine ⟨_,rfl,Upd.refl _ _,(cmp_str_spec _ _ _).mono ?_⟩
 rintro _ _ ⟨rfl,rfl⟩
 refine ⟨_,rfl,Upd.refl _ _,(cmp_int_spec _ _ _).mono ?_⟩
 rintro _ _ ⟨rfl,rfl⟩
 refine ⟨_,rfl,Upd.refl _ _,fun B3 w₈ hn8=>⟨hn8.upd,?_⟩⟩
 refine (cmp_or_spec (l:=[cmpI a.ino b.ino,cmpI a.what.toNat b.what.toNat,cmpS a.bytes b.bytes,cmpI a.chunk b.chunk]) (RowAt.of hn8.get fun j v hj=>by simpa [Key.bytes] using hj) (by simp) 4).mono ?_
 rintro _ _ ⟨rfl,rfl⟩
 exact ⟨_,rfl,hn8.upd,hR _ _ ⟨rfl,e3.trans hn8.upd⟩⟩
theorem fact_Before_spec (a b:Key) (w:World):CallsR prog K.fact_Before #[keyV a,keyV b] w fun v w'=>v= .bool (before a b)∧Ext w w':=by
 apply fact_Before.sh
 suffices H:∀ R:Value→World→Prop,(∀ v w',v= .bool (before a b)∧Ext w w'→R v w')→fact_Before.body a.ino a.what.toNat a.name a.chunk b.ino b.what.toNat b.name b.chunk w R from H _ fun _ _ h=>h
 intro R hR
 unfold fact_Before.body
 intro B1 w₁ hn1 B2 w₂ hn2
 have g1:KeyAt w₂ B1 a:=Ext.get hn2.upd hn1.get
 have g2:KeyAt w₂ B2 b:=hn2.get
 refine ⟨_,_,_,_,key_cells g1,_,_,_,_,key_cells g2,(fact_order_spec a b w₂).mono ?_⟩
 rintro _ w₃ ⟨rfl,he3⟩
 exact ⟨_,rfl,hR _ _ ⟨by rw [orderK_lt],(hn1.upd.trans hn2.upd).trans he3⟩⟩
def factR:ERep Fact:=ERep.pair keyR bytesR (fun x:Fact=>x.key) (fun x=>x.val)
abbrev factVs (k:Key) (a:Option Addr) (n c:Nat):List Value:=[.int .i64 k.ino,bv k.what,.string k.name,.int .i64 k.chunk,.slice a n c]
theorem factR_intro {w:World} {G:Nat→Prop} {x:Fact} {a:Option Addr} {c:Nat} (hc:x.val.length≤c) (hb:BytesAt w a x.val) (hg:x.val≠[]→∀ p,a=some p→G p.block):factR.R w G (factVs x.key a x.val.length c) x :=
 ⟨x.key.vals,[.slice a x.val.length c],rfl,rfl,a,c,rfl,hc,hb,hg⟩
theorem factR_elim {w:World} {G:Nat→Prop} {x:Fact} {vs:List Value} (h:factR.R w G vs x):∃ a c,vs=factVs x.key a x.val.length c∧x.val.length≤c∧BytesAt w a x.val∧(x.val≠[]→∀ p,a=some p→G p.block):=by
 obtain ⟨u,v,rfl,hu,a,c,hs,hc,hb,hg⟩:=h
 have hu':u=x.key.vals:=hu
 have hs':v=[.slice a x.val.length c]:=hs
 subst hu';subst hs'
 exact ⟨a,c,rfl,hc,hb,hg⟩
theorem ordered_take (l:List Fact) {i:Nat} (hi:i+1<l.length):ordered (l.take (i+2))=(ordered (l.take (i+1)) && before (l[i]'(by omega)).key l[i+1].key):=by
 induction l generalizing i with
 | nil=>simp at hi
 | cons x l ih =>
  cases l with
  | nil=>simp at hi
  | cons y l =>
   cases i with
   | zero=>simp [ordered]
   | succ i =>
    have:=ih (i:=i) (by simpa using hi)
    simp only [List.take_succ_cons,ordered,List.getElem_cons_succ] at this ⊢
    rw [this,Bool.and_assoc]
theorem ordered_small {l:List Fact} (h:l.length≤1):ordered l=true:=by
 match l,h with
 | [],_=>rfl
 | [x],_=>rfl
theorem ordered_false {l:List Fact}:∀ {n:Nat},ordered (l.take n)=false→ordered l=false:=by
 intro n h
 cases ho:ordered l with
 | false=>rfl
 | true =>
  have:=ordered_sorted.1 ho
  have h2:ordered (l.take n)=true:=ordered_sorted.2 (List.Pairwise.sublist (List.take_sublist _ _) this)
  rw [h] at h2;cases h2
theorem less_cons_iff (a b:UInt8) (x y:List UInt8):Op.bytesLess (a :: x) (b :: y)=(decide (a<b) || (a == b && Op.bytesLess x y)):=rfl
theorem less_at:∀ {x y:List UInt8} (i:Nat) (hx:i<x.length) (hy:i<y.length),x.take i=y.take i→x[i]≠y[i]→Op.bytesLess x y=decide (x[i]<y[i])
 | a :: x,b :: y,0,_,_,_,hne=>by
  simp only [List.getElem_cons_zero] at hne ⊢
  rw [less_cons_iff]
  simp [hne]
 | a :: x,b :: y,i+1,hx,hy,ht,hne=>by
  simp only [List.take_succ_cons,List.cons.injEq] at ht
  obtain ⟨rfl,ht⟩:=ht
  simp only [List.getElem_cons_succ] at hne ⊢
  rw [less_cons_iff,less_at i (by simpa using hx) (by simpa using hy) ht hne]
  have:¬ a<a:=by rw [UInt8.lt_iff_toNat_lt];omega
  simp [this]
theorem less_pre:∀ {x y:List UInt8} (i:Nat),x.take i=y.take i→(i=x.length∨i=y.length)→i≤x.length→i≤y.length→Op.bytesLess x y=decide (x.length<y.length)∧(x.length=y.length→x=y)
 | [],[],_,_,_,_,_=>⟨rfl,fun _=>rfl⟩
 | [],b :: y,i,_,h,h1,h2=>⟨by simp [Op.bytesLess],fun e=>by simp at e⟩
 | a :: x,[],i,_,h,h1,h2=>⟨by simp [Op.bytesLess],fun e=>by simp at e⟩
 | a :: x,b :: y,0,_,h,_,_=>by simp at h
 | a :: x,b :: y,i+1,ht,h,h1,h2=>by
  simp only [List.take_succ_cons,List.cons.injEq] at ht
  obtain ⟨rfl,ht⟩:=ht
  have ih:=less_pre i ht (by simpa using h) (by simpa using h1) (by simpa using h2)
  rw [less_cons_iff,ih.1]
  have:¬ a<a:=by rw [UInt8.lt_iff_toNat_lt];omega
  exact ⟨by simp [this],fun e=>by rw [ih.2 (by simpa using e)]⟩
theorem carrackref06_order_spec (s t:ByteArray) (hs:s.size<9223372036854775807) (ht:t.size<9223372036854775807) (w:World) :
  CallsR prog K.carrackref06_order #[.string s,.string t] w fun v w'=>Ext w w'∧∃ n:Int,v= .int .i64 n∧(decide (n<0)=Op.bytesLess s.data.toList t.data.toList)∧(n=0 ↔ s.data.toList=t.data.toList):=by
 apply carrackref06_order.sh
 unfold carrackref06_order.body
 have e1:=size_data s
 have e2:=size_data t
 rw [e1,e2]
 generalize s.data.toList=x at *
 generalize t.data.toList=y at *
 refine ⟨fun z u=>∃ i:Nat,z=i∧i≤x.length∧i≤y.length∧Ext w u∧x.take i=y.take i,fun z _=>((x.length:Int) - z).toNat,⟨0,rfl,by omega,by omega,Upd.refl _ _,rfl⟩,?_⟩
 rintro z u ⟨i,rfl,hx,hy,heu,heq⟩
 have fin:(i=x.length∨i=y.length)→(Ext w u∧∃ n:Int,Value.int .i64 (IntKind.i64.wrap (((x.length:Nat):Int) - ((y.length:Nat):Int)))= .int .i64 n∧(decide (n<0)=Op.bytesLess x y)∧(n=0 ↔ x=y)):=fun h=>by
  obtain ⟨p1,p2⟩:=less_pre i heq h hx hy
  refine ⟨heu,_,rfl,?_,?_⟩
  ·rw [w64 (by omega) (by omega),p1,decide_eq_decide];omega
  ·rw [w64 (by omega) (by omega)]
   exact ⟨fun e=>p2 (by omega),fun e=>by rw [e];omega⟩
 refine br_dec (fun hlt=>br_dec (fun hlt2=>?_) fun h=>fin (.inr (by omega))) fun h=>fin (.inl (by omega))
 have hx':i<x.length:=by omega
 have hy':i<y.length:=by omega
 intro w₂ hd2
 refine ⟨(·=w₂),rfl,by omega,x[i],by simp [hx'],by omega,y[i],by simp [hy'],br_ne (fun hne=>?_) fun heq'=>?_⟩
 ·intro w₃ hd3
  refine ⟨(·=w₃),rfl,by omega,x[i],by simp [hx'],by omega,y[i],by simp [hy'],(heu.trans hd2.upd).trans hd3.upd,_,rfl,?_,?_⟩
  ·have hne':x[i]≠y[i]:=fun e=>hne (by rw [e])
   rw [less_at i hx' hy' heq hne',w64n (by have:=x[i].toNat_lt;omega),w64n (by have:=y[i].toNat_lt;omega),w64 (by have:=x[i].toNat_lt;have:=y[i].toNat_lt;omega) (by have:=x[i].toNat_lt;have:=y[i].toNat_lt;omega),decide_eq_decide,UInt8.lt_iff_toNat_lt]
   omega
  ·rw [w64n (by have:=x[i].toNat_lt;omega),w64n (by have:=y[i].toNat_lt;omega),w64 (by have:=x[i].toNat_lt;have:=y[i].toNat_lt;omega) (by have:=x[i].toNat_lt;have:=y[i].toNat_lt;omega)]
   constructor
   ·intro e;exact absurd (by omega) hne
   ·rintro rfl;exact absurd rfl hne
 ·rw [w64 (by omega) (by omega)]
  have hxy:x[i]=y[i]:=UInt8.toNat_inj.1 (by have:(x[i].toNat:Int)=(y[i].toNat:Int):=heq';omega)
  exact ⟨⟨i+1,rfl,hx',hy',heu.trans hd2.upd,by rw [List.take_succ_eq_append_getElem hx',List.take_succ_eq_append_getElem hy',heq,hxy]⟩,meas hx'⟩
theorem carrackref06_Before_spec (a b:Key) (ha:a.name.size<9223372036854775807) (hb:b.name.size<9223372036854775807) (w:World):CallsR prog K.carrackref06_Before #[keyV a,keyV b] w fun v w'=>v= .bool (before a b)∧Ext w w':=by
 apply carrackref06_Before.sh
 suffices H:∀ R:Value→World→Prop,(∀ v w',v= .bool (before a b)∧Ext w w'→R v w')→carrackref06_Before.body a.ino a.what.toNat a.name a.chunk b.ino b.what.toNat b.name b.chunk w R from H _ fun _ _ h=>h
 intro R hR
 unfold carrackref06_Before.body
 simp only [add_lit,Nat.zero_add]
 intro B1 w₁ hn1 B2 w₂ hn2
 have g1:KeyAt w₂ B1 a:=Ext.get hn2.upd hn1.get
 have g2:KeyAt w₂ B2 b:=hn2.get
 have e2:=hn1.upd.trans hn2.upd
 rw [before_eq] at hR
 refine ⟨_,cell_of g1 rfl,_,cell_of g2 rfl,br_ne (fun hne=>⟨_,cell_of g1 rfl,_,cell_of g2 rfl,hR _ _ ⟨?_,e2⟩⟩) fun h1=>?_⟩
 ·rw [decide_eq_false (p:=a.ino=b.ino) hne];simp
 rw [decide_eq_false (p:=a.ino<b.ino) (by omega),decide_eq_true (p:=a.ino=b.ino) h1,Bool.false_or,Bool.true_and] at hR
 refine ⟨_,cell_of g1 rfl,_,cell_of g2 rfl,br_ne (fun hne=>⟨_,cell_of g1 rfl,_,cell_of g2 rfl,hR _ _ ⟨?_,e2⟩⟩) fun h2=>?_⟩
 ·have hne':a.what≠b.what:=fun e=>hne (by rw [e])
  rw [decide_eq_false (p:=a.what=b.what) hne']
  simp only [Bool.false_and,Bool.or_false]
  congr 1
  rw [decide_eq_decide,UInt8.lt_iff_toNat_lt];omega
 have h2':a.what=b.what:=UInt8.toNat_inj.1 (by have:(a.what.toNat:Int)=(b.what.toNat:Int):=h2;omega)
 rw [decide_eq_false (p:=a.what<b.what) (by rw [UInt8.lt_iff_toNat_lt];omega),decide_eq_true (p:=a.what=b.what) h2',Bool.false_or,Bool.true_and] at hR
 refine ⟨_,cell_of g1 rfl,_,cell_of g2 rfl,(carrackref06_order_spec a.name b.name ha hb w₂).mono ?_⟩
 rintro _ w₃ ⟨he3,n,rfl,hn1',hn2'⟩
 have hbl:Op.bytesLess a.bytes b.bytes=decide (n<0):=hn1'.symm
 have hbe:n=0 ↔ a.bytes=b.bytes:=hn2'
 refine ⟨_,rfl,br_ne (fun hne=>hR _ _ ⟨?_,e2.trans he3⟩) fun h3=>⟨_,cell_of (Ext.get he3 g1) rfl,_,cell_of (Ext.get he3 g2) rfl,hR _ _ ⟨?_,e2.trans he3⟩⟩⟩
 ·rw [hbl,decide_eq_false (p:=a.bytes=b.bytes) (fun e=>hne (hbe.2 e))];simp
 ·rw [hbl,decide_eq_true (p:=a.bytes=b.bytes) (hbe.1 h3),decide_eq_false (p:=n<0) (by omega)];simp
def Fact.zero:Fact:=⟨Key.zero,[]⟩
structure Child where
 key:Key
 block:Int
 page:Int
def Child.zero:Child:=⟨Key.zero,0,0⟩
structure Place where
 block:Int
 page:Int
 deriving DecidableEq
structure Point where
 number:Nat
 block:Int
 page:Int
 count:Int
 deriving DecidableEq
def Point.zero:Point:=⟨0,0,0,0⟩
def leafS (k:Key) (s:St):Fact×Nat×St :=
 let v:=rowS s
 if v.2.1≠0 then (Fact.zero,4,none) else if v.1.length=0 then (Fact.zero,5,v.2.2) else (⟨k,v.1⟩,0,v.2.2)
def innerS (k:Key) (s:St):Child×Nat×St :=
 let a:=takeS 1 s
 if a.2.1≠0 then (Child.zero,4,none)
 else
  let b:=takeS 1 a.2.2
  if b.2.1≠0 then (Child.zero,4,none) else (⟨k,a.1,b.1⟩,0,b.2.2)
def aheadL {α:Type} (key:α→Key) (acc:List α) (k:Key):Bool :=
 match acc.getLast? with
 | some y=>before (key y) k
 | none=>true
def listGo {α:Type} (key:α→Key) (one:Key→St→α×Nat×St):Nat→St→List α→List α×Nat
 | 0,s,acc=>if 0<leftS s then ([],5) else (acc,0)
 | n+1,s,acc =>
  let k:=keyS s
  if k.2.1≠0 then ([],k.2.1)
  else
   let x:=one k.1 k.2.2
   if x.2.1≠0 then ([],x.2.1)
   else if aheadL key acc k.1=false then ([],5)
   else listGo key one n x.2.2 (acc ++ [x.1])
def listS {α:Type} (key:α→Key) (one:Key→St→α×Nat×St) (b:List UInt8):List α×Nat :=
 if (takeS 1 (some b)).2.1≠0 then ([],4) else if (takeS 1 (some b)).1=0 then ([],5) else listGo key one (takeS 1 (some b)).1 (takeS 1 (some b)).2.2 []
def getLeaf (b:List UInt8):List Fact×Nat:=listS Fact.key leafS b
def getInner (b:List UInt8):List Child×Nat:=listS Child.key innerS b
theorem listGo_some {α:Type} {key:α→Key} {one:Key→St→α×Nat×St}:∀ {n:Nat} {s:St} {acc:List α},(listGo key one n s acc).2=0→acc.length+n≤(listGo key one n s acc).1.length
 | 0,s,acc,h=>by
  unfold listGo at h ⊢
  split at h
  ·cases h
  ·rename_i hl;rw [if_neg hl];exact Nat.le_refl _
 | n+1,s,acc,h=>by
  unfold listGo at h ⊢
  simp only at h ⊢
  split at h
  ·rename_i hk;exact absurd h hk
  ·rename_i hk
   rw [if_neg hk]
   split at h
   ·rename_i hx;exact absurd h hx
   ·rename_i hx
    rw [if_neg hx]
    split at h
    ·cases h
    ·rename_i ha
     rw [if_neg ha]
     have:=listGo_some h
     rw [List.length_append,List.length_singleton] at this
     omega
theorem listS_some {α:Type} {key:α→Key} {one:Key→St→α×Nat×St} {b:List UInt8} (h:(listS key one b).2=0):(listS key one b).1≠[]:=by
 unfold listS at h ⊢
 split at h
 ·cases h
 ·rename_i h1
  rw [if_neg h1]
  split at h
  ·cases h
  ·rename_i h2
   rw [if_neg h2]
   have:=listGo_some h
   intro e
   rw [e] at this
   simp at this
   omega
def Point.may (p:Point):Bool:=decide (1≤p.number) && decide (0≤p.count) && decide (p.count≤65535) && decide (0≤p.block) && decide (p.block≤255) && decide (0≤p.page) && decide (p.page≤255) &&
 (if p.count=0 then decide (p.page=0) && decide (p.block=0) else decide (p.page≠0))
def getPoint (b:List UInt8):Point×Nat :=
 if b.length<12 then (Point.zero,4)
 else
  let p:Point:=⟨fromLE (b.take 8),(b.getD 8 0).toNat,(b.getD 9 0).toNat,(b.getD 10 0).toNat+256 * (b.getD 11 0).toNat⟩
  if p.may=true∧b.length=12 then (p,0) else (Point.zero,5)
def bit (x:UInt8) (k:Nat):Bool:=x.toBitVec.getLsbD k
def sub8 (y x:UInt8):Prop:=∀ k,bit y k=true→bit x k=true
def SubL (Q X:List UInt8):Prop:=Q.length=X.length∧∀ i,i<Q.length→sub8 (Q.getD i 0) (X.getD i 0)
theorem SubL.drop {A B:List UInt8} (h:SubL A B) (n:Nat):SubL (A.drop n) (B.drop n):=by
 refine ⟨by simp [h.1],fun i hi=>?_⟩
 have hb:=h.2 (n+i) (by simp at hi;omega)
 simpa [List.getD] using hb
theorem isBlank_replicate (n:Nat):isBlank (List.replicate n 255)=true:=by simp [isBlank]
theorem getPage_pageOf {size:Nat} {kind:UInt8} {body:List UInt8} (hs:isSize size=true) (hk1:¬ kind<1) (hk7:¬ kind > 7) (hb:body.length+5≤size):getPage (pageOf size kind body)=(kind,body,0):=by
 have hs':=hs
 simp [isSize] at hs'
 have hlen:=pageOf_length size kind body hb
 have hrl:=pageRest_length size kind body hb
 have hn:=noughts_le (pageRest size kind body)
 have h2:=leB_length 2 (noughts (pageRest size kind body))
 have h3:=leB_length 2 body.length
 have e256:(256:Nat) ^ 2=65536:=by decide
 obtain ⟨n0,n1,hN⟩: ∃ n0 n1,leB (noughts (pageRest size kind body)) 2=[n0,n1]:=⟨_,_,rfl⟩
 obtain ⟨m0,m1,hM⟩: ∃ m0 m1,leB body.length 2=[m0,m1]:=⟨_,_,rfl⟩
 have hp:pageOf size kind body=n0 :: n1 :: kind :: m0 :: m1 :: (body ++ List.replicate (size - 5 - body.length) 255):=by
  unfold pageOf
  rw [hN]
  unfold pageRest
  rw [hM]
  simp
 have hr:pageRest size kind body=kind :: m0 :: m1 :: (body ++ List.replicate (size - 5 - body.length) 255):=by
  unfold pageRest
  rw [hM]
  simp
 have f1:fromLE [n0,n1]=noughts (pageRest size kind body):=by rw [← hN];exact fromLE_leB 2 _ (by omega)
 have f2:fromLE [m0,m1]=body.length:=by rw [← hM];exact fromLE_leB 2 _ (by omega)
 have hkb:kind≠255:=fun e=>hk7 (by rw [e];decide)
 have hnb:isBlank (pageOf size kind body)=false:=by
  rw [hp]
  simp [isBlank,hkb]
 unfold getPage
 rw [hlen,if_neg (by rw [hs];simp),if_neg (by rw [hnb];simp)]
 have d2:(pageOf size kind body).drop 2=pageRest size kind body:=by rw [hp,hr];rfl
 have t2:(pageOf size kind body).take 2=[n0,n1]:=by rw [hp];rfl
 have g2:(pageOf size kind body).getD 2 0=kind:=by rw [hp];rfl
 have t3:((pageOf size kind body).drop 3).take 2=[m0,m1]:=by rw [hp];rfl
 rw [d2,t2,f1,if_neg (by simp),g2,t3,f2]
 have d5:(pageOf size kind body).drop (5+body.length)=List.replicate (size - 5 - body.length) 255:=by
  rw [hp,← List.drop_drop]
  show (body ++ List.replicate (size - 5 - body.length) 255).drop body.length=_
  simp
 have t5:((pageOf size kind body).take (5+body.length)).drop 5=body:=by
  rw [hp,Nat.add_comm]
  show ((n0 :: n1 :: kind :: m0 :: m1 :: (body ++ List.replicate (size - 5 - body.length) 255)).take (body.length+5)).drop 5=body
  simp
 rw [d5,t5,isBlank_replicate,if_neg]
 rintro (h | h | h | h)
 ·exact hk1 h
 ·exact hk7 h
 ·omega
 ·cases h
theorem getD_set_ne {α:Type} {l:List α} {i j:Nat} {x d:α} (h:j≠i):(l.set i x).getD j d=l.getD j d:=by
 simp [List.getD,List.getElem?_set_ne (Ne.symm h)]
theorem getD_set_eq {α:Type} {l:List α} {i:Nat} {x d:α} (h:i<l.length):(l.set i x).getD i d=x:=by
 simp [List.getD,h]
def hd (c:Chip) (i:Nat):Head×Nat:=getHead (c.page i 0)
def isHd (c:Chip) (i:Nat):Prop:=(hd c i).2=0
def view (c:Chip) (i:Nat):Blk:=if (hd c i).2=0 then ⟨2,(hd c i).1⟩ else if isBlank (c.blk i) then ⟨0,Head.none⟩ else ⟨1,Head.none⟩
theorem lookAt_view (c:Chip) (i:Nat) (old:Blk):lookAt c i old=if c.dead then old else view c i:=rfl
theorem view_what (c:Chip) (i:Nat):(view c i).what=2 ↔ isHd c i:=by
 unfold view isHd
 split
 ·rename_i h;simp [h]
 ·rename_i h;split<;>simp [h]
theorem setBlk_blk {P:Pool} {i j:Nat} {b:Blk} (hi:i<P.blocks.length):(P.setBlk i b).blk j=if j=i then b else P.blk j:=by
 show (P.blocks.set i b).getD j Blk.zero=_
 split
 ·rename_i e;subst e;exact getD_set_eq hi
 ·rename_i e;exact getD_set_ne e
theorem isBlank_eq {l:List UInt8} (h:isBlank l=true):l=List.replicate l.length 255:=by
 refine List.eq_replicate_iff.2 ⟨rfl,fun b hb=>?_⟩
 simp only [isBlank,List.all_eq_true,beq_iff_eq] at h
 exact h b hb
theorem sorted_ext {α:Type} {f:α→Nat}:∀ {l m:List α},l.Pairwise (fun a b=>f a<f b)→m.Pairwise (fun a b=>f a<f b)→(∀ x,x∈l ↔ x∈m)→l=m
 | [],[],_,_,_=>rfl
 | [],b :: m,_,_,h=>by have:=(h b).2 (by simp);simp at this
 | a :: l,[],_,_,h=>by have:=(h a).1 (by simp);simp at this
 | a :: l,b :: m,hl,hm,h=>by
  obtain ⟨l1,l2⟩:=List.pairwise_cons.1 hl
  obtain ⟨m1,m2⟩:=List.pairwise_cons.1 hm
  have hab:a=b:=by
   rcases List.mem_cons.1 ((h a).1 (by simp)) with e | ha
   ·exact e
   ·rcases List.mem_cons.1 ((h b).2 (by simp)) with e | hb
    ·exact e.symm
    ·have:=l1 b hb;have:=m1 a ha;omega
  subst hab
  rw [sorted_ext l2 m2 fun x=>?_]
  constructor
  ·intro hx
   rcases List.mem_cons.1 ((h x).1 (by simp [hx])) with e | hx'
   ·have:=l1 x hx;rw [e] at this;omega
   ·exact hx'
  ·intro hx
   rcases List.mem_cons.1 ((h x).2 (by simp [hx])) with e | hx'
   ·have:=m1 x hx;rw [e] at this;omega
   ·exact hx'
theorem insAt_cons (t y:Taken) (l:List Taken):insAt t (y :: l)=if y.head.seq≤t.head.seq then y :: insAt t l else t :: y :: l:=by
 unfold insAt posOf
 rw [List.takeWhile_cons]
 split<;>rename_i h
 ·have:y.head.seq≤t.head.seq:=by simpa using h
  rw [if_pos this];simp
 ·have:¬ y.head.seq≤t.head.seq:=by simpa using h
  rw [if_neg this];simp
theorem insAt_mem (t x:Taken):∀ (l:List Taken),x∈insAt t l ↔ x=t∨x∈l
 | []=>by simp [insAt,posOf]
 | y :: l=>by
  rw [insAt_cons]
  split
  ·simp only [List.mem_cons,insAt_mem t x l]
   constructor
   ·rintro (h | h | h)
    ·exact .inr (.inl h)
    ·exact .inl h
    ·exact .inr (.inr h)
   ·rintro (h | h | h)
    ·exact .inr (.inl h)
    ·exact .inl h
    ·exact .inr (.inr h)
  ·simp
theorem view_pos {c:Chip} {i:Nat} (h:isHd c i):view c i=⟨2,(hd c i).1⟩:=if_pos h
def IsTaken (c:Chip) (n:Nat) (t:Taken):Prop:=t.block<n∧isHd c t.block∧t.head=(hd c t.block).1∧t.bad=c.isBad t.block
theorem refHead_eq {c:Chip} (h:c.Ok) (hd0:c.dead=false) {i:Nat} (hi:i<c.nb):refHead c i=((hd c i).1,decide ((hd c i).2=0)):=by
 have:=h.np1
 have ha:c.ask i 0=0:=ask_ok (k:=0) hd0 hi (by omega)
 unfold refHead
 rw [if_neg (by omega)]
 rfl
theorem sub_len {α:Type}:∀ {l m:List α},l.Nodup→(∀ x∈l,x∈m)→l.length≤m.length
 | [],m,_,_=>by simp
 | x :: l,m,hn,hs=>by
  obtain ⟨s,t,rfl⟩:=List.append_of_mem (hs x (by simp))
  obtain ⟨h1,h2⟩:=List.nodup_cons.1 hn
  have:=sub_len (l:=l) (m:=s ++ t) h2 fun y hy=>by
   have hne:y≠x:=fun e=>h1 (e ▸ hy)
   have:=hs y (by simp [hy])
   simp only [List.mem_append,List.mem_cons] at this ⊢
   rcases this with h | h | h
   ·exact .inl h
   ·exact absurd h hne
   ·exact .inr h
  simp at this ⊢
  omega
def OpenFrom (c:Chip) (i k:Nat):Prop:=isBlank ((c.blk i).drop (k * c.sz))=true
theorem OpenFrom.mono {c:Chip} {i k m:Nat} (h:OpenFrom c i k) (hkm:k≤m):OpenFrom c i m:=by
 unfold OpenFrom isBlank at *
 obtain ⟨d,rfl⟩:=Nat.exists_eq_add_of_le hkm
 rw [Nat.add_mul,← List.drop_drop]
 rw [List.all_eq_true] at h ⊢
 exact fun x hx=>h x (List.mem_of_mem_drop hx)
theorem OpenFrom.page {c:Chip} (ho:c.Ok) {i k m:Nat} (hi:i<c.nb) (h:OpenFrom c i k) (hkm:k≤m) (hm:m<c.np):c.page i m=List.replicate c.sz 255:=by
 have h':=h.mono hkm
 have hlen:=ho.blk_len hi
 have hp:=page_in hm
 unfold OpenFrom at h'
 have:=isBlank_eq h'
 unfold Chip.page
 rw [this,List.take_replicate,List.length_drop,hlen]
 congr 1
 omega
theorem OpenFrom.blk {c c':Chip} (hg:c.SameGeo c') {i k:Nat} (h:OpenFrom c i k) (hb:c'.blk i=c.blk i):OpenFrom c' i k:=by
 unfold OpenFrom at *
 rw [hb,hg.2.2.1];exact h
end Go.Den
namespace Go.Den
structure Turn where
 from_:UInt8
 to:UInt8
 phase:UInt8
 deriving DecidableEq
namespace Turn
def zero:Turn:=⟨0,0,0⟩
def body (t:Turn):List UInt8:=[t.from_,t.to,t.phase]
def vals (t:Turn):List Value:=[bv t.from_,bv t.to,bv t.phase]
def may (t:Turn):Bool:=((t.from_ == 1 && t.to == 2) || (t.from_ == 2 && t.to == 1)) && (t.phase == 1 || t.phase == 2)
end Turn
end Go.Den
namespace Go.Den
theorem cGeo {F:Nat→Prop} {A:Nat} {w:World} {p:Nat} {c:Chip} (h:CIn F A w p c) :
  CallsR prog K.nand_Chip_Geo #[.pointer (some ⟨p,0,none⟩)] w fun v w'=>v= .agg #[.int .i64 c.nb,.int .i64 c.np,.int .i64 c.sz,.int .i64 c.sp]∧Ext w w':=by
 obtain ⟨L,G,hr,_⟩:=h
 exact nand_Geo_spec hr
theorem cReadAt {F:Nat→Prop} {A:Nat} {w:World} {p:Nat} {c:Chip} (h:CIn F A w p c) (block page:Int) :
  CallsR prog K.nand_Chip_Read #[.pointer (some ⟨p,0,none⟩),.int .i64 block,.int .i64 page] w fun v w'=>Ext w w'∧
   if c.ask block page=0 then ∃ a cp,v= .tuple #[.slice a c.sz cp,.int .i64 0]∧BytesAt w' a (c.page block.toNat page.toNat)∧c.sz≤cp∧Fresh w a
   else v= .tuple #[.slice none 0 0,.int .i64 (c.ask block page:Nat)]:=by
 obtain ⟨L,G,hr,_⟩:=h
 exact nand_Read_spec hr block page
theorem cPage {F:Nat→Prop} {A:Nat} {w:World} {p:Nat} {c:Chip} (h:CIn F A w p c) (hd0:c.dead=false) {i k:Nat} (hi:i<c.nb) (hk:k<c.np) :
  CallsR prog K.nand_Chip_Read #[.pointer (some ⟨p,0,none⟩),.int .i64 i,.int .i64 k] w fun v w'=>Ext w w'∧∃ a cp,v= .tuple #[.slice a (c.page i k).length cp,.int .i64 0]∧BytesAt w' a (c.page i k)∧(c.page i k).length≤cp∧Fresh w a:=by
 refine (cReadAt h i k).mono ?_
 rintro v w' ⟨he,hv⟩
 rw [if_pos (ask_ok hd0 hi hk)] at hv
 obtain ⟨a,cp,rfl,hb,hc,hf⟩:=hv
 simp only [Int.toNat_natCast] at hb
 rw [← page_len h.ok hi hk]
 exact ⟨he,a,cp,rfl,hb,by rw [page_len h.ok hi hk];exact hc,hf⟩
structure PageSay where
 page:Int
 changes:List Change
 drop:Nat
theorem getPage_len (b:List UInt8):(getPage b).2.1.length≤b.length:=by
 unfold getPage
 repeat' split
 all_goals simp
 all_goals omega
def PageOut (w w':World) (v:Value) (o:Option PageSay):Prop:=Ext w w'∧∃ (m:Int) (a:Option Addr) (l c d:Nat) (b:Bool),v= .tuple #[.agg #[.int .i64 m,.slice a l c,.int .u64 d],.bool b]∧b=o.isSome∧
 ∀ P,o=some P→m=P.page∧d=P.drop∧l=P.changes.length∧l≤c∧∃ G,SliceAt changeR w' G a P.changes∧∀ x,G x→w.heap.size≤x∧x<w'.heap.size
theorem PageOut.none {w w':World} {o:Option PageSay} (ho:o= .none) (h:Ext w w') {m:Int} {a:Option Addr} {l c d:Nat} {b:Bool} (hb:b=false):PageOut w w' (.tuple #[.agg #[.int .i64 m,.slice a l c,.int .u64 d],.bool b]) o:=by
 subst ho
 exact ⟨h,m,a,l,c,d,b,rfl,hb,fun P hP=>by cases hP⟩
theorem ask_none0 {c:Chip} {i j:Int} (h:c.ask i j=0):c.dead=false∧0≤i∧i<c.nb∧0≤j∧j<c.np:=by
 unfold Chip.ask at h
 split at h
 ·cases h
 ·rename_i hd
  split at h
  ·cases h
  ·rename_i hx
   refine ⟨by simpa using hd,?_⟩
   omega
def BList (S:Nat) (w:World) (a:Option Addr) (cap:Nat) (l:List UInt8):Prop:=OwnAt w a l.length cap T.uint8 1 (l.map bv)∧∀ b,a=some ⟨b,0,none⟩→S≤b
theorem BList.nil (S:Nat) (w:World):BList S w none 0 []:=⟨OwnAt.nil _ _ _,fun _ h=>by cases h⟩
theorem BList.bytes {S:Nat} {w:World} {a:Option Addr} {cap:Nat} {l:List UInt8} (h:BList S w a cap l):BytesAt w a l:=h.1.row
theorem BList.weak {S S':Nat} {w:World} {a:Option Addr} {cap:Nat} {l:List UInt8} (h:BList S w a cap l) (hS:S'≤S):BList S' w a cap l:=⟨h.1,fun b hb=>Nat.le_trans hS (h.2 b hb)⟩
theorem BList.ext {S:Nat} {w w':World} {a:Option Addr} {cap:Nat} {l:List UInt8} (h:BList S w a cap l) (k:Ext w w'):BList S w' a cap l:=⟨h.1.ext k,h.2⟩
theorem BList.lt {S:Nat} {w:World} {a:Option Addr} {cap:Nat} {l:List UInt8} (h:BList S w a cap l) {p:Addr} (hp:a=some p):S≤p.block∧p.block<w.heap.size:=by
 have hb:=h.1.2.2
 rcases hb with ⟨hx,_⟩| ⟨b,cur,hx,hb,_⟩
 ·rw [hx] at hp;cases hp
 ·have hs:=h.2 b hx
  rw [hx] at hp;cases hp
  exact ⟨hs,(Array.getElem?_eq_some_iff.1 hb).1⟩
theorem BList.new {S:Nat} {w w':World} {B:Nat} {cs:Array Value} (h:New w (.cells cs T.uint8) B w') {l:List UInt8} (hl:cs.toList=l.map bv) (hS:S≤w.heap.size):BList S w' (some ⟨B,0,none⟩) l.length l:=by
 have hsz:cs.size=l.length * 1:=by rw [← Array.length_toList,hl];simp
 have:=OwnAt.new h (n:=l.length) (size:=1) hsz
 rw [hl] at this
 exact ⟨this,fun b hb=>by cases hb;rw [h.num];exact hS⟩
theorem BList.cat {S:Nat} {w:World} {a ax:Option Addr} {cap n m cx:Nat} {l xs:List UInt8} (h:BList S w a cap l) (hn:n=l.length) (hm:m=xs.length) (hx:BytesAt w ax xs) (hb:l.length+xs.length≤140737488355232) (hS:S≤w.heap.size) {K:Option Addr→Nat→Nat→World→Prop}
  (hk:∀ a' c' w',Upd (fun b=>S≤b) w w'→BList S w' a' c' (l ++ xs)→K a' (l ++ xs).length c' w'):appendP T.uint8 1 1 [Value.int .u8 0] a n cap (.slice ax m cx) w K:=by
 subst hn;subst hm
 refine append_bytes h.1 hx hb fun a' c' w' hu ho hf=>hk a' c' w' (hu.mono fun b _ hb=>h.2 b hb) ⟨ho,fun b hb=>?_⟩
 rcases hf with hf | ⟨b',hb',hl⟩
 ·subst hf;exact h.2 b hb
 ·rw [hb'] at hb;cases hb;omega
theorem BList.push {S:Nat} {w w₁:World} {a:Option Addr} {cap n:Nat} {l:List UInt8} {B:Nat} {x:UInt8} (h:BList S w a cap l) (hn:n=l.length) (hnew:New w (.cells #[bv x] T.uint8) B w₁) (hb:l.length+1≤140737488355232) (hS:S≤w.heap.size) {K:Option Addr→Nat→Nat→World→Prop}
  (hk:∀ a' c' w',Upd (fun b=>S≤b) w w'→BList S w' a' c' (l ++ [x])→K a' (l ++ [x]).length c' w'):appendP T.uint8 1 1 [Value.int .u8 0] a n cap (.slice (some ⟨B,0,none⟩) 1 1) w₁ K :=
 BList.cat (xs:=[x]) (h.ext hnew.upd) hn rfl (RowAt.of hnew.get fun j v hj=>by simpa using hj) (by simpa using hb) (by have:=hnew.size;omega) fun a' c' w' hu hl=>hk a' c' w' ((Upd.ext hnew.upd).trans hu) hl
def BytesOut (w w':World) (v:Value) (l:List UInt8) (e:Nat):Prop:=∃ a c,v= .tuple #[.slice a l.length c,.int .i64 (e:Nat)]∧BList w.heap.size w' a c l∧Ext w w'
theorem BytesOut.none {w w':World} {e:Nat} (h:Ext w w'):BytesOut w w' (.tuple #[.slice .none 0 0,.int .i64 (e:Nat)]) [] e:=⟨.none,0,rfl,BList.nil _ _,h⟩
def keyB (k:Key):List UInt8:=leB k.ino.toNat 2 ++ [k.what] ++ (if k.what=2 then UInt8.ofNat k.bytes.length :: k.bytes else if k.what=3 then [UInt8.ofNat k.chunk.toNat] else [])
def putKeyB (k:Key):List UInt8×Nat:=if k.may then (keyB k,0) else ([],2)
theorem Key.may_elim {k:Key} (h:k.may=true):1≤k.ino∧k.ino≤65535∧((k.what=1∧k.bytes=[]∧k.chunk=0)∨(k.what=2∧isName k.bytes=true∧k.chunk=0)∨(k.what=3∧k.bytes=[]∧0≤k.chunk∧k.chunk<8)):=by
 unfold Key.may at h
 simp only [Bool.and_eq_true,Bool.or_eq_true,decide_eq_true_eq] at h
 obtain ⟨⟨h1,h2⟩,h3⟩:=h
 refine ⟨h1,h2,?_⟩
 rcases h3 with (⟨⟨h,h'⟩,h''⟩| ⟨⟨h,h'⟩,h''⟩) | ⟨⟨⟨h,h'⟩,h''⟩,h'''⟩
 ·exact .inl ⟨UInt8.toNat_inj.1 h,h',h''⟩
 ·exact .inr (.inl ⟨UInt8.toNat_inj.1 h,h',h''⟩)
 ·exact .inr (.inr ⟨UInt8.toNat_inj.1 h,h',h'',h'''⟩)
theorem isName_len {s:List UInt8} (h:isName s=true):1≤s.length∧s.length≤12:=by
 unfold isName at h
 simp only [Bool.and_eq_true,decide_eq_true_eq] at h
 exact ⟨h.1.1.1.2,h.1.1.2⟩
theorem keyB_len {k:Key} (h:k.may=true):3≤(keyB k).length∧(keyB k).length≤16:=by
 obtain ⟨_,_,h3⟩:=Key.may_elim h
 unfold keyB
 simp only [List.length_append,leB_length,List.length_cons,List.length_nil]
 rcases h3 with ⟨h,_⟩| ⟨h,h',_⟩| ⟨h,_⟩
 ·rw [h,if_neg (by decide),if_neg (by decide)];simp
 ·have:=isName_len h'
  rw [h,if_pos rfl]
  simp only [List.length_cons]
  omega
 ·rw [h,if_neg (by decide),if_pos rfl];simp
theorem tmod_256 {n:Nat}:Int.tmod (n:Int) 256=((n % 256:Nat):Int):=tmod_nat n 256
theorem tdiv_256 {n:Nat}:Int.tdiv (n:Int) 256=((n / 256:Nat):Int):=tdiv_nat n 256
theorem carrackref06_PutKey_spec (k:Key) (hn:k.name.size<9223372036854775807) (w:World) :
  CallsR prog K.carrackref06_PutKey #[keyV k] w fun v w'=>BytesOut w w' v (putKeyB k).1 (putKeyB k).2:=by
 apply carrackref06_PutKey.sh
 suffices H:∀ R:Value→World→Prop,(∀ v w',BytesOut w w' v (putKeyB k).1 (putKeyB k).2→R v w')→carrackref06_PutKey.body k.ino k.what.toNat k.name k.chunk w R from H _ fun _ _ h=>h
 intro R hR
 unfold carrackref06_PutKey.body
 simp only [add_lit,Nat.zero_add]
 intro B1 w₁ hn1
 have g1:KeyAt w₁ B1 k:=hn1.get
 have hb1:B1=w.heap.size:=hn1.num
 have hs1:=hn1.size
 refine ⟨_,_,_,_,key_cells g1,(carrackref06_MayKey_spec k hn w₁).mono ?_⟩
 rintro _ w₂ ⟨rfl,he2⟩
 have g2:KeyAt w₂ B1 k:=Ext.get he2 g1
 have e2:Ext w w₂:=hn1.upd.trans he2
 have hs2:=he2.size
 refine ⟨_,rfl,br_intro (fun hm=>?_) fun hm=>?_⟩
 ·have h:putKeyB k=([],2):=by unfold putKeyB;rw [if_neg (by simpa using hm)]
  rw [h] at hR
  exact hR _ _ (BytesOut.none (e:=2) e2)
 have hm':k.may=true:=by simpa using hm
 have h:putKeyB k=(keyB k,0):=by unfold putKeyB;rw [if_pos hm']
 rw [h] at hR
 obtain ⟨h1,h2,h3⟩:=Key.may_elim hm'
 obtain ⟨n,hn0⟩: ∃ n:Nat,k.ino=n:=⟨k.ino.toNat,by omega⟩
 refine ⟨_,cell_of g2 rfl,by decide,_,cell_of g2 rfl,by decide,_,cell_of g2 rfl,fun B2 w₃ hn3=>?_⟩
 rw [hn0,tmod_256,tdiv_256,w64n (by omega),bv_mod,bv_mod,Nat.mod_mod] at hn3
 have hbl:(leB k.ino.toNat 2 ++ [k.what]).length=3:=by simp [leB_length]
 have hbase:BList w₂.heap.size w₃ (some ⟨B2,0,none⟩) 3 (leB k.ino.toNat 2 ++ [k.what]):=by
  have:=BList.new (S:=w₂.heap.size) (l:=leB k.ino.toNat 2 ++ [k.what]) hn3 (by rw [hn0,leB_two];rfl) (Nat.le_refl _)
  rw [hbl] at this
  exact this
 have hs3:=hn3.size
 have e3:Ext w w₃:=e2.trans hn3.upd
 have g3:KeyAt w₃ B1 k:=Ext.get hn3.upd g2
 refine ⟨_,cell_of g3 rfl,br_eq (fun hw=>?_) fun hw=>br_eq (fun hw3=>?_) fun hw3=>?_⟩
 ·have hw':k.what=2:=UInt8.toNat_inj.1 (by show k.what.toNat=2;omega)
  have hname:isName k.bytes=true:=by
   rcases h3 with ⟨h,_⟩| ⟨_,h,_⟩| ⟨h,_⟩
   ·rw [hw'] at h;cases h
   ·exact h
   ·rw [hw'] at h;cases h
  have hlen:=isName_len hname
  have hbs:k.name.size=k.bytes.length:=size_data _
  have hkey:keyB k=leB k.ino.toNat 2 ++ [k.what] ++ [UInt8.ofNat k.bytes.length] ++ k.bytes:=by unfold keyB;rw [if_pos hw'];simp
  have hpl:(leB k.ino.toNat 2 ++ [k.what] ++ [UInt8.ofNat k.bytes.length]).length=4:=by simp [leB_length]
  refine ⟨_,cell_of g3 rfl,fun B3 w₄ hn4=>?_⟩
  rw [hbs,bv_mod,Nat.mod_eq_of_lt (by omega)] at hn4
  refine BList.push hbase hbl.symm hn4 (by omega) (by omega) fun a1 c1 w₅ hu5 hl5=>?_
  have e5:Ext w w₅:=Ext.own e3 hu5 (by omega)
  have hs5:=hu5.size
  generalize hpre:leB k.ino.toNat 2 ++ [k.what] ++ [UInt8.ofNat k.bytes.length]=pre at *
  refine ⟨fun a l c x u=>∃ i:Nat,x=i∧i≤k.bytes.length∧l=(pre ++ k.bytes.take i).length∧BList w₂.heap.size u a c (pre ++ k.bytes.take i)∧Ext w u∧KeyAt u B1 k∧w₂.heap.size≤u.heap.size,fun _ _ _ x _=>((k.bytes.length:Int) - x).toNat,
   ⟨0,rfl,by omega,by simp,by simpa using hl5,e5,hu5.get g3 (by omega),by omega⟩,?_⟩
  rintro a l c x u ⟨i,rfl,hi,rfl,hl,heu,gu,hsu⟩
  refine ⟨_,cell_of gu rfl,?_⟩
  rw [hbs]
  refine br_dec (fun hlt=>?_) fun hge=>?_
  ·have hi':i<k.bytes.length:=by omega
   refine ⟨_,cell_of gu rfl,by omega,k.bytes[i],by rw [Int.toNat_natCast];exact List.getElem?_eq_getElem hi',fun B4 w₇ hn7=>?_⟩
   have hplen:(pre ++ k.bytes.take i).length≤20:=by simp [hpl];omega
   refine BList.push hl rfl hn7 (by omega) hsu fun a' c' w₈ hu8 hl8=>?_
   have ew:IntKind.i64.wrap ((i:Int)+1)=((i+1:Nat):Int):=w64 (by omega) (by omega)
   simp only [ew]
   have htk:pre ++ k.bytes.take i ++ [k.bytes[i]]=pre ++ k.bytes.take (i+1):=by rw [List.append_assoc,List.take_succ_eq_append_getElem hi']
   rw [htk] at hl8 ⊢
   exact ⟨⟨i+1,rfl,hi',rfl,hl8,Ext.own heu hu8 (by omega),hu8.get gu (by omega),by have:=hu8.size;omega⟩,meas hi'⟩
  ·have:i=k.bytes.length:=by omega
   subst this
   rw [List.take_length] at hl ⊢
   rw [hkey] at hR
   exact hR _ _ ⟨a,c,rfl,hl.weak (by omega),heu⟩
 ·have hw':k.what=3:=UInt8.toNat_inj.1 (by show k.what.toNat=3;omega)
  have hch:0≤k.chunk∧k.chunk<8:=by
   rcases h3 with ⟨h,_⟩| ⟨h,_⟩| ⟨_,_,h⟩
   ·rw [hw'] at h;cases h
   ·rw [hw'] at h;cases h
   ·exact h
  obtain ⟨m,hm0⟩: ∃ m:Nat,k.chunk=m:=⟨k.chunk.toNat,by omega⟩
  have hkey:keyB k=leB k.ino.toNat 2 ++ [k.what] ++ [UInt8.ofNat m]:=by unfold keyB;rw [if_neg (by rw [hw'];decide),if_pos hw',hm0];rfl
  refine ⟨_,cell_of g3 rfl,fun B5 w₉ hn9=>?_⟩
  rw [hm0,bv_mod,Nat.mod_eq_of_lt (by omega)] at hn9
  refine BList.push hbase hbl.symm hn9 (by omega) (by omega) fun a1 c1 w₅ hu5 hl5=>?_
  rw [← hkey] at hl5 ⊢
  exact hR _ _ ⟨a1,c1,rfl,hl5.weak (by omega),Ext.own e3 hu5 (by omega)⟩
 ·have hkey:keyB k=leB k.ino.toNat 2 ++ [k.what]:=by
   unfold keyB
   rw [if_neg (by intro h;rw [h] at hw;exact hw rfl),if_neg (by intro h;rw [h] at hw3;exact hw3 rfl),List.append_nil]
  rw [← hkey] at hbase hbl
  refine hR _ _ ⟨some ⟨B2,0,none⟩,3,?_,hbase.weak (by omega),e3⟩
  rw [hbl];rfl
theorem flat_len_le {α:Type} {f:α→List UInt8} {n:Nat}:∀ (l:List α),(∀ x∈l,(f x).length≤n)→(l.flatMap f).length≤l.length * n
 | [],_=>by simp
 | x :: l,h=>by
  rw [List.flatMap_cons,List.length_append,List.length_cons,Nat.succ_mul]
  have:=h x (by simp)
  have:=flat_len_le l fun y hy=>h y (by simp [hy])
  omega
def putPage (size:Int) (kind:UInt8) (body:List UInt8):List UInt8×Nat :=
 if isSize size=false∨kind<1∨kind > 7 then ([],2) else if (body.length:Int) > size - 5 then ([],3) else (pageOf size.toNat kind body,0)
theorem putPage_ref {size k:Int} {kind:UInt8} (hk:k=(kind.toNat:Int)) {a:Option Addr} {body:List UInt8} {c:Nat} {w:World} (h:BytesAt w a body) (hn:body.length≤281474976710656) (hsz:size<9223372036854775808) (hsz0: -9223372036854775808≤size) :
  CallsR prog K.carrackref02_Put #[.int .i64 size,.int .u8 k,.slice a body.length c] w fun v w'=>BytesOut w w' v (putPage size kind body).1 (putPage size kind body).2:=by
 refine (carrackref02_Put_own size k kind hk h hn hsz hsz0).mono ?_
 rintro v w' ⟨he,hv⟩
 unfold putPage
 by_cases h1:isSize size=false∨kind<1∨kind > 7
 ·rw [if_pos h1] at hv
  rw [if_pos h1,hv]
  exact BytesOut.none (e:=2) he
 ·rw [if_neg h1] at hv
  rw [if_neg h1]
  by_cases h2:(body.length:Int) > size - 5
  ·rw [if_pos h2] at hv
   rw [if_pos h2,hv]
   exact BytesOut.none (e:=3) he
  ·rw [if_neg h2] at hv
   rw [if_neg h2]
   obtain ⟨a',c',rfl,hb,hf,hc⟩:=hv
   have hl:(pageOf size.toNat kind body).length=size.toNat:=pageOf_length _ _ _ (by omega)
   exact ⟨a',c',by rw [hl];rfl,⟨by rw [hl];exact hb,fun b hb=>hf _ hb⟩,he⟩
theorem putPage_len {size:Int} {kind:UInt8} {body:List UInt8} (hsz:0≤size):(putPage size kind body).1.length=0∨(putPage size kind body).1.length=size.toNat:=by
 unfold putPage
 split
 ·exact .inl rfl
 ·split
  ·exact .inl rfl
  ·exact .inr (pageOf_length _ _ _ (by omega))
structure Still (c:Chip) (nb np sz sp:Nat):Prop where
 nb:c.nb=nb
 np:c.np=np
 sz:c.sz=sz
 sp:c.sp=sp
 hits:c.hits=[]
 since:c.since=0
 dead:c.dead=false
 deeds:c.deeds=0
theorem Still.blk {c:Chip} {nb np sz sp:Nat} (h:Still c nb np sz sp) (i:Nat) (b:List UInt8):Still (c.setBlk i b) nb np sz sp:=⟨h.1,h.2,h.3,h.4,h.5,h.6,h.7,h.8⟩
theorem Still.bad {c:Chip} {nb np sz sp:Nat} (h:Still c nb np sz sp) (b:List Bool):Still { c with bad:=b } nb np sz sp:=⟨h.1,h.2,h.3,h.4,h.5,h.6,h.7,h.8⟩
theorem zeros_bytes1 (n:Nat):(zerosL [Value.int .u8 0] n).toArray.toList=(List.replicate n (0:UInt8)).map bv:=by
 rw [List.toList_toArray,zeros_bytes,List.map_replicate];rfl
theorem BList.store {S:Nat} {w:World} {a:Option Addr} {cap:Nat} {l:List UInt8} (h:BList S w a cap l) {i:Nat} (hi:i<l.length) {x:UInt8} {K:World→Prop}
  (hk:∀ b w',a=some ⟨b,0,none⟩→S≤b→Upd (fun x=>a=some ⟨x,0,none⟩) w w'→BList S w' a cap (l.set i x)→K w'):idxP a l.length (i:Int) 1 fun q=>storeP w q [bv x] K:=by
 obtain ⟨b,rfl⟩: ∃ b,a=some ⟨b,0,none⟩:=by
  rcases h.1.2.2 with ⟨_,hx,_⟩| ⟨b,cur,hx,_⟩
  ·omega
  ·exact ⟨b,hx⟩
 refine ⟨by omega,by omega,?_⟩
 simp only [nilC_some',add_lit,Nat.zero_add,Nat.mul_one,Int.toNat_natCast]
 refine own_store h.1 (o:=i) (by simp;omega) fun w' hu ho=>hk b w' rfl (h.2 b rfl) (hu.mono fun x _ hx=>by subst hx;rfl) ⟨?_,h.2⟩
 have e:(l.map bv).take i ++ [bv x] ++ (l.map bv).drop (i + [bv x].length)=(l.set i x).map bv:=by
  rw [List.set_eq_take_append_cons_drop,if_pos hi]
  simp
 rw [e] at ho
 rw [List.length_set]
 exact ho
theorem ff_bv:Value.int .u8 255=bv 255:=rfl
def IList (S:Nat) (w:World) (a:Option Addr) (cap:Nat) (l:List Int):Prop:=OwnAt w a l.length cap T.int 1 (l.map (Value.int .i64))∧∀ b,a=some ⟨b,0,none⟩→S≤b
theorem IList.nil (S:Nat) (w:World):IList S w none 0 []:=⟨OwnAt.nil _ _ _,fun _ h=>by cases h⟩
theorem IList.ext {S:Nat} {w w':World} {a:Option Addr} {cap:Nat} {l:List Int} (h:IList S w a cap l) (k:Ext w w'):IList S w' a cap l:=⟨h.1.ext k,h.2⟩
theorem IList.upd {S:Nat} {w w':World} {F:Nat→Prop} {a:Option Addr} {cap:Nat} {l:List Int} (h:IList S w a cap l) (k:Upd F w w') (hF:∀ x,F x→x<S):IList S w' a cap l :=
 ⟨h.1.upd k fun b hb hf=>absurd (h.2 b hb) (by have:=hF b hf;omega),h.2⟩
theorem IList.weak {S S':Nat} {w:World} {a:Option Addr} {cap:Nat} {l:List Int} (h:IList S w a cap l) (hS:S'≤S):IList S' w a cap l:=⟨h.1,fun b hb=>Nat.le_trans hS (h.2 b hb)⟩
theorem IList.push {S:Nat} {w w₁:World} {a:Option Addr} {cap n:Nat} {l:List Int} {B:Nat} {x:Int} (h:IList S w a cap l) (hn:n=l.length) (hnew:New w (.cells #[.int .i64 x] T.int) B w₁) (hb:l.length+1≤17592186044000) (hS:S≤w.heap.size) {K:Option Addr→Nat→Nat→World→Prop}
  (hk:∀ a' c' w',Upd (fun b=>S≤b) w w'→IList S w' a' c' (l ++ [x])→K a' (l ++ [x]).length c' w'):appendP T.int 1 8 [Value.int .i64 0] a n cap (.slice (some ⟨B,0,none⟩) 1 1) w₁ K:=by
 subst hn
 have hrow:RowAt w₁ (some ⟨B,0,none⟩) [.int .i64 x]:=RowAt.of hnew.get fun j v hj=>by simpa using hj
 refine append_own (h.1.ext hnew.upd) rfl (read_row hrow rfl) rfl (fun v hv=>by simp at hv;rw [hv];rfl) rfl (by omega) (by omega) fun a' c' w' hu ho hf=>?_
 have hs:=hnew.size
 have:=hk a' c' w' ((Upd.ext hnew.upd).trans (hu.mono fun b _ hb=>h.2 b hb)) ⟨by simpa using ho,fun b hb=>by
  rcases hf with hf | ⟨b',hb',hl⟩
  ·subst hf;exact h.2 b hb
  ·rw [hb'] at hb;cases hb;omega⟩
 simpa using this
theorem CAt.low {A S:Nat} {w:World} {p:Nat} {c:Chip} (h:CAt A S w p c):A≤p∧p<S:=by
 obtain ⟨L,G,hr,hF,_⟩:=h
 exact hF p (by simp)
theorem cHits {A S:Nat} {w:World} {p:Nat} {c:Chip} (h:CAt A S w p c) (hA:A≤w.heap.size) {Gin:Nat→Prop} {a:Option Addr} {vs:List Value} {hs:List Hit} {cp:Nat} (hr:RowAt w a vs) (hh:HitRow w Gin vs hs)
  (hG:∀ x,Gin x→x<A∨S≤x) (hap:hs≠[]→∀ q,a=some q→q.block<A∨S≤q.block) (hn:hs.length≤100000) (hm:∀ t∈hs,t.mask.length≤140737488355232) :
  CallsR prog K.nand_Chip_Hits #[.pointer (some ⟨p,0,none⟩),.slice a hs.length cp] w fun v w'=>v= .int .i64 ((c.setHits hs).2:Nat)∧Upd (Bet A S) w w'∧CAt A S w' p (c.setHits hs).1:=by
 have hlow:=h.low
 obtain ⟨L,G,hp,hF,hGG⟩:=h
 refine (nand_Hits_spec hp hr hh (fun x hx e=>by have:=hG x hx;omega) (fun hne q hq e=>by have:=hap hne q hq;omega) hn hm).mono ?_
 rintro _ w' ⟨hu,L',G',hs',hc,hG',rfl⟩
 refine ⟨rfl,hu.mono fun x _ hx=>by rw [hx];exact hlow,L',G',hc,fun x hx=>hF x (by rw [hs'.1,hs'.2.2.2.2] at hx;exact hx),fun x hx=>?_⟩
 rcases hG' x hx with hx | hx
 ·have:=hGG x hx;have:=hu.size;omega
 ·omega
theorem cEraseF {F:Nat→Prop} {A:Nat} {w:World} {p:Nat} {c:Chip} (h:CIn F A w p c) (block:Int) :
  CallsR prog K.nand_Chip_Erase #[.pointer (some ⟨p,0,none⟩),.int .i64 block] w fun v w'=>v= .int .i64 ((c.erase block).2:Nat)∧Upd F w w'∧CIn F A w' p (c.erase block).1:=by
 obtain ⟨L,G,hr,hF,hG⟩:=h
 refine (nand_Erase_spec hr block).mono ?_
 rintro _ w' ⟨hu,L',hs',hc,rfl⟩
 exact ⟨rfl,hu.mono fun x _ hx=>hF x hx,L',G,hc,fun x hx=>hF x (by rw [hs'.1,hs'.2.2.2.2] at hx;exact hx),fun x hx=>⟨(hG x hx).1,Nat.lt_of_lt_of_le (hG x hx).2 hu.size⟩⟩
section
set_option maxRecDepth 100000
def w12:Chip:=newChip 16 8 128 0
def h12:List UInt8×Nat:=putHead 128 ⟨1,1,1⟩
def x12:Chip×Nat:=w12.program 3 0 h12.1
end
theorem filter_map_succ {α β:Type} (p:α→Bool) (f:α→β) {l:List α} {i:Nat} (hi:i<l.length):((l.take (i+1)).filter p).map f=((l.take i).filter p).map f ++ if p l[i] then [f l[i]] else []:=by
 rw [List.take_succ_eq_append_getElem hi,List.filter_append,List.map_append]
 congr 1
 rw [List.filter_cons]
 split<;>rfl
theorem filter_map_len {α β:Type} (p:α→Bool) (f:α→β) (l:List α):((l.filter p).map f).length≤l.length:=by
 rw [List.length_map]
 exact List.length_filter_le _ _
theorem ints_same {w:World} {a b:Option Addr} {ca cb:Nat} {l:List Int} (ha:RowAt w a (l.map (Value.int .i64))) (hb:RowAt w b (l.map (Value.int .i64))) (hn:l.length<9000000000000000000) :
  CallsR prog K.carrackref00_Ints #[.slice a l.length ca,.slice b l.length cb] w fun v w'=>v= .bool true∧Ext w w':=by
 apply carrackref00_Ints.sh
 unfold carrackref00_Ints.body
 refine br_ne (fun h=>absurd rfl h) fun _=>⟨fun x u=>∃ i:Nat,x=i∧i≤l.length∧Ext w u,fun x _=>((l.length:Int) - x).toNat,⟨0,rfl,by omega,Upd.refl _ _⟩,?_⟩
 rintro x u ⟨i,rfl,hi,heu⟩
 refine br_dec (fun hlt=>?_) fun _=>⟨rfl,heu⟩
 have hi':i<l.length:=by omega
 intro w₂ hd2
 have e2:=heu.trans hd2.upd
 have ix:∀ {a:Option Addr} {K:Int→Prop},RowAt w a (l.map (Value.int .i64))→K l[i]→idxP a l.length (i:Int) 1 fun q=>∃ x:Int,(∀ u1,u1=w₂→u1.cell? q=some (.int .i64 x))∧K x:=fun {a K} hr hK=>by
  obtain ⟨b',o',e,hc⟩:=(hr.ext e2).cell (i:=i) (v:=.int .i64 l[i]) (by simp [hi'])
  subst e
  refine ⟨by omega,by omega,?_⟩
  simp only [nilC_some',add_lit,Nat.mul_one,Int.toNat_natCast]
  exact ⟨_,fun u1 hu1=>hu1 ▸ hc,hK⟩
 refine ⟨(·=w₂),rfl,ix ha (ix hb (br_ne (fun h=>absurd rfl h) fun _=>?_))⟩
 rw [w64 (by omega) (by omega)]
 exact ⟨⟨i+1,rfl,hi',e2⟩,meas hi'⟩
theorem Still.ask {c:Chip} {nb np sz sp:Nat} (h:Still c nb np sz sp) (i j:Int):c.ask i j=if i<0∨i≥nb∨j<0∨j≥np then 2 else 0:=by
 unfold Chip.ask
 rw [h.dead,h.nb,h.np];rfl
theorem key_beq (a b:Key):((a.ino == b.ino) && (((a.what.toNat:Int) == (b.what.toNat:Int)) && ((a.name.toList == b.name.toList) && ((a.chunk == b.chunk) && true))))=decide (a=b):=by
 rw [u8b,str_beq,Bool.eq_iff_iff]
 simp only [Bool.and_eq_true,beq_iff_eq,and_true,decide_eq_true_eq]
 constructor
 ·rintro ⟨h1,h2,h3,h4⟩
  obtain ⟨a1,a2,⟨⟨a3⟩⟩,a4⟩:=a
  obtain ⟨b1,b2,⟨⟨b3⟩⟩,b4⟩:=b
  simp only at h1 h2 h3 h4
  subst h1;subst h2;subst h3;subst h4;rfl
 ·rintro rfl;exact ⟨rfl,rfl,rfl,rfl⟩
theorem facts_same {w:World} {G H:Nat→Prop} {a b:Option Addr} {ca cb:Nat} {l:List Fact} (ha:SliceAt factR w G a l) (hb:SliceAt factR w H b l) (hv:∀ x∈l,x.val.length≤1000000000000) (hn:l.length<9000000000000000000) :
  CallsR prog K.carrackref00_Facts #[.slice a l.length ca,.slice b l.length cb] w fun v w'=>v= .bool true∧Ext w w':=by
 apply carrackref00_Facts.sh
 unfold carrackref00_Facts.body
 refine br_ne (fun h=>absurd rfl h) fun _=>⟨fun x u=>∃ i:Nat,x=i∧i≤l.length∧Ext w u,fun x _=>((l.length:Int) - x).toNat,⟨0,rfl,by omega,Upd.refl _ _⟩,?_⟩
 rintro x u ⟨i,rfl,hi,heu⟩
 refine br_dec (fun hlt=>?_) fun _=>⟨rfl,heu⟩
 have hi':i<l.length:=by omega
 intro w₂ hd2
 have e2:=heu.trans hd2.upd
 refine ⟨fun u=>Ext w₂ u,Upd.refl _ _,SliceAt.idx (r:=factR) (ha.ext e2) rfl hi' fun b1 o1 vs1 _ hrow1 hR1 _=>?_⟩
 obtain ⟨a1,c1,rfl,hc1,hb1,_⟩:=factR_elim hR1
 refine ⟨_,_,_,_,fun u1 hu1=>(RowAt.take (hrow1.ext hu1) 4).cells,SliceAt.idx (r:=factR) (hb.ext e2) rfl hi' fun b2 o2 vs2 _ hrow2 hR2 _=>?_⟩
 obtain ⟨a2,c2,rfl,hc2,hb2,_⟩:=factR_elim hR2
 refine ⟨_,_,_,_,fun u1 hu1=>(RowAt.take (hrow2.ext hu1) 4).cells,br_intro (fun h=>by simp at h) fun _=>?_⟩
 refine SliceAt.idx (r:=factR) (ha.ext e2) rfl hi' fun b5 o5 vs5 _ hrow5 hR5 _=>?_
 obtain ⟨a5,c5,rfl,_,hb5,_⟩:=factR_elim hR5
 simp only [add_lit]
 refine ⟨_,_,_,fun u1 hu1=>row_cell (hrow5.ext hu1) (j:=4) rfl,SliceAt.idx (r:=factR) (hb.ext e2) rfl hi' fun b6 o6 vs6 _ hrow6 hR6 _=>?_⟩
 obtain ⟨a6,c6,rfl,_,hb6,_⟩:=factR_elim hR6
 simp only [add_lit]
 refine ⟨_,_,_,fun u1 hu1=>row_cell (hrow6.ext hu1) (j:=4) rfl,(carrackref00_Same_spec hb5 hb6 (hv _ (List.getElem_mem _))).mono ?_⟩
 rintro _ w₃ ⟨rfl,he3⟩
 refine ⟨_,rfl,he3,br_intro (fun h=>by simp at h) fun _=>?_⟩
 rw [w64 (by omega) (by omega)]
 exact ⟨⟨i+1,rfl,hi',e2.trans he3⟩,meas hi'⟩
def NamesF (l:List Fact):Prop:=∀ f∈l,f.key.name.size<9223372036854775807
theorem carrackref06_Ordered_spec {w:World} {G:Nat→Prop} {a:Option Addr} {c:Nat} {l:List Fact} (h:SliceAt factR w G a l) (hn:l.length<9000000000000000000) (hnl:NamesF l) :
  CallsR prog K.carrackref06_Ordered #[.slice a l.length c] w fun v w'=>v= .bool (ordered l)∧Ext w w':=by
 apply carrackref06_Ordered.sh
 unfold carrackref06_Ordered.body
 refine ⟨fun x u=>∃ i:Nat,x=((i+1:Nat):Int)∧(i+1≤l.length∨i=0)∧Ext w u∧ordered (l.take (i+1))=true,fun x _=>((l.length:Int) - x).toNat,⟨0,rfl,.inr rfl,Upd.refl _ _,ordered_small (by rw [List.length_take];omega)⟩,?_⟩
 rintro x u ⟨i,rfl,hi,heu,ho⟩
 refine br_dec (fun hlt=>?_) fun hge=>⟨?_,heu⟩
 ·have hi':i+1<l.length:=by omega
  have hi0:i<l.length:=by omega
  intro w₂ hd2
  have e2:=heu.trans hd2.upd
  have q1:IntKind.i64.wrap (((i+1:Nat):Int) - 1)=(i:Int):=by rw [w64 (by omega) (by omega)];omega
  have q2:IntKind.i64.wrap (((i+1:Nat):Int)+1)=((i+1+1:Nat):Int):=by rw [w64 (by omega) (by omega)];omega
  simp only [q1,q2]
  refine ⟨fun u=>Ext w₂ u,Upd.refl _ _,SliceAt.idx (r:=factR) (h.ext e2) rfl hi0 fun b o vs _ hrow hR _=>?_⟩
  obtain ⟨_,_,rfl,_,_,_⟩:=factR_elim hR
  refine ⟨_,_,_,_,fun u1 hu1=>(RowAt.take (hrow.ext hu1) 4).cells,SliceAt.idx (r:=factR) (h.ext e2) rfl hi' fun b o vs _ hrow hR _=>?_⟩
  obtain ⟨_,_,rfl,_,_,_⟩:=factR_elim hR
  refine ⟨_,_,_,_,fun u1 hu1=>(RowAt.take (hrow.ext hu1) 4).cells,(carrackref06_Before_spec l[i].key l[i+1].key (hnl _ (List.getElem_mem _)) (hnl _ (List.getElem_mem _)) w₂).mono ?_⟩
  rintro _ w₃ ⟨rfl,he3⟩
  have hstep:=ordered_take l hi'
  rw [ho,Bool.true_and] at hstep
  refine ⟨_,rfl,br_intro (fun hb=>⟨?_,e2.trans he3⟩) fun hb=>⟨⟨i+1,rfl,.inl hi',e2.trans he3,by rw [hstep];simpa using hb⟩,by omega⟩⟩
  rw [ordered_false (n:=i+2) (by rw [hstep];simpa using hb)]
 ·rw [List.take_of_length_le (by omega)] at ho
  rw [ho]
theorem slice_any {size b len cap lo hi mx:Nat} {lo' hi' mx':Option Int} (e1:lo'.getD 0=lo) (e2:hi'.getD len=hi) (e3:mx'.getD cap=mx) (h1:lo≤hi) (h2:hi≤mx) (h3:mx≤cap) (h4:mx'.isSome=true→hi'.isSome=true) {K:Option Addr→Nat→Nat→Prop}
  (hk:∀ a,(a=some ⟨b,lo * size,none⟩∨(mx=lo∧a=some ⟨b,0,none⟩))→K a (hi - lo) (mx - lo)):sliceP size (some ⟨b,0,none⟩) len cap lo' hi' mx' K:=by
 unfold sliceP
 rw [e1,e2,e3]
 refine ⟨by omega,by omega,by omega,by omega,by omega,by omega,h4,?_⟩
 simp only [Int.toNat_natCast]
 split
 ·rename_i h;exact hk _ (.inr ⟨h,rfl⟩)
 ·refine hk _ (.inl ?_)
  simp
theorem Upd.over {F F':Nat→Prop} {a b c:World} (h:Upd F a b) (k:Upd F' b c) (hF:∀ x,F' x→F x∨a.heap.size≤x):Upd F a c :=
 ⟨Nat.le_trans h.size k.size,fun i hi hf=>(k.blk i (Nat.lt_of_lt_of_le hi h.size) (fun hx=>by rcases hF i hx with h | h;exact hf h;omega)).trans (h.blk i hi hf),k.os.trans h.os,k.tape.trans h.tape,k.output.trans h.output,fun b o hb ho=>k.book b o (h.book b o hb ho) ho⟩
section
def U8 (w:World) (a:Option Addr) (c:Nat):Prop:=c=0∨∃ b cur,c<9223372036854775808∧a=some ⟨b,0,none⟩∧w.heap[b]?=some (.cells cur T.uint8 (0,0))∧c≤cur.size∧∀ v∈cur.toList,∃ x:Int,v= .int .u8 x
def OwnB (w:World) (a:Option Addr) (c:Nat) (l:List UInt8):Prop:=OwnAt w a l.length c T.uint8 1 (l.map bv)∧U8 w a c
section
variable {w w':World} {a:Option Addr} {c:Nat} {l:List UInt8}
theorem OwnB.blk (h:OwnB w a c l) {b:Nat} (ha:a=some ⟨b,0,none⟩):b<w.heap.size:=h.1.blk ha
end
section
variable {α:Type} {r s:ERep α} {w:World} {G:Nat→Prop}
end
end
end Go.Den
namespace Go.Den
structure Act where
 act:Int
 kind:UInt8
 era:Nat
 block:Int
 page:Int
 fill:UInt8
namespace Act
def vals (a:Act):List Value:=[.int .i64 a.act,bv a.kind,.int .u32 a.era,.int .i64 a.block,.int .i64 a.page,bv a.fill]
end Act
end Go.Den
namespace Go.Den
def ofKind (kind:UInt8) (era:Nat) (t:Taken):Bool:=decide (t.head.kind=kind) && decide (t.head.era=era)
theorem filter_take_succ {α:Type} (p:α→Bool) {l:List α} {i:Nat} (hi:i<l.length):(l.take (i+1)).filter p=if p l[i] then (l.take i).filter p ++ [l[i]] else (l.take i).filter p:=by
 rw [List.take_succ_eq_append_getElem hi,List.filter_append]
 cases h:p l[i]<;>simp [h]
theorem filter_take_len {α:Type} (p:α→Bool) (l:List α) (i:Nat):((l.take i).filter p).length≤i:=by
 have:=List.length_filter_le p (l.take i)
 have:=List.length_take_le i l
 omega
theorem carrackref04_Of_spec {F:Nat→Prop} {A:Nat} {w:World} {p:Nat} {c:Chip} (h:CIn F A w p c) (kind:UInt8) (era:Nat) :
  CallsR prog K.carrackref04_Of #[.pointer (some ⟨p,0,none⟩),bv kind,.int .u32 era] w fun v w'=>Ext w w'∧TakenAt w w' v ((refTaken c).filter (ofKind kind era)):=by
 apply carrackref04_Of.sh
 unfold carrackref04_Of.body
 refine (rTaken h).mono ?_
 rintro _ w1 ⟨he1,a1,c1,rfl,ho1,hf1⟩
 have hs1:=he1.size
 have hll:(refTaken c).length≤64:=by
  have:=refGo_length c c.nb
  have:=h.ok.nb2
  unfold refTaken
  omega
 generalize refTaken c=l at *
 refine ⟨_,_,_,rfl,fun a n cp x u=>∃ i:Nat,x=i∧i≤l.length∧Ext w1 u∧n=((l.take i).filter (ofKind kind era)).length∧OwnAt u a ((l.take i).filter (ofKind kind era)).length cp T.api_Taken 5 (((l.take i).filter (ofKind kind era)).flatMap Taken.vals)∧Fresh w1 a,
  fun _ _ _ x _=>(l.length - x).toNat,⟨0,rfl,by omega,Upd.refl _ _,by simp,by simpa using OwnAt.nil _ _ _,Fresh.none _⟩,?_⟩
 rintro a n cp x u ⟨i,rfl,hil,hu,rfl,ho,hfa⟩
 refine br_dec (fun hlt=>?_) fun hge=>?_
 ·have hi':i<l.length:=by omega
  have e1:IntKind.i64.wrap ((i:Int)+1)=((i+1:Nat):Int):=w64 (by omega) (by omega)
  rw [e1]
  have hsucc:=filter_take_succ (ofKind kind era) hi'
  have hrow:=RowAt.ext ho1.row hu
  have same:ofKind kind era l[i]=false→(∃ k:Nat,((i+1:Nat):Int)=k∧k≤l.length∧Ext w1 u∧((l.take i).filter (ofKind kind era)).length=((l.take k).filter (ofKind kind era)).length∧OwnAt u a ((l.take k).filter (ofKind kind era)).length cp T.api_Taken 5 (((l.take k).filter (ofKind kind era)).flatMap Taken.vals)∧Fresh w1 a)∧((l.length:Int) - ((i+1:Nat):Int)).toNat<((l.length:Int) - (i:Int)).toNat:=by
   intro hn
   rw [hn] at hsucc
   simp only [Bool.false_eq_true,if_false] at hsucc
   exact ⟨⟨i+1,rfl,hi',hu,by rw [hsucc],by rw [hsucc];exact ho,hfa⟩,meas hi'⟩
  refine idx_flat (f:=Taken.vals) Taken.vals_length (by omega) hrow rfl hi' fun b o hab hr=>?_
  obtain ⟨b',o',hab',hc⟩:=RowAt.cell hr (i:=1) (v:=bv l[i].head.kind) rfl
  cases hab'
  simp only [add_lit]
  refine ⟨_,hc,br_eq (fun hk=>?_) fun hk=>same (by unfold ofKind;rw [decide_eq_false (fun e=>hk (by rw [e]))];rfl)⟩
  refine idx_flat (f:=Taken.vals) Taken.vals_length (by omega) hrow rfl hi' fun b o hab hr=>?_
  obtain ⟨b',o',hab',hc⟩:=RowAt.cell hr (i:=2) (v:=.int .u32 l[i].head.era) rfl
  cases hab'
  simp only [add_lit]
  refine ⟨_,hc,br_eq (fun hk2=>?_) fun hk2=>same (by unfold ofKind;rw [decide_eq_false (p:=l[i].head.era=era) (fun e=>hk2 (by rw [e]))];simp)⟩
  have hyes:ofKind kind era l[i]=true:=by
   unfold ofKind
   rw [decide_eq_true (UInt8.toNat_inj.1 (by omega)),decide_eq_true (by omega)]
   rfl
  rw [hyes] at hsucc
  simp only [if_true] at hsucc
  refine idx_flat (f:=Taken.vals) Taken.vals_length (by omega) hrow rfl hi' fun b o hab hr=>?_
  refine ⟨l[i].block,l[i].head.kind.toNat,l[i].head.era,l[i].head.seq,l[i].bad,RowAt.cells hr,fun B1 w3 hn3=>?_⟩
  have hlen:=filter_take_len (ofKind kind era) l i
  have ho3:=OwnAt.ext ho hn3.upd
  generalize (l.take i).filter (ofKind kind era)=m at *
  refine append_flat (f:=Taken.vals) Taken.vals_length ho3 (x:=l[i]) rfl hn3 rfl (oneCell_taken _) rfl (by omega) (by omega) fun a' c' w4 hu4 ho4 hf4=>?_
  have hB:=hn3.num
  refine ⟨⟨i+1,rfl,hi',Upd.beyond (hu.trans hn3.upd) hu4 (fun x hx=>by have:=hfa _ hx;exact this),by rw [hsucc],by rw [hsucc];exact ho4,?_⟩,meas hi'⟩
  rcases hf4 with rfl | ⟨b,rfl,hb⟩
  ·exact hfa
  ·exact Fresh.some (by have:=hu.size;have:=hn3.size;omega)
 ·have hil':i=l.length:=by omega
  subst hil'
  rw [List.take_length] at ho ⊢
  exact ⟨he1.trans hu,a,cp,rfl,ho,hfa.mono hs1⟩
theorem finKey_name {k:Key} {s:St} (h:k.name.size<256):(finKey k s).1.name.size<256:=by
 unfold finKey
 split
 ·exact h
 ·exact (by decide:Key.zero.name.size<256)
theorem keyS_name (s:St):(keyS s).1.name.size<256:=by
 unfold keyS
 simp only []
 split
 ·exact (by decide:Key.zero.name.size<256)
 ·split
  ·split
   ·exact (by decide:Key.zero.name.size<256)
   ·refine finKey_name ?_
    have:=rowS_len (takeS 1 (takeS 2 s).2.2).2.2
    rw [size_data]
    simpa using this
  ·split
   ·split
    ·exact (by decide:Key.zero.name.size<256)
    ·exact finKey_name (by show ByteArray.empty.size<256;decide)
   ·exact finKey_name (by show ByteArray.empty.size<256;decide)
structure GoodF (n:Nat) (l:List Fact):Prop where
 len:l.length≤n
 names:NamesF l
 vals:∀ f∈l,f.val.length<256
theorem GoodF.nil:GoodF 0 []:=⟨Nat.le_refl _,fun _ h=>(by cases h),fun _ h=>(by cases h)⟩
theorem GoodF.mono {n m:Nat} {l:List Fact} (h:GoodF n l) (hm:n≤m):GoodF m l:=⟨Nat.le_trans h.len hm,h.names,h.vals⟩
def SliceOut {α:Type} (r:ERep α) (w w':World) (v:Value) (l:List α) (x:Nat):Prop:=∃ a c G,v= .tuple #[.slice a l.length c,.int .i64 (x:Nat)]∧SliceAt r w' G a l∧(∀ b,G b→w.heap.size≤b∧b<w'.heap.size)∧l.length≤c∧Ext w w'
theorem SliceOut.none {α:Type} {r:ERep α} {w w':World} {x:Nat} {l:List α} (hl:l=[]) (h:Ext w w'):SliceOut r w w' (.tuple #[.slice .none 0 0,.int .i64 (x:Nat)]) l x:=by
 subst hl;exact ⟨.none,0,NoB,rfl,SliceAt.nil _ _ _,fun _ h=>h.elim,Nat.le_refl _,h⟩
def childR:ERep Child:=flatR (fun c=>[.int .i64 c.key.ino,bv c.key.what,.string c.key.name,.int .i64 c.key.chunk,.int .i64 c.block,.int .i64 c.page]) 6 (by decide) (fun _=>rfl) (fun c v hv=>by
 simp at hv
 rcases hv with h | h | h | h | h | h<;>(rw [h];rfl))
abbrev childVs (c:Child):List Value:=[.int .i64 c.key.ino,bv c.key.what,.string c.key.name,.int .i64 c.key.chunk,.int .i64 c.block,.int .i64 c.page]
theorem listGo_step {α:Type} {key:α→Key} {one:Key→St→α×Nat×St} {n i:Nat} {s:St} {acc:List α} (hi:i<n):listGo key one (n - i) s acc=if (keyS s).2.1≠0 then ([],(keyS s).2.1) else if (one (keyS s).1 (keyS s).2.2).2.1≠0 then ([],(one (keyS s).1 (keyS s).2.2).2.1) else if aheadL key acc (keyS s).1=false then ([],5) else listGo key one (n - (i+1)) (one (keyS s).1 (keyS s).2.2).2.2 (acc ++ [(one (keyS s).1 (keyS s).2.2).1]):=by
 obtain ⟨m,hm⟩: ∃ m,n - i=m+1:=⟨n - i - 1,by omega⟩
 have hm':n - (i+1)=m:=by omega
 rw [hm,hm'];rfl
theorem listS_take {α:Type} {key:α→Key} {one:Key→St→α×Nat×St} {b:List UInt8} (h0:(takeS 1 (some b)).2.1=0) (h1:(takeS 1 (some b)).1≠0):listS key one b=listGo key one ((takeS 1 (some b)).1 - 0) (takeS 1 (some b)).2.2 []:=by
 unfold listS
 rw [if_neg (by omega),if_neg (by omega)];rfl
theorem aheadL_nil {α:Type} {key:α→Key} {k:Key}:aheadL key [] k=true:=rfl
theorem aheadL_last {α:Type} {key:α→Key} {acc:List α} {k:Key} {i:Nat} (hi:i+1=acc.length):aheadL key acc k=before (key (acc[i]'(by omega))) k:=by
 unfold aheadL
 have:acc.getLast?=some (acc[i]'(by omega)):=by
  rw [List.getLast?_eq_getElem?,List.getElem?_eq_getElem (by omega)]
  congr 2;omega
 rw [this]
theorem leaf_GetLeaf_1_spec (k:Key) (a:Option Addr) (n c:Nat) (w:World):CallsR prog K.leaf_GetLeaf_1 #[.agg (factVs k a n c).toArray] w fun v w'=>v=keyV k∧Ext w w':=by
 apply leaf_GetLeaf_1.sh
 unfold leaf_GetLeaf_1.body
 intro B1 w₁ hn1 B2 w₂ hn2
 have hs1:=hn1.size
 have hb2:=hn2.num
 have g1:=Ext.get hn2.upd hn1.get
 refine ⟨k.ino,k.what.toNat,k.name,k.chunk,(RowAt.of g1 (o:=0) (vs:=Key.vals k) fun j v hj=>?_).cells,put_all (vs:=Key.vals k) hn2.get rfl fun w₃ hu3 hs3 g3=>⟨_,_,_,_,cells_all g3,rfl,(hn1.upd.trans hn2.upd).beyond hu3 fun x hx=>by omega⟩⟩
 match j,hj with
 | 0,hj=>simpa [Key.vals] using hj
 | 1,hj=>simpa [Key.vals] using hj
 | 2,hj=>simpa [Key.vals] using hj
 | 3,hj=>simpa [Key.vals] using hj
 | j+4,hj=>simp [Key.vals] at hj
theorem leaf_GetInner_1_spec (x:Child) (w:World):CallsR prog K.leaf_GetInner_1 #[.agg (childVs x).toArray] w fun v w'=>v=keyV x.key∧Ext w w':=by
 apply leaf_GetInner_1.sh
 unfold leaf_GetInner_1.body
 intro B1 w₁ hn1 B2 w₂ hn2
 have hs1:=hn1.size
 have hb2:=hn2.num
 have g1:=Ext.get hn2.upd hn1.get
 refine ⟨x.key.ino,x.key.what.toNat,x.key.name,x.key.chunk,(RowAt.of g1 (o:=0) (vs:=Key.vals x.key) fun j v hj=>?_).cells,put_all (vs:=Key.vals x.key) hn2.get rfl fun w₃ hu3 hs3 g3=>⟨_,_,_,_,cells_all g3,rfl,(hn1.upd.trans hn2.upd).beyond hu3 fun x hx=>by omega⟩⟩
 match j,hj with
 | 0,hj=>simpa [Key.vals] using hj
 | 1,hj=>simpa [Key.vals] using hj
 | 2,hj=>simpa [Key.vals] using hj
 | 3,hj=>simpa [Key.vals] using hj
 | j+4,hj=>simp [Key.vals] at hj
theorem fact_out {u:World} {B:Nat} {cs:Array Value} {k:Key} {a:Option Addr} {n c:Nat} {e:Int} {R:Value→World→Prop} (g:u.heap[B]?=some (.cells cs T.api_Fact (0,0))) (hcs:cs.size=5)
  (hR:∀ w',Upd (·=B) u w'→R (.tuple #[.agg (factVs k a n c).toArray,.int .i64 e]) w') :
  storeP u ⟨B,0,none⟩ (factVs k a n c) fun w'=>∃ x y:Int,∃ m:ByteArray,∃ z:Int,∃ (a':Option Addr) (n' c':Nat),cellsAt w' ⟨B,0,none⟩ [.int .i64 x,.int .u8 y,.string m,.int .i64 z,.slice a' n' c'] 0∧R (.tuple #[.agg #[.int .i64 x,.int .u8 y,.string m,.int .i64 z,.slice a' n' c'],.int .i64 e]) w' :=
 put_all g (by rw [hcs];rfl) fun w' hu _ hg=>⟨_,_,_,_,_,_,_,cells_all hg,hR w' hu⟩
theorem child_out {u:World} {B:Nat} {cs:Array Value} {x:Child} {e:Int} {R:Value→World→Prop} (g:u.heap[B]?=some (.cells cs T.api_Child (0,0))) (hcs:cs.size=6)
  (hR:∀ w',Upd (·=B) u w'→R (.tuple #[.agg (childVs x).toArray,.int .i64 e]) w') :
  storeP u ⟨B,0,none⟩ (childVs x) fun w'=>∃ x y:Int,∃ m:ByteArray,∃ z p q:Int,cellsAt w' ⟨B,0,none⟩ [.int .i64 x,.int .u8 y,.string m,.int .i64 z,.int .i64 p,.int .i64 q] 0∧R (.tuple #[.agg #[.int .i64 x,.int .u8 y,.string m,.int .i64 z,.int .i64 p,.int .i64 q],.int .i64 e]) w' :=
 put_all g (by rw [hcs];rfl) fun w' hu _ hg=>⟨_,_,_,_,_,_,cells_all hg,hR w' hu⟩
theorem rd_done {G:Nat→Prop} {w u u':World} {r B:Nat} {s':St} (hG:∀ x,G x→x<w.heap.size) (hrs:r<w.heap.size) (hB:w.heap.size≤B) (h1:Upd (·=r) w u) (h2:RdIn G u r s') (h3:Upd (·=B) u u'):Upd (·=r) w u'∧RdIn G u' r s' :=
 ⟨Upd.mono (F:=fun x=>x=r∨x=B) ((h1.mono fun _ _ h=>.inl h).trans (h3.mono fun _ _ h=>.inr h)) fun x hx hor=>by
  rcases hor with h | h
  ·exact h
  ·omega,
  h2.upd h3 (by omega) fun x hx e=>by have:=hG x hx;omega⟩
theorem leaf_taker_fact_spec {G:Nat→Prop} {w:World} {r:Nat} {s:St} (k:Key) (hG:¬ G r) (hGs:∀ x,G x→x<w.heap.size) (hrs:r<w.heap.size) (h:RdIn G w r s) :
  CallsR prog K.leaf_taker_fact #[.agg #[],.pointer (some ⟨r,0,none⟩),keyV k] w fun v w'=>Upd (·=r) w w'∧RdIn G w' r (leafS k s).2.2∧∃ k2 a2 n2 c2,v= .tuple #[.agg (factVs k2 a2 n2 c2).toArray,.int .i64 ((leafS k s).2.1:Nat)]∧
   ((leafS k s).2.1=0→k2=(leafS k s).1.key∧(leafS k s).1.key=k∧n2=(leafS k s).1.val.length∧n2≤c2∧BytesAt w' a2 (leafS k s).1.val∧∀ p,a2=some p→w.heap.size≤p.block∧p.block<w'.heap.size):=by
 apply leaf_taker_fact.sh
 suffices H:∀ R:Value→World→Prop,(∀ v w',(Upd (·=r) w w'∧RdIn G w' r (leafS k s).2.2∧∃ k2 a2 n2 c2,v= .tuple #[.agg (factVs k2 a2 n2 c2).toArray,.int .i64 ((leafS k s).2.1:Nat)]∧
   ((leafS k s).2.1=0→k2=(leafS k s).1.key∧(leafS k s).1.key=k∧n2=(leafS k s).1.val.length∧n2≤c2∧BytesAt w' a2 (leafS k s).1.val∧∀ p,a2=some p→w.heap.size≤p.block∧p.block<w'.heap.size))→R v w')→leaf_taker_fact.body (some ⟨r,0,none⟩) k.ino k.what.toNat k.name k.chunk w R from H _ fun _ _ h=>h
 intro R hR
 unfold leaf_taker_fact.body
 intro B1 w₁ hn1 B2 w₂ hn2 B3 w₃ hn3
 have hb1:B1=w.heap.size:=hn1.num
 have hb2:B2=w₁.heap.size:=hn2.num
 have hb3:B3=w₂.heap.size:=hn3.num
 have hs1:=hn1.size
 have hs2:=hn2.size
 have hs3:=hn3.size
 have e3:Ext w w₃:=(hn1.upd.trans hn2.upd).trans hn3.upd
 have g2:w₃.heap[B2]?=some (.cells (Key.vals k).toArray T.api_Key (0,0)):=Ext.get hn3.upd hn2.get
 refine (rdRow hG (h.ext e3)).mono ?_
 rintro _ w₄ ⟨hu4,⟨a4,c4,rfl,hby,hc4,hf4⟩,hr4⟩
 have hs4:=hu4.size
 have g42:=hu4.get g2 (by omega)
 have g43:=hu4.get hn3.get (by omega)
 have u4:Upd (·=r) w w₄:=(Upd.ext e3).trans hu4
 have hlt:=rowS_len s
 have hone:leafS k s=if (rowS s).2.1≠0 then (Fact.zero,4,none) else if (rowS s).1.length=0 then (Fact.zero,5,(rowS s).2.2) else (⟨k,(rowS s).1⟩,0,(rowS s).2.2):=rfl
 refine ⟨_,_,_,_,rfl,br_ne (fun hne=>?_) fun he=>br_eq (fun hl0=>?_) fun hl0=>fun w₇ hd7=>?_⟩
 ·have hrow:=rowS_err (s:=s) (by omega)
  rw [if_pos (by omega)] at hone
  rw [hone] at hR
  rw [hrow] at hr4 ⊢
  refine fact_out (k:=Key.zero) (a:=none) (n:=0) (c:=0) g43 rfl fun w' hu'=>?_
  obtain ⟨q1,q2⟩:=rd_done hGs hrs (by omega) u4 hr4 hu'
  exact hR _ _ ⟨q1,q2,_,_,_,_,rfl,fun h=>absurd h (by simp)⟩
 ·rw [if_neg (by omega),if_pos (by omega)] at hone
  rw [hone] at hR
  refine fact_out (k:=Key.zero) (a:=none) (n:=0) (c:=0) g43 rfl fun w' hu'=>?_
  obtain ⟨q1,q2⟩:=rd_done hGs hrs (by omega) u4 hr4 hu'
  exact hR _ _ ⟨q1,q2,_,_,_,_,rfl,fun h=>absurd h (by simp)⟩
 ·rw [if_neg (by omega),if_neg (by omega)] at hone
  rw [hone] at hR
  have e7:=hd7.upd
  have hs7:=e7.size
  have g72:=Ext.get e7 g42
  have g73:=Ext.get e7 g43
  refine ⟨fun u=>Ext w₇ u,Upd.refl _ _,_,_,_,_,fun u hu=>cells_all (Ext.get hu g72),(slices_Clone_byte_spec (c:=c4) (hby.ext e7) (by omega)).mono ?_⟩
  rintro _ w₈ ⟨he8,a8,c8,rfl,ho8,hf8⟩
  have hs8:=he8.size
  have u8:Upd (·=r) w w₈:=(u4.then e7).then he8
  refine ⟨_,_,_,rfl,he8,fact_out (Ext.get he8 g73) rfl fun w' hu'=>?_⟩
  obtain ⟨q1,q2⟩:=rd_done hGs hrs (by omega) u8 ((hr4.ext e7).ext he8) hu'
  have hs':=hu'.size
  have ho':=ho8.row
  refine hR _ _ ⟨q1,q2,_,_,_,_,rfl,fun _=>⟨rfl,rfl,rfl,ho8.2.1,?_,fun p hp=>?_⟩⟩
  ·exact RowAt.upd ho' hu' fun p hp e=>by have:=hf8 p hp;omega
  ·have:=hf8 p hp
   obtain ⟨b,o,hb,hblt⟩:=RowAt.blk ho' (fun h=>by
    rw [List.map_eq_nil_iff] at h
    rw [h] at hl0
    exact hl0 rfl)
   rw [hb] at hp
   cases hp
   simp only [] at this hblt ⊢
   omega
theorem leaf_taker_child_spec {G:Nat→Prop} {w:World} {r:Nat} {s:St} (k:Key) (hG:¬ G r) (hGs:∀ x,G x→x<w.heap.size) (hrs:r<w.heap.size) (h:RdIn G w r s) :
  CallsR prog K.leaf_taker_child #[.agg #[],.pointer (some ⟨r,0,none⟩),keyV k] w fun v w'=>Upd (·=r) w w'∧RdIn G w' r (innerS k s).2.2∧v= .tuple #[.agg (childVs (innerS k s).1).toArray,.int .i64 ((innerS k s).2.1:Nat)]∧((innerS k s).2.1=0→(innerS k s).1.key=k):=by
 apply leaf_taker_child.sh
 suffices H:∀ R:Value→World→Prop,(∀ v w',(Upd (·=r) w w'∧RdIn G w' r (innerS k s).2.2∧v= .tuple #[.agg (childVs (innerS k s).1).toArray,.int .i64 ((innerS k s).2.1:Nat)]∧((innerS k s).2.1=0→(innerS k s).1.key=k))→R v w')→leaf_taker_child.body (some ⟨r,0,none⟩) k.ino k.what.toNat k.name k.chunk w R from H _ fun _ _ h=>h
 intro R hR
 unfold leaf_taker_child.body
 intro B1 w₁ hn1 B2 w₂ hn2 B3 w₃ hn3
 have hb1:B1=w.heap.size:=hn1.num
 have hb2:B2=w₁.heap.size:=hn2.num
 have hb3:B3=w₂.heap.size:=hn3.num
 have hs1:=hn1.size
 have hs2:=hn2.size
 have hs3:=hn3.size
 have e3:Ext w w₃:=(hn1.upd.trans hn2.upd).trans hn3.upd
 have g2:w₃.heap[B2]?=some (.cells (Key.vals k).toArray T.api_Key (0,0)):=Ext.get hn3.upd hn2.get
 refine (rdTake (k:=1) (by decide) hG (h.ext e3)).mono ?_
 rintro _ w₄ ⟨hu4,rfl,hr4⟩
 have hs4:=hu4.size
 have g42:=hu4.get g2 (by omega)
 have g43:=hu4.get hn3.get (by omega)
 have u4:Upd (·=r) w w₄:=(Upd.ext e3).trans hu4
 have hone:innerS k s=if (takeS 1 s).2.1≠0 then (Child.zero,4,none) else if (takeS 1 (takeS 1 s).2.2).2.1≠0 then (Child.zero,4,none) else (⟨k,(takeS 1 s).1,(takeS 1 (takeS 1 s).2.2).1⟩,0,(takeS 1 (takeS 1 s).2.2).2.2):=rfl
 have a4:=takeS_lt 1 s
 refine ⟨_,_,rfl,br_ne (fun hne=>?_) fun he=>?_⟩
 ·have hA:takeS 1 s=(0,4,none):=takeS_err (by omega)
  rw [if_pos (by omega)] at hone
  rw [hone] at hR
  rw [hA] at hr4 ⊢
  refine child_out (x:=Child.zero) g43 rfl fun w' hu'=>?_
  obtain ⟨q1,q2⟩:=rd_done hGs hrs (by omega) u4 hr4 hu'
  exact hR _ _ ⟨q1,q2,rfl,fun h=>absurd h (by simp)⟩
 rw [if_neg (by omega)] at hone
 refine (rdTake (k:=1) (by decide) hG hr4).mono ?_
 rintro _ w₅ ⟨hu5,rfl,hr5⟩
 have hs5:=hu5.size
 have g52:=hu5.get g42 (by omega)
 have g53:=hu5.get g43 (by omega)
 have u5:Upd (·=r) w w₅:=u4.trans hu5
 have a5:=takeS_lt 1 (takeS 1 s).2.2
 refine ⟨_,_,rfl,br_ne (fun hne=>?_) fun he5=>?_⟩
 ·have hA:takeS 1 (takeS 1 s).2.2=(0,4,none):=takeS_err (by omega)
  rw [if_pos (by omega)] at hone
  rw [hone] at hR
  rw [hA] at hr5 ⊢
  refine child_out (x:=Child.zero) g53 rfl fun w' hu'=>?_
  obtain ⟨q1,q2⟩:=rd_done hGs hrs (by omega) u5 hr5 hu'
  exact hR _ _ ⟨q1,q2,rfl,fun h=>absurd h (by simp)⟩
 ·rw [if_neg (by omega)] at hone
  rw [hone] at hR
  rw [w64n (by omega),w64n (by omega)]
  refine ⟨_,_,_,_,cells_all g52,child_out (x:=⟨k,(takeS 1 s).1,(takeS 1 (takeS 1 s).2.2).1⟩) g53 rfl fun w' hu'=>?_⟩
  obtain ⟨q1,q2⟩:=rd_done hGs hrs (by omega) u5 hr5 hu'
  exact hR _ _ ⟨q1,q2,rfl,fun _=>rfl⟩
theorem SliceOut.of {α:Type} {r:ERep α} {e:TypeId} {w w':World} {a:Option Addr} {c:Nat} {l:List α} {x:Nat} {S:Nat} (h:ListAt r NoB S w' a c e l) (hS:w.heap.size≤S) (he:Ext w w'):SliceOut r w w' (.tuple #[.slice a l.length c,.int .i64 (x:Nat)]) l x:=by
 obtain ⟨G,h1,h2⟩:=h.slice
 exact ⟨a,c,G,rfl,h1,fun b hb=>by
  obtain ⟨q1,q2⟩:=h2 b hb
  rcases q1 with q | q
  ·omega
  ·exact q.elim,h.cap,he⟩
theorem keyS_small (s:St):(keyS s).1.name.size<9223372036854775807:=Nat.lt_trans (keyS_name s) (by decide)
theorem rtake_empty {w:World} {r:Nat} {a:Option Addr} {c:Nat} (h:w.heap[r]?=some (.cells #[.slice a 0 c,.bool false] T.carrackref01_Reader (0,0))) :
  CallsR prog K.carrackref01_Reader_Take #[.pointer (some ⟨r,0,none⟩),.int .i64 1] w fun v w'=>Upd (·=r) w w'∧v= .tuple #[.int .u64 0,.int .i64 4]:=by
 apply carrackref01_Reader_Take.sh
 unfold carrackref01_Reader_Take.body
 refine (carrackref01_Size_spec _ w).mono ?_
 rintro _ _ ⟨rfl,rfl⟩
 refine ⟨_,rfl,?_⟩
 rw [show isSz 1=true from rfl]
 simp only [Bool.not_true,br_false,nilC_some',add_lit,Nat.zero_add]
 refine ⟨false,cell_of h rfl,?_⟩
 simp only [br_false]
 refine ⟨_,_,_,cell_of h rfl,br_dec (fun _=>?_) fun hge=>absurd (by decide) hge⟩
 exact store_of h (by simp) fun w' hput=>⟨hput.upd1,trivial⟩
theorem rd_ref {w w₁:World} {B1:Nat} {a:Option Addr} {b:List UInt8} {c:Nat} (hb:BytesAt w a b) (hc:b.length≤c) (hn:b.length≤1000000000000) (hn1:New w (.cells #[.slice a b.length c,.bool false] T.carrackref01_Reader) B1 w₁) (hne:b≠[]):RRdIn (fun x=>B1 > x) w₁ B1 (some b):=by
 refine ⟨⟨a,c,hn1.get,hb.ext hn1.upd,hc,fun p hp=>?_⟩,hn⟩
 obtain ⟨b',o,hab,hlt⟩:=RowAt.blk hb (fun h=>hne (List.map_eq_nil_iff.1 h))
 rw [hab] at hp
 cases hp
 have:=hn1.num
 show B1 > b'
 omega
theorem carrackref15_GetLeaf_spec {w:World} {a:Option Addr} {b:List UInt8} {c:Nat} (hb:BytesAt w a b) (hc:b.length≤c) (hn:b.length≤1000000000000) :
  CallsR prog K.carrackref15_GetLeaf #[.slice a b.length c] w fun v w'=>SliceOut factR w w' v (getLeaf b).1 (getLeaf b).2:=by
 apply carrackref15_GetLeaf.sh
 suffices H:∀ R:Value→World→Prop,(∀ v w',SliceOut factR w w' v (getLeaf b).1 (getLeaf b).2→R v w')→carrackref15_GetLeaf.body a b.length c w R from H _ fun _ _ h=>h
 intro R hR
 unfold carrackref15_GetLeaf.body
 intro B1 w₁ hn1
 have hB1:B1=w.heap.size:=hn1.num
 have hs1:=hn1.size
 have hG:¬ (fun x=>B1 > x) B1:=by simp
 by_cases hne:b=[]
 ·subst hne
  refine (rtake_empty (a:=a) (c:=c) hn1.get).mono ?_
  rintro _ w₂ ⟨hu2,rfl⟩
  refine ⟨_,_,rfl,br_ne (fun _=>?_) fun h=>absurd h (by decide)⟩
  exact hR _ _ (SliceOut.none (x:=4) rfl (hn1.upd.beyond hu2 fun x hx=>by omega))
 have hrd1:=rd_ref hb hc hn hn1 hne
 refine (rrdTake (G:=fun x=>B1 > x) (k:=1) (by decide) hG hrd1).mono ?_
 rintro _ w₂ ⟨hu2,rfl,hr2⟩
 have e2:Ext w w₂:=hn1.upd.beyond hu2 fun x hx=>by omega
 have hs2:=hu2.size
 have a2:=takeS_lt 1 (some b)
 refine ⟨_,_,rfl,br_ne (fun hne=>?_) fun he=>br_eq (fun h0=>?_) fun h0=>?_⟩
 ·have hA:takeS 1 (some b)=(0,4,none):=takeS_err (by omega)
  have hg:getLeaf b=([],4):=by unfold getLeaf listS;rw [hA];rfl
  rw [hg] at hR
  rw [hA]
  exact hR _ _ (SliceOut.none rfl e2)
 ·have hg:getLeaf b=([],5):=by unfold getLeaf listS;rw [if_neg (by omega),if_pos (by omega)]
  rw [hg] at hR
  exact hR _ _ (SliceOut.none (x:=5) rfl e2)
 have hget:getLeaf b=_:=listS_take (key:=Fact.key) (one:=leafS) (b:=b) (by omega) (by omega)
 generalize takeS 1 (some b)=A at *
 refine ⟨fun a1 l1 c1 x u=>∃ (i:Nat) (s:St) (acc:List Fact),x=i∧i≤A.1∧l1=acc.length∧acc.length=i∧ListAt factR NoB w₂.heap.size u a1 c1 T.api_Fact acc∧RRdIn (fun x=>B1 > x) u B1 s∧Ext w u∧w₂.heap.size≤u.heap.size∧(∀ y∈acc,y.key.name.size<9223372036854775807)∧getLeaf b=listGo Fact.key leafS (A.1 - i) s acc,
  fun _ _ _ x _=>((A.1:Int) - x).toNat,⟨0,_,[],rfl,by omega,rfl,rfl,ListAt.nil _ _,hr2,e2,Nat.le_refl _,(fun _ h=>by cases h),hget⟩,?_⟩
 rintro a1 l1 c1 x u ⟨i,s,acc,rfl,hi,rfl,hacc,hl,hrd,heu,hsu,hnm,hgo⟩
 refine br_dec (fun hlt=>?_) fun hge=>?_
 ·have hi':i<A.1:=by omega
  rw [listGo_step hi'] at hgo
  refine (carrackref06_GetKey_spec hG (fun x hx=>by omega) (by omega) hrd).mono ?_
  rintro _ w₄ ⟨rfl,hu4,hr4⟩
  have e4:Ext w w₄:=heu.beyond hu4 fun x hx=>by omega
  have hl4:ListAt factR NoB w₂.heap.size w₄ a1 c1 T.api_Fact acc:=hl.upd hu4 fun x hx=>⟨by omega,fun h=>h⟩
  have hs4:=hu4.size
  refine ⟨_,_,_,_,_,rfl,new_put (vs:=Key.vals (keyS s).1) rfl fun B2 w₆ hb2 hs6 he6 g6=>br_ne (fun hne=>?_) fun he=>?_⟩
  ·rw [if_pos (by omega)] at hgo
   rw [hgo] at hR
   exact hR _ _ (SliceOut.none rfl (e4.trans he6))
  rw [if_neg (by omega)] at hgo
  refine (rrdRow hG (hr4.ext he6)).mono ?_
  rintro _ w₇ ⟨hu7,⟨a3,c3,rfl,hby,hc3,hf3⟩,hr7⟩
  have hs7:=hu7.size
  have g7:=hu7.get g6 (by omega)
  have hl7:ListAt factR NoB w₂.heap.size w₇ a1 c1 T.api_Fact acc:=(hl4.ext he6).upd hu7 fun x hx=>⟨by omega,fun h=>h⟩
  have e7:Ext w w₇:=(e4.trans he6).beyond hu7 fun x hx=>by omega
  have hone:leafS (keyS s).1 (keyS s).2.2=if (rowS (keyS s).2.2).2.1≠0 then (Fact.zero,4,none) else if (rowS (keyS s).2.2).1.length=0 then (Fact.zero,5,(rowS (keyS s).2.2).2.2) else (⟨(keyS s).1,(rowS (keyS s).2.2).1⟩,0,(rowS (keyS s).2.2).2.2):=rfl
  refine ⟨_,_,_,_,rfl,br_ne (fun hne=>?_) fun he9 w₈ hd8=>⟨fun u=>Ext w₈ u,Upd.refl _ _,?_⟩⟩
  ·have hrow:=rowS_err (s:=(keyS s).2.2) (by omega)
   rw [if_pos (by omega)] at hone
   rw [hone,if_pos (by simp)] at hgo
   rw [hgo] at hR
   rw [hrow]
   exact hR _ _ (SliceOut.none (x:=4) rfl e7)
  rw [if_neg (by omega)] at hone
  have he8:=hd8.upd
  have hs8:=he8.size
  have e8:=e7.trans he8
  have g8:=Ext.get he8 g7
  have hl8:=hl7.ext he8
  refine br_eq (fun hz=>?_) fun hz=>?_
  ·rw [if_pos (by omega)] at hone
   rw [hone,if_pos (by simp)] at hgo
   rw [hgo] at hR
   exact hR _ _ (SliceOut.none (x:=5) rfl e8)
  rw [if_neg (by omega)] at hone
  rw [hone,if_neg (by simp)] at hgo
  have ew:IntKind.u64.wrap ((i:Int)+1)=((i+1:Nat):Int):=wu64 (by omega) (by omega)
  have fin:∀ {w₁₂:World},Ext w₈ w₁₂→getLeaf b=listGo Fact.key leafS (A.1 - (i+1)) (rowS (keyS s).2.2).2.2 (acc ++ [⟨(keyS s).1,(rowS (keyS s).2.2).1⟩])→∃ x24 x25:Int,∃ s7:ByteArray,∃ x26:Int,cellsAt w₁₂ ⟨B2,0,none⟩ [.int .i64 x24,.int .u8 x25,.string s7,.int .i64 x26] 0∧
    ∀ (B3:Nat) (w13:World),New w₁₂ (.cells #[.int .i64 x24,.int .u8 x25,.string s7,.int .i64 x26,.slice a3 (rowS (keyS s).2.2).1.length c3] T.api_Fact) B3 w13→
    appendP T.api_Fact 5 64 [.int .i64 0,.int .u8 0,.string (⟨#[]⟩: ByteArray),.int .i64 0,.slice none 0 0] a1 acc.length c1 (.slice (some ⟨B3,0,none⟩) 1 1) w13 fun a5 l5 c5 w14=>(∃ (j:Nat) (s:St) (acc:List Fact),IntKind.u64.wrap ((i:Int)+1)=j∧j≤A.1∧l5=acc.length∧acc.length=j∧ListAt factR NoB w₂.heap.size w14 a5 c5 T.api_Fact acc∧RRdIn (fun x=>B1 > x) w14 B1 s∧Ext w w14∧w₂.heap.size≤w14.heap.size∧(∀ y∈acc,y.key.name.size<9223372036854775807)∧getLeaf b=listGo Fact.key leafS (A.1 - j) s acc)∧((A.1:Int) - IntKind.u64.wrap ((i:Int)+1)).toNat<((A.1:Int) - (i:Int)).toNat:=by
   intro w₁₂ he12 hgo'
   have hs12:=he12.size
   refine ⟨_,_,_,_,key_cells (Ext.get he12 g8),fun B3 w₁₃ hn13=>?_⟩
   have he13:=hn13.upd
   have hs13:=hn13.size
   refine ListAt.push (r:=factR) (x:=⟨(keyS s).1,(rowS (keyS s).2.2).1⟩) (H:=fun b=>w₆.heap.size≤b∧b<w₇.heap.size) ((hl8.ext he12).ext he13) (factR_intro (x:=⟨(keyS s).1,(rowS (keyS s).2.2).1⟩) hc3 (((hby.ext he8).ext he12).ext he13) fun _ p hp=>hf3 p hp) (fun b hb=>⟨.inl (by omega),by omega,fun h=>?_⟩) hn13 rfl rfl (by omega) (by omega) (by omega) fun a' c' w₁₄ hu14 hl14=>?_
   ·have:=(hl4.ext he6).lt h
    omega
   ·have e14:Ext w w₁₄:=((e8.trans he12).trans he13).beyond hu14 fun x hx=>by omega
    have hs14:=hu14.size
    rw [ew]
    refine ⟨⟨i+1,_,_,rfl,hi',rfl,by simp [hacc],hl14,(((hr7.ext he8).ext he12).ext he13).upd hu14 (by omega) fun x hx=>by omega,e14,by omega,fun y hy=>?_,hgo'⟩,meas hi'⟩
    rcases List.mem_append.1 hy with hy | hy
    ·exact hnm y hy
    ·rw [List.mem_singleton.1 hy];exact keyS_small s
  refine br_dec (fun hpos=>?_) fun hz=>?_
  ·obtain ⟨j,hj⟩: ∃ j,i=j+1:=⟨i - 1,by omega⟩
   have hah:=aheadL_last (key:=Fact.key) (acc:=acc) (k:=(keyS s).1) (i:=j) (by omega)
   obtain ⟨G,hsl,hGl⟩:=hl8.slice
   have ew2:IntKind.i64.wrap ((acc.length:Int) - 1)=((j:Nat):Int):=w64 (by omega) (by omega) |>.trans (by omega)
   rw [ew2]
   refine SliceAt.idx (r:=factR) hsl rfl (by omega) fun b' o vs ha hrow hR' hG'=>?_
   obtain ⟨av,cv,rfl,hcv,hbv,hgv⟩:=factR_elim hR'
   refine ⟨_,_,_,_,fun u hu=>(RowAt.take (RowAt.ext hrow hu) 4).cells,_,_,_,_,fun u hu=>key_cells (Ext.get hu g8),(carrackref06_Before_spec _ _ (hnm _ (List.getElem_mem _)) (keyS_small s) _).mono ?_⟩
   rintro _ w₁₂ ⟨rfl,he12⟩
   refine ⟨_,rfl,br_intro (fun hno=>?_) fun hyes=>?_⟩
   ·rw [if_pos (by rw [hah];simpa using hno)] at hgo
    rw [hgo] at hR
    exact hR _ _ (SliceOut.none (x:=5) rfl (e8.trans he12))
   ·rw [if_neg (by rw [hah];simpa using hyes)] at hgo
    exact fin he12 hgo
  ·have hnil:acc=[]:=List.eq_nil_of_length_eq_zero (by omega)
   rw [if_neg (by rw [hnil,aheadL_nil];decide)] at hgo
   exact fin (Upd.refl _ _) hgo
 ·have hin:i=A.1:=by omega
  subst hin
  rw [Nat.sub_self] at hgo
  refine (rrdLeft hrd).mono ?_
  rintro _ _ ⟨rfl,rfl⟩
  refine ⟨_,rfl,br_dec (fun hl0=>?_) fun hl0=>?_⟩
  ·have hg:getLeaf b=([],5):=by rw [hgo];unfold listGo;rw [if_pos (by omega)]
   rw [hg] at hR
   exact hR _ _ (SliceOut.none (x:=5) rfl heu)
  ·have hg:getLeaf b=(acc,0):=by rw [hgo];unfold listGo;rw [if_neg (by omega)]
   rw [hg] at hR
   exact hR _ _ (SliceOut.of (x:=0) hl (by omega) heu)
theorem carrackref15_GetInner_spec {w:World} {a:Option Addr} {b:List UInt8} {c:Nat} (hb:BytesAt w a b) (hc:b.length≤c) (hn:b.length≤1000000000000) :
  CallsR prog K.carrackref15_GetInner #[.slice a b.length c] w fun v w'=>SliceOut childR w w' v (getInner b).1 (getInner b).2:=by
 apply carrackref15_GetInner.sh
 suffices H:∀ R:Value→World→Prop,(∀ v w',SliceOut childR w w' v (getInner b).1 (getInner b).2→R v w')→carrackref15_GetInner.body a b.length c w R from H _ fun _ _ h=>h
 intro R hR
 unfold carrackref15_GetInner.body
 intro B1 w₁ hn1
 have hB1:B1=w.heap.size:=hn1.num
 have hs1:=hn1.size
 have hG:¬ (fun x=>B1 > x) B1:=by simp
 by_cases hne:b=[]
 ·subst hne
  refine (rtake_empty (a:=a) (c:=c) hn1.get).mono ?_
  rintro _ w₂ ⟨hu2,rfl⟩
  refine ⟨_,_,rfl,br_ne (fun _=>?_) fun h=>absurd h (by decide)⟩
  exact hR _ _ (SliceOut.none (x:=4) rfl (hn1.upd.beyond hu2 fun x hx=>by omega))
 have hrd1:=rd_ref hb hc hn hn1 hne
 refine (rrdTake (G:=fun x=>B1 > x) (k:=1) (by decide) hG hrd1).mono ?_
 rintro _ w₂ ⟨hu2,rfl,hr2⟩
 have e2:Ext w w₂:=hn1.upd.beyond hu2 fun x hx=>by omega
 have hs2:=hu2.size
 have a2:=takeS_lt 1 (some b)
 refine ⟨_,_,rfl,br_ne (fun hne=>?_) fun he=>br_eq (fun h0=>?_) fun h0=>?_⟩
 ·have hA:takeS 1 (some b)=(0,4,none):=takeS_err (by omega)
  have hg:getInner b=([],4):=by unfold getInner listS;rw [hA];rfl
  rw [hg] at hR
  rw [hA]
  exact hR _ _ (SliceOut.none rfl e2)
 ·have hg:getInner b=([],5):=by unfold getInner listS;rw [if_neg (by omega),if_pos (by omega)]
  rw [hg] at hR
  exact hR _ _ (SliceOut.none (x:=5) rfl e2)
 have hget:getInner b=_:=listS_take (key:=Child.key) (one:=innerS) (b:=b) (by omega) (by omega)
 generalize takeS 1 (some b)=A at *
 refine ⟨fun a1 l1 c1 x u=>∃ (i:Nat) (s:St) (acc:List Child),x=i∧i≤A.1∧l1=acc.length∧acc.length=i∧ListAt childR NoB w₂.heap.size u a1 c1 T.api_Child acc∧RRdIn (fun x=>B1 > x) u B1 s∧Ext w u∧w₂.heap.size≤u.heap.size∧(∀ y∈acc,y.key.name.size<9223372036854775807)∧getInner b=listGo Child.key innerS (A.1 - i) s acc,
  fun _ _ _ x _=>((A.1:Int) - x).toNat,⟨0,_,[],rfl,by omega,rfl,rfl,ListAt.nil _ _,hr2,e2,Nat.le_refl _,(fun _ h=>by cases h),hget⟩,?_⟩
 rintro a1 l1 c1 x u ⟨i,s,acc,rfl,hi,rfl,hacc,hl,hrd,heu,hsu,hnm,hgo⟩
 refine br_dec (fun hlt=>?_) fun hge=>?_
 ·have hi':i<A.1:=by omega
  rw [listGo_step hi'] at hgo
  refine (carrackref06_GetKey_spec hG (fun x hx=>by omega) (by omega) hrd).mono ?_
  rintro _ w₄ ⟨rfl,hu4,hr4⟩
  have e4:Ext w w₄:=heu.beyond hu4 fun x hx=>by omega
  have hl4:ListAt childR NoB w₂.heap.size w₄ a1 c1 T.api_Child acc:=hl.upd hu4 fun x hx=>⟨by omega,fun h=>h⟩
  have hs4:=hu4.size
  refine ⟨_,_,_,_,_,rfl,new_put (vs:=Key.vals (keyS s).1) rfl fun B2 w₆ hb2 hs6 he6 g6=>br_ne (fun hne=>?_) fun he=>?_⟩
  ·rw [if_pos (by omega)] at hgo
   rw [hgo] at hR
   exact hR _ _ (SliceOut.none rfl (e4.trans he6))
  rw [if_neg (by omega)] at hgo
  have hone:innerS (keyS s).1 (keyS s).2.2=if (takeS 1 (keyS s).2.2).2.1≠0 then (Child.zero,4,none) else if (takeS 1 (takeS 1 (keyS s).2.2).2.2).2.1≠0 then (Child.zero,4,none) else (⟨(keyS s).1,(takeS 1 (keyS s).2.2).1,(takeS 1 (takeS 1 (keyS s).2.2).2.2).1⟩,0,(takeS 1 (takeS 1 (keyS s).2.2).2.2).2.2):=rfl
  refine (rrdTake (G:=fun x=>B1 > x) (k:=1) (by decide) hG (hr4.ext he6)).mono ?_
  rintro _ w₇ ⟨hu7,rfl,hr7⟩
  have hs7:=hu7.size
  have g7:=hu7.get g6 (by omega)
  have hl7:ListAt childR NoB w₂.heap.size w₇ a1 c1 T.api_Child acc:=(hl4.ext he6).upd hu7 fun x hx=>⟨by omega,fun h=>h⟩
  have e7:Ext w w₇:=(e4.trans he6).beyond hu7 fun x hx=>by omega
  have a7:=takeS_lt 1 (keyS s).2.2
  refine ⟨_,_,rfl,br_ne (fun hne=>?_) fun he7=>?_⟩
  ·have hA:takeS 1 (keyS s).2.2=(0,4,none):=takeS_err (by omega)
   rw [if_pos (by omega)] at hone
   rw [hone,if_pos (by simp)] at hgo
   rw [hgo] at hR
   rw [hA]
   exact hR _ _ (SliceOut.none (x:=4) rfl e7)
  rw [if_neg (by omega)] at hone
  refine (rrdTake (G:=fun x=>B1 > x) (k:=1) (by decide) hG hr7).mono ?_
  rintro _ w₇' ⟨hu7',rfl,hr7'⟩
  have hs7':=hu7'.size
  have g7':=hu7'.get g7 (by omega)
  have hl7':ListAt childR NoB w₂.heap.size w₇' a1 c1 T.api_Child acc:=hl7.upd hu7' fun x hx=>⟨by omega,fun h=>h⟩
  have e7':Ext w w₇':=e7.beyond hu7' fun x hx=>by omega
  have a7':=takeS_lt 1 (takeS 1 (keyS s).2.2).2.2
  refine ⟨_,_,rfl,br_ne (fun hne=>?_) fun he9 w₈ hd8=>⟨fun u=>Ext w₈ u,Upd.refl _ _,?_⟩⟩
  ·have hA:takeS 1 (takeS 1 (keyS s).2.2).2.2=(0,4,none):=takeS_err (by omega)
   rw [if_pos (by omega)] at hone
   rw [hone,if_pos (by simp)] at hgo
   rw [hgo] at hR
   rw [hA]
   exact hR _ _ (SliceOut.none (x:=4) rfl e7')
  rw [if_neg (by omega)] at hone
  have he8:=hd8.upd
  have hs8:=he8.size
  have e8:=e7'.trans he8
  have g8:=Ext.get he8 g7'
  have hl8:=hl7'.ext he8
  rw [hone,if_neg (by simp)] at hgo
  rw [w64n (m:=(takeS 1 (keyS s).2.2).1) (by omega),w64n (m:=(takeS 1 (takeS 1 (keyS s).2.2).2.2).1) (by omega)]
  have ew:IntKind.u64.wrap ((i:Int)+1)=((i+1:Nat):Int):=wu64 (by omega) (by omega)
  have fin:∀ {w₁₂:World},Ext w₈ w₁₂→getInner b=listGo Child.key innerS (A.1 - (i+1)) (takeS 1 (takeS 1 (keyS s).2.2).2.2).2.2 (acc ++ [⟨(keyS s).1,(takeS 1 (keyS s).2.2).1,(takeS 1 (takeS 1 (keyS s).2.2).2.2).1⟩])→∃ x24 x25:Int,∃ s7:ByteArray,∃ x26:Int,cellsAt w₁₂ ⟨B2,0,none⟩ [.int .i64 x24,.int .u8 x25,.string s7,.int .i64 x26] 0∧
    ∀ (B3:Nat) (w13:World),New w₁₂ (.cells #[.int .i64 x24,.int .u8 x25,.string s7,.int .i64 x26,.int .i64 ((takeS 1 (keyS s).2.2).1:Nat),.int .i64 ((takeS 1 (takeS 1 (keyS s).2.2).2.2).1:Nat)] T.api_Child) B3 w13→
    appendP T.api_Child 6 56 [.int .i64 0,.int .u8 0,.string (⟨#[]⟩: ByteArray),.int .i64 0,.int .i64 0,.int .i64 0] a1 acc.length c1 (.slice (some ⟨B3,0,none⟩) 1 1) w13 fun a5 l5 c5 w14=>(∃ (j:Nat) (s:St) (acc:List Child),IntKind.u64.wrap ((i:Int)+1)=j∧j≤A.1∧l5=acc.length∧acc.length=j∧ListAt childR NoB w₂.heap.size w14 a5 c5 T.api_Child acc∧RRdIn (fun x=>B1 > x) w14 B1 s∧Ext w w14∧w₂.heap.size≤w14.heap.size∧(∀ y∈acc,y.key.name.size<9223372036854775807)∧getInner b=listGo Child.key innerS (A.1 - j) s acc)∧((A.1:Int) - IntKind.u64.wrap ((i:Int)+1)).toNat<((A.1:Int) - (i:Int)).toNat:=by
   intro w₁₂ he12 hgo'
   have hs12:=he12.size
   refine ⟨_,_,_,_,key_cells (Ext.get he12 g8),fun B3 w₁₃ hn13=>?_⟩
   have he13:=hn13.upd
   have hs13:=hn13.size
   refine ListAt.push (r:=childR) (x:=⟨(keyS s).1,(takeS 1 (keyS s).2.2).1,(takeS 1 (takeS 1 (keyS s).2.2).2.2).1⟩) (H:=NoB) ((hl8.ext he12).ext he13) rfl (fun b hb=>hb.elim) hn13 rfl rfl (by omega) (by omega) (by omega) fun a' c' w₁₄ hu14 hl14=>?_
   have e14:Ext w w₁₄:=((e8.trans he12).trans he13).beyond hu14 fun x hx=>by omega
   have hs14:=hu14.size
   rw [ew]
   refine ⟨⟨i+1,_,_,rfl,hi',rfl,by simp [hacc],hl14,(((hr7'.ext he8).ext he12).ext he13).upd hu14 (by omega) fun x hx=>by omega,e14,by omega,fun y hy=>?_,hgo'⟩,meas hi'⟩
   rcases List.mem_append.1 hy with hy | hy
   ·exact hnm y hy
   ·rw [List.mem_singleton.1 hy];exact keyS_small s
  refine br_dec (fun hpos=>?_) fun hz=>?_
  ·obtain ⟨j,hj⟩: ∃ j,i=j+1:=⟨i - 1,by omega⟩
   have hah:=aheadL_last (key:=Child.key) (acc:=acc) (k:=(keyS s).1) (i:=j) (by omega)
   obtain ⟨G,hsl,hGl⟩:=hl8.slice
   have ew2:IntKind.i64.wrap ((acc.length:Int) - 1)=((j:Nat):Int):=w64 (by omega) (by omega) |>.trans (by omega)
   rw [ew2]
   refine SliceAt.idx (r:=childR) hsl rfl (by omega) fun b' o vs ha hrow hR' hG'=>?_
   obtain rfl:vs=childVs (acc[j]'(by omega)):=hR'
   refine ⟨_,_,_,_,fun u hu=>(RowAt.take (RowAt.ext hrow hu) 4).cells,_,_,_,_,fun u hu=>key_cells (Ext.get hu g8),(carrackref06_Before_spec _ _ (hnm _ (List.getElem_mem _)) (keyS_small s) _).mono ?_⟩
   rintro _ w₁₂ ⟨rfl,he12⟩
   refine ⟨_,rfl,br_intro (fun hno=>?_) fun hyes=>?_⟩
   ·rw [if_pos (by rw [hah];simpa using hno)] at hgo
    rw [hgo] at hR
    exact hR _ _ (SliceOut.none (x:=5) rfl (e8.trans he12))
   ·rw [if_neg (by rw [hah];simpa using hyes)] at hgo
    exact fin he12 hgo
  ·have hnil:acc=[]:=List.eq_nil_of_length_eq_zero (by omega)
   rw [if_neg (by rw [hnil,aheadL_nil];decide)] at hgo
   exact fin (Upd.refl _ _) hgo
 ·have hin:i=A.1:=by omega
  subst hin
  rw [Nat.sub_self] at hgo
  refine (rrdLeft hrd).mono ?_
  rintro _ _ ⟨rfl,rfl⟩
  refine ⟨_,rfl,br_dec (fun hl0=>?_) fun hl0=>?_⟩
  ·have hg:getInner b=([],5):=by rw [hgo];unfold listGo;rw [if_pos (by omega)]
   rw [hg] at hR
   exact hR _ _ (SliceOut.none (x:=5) rfl heu)
  ·have hg:getInner b=(acc,0):=by rw [hgo];unfold listGo;rw [if_neg (by omega)]
   rw [hg] at hR
   exact hR _ _ (SliceOut.of (x:=0) hl (by omega) heu)
def mayF (f:Fact):Bool:=f.key.may && decide (1≤f.val.length) && decide (f.val.length≤255)
def leafB (f:Fact):List UInt8:=keyB f.key ++ (UInt8.ofNat f.val.length :: f.val)
def leafBody (l:List Fact):List UInt8:=UInt8.ofNat l.length :: l.flatMap leafB
def putLeaf (size:Int) (l:List Fact):List UInt8×Nat:=if 1≤l.length∧l.length≤255∧ordered l=true∧l.all mayF=true then putPage size 4 (leafBody l) else ([],2)
theorem leafB_len {f:Fact} (h:mayF f=true):(leafB f).length≤300:=by
 unfold mayF at h
 rw [Bool.and_eq_true,Bool.and_eq_true,decide_eq_true_eq,decide_eq_true_eq] at h
 have:=keyB_len h.1.1
 unfold leafB
 simp only [List.length_append,List.length_cons]
 omega
theorem carrackref15_PutLeaf_spec {size:Int} (hsz:size<9223372036854775808) (hsz0: -9223372036854775808≤size) {w:World} {G:Nat→Prop} {a:Option Addr} {c:Nat} {l:List Fact} (h:SliceAt factR w G a l) (hG:∀ b,G b→b<w.heap.size) (hn:l.length<9000000000000000000) (hnl:NamesF l) :
  CallsR prog K.carrackref15_PutLeaf #[.int .i64 size,.slice a l.length c] w fun v w'=>BytesOut w w' v (putLeaf size l).1 (putLeaf size l).2:=by
 apply carrackref15_PutLeaf.sh
 suffices H:∀ R:Value→World→Prop,(∀ v w',BytesOut w w' v (putLeaf size l).1 (putLeaf size l).2→R v w')→carrackref15_PutLeaf.body size a l.length c w R from H _ fun _ _ h=>h
 intro R hR
 unfold carrackref15_PutLeaf.body
 have no:(¬ (1≤l.length∧l.length≤255∧ordered l=true∧l.all mayF=true))→∀ {u:World},Ext w u→R (.tuple #[.slice none 0 0,.int .i64 2]) u:=fun hno u hu=>by
  have:putLeaf size l=([],2):=by unfold putLeaf;rw [if_neg hno]
  rw [this] at hR
  exact hR _ _ (BytesOut.none (e:=2) hu)
 refine ⟨fun u=>Ext w u∧1≤l.length∧l.length≤255∧ordered l=true,br_dec (fun h1=>no (by omega) (Upd.refl _ _)) fun h1=>br_dec (fun h2=>no (by omega) (Upd.refl _ _)) fun h2=>(carrackref06_Ordered_spec h hn hnl).mono ?_,?_⟩
 ·rintro _ w₁ ⟨rfl,he1⟩
  refine ⟨_,rfl,br_intro (fun hb=>no (fun hc=>by rw [hc.2.2.1] at hb;cases hb) he1) fun hb=>⟨he1,by omega,by omega,by simpa using hb⟩⟩
 rintro w₂ ⟨he2,h1,h2,ho⟩
 have hs2:=he2.size
 intro B1 w₃ hn3
 rw [bv_mod,Nat.mod_eq_of_lt (by omega)] at hn3
 have hs3:=hn3.size
 have e3:=he2.trans hn3.upd
 refine ⟨fun a' l' c' x u=>∃ i:Nat,x=i∧i≤l.length∧(∀ f∈l.take i,mayF f=true)∧l'=(UInt8.ofNat l.length :: (l.take i).flatMap leafB).length∧BList w₂.heap.size u a' c' (UInt8.ofNat l.length :: (l.take i).flatMap leafB)∧Ext w u∧w₂.heap.size≤u.heap.size,fun _ _ _ x _=>((l.length:Int) - x).toNat,
  ⟨0,rfl,by omega,(fun _ h=>by cases h),by simp,BList.new (l:=[UInt8.ofNat l.length]) hn3 rfl (Nat.le_refl _),e3,by omega⟩,?_⟩
 rintro a1 l1 c1 x u ⟨i,rfl,hi,hall,rfl,hl,heu,hsu⟩
 have hacc:(UInt8.ofNat l.length :: (l.take i).flatMap leafB).length≤100000:=by
  have:=flat_len_le (f:=leafB) (l.take i) (fun x hx=>leafB_len (hall x hx))
  simp only [List.length_cons,List.length_take] at this ⊢
  have:min i l.length * 300≤255 * 300:=Nat.mul_le_mul_right _ (by omega)
  omega
 refine br_dec (fun hlt=>?_) fun hge=>?_
 ·have hi':i<l.length:=by omega
  have ew:IntKind.i64.wrap ((i:Int)+1)=((i+1:Nat):Int):=w64 (by omega) (by omega)
  simp only [ew]
  have hsucc:UInt8.ofNat l.length :: (l.take (i+1)).flatMap leafB=(UInt8.ofNat l.length :: (l.take i).flatMap leafB) ++ leafB l[i]:=by
   rw [List.take_succ_eq_append_getElem hi',List.flatMap_append];simp
  generalize hpre:UInt8.ofNat l.length :: (l.take i).flatMap leafB=pre at *
  refine SliceAt.idx (r:=factR) (h.ext heu) rfl hi' fun b o vs ha hrow hR' hG'=>?_
  obtain ⟨av,cv,rfl,hcv,hbv,hgv⟩:=factR_elim hR'
  refine ⟨_,_,_,_,(RowAt.take hrow 4).cells,(carrackref06_PutKey_spec l[i].key (hnl _ (List.getElem_mem _)) u).mono ?_⟩
  rintro _ w₅ ⟨a2,c2,rfl,hl2,he5⟩
  have hs5:=he5.size
  have e5:=heu.trans he5
  have hno:mayF l[i]=false→¬ (1≤l.length∧l.length≤255∧ordered l=true∧l.all mayF=true):=fun hf hc=>by
   have:=List.all_eq_true.1 hc.2.2.2 _ (List.getElem_mem hi')
   rw [hf] at this
   cases this
  have hpk:putKeyB l[i].key=if l[i].key.may then (keyB l[i].key,0) else ([],2):=rfl
  refine ⟨_,_,_,_,rfl,fun u'=>u'=w₅∧mayF l[i]=true,br_ne (fun hne=>no (hno ?_) e5) fun he0=>?_,?_⟩
  ·unfold mayF
   cases hm:l[i].key.may with
   | false=>rfl
   | true=>rw [hpk,hm] at hne;exact absurd rfl hne
  ·have hm:l[i].key.may=true:=by
    cases hm:l[i].key.may with
    | true=>rfl
    | false=>rw [hpk,hm] at he0;exact absurd he0 (by simp)
   refine SliceAt.idx (r:=factR) (h.ext e5) rfl hi' fun b o vs ha hrow hR' hG'=>?_
   obtain ⟨av,cv,rfl,hcv,hbv,hgv⟩:=factR_elim hR'
   simp only [add_lit]
   refine ⟨_,_,_,row_cell hrow (j:=4) rfl,br_dec (fun hv1=>no (hno ?_) e5) fun hv1=>?_⟩
   ·unfold mayF;rw [hm,decide_eq_false (by omega)];rfl
   refine SliceAt.idx (r:=factR) (h.ext e5) rfl hi' fun b o vs ha hrow hR' hG'=>?_
   obtain ⟨av,cv,rfl,hcv,hbv,hgv⟩:=factR_elim hR'
   simp only [add_lit]
   refine ⟨_,_,_,row_cell hrow (j:=4) rfl,br_dec (fun hv2=>no (hno ?_) e5) fun hv2=>⟨trivial,?_⟩⟩
   ·unfold mayF;rw [decide_eq_false (p:=l[i].val.length≤255) (by omega)];simp
   ·unfold mayF;rw [hm,decide_eq_true (by omega),decide_eq_true (by omega)];rfl
  rintro _ ⟨rfl,hmf⟩
  have hmf':=hmf
  unfold mayF at hmf'
  rw [Bool.and_eq_true,Bool.and_eq_true,decide_eq_true_eq,decide_eq_true_eq] at hmf'
  obtain ⟨⟨hm,hv1⟩,hv2⟩:=hmf'
  have hkl:=keyB_len hm
  rw [hpk,if_pos hm] at hl2 ⊢
  simp only [] at hl2 ⊢
  refine BList.cat (hl.ext he5) rfl rfl hl2.bytes (by omega) (by omega) fun a3 c3 w₆ hu6 hl6=>?_
  have hs6:=hu6.size
  have e6:Ext w w₆:=e5.beyond hu6 fun x hx=>by omega
  refine SliceAt.idx (r:=factR) (h.ext e6) rfl hi' fun b o vs ha hrow hR' hG'=>?_
  obtain ⟨av,cv,rfl,hcv,hbv,hgv⟩:=factR_elim hR'
  simp only [add_lit]
  refine ⟨_,_,_,row_cell hrow (j:=4) rfl,fun B2 w₈ hn8=>?_⟩
  rw [bv_mod,Nat.mod_eq_of_lt (by omega)] at hn8
  have hs8:=hn8.size
  refine BList.push (x:=UInt8.ofNat l[i].val.length) hl6 rfl hn8 (by simp;omega) (by omega) fun a4 c4 w₉ hu9 hl9=>?_
  have hs9:=hu9.size
  have e9:Ext w w₉:=e6.beyond hu9 fun x hx=>by omega
  refine SliceAt.idx (r:=factR) (h.ext e9) rfl hi' fun b o vs ha hrow hR' hG'=>?_
  obtain ⟨av,cv,rfl,hcv,hbv,hgv⟩:=factR_elim hR'
  simp only [add_lit]
  refine ⟨_,_,_,row_cell hrow (j:=4) rfl,BList.cat hl9 rfl rfl hbv (by simp;omega) (by omega) fun a5 c5 w₁₁ hu11 hl11=>?_⟩
  have hs11:=hu11.size
  have hassoc:pre ++ keyB l[i].key ++ [UInt8.ofNat l[i].val.length] ++ l[i].val=UInt8.ofNat l.length :: (l.take (i+1)).flatMap leafB:=by rw [hsucc];unfold leafB;simp
  rw [hassoc] at hl11 ⊢
  refine ⟨⟨i+1,rfl,hi',fun f hf=>?_,rfl,hl11,e9.beyond hu11 fun x hx=>by omega,by omega⟩,meas hi'⟩
  rw [List.take_succ_eq_append_getElem hi'] at hf
  rcases List.mem_append.1 hf with hf | hf
  ·exact hall f hf
  ·rw [List.mem_singleton.1 hf];exact hmf
 ·have hii:i=l.length:=by omega
  subst hii
  rw [List.take_length] at hall hl hacc ⊢
  have hput:=putPage_ref (size:=size) (kind:=4) (c:=c1) rfl hl.bytes (by omega) hsz hsz0
  refine hput.mono ?_
  rintro _ w₁₂ ⟨a3,c3,rfl,hb3,he12⟩
  have hok:putLeaf size l=putPage size 4 (leafBody l):=by unfold putLeaf;rw [if_pos ⟨h1,h2,ho,List.all_eq_true.2 hall⟩]
  rw [hok] at hR
  exact ⟨_,_,_,_,rfl,hR _ _ ⟨a3,c3,rfl,hb3.weak heu.size,heu.trans he12⟩⟩
def mayCh (x:Child):Bool:=x.key.may && decide (0≤x.block) && decide (x.block≤255) && decide (0≤x.page) && decide (x.page≤255)
def innerB (x:Child):List UInt8:=keyB x.key ++ [UInt8.ofNat x.block.toNat,UInt8.ofNat x.page.toNat]
def innerBody (l:List Child):List UInt8:=UInt8.ofNat l.length :: l.flatMap innerB
def bareF (x:Child):Fact:=⟨x.key,[]⟩
def putInner (size:Int) (l:List Child):List UInt8×Nat:=if 1≤l.length∧l.length≤255∧ordered (l.map bareF)=true∧l.all mayCh=true then putPage size 5 (innerBody l) else ([],2)
theorem innerB_len {x:Child} (h:mayCh x=true):(innerB x).length≤300:=by
 unfold mayCh at h
 simp only [Bool.and_eq_true,decide_eq_true_eq] at h
 have:=keyB_len h.1.1.1.1
 unfold innerB
 simp only [List.length_append,List.length_cons,List.length_nil]
 omega
def NamesCh (l:List Child):Prop:=∀ x∈l,x.key.name.size<9223372036854775807
theorem carrackref15_PutInner_spec {size:Int} (hsz:size<9223372036854775808) (hsz0: -9223372036854775808≤size) {w:World} {G:Nat→Prop} {a:Option Addr} {c:Nat} {l:List Child} (h:SliceAt childR w G a l) (hG:∀ b,G b→b<w.heap.size) (hn:l.length<9000000000000000000) (hnl:NamesCh l) :
  CallsR prog K.carrackref15_PutInner #[.int .i64 size,.slice a l.length c] w fun v w'=>BytesOut w w' v (putInner size l).1 (putInner size l).2:=by
 apply carrackref15_PutInner.sh
 suffices H:∀ R:Value→World→Prop,(∀ v w',BytesOut w w' v (putInner size l).1 (putInner size l).2→R v w')→carrackref15_PutInner.body size a l.length c w R from H _ fun _ _ h=>h
 intro R hR
 unfold carrackref15_PutInner.body
 have no:(¬ (1≤l.length∧l.length≤255∧ordered (l.map bareF)=true∧l.all mayCh=true))→∀ {u:World},Ext w u→R (.tuple #[.slice none 0 0,.int .i64 2]) u:=fun hno u hu=>by
  have:putInner size l=([],2):=by unfold putInner;rw [if_neg hno]
  rw [this] at hR
  exact hR _ _ (BytesOut.none (e:=2) hu)
 refine ⟨fun u=>u=w∧1≤l.length∧l.length≤255,br_dec (fun h1=>no (by omega) (Upd.refl _ _)) fun h1=>br_dec (fun h2=>no (by omega) (Upd.refl _ _)) fun h2=>⟨rfl,by omega,by omega⟩,?_⟩
 rintro _ ⟨rfl,h1,h2⟩
 rename_i w
 intro B1 w₃ hn3
 rw [bv_mod,Nat.mod_eq_of_lt (by omega)] at hn3
 have hs3:=hn3.size
 have e3:=hn3.upd
 refine ⟨fun a' l' c' x u=>∃ i:Nat,x=i∧i≤l.length∧(∀ f∈l.take i,mayCh f=true)∧ordered ((l.map bareF).take i)=true∧l'=(UInt8.ofNat l.length :: (l.take i).flatMap innerB).length∧BList w.heap.size u a' c' (UInt8.ofNat l.length :: (l.take i).flatMap innerB)∧Ext w u∧w.heap.size≤u.heap.size,fun _ _ _ x _=>((l.length:Int) - x).toNat,
  ⟨0,rfl,by omega,(fun _ h=>by cases h),rfl,by simp,BList.new (l:=[UInt8.ofNat l.length]) hn3 rfl (Nat.le_refl _),e3,by omega⟩,?_⟩
 rintro a1 l1 c1 x u ⟨i,rfl,hi,hall,hord,rfl,hl,heu,hsu⟩
 have hacc:(UInt8.ofNat l.length :: (l.take i).flatMap innerB).length≤100000:=by
  have:=flat_len_le (f:=innerB) (l.take i) (fun x hx=>innerB_len (hall x hx))
  simp only [List.length_cons,List.length_take] at this ⊢
  have:min i l.length * 300≤255 * 300:=Nat.mul_le_mul_right _ (by omega)
  omega
 refine br_dec (fun hlt=>?_) fun hge=>?_
 ·have hi':i<l.length:=by omega
  have ew:IntKind.i64.wrap ((i:Int)+1)=((i+1:Nat):Int):=w64 (by omega) (by omega)
  simp only [ew]
  have hsucc:UInt8.ofNat l.length :: (l.take (i+1)).flatMap innerB=(UInt8.ofNat l.length :: (l.take i).flatMap innerB) ++ innerB l[i]:=by
   rw [List.take_succ_eq_append_getElem hi',List.flatMap_append];simp
  generalize hpre:UInt8.ofNat l.length :: (l.take i).flatMap innerB=pre at *
  refine SliceAt.idx (r:=childR) (h.ext heu) rfl hi' fun b o vs ha hrow hR' hG'=>?_
  obtain rfl:vs=childVs l[i]:=hR'
  refine ⟨_,_,_,_,(RowAt.take hrow 4).cells,(carrackref06_PutKey_spec l[i].key (hnl _ (List.getElem_mem _)) u).mono ?_⟩
  rintro _ w₅ ⟨a2,c2,rfl,hl2,he5⟩
  have hs5:=he5.size
  have e5:=heu.trans he5
  have hno:mayCh l[i]=false→¬ (1≤l.length∧l.length≤255∧ordered (l.map bareF)=true∧l.all mayCh=true):=fun hf hc=>by
   have:=List.all_eq_true.1 hc.2.2.2 _ (List.getElem_mem hi')
   rw [hf] at this
   cases this
  have hpk:putKeyB l[i].key=if l[i].key.may then (keyB l[i].key,0) else ([],2):=rfl
  refine ⟨_,_,_,_,rfl,fun u'=>Ext w₅ u'∧mayCh l[i]=true∧ordered ((l.map bareF).take (i+1))=true,fun w₆ hd6=>?_,?_⟩
  ·have he6:=hd6.upd
   have e6:=e5.trans he6
   refine ⟨fun u'=>Ext w₆ u',Upd.refl _ _,br_ne (fun hne=>⟨Upd.refl _ _,no (hno ?_) e6⟩) fun he0=>?_⟩
   ·unfold mayCh
    cases hm:l[i].key.may with
    | false=>rfl
    | true=>rw [hpk,hm] at hne;exact absurd rfl hne
   have hm:l[i].key.may=true:=by
    cases hm:l[i].key.may with
    | true=>rfl
    | false=>rw [hpk,hm] at he0;exact absurd he0 (by simp)
   have row:∀ {j:Nat} {v:Value} {K':Addr→Prop},(childVs l[i])[j]?=some v→(∀ q,(∀ u',Ext w₆ u'→World.cell? u' (Addr.add q j)=some v)→K' q)→idxP a l.length (i:Int) 6 K':=fun {j v K'} hj hk=>by
    refine SliceAt.idx (r:=childR) (h.ext e6) rfl hi' fun b o vs ha hrow hR' hG'=>?_
    obtain rfl:vs=childVs l[i]:=hR'
    refine hk _ fun u' hu'=>?_
    rw [add_lit]
    exact row_cell (hrow.ext hu') hj
   refine row (j:=4) rfl fun q hq=>⟨_,hq,br_dec (fun hb=>⟨Upd.refl _ _,no (hno ?_) e6⟩) fun hb1=>row (j:=4) rfl fun q hq=>⟨_,hq,br_dec (fun hb=>⟨Upd.refl _ _,no (hno ?_) e6⟩) fun hb2=>row (j:=5) rfl fun q hq=>⟨_,hq,br_dec (fun hb=>⟨Upd.refl _ _,no (hno ?_) e6⟩) fun hb3=>row (j:=5) rfl fun q hq=>⟨_,hq,br_dec (fun hb=>⟨Upd.refl _ _,no (hno ?_) e6⟩) fun hb4=>?_⟩⟩⟩⟩
   ·unfold mayCh;rw [decide_eq_false (p:=0≤l[i].block) (by omega)];simp
   ·unfold mayCh;rw [decide_eq_false (p:=l[i].block≤255) (by omega)];simp
   ·unfold mayCh;rw [decide_eq_false (p:=0≤l[i].page) (by omega)];simp
   ·unfold mayCh;rw [decide_eq_false (p:=l[i].page≤255) (by omega)];simp
   have hmc:mayCh l[i]=true:=by
    unfold mayCh;rw [hm,decide_eq_true (by omega:0≤l[i].block),decide_eq_true (by omega:l[i].block≤255),decide_eq_true (by omega:0≤l[i].page),decide_eq_true (by omega:l[i].page≤255)];rfl
   refine br_dec (fun hpos=>?_) fun hz=>⟨Upd.refl _ _,he6,hmc,ordered_small (by rw [List.length_take];omega)⟩
   obtain ⟨j,rfl⟩: ∃ j,i=j+1:=⟨i - 1,by omega⟩
   have ew2:IntKind.i64.wrap (((j+1:Nat):Int) - 1)=((j:Nat):Int):=by rw [w64 (by omega) (by omega)];omega
   rw [ew2]
   refine SliceAt.idx (r:=childR) (h.ext e6) rfl (show j<l.length by omega) fun b o vs ha hrow hR' hG'=>?_
   obtain rfl:vs=childVs (l[j]'(by omega)):=hR'
   refine ⟨_,_,_,_,fun u' hu'=>(RowAt.take (hrow.ext hu') 4).cells,SliceAt.idx (r:=childR) (h.ext e6) rfl hi' fun b2 o2 vs2 ha2 hrow2 hR2 hG2=>?_⟩
   obtain rfl:vs2=childVs l[j+1]:=hR2
   refine ⟨_,_,_,_,fun u' hu'=>(RowAt.take (hrow2.ext hu') 4).cells,(carrackref06_Before_spec _ _ (hnl _ (List.getElem_mem _)) (hnl _ (List.getElem_mem _)) _).mono ?_⟩
   rintro _ w₇ ⟨rfl,he7⟩
   have hot:=ordered_take (l.map bareF) (i:=j) (by rw [List.length_map];omega)
   rw [hord,Bool.true_and,List.getElem_map,List.getElem_map] at hot
   refine ⟨_,rfl,he7,br_intro (fun hb=>no (fun hc=>?_) (e6.trans he7)) fun hb=>⟨he6.trans he7,hmc,?_⟩⟩
   ·have hf:ordered (l.map bareF)=false:=ordered_false (n:=j+2) (by rw [hot];simpa [bareF] using hb)
    rw [hc.2.2.1] at hf
    cases hf
   ·rw [hot];simpa [bareF] using hb
  rintro w₇ ⟨he7,hmc,hordn⟩
  have hmc':=hmc
  unfold mayCh at hmc'
  simp only [Bool.and_eq_true,decide_eq_true_eq] at hmc'
  obtain ⟨⟨⟨⟨hm,m1⟩,m2⟩,m3⟩,m4⟩:=hmc'
  have hkl:=keyB_len hm
  rw [hpk,if_pos hm] at hl2 ⊢
  simp only [] at hl2 ⊢
  have hs7:=he7.size
  refine BList.cat ((hl.ext he5).ext he7) rfl rfl (hl2.bytes.ext he7) (by omega) (by omega) fun a3 c3 w₈ hu8 hl8 w₉ hd9=>?_
  have hs8:=hu8.size
  have he9:=hd9.upd
  have hs9:=he9.size
  have e9:Ext w w₉:=((e5.trans he7).beyond hu8 fun x hx=>hx).trans he9
  have row:∀ {j:Nat} {v:Value} {K':Addr→Prop},(childVs l[i])[j]?=some v→(∀ q,(∀ u',Upd (fun b=>w.heap.size≤b) w₉ u'→World.cell? u' (Addr.add q j)=some v)→K' q)→idxP a l.length (i:Int) 6 K':=fun {j v K'} hj hk=>by
   refine SliceAt.idx (r:=childR) (h.ext e9) rfl hi' fun b o vs ha hrow hR' hG'=>?_
   obtain rfl:vs=childVs l[i]:=hR'
   refine hk _ fun u' hu'=>?_
   rw [add_lit]
   exact row_cell (RowAt.upd hrow hu' fun p hp hf=>by cases hp;have h1:=hG _ hG';have h2:w.heap.size≤b:=hf;omega) hj
  refine ⟨fun u'=>Upd (fun b=>w.heap.size≤b) w₉ u',Upd.refl _ _,row (j:=4) rfl fun q hq=>⟨_,hq,row (j:=5) rfl fun q' hq'=>⟨_,hq',fun B2 w₁₀ hn10=>⟨Upd.ext hn10.upd,?_⟩⟩⟩⟩
  have z1:l[i].block=((l[i].block.toNat:Nat):Int):=by omega
  have z2:l[i].page=((l[i].page.toNat:Nat):Int):=by omega
  rw [z1,z2,bv_mod,bv_mod,Nat.mod_eq_of_lt (by omega),Nat.mod_eq_of_lt (by omega)] at hn10
  have hs10:=hn10.size
  refine BList.cat (xs:=[UInt8.ofNat l[i].block.toNat,UInt8.ofNat l[i].page.toNat]) ((hl8.ext he9).ext hn10.upd) rfl rfl (RowAt.of hn10.get fun j v hj=>by simpa using hj) (by simp;omega) (by omega) fun a4 c4 w₁₁ hu11 hl11=>?_
  have hs11:=hu11.size
  have hassoc:pre ++ keyB l[i].key ++ [UInt8.ofNat l[i].block.toNat,UInt8.ofNat l[i].page.toNat]=UInt8.ofNat l.length :: (l.take (i+1)).flatMap innerB:=by rw [hsucc];unfold innerB;simp
  rw [hassoc] at hl11 ⊢
  refine ⟨(Upd.ext hn10.upd).trans hu11,⟨i+1,rfl,hi',fun f hf=>?_,hordn,rfl,hl11,(e9.trans hn10.upd).beyond hu11 fun x hx=>hx,by omega⟩,meas hi'⟩
  rw [List.take_succ_eq_append_getElem hi'] at hf
  rcases List.mem_append.1 hf with hf | hf
  ·exact hall f hf
  ·rw [List.mem_singleton.1 hf];exact hmc
 ·have hii:i=l.length:=by omega
  subst hii
  rw [List.take_length] at hall hl hacc ⊢
  rw [List.take_of_length_le (by rw [List.length_map];omega)] at hord
  have hput:=putPage_ref (size:=size) (kind:=5) (c:=c1) rfl hl.bytes (by omega) hsz hsz0
  refine hput.mono ?_
  rintro _ w₁₂ ⟨a3,c3,rfl,hb3,he12⟩
  have hok:putInner size l=putPage size 5 (innerBody l):=by unfold putInner;rw [if_pos ⟨h1,h2,hord,List.all_eq_true.2 hall⟩]
  rw [hok] at hR
  exact ⟨_,_,_,_,rfl,hR _ _ ⟨a3,c3,rfl,hb3.weak heu.size,heu.trans he12⟩⟩
theorem putHead_page {size:Int} {h:Head} (hs:isSize size=true):putHead size h=if h.may=false then ([],2) else putPage size 1 h.body:=by
 unfold putHead putPage
 have hz:=putHead_size hs
 have hl:=h.body_length
 cases hm:h.may with
 | false=>simp
 | true =>
  rw [if_neg (by rw [hs];simp),if_neg (by simp),if_neg (by rw [hs];simp),if_neg (by omega)]
theorem carrackref04_PutHead_own (size:Int) (hs:isSize size=true) (h:Head) (ho:h.Ok) (w:World) (hsz:size<9223372036854775808) (hsz0: -9223372036854775808≤size) :
  CallsR prog K.carrackref04_PutHead #[.int .i64 size,headV h] w fun v w'=>BytesOut w w' v (putHead size h).1 (putHead size h).2:=by
 apply carrackref04_PutHead.sh
 suffices H:∀ R:Value→World→Prop,(∀ v w',BytesOut w w' v (putHead size h).1 (putHead size h).2→R v w')→carrackref04_PutHead.body size h.kind.toNat h.era h.seq w R from H _ fun _ _ h=>h
 intro R hR
 unfold carrackref04_PutHead.body
 rw [putHead_page hs] at hR
 intro B w₁ hn
 have hc:=hn.get
 simp only [add_lit]
 refine ⟨_,_,_,cellsAt_of (o:=0) (vs:=h.vals) hc (fun j v hj=>by simpa [Head.vals] using hj),?_⟩
 refine (carrackref04_MayHead_spec h w₁).mono ?_
 rintro _ w₂ ⟨rfl,he2⟩
 have e2:Ext w w₂:=hn.upd.trans he2
 refine ⟨_,rfl,?_⟩
 cases hm:h.may with
 | false =>
  simp only [Bool.not_false,br_true]
  rw [hm,if_pos rfl] at hR
  exact hR _ _ (BytesOut.none (e:=2) e2)
 | true =>
 simp only [Bool.not_true,br_false]
 rw [hm,if_neg (by decide)] at hR
 have hc2:=Ext.get he2 hc
 refine ⟨_,cell_of hc2 rfl,fun B2 w₃ hn3=>?_⟩
 have e3:=e2.trans hn3.upd
 have hc3:=Ext.get hn3.upd hc2
 refine ⟨_,cell_of hc3 rfl,?_⟩
 have q:IntKind.u64.wrap (h.era:Int)=(h.era:Int):=wu64n (by have:=ho.1;omega)
 rw [q]
 refine (carrackref01_Put_spec h.era 4 w₃ (by rfl) (by
     have:(256:Nat) ^ 4=4294967296:=by decide
     have:=ho.1;omega)).mono ?_
 rintro _ w₄ ⟨a1,c1,rfl,ho1,hf1,he4⟩
 refine ⟨_,_,_,_,rfl,_,cell_of (Ext.get he4 hc3) rfl,?_⟩
 refine (carrackref01_Put_spec h.seq 8 w₄ (by rfl) (by
     have:(256:Nat) ^ 8=18446744073709551616:=by decide
     have:=ho.2;omega)).mono ?_
 rintro _ w₅ ⟨a2,c2,rfl,ho2,hf2,he5⟩
 refine ⟨_,_,_,_,rfl,?_⟩
 have hB2:B2=w₂.heap.size:=hn3.num
 have hs2:=hn3.size
 have ob:OwnAt w₅ (some ⟨B2,0,none⟩) [h.kind].length 1 T.uint8 1 ([h.kind].map bv):=OwnAt.ext (OwnAt.ext (OwnAt.new (n:=1) (size:=1) hn3 (by simp)) he4) he5
 have hs4:=he4.size
 have hs5:=he5.size
 have b1:BytesAt w₅ a1 (leB h.era 4):=RowAt.ext ho1.row he5
 refine append_bytes' (l:=[h.kind]) (xs:=leB h.era 4) rfl (by rw [leB_length]) ob b1 (by simp [leB_length]) fun a3 c3 w₆ hu6 ho6 hf6=>?_
 have b2:BytesAt w₆ a2 (leB h.seq 8):=RowAt.upd ho2.row hu6 (fun p hp e=>by cases e;have:=hf2 _ hp;omega)
 refine append_bytes' (l:=[h.kind] ++ leB h.era 4) (xs:=leB h.seq 8) rfl (by rw [leB_length]) ho6 b2 (by simp [leB_length]) fun a4 c4 w₇ hu7 ho7 hf7=>?_
 have e5:Ext w w₅:=(e3.trans he4).trans he5
 have hsw:=e2.size
 have hf6':Fresh w a3:=by
  rcases hf6 with rfl | ⟨b,rfl,hb⟩
  ·exact Fresh.some (by omega)
  ·exact Fresh.some (by omega)
 have e6:Ext w w₆:=Upd.beyond e5 hu6 (fun x hx=>by cases hx;omega)
 have e7:Ext w w₇:=Upd.beyond e6 hu7 (fun x hx=>hf6' _ hx)
 have hbody:[h.kind] ++ leB h.era 4 ++ leB h.seq 8=h.body:=by simp [Head.body]
 rw [hbody] at ho7 ⊢
 refine (putPage_ref (kind:=1) (c:=c4) rfl ho7.row (by rw [h.body_length];omega) hsz hsz0).mono ?_
 rintro v w₈ ⟨a8,c8,rfl,hb8,he8⟩
 exact ⟨_,_,_,_,rfl,hR _ _ ⟨a8,c8,rfl,hb8.weak e7.size,e7.trans he8⟩⟩
abbrev Point.vals (p:Point):List Value:=[.int .u64 (p.number:Nat),.int .i64 p.block,.int .i64 p.page,.int .i64 p.count]
abbrev pointV (p:Point):Value:=.agg #[.int .u64 (p.number:Nat),.int .i64 p.block,.int .i64 p.page,.int .i64 p.count]
theorem Point.may_iff (p:Point):p.may=true ↔ (1≤p.number∧0≤p.count∧p.count≤65535∧0≤p.block∧p.block≤255∧0≤p.page∧p.page≤255)∧(p.count=0→p.page=0∧p.block=0)∧(p.count≠0→p.page≠0):=by
 unfold Point.may
 by_cases h:p.count=0
 ·simp [h,and_assoc]
 ·simp [h,and_assoc]
theorem Point.may_no {p:Point} (h:¬ ((1≤p.number∧0≤p.count∧p.count≤65535∧0≤p.block∧p.block≤255∧0≤p.page∧p.page≤255)∧(p.count=0→p.page=0∧p.block=0)∧(p.count≠0→p.page≠0))):p.may=false:=by
 cases hm:p.may with
 | false=>rfl
 | true=>exact absurd (p.may_iff.1 hm) h
theorem br_both {c:Prop} [Decidable c] {A B C:Prop} (h1:c→A) (h2:¬ c→C):br (decide c) (br (decide c) A B) C:=by
 by_cases h:c
 ·simp only [h,decide_true,br_true];exact h1 h
 ·simp only [h,decide_false,br_false];exact h2 h
theorem point_may_spec (p:Point) (w:World):CallsR prog K.point_may #[pointV p] w fun v w'=>v= .bool p.may∧Ext w w':=by
 apply point_may.sh
 suffices H:∀ R:Value→World→Prop,(∀ v w',v= .bool p.may∧Ext w w'→R v w')→point_may.body (p.number:Nat) p.block p.page p.count w R from H _ fun _ _ h=>h
 intro R hR
 unfold point_may.body
 simp only [add_lit,Nat.zero_add]
 intro B1 w₁ hn
 have g:=hn.get
 have he:=hn.upd
 have no:p.may=false→R (.bool false) w₁:=fun h=>hR _ _ ⟨by rw [h],he⟩
 refine ⟨_,cell_of g rfl,br_both (fun h=>no (Point.may_no (by omega))) fun h1=>⟨_,cell_of g rfl,br_both (fun h=>no (Point.may_no (by omega))) fun h2=>⟨_,cell_of g rfl,br_both (fun h=>no (Point.may_no (by omega))) fun h3=>⟨_,cell_of g rfl,br_both (fun h=>no (Point.may_no (by omega))) fun h4=>⟨_,cell_of g rfl,br_both (fun h=>no (Point.may_no (by omega))) fun h5=>⟨_,cell_of g rfl,br_both (fun h=>no (Point.may_no (by omega))) fun h6=>⟨_,cell_of g rfl,br_both (fun h=>no (Point.may_no (by omega))) fun h7=>?_⟩⟩⟩⟩⟩⟩⟩
 refine ⟨_,cell_of g rfl,_,cell_of g rfl,?_⟩
 by_cases hp:p.page=0<;>by_cases hc:p.count=0
 ·simp only [hp,hc,beq_self_eq_true,Bool.not_true,br_false]
  refine ⟨_,cell_of g rfl,br_dec (fun h=>absurd h (by omega)) fun _=>⟨_,_,_,_,cells_all g,_,cell_of g rfl,hR _ _ ⟨?_,he⟩⟩⟩
  congr 1
  by_cases hb:p.block=0
  ·rw [(p.may_iff).2 (by omega)];simp [hb,hp,hc]
  ·rw [Point.may_no (by omega)];simp [hb]
 ·have e2:(p.count == 0)=false:=by simp [hc]
  simp only [hp,e2,beq_self_eq_true]
  exact no (Point.may_no (by omega))
 ·have e2:(p.page == 0)=false:=by simp [hp]
  simp only [hc,e2,beq_self_eq_true]
  exact no (Point.may_no (by omega))
 ·have e1:(p.page == 0)=false:=by simp [hp]
  have e2:(p.count == 0)=false:=by simp [hc]
  simp only [e1,e2,beq_self_eq_true,Bool.not_true,br_false]
  refine ⟨_,cell_of g rfl,br_dec (fun h=>hR _ _ ⟨by rw [(p.may_iff).2 (by omega)],he⟩) fun h=>absurd h (by omega)⟩
theorem point_Newer_spec (p q:Point) (w:World):CallsR prog K.point_Newer #[pointV p,pointV q] w fun v w'=>v= .bool (decide (p.number > q.number))∧Ext w w':=by
 apply point_Newer.sh
 unfold point_Newer.body
 intro B1 w₁ hn1 B2 w₂ hn2
 refine ⟨_,cell_of (hn2.upd.get hn1.get) rfl,_,cell_of hn2.get rfl,?_,hn1.upd.trans hn2.upd⟩
 simp
theorem carrackref17_May_spec (p:Point) (w:World):CallsR prog K.carrackref17_May #[pointV p] w fun v w'=>v= .bool p.may∧Ext w w':=by
 apply carrackref17_May.sh
 suffices H:∀ R:Value→World→Prop,(∀ v w',v= .bool p.may∧Ext w w'→R v w')→carrackref17_May.body (p.number:Nat) p.block p.page p.count w R from H _ fun _ _ h=>h
 intro R hR
 unfold carrackref17_May.body
 simp only [add_lit,Nat.zero_add]
 intro B1 w₁ hn
 have g:=hn.get
 have he:=hn.upd
 have no:p.may=false→R (.bool false) w₁:=fun h=>hR _ _ ⟨by rw [h],he⟩
 refine ⟨fun u=>u=w₁∧(1≤p.number∧0≤p.count∧p.count≤65535∧0≤p.block∧p.block≤255∧0≤p.page∧p.page≤255),?_,?_⟩
 ·refine ⟨_,cell_of g rfl,br_dec (fun h=>no (Point.may_no (by omega))) fun h1=>⟨_,cell_of g rfl,br_dec (fun h=>no (Point.may_no (by omega))) fun h2=>⟨_,cell_of g rfl,br_dec (fun h=>no (Point.may_no (by omega))) fun h3=>⟨_,cell_of g rfl,br_dec (fun h=>no (Point.may_no (by omega))) fun h4=>⟨_,cell_of g rfl,br_dec (fun h=>no (Point.may_no (by omega))) fun h5=>⟨_,cell_of g rfl,br_dec (fun h=>no (Point.may_no (by omega))) fun h6=>⟨_,cell_of g rfl,br_dec (fun h=>no (Point.may_no (by omega))) fun h7=>⟨rfl,by omega⟩⟩⟩⟩⟩⟩⟩⟩
 ·rintro _ ⟨rfl,hin⟩
  refine ⟨_,cell_of g rfl,br_eq (fun hc=>⟨_,cell_of g rfl,br_eq (fun hp=>⟨_,cell_of g rfl,hR _ _ ⟨?_,he⟩⟩) fun hp=>no (Point.may_no (by omega))⟩) fun hc=>⟨_,cell_of g rfl,hR _ _ ⟨?_,he⟩⟩⟩
  ·congr 1
   by_cases hb:p.block=0
   ·rw [(p.may_iff).2 (by omega)];simp [hb]
   ·rw [Point.may_no (by omega)];simp [hb]
  ·congr 1
   by_cases hp:p.page=0
   ·rw [Point.may_no (by omega)];simp [hp]
   ·rw [(p.may_iff).2 (by omega)];simp [hp]
def psz:Nat→Nat
 | 0=>8
 | 3=>2
 | _=>1
def ptk (b:List UInt8):Nat→Nat×Nat×St
 | 0=>takeS 8 (some b)
 | j+1=>takeS (psz (j+1)) (ptk b j).2.2
def pst (b:List UInt8):Nat→St
 | 0=>some b
 | j+1=>(ptk b j).2.2
theorem ptk_eq (b:List UInt8) (j:Nat):ptk b j=takeS (psz j) (pst b j):=by cases j<;>rfl
def pvs (b:List UInt8) (i:Nat):List Value:=(List.range 4).map fun j=>.int .u64 ((if j<i then (ptk b j).1 else 0:Nat):Nat)
theorem ptk_all {b:List UInt8} (h:12≤b.length):∃ a0 a1 a2 a3 a4 a5 a6 a7 x y z u t,b=a0 :: a1 :: a2 :: a3 :: a4 :: a5 :: a6 :: a7 :: x :: y :: z :: u :: t:=by
 match b,h with
 | a0 :: a1 :: a2 :: a3 :: a4 :: a5 :: a6 :: a7 :: x :: y :: z :: u :: t,_=>exact ⟨_,_,_,_,_,_,_,_,_,_,_,_,_,rfl⟩
theorem takeS_big {k:Nat} {l:List UInt8} (h:k≤l.length):takeS k (some l)=(fromLE (l.take k),0,some (l.drop k)):=by
 unfold takeS
 simp only []
 rw [if_neg (by omega)]
theorem ptk_good {b:List UInt8} (h:12≤b.length):ptk b 0=(fromLE (b.take 8),0,some (b.drop 8))∧ptk b 1=((b.getD 8 0).toNat,0,some (b.drop 9))∧ptk b 2=((b.getD 9 0).toNat,0,some (b.drop 10))∧ptk b 3=((b.getD 10 0).toNat+256 * (b.getD 11 0).toNat,0,some (b.drop 12)):=by
 obtain ⟨a0,a1,a2,a3,a4,a5,a6,a7,x,y,z,u,t,rfl⟩:=ptk_all h
 have h0:ptk (a0 :: a1 :: a2 :: a3 :: a4 :: a5 :: a6 :: a7 :: x :: y :: z :: u :: t) 0=(fromLE [a0,a1,a2,a3,a4,a5,a6,a7],0,some (x :: y :: z :: u :: t)):=takeS_big (k:=8) (by simp only [List.length_cons];omega)
 have h1:ptk (a0 :: a1 :: a2 :: a3 :: a4 :: a5 :: a6 :: a7 :: x :: y :: z :: u :: t) 1=(fromLE [x],0,some (y :: z :: u :: t)):=by
  show takeS 1 (ptk _ 0).2.2=_
  rw [h0];exact takeS_big (k:=1) (by simp only [List.length_cons];omega)
 have h2:ptk (a0 :: a1 :: a2 :: a3 :: a4 :: a5 :: a6 :: a7 :: x :: y :: z :: u :: t) 2=(fromLE [y],0,some (z :: u :: t)):=by
  show takeS 1 (ptk _ 1).2.2=_
  rw [h1];exact takeS_big (k:=1) (by simp only [List.length_cons];omega)
 have h3:ptk (a0 :: a1 :: a2 :: a3 :: a4 :: a5 :: a6 :: a7 :: x :: y :: z :: u :: t) 3=(fromLE [z,u],0,some t):=by
  show takeS 2 (ptk _ 2).2.2=_
  rw [h2];exact takeS_big (k:=2) (by simp only [List.length_cons];omega)
 refine ⟨h0,h1.trans ?_,h2.trans ?_,h3.trans ?_⟩<;>simp [fromLE]
theorem takeS_ok {k:Nat} {s:St} (h:(takeS k s).2.1=0):∃ l,s=some l∧k≤l.length∧(takeS k s).2.2=some (l.drop k):=by
 rcases takeS_cases k s with h' | ⟨l,h1,h2,h3⟩
 ·rw [h'] at h;cases h
 ·exact ⟨l,h1,h2,by rw [h3]⟩
theorem ptk_len {b:List UInt8} (h:∀ j,j<4→(ptk b j).2.1=0):12≤b.length:=by
 obtain ⟨l,h1,h2,h3⟩:=takeS_ok (k:=8) (s:=some b) (h 0 (by decide))
 cases h1
 obtain ⟨l,k1,k2,k3⟩:=takeS_ok (k:=1) (s:=(ptk b 0).2.2) (h 1 (by decide))
 have e1:some l=some (b.drop 8):=k1.symm.trans h3
 cases e1
 obtain ⟨l,m1,m2,m3⟩:=takeS_ok (k:=1) (s:=(ptk b 1).2.2) (h 2 (by decide))
 have e2:some l=some ((b.drop 8).drop 1):=m1.symm.trans k3
 cases e2
 obtain ⟨l,n1,n2,n3⟩:=takeS_ok (k:=2) (s:=(ptk b 2).2.2) (h 3 (by decide))
 have e3:some l=some (((b.drop 8).drop 1).drop 1):=n1.symm.trans m3
 cases e3
 simp only [List.length_drop] at k2 m2 n2
 omega
theorem pt_short {b:List UInt8} {j:Nat} (hj:j<4) (h:(ptk b j).2.1≠0):getPoint b=(Point.zero,4):=by
 unfold getPoint
 rw [if_pos]
 apply Nat.lt_of_not_le
 intro h12
 obtain ⟨q0,q1,q2,q3⟩:=ptk_good h12
 apply h
 match j,hj with
 | 0,_=>rw [q0]
 | 1,_=>rw [q1]
 | 2,_=>rw [q2]
 | 3,_=>rw [q3]
def pointB (b:List UInt8):Point:=⟨fromLE (b.take 8),(b.getD 8 0).toNat,(b.getD 9 0).toNat,(b.getD 10 0).toNat+256 * (b.getD 11 0).toNat⟩
theorem pt_long {b:List UInt8} (h:12≤b.length):getPoint b=if (pointB b).may=true∧b.length=12 then (pointB b,0) else (Point.zero,5):=by
 unfold getPoint
 rw [if_neg (by omega)]
 rfl
theorem pt_out {u:World} {B:Nat} {p:Point} {cs:Array Value} {e:Int} {R:Value→World→Prop} (g:u.heap[B]?=some (.cells cs T.api_Point (0,0))) (hcs:cs.size=4) (hR:∀ u',Upd (·=B) u u'→R (.tuple #[pointV p,.int .i64 e]) u') :
  storeP u ⟨B,0,none⟩ p.vals fun w6=>∃ x4 x5:Int,∃ x6 x7:Int,cellsAt w6 ⟨B,0,none⟩ [.int .u64 x4,.int .i64 x5,.int .i64 x6,.int .i64 x7] 0∧R (.tuple #[.agg #[.int .u64 x4,.int .i64 x5,.int .i64 x6,.int .i64 x7],.int .i64 e]) w6 :=
 put_all g (by rw [hcs];rfl) fun w' hu hs g'=>⟨_,_,_,_,cells_all g',hR _ hu⟩
theorem point_Get_spec {w:World} {a:Option Addr} {b:List UInt8} {c:Nat} (hb:BytesAt w a b) (hn:b.length≤281474976710656) :
  CallsR prog K.point_Get #[.slice a b.length c] w fun v w'=>v= .tuple #[pointV (getPoint b).1,.int .i64 ((getPoint b).2:Nat)]∧Ext w w':=by
 apply point_Get.sh
 suffices H:∀ R:Value→World→Prop,(∀ v w',v= .tuple #[pointV (getPoint b).1,.int .i64 ((getPoint b).2:Nat)]∧Ext w w'→R v w')→point_Get.body a b.length c w R from H _ fun _ _ h=>h
 intro R hR
 unfold point_Get.body
 intro B1 w₁ hn1
 have hB1:=hn1.num
 have hs1:=hn1.size
 have g1:w₁.heap[B1]?=some (.cells (Point.vals Point.zero).toArray T.api_Point (0,0)):=hn1.get
 refine (ends_New_in a b c w₁ (hb.ext hn1.upd) hn).mono ?_
 rintro _ w₂ ⟨r,rfl,hr1,hrd,he2⟩
 have hG:¬ (fun x=>w₁.heap.size≤x∧x<r) r:=by simp
 have e2:=hn1.upd.trans he2
 refine ⟨_,rfl,fun B2 w₃ hn3=>?_⟩
 have hB2:=hn3.num
 have hs3:=hn3.size
 have e3:=e2.trans hn3.upd
 have hrd0:RdIn (fun x=>w₁.heap.size≤x∧x<r) w₂ r (pst b 0):=hrd
 have hrlt:r<w₂.heap.size:=by
  obtain ⟨_,_,h1,_⟩:=ReaderIn.at_ hrd
  exact (Array.getElem?_eq_some_iff.1 h1).1
 let J:Int→World→Prop:=fun x u=>∃ i:Nat,x=i∧i≤4∧u.heap[B2]?=some (.cells (pvs b i).toArray T.A4uint64 (0,0))∧RdIn (fun x=>w₁.heap.size≤x∧x<r) u r (pst b i)∧Ext w u∧u.heap[B1]?=some (.cells (Point.vals Point.zero).toArray T.api_Point (0,0))∧w₃.heap.size≤u.heap.size∧∀ j,j<i→(ptk b j).2.1=0
 have step:∀ (j:Nat) (k:Int) (u:World),j<4→k=psz j→J j u→CallsR prog K.ends_Reader_Take #[.pointer (some ⟨r,0,none⟩),.int .i64 k] u fun v2 w5=>∃ x2 x3:Int,v2= .tuple #[.int .u64 x2,.int .i64 x3]∧
   br (x3 != 0) (storeP w5 ⟨B1,0,none⟩ [.int .u64 0,.int .i64 0,.int .i64 0,.int .i64 0] fun w6=>∃ x4 x5:Int,∃ x6 x7:Int,cellsAt w6 ⟨B1,0,none⟩ [.int .u64 x4,.int .i64 x5,.int .i64 x6,.int .i64 x7] 0∧R (.tuple #[.agg #[.int .u64 x4,.int .i64 x5,.int .i64 x6,.int .i64 x7],.int .i64 x3]) w6)
    (0≤(j:Int)∧(j:Int)<4∧storeP w5 (Addr.add ⟨B2,0,none⟩ (Int.toNat j * 1)) [.int .u64 x2] fun w7=>J (IntKind.i64.wrap ((j:Int)+1)) w7∧(4 - IntKind.i64.wrap ((j:Int)+1)).toNat<(4 - (j:Int)).toNat):=by
  rintro j k u hj rfl ⟨i,hi,hi4,gv,hrd,heu,gz,hsz,hok⟩
  obtain rfl:j=i:=by omega
  have hk:isSz (psz j)=true:=by
   match j,hj with
   | 0,_=>rfl
   | 1,_=>rfl
   | 2,_=>rfl
   | 3,_=>rfl
  refine (rdTake (k:=psz j) hk hG hrd).mono ?_
  rintro _ w₅ ⟨hu5,rfl,hr5⟩
  rw [← ptk_eq] at hr5 ⊢
  have e5:Ext w w₅:=heu.beyond hu5 fun x hx=>by omega
  have g5:=hu5.get gz (by omega)
  have gv5:=hu5.get gv (by omega)
  have hs5:=hu5.size
  refine ⟨_,_,rfl,br_ne (fun hne=>?_) fun he=>⟨by omega,by omega,?_⟩⟩
  ·have hg:=pt_short hj (b:=b) (by omega)
   have e4:(ptk b j).2.1=4:=by
    rw [ptk_eq] at hne ⊢
    rw [takeS_err (by omega)]
   rw [hg] at hR
   rw [e4]
   exact pt_out (p:=Point.zero) g5 rfl fun u' hu=>hR _ _ ⟨rfl,e5.beyond hu fun x hx=>by omega⟩
  ·simp only [add_lit,Nat.zero_add,Nat.mul_one,Int.toNat_natCast]
   have hvl:∀ i,(pvs b i).length=4:=fun i=>by simp [pvs]
   refine store_of gv5 (by simp [hvl];omega) fun w₇ hput=>?_
   have ew:IntKind.i64.wrap ((j:Int)+1)=((j+1:Nat):Int):=w64 (by omega) (by omega)
   rw [ew]
   have e7:Ext w w₇:=e5.beyond hput.upd1 fun x hx=>by omega
   refine ⟨⟨j+1,rfl,by omega,?_,?_,e7,hput.upd1.get g5 (by omega),by have:=hput.size;omega,fun i hi=>?_⟩,by omega⟩
   ·rw [hput.get]
    congr 1
    have hsp:splice (pvs b j).toArray j [.int .u64 ((ptk b j).1:Nat)]=(pvs b (j+1)).toArray:=by
     rw [splice_one _ _ _ (by simp [hvl];omega)]
     match j,hj with
     | 0,_=>rfl
     | 1,_=>rfl
     | 2,_=>rfl
     | 3,_=>rfl
    rw [hsp]
   ·exact hr5.upd hput.upd1 (by omega) fun x hx=>by omega
   ·by_cases h:i<j
    ·exact hok i h
    ·obtain rfl:i=j:=by omega
     omega
 refine ⟨J,fun x _=>(4 - x).toNat,⟨0,rfl,by omega,hn3.get,hrd0.ext hn3.upd,e3,(Ext.get hn3.upd (Ext.get he2 g1)),Nat.le_refl _,fun j h=>by omega⟩,?_⟩
 rintro x u hJ
 have hJ':=hJ
 obtain ⟨i,rfl,hi4,gv,hrd,heu,gz,hsz,hok⟩:=hJ'
 refine br_dec (fun hlt=>?_) fun hge=>?_
 ·have hk:∀ (n:Nat) (k:Int),(i:Int)=(n:Nat)→k=psz n→k=psz i:=fun n k h hk=>by
   have:i=n:=by omega
   rw [this];exact hk
  refine ⟨by omega,hlt,⟨⟨⟨trivial,fun h=>?_⟩,fun h=>?_⟩,fun h=>?_⟩,fun h=>?_⟩
  ·exact step i _ u (by omega) (hk 0 8 h rfl) hJ
  ·exact step i _ u (by omega) (hk 1 1 h rfl) hJ
  ·exact step i _ u (by omega) (hk 2 1 h rfl) hJ
  ·exact step i _ u (by omega) (hk 3 2 h rfl) hJ
 ·obtain rfl:i=4:=by omega
  have hlen:=ptk_len hok
  obtain ⟨q0,q1,q2,q3⟩:=ptk_good hlen
  have hlong:=pt_long hlen
  have v0:(pvs b 4)=[.int .u64 ((fromLE (b.take 8):Nat)),.int .u64 (((b.getD 8 0).toNat:Nat)),.int .u64 (((b.getD 9 0).toNat:Nat)),.int .u64 (((b.getD 10 0).toNat+256 * (b.getD 11 0).toNat:Nat))]:=by
   show [Value.int .u64 ((ptk b 0).1:Nat),.int .u64 ((ptk b 1).1:Nat),.int .u64 ((ptk b 2).1:Nat),.int .u64 ((ptk b 3).1:Nat)]=_
   rw [q0,q1,q2,q3]
  rw [v0] at gv
  have h8:=(b.getD 8 0).toNat_lt
  have h9:=(b.getD 9 0).toNat_lt
  have h10:=(b.getD 10 0).toNat_lt
  have h11:=(b.getD 11 0).toNat_lt
  simp only [add_lit,Nat.zero_add,Nat.mul_one,tn0,tn1,tn2,tn3]
  refine ⟨by decide,by decide,_,cell_of gv rfl,by decide,by decide,_,cell_of gv rfl,by decide,by decide,_,cell_of gv rfl,by decide,by decide,_,cell_of gv rfl,?_⟩
  rw [w64n (by omega),w64n (by omega),w64n (by omega)]
  have hvals:([.int .u64 ((fromLE (b.take 8):Nat)),.int .i64 (((b.getD 8 0).toNat:Nat)),.int .i64 (((b.getD 9 0).toNat:Nat)),.int .i64 (((b.getD 10 0).toNat+256 * (b.getD 11 0).toNat:Nat))]:List Value)=(pointB b).vals:=by simp [pointB,Point.vals]
  rw [hvals]
  refine new_put (vs:=(pointB b).vals) rfl fun B3 w₈ hb3 hs8 he8 g8=>⟨_,_,_,_,cells_all g8,(point_may_spec (pointB b) w₈).mono ?_⟩
  rintro _ w₉ ⟨rfl,he9⟩
  have e9:=(heu.trans he8).trans he9
  have g9:=Ext.get he9 (Ext.get he8 gz)
  have hr9:=(hrd.ext he8).ext he9
  have bad:∀ {u9:World},u9=w₉→(¬ ((pointB b).may=true∧b.length=12))→storeP u9 ⟨B1,0,none⟩ [.int .u64 0,.int .i64 0,.int .i64 0,.int .i64 0] fun w6=>∃ x4 x5:Int,∃ x6 x7:Int,cellsAt w6 ⟨B1,0,none⟩ [.int .u64 x4,.int .i64 x5,.int .i64 x6,.int .i64 x7] 0∧R (.tuple #[.agg #[.int .u64 x4,.int .i64 x5,.int .i64 x6,.int .i64 x7],.int .i64 5]) w6:=by
   rintro _ rfl hno
   rw [hlong,if_neg hno] at hR
   exact pt_out (p:=Point.zero) g9 rfl fun u' hu=>hR _ _ ⟨rfl,e9.beyond hu fun x hx=>by omega⟩
  refine ⟨_,rfl,?_⟩
  by_cases hm:(pointB b).may=true
  ·rw [hm]
   simp only [Bool.not_true,br_false]
   refine (rdLeft hr9).mono ?_
   rintro _ _ ⟨rfl,rfl⟩
   have hl4:pst b 4=some (b.drop 12):=by show (ptk b 3).2.2=_;rw [q3]
   rw [hl4]
   refine ⟨_,rfl,br_dec (fun hl=>bad rfl fun h=>?_) fun hl=>?_⟩
   ·simp only [leftS,List.length_drop] at hl
    omega
   ·simp only [leftS,List.length_drop] at hl
    rw [hlong,if_pos ⟨hm,by omega⟩] at hR
    exact ⟨_,_,_,_,cells_all (Ext.get he9 g8),pt_out (p:=pointB b) g9 rfl fun u' hu=>hR _ _ ⟨rfl,e9.beyond hu fun x hx=>by omega⟩⟩
  ·rw [Bool.not_eq_true] at hm
   rw [hm]
   simp only [Bool.not_false,br_true]
   exact bad rfl (by rw [hm];simp)
end Go.Den
