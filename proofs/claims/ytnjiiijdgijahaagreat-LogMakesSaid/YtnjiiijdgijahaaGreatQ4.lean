/- Contracts of layer 12 (scan): blocks that count; lists that are compared. (Merged and shortened by program: Rep5 Rep6 SRead MFact SFact SKey SRec Rep7 SPut11 MLog MFacts MBerger MHead MDeed MPlay MPlay2 MPlay3 MPlay4 MRises MCuts MPage MJour MJour2 SJour SJour2 SScan MRound SScan2 SLoad SLaw12 SChip MLaw12 SScan3.) -/
import Derived.Test.YtnjiiijdgijahaaGreatQ3
set_option linter.unusedVariables false
set_option linter.unusedSimpArgs false
set_option maxRecDepth 20000
namespace Go.Den
section
structure ERep (α:Type) where
 k:Nat
 R:World→(Nat→Prop)→List Value→α→Prop
 pos:1≤k
 len:∀ {w G vs x},R w G vs x→vs.length=k
 one:∀ {w G vs x},R w G vs x→∀ v∈vs,v.oneCell'=true
 upd:∀ {w w' F G vs x},R w G vs x→Upd F w w'→(∀ b,G b→¬ F b)→R w' G vs x
 mono:∀ {w G G' vs x},R w G vs x→(∀ b,G b→G' b)→R w G' vs x
 cells:∀ {w w' G vs x},R w G vs x→CellsLe w w'→R w' G vs x
section
variable {α:Type} (r:ERep α)
def Rows (w:World) (G:Nat→Prop):List Value→List α→Prop
 | vs,[]=>vs=[]
 | vs,x :: l=>∃ u t,vs=u ++ t∧r.R w G u x∧Rows w G t l
variable {r}
theorem Rows.len {w:World} {G:Nat→Prop}:∀ {l:List α} {vs:List Value},Rows r w G vs l→vs.length=l.length * r.k
 | [],vs,h=>by cases h;simp
 | x :: l,vs,⟨u,t,e,hu,ht⟩=>by rw [e,List.length_append,r.len hu,Rows.len ht,List.length_cons,Nat.succ_mul];omega
theorem Rows.one {w:World} {G:Nat→Prop}:∀ {l:List α} {vs:List Value},Rows r w G vs l→∀ v∈vs,v.oneCell'=true
 | [],vs,h=>by cases h;simp
 | x :: l,vs,⟨u,t,e,hu,ht⟩=>by
  intro v hv
  rw [e,List.mem_append] at hv
  rcases hv with hv | hv
  ·exact r.one hu v hv
  ·exact Rows.one ht v hv
theorem Rows.upd {w w':World} {F G:Nat→Prop} (k:Upd F w w') (hf:∀ b,G b→¬ F b):∀ {l:List α} {vs:List Value},Rows r w G vs l→Rows r w' G vs l
 | [],vs,h=>h
 | x :: l,vs,⟨u,t,e,hu,ht⟩=>⟨u,t,e,r.upd hu k hf,Rows.upd k hf ht⟩
theorem Rows.ext {w w':World} {G:Nat→Prop} {l:List α} {vs:List Value} (h:Rows r w G vs l) (k:Ext w w'):Rows r w' G vs l:=Rows.upd k (fun _ _ hf=>hf) h
theorem Rows.mono {w:World} {G G':Nat→Prop} (hg:∀ b,G b→G' b):∀ {l:List α} {vs:List Value},Rows r w G vs l→Rows r w G' vs l
 | [],vs,h=>h
 | x :: l,vs,⟨u,t,e,hu,ht⟩=>⟨u,t,e,r.mono hu hg,Rows.mono hg ht⟩
theorem Rows.cellsLe {w w':World} {G:Nat→Prop} (k:CellsLe w w'):∀ {l:List α} {vs:List Value},Rows r w G vs l→Rows r w' G vs l
 | [],vs,h=>h
 | x :: l,vs,⟨u,t,e,hu,ht⟩=>⟨u,t,e,r.cells hu k,Rows.cellsLe k ht⟩
theorem Rows.append {w:World} {G:Nat→Prop}:∀ {l m:List α} {vs us:List Value},Rows r w G vs l→Rows r w G us m→Rows r w G (vs ++ us) (l ++ m)
 | [],m,vs,us,h,h2=>by cases h;simpa using h2
 | x :: l,m,vs,us,⟨u,t,e,hu,ht⟩,h2=>⟨u,t ++ us,by rw [e,List.append_assoc],hu,Rows.append ht h2⟩
theorem Rows.single {w:World} {G:Nat→Prop} {vs:List Value} {x:α} (h:r.R w G vs x):Rows r w G vs [x]:=⟨vs,[],by simp,h,rfl⟩
theorem Rows.drop {w:World} {G:Nat→Prop}:∀ {l:List α} {vs:List Value} (i:Nat),Rows r w G vs l→Rows r w G (vs.drop (i * r.k)) (l.drop i)
 | l,vs,0,h=>by simpa using h
 | [],vs,i+1,h=>by cases h;simp;rfl
 | x :: l,vs,i+1,⟨u,t,e,hu,ht⟩=>by
  have hl:=r.len hu
  rw [e,List.drop_succ_cons,Nat.succ_mul,Nat.add_comm,← List.drop_drop]
  have:(u ++ t).drop r.k=t:=by rw [← hl];simp
  rw [this]
  exact Rows.drop i ht
theorem Rows.take {w:World} {G:Nat→Prop}:∀ {l:List α} {vs:List Value} (i:Nat),Rows r w G vs l→Rows r w G (vs.take (i * r.k)) (l.take i)
 | l,vs,0,h=>by simp;rfl
 | [],vs,i+1,h=>by cases h;simp;rfl
 | x :: l,vs,i+1,⟨u,t,e,hu,ht⟩=>by
  have hl:=r.len hu
  rw [e,List.take_succ_cons,Nat.succ_mul,Nat.add_comm,List.take_append,hl]
  rw [List.take_of_length_le (by omega)]
  exact ⟨u,_,rfl,hu,by rw [Nat.add_sub_cancel_left];exact Rows.take i ht⟩
theorem Rows.get {w:World} {G:Nat→Prop} {l:List α} {vs:List Value} (h:Rows r w G vs l) {i:Nat} (hi:i<l.length):r.R w G ((vs.drop (i * r.k)).take r.k) l[i]:=by
 have h1:=Rows.drop i h
 rw [List.drop_eq_getElem_cons hi] at h1
 obtain ⟨u,t,e,hu,ht⟩:=h1
 have hl:=r.len hu
 rw [e,← hl]
 simpa using hu
theorem Rows.set {w:World} {G:Nat→Prop} {l:List α} {vs us:List Value} (h:Rows r w G vs l) {i:Nat} (hi:i<l.length) {x:α} (hx:r.R w G us x):Rows r w G (vs.take (i * r.k) ++ us ++ vs.drop (i * r.k+r.k)) (l.set i x):=by
 rw [List.set_eq_take_append_cons_drop,if_pos hi]
 have e:l.take i ++ x :: l.drop (i+1)=(l.take i ++ [x]) ++ l.drop (i+1):=by simp
 rw [e,← Nat.succ_mul]
 exact ((Rows.take i h).append (Rows.single hx)).append (Rows.drop (i+1) h)
variable (r)
def SliceAt (w:World) (G:Nat→Prop) (a:Option Addr) (l:List α):Prop:=∃ vs,RowAt w a vs∧Rows r w G vs l∧(l≠[]→∀ p,a=some p→G p.block)
def OwnS (w:World) (G:Nat→Prop) (a:Option Addr) (cap:Nat) (e:TypeId) (l:List α):Prop:=∃ vs,OwnAt w a l.length cap e r.k vs∧Rows r w G vs l
variable {r}
theorem SliceAt.nil (w:World) (G:Nat→Prop) (a:Option Addr):SliceAt r w G a []:=⟨[],RowAt.nil _ _,rfl,fun h=>(h rfl).elim⟩
theorem SliceAt.upd {w w':World} {F G:Nat→Prop} {a:Option Addr} {l:List α} (h:SliceAt r w G a l) (k:Upd F w w') (hf:∀ b,G b→¬ F b):SliceAt r w' G a l:=by
 obtain ⟨vs,h1,h2,h3⟩:=h
 cases l with
 | nil=>exact SliceAt.nil _ _ _
 | cons x l=>exact ⟨vs,RowAt.upd h1 k (fun p hp=>hf _ (h3 (by simp) p hp)),Rows.upd k hf h2,h3⟩
theorem SliceAt.ext {w w':World} {G:Nat→Prop} {a:Option Addr} {l:List α} (h:SliceAt r w G a l) (k:Ext w w'):SliceAt r w' G a l:=SliceAt.upd h k fun _ _ hf=>hf
theorem SliceAt.cellsLe {w w':World} {G:Nat→Prop} {a:Option Addr} {l:List α} (h:SliceAt r w G a l) (k:CellsLe w w'):SliceAt r w' G a l:=by
 obtain ⟨vs,h1,h2,h3⟩:=h
 exact ⟨vs,RowAt.cellsLe h1 k,Rows.cellsLe k h2,h3⟩
theorem SliceAt.mono {w:World} {G G':Nat→Prop} {a:Option Addr} {l:List α} (h:SliceAt r w G a l) (hg:∀ b,G b→G' b):SliceAt r w G' a l:=by
 obtain ⟨vs,h1,h2,h3⟩:=h
 exact ⟨vs,h1,Rows.mono hg h2,fun hn p hp=>hg _ (h3 hn p hp)⟩
theorem SliceAt.take {w:World} {G:Nat→Prop} {a:Option Addr} {l:List α} (h:SliceAt r w G a l) (i:Nat):SliceAt r w G a (l.take i):=by
 obtain ⟨vs,h1,h2,h3⟩:=h
 exact ⟨_,RowAt.take h1 (i * r.k),Rows.take i h2,fun hn=>h3 (fun e=>hn (by rw [e];simp))⟩
theorem SliceAt.drop {w:World} {G:Nat→Prop} {b o:Nat} {l:List α} (h:SliceAt r w G (some ⟨b,o,none⟩) l) (i:Nat):SliceAt r w G (some ⟨b,o+i * r.k,none⟩) (l.drop i):=by
 obtain ⟨vs,h1,h2,h3⟩:=h
 refine ⟨_,RowAt.drop h1 (i * r.k),Rows.drop i h2,fun hn p hp=>?_⟩
 cases hp
 exact h3 (fun e=>hn (by rw [e];simp)) ⟨b,o,none⟩ rfl
theorem SliceAt.blk {w:World} {G:Nat→Prop} {a:Option Addr} {l:List α} (h:SliceAt r w G a l) (hn:l≠[]):∃ b o,a=some ⟨b,o,none⟩∧b<w.heap.size∧G b:=by
 obtain ⟨vs,h1,h2,h3⟩:=h
 have hl:=Rows.len h2
 have:vs≠[]:=List.ne_nil_of_length_pos (by rw [hl];exact Nat.mul_pos (List.length_pos_iff.2 hn) r.pos)
 obtain ⟨b,o,e,hb⟩:=RowAt.blk h1 this
 exact ⟨b,o,e,hb,h3 hn _ e⟩
theorem SliceAt.idx {w:World} {G:Nat→Prop} {a:Option Addr} {l:List α} (h:SliceAt r w G a l) {n i:Nat} (hn:n=l.length) (hi:i<l.length) {K:Addr→Prop}
  (hk:∀ b o vs,a=some ⟨b,o,none⟩→RowAt w (some ⟨b,o+i * r.k,none⟩) vs→r.R w G vs l[i]→G b→K ⟨b,o+i * r.k,none⟩):idxP a n (i:Int) r.k K:=by
 subst hn
 refine ⟨by omega,by omega,?_⟩
 obtain ⟨b,o,rfl,hb,hG⟩:=h.blk (List.ne_nil_of_length_pos (by omega))
 obtain ⟨vs,h1,h2,h3⟩:=h
 simp only [nilC_some',add_lit,Int.toNat_natCast]
 exact hk b o _ rfl (RowAt.take (RowAt.drop h1 (i * r.k)) r.k) (h2.get hi) hG
theorem OwnS.nil (w:World) (G:Nat→Prop) (e:TypeId):OwnS r w G none 0 e []:=⟨[],OwnAt.nil _ _ _,rfl⟩
theorem OwnS.upd {w w':World} {F G:Nat→Prop} {a:Option Addr} {cap:Nat} {e:TypeId} {l:List α} (h:OwnS r w G a cap e l) (k:Upd F w w') (hf:∀ b,G b→¬ F b) (ha:∀ b,a=some ⟨b,0,none⟩→¬ F b):OwnS r w' G a cap e l:=by
 obtain ⟨vs,h1,h2⟩:=h
 exact ⟨vs,OwnAt.upd h1 k ha,Rows.upd k hf h2⟩
theorem OwnS.ext {w w':World} {G:Nat→Prop} {a:Option Addr} {cap:Nat} {e:TypeId} {l:List α} (h:OwnS r w G a cap e l) (k:Ext w w'):OwnS r w' G a cap e l:=OwnS.upd h k (fun _ _ hf=>hf) (fun _ _ hf=>hf)
theorem OwnS.cellsLe {w w':World} {G:Nat→Prop} {a:Option Addr} {cap:Nat} {e:TypeId} {l:List α} (h:OwnS r w G a cap e l) (k:CellsLe w w'):OwnS r w' G a cap e l:=by
 obtain ⟨vs,h1,h2⟩:=h
 exact ⟨vs,h1.cellsLe k,Rows.cellsLe k h2⟩
theorem OwnS.mono {w:World} {G G':Nat→Prop} {a:Option Addr} {cap:Nat} {e:TypeId} {l:List α} (h:OwnS r w G a cap e l) (hg:∀ b,G b→G' b):OwnS r w G' a cap e l:=by
 obtain ⟨vs,h1,h2⟩:=h
 exact ⟨vs,h1,Rows.mono hg h2⟩
theorem OwnS.at_ {w:World} {G:Nat→Prop} {a:Option Addr} {cap:Nat} {e:TypeId} {l:List α} (h:OwnS r w G a cap e l) (hg:∀ p,a=some p→G p.block):SliceAt r w G a l:=by
 obtain ⟨vs,h1,h2⟩:=h
 exact ⟨vs,h1.row,h2,fun _=>hg⟩
theorem OwnS.cap {w:World} {G:Nat→Prop} {a:Option Addr} {cap:Nat} {e:TypeId} {l:List α} (h:OwnS r w G a cap e l):l.length≤cap:=by
 obtain ⟨vs,h1,h2⟩:=h
 exact h1.2.1
theorem OwnS.blk {w:World} {G:Nat→Prop} {a:Option Addr} {cap:Nat} {e:TypeId} {l:List α} (h:OwnS r w G a cap e l) {q:Addr} (hq:a=some q):∃ b,a=some ⟨b,0,none⟩∧b<w.heap.size∧q=⟨b,0,none⟩:=by
 obtain ⟨vs,⟨_,_,hx⟩,h2⟩:=h
 rcases hx with ⟨hx,_⟩| ⟨b,cur,hx,hb,_⟩
 ·rw [hx] at hq;cases hq
 ·rw [hx] at hq;cases hq;exact ⟨b,hx,(Array.getElem?_eq_some_iff.1 hb).1,rfl⟩
theorem OwnS.push {w₀ w₁:World} {G:Nat→Prop} {a:Option Addr} {cap n bytes:Nat} {e:TypeId} {l:List α} {z:List Value} (h:OwnS r w₁ G a cap e l) {B:Nat} {x:α} {cs:Array Value} (hx:r.R w₁ G cs.toList x) (hn:New w₀ (.cells cs e) B w₁) (hnl:n=l.length)
  (hz:z.length=r.k) (hb:l.length≤1000000000) (hby:bytes≤10000) (hG:∀ b,a=some ⟨b,0,none⟩→¬ G b) {K:Option Addr→Nat→Nat→World→Prop}
  (hk:∀ a' c' w',Upd (fun b=>a=some ⟨b,0,none⟩) w₁ w'→OwnS r w' G a' c' e (l ++ [x])→(a'=a∨∃ b,a'=some ⟨b,0,none⟩∧w₁.heap.size≤b)→K a' (l ++ [x]).length c' w') :
  appendP e r.k bytes z a n cap (.slice (some ⟨B,0,none⟩) 1 1) w₁ K:=by
 subst hnl
 obtain ⟨vs,ho,hr⟩:=h
 have hl:=r.len hx
 have hrow:RowAt w₁ (some ⟨B,0,none⟩) cs.toList:=RowAt.of hn.get fun j v hj=>by simpa using hj
 refine append_own ho rfl (read_row hrow (by rw [hl];omega)) (by rw [hl];omega) (r.one hx) hz ?_ (by omega) fun a' c' w' hu ho' hf'=>?_
 ·have:(2 * (l.length+1)+192) * bytes≤(2 * (1000000000+1)+192) * 10000:=Nat.mul_le_mul (by omega) hby
  omega
 ·have:=hk a' c' w' hu ⟨_,by simpa using ho',Rows.upd hu (fun b hb hb'=>hG b hb' hb) (hr.append (Rows.single hx))⟩ hf'
  simpa using this
theorem OwnS.concat {w₁:World} {G:Nat→Prop} {a ax:Option Addr} {cap cx n m bytes:Nat} {e:TypeId} {l xs:List α} {z:List Value} (h:OwnS r w₁ G a cap e l) (hx:SliceAt r w₁ G ax xs) (hnl:n=l.length) (hm:m=xs.length)
  (hz:z.length=r.k) (hb:l.length+xs.length≤1000000000) (hby:bytes≤10000) (hG:∀ b,a=some ⟨b,0,none⟩→¬ G b) {K:Option Addr→Nat→Nat→World→Prop}
  (hk:∀ a' c' w',Upd (fun b=>a=some ⟨b,0,none⟩) w₁ w'→OwnS r w' G a' c' e (l ++ xs)→(a'=a∨∃ b,a'=some ⟨b,0,none⟩∧w₁.heap.size≤b)→K a' (l ++ xs).length c' w') :
  appendP e r.k bytes z a n cap (.slice ax m cx) w₁ K:=by
 subst hnl;subst hm
 obtain ⟨vs,ho,hr⟩:=h
 obtain ⟨us,hu1,hu2,hu3⟩:=hx
 refine append_own ho rfl (read_row hu1 (by rw [Rows.len hu2])) (by rw [Rows.len hu2]) (Rows.one hu2) hz ?_ (by omega) fun a' c' w' hu ho' hf'=>?_
 ·have:(2 * (l.length+xs.length)+192) * bytes≤(2 * 1000000000+192) * 10000:=Nat.mul_le_mul (by omega) hby
  omega
 ·have:=hk a' c' w' hu ⟨_,by simpa using ho',Rows.upd hu (fun b hb hb'=>hG b hb' hb) (hr.append hu2)⟩ hf'
  simpa using this
theorem OwnS.store {w:World} {G:Nat→Prop} {b cap:Nat} {e:TypeId} {l:List α} (h:OwnS r w G (some ⟨b,0,none⟩) cap e l) (hG:¬ G b) {i:Nat} (hi:i<l.length) {us:List Value} {x:α} (hx:r.R w G us x) {K:World→Prop}
  (hk:∀ w',Upd (·=b) w w'→OwnS r w' G (some ⟨b,0,none⟩) cap e (l.set i x)→K w'):storeP w ⟨b,i * r.k,none⟩ us K:=by
 obtain ⟨vs,ho,hr⟩:=h
 have hl:=r.len hx
 have hvl:=Rows.len hr
 have hin:i * r.k+r.k≤l.length * r.k:=by
  have:=Nat.mul_le_mul_right r.k (show i+1≤l.length from hi)
  rwa [Nat.succ_mul] at this
 refine own_store ho (by omega) fun w' hu ho'=>hk w' hu ⟨vs.take (i * r.k) ++ us ++ vs.drop (i * r.k+us.length),?_,?_⟩
 ·rw [List.length_set];exact ho'
 ·have:=Rows.upd hu (fun b' hb hb'=>hG (by subst hb';exact hb)) (hr.set hi hx)
  rw [hl];exact this
end
def flatR {α:Type} (f:α→List Value) (k:Nat) (hk:1≤k) (hl:∀ x,(f x).length=k) (h1:∀ x,∀ v∈f x,v.oneCell'=true):ERep α where
 k:=k
 R:=fun _ _ vs x=>vs=f x
 pos:=hk
 len:=fun h=>by rw [h,hl]
 one:=fun h=>by rw [h];exact h1 _
 upd:=fun h _ _=>h
 mono:=fun h _=>h
 cells:=fun h _=>h
def ERep.pair {α β γ:Type} (r:ERep β) (s:ERep γ) (f:α→β) (g:α→γ):ERep α where
 k:=r.k+s.k
 R:=fun w G vs x=>∃ u v,vs=u ++ v∧r.R w G u (f x)∧s.R w G v (g x)
 pos:=Nat.le_trans r.pos (Nat.le_add_right _ _)
 len:=fun ⟨u,v,e,hu,hv⟩=>by rw [e,List.length_append,r.len hu,s.len hv]
 one:=fun ⟨u,v,e,hu,hv⟩=>by
  rw [e]
  intro z hz
  rcases List.mem_append.1 hz with hz | hz
  ·exact r.one hu z hz
  ·exact s.one hv z hz
 upd:=fun ⟨u,v,e,hu,hv⟩ k hf=>⟨u,v,e,r.upd hu k hf,s.upd hv k hf⟩
 mono:=fun ⟨u,v,e,hu,hv⟩ hg=>⟨u,v,e,r.mono hu hg,s.mono hv hg⟩
 cells:=fun ⟨u,v,e,hu,hv⟩ k=>⟨u,v,e,r.cells hu k,s.cells hv k⟩
def sliceR {β:Type} (r:ERep β):ERep (List β) where
 k:=1
 R:=fun w G vs x=>∃ a c,vs=[.slice a x.length c]∧x.length≤c∧SliceAt r w G a x
 pos:=Nat.le_refl _
 len:=fun ⟨a,c,e,_⟩=>by rw [e];rfl
 one:=fun ⟨a,c,e,_⟩=>by
  rw [e]
  intro v hv
  simp at hv
  rw [hv];rfl
 upd:=fun ⟨a,c,e,hc,h⟩ k hf=>⟨a,c,e,hc,h.upd k hf⟩
 mono:=fun ⟨a,c,e,hc,h⟩ hg=>⟨a,c,e,hc,h.mono hg⟩
 cells:=fun ⟨a,c,e,hc,h⟩ k=>⟨a,c,e,hc,h.cellsLe k⟩
def bytesR:ERep (List UInt8) where
 k:=1
 R:=fun w G vs x=>∃ a c,vs=[.slice a x.length c]∧x.length≤c∧BytesAt w a x∧(x≠[]→∀ p,a=some p→G p.block)
 pos:=Nat.le_refl _
 len:=fun ⟨a,c,e,_⟩=>by rw [e];rfl
 one:=fun ⟨a,c,e,_⟩=>by
  rw [e]
  intro v hv
  simp at hv
  rw [hv];rfl
 upd:=fun {w w' F G vs x} ⟨a,c,e,hc,hb,hg⟩ k hf=>⟨a,c,e,hc,BytesAt.updM hb k hg hf,hg⟩
 mono:=fun ⟨a,c,e,hc,hb,hg⟩ hh=>⟨a,c,e,hc,hb,fun hn p hp=>hh _ (hg hn p hp)⟩
 cells:=fun ⟨a,c,e,hc,hb,hg⟩ k=>⟨a,c,e,hc,RowAt.cellsLe hb k,hg⟩
end
section
section
variable {α:Type}
def ListAt (r:ERep α) (Q:Nat→Prop) (S:Nat) (w:World) (a:Option Addr) (cap:Nat) (e:TypeId) (l:List α):Prop :=
 ∃ G,OwnS r w G a cap e l∧(∀ x,G x→(S≤x∨Q x)∧x<w.heap.size)∧∀ b,a=some ⟨b,0,none⟩→S≤b∧¬ G b
variable {r:ERep α} {Q:Nat→Prop} {S:Nat}
theorem ListAt.nil (w:World) (e:TypeId):ListAt r Q S w none 0 e []:=⟨NoB,OwnS.nil _ _ _,fun _ h=>h.elim,fun _ h=>by cases h⟩
theorem ListAt.ext {w w':World} {a:Option Addr} {cap:Nat} {e:TypeId} {l:List α} (h:ListAt r Q S w a cap e l) (k:Ext w w'):ListAt r Q S w' a cap e l:=by
 obtain ⟨G,h1,h2,h3⟩:=h
 exact ⟨G,h1.ext k,fun x hx=>⟨(h2 x hx).1,Nat.lt_of_lt_of_le (h2 x hx).2 k.size⟩,h3⟩
theorem ListAt.cellsLe {w w':World} {a:Option Addr} {cap:Nat} {e:TypeId} {l:List α} (h:ListAt r Q S w a cap e l) (k:CellsLe w w'):ListAt r Q S w' a cap e l:=by
 obtain ⟨G,h1,h2,h3⟩:=h
 exact ⟨G,h1.cellsLe k,fun x hx=>⟨(h2 x hx).1,Nat.lt_of_lt_of_le (h2 x hx).2 k.size⟩,h3⟩
theorem ListAt.upd {w w':World} {F:Nat→Prop} {a:Option Addr} {cap:Nat} {e:TypeId} {l:List α} (h:ListAt r Q S w a cap e l) (k:Upd F w w') (hF:∀ x,F x→x<S∧¬ Q x):ListAt r Q S w' a cap e l:=by
 obtain ⟨G,h1,h2,h3⟩:=h
 refine ⟨G,h1.upd k (fun b hb hf=>?_) (fun b hb hf=>?_),fun x hx=>⟨(h2 x hx).1,Nat.lt_of_lt_of_le (h2 x hx).2 k.size⟩,h3⟩
 ·have hf':=hF b hf
  rcases (h2 b hb).1 with hq | hq
  ·omega
  ·exact hf'.2 hq
 ·have hf':=hF b hf
  have:=(h3 b hb).1
  omega
theorem ListAt.lt {w:World} {a:Option Addr} {cap:Nat} {e:TypeId} {l:List α} (h:ListAt r Q S w a cap e l) {b:Nat} (hb:a=some ⟨b,0,none⟩):b<w.heap.size:=by
 obtain ⟨G,h1,_⟩:=h
 obtain ⟨b',h2,h3,h4⟩:=h1.blk hb
 cases h4
 exact h3
theorem ListAt.cap {w:World} {a:Option Addr} {cap:Nat} {e:TypeId} {l:List α} (h:ListAt r Q S w a cap e l):l.length≤cap:=by
 obtain ⟨G,h1,_⟩:=h
 exact h1.cap
theorem ListAt.slice {w:World} {a:Option Addr} {cap:Nat} {e:TypeId} {l:List α} (h:ListAt r Q S w a cap e l):∃ G,SliceAt r w G a l∧∀ x,G x→(S≤x∨Q x)∧x<w.heap.size:=by
 obtain ⟨G,h1,h2,h3⟩:=h
 refine ⟨fun x=>G x∨a=some ⟨x,0,none⟩,(h1.mono fun _ hb=>.inl hb).at_ fun p hp=>?_,fun x hx=>?_⟩
 ·obtain ⟨b,hb,_,rfl⟩:=h1.blk hp
  exact .inr hb
 ·rcases hx with hx | hx
  ·exact h2 x hx
  ·obtain ⟨b,hb,hlt,e⟩:=h1.blk hx
   cases e
   exact ⟨.inl (h3 _ hx).1,hlt⟩
theorem ListAt.weak {w:World} {Q':Nat→Prop} {S':Nat} {a:Option Addr} {cap:Nat} {e:TypeId} {l:List α} (h:ListAt r Q S w a cap e l) (hS:S'≤S) (hQ:∀ x,Q x→S'≤x∨Q' x):ListAt r Q' S' w a cap e l:=by
 obtain ⟨G,h1,h2,h3⟩:=h
 refine ⟨G,h1,fun x hx=>⟨?_,(h2 x hx).2⟩,fun b hb=>⟨Nat.le_trans hS (h3 b hb).1,(h3 b hb).2⟩⟩
 rcases (h2 x hx).1 with h | h
 ·exact .inl (Nat.le_trans hS h)
 ·exact hQ x h
theorem ListAt.push {w₀ w₁:World} {H:Nat→Prop} {a:Option Addr} {cap n bytes:Nat} {e:TypeId} {l:List α} {z:List Value} (h:ListAt r Q S w₁ a cap e l) {B:Nat} {x:α} {cs:Array Value} (hx:r.R w₁ H cs.toList x) (hH:∀ b,H b→(S≤b∨Q b)∧b<w₁.heap.size∧a≠some ⟨b,0,none⟩) (hn:New w₀ (.cells cs e) B w₁) (hnl:n=l.length)
  (hz:z.length=r.k) (hb:l.length≤1000000000) (hby:bytes≤10000) (hS:S≤w₁.heap.size) {K:Option Addr→Nat→Nat→World→Prop}
  (hk:∀ a' c' w',Upd (fun b=>S≤b) w₁ w'→ListAt r Q S w' a' c' e (l ++ [x])→K a' (l ++ [x]).length c' w') :
  appendP e r.k bytes z a n cap (.slice (some ⟨B,0,none⟩) 1 1) w₁ K:=by
 obtain ⟨G,h1,h2,h3⟩:=h
 have hG:∀ b,G b∨H b→(S≤b∨Q b)∧b<w₁.heap.size:=fun b hb=>by
  rcases hb with hb | hb
  ·exact h2 b hb
  ·exact ⟨(hH b hb).1,(hH b hb).2.1⟩
 have hno:∀ b,a=some ⟨b,0,none⟩→¬ (G b∨H b):=fun b hb hb'=>by
  rcases hb' with hb' | hb'
  ·exact (h3 b hb).2 hb'
  ·exact (hH b hb').2.2 hb
 refine OwnS.push (G:=fun b=>G b∨H b) (h1.mono fun _ hb=>.inl hb) (r.mono hx fun _ hb=>.inr hb) hn hnl hz hb hby hno fun a' c' w' hu ho hf=>?_
 refine hk a' c' w' (hu.mono fun b _ hb=>(h3 b hb).1) ⟨_,ho,fun b hb=>⟨(hG b hb).1,Nat.lt_of_lt_of_le (hG b hb).2 hu.size⟩,fun b hb=>?_⟩
 rcases hf with hf | ⟨b',hb',hl⟩
 ·subst hf;exact ⟨(h3 b hb).1,hno b hb⟩
 ·rw [hb'] at hb
  cases hb
  exact ⟨Nat.le_trans hS hl,fun hb=>absurd (hG _ hb).2 (by omega)⟩
theorem ListAt.concat {w₁:World} {H:Nat→Prop} {a ax:Option Addr} {cap cx n m bytes:Nat} {e:TypeId} {l xs:List α} {z:List Value} (h:ListAt r Q S w₁ a cap e l) (hx:SliceAt r w₁ H ax xs) (hH:∀ b,H b→(S≤b∨Q b)∧b<w₁.heap.size∧a≠some ⟨b,0,none⟩) (hnl:n=l.length) (hm:m=xs.length)
  (hz:z.length=r.k) (hb:l.length+xs.length≤1000000000) (hby:bytes≤10000) (hS:S≤w₁.heap.size) {K:Option Addr→Nat→Nat→World→Prop}
  (hk:∀ a' c' w',Upd (fun b=>S≤b) w₁ w'→ListAt r Q S w' a' c' e (l ++ xs)→K a' (l ++ xs).length c' w') :
  appendP e r.k bytes z a n cap (.slice ax m cx) w₁ K:=by
 obtain ⟨G,h1,h2,h3⟩:=h
 have hG:∀ b,G b∨H b→(S≤b∨Q b)∧b<w₁.heap.size:=fun b hb=>by
  rcases hb with hb | hb
  ·exact h2 b hb
  ·exact ⟨(hH b hb).1,(hH b hb).2.1⟩
 have hno:∀ b,a=some ⟨b,0,none⟩→¬ (G b∨H b):=fun b hb hb'=>by
  rcases hb' with hb' | hb'
  ·exact (h3 b hb).2 hb'
  ·exact (hH b hb').2.2 hb
 refine OwnS.concat (G:=fun b=>G b∨H b) (h1.mono fun _ hb=>.inl hb) (hx.mono fun _ hb=>.inr hb) hnl hm hz hb hby hno fun a' c' w' hu ho hf=>?_
 refine hk a' c' w' (hu.mono fun b _ hb=>(h3 b hb).1) ⟨_,ho,fun b hb=>⟨(hG b hb).1,Nat.lt_of_lt_of_le (hG b hb).2 hu.size⟩,fun b hb=>?_⟩
 rcases hf with hf | ⟨b',hb',hl⟩
 ·subst hf;exact ⟨(h3 b hb).1,hno b hb⟩
 ·rw [hb'] at hb
  cases hb
  exact ⟨Nat.le_trans hS hl,fun hb=>absurd (hG _ hb).2 (by omega)⟩
end
theorem Ext.own {w w₁ w':World} {S:Nat} (h:Ext w w₁) (k:Upd (fun b=>S≤b) w₁ w') (hS:w.heap.size≤S):Ext w w':=h.beyond k fun x hx=>Nat.le_trans hS hx
end
abbrev St:=Option (List UInt8)
def takeS (k:Nat):St→Nat×Nat×St
 | some l=>if l.length<k then (0,4,none) else (fromLE (l.take k),0,some (l.drop k))
 | none=>(0,4,none)
def cutS (k:Nat):St→List UInt8×Nat×St
 | some l=>if l.length<k then ([],4,none) else (l.take k,0,some (l.drop k))
 | none=>([],4,none)
def rowS (s:St):List UInt8×Nat×St:=if (takeS 1 s).2.1=0 then cutS (takeS 1 s).1 (takeS 1 s).2.2 else ([],4,none)
def leftS:St→Nat
 | some l=>l.length
 | none=>0
theorem takeS_cases (k:Nat) (s:St):takeS k s=(0,4,none)∨∃ l,s=some l∧k≤l.length∧takeS k s=(fromLE (l.take k),0,some (l.drop k)):=by
 cases s with
 | none=>exact .inl rfl
 | some l =>
  by_cases h:l.length<k
  ·exact .inl (by simp [takeS,h])
  ·exact .inr ⟨l,rfl,by omega,by simp [takeS,h]⟩
theorem takeS_lt (k:Nat) (s:St):(takeS k s).1<256 ^ k:=by
 rcases takeS_cases k s with h | ⟨l,_,hk,h⟩
 ·rw [h];exact Nat.pow_pos (by omega)
 ·rw [h]
  have:=fromLE_lt (l.take k)
  simpa [Nat.min_eq_left hk] using this
theorem takeS_err {k:Nat} {s:St} (h:(takeS k s).2.1≠0):takeS k s=(0,4,none):=by
 rcases takeS_cases k s with h' | ⟨l,_,hk,h'⟩
 ·exact h'
 ·rw [h'] at h;exact absurd rfl h
theorem cutS_cases (k:Nat) (s:St):cutS k s=([],4,none)∨∃ l,s=some l∧k≤l.length∧cutS k s=(l.take k,0,some (l.drop k)):=by
 cases s with
 | none=>exact .inl rfl
 | some l =>
  by_cases h:l.length<k
  ·exact .inl (by simp [cutS,h])
  ·exact .inr ⟨l,rfl,by omega,by simp [cutS,h]⟩
theorem rowS_err {s:St} (h:(rowS s).2.1≠0):rowS s=([],4,none):=by
 unfold rowS at h ⊢
 split
 ·rename_i h0
  rw [if_pos h0] at h
  rcases cutS_cases (takeS 1 s).1 (takeS 1 s).2.2 with h' | ⟨l,_,_,h'⟩
  ·exact h'
  ·rw [h'] at h;exact absurd rfl h
 ·rfl
theorem rowS_len (s:St):(rowS s).1.length<256:=by
 unfold rowS
 split
 ·have hlt:=takeS_lt 1 s
  rcases cutS_cases (takeS 1 s).1 (takeS 1 s).2.2 with h' | ⟨l,_,_,h'⟩
  ·rw [h'];decide
  ·rw [h']
   simp only [List.length_take]
   omega
 ·decide
def RdIn (G:Nat→Prop) (w:World) (r:Nat):St→Prop
 | some l=>ReaderIn G w r l false
 | none=>∃ l,ReaderIn G w r l true
theorem ReaderIn.updG {F G:Nat→Prop} {w w':World} {r:Nat} {l:List UInt8} {no:Bool} (h:ReaderIn G w r l no) (k:Upd F w w') (hr:¬ F r) (hG:∀ x,G x→¬ F x):ReaderIn G w' r l no:=by
 obtain ⟨a,c,h1,h2,h3,h4⟩:=h.at_
 exact ⟨a,c,Upd.get k h1 hr,RowAt.upd h2 k fun p hp=>hG _ (h4 p hp),h3,h4⟩
theorem RdIn.upd {F G:Nat→Prop} {w w':World} {r:Nat}:∀ {s:St},RdIn G w r s→Upd F w w'→¬ F r→(∀ x,G x→¬ F x)→RdIn G w' r s
 | some l,h,k,hr,hG=>ReaderIn.updG h k hr hG
 | none,⟨l,h⟩,k,hr,hG=>⟨l,h.updG k hr hG⟩
theorem RdIn.ext {G:Nat→Prop} {w w':World} {r:Nat} {s:St} (h:RdIn G w r s) (k:Ext w w'):RdIn G w' r s:=h.upd k (fun h=>h) fun _ _ h=>h
theorem rdTake {G:Nat→Prop} {w:World} {r k:Nat} {s:St} (hk:isSz k=true) (hG:¬ G r) (h:RdIn G w r s) :
  CallsR prog K.ends_Reader_Take #[.pointer (some ⟨r,0,none⟩),.int .i64 k] w fun v w'=>Upd (·=r) w w'∧v= .tuple #[.int .u64 ((takeS k s).1:Nat),.int .i64 ((takeS k s).2.1:Nat)]∧RdIn G w' r (takeS k s).2.2:=by
 cases s with
 | none =>
  obtain ⟨l,h⟩:=h
  refine (ends_Reader_Take_in r k l true w hk hG h).mono ?_
  rintro v w' ⟨hu,hv⟩
  rw [if_pos (.inl rfl)] at hv
  exact ⟨hu,hv.1,l,hv.2⟩
 | some l =>
  refine (ends_Reader_Take_in r k l false w hk hG h).mono ?_
  rintro v w' ⟨hu,hv⟩
  refine ⟨hu,?_⟩
  unfold takeS
  by_cases hl:l.length<k
  ·rw [if_pos (.inr hl)] at hv
   simp only [if_pos hl]
   exact ⟨hv.1,l,hv.2⟩
  ·rw [if_neg (by rintro (h | h);cases h;exact hl h)] at hv
   simp only [if_neg hl]
   exact hv
theorem rdCut {G:Nat→Prop} {w:World} {r k:Nat} {s:St} (hG:¬ G r) (h:RdIn G w r s) :
  CallsR prog K.ends_Reader_cut #[.pointer (some ⟨r,0,none⟩),.int .i64 k] w fun v w'=>Upd (·=r) w w'∧(∃ a c,v= .tuple #[.slice a (cutS k s).1.length c,.int .i64 ((cutS k s).2.1:Nat)]∧BytesAt w' a (cutS k s).1)∧RdIn G w' r (cutS k s).2.2:=by
 cases s with
 | none =>
  obtain ⟨l,h⟩:=h
  refine (ends_Reader_cut_in r k l true w hG h).mono ?_
  rintro v w' ⟨hu,hv⟩
  rw [if_pos (.inl rfl)] at hv
  exact ⟨hu,⟨none,0,hv.1,BytesAt.nil _ _⟩,l,hv.2⟩
 | some l =>
  refine (ends_Reader_cut_in r k l false w hG h).mono ?_
  rintro v w' ⟨hu,hv⟩
  refine ⟨hu,?_⟩
  unfold cutS
  by_cases hl:l.length<k
  ·rw [if_pos (.inr hl)] at hv
   simp only [if_pos hl]
   exact ⟨⟨none,0,hv.1,BytesAt.nil _ _⟩,l,hv.2⟩
  ·rw [if_neg (by rintro (h | h);cases h;exact hl h)] at hv
   simp only [if_neg hl]
   obtain ⟨a,c,h1,h2,h3⟩:=hv
   have:(l.take k).length=k:=by simp;omega
   exact ⟨⟨a,c,by rw [this];exact h1,h2⟩,h3⟩
theorem rdRow {G:Nat→Prop} {w:World} {r:Nat} {s:St} (hG:¬ G r) (h:RdIn G w r s) :
  CallsR prog K.ends_Reader_Row #[.pointer (some ⟨r,0,none⟩)] w fun v w'=>Upd (·=r) w w'∧(∃ a c,v= .tuple #[.slice a (rowS s).1.length c,.int .i64 ((rowS s).2.1:Nat)]∧BytesAt w' a (rowS s).1∧(rowS s).1.length≤c∧∀ p,a=some p→w.heap.size≤p.block∧p.block<w'.heap.size)∧RdIn G w' r (rowS s).2.2:=by
 apply ends_Reader_Row.sh
 unfold ends_Reader_Row.body
 refine (rdTake (k:=1) (by decide) hG h).mono ?_
 rintro _ w₁ ⟨hu,rfl,hr⟩
 refine ⟨_,_,rfl,br_ne (fun he=>?_) fun he=>?_⟩
 ·have he':=takeS_err (k:=1) (s:=s) (by omega)
  have hrow:rowS s=([],4,none):=by unfold rowS;rw [he'];rfl
  rw [he'] at hr ⊢
  rw [hrow]
  exact ⟨hu,⟨none,0,rfl,BytesAt.nil _ _,Nat.le_refl _,fun _ h=>by cases h⟩,hr⟩
 ·have he0:(takeS 1 s).2.1=0:=by omega
  have hrow:rowS s=cutS (takeS 1 s).1 (takeS 1 s).2.2:=by unfold rowS;rw [if_pos he0]
  have hlt:=takeS_lt 1 s
  rw [w64n (by omega)]
  refine (rdCut hG hr).mono ?_
  rintro _ w₂ ⟨hu2,⟨a,c,rfl,hb⟩,hr2⟩
  rw [← hrow] at hb hr2 ⊢
  have hlen:=rowS_len s
  refine ⟨_,_,_,_,rfl,append_copy hb (by omega) fun a' c' w₃ he hb' hc hf hn=>?_⟩
  refine ⟨(hu.trans hu2).trans he.ext,⟨a',c',rfl,hb',hc,fun p hp=>⟨?_,?_⟩⟩,hr2.ext he⟩
  ·exact Nat.le_trans (Nat.le_trans hu.size hu2.size) (hf p hp)
  ·by_cases hl:(rowS s).1=[]
   ·rw [hn hl] at hp;cases hp
   ·obtain ⟨b,o,hab,hlt⟩:=RowAt.blk hb' (by simpa using hl)
    rw [hab] at hp;cases hp;exact hlt
theorem rdLeft {G:Nat→Prop} {w:World} {r:Nat} {s:St} (h:RdIn G w r s) :
  CallsR prog K.ends_Reader_Left #[.pointer (some ⟨r,0,none⟩)] w fun v w'=>v= .int .i64 (leftS s:Nat)∧w'=w:=by
 apply ends_Reader_Left.sh
 unfold ends_Reader_Left.body
 cases s with
 | none =>
  obtain ⟨l,h⟩:=h
  refine (ends_Reader_off_spec r l true w h).mono ?_
  rintro _ _ ⟨rfl,rfl⟩
  obtain ⟨a,c,hr,_⟩:=h.at_
  refine ⟨_,rfl,?_⟩
  simp only [br_false,nilC_some',add_lit,Nat.zero_add]
  exact ⟨true,cell_of hr rfl,by simp [leftS]⟩
 | some l =>
  refine (ends_Reader_off_spec r l false w h).mono ?_
  rintro _ _ ⟨rfl,rfl⟩
  obtain ⟨a,c,hr,_⟩:=ReaderIn.at_ h
  refine ⟨_,rfl,?_⟩
  simp only [br_false,nilC_some',add_lit,Nat.zero_add]
  exact ⟨false,cell_of hr rfl,a,l.length,c,cell_of hr rfl,by simp [leftS]⟩
def RRdIn (G:Nat→Prop) (w:World) (r:Nat):St→Prop
 | some l=>RReaderIn G w r l false∧l.length≤1000000000000
 | none=>∃ l,RReaderIn G w r l true
theorem RReaderIn.updG {F G:Nat→Prop} {w w':World} {r:Nat} {l:List UInt8} {no:Bool} (h:RReaderIn G w r l no) (k:Upd F w w') (hr:¬ F r) (hG:∀ x,G x→¬ F x):RReaderIn G w' r l no:=by
 obtain ⟨a,c,h1,h2,h3,h4⟩:=h.at_
 exact ⟨a,c,Upd.get k h1 hr,RowAt.upd h2 k fun p hp=>hG _ (h4 p hp),h3,h4⟩
theorem RRdIn.upd {F G:Nat→Prop} {w w':World} {r:Nat}:∀ {s:St},RRdIn G w r s→Upd F w w'→¬ F r→(∀ x,G x→¬ F x)→RRdIn G w' r s
 | some l,h,k,hr,hG=>⟨RReaderIn.updG h.1 k hr hG,h.2⟩
 | none,⟨l,h⟩,k,hr,hG=>⟨l,h.updG k hr hG⟩
theorem RRdIn.ext {G:Nat→Prop} {w w':World} {r:Nat} {s:St} (h:RRdIn G w r s) (k:Ext w w'):RRdIn G w' r s:=h.upd k (fun h=>h) fun _ _ h=>h
theorem rrdTake {G:Nat→Prop} {w:World} {r k:Nat} {s:St} (hk:isSz k=true) (hG:¬ G r) (h:RRdIn G w r s) :
  CallsR prog K.carrackref01_Reader_Take #[.pointer (some ⟨r,0,none⟩),.int .i64 k] w fun v w'=>Upd (·=r) w w'∧v= .tuple #[.int .u64 ((takeS k s).1:Nat),.int .i64 ((takeS k s).2.1:Nat)]∧RRdIn G w' r (takeS k s).2.2:=by
 cases s with
 | none =>
  obtain ⟨l,h⟩:=h
  refine (carrackref01_Reader_Take_in r k l true w hk hG h).mono ?_
  rintro v w' ⟨hu,hv⟩
  rw [if_pos (.inl rfl)] at hv
  exact ⟨hu,hv.1,l,hv.2⟩
 | some l =>
  refine (carrackref01_Reader_Take_in r k l false w hk hG h.1).mono ?_
  rintro v w' ⟨hu,hv⟩
  refine ⟨hu,?_⟩
  unfold takeS
  by_cases hl:l.length<k
  ·rw [if_pos (.inr hl)] at hv
   simp only [if_pos hl]
   exact ⟨hv.1,l,hv.2⟩
  ·rw [if_neg (by rintro (h | h);cases h;exact hl h)] at hv
   simp only [if_neg hl]
   exact ⟨hv.1,hv.2,by have:=h.2;rw [List.length_drop];omega⟩
theorem rrdLeft {G:Nat→Prop} {w:World} {r:Nat} {s:St} (h:RRdIn G w r s) :
  CallsR prog K.carrackref01_Reader_Left #[.pointer (some ⟨r,0,none⟩)] w fun v w'=>v= .int .i64 (leftS s:Nat)∧w'=w:=by
 apply carrackref01_Reader_Left.sh
 unfold carrackref01_Reader_Left.body
 simp only [nilC_some',add_lit,Nat.zero_add]
 cases s with
 | none =>
  obtain ⟨l,h⟩:=h
  obtain ⟨a,c,hr,_⟩:=h.at_
  exact ⟨true,cell_of hr rfl,by simp [leftS]⟩
 | some l =>
  obtain ⟨a,c,hr,_⟩:=h.1.at_
  exact ⟨false,cell_of hr rfl,a,l.length,c,cell_of hr rfl,by simp [leftS]⟩
theorem rowS_some {l:List UInt8} (h1:1≤l.length):rowS (some l)=cutS (l.getD 0 0).toNat (some (l.drop 1)):=by
 have e1:fromLE (l.take 1)=(l.getD 0 0).toNat:=by cases l<;>simp [fromLE]
 have e2:takeS 1 (some l)=((l.getD 0 0).toNat,0,some (l.drop 1)):=by simp [takeS,Nat.not_lt.2 h1,e1]
 unfold rowS
 rw [e2];rfl
theorem rrdRow {G:Nat→Prop} {w:World} {r:Nat} {s:St} (hG:¬ G r) (h:RRdIn G w r s) :
  CallsR prog K.carrackref01_Reader_Row #[.pointer (some ⟨r,0,none⟩)] w fun v w'=>Upd (·=r) w w'∧(∃ a c,v= .tuple #[.slice a (rowS s).1.length c,.int .i64 ((rowS s).2.1:Nat)]∧BytesAt w' a (rowS s).1∧(rowS s).1.length≤c∧∀ p,a=some p→w.heap.size≤p.block∧p.block<w'.heap.size)∧RRdIn G w' r (rowS s).2.2:=by
 apply carrackref01_Reader_Row.sh
 unfold carrackref01_Reader_Row.body
 simp only [nilC_some',add_lit,Nat.zero_add]
 have bad:∀ {u:World} {l:List UInt8} {no:Bool},RReaderIn G u r l no→Ext w u→rowS s=([],4,none)→storeP u ⟨r,1,none⟩ [.bool true] fun w'=>Upd (·=r) w w'∧(∃ a c,Value.tuple #[.slice none 0 0,.int .i64 4]= .tuple #[.slice a (rowS s).1.length c,.int .i64 ((rowS s).2.1:Nat)]∧BytesAt w' a (rowS s).1∧(rowS s).1.length≤c∧∀ p,a=some p→w.heap.size≤p.block∧p.block<w'.heap.size)∧RRdIn G w' r (rowS s).2.2:=by
  intro u l no hr he hrow
  obtain ⟨a,c,h1,h2,h3,h4⟩:=hr.at_
  rw [hrow]
  refine store_of h1 (by simp) fun w' hput=>⟨Upd.trans he.ext hput.upd1,⟨none,0,rfl,BytesAt.nil _ _,Nat.le_refl _,fun _ h=>by cases h⟩,l,⟨a,c,hput.get,?_,h3,h4⟩⟩
  exact RowAt.upd h2 hput.upd1 fun p hp e=>hG (e ▸ h4 p hp)
 cases s with
 | none =>
  obtain ⟨l,h⟩:=h
  refine ⟨fun _=>False,fun w₁ hd=>?_,fun _ h=>h.elim⟩
  have hr:=h.updG hd.upd (fun h=>h) (fun _ _ h=>h)
  obtain ⟨a,c,h1,_⟩:=hr.at_
  refine ⟨(·=w₁),rfl,true,?_,?_⟩
  ·rintro u rfl;exact cell_of h1 rfl
  ·exact bad hr hd.upd rfl
 | some l =>
  obtain ⟨hrd,hsz⟩:=h
  refine ⟨fun u=>RReaderIn G u r l false∧Ext w u∧1≤l.length∧(l.getD 0 0).toNat≤l.length - 1,fun w₁ hd=>?_,?_⟩
  ·have hr:=hrd.updG hd.upd (fun h=>h) (fun _ _ h=>h)
   obtain ⟨a,c,h1,h2,h3,h4⟩:=hr.at_
   refine ⟨(·=w₁),rfl,false,?_,?_⟩
   ·rintro u rfl;exact cell_of h1 rfl
   ·refine ⟨a,l.length,c,?_,br_dec (fun hl=>?_) fun hl=>?_⟩
    ·rintro u rfl;exact cell_of h1 rfl
    ·refine bad hr hd.upd ?_
     have:takeS 1 (some l)=(0,4,none):=by simp only [takeS];rw [if_pos (by omega)]
     unfold rowS;rw [this];rfl
    ·have hl1:1≤l.length:=by omega
     refine ⟨a,l.length,c,?_,a,l.length,c,?_,?_⟩
     ·rintro u rfl;exact cell_of h1 rfl
     ·rintro u rfl;exact cell_of h1 rfl
     refine idx_byteS (S:=(·=w₁)) (l:=l) (i:=0) (a:=a) (by rintro u rfl;exact h2) ⟨_,rfl⟩ (by omega) (by omega) ?_
     have hbx:=(l.getD 0 0).toNat_lt
     have q1:IntKind.i64.wrap ((l.length:Int) - 1)=(l.length:Int) - 1:=w64 (by omega) (by omega)
     have q2:IntKind.i64.wrap ((l.getD (Int.toNat 0) 0).toNat:Int)=((l.getD 0 0).toNat:Int):=w64 (by simp only [Int.toNat_zero];omega) (by simp only [Int.toNat_zero];omega)
     simp only [q1,q2]
     refine br_dec (fun hlt=>?_) fun hge=>?_
     ·refine bad hr hd.upd ?_
      rw [rowS_some hl1]
      unfold cutS
      simp only []
      rw [if_pos (by rw [List.length_drop];omega)]
     ·exact ⟨hr,hd.upd,hl1,by omega⟩
  ·rintro w₅ ⟨hr,he,hl1,hle⟩
   obtain ⟨a,c,h1,h2,h3,h4⟩:=hr.at_
   have hbx:=(l.getD 0 0).toNat_lt
   have hrow:rowS (some l)=((l.drop 1).take (l.getD 0 0).toNat,0,some (l.drop (1+(l.getD 0 0).toNat))):=by
    rw [rowS_some hl1]
    unfold cutS
    simp only []
    rw [if_neg (by rw [List.length_drop];omega),List.drop_drop]
   refine ⟨a,l.length,c,cell_of h1 rfl,idx_byte h2 (by omega) (by omega) ?_⟩
   have q2:IntKind.i64.wrap ((l.getD (Int.toNat 0) 0).toNat:Int)=((l.getD 0 0).toNat:Int):=w64 (by simp only [Int.toNat_zero];omega) (by simp only [Int.toNat_zero];omega)
   have q3:IntKind.i64.wrap ((1:Int)+((l.getD 0 0).toNat:Int))=1+((l.getD 0 0).toNat:Int):=w64 (by omega) (by omega)
   simp only [q2,q3]
   have q4:((1:Int)+((l.getD 0 0).toNat:Int)).toNat=1+(l.getD 0 0).toNat:=by omega
   refine ⟨a,l.length,c,cell_of h1 rfl,slice_bytes_mid h2 (by omega) (by omega) (by omega) h3 (.inl rfl) fun a6 c6 hb6 hc6=>?_⟩
   have em:(l.take ((1:Int)+((l.getD 0 0).toNat:Int)).toNat).drop (Int.toNat 1)=(rowS (some l)).1:=by
    rw [hrow,q4]
    show (l.take (1+(l.getD 0 0).toNat)).drop 1=(l.drop 1).take (l.getD 0 0).toNat
    rw [List.drop_take,Nat.add_sub_cancel_left]
   have hlen:=rowS_len (some l)
   rw [em] at hb6 hc6 ⊢
   refine append_copy hb6 (by omega) fun a7 c7 w₆ he6 hb7 hc7 hf7 hn7=>?_
   have g1:=Ext.get he6 h1
   refine ⟨a,l.length,c,cell_of g1 rfl,slice_bytes_from (h2.ext he6) (by omega) (by omega) h3 fun a9 c9 hb9 hc9 ha9 _ _=>?_⟩
   rw [q4] at hb9 hc9 ⊢
   refine store_of g1 (by simp) fun w₇ hput=>⟨(he.trans he6).ext.trans hput.upd1,⟨a7,c7,?_,RowAt.upd hb7 hput.upd1 fun p hp e=>?_,hc7,fun p hp=>⟨Nat.le_trans he.size (hf7 p hp),?_⟩⟩,?_⟩
   ·rw [hrow];rfl
   ·have:=hf7 p hp
    have hr5:r<w₅.heap.size:=(Array.getElem?_eq_some_iff.1 h1).1
    omega
   ·by_cases hl:(rowS (some l)).1=[]
    ·rw [hn7 hl] at hp;cases hp
    ·obtain ⟨b,o,hab,hlt⟩:=RowAt.blk hb7 (by simpa using hl)
     rw [hab] at hp;cases hp;rw [hput.size];exact hlt
   ·rw [hrow]
    have hne:∀ p,a9=some p→G p.block:=by
     intro p hp
     rcases ha9 with ha9 | ha9
     ·exact h4 p (ha9 ▸ hp)
     ·rw [ha9] at hp
      cases a with
      | none=>simp at hp
      | some q =>
       simp at hp
       have:=h4 q rfl
       rw [← hp]
       unfold Addr.add
       split<;>exact this
    exact ⟨⟨a9,c9,hput.get,RowAt.upd hb9 hput.upd1 fun p hp e=>hG (e ▸ hne p hp),hc9,hne⟩,by rw [List.length_drop];omega⟩
end Go.Den
namespace Go.Den
def mayByte (c:UInt8):Bool:=(decide (97≤c.toNat) && decide (c.toNat≤122)) || (decide (48≤c.toNat) && decide (c.toNat≤57)) || decide (c.toNat=46) || decide (c.toNat=45)
def isName (s:List UInt8):Bool:=s.all mayByte && decide (1≤s.length) && decide (s.length≤12) && !(s == [46]) && !(s == [46,46])
structure Key where
 ino:Int
 what:UInt8
 name:ByteArray
 chunk:Int
 deriving DecidableEq
namespace Key
def zero:Key:=⟨0,0,ByteArray.empty,0⟩
def bytes (k:Key):List UInt8:=k.name.data.toList
def vals (k:Key):List Value:=[.int .i64 k.ino,bv k.what,.string k.name,.int .i64 k.chunk]
def may (k:Key):Bool:=decide (1≤k.ino) && decide (k.ino≤65535) &&
 ((decide (k.what.toNat=1) && decide (k.bytes=[]) && decide (k.chunk=0)) || (decide (k.what.toNat=2) && isName k.bytes && decide (k.chunk=0)) || (decide (k.what.toNat=3) && decide (k.bytes=[]) && decide (0≤k.chunk) && decide (k.chunk<8)))
def code (k:Key):List Int:=k.ino :: (k.what.toNat:Int) :: (k.bytes.map (fun b=>(b.toNat:Int)+1) ++ [0,k.chunk])
end Key
abbrev keyV (k:Key):Value:=.agg #[.int .i64 k.ino,bv k.what,.string k.name,.int .i64 k.chunk]
def listLt:List Int→List Int→Bool
 | [],[]=>false
 | [],_ :: _=>true
 | _ :: _,[]=>false
 | x :: xs,y :: ys=>decide (x<y) || (decide (x=y) && listLt xs ys)
theorem listLt_irrefl:∀ l,listLt l l=false
 | []=>rfl
 | x :: l=>by simp [listLt,listLt_irrefl l]
theorem listLt_trans:∀ {a b c},listLt a b=true→listLt b c=true→listLt a c=true
 | [],[],_,h,_=>by cases h
 | [],_ :: _,[],_,h=>by cases h
 | [],_ :: _,_ :: _,_,_=>rfl
 | _ :: _,[],_,h,_=>by cases h
 | _ :: _,_ :: _,[],_,h=>by cases h
 | x :: xs,y :: ys,z :: zs,h,k=>by
  simp only [listLt,Bool.or_eq_true,Bool.and_eq_true,decide_eq_true_eq] at h k ⊢
  rcases h with h | ⟨h1,h2⟩
  ·rcases k with k | ⟨k1,k2⟩
   ·exact .inl (by omega)
   ·exact .inl (by omega)
  ·rcases k with k | ⟨k1,k2⟩
   ·exact .inl (by omega)
   ·exact .inr ⟨by omega,listLt_trans h2 k2⟩
theorem listLt_total:∀ {a b},listLt a b=false→listLt b a=false→a=b
 | [],[],_,_=>rfl
 | [],_ :: _,h,_=>by cases h
 | _ :: _,[],_,h=>by cases h
 | x :: xs,y :: ys,h,k=>by
  simp only [listLt,Bool.or_eq_false_iff,Bool.and_eq_false_iff,decide_eq_false_iff_not] at h k
  have e:x=y:=by omega
  subst e
  have h2:listLt xs ys=false:=by rcases h.2 with h | h;exact absurd rfl h;exact h
  have k2:listLt ys xs=false:=by rcases k.2 with h | h;exact absurd rfl h;exact h
  rw [listLt_total h2 k2]
theorem map_append_inj {f:UInt8→Int} (hf:∀ x y,f x=f y→x=y) (h0:∀ x,f x≠0):∀ {a b:List UInt8} {x y:Int},a.map f ++ [0,x]=b.map f ++ [0,y]→a=b∧x=y
 | [],[],_,_,h=>by simpa using h
 | [],b :: bs,_,_,h=>by simp at h;exact absurd h.1.symm (h0 b)
 | a :: l,[],_,_,h=>by simp at h;exact absurd h.1 (h0 a)
 | a :: l,b :: bs,_,_,h=>by
  simp only [List.map_cons,List.cons_append,List.cons.injEq] at h
  obtain ⟨e1,e2⟩:=map_append_inj hf h0 h.2
  exact ⟨by rw [hf _ _ h.1,e1],e2⟩
theorem Key.code_inj {a b:Key} (h:a.code=b.code):a=b:=by
 obtain ⟨a1,a2,a3,a4⟩:=a
 obtain ⟨b1,b2,b3,b4⟩:=b
 simp only [Key.code,Key.bytes,List.cons.injEq] at h
 obtain ⟨h1,h2,h3⟩:=h
 obtain ⟨e1,e2⟩:=map_append_inj (f:=fun b:UInt8=>(b.toNat:Int)+1) (fun x y h=>UInt8.toNat_inj.1 (by have h':(x.toNat:Int)+1=(y.toNat:Int)+1:=h;omega)) (fun x=>by show (x.toNat:Int)+1≠0;omega) h3
 have e3:a3=b3:=by
  obtain ⟨⟨a3⟩⟩:=a3
  obtain ⟨⟨b3⟩⟩:=b3
  simp only at e1
  rw [e1]
 rw [h1,UInt8.toNat_inj.1 (by omega:a2.toNat=b2.toNat),e3,e2]
def before (a b:Key):Bool:=listLt a.code b.code
theorem before_irrefl (a:Key):before a a=false:=listLt_irrefl _
theorem before_trans {a b c:Key} (h:before a b=true) (k:before b c=true):before a c=true:=listLt_trans h k
theorem before_total {a b:Key} (h:before a b=false) (k:before b a=false):a=b:=Key.code_inj (listLt_total h k)
theorem before_asymm {a b:Key} (h:before a b=true):before b a=false:=by
 cases hb:before b a with
 | false=>rfl
 | true =>
  have:=before_trans h hb
  rw [before_irrefl] at this
  cases this
structure Fact where
 key:Key
 val:List UInt8
 deriving DecidableEq
structure Change where
 key:Key
 val:List UInt8
 gone:Bool
 deriving DecidableEq
def ordered:List Fact→Bool
 | []=>true
 | [_]=>true
 | x :: y :: l=>before x.key y.key && ordered (y :: l)
def Sorted (l:List Fact):Prop:=l.Pairwise fun a b=>before a.key b.key=true
theorem ordered_sorted:∀ {l:List Fact},ordered l=true ↔ Sorted l
 | []=>by simp [ordered,Sorted]
 | [x]=>by simp [ordered,Sorted]
 | x :: y :: l=>by
  unfold ordered
  rw [Bool.and_eq_true,ordered_sorted (l:=y :: l)]
  unfold Sorted
  rw [List.pairwise_cons (a:=x)]
  constructor
  ·rintro ⟨h1,h2⟩
   refine ⟨fun z hz=>?_,h2⟩
   rcases List.mem_cons.1 hz with rfl | hz
   ·exact h1
   ·exact before_trans h1 ((List.pairwise_cons.1 h2).1 z hz)
  ·rintro ⟨h1,h2⟩
   exact ⟨h1 y (by simp),h2⟩
def putF (c:Change):List Fact→List Fact
 | []=>if c.gone then [] else [⟨c.key,c.val⟩]
 | x :: l=>if x.key=c.key then (if c.gone then l else ⟨c.key,c.val⟩:: l) else if before c.key x.key then (if c.gone then x :: l else ⟨c.key,c.val⟩:: x :: l) else x :: putF c l
def applyL (l:List Fact) (cs:List Change):List Fact:=cs.foldl (fun l c=>putF c l) l
def applyF (l:List Fact) (cs:List Change):List Fact:=if ordered l then applyL l cs else []
theorem putF_mem {c:Change} {y:Fact}:∀ {l:List Fact},y∈putF c l→y∈l∨(c.gone=false∧y=⟨c.key,c.val⟩)
 | [],h=>by
  unfold putF at h
  split at h
  ·cases h
  ·rename_i hg
   exact .inr ⟨by simpa using hg,by simpa using h⟩
 | x :: l,h=>by
  unfold putF at h
  split at h
  ·split at h
   ·exact .inl (by simp [h])
   ·rename_i hg
    rcases List.mem_cons.1 h with h | h
    ·exact .inr ⟨by simpa using hg,h⟩
    ·exact .inl (by simp [h])
  ·split at h
   ·split at h
    ·exact .inl h
    ·rename_i hg
     rcases List.mem_cons.1 h with h | h
     ·exact .inr ⟨by simpa using hg,h⟩
     ·exact .inl h
   ·rcases List.mem_cons.1 h with h | h
    ·exact .inl (by simp [h])
    ·rcases putF_mem h with h | h
     ·exact .inl (by simp [h])
     ·exact .inr h
theorem putF_sorted {c:Change}:∀ {l:List Fact},Sorted l→Sorted (putF c l)
 | [],h=>by
  unfold putF
  split
  ·exact List.Pairwise.nil
  ·exact List.pairwise_singleton _ _
 | x :: l,h=>by
  obtain ⟨h1,h2⟩:=List.pairwise_cons.1 h
  unfold putF
  split
  ·rename_i he
   split
   ·exact h2
   ·refine List.pairwise_cons.2 ⟨fun y hy=>?_,h2⟩
    have:=h1 y hy
    rw [he] at this
    exact this
  ·rename_i he
   split
   ·rename_i hb
    split
    ·exact h
    ·refine List.pairwise_cons.2 ⟨fun y hy=>?_,h⟩
     rcases List.mem_cons.1 hy with rfl | hy
     ·exact hb
     ·exact before_trans hb (h1 y hy)
   ·rename_i hb
    refine List.pairwise_cons.2 ⟨fun y hy=>?_,putF_sorted h2⟩
    rcases putF_mem hy with hy | ⟨_,rfl⟩
    ·exact h1 y hy
    ·cases hx:before x.key c.key with
     | true=>rfl
     | false=>exact absurd (before_total hx (by simpa using hb)) he
theorem applyL_sorted:∀ {cs:List Change} {l:List Fact},Sorted l→Sorted (applyL l cs)
 | [],l,h=>h
 | c :: cs,l,h=>applyL_sorted (cs:=cs) (putF_sorted h)
theorem putF_length (c:Change):∀ (l:List Fact),(putF c l).length≤l.length+1
 | []=>by unfold putF;split<;>simp
 | x :: l=>by
  have:=putF_length c l
  unfold putF
  split
  ·split<;>simp<;>omega
  ·split
   ·split<;>simp<;>omega
   ·simp;omega
def placeF (l:List Fact) (k:Key):Nat:=(l.takeWhile fun f=>before f.key k).length
theorem placeF_le (l:List Fact) (k:Key):placeF l k≤l.length:=by
 unfold placeF
 induction l with
 | nil=>simp
 | cons x l ih =>
  rw [List.takeWhile_cons]
  split
  ·simp;exact ih
  ·simp
theorem placeF_cons (x:Fact) (l:List Fact) (k:Key):placeF (x :: l) k=if before x.key k then placeF l k+1 else 0:=by
 unfold placeF
 rw [List.takeWhile_cons]
 split<;>simp
theorem placeF_at:∀ {l:List Fact} {k:Key},Sorted l→∀ (i:Nat) (hi:i<l.length),(before l[i].key k=true ↔ i<placeF l k)
 | x :: l,k,h,i,hi=>by
  obtain ⟨h1,h2⟩:=List.pairwise_cons.1 h
  rw [placeF_cons]
  cases i with
  | zero =>
   simp only [List.getElem_cons_zero]
   split
   ·rename_i hb;simp [hb]
   ·rename_i hb;simp [hb]
  | succ i =>
   simp only [List.getElem_cons_succ]
   have:=placeF_at h2 i (by simpa using hi) (k:=k)
   split
   ·rw [this];omega
   ·rename_i hb
    constructor
    ·intro hx
     have:=before_trans (h1 _ (List.getElem_mem _)) hx
     rw [this] at hb
     exact absurd rfl hb
    ·intro hx;omega
theorem putF_place {c:Change}:∀ {l:List Fact},Sorted l→putF c l=(if hp:placeF l c.key<l.length∧(∀ h:placeF l c.key<l.length,l[placeF l c.key].key=c.key) then
   (if c.gone then l.take (placeF l c.key) ++ l.drop (placeF l c.key+1) else l.set (placeF l c.key) ⟨c.key,c.val⟩)
  else if c.gone then l else l.take (placeF l c.key) ++ [⟨c.key,c.val⟩] ++ l.drop (placeF l c.key))
 | [],h=>by
  unfold putF
  rw [dif_neg (by simp)]
  simp
 | x :: l,h=>by
  obtain ⟨h1,h2⟩:=List.pairwise_cons.1 h
  have hpc:=placeF_cons x l c.key
  unfold putF
  by_cases he:x.key=c.key
  ·have hp0:placeF (x :: l) c.key=0:=by rw [hpc,if_neg (by rw [he,before_irrefl];simp)]
   rw [if_pos he,dif_pos (by rw [hp0];exact ⟨by simp,fun _=>by simpa using he⟩),hp0]
   simp
  ·rw [if_neg he]
   by_cases hb:before c.key x.key=true
   ·have hp0:placeF (x :: l) c.key=0:=by rw [hpc,if_neg (by rw [before_asymm hb];simp)]
    rw [if_pos hb,dif_neg (by rw [hp0];rintro ⟨_,hx⟩;exact he (hx (by simp))),hp0]
    simp
   ·rw [if_neg hb]
    have hbx:before x.key c.key=true:=by
     cases hx:before x.key c.key with
     | true=>rfl
     | false=>exact absurd (before_total hx (by simpa using hb)) he
    have hp1:placeF (x :: l) c.key=placeF l c.key+1:=by rw [hpc,if_pos hbx]
    rw [putF_place h2]
    by_cases hcond:placeF l c.key<l.length∧(∀ h:placeF l c.key<l.length,l[placeF l c.key].key=c.key)
    ·rw [dif_pos hcond,dif_pos (by rw [hp1];exact ⟨by simpa using hcond.1,fun _=>by simpa using hcond.2 hcond.1⟩),hp1]
     split<;>simp
    ·rw [dif_neg hcond,dif_neg (by
      rw [hp1]
      rintro ⟨k1,k2⟩
      exact hcond ⟨by simpa using k1,fun _=>by simpa using k2 k1⟩),hp1]
     split<;>simp
end Go.Den
namespace Go.Den
theorem str_beq (a b:ByteArray):(a.toList == b.toList)=(a.data.toList == b.data.toList):=by
 rw [ByteArray.toList_eq,ByteArray.toList_eq]
theorem path_may_spec (c:UInt8) (w:World):CallsR prog K.path_may #[bv c] w fun v w'=>v= .bool (mayByte c)∧w'=w:=by
 apply path_may.sh
 unfold path_may.body
 have fin:∀ {b:Bool},mayByte c=b→(fun v w'=>v=Value.bool (mayByte c)∧w'=w) (Value.bool b) w:=fun h=>⟨by rw [h],rfl⟩
 have e:∀ {b:Bool},(mayByte c=true ↔ b=true)→mayByte c=b:=fun h=>by rw [Bool.eq_iff_iff];exact h
 have hm:mayByte c=true ↔ (97≤c.toNat∧c.toNat≤122)∨(48≤c.toNat∧c.toNat≤57)∨c.toNat=46∨c.toNat=45:=by
  unfold mayByte
  simp only [Bool.or_eq_true,Bool.and_eq_true,decide_eq_true_eq]
  constructor
  ·rintro (((h | h) | h) | h)
   ·exact .inl h
   ·exact .inr (.inl h)
   ·exact .inr (.inr (.inl h))
   ·exact .inr (.inr (.inr h))
  ·rintro (h | h | h | h)
   ·exact .inl (.inl (.inl h))
   ·exact .inl (.inl (.inr h))
   ·exact .inl (.inr h)
   ·exact .inr h
 have yes:(97≤c.toNat∧c.toNat≤122)∨(48≤c.toNat∧c.toNat≤57)∨c.toNat=46∨c.toNat=45→(fun v w'=>v=Value.bool (mayByte c)∧w'=w) (Value.bool true) w:=fun h=>fin (hm.2 h)
 have no:¬ ((97≤c.toNat∧c.toNat≤122)∨(48≤c.toNat∧c.toNat≤57)∨c.toNat=46∨c.toNat=45)→(fun v w'=>v=Value.bool (mayByte c)∧w'=w) (Value.bool false) w:=fun h=>fin (by
  cases hb:mayByte c with
  | false=>rfl
  | true=>exact absurd (hm.1 hb) h)
 have dots:¬ (97≤c.toNat∧c.toNat≤122)→¬ (48≤c.toNat∧c.toNat≤57)→br ((c.toNat:Int) == 46) (br ((c.toNat:Int) == 46) ((fun v w'=>v=Value.bool (mayByte c)∧w'=w) (Value.bool true) w) ((fun v w'=>v=Value.bool (mayByte c)∧w'=w) (Value.bool false) w))
   (br ((c.toNat:Int) == 45) ((fun v w'=>v=Value.bool (mayByte c)∧w'=w) (Value.bool true) w) ((fun v w'=>v=Value.bool (mayByte c)∧w'=w) (Value.bool false) w)):=fun h1 h2 =>
  br_eq (fun h=>br_eq (fun _=>yes (by omega)) fun h'=>absurd h h') fun h=>br_eq (fun h'=>yes (by omega)) fun h'=>no (by omega)
 refine br_dec (fun h1=>br_dec (fun h2=>br_dec (fun _=>yes (by omega)) fun h=>absurd h2 h) fun h2=>br_dec (fun h3=>br_dec (fun h4=>by omega) fun h4=>dots (by omega) (by omega)) fun h3=>by omega) fun h1=>?_
 exact br_dec (fun h3=>br_dec (fun h4=>br_dec (fun _=>yes (by omega)) fun h=>absurd h4 h) fun h4=>dots (by omega) (by omega)) fun h3=>dots (by omega) (by omega)
theorem all_take_succ {α:Type} {l:List α} {i:Nat} (hi:i<l.length) (p:α→Bool):(l.take (i+1)).all p=((l.take i).all p && p l[i]):=by
 rw [List.take_succ_eq_append_getElem hi,List.all_append]
 simp
theorem size_data (s:ByteArray):s.size=s.data.toList.length:=by rw [Array.length_toList];rfl
theorem name_tail {s:ByteArray} (hall:s.data.toList.all mayByte=true) {w w':World} {R:Value→World→Prop} (hR:R (.bool (isName s.data.toList)) w') {p:Prop} [Decidable p] (hp:p ↔ 1≤s.data.toList.length) :
  br (decide p) (br (decide (((s.size:Nat):Int)≤12)) (br (!(s.toList == (⟨#[46]⟩: ByteArray).toList)) (R (Value.bool (!(s.toList == (⟨#[46,46]⟩: ByteArray).toList))) w') (R (Value.bool false) w')) (R (Value.bool false) w')) (R (Value.bool false) w'):=by
 have hn:isName s.data.toList=(decide (1≤s.data.toList.length) && decide (s.data.toList.length≤12) && !(s.data.toList == [46]) && !(s.data.toList == [46,46])):=by
  unfold isName
  rw [hall];rfl
 rw [hn] at hR
 have hsz:=size_data s
 rw [str_beq,str_beq]
 refine br_dec (fun h1=>br_dec (fun h2=>br_intro (fun h3=>?_) fun h3=>?_) fun h2=>?_) fun h1=>?_
 ·have h3':(!(s.data.toList == [46]))=true:=h3
  rw [decide_eq_true (hp.1 h1),decide_eq_true (by omega:s.data.toList.length≤12),h3'] at hR
  exact hR
 ·have h3':(!(s.data.toList == [46]))=false:=h3
  rw [h3'] at hR
  simpa using hR
 ·rw [decide_eq_false (p:=s.data.toList.length≤12) (by omega)] at hR
  simpa using hR
 ·rw [decide_eq_false (p:=1≤s.data.toList.length) (fun h=>h1 (hp.2 h))] at hR
  simpa using hR
theorem isName_false {s:List UInt8} (h:s.all mayByte=false):isName s=false:=by
 unfold isName
 rw [h];rfl
theorem all_false {l:List UInt8} {i:Nat} (hi:i<l.length) (h:mayByte l[i]=false):l.all mayByte=false:=by
 rw [List.all_eq_false]
 exact ⟨l[i],List.getElem_mem hi,by rw [h];simp⟩
theorem path_Name_spec (s:ByteArray) (hs:s.size<9223372036854775807) (w:World):CallsR prog K.path_Name #[.string s] w fun v w'=>v= .bool (isName s.data.toList)∧w'=w:=by
 apply path_Name.sh
 unfold path_Name.body
 have hsz:=size_data s
 refine ⟨fun x u=>∃ i:Nat,x=i∧i≤s.data.toList.length∧u=w∧(s.data.toList.take i).all mayByte=true,fun x _=>(s.data.toList.length - x).toNat,⟨0,rfl,by omega,rfl,by simp⟩,?_⟩
 rintro x u ⟨i,rfl,hi,rfl,ha⟩
 refine br_dec (fun hlt=>⟨by omega,?_⟩) fun hge=>?_
 ·have hi':i<s.data.toList.length:=by omega
  refine ⟨s.data.toList[i],by simp [hi'],?_⟩
  refine (path_may_spec _ _).mono ?_
  rintro _ _ ⟨rfl,rfl⟩
  refine ⟨_,rfl,br_intro (fun hb=>⟨?_,rfl⟩) fun hb=>?_⟩
  ·rw [isName_false (all_false hi' (by simpa using hb))]
  ·have e1:IntKind.i64.wrap ((i:Int)+1)=((i+1:Nat):Int):=w64 (by omega) (by omega)
   rw [e1]
   exact ⟨⟨i+1,rfl,hi',rfl,by rw [all_take_succ hi',ha];simpa using hb⟩,meas hi'⟩
 ·have:i=s.data.toList.length:=by omega
  subst this
  rw [List.take_length] at ha
  exact name_tail (w:=u) ha (R:=fun v w'=>v= .bool (isName s.data.toList)∧w'=u) ⟨rfl,rfl⟩ (by omega)
theorem carrackref05_Name_spec (s:ByteArray) (hs:s.size<9223372036854775807) (w:World):CallsR prog K.carrackref05_Name #[.string s] w fun v w'=>v= .bool (isName s.data.toList)∧w'=w:=by
 apply carrackref05_Name.sh
 unfold carrackref05_Name.body
 have hsz:=size_data s
 refine ⟨fun x u=>∃ i:Nat,x=i∧i≤s.data.toList.length∧u=w∧(s.data.toList.take i).all mayByte=true,fun x _=>(s.data.toList.length - x).toNat,⟨0,rfl,by omega,rfl,by simp⟩,?_⟩
 rintro x u ⟨i,rfl,hi,rfl,ha⟩
 refine br_dec (fun hlt=>⟨by omega,?_⟩) fun hge=>?_
 ·have hi':i<s.data.toList.length:=by omega
  refine ⟨s.data.toList[i],by simp [hi'],?_⟩
  have e1:IntKind.i64.wrap ((i:Int)+1)=((i+1:Nat):Int):=w64 (by omega) (by omega)
  rw [e1]
  generalize hc:s.data.toList[i]=c
  have hm:mayByte c=true ↔ (97≤c.toNat∧c.toNat≤122)∨(48≤c.toNat∧c.toNat≤57)∨c.toNat=46∨c.toNat=45:=by
   unfold mayByte
   simp only [Bool.or_eq_true,Bool.and_eq_true,decide_eq_true_eq]
   constructor
   ·rintro (((h | h) | h) | h)
    ·exact .inl h
    ·exact .inr (.inl h)
    ·exact .inr (.inr (.inl h))
    ·exact .inr (.inr (.inr h))
   ·rintro (h | h | h | h)
    ·exact .inl (.inl (.inl h))
    ·exact .inl (.inl (.inr h))
    ·exact .inl (.inr h)
    ·exact .inr h
  have yes:(97≤c.toNat∧c.toNat≤122)∨(48≤c.toNat∧c.toNat≤57)∨c.toNat=46∨c.toNat=45→(∃ k:Nat,((i+1:Nat):Int)=k∧k≤s.data.toList.length∧u=u∧(s.data.toList.take k).all mayByte=true)∧((s.data.toList.length:Int) - ((i+1:Nat):Int)).toNat<((s.data.toList.length:Int) - (i:Int)).toNat:=fun h =>
   ⟨⟨i+1,rfl,hi',rfl,by rw [all_take_succ hi',ha,hc,hm.2 h];rfl⟩,meas hi'⟩
  have no:¬ ((97≤c.toNat∧c.toNat≤122)∨(48≤c.toNat∧c.toNat≤57)∨c.toNat=46∨c.toNat=45)→(fun v w'=>v=Value.bool (isName s.data.toList)∧w'=u) (Value.bool false) u:=fun h=>⟨by
   rw [isName_false (all_false hi' (by
    rw [hc]
    cases hb:mayByte c with
    | false=>rfl
    | true=>exact absurd (hm.1 hb) h))],rfl⟩
  have dots:¬ (97≤c.toNat∧c.toNat≤122)→¬ (48≤c.toNat∧c.toNat≤57)→br ((c.toNat:Int) == 46) ((∃ k:Nat,((i+1:Nat):Int)=k∧k≤s.data.toList.length∧u=u∧(s.data.toList.take k).all mayByte=true)∧((s.data.toList.length:Int) - ((i+1:Nat):Int)).toNat<((s.data.toList.length:Int) - (i:Int)).toNat)
    (br (!((c.toNat:Int) == 45)) ((fun v w'=>v=Value.bool (isName s.data.toList)∧w'=u) (Value.bool false) u) ((∃ k:Nat,((i+1:Nat):Int)=k∧k≤s.data.toList.length∧u=u∧(s.data.toList.take k).all mayByte=true)∧((s.data.toList.length:Int) - ((i+1:Nat):Int)).toNat<((s.data.toList.length:Int) - (i:Int)).toNat)):=fun h1 h2 =>
   br_eq (fun h=>yes (by omega)) fun h=>br_intro (fun h'=>no (by have h0:(c.toNat:Int)≠45:=(by simpa using h');omega)) fun h'=>yes (by have h0:(c.toNat:Int)=45:=(by simpa using h');omega)
  exact br_dec (fun h1=>br_dec (fun h2=>yes (by omega)) fun h2=>br_dec (fun h3=>br_dec (fun h4=>by omega) fun h4=>dots (by omega) (by omega)) fun h3=>by omega) fun h1 =>
   br_dec (fun h3=>br_dec (fun h4=>yes (by omega)) fun h4=>dots (by omega) (by omega)) fun h3=>dots (by omega) (by omega)
 ·have:i=s.data.toList.length:=by omega
  subst this
  rw [List.take_length] at ha
  exact name_tail (w:=u) ha (R:=fun v w'=>v= .bool (isName s.data.toList)∧w'=u) ⟨rfl,rfl⟩ (by omega)
theorem Key.may_ino {k:Key} (h:¬ (1≤k.ino∧k.ino≤65535)):k.may=false:=by
 unfold Key.may
 by_cases h1:1≤k.ino
 ·rw [decide_eq_false (p:=k.ino≤65535) (fun h2=>h ⟨h1,h2⟩)];simp
 ·rw [decide_eq_false h1];simp
theorem Key.may_in {k:Key} (h:1≤k.ino∧k.ino≤65535):k.may=((decide (k.what.toNat=1) && decide (k.bytes=[]) && decide (k.chunk=0)) || (decide (k.what.toNat=2) && isName k.bytes && decide (k.chunk=0)) || (decide (k.what.toNat=3) && decide (k.bytes=[]) && decide (0≤k.chunk) && decide (k.chunk<8))):=by
 unfold Key.may
 rw [decide_eq_true h.1,decide_eq_true h.2];rfl
theorem empty_beq (k:Key):(k.name.toList == (⟨#[]⟩: ByteArray).toList)=decide (k.bytes=[]):=by
 rw [str_beq,Bool.eq_iff_iff]
 unfold Key.bytes
 simp
theorem fact_MayKey_spec (k:Key) (hn:k.name.size<9223372036854775807) (w:World):CallsR prog K.fact_MayKey #[keyV k] w fun v w'=>v= .bool k.may∧Ext w w':=by
 apply fact_MayKey.sh
 unfold fact_MayKey.body
 simp only [add_lit,Nat.zero_add]
 intro B1 w1 hn1
 have g:=hn1.get
 have hE:=hn1.upd
 refine ⟨_,cell_of g rfl,br_dec (fun h=>⟨by rw [Key.may_ino (by omega)],hE⟩) fun h1=>⟨_,cell_of g rfl,br_dec (fun h=>⟨by rw [Key.may_ino (by omega)],hE⟩) fun h2=>?_⟩⟩
 rw [Key.may_in ⟨by omega,by omega⟩]
 refine ⟨_,cell_of g rfl,br_eq (fun hw=>?_) fun hw1=>br_eq (fun hw=>?_) fun hw2=>br_eq (fun hw=>?_) fun hw3=>?_⟩
 ·refine ⟨_,_,_,_,cellsAt_of (o:=0) g (fun j v hj=>by simpa using hj),_,cell_of g rfl,_,cell_of g rfl,?_,hE⟩
  have e1:k.what.toNat=1:=by omega
  rw [e1,empty_beq]
  simp only [beq_self_eq_true,Bool.true_and,Bool.and_true]
  congr 1
  rw [Bool.eq_iff_iff]
  simp
 ·refine ⟨_,cell_of g rfl,?_⟩
  refine (path_Name_spec k.name hn w1).mono ?_
  rintro _ _ ⟨rfl,rfl⟩
  rename_i w1
  have e2:k.what.toNat=2:=by omega
  rw [e2]
  have hb:isName k.bytes=isName k.name.data.toList:=rfl
  rw [hb]
  refine ⟨_,rfl,br_intro (fun h=>⟨_,cell_of g rfl,?_,hE⟩) fun h=>⟨?_,hE⟩⟩
  ·rw [h]
   congr 1
   rw [Bool.eq_iff_iff]
   simp
  ·rw [h];simp
 ·have e3:k.what.toNat=3:=by omega
  rw [e3]
  refine ⟨_,cell_of g rfl,?_⟩
  rw [empty_beq]
  refine br_dec (fun h=>⟨_,cell_of g rfl,br_dec (fun h'=>⟨_,cell_of g rfl,?_,hE⟩) fun h'=>⟨?_,hE⟩⟩) fun h=>⟨?_,hE⟩
  ·rw [decide_eq_true h,decide_eq_true (by omega:0≤k.chunk)];simp
  ·rw [decide_eq_false (p:=0≤k.chunk) (by omega)];simp
  ·rw [decide_eq_false h];simp
 ·refine ⟨?_,hE⟩
  rw [decide_eq_false (p:=k.what.toNat=1) (by omega),decide_eq_false (p:=k.what.toNat=2) (by omega),decide_eq_false (p:=k.what.toNat=3) (by omega)]
  simp
theorem carrackref06_MayKey_spec (k:Key) (hn:k.name.size<9223372036854775807) (w:World):CallsR prog K.carrackref06_MayKey #[keyV k] w fun v w'=>v= .bool k.may∧Ext w w':=by
 apply carrackref06_MayKey.sh
 unfold carrackref06_MayKey.body
 simp only [add_lit,Nat.zero_add]
 intro B1 w1 hn1
 have g:=hn1.get
 have hE:=hn1.upd
 refine ⟨_,cell_of g rfl,br_dec (fun h=>⟨by rw [Key.may_ino (by omega)],hE⟩) fun h1=>⟨_,cell_of g rfl,br_dec (fun h=>⟨by rw [Key.may_ino (by omega)],hE⟩) fun h2=>?_⟩⟩
 rw [Key.may_in ⟨by omega,by omega⟩]
 refine ⟨_,cell_of g rfl,br_eq (fun hw=>?_) fun hw1=>br_eq (fun hw=>?_) fun hw2=>br_eq (fun hw=>?_) fun hw3=>?_⟩
 ·have e1:k.what.toNat=1:=by omega
  rw [e1]
  refine ⟨_,cell_of g rfl,?_⟩
  rw [empty_beq]
  refine br_dec (fun h=>⟨_,cell_of g rfl,?_,hE⟩) fun h=>⟨?_,hE⟩
  ·rw [decide_eq_true h]
   congr 1
   rw [Bool.eq_iff_iff]
   simp
  ·rw [decide_eq_false h];simp
 ·refine ⟨_,cell_of g rfl,?_⟩
  refine (carrackref05_Name_spec k.name hn w1).mono ?_
  rintro _ _ ⟨rfl,rfl⟩
  rename_i w1
  have e2:k.what.toNat=2:=by omega
  rw [e2]
  have hb:isName k.bytes=isName k.name.data.toList:=rfl
  rw [hb]
  refine ⟨_,rfl,br_intro (fun h=>⟨_,cell_of g rfl,?_,hE⟩) fun h=>⟨?_,hE⟩⟩
  ·rw [h]
   congr 1
   rw [Bool.eq_iff_iff]
   simp
  ·rw [h];simp
 ·have e3:k.what.toNat=3:=by omega
  rw [e3]
  refine ⟨_,cell_of g rfl,?_⟩
  rw [empty_beq]
  refine br_dec (fun h=>⟨_,cell_of g rfl,br_dec (fun h'=>⟨_,cell_of g rfl,?_,hE⟩) fun h'=>⟨?_,hE⟩⟩) fun h=>⟨?_,hE⟩
  ·rw [decide_eq_true h,decide_eq_true (by omega:0≤k.chunk)];simp
  ·rw [decide_eq_false (p:=0≤k.chunk) (by omega)];simp
  ·rw [decide_eq_false h];simp
 ·refine ⟨?_,hE⟩
  rw [decide_eq_false (p:=k.what.toNat=1) (by omega),decide_eq_false (p:=k.what.toNat=2) (by omega),decide_eq_false (p:=k.what.toNat=3) (by omega)]
  simp
def finKey (k:Key) (s:St):Key×Nat×St:=if k.may then (k,0,s) else (Key.zero,5,s)
def keyS (s:St):Key×Nat×St :=
 let a:=takeS 2 s
 let b:=takeS 1 a.2.2
 if b.2.1≠0 then (Key.zero,4,none)
 else if b.1=2 then
  let c:=rowS b.2.2
  if c.2.1≠0 then (Key.zero,4,none) else finKey ⟨a.1,UInt8.ofNat b.1,⟨c.1.toArray⟩,0⟩ c.2.2
 else if b.1=3 then
  let c:=takeS 1 b.2.2
  if c.2.1≠0 then (Key.zero,4,none) else finKey ⟨a.1,UInt8.ofNat b.1,ByteArray.empty,c.1⟩ c.2.2
 else finKey ⟨a.1,UInt8.ofNat b.1,ByteArray.empty,0⟩ b.2.2
theorem str_of {w:World} {a:Option Addr} {l:List UInt8} (h:BytesAt w a l) {K:ByteArray→Prop} (hk:K ⟨l.toArray⟩):strOfP w a l.length K:=by
 cases a with
 | none =>
  cases l with
  | nil=>exact hk
  | cons x l =>
   obtain ⟨b,o,e,_⟩:=RowAt.blk h (by simp)
   cases e
 | some q =>
  refine ⟨l,rfl,?_,hk⟩
  cases l with
  | nil=>trivial
  | cons x l =>
   obtain ⟨b,o,e,_⟩:=RowAt.blk h (by simp)
   cases e
   exact h.cells
theorem wu8n {x:Nat} (h:x<256):Value.int .u8 (IntKind.u8.wrap (x:Int))=bv (UInt8.ofNat x):=by rw [bv_mod,Nat.mod_eq_of_lt h]
abbrev KeyAt (u:World) (B:Nat) (k:Key):Prop:=u.heap[B]?=some (.cells k.vals.toArray T.api_Key (0,0))
theorem key_put {w:World} {B:Nat} {cs:Array Value} {k:Key} {K:World→Prop} (hc:w.heap[B]?=some (.cells cs T.api_Key (0,0))) (hs:cs.size=4) (hk:∀ w',Upd (·=B) w w'→w'.heap.size=w.heap.size→KeyAt w' B k→K w') :
  storeP w ⟨B,0,none⟩ [.int .i64 k.ino,bv k.what,.string k.name,.int .i64 k.chunk] K:=put_all hc (by rw [hs];rfl) hk
theorem key_cells {w:World} {B:Nat} {k:Key} (hc:KeyAt w B k):cellsAt w ⟨B,0,none⟩ [.int .i64 k.ino,bv k.what,.string k.name,.int .i64 k.chunk] 0:=cells_all hc
theorem key_name {w:World} {B:Nat} {k:Key} {n:ByteArray} {K:World→Prop} (hc:KeyAt w B k) (hk:∀ w',Upd (·=B) w w'→KeyAt w' B { k with name:=n }→K w'):storeP w ⟨B,2,none⟩ [.string n] K :=
 store_of hc (by simp [Key.vals]) fun w' hp=>hk w' hp.upd1 hp.get
theorem key_chunk {w:World} {B:Nat} {k:Key} {n:Int} {K:World→Prop} (hc:KeyAt w B k) (hk:∀ w',Upd (·=B) w w'→KeyAt w' B { k with chunk:=n }→K w'):storeP w ⟨B,3,none⟩ [.int .i64 n] K :=
 store_of hc (by simp [Key.vals]) fun w' hp=>hk w' hp.upd1 hp.get
theorem key_out {u:World} {B:Nat} {k k0:Key} {e:Int} {R:Value→World→Prop} (g:KeyAt u B k0) (hR:∀ u',Upd (·=B) u u'→R (.tuple #[keyV k,.int .i64 e]) u') :
  storeP u ⟨B,0,none⟩ [.int .i64 k.ino,bv k.what,.string k.name,.int .i64 k.chunk] fun w'=>∃ x y:Int,∃ n:ByteArray,∃ z:Int,cellsAt w' ⟨B,0,none⟩ [.int .i64 x,.int .u8 y,.string n,.int .i64 z] 0∧R (.tuple #[.agg #[.int .i64 x,.int .u8 y,.string n,.int .i64 z],.int .i64 e]) w' :=
 key_put g rfl fun w' hu _ hg=>⟨_,_,_,_,key_cells hg,hR w' hu⟩
theorem key_fin {f:FuncId} {u:World} {B1 B2:Nat} {k k0:Key} {R:Value→World→Prop} (hB:B1≠B2) (g1:KeyAt u B1 k0) (g2:KeyAt u B2 k) (hm:CallsR prog f #[keyV k] u fun v w'=>v= .bool k.may∧Ext u w')
  (hR:∀ u',Upd (·=B1) u u'→R (.tuple #[keyV (if k.may then k else Key.zero),.int .i64 (if k.may then 0 else 5)]) u') :
  ∃ x y:Int,∃ n:ByteArray,∃ z:Int,cellsAt u ⟨B2,0,none⟩ [.int .i64 x,.int .u8 y,.string n,.int .i64 z] 0∧CallsR prog f #[.agg #[.int .i64 x,.int .u8 y,.string n,.int .i64 z]] u fun v w'=>∃ b:Bool,v= .bool b∧br (!b)
   (storeP w' ⟨B1,0,none⟩ [.int .i64 Key.zero.ino,bv Key.zero.what,.string Key.zero.name,.int .i64 Key.zero.chunk] fun w'=>∃ x y:Int,∃ n:ByteArray,∃ z:Int,cellsAt w' ⟨B1,0,none⟩ [.int .i64 x,.int .u8 y,.string n,.int .i64 z] 0∧R (.tuple #[.agg #[.int .i64 x,.int .u8 y,.string n,.int .i64 z],.int .i64 5]) w')
   (∃ x y:Int,∃ n:ByteArray,∃ z:Int,cellsAt w' ⟨B2,0,none⟩ [.int .i64 x,.int .u8 y,.string n,.int .i64 z] 0∧storeP w' ⟨B1,0,none⟩ [.int .i64 x,.int .u8 y,.string n,.int .i64 z] fun w'=>∃ x y:Int,∃ n:ByteArray,∃ z:Int,cellsAt w' ⟨B1,0,none⟩ [.int .i64 x,.int .u8 y,.string n,.int .i64 z] 0∧R (.tuple #[.agg #[.int .i64 x,.int .u8 y,.string n,.int .i64 z],.int .i64 0]) w'):=by
 refine ⟨_,_,_,_,key_cells g2,hm.mono ?_⟩
 rintro _ w' ⟨rfl,he⟩
 refine ⟨_,rfl,br_intro (fun hb=>?_) fun hb=>?_⟩
 ·have hb':k.may=false:=by simpa using hb
  rw [hb'] at hR
  exact key_out (Ext.get he g1) fun u' hu=>hR u' ((Upd.ext he).trans hu)
 ·have hb':k.may=true:=by simpa using hb
  rw [hb'] at hR
  exact ⟨_,_,_,_,key_cells (Ext.get he g2),key_out (Ext.get he g1) fun u' hu=>hR u' ((Upd.ext he).trans hu)⟩
theorem empty_small:ByteArray.empty.size<9223372036854775807:=by decide
theorem finKey_is (k:Key) (s:St):finKey k s=(if k.may then k else Key.zero,if k.may then 0 else 5,s):=by unfold finKey;split<;>rfl
theorem finErr (b:Bool):(((if b=true then 0 else 5:Nat):Nat):Int)=if b=true then 0 else 5:=by cases b<;>rfl
theorem fact_GetKey_spec {G:Nat→Prop} {w:World} {r:Nat} {s:St} (hG:¬ G r) (hGs:∀ x,G x→x<w.heap.size) (hrs:r<w.heap.size) (h:RdIn G w r s) :
  CallsR prog K.fact_GetKey #[.pointer (some ⟨r,0,none⟩)] w fun v w'=>v= .tuple #[keyV (keyS s).1,.int .i64 ((keyS s).2.1:Nat)]∧Upd (·=r) w w'∧RdIn G w' r (keyS s).2.2:=by
 apply fact_GetKey.sh
 suffices H:∀ R:Value→World→Prop,(∀ v w',v= .tuple #[keyV (keyS s).1,.int .i64 ((keyS s).2.1:Nat)]∧Upd (·=r) w w'∧RdIn G w' r (keyS s).2.2→R v w')→fact_GetKey.body (some ⟨r,0,none⟩) w R from H _ fun _ _ h=>h
 intro R hR
 unfold fact_GetKey.body
 simp only [add_lit,Nat.zero_add]
 intro B1 w₁ hn1
 have hb1:B1=w.heap.size:=hn1.num
 have g1:KeyAt w₁ B1 Key.zero:=hn1.get
 have done:∀ {u u':World} {B:Nat} {s':St},Upd (·=r) w u→RdIn G u r s'→B1≤B→Upd (·=B) u u'→Upd (·=r) w u'∧RdIn G u' r s':=fun {u u' B s'} h1 h2 hB h3 =>
  ⟨Upd.mono (F:=fun x=>x=r∨x=B) ((h1.mono fun _ _ h=>.inl h).trans (h3.mono fun _ _ h=>.inr h)) fun x hx hor=>by
   rcases hor with h | h
   ·exact h
   ·omega,
   h2.upd h3 (by omega) fun x hx e=>by have:=hGs x hx;omega⟩
 refine (rdTake (k:=2) (by decide) hG (h.ext hn1.upd)).mono ?_
 rintro _ w₂ ⟨hu2,rfl,hr2⟩
 have u2:Upd (·=r) w w₂:=(Upd.ext hn1.upd).trans hu2
 have g2:KeyAt w₂ B1 Key.zero:=hu2.get g1 (by omega)
 have hs2:B1<w₂.heap.size:=(Array.getElem?_eq_some_iff.1 g2).1
 have a2:=takeS_lt 2 s
 have h256:(256:Nat) ^ 2=65536:=by decide
 refine ⟨_,_,rfl,br_eq (fun he=>?_) fun _=>?_⟩
 ·exfalso
  rcases takeS_cases 2 s with e | ⟨l,_,_,e⟩
  ·rw [e] at he;exact absurd he (by decide)
  ·rw [e] at he;simp at he
 refine (rdTake (k:=1) (by decide) hG hr2).mono ?_
 rintro _ w₄ ⟨hu4,rfl,hr4⟩
 have u4:=u2.trans hu4
 have g4:KeyAt w₄ B1 Key.zero:=hu4.get g2 (by omega)
 have hs4:=hu4.size
 have a4:=takeS_lt 1 (takeS 2 s).2.2
 have hk:keyS s=keyS s:=rfl
 generalize ha:takeS 2 s=A at *
 generalize hb:takeS 1 A.2.2=B at *
 have hkey:keyS s=if B.2.1≠0 then (Key.zero,4,none)
   else if B.1=2 then (if (rowS B.2.2).2.1≠0 then (Key.zero,4,none) else finKey ⟨A.1,UInt8.ofNat B.1,⟨(rowS B.2.2).1.toArray⟩,0⟩ (rowS B.2.2).2.2)
   else if B.1=3 then (if (takeS 1 B.2.2).2.1≠0 then (Key.zero,4,none) else finKey ⟨A.1,UInt8.ofNat B.1,ByteArray.empty,(takeS 1 B.2.2).1⟩ (takeS 1 B.2.2).2.2)
   else finKey ⟨A.1,UInt8.ofNat B.1,ByteArray.empty,0⟩ B.2.2:=by
  unfold keyS
  simp only [ha,hb]
 refine ⟨_,_,rfl,?_⟩
 rw [wu8n (by omega),w64n (by omega)]
 refine new_put (vs:=Key.vals ⟨A.1,UInt8.ofNat B.1,ByteArray.empty,0⟩) rfl fun B2 w₆ hb2 hs6 he6 g6=>?_
 have u6:=u4.then he6
 have r6:=hr4.ext he6
 have g16:KeyAt w₆ B1 Key.zero:=Ext.get he6 g4
 refine br_ne (fun hne=>?_) fun he=>?_
 ·refine br_ne (fun _=>?_) fun h=>absurd h hne
  have hB:B=(0,4,none):=by rw [← hb];exact takeS_err (by rw [hb];omega)
  rw [if_pos (by omega)] at hkey;rw [hkey] at hR
  rw [hB] at r6 ⊢
  exact key_out (k:=Key.zero) g16 fun u' hu=>hR _ _ ⟨rfl,done u6 r6 (Nat.le_refl _) hu⟩
 ·rw [if_neg (by omega)] at hkey
  refine br_eq (fun h2=>?_) fun h2=>?_
  ·rw [if_pos (by omega)] at hkey
   refine (rdRow hG r6).mono ?_
   rintro _ w₁₁ ⟨hu11,⟨a,c,rfl,hby,hc,hf⟩,hr11⟩
   have u11:=u6.trans hu11
   have hs11:=hu11.size
   have g11:KeyAt w₁₁ B1 Key.zero:=hu11.get g16 (by omega)
   have g12:KeyAt w₁₁ B2 ⟨A.1,UInt8.ofNat B.1,ByteArray.empty,0⟩:=hu11.get g6 (by omega)
   refine ⟨_,_,_,_,rfl,str_of hby (key_name g12 fun w₁₂ hu12 g22=>?_)⟩
   have g21:KeyAt w₁₂ B1 Key.zero:=hu12.get g11 (by omega)
   obtain ⟨u12,r12⟩:=done u11 hr11 (by omega) hu12
   have hlen:=rowS_len B.2.2
   refine br_ne (fun hne=>?_) fun he3=>?_
   ·have hrow:rowS B.2.2=([],4,none):=rowS_err (by omega)
    rw [if_pos (by omega)] at hkey;rw [hkey] at hR
    rw [hrow] at r12 ⊢
    exact key_out (k:=Key.zero) g21 fun u' hu=>hR _ _ ⟨rfl,done u12 r12 (Nat.le_refl _) hu⟩
   ·rw [if_neg (by omega),finKey_is] at hkey;rw [hkey] at hR;simp only [finErr] at hR
    exact key_fin (by omega) g21 g22 (fact_MayKey_spec _ (by simp [ByteArray.size];omega) _) fun u' hu=>hR _ _ ⟨rfl,done u12 r12 (Nat.le_refl _) hu⟩
  ·rw [if_neg (by omega)] at hkey
   refine br_eq (fun h3=>?_) fun h3=>?_
   ·rw [if_pos (by omega)] at hkey
    refine (rdTake (k:=1) (by decide) hG r6).mono ?_
    rintro _ w₁₁ ⟨hu11,rfl,hr11⟩
    have a11:=takeS_lt 1 B.2.2
    have u11:=u6.trans hu11
    have hs11:=hu11.size
    have g11:KeyAt w₁₁ B1 Key.zero:=hu11.get g16 (by omega)
    have g12:KeyAt w₁₁ B2 ⟨A.1,UInt8.ofNat B.1,ByteArray.empty,0⟩:=hu11.get g6 (by omega)
    refine ⟨_,_,rfl,?_⟩
    rw [w64n (by omega)]
    refine key_chunk g12 fun w₁₂ hu12 g22=>?_
    have g21:KeyAt w₁₂ B1 Key.zero:=hu12.get g11 (by omega)
    obtain ⟨u12,r12⟩:=done u11 hr11 (by omega) hu12
    refine br_ne (fun hne=>?_) fun he3=>?_
    ·have hrow:takeS 1 B.2.2=(0,4,none):=takeS_err (by omega)
     rw [if_pos (by omega)] at hkey;rw [hkey] at hR
     rw [hrow] at r12 ⊢
     exact key_out (k:=Key.zero) g21 fun u' hu=>hR _ _ ⟨rfl,done u12 r12 (Nat.le_refl _) hu⟩
    ·rw [if_neg (by omega),finKey_is] at hkey;rw [hkey] at hR;simp only [finErr] at hR
     exact key_fin (by omega) g21 g22 (fact_MayKey_spec _ empty_small _) fun u' hu=>hR _ _ ⟨rfl,done u12 r12 (Nat.le_refl _) hu⟩
   ·rw [if_neg (by omega)] at hkey
    refine br_ne (fun hne=>absurd he hne) fun _=>?_
    rw [finKey_is] at hkey;rw [hkey] at hR;simp only [finErr] at hR
    exact key_fin (by omega) g16 g6 (fact_MayKey_spec _ empty_small _) fun u' hu=>hR _ _ ⟨rfl,done u6 r6 (Nat.le_refl _) hu⟩
theorem carrackref06_GetKey_spec {G:Nat→Prop} {w:World} {r:Nat} {s:St} (hG:¬ G r) (hGs:∀ x,G x→x<w.heap.size) (hrs:r<w.heap.size) (h:RRdIn G w r s) :
  CallsR prog K.carrackref06_GetKey #[.pointer (some ⟨r,0,none⟩)] w fun v w'=>v= .tuple #[keyV (keyS s).1,.int .i64 ((keyS s).2.1:Nat)]∧Upd (·=r) w w'∧RRdIn G w' r (keyS s).2.2:=by
 apply carrackref06_GetKey.sh
 suffices H:∀ R:Value→World→Prop,(∀ v w',v= .tuple #[keyV (keyS s).1,.int .i64 ((keyS s).2.1:Nat)]∧Upd (·=r) w w'∧RRdIn G w' r (keyS s).2.2→R v w')→carrackref06_GetKey.body (some ⟨r,0,none⟩) w R from H _ fun _ _ h=>h
 intro R hR
 unfold carrackref06_GetKey.body
 simp only [add_lit,Nat.zero_add]
 intro B1 w₁ hn1
 have hb1:B1=w.heap.size:=hn1.num
 have g1:KeyAt w₁ B1 Key.zero:=hn1.get
 have done:∀ {u u':World} {B:Nat} {s':St},Upd (·=r) w u→RRdIn G u r s'→B1≤B→Upd (·=B) u u'→Upd (·=r) w u'∧RRdIn G u' r s':=fun {u u' B s'} h1 h2 hB h3 =>
  ⟨Upd.mono (F:=fun x=>x=r∨x=B) ((h1.mono fun _ _ h=>.inl h).trans (h3.mono fun _ _ h=>.inr h)) fun x hx hor=>by
   rcases hor with h | h
   ·exact h
   ·omega,
   h2.upd h3 (by omega) fun x hx e=>by have:=hGs x hx;omega⟩
 refine (rrdTake (k:=2) (by decide) hG (h.ext hn1.upd)).mono ?_
 rintro _ w₂ ⟨hu2,rfl,hr2⟩
 have u2:Upd (·=r) w w₂:=(Upd.ext hn1.upd).trans hu2
 have g2:KeyAt w₂ B1 Key.zero:=hu2.get g1 (by omega)
 have hs2:B1<w₂.heap.size:=(Array.getElem?_eq_some_iff.1 g2).1
 have a2:=takeS_lt 2 s
 have h256:(256:Nat) ^ 2=65536:=by decide
 have hnone:keyS none=(Key.zero,4,none):=rfl
 refine ⟨_,_,rfl,br_ne (fun hne=>?_) fun _=>?_⟩
 ·have hA:takeS 2 s=(0,4,none):=takeS_err (by omega)
  have hkey:keyS s=(Key.zero,4,none):=by unfold keyS;simp only [hA];rfl
  rw [hkey] at hR
  rw [hA] at hr2 ⊢
  exact key_out (k:=Key.zero) g2 fun u' hu=>hR _ _ ⟨rfl,done u2 hr2 (Nat.le_refl _) hu⟩
 refine (rrdTake (k:=1) (by decide) hG hr2).mono ?_
 rintro _ w₄ ⟨hu4,rfl,hr4⟩
 have u4:=u2.trans hu4
 have g4:KeyAt w₄ B1 Key.zero:=hu4.get g2 (by omega)
 have hs4:=hu4.size
 have a4:=takeS_lt 1 (takeS 2 s).2.2
 generalize ha:takeS 2 s=A at *
 generalize hb:takeS 1 A.2.2=B at *
 have hkey:keyS s=if B.2.1≠0 then (Key.zero,4,none)
   else if B.1=2 then (if (rowS B.2.2).2.1≠0 then (Key.zero,4,none) else finKey ⟨A.1,UInt8.ofNat B.1,⟨(rowS B.2.2).1.toArray⟩,0⟩ (rowS B.2.2).2.2)
   else if B.1=3 then (if (takeS 1 B.2.2).2.1≠0 then (Key.zero,4,none) else finKey ⟨A.1,UInt8.ofNat B.1,ByteArray.empty,(takeS 1 B.2.2).1⟩ (takeS 1 B.2.2).2.2)
   else finKey ⟨A.1,UInt8.ofNat B.1,ByteArray.empty,0⟩ B.2.2:=by
  unfold keyS
  simp only [ha,hb]
 refine ⟨_,_,rfl,br_ne (fun hne=>?_) fun he=>?_⟩
 ·have hB:B=(0,4,none):=by rw [← hb];exact takeS_err (by rw [hb];omega)
  rw [if_pos (by omega)] at hkey;rw [hkey] at hR
  rw [hB] at hr4 ⊢
  exact key_out (k:=Key.zero) g4 fun u' hu=>hR _ _ ⟨rfl,done u4 hr4 (Nat.le_refl _) hu⟩
 rw [if_neg (by omega)] at hkey
 rw [wu8n (by omega),w64n (by omega)]
 refine new_put (vs:=Key.vals ⟨A.1,UInt8.ofNat B.1,ByteArray.empty,0⟩) rfl fun B2 w₆ hb2 hs6 he6 g6=>?_
 have u6:=u4.then he6
 have r6:=hr4.ext he6
 have g16:KeyAt w₆ B1 Key.zero:=Ext.get he6 g4
 refine br_eq (fun h2=>?_) fun h2=>?_
 ·rw [if_pos (by omega)] at hkey
  refine (rrdRow hG r6).mono ?_
  rintro _ w₁₁ ⟨hu11,⟨a,c,rfl,hby,hc,hf⟩,hr11⟩
  have u11:=u6.trans hu11
  have hs11:=hu11.size
  have g11:KeyAt w₁₁ B1 Key.zero:=hu11.get g16 (by omega)
  have g12:KeyAt w₁₁ B2 ⟨A.1,UInt8.ofNat B.1,ByteArray.empty,0⟩:=hu11.get g6 (by omega)
  have hlen:=rowS_len B.2.2
  refine ⟨_,_,_,_,rfl,br_ne (fun hne=>?_) fun he3=>?_⟩
  ·have hrow:rowS B.2.2=([],4,none):=rowS_err (by omega)
   rw [if_pos (by omega)] at hkey;rw [hkey] at hR
   rw [hrow] at hr11 ⊢
   exact key_out (k:=Key.zero) g11 fun u' hu=>hR _ _ ⟨rfl,done u11 hr11 (Nat.le_refl _) hu⟩
  ·refine str_of hby (key_name g12 fun w₁₂ hu12 g22=>?_)
   have g21:KeyAt w₁₂ B1 Key.zero:=hu12.get g11 (by omega)
   obtain ⟨u12,r12⟩:=done u11 hr11 (by omega) hu12
   rw [if_neg (by omega),finKey_is] at hkey;rw [hkey] at hR;simp only [finErr] at hR
   exact key_fin (by omega) g21 g22 (carrackref06_MayKey_spec _ (by simp [ByteArray.size];omega) _) fun u' hu=>hR _ _ ⟨rfl,done u12 r12 (Nat.le_refl _) hu⟩
 ·rw [if_neg (by omega)] at hkey
  refine br_eq (fun h3=>?_) fun h3=>?_
  ·rw [if_pos (by omega)] at hkey
   refine (rrdTake (k:=1) (by decide) hG r6).mono ?_
   rintro _ w₁₁ ⟨hu11,rfl,hr11⟩
   have a11:=takeS_lt 1 B.2.2
   have u11:=u6.trans hu11
   have hs11:=hu11.size
   have g11:KeyAt w₁₁ B1 Key.zero:=hu11.get g16 (by omega)
   have g12:KeyAt w₁₁ B2 ⟨A.1,UInt8.ofNat B.1,ByteArray.empty,0⟩:=hu11.get g6 (by omega)
   refine ⟨_,_,rfl,br_ne (fun hne=>?_) fun he3=>?_⟩
   ·have hrow:takeS 1 B.2.2=(0,4,none):=takeS_err (by omega)
    rw [if_pos (by omega)] at hkey;rw [hkey] at hR
    rw [hrow] at hr11 ⊢
    exact key_out (k:=Key.zero) g11 fun u' hu=>hR _ _ ⟨rfl,done u11 hr11 (Nat.le_refl _) hu⟩
   ·rw [w64n (by omega)]
    refine key_chunk g12 fun w₁₂ hu12 g22=>?_
    have g21:KeyAt w₁₂ B1 Key.zero:=hu12.get g11 (by omega)
    obtain ⟨u12,r12⟩:=done u11 hr11 (by omega) hu12
    rw [if_neg (by omega),finKey_is] at hkey;rw [hkey] at hR;simp only [finErr] at hR
    exact key_fin (by omega) g21 g22 (carrackref06_MayKey_spec _ empty_small _) fun u' hu=>hR _ _ ⟨rfl,done u12 r12 (Nat.le_refl _) hu⟩
  ·rw [if_neg (by omega)] at hkey
   rw [finKey_is] at hkey;rw [hkey] at hR;simp only [finErr] at hR
   exact key_fin (by omega) g16 g6 (carrackref06_MayKey_spec _ empty_small _) fun u' hu=>hR _ _ ⟨rfl,done u6 r6 (Nat.le_refl _) hu⟩
theorem row_cell {w:World} {b o:Nat} {vs:List Value} (h:RowAt w (some ⟨b,o,none⟩) vs) {j:Nat} {v:Value} (hj:vs[j]?=some v):w.cell? ⟨b,o+j,none⟩= some v:=by
 obtain ⟨b',o',e,hc⟩:=h.cell hj
 cases e
 exact hc
theorem Key.oneCell (k:Key):∀ v∈k.vals,v.oneCell'=true:=by
 intro v hv
 simp only [Key.vals,List.mem_cons,List.not_mem_nil,or_false] at hv
 rcases hv with rfl | rfl | rfl | rfl<;>rfl
def keyR:ERep Key:=flatR Key.vals 4 (by decide) (fun _=>rfl) Key.oneCell
def boolR:ERep Bool:=flatR (fun b=>[.bool b]) 1 (by decide) (fun _=>rfl) (fun b v hv=>by simp at hv;rw [hv];rfl)
def intR:ERep Int:=flatR (fun x=>[.int .i64 x]) 1 (by decide) (fun _=>rfl) (fun b v hv=>by simp at hv;rw [hv];rfl)
def u8R:ERep UInt8:=flatR (fun x=>[bv x]) 1 (by decide) (fun _=>rfl) (fun b v hv=>by simp at hv;rw [hv];rfl)
def changeR:ERep Change:=ERep.pair keyR (ERep.pair bytesR boolR (fun x:List UInt8×Bool=>x.1) (fun x=>x.2)) (fun x:Change=>x.key) (fun x=>(x.val,x.gone))
abbrev changeVs (k:Key) (a:Option Addr) (n c:Nat) (b:Bool):List Value:=[.int .i64 k.ino,bv k.what,.string k.name,.int .i64 k.chunk,.slice a n c,.bool b]
theorem changeR_intro {w:World} {G:Nat→Prop} {x:Change} {a:Option Addr} {c:Nat} (hc:x.val.length≤c) (hb:BytesAt w a x.val) (hg:x.val≠[]→∀ p,a=some p→G p.block) :
  changeR.R w G (changeVs x.key a x.val.length c x.gone) x:=⟨x.key.vals,[.slice a x.val.length c,.bool x.gone],rfl,rfl,[.slice a x.val.length c],[.bool x.gone],rfl,⟨a,c,rfl,hc,hb,hg⟩,rfl⟩
theorem changeR_elim {w:World} {G:Nat→Prop} {x:Change} {vs:List Value} (h:changeR.R w G vs x) :
  ∃ a c,vs=changeVs x.key a x.val.length c x.gone∧x.val.length≤c∧BytesAt w a x.val∧(x.val≠[]→∀ p,a=some p→G p.block):=by
 obtain ⟨u,v,rfl,hu,s,t,rfl,⟨a,c,hs,hc,hb,hg⟩,ht⟩:=h
 have hu':u=x.key.vals:=hu
 have ht':t=[.bool x.gone]:=ht
 subst hu';subst ht'
 have hs':s=[.slice a x.val.length c]:=hs
 subst hs'
 exact ⟨a,c,rfl,hc,hb,hg⟩
def Change.zero:Change:=⟨Key.zero,[],false⟩
def oneS (s:St):Change×Nat×St :=
 let a:=takeS 1 s
 if a.2.1≠0 then (Change.zero,4,none)
 else if 1<a.1 then (Change.zero,5,a.2.2)
 else
  let k:=keyS a.2.2
  if k.2.1≠0 then (Change.zero,k.2.1,k.2.2)
  else if a.1=0 then (⟨k.1,[],true⟩,0,k.2.2)
  else
   let v:=rowS k.2.2
   if v.2.1≠0 then (Change.zero,4,none) else if v.1.length=0 then (Change.zero,5,v.2.2) else (⟨k.1,v.1,false⟩,0,v.2.2)
def goS:Nat→St→List Change→List Change×Nat
 | 0,s,acc=>if 0<leftS s then ([],5) else (acc,0)
 | n+1,s,acc=>if (oneS s).2.1≠0 then ([],(oneS s).2.1) else goS n (oneS s).2.2 (acc ++ [(oneS s).1])
def getS (b:List UInt8):List Change×Nat :=
 if (takeS 1 (some b)).2.1≠0 then ([],4) else if (takeS 1 (some b)).1=0 then ([],5) else goS (takeS 1 (some b)).1 (takeS 1 (some b)).2.2 []
def dropS (b:List UInt8):Nat×Nat:=if b.length≠8 then (0,5) else if fromLE b=0 then (0,5) else (fromLE b,0)
theorem chg_out {u:World} {B:Nat} {cs:Array Value} {k:Key} {a:Option Addr} {n c:Nat} {b:Bool} {e:Int} {R:Value→World→Prop} (g:u.heap[B]?=some (.cells cs T.api_Change (0,0))) (hcs:cs.size=6)
  (hR:∀ u',Upd (·=B) u u'→R (.tuple #[.agg #[.int .i64 k.ino,bv k.what,.string k.name,.int .i64 k.chunk,.slice a n c,.bool b],.int .i64 e]) u') :
  storeP u ⟨B,0,none⟩ (changeVs k a n c b) fun w'=>∃ x y:Int,∃ m:ByteArray,∃ z:Int,∃ (a':Option Addr) (n' c':Nat),∃ b':Bool,cellsAt w' ⟨B,0,none⟩ [.int .i64 x,.int .u8 y,.string m,.int .i64 z,.slice a' n' c',.bool b'] 0∧R (.tuple #[.agg #[.int .i64 x,.int .u8 y,.string m,.int .i64 z,.slice a' n' c',.bool b'],.int .i64 e]) w' :=
 put_all g (by rw [hcs];rfl) fun w' hu _ hg=>⟨_,_,_,_,_,_,_,_,cells_all hg,hR w' hu⟩
theorem rec_reader_one_spec {G:Nat→Prop} {w:World} {r:Nat} {s:St} (hG:¬ G r) (hGs:∀ x,G x→x<w.heap.size) (hrs:r<w.heap.size) (h:RdIn G w r s) :
  CallsR prog K.rec_reader_one #[.agg #[.pointer (some ⟨r,0,none⟩)]] w fun v w'=>Upd (·=r) w w'∧RdIn G w' r (oneS s).2.2∧∃ k a n c b,v= .tuple #[.agg #[.int .i64 k.ino,bv k.what,.string k.name,.int .i64 k.chunk,.slice a n c,.bool b],.int .i64 ((oneS s).2.1:Nat)]∧
   ((oneS s).2.1=0→k=(oneS s).1.key∧b=(oneS s).1.gone∧n=(oneS s).1.val.length∧n≤c∧BytesAt w' a (oneS s).1.val∧∀ p,a=some p→w.heap.size≤p.block∧p.block<w'.heap.size):=by
 apply rec_reader_one.sh
 suffices H:∀ R:Value→World→Prop,(∀ v w',(Upd (·=r) w w'∧RdIn G w' r (oneS s).2.2∧∃ k a n c b,v= .tuple #[.agg #[.int .i64 k.ino,bv k.what,.string k.name,.int .i64 k.chunk,.slice a n c,.bool b],.int .i64 ((oneS s).2.1:Nat)]∧
   ((oneS s).2.1=0→k=(oneS s).1.key∧b=(oneS s).1.gone∧n=(oneS s).1.val.length∧n≤c∧BytesAt w' a (oneS s).1.val∧∀ p,a=some p→w.heap.size≤p.block∧p.block<w'.heap.size))→R v w')→rec_reader_one.body (some ⟨r,0,none⟩) w R from H _ fun _ _ h=>h
 intro R hR
 unfold rec_reader_one.body
 intro B1 w₁ hn1 B2 w₂ hn2
 have hb1:B1=w.heap.size:=hn1.num
 have hb2:B2=w₁.heap.size:=hn2.num
 have hs1:=hn1.size
 have hs2:=hn2.size
 have e2:Ext w w₂:=hn1.upd.trans hn2.upd
 have done:∀ {u u':World} {s':St},Upd (·=r) w u→RdIn G u r s'→Upd (·=B2) u u'→Upd (·=r) w u'∧RdIn G u' r s':=fun {u u' s'} h1 h2 h3 =>
  ⟨Upd.mono (F:=fun x=>x=r∨x=B2) ((h1.mono fun _ _ h=>.inl h).trans (h3.mono fun _ _ h=>.inr h)) fun x hx hor=>by
   rcases hor with h | h
   ·exact h
   ·omega,
   h2.upd h3 (by omega) fun x hx e=>by have:=hGs x hx;omega⟩
 have g11:w₂.heap[B1]?=some (.cells #[.pointer (some ⟨r,0,none⟩)] T.rec_reader (0,0)):=Ext.get hn2.upd hn1.get
 have g12:=hn2.get
 refine ⟨_,cell_of g11 rfl,(rdTake (k:=1) (by decide) hG (h.ext e2)).mono ?_⟩
 rintro _ w₃ ⟨hu3,rfl,hr3⟩
 have u3:Upd (·=r) w w₃:=(Upd.ext e2).trans hu3
 have g31:=hu3.get g11 (by omega)
 have g32:=hu3.get g12 (by omega)
 have hs3:=hu3.size
 have a3:=takeS_lt 1 s
 have hone:oneS s=oneS s:=rfl
 conv at hone=>rhs;unfold oneS
 refine ⟨_,_,rfl,br_ne (fun hne=>?_) fun he=>?_⟩
 ·have hA:takeS 1 s=(0,4,none):=takeS_err (by omega)
  rw [hA] at hone
  replace hone:oneS s=(Change.zero,4,none):=hone
  rw [hone] at hR
  rw [hA] at hr3 ⊢
  exact chg_out (k:=Key.zero) g32 rfl fun u' hu=>hR _ _ ⟨(done u3 hr3 hu).1,(done u3 hr3 hu).2,Key.zero,none,0,0,false,rfl,fun h=>by cases h⟩
 ·simp only [] at hone
  rw [if_neg (by omega)] at hone
  refine br_dec (fun h1=>?_) fun h1=>?_
  ·rw [if_pos (by omega)] at hone
   rw [hone] at hR
   exact chg_out (k:=Key.zero) g32 rfl fun u' hu=>hR _ _ ⟨(done u3 hr3 hu).1,(done u3 hr3 hu).2,Key.zero,none,0,0,false,rfl,fun h=>by cases h⟩
  ·rw [if_neg (by omega)] at hone
   refine ⟨_,cell_of g31 rfl,(fact_GetKey_spec hG (fun x hx=>by have:=hGs x hx;omega) (by omega) hr3).mono ?_⟩
   rintro _ w₆ ⟨rfl,hu6,hr6⟩
   have u6:=u3.trans hu6
   have hs6:=hu6.size
   refine ⟨_,_,_,_,_,rfl,new_put (vs:=Key.vals (keyS (takeS 1 s).2.2).1) rfl fun B3 w₈ hb3 hs8 he8 g83=>?_⟩
   have u8:=u6.then he8
   have r8:=hr6.ext he8
   have g81:=Ext.get he8 (hu6.get g31 (by omega))
   have g82:=Ext.get he8 (hu6.get g32 (by omega))
   refine br_ne (fun hne=>?_) fun he6=>?_
   ·rw [if_pos (by omega)] at hone
    rw [hone] at hR
    exact ⟨_,_,_,_,key_cells g83,chg_out g82 rfl fun u' hu=>hR _ _ ⟨(done u8 r8 hu).1,(done u8 r8 hu).2,_,_,_,_,_,rfl,fun h=>absurd h (by show ¬ (keyS (takeS 1 s).2.2).2.1=0;omega)⟩⟩
   ·rw [if_neg (by omega)] at hone
    refine br_eq (fun h0=>?_) fun h0=>?_
    ·rw [if_pos (by omega)] at hone
     rw [hone] at hR
     refine ⟨_,_,_,_,key_cells g83,chg_out g82 rfl fun u' hu=>hR _ _ ⟨(done u8 r8 hu).1,(done u8 r8 hu).2,_,none,0,0,true,?_,fun _=>⟨rfl,rfl,rfl,Nat.le_refl _,BytesAt.nil _ none,fun _ hp=>by cases hp⟩⟩⟩
     rw [he6];rfl
    ·rw [if_neg (by omega)] at hone
     refine ⟨_,cell_of g81 rfl,(rdRow hG r8).mono ?_⟩
     rintro _ w₁₁ ⟨hu11,⟨a,c,rfl,hby,hc,hf⟩,hr11⟩
     have u11:=u8.trans hu11
     have g112:=hu11.get g82 (by omega)
     have g113:=hu11.get g83 (by omega)
     refine ⟨_,_,_,_,rfl,br_eq (fun he11=>br_eq (fun hl=>?_) fun hl=>?_) fun hne=>?_⟩
     ·rw [if_neg (by omega),if_pos (by omega)] at hone
      rw [hone] at hR
      exact ⟨_,_,_,_,key_cells g113,chg_out g112 rfl fun u' hu=>hR _ _ ⟨(done u11 hr11 hu).1,(done u11 hr11 hu).2,_,_,_,_,_,rfl,fun h=>by cases h⟩⟩
     ·rw [if_neg (by omega),if_neg (by omega)] at hone
      rw [hone] at hR
      refine ⟨_,_,_,_,key_cells g113,chg_out g112 rfl fun u' hu=>hR _ _ ⟨(done u11 hr11 hu).1,(done u11 hr11 hu).2,_,a,_,c,false,?_,fun _=>⟨rfl,rfl,rfl,hc,?_,fun p hp=>?_⟩⟩⟩
      ·rw [he11];rfl
      ·refine RowAt.upd hby hu fun p hp e=>?_
       have:=(hf p hp).1
       omega
      ·have:=hf p hp
       have:=hu.size
       omega
     ·have hrow:=rowS_err (s:=(keyS (takeS 1 s).2.2).2.2) (by omega)
      rw [if_pos (by omega)] at hone
      rw [hone] at hR
      rw [hrow] at hr11 ⊢
      exact ⟨_,_,_,_,key_cells g113,chg_out g112 rfl fun u' hu=>hR _ _ ⟨(done u11 hr11 hu).1,(done u11 hr11 hu).2,_,_,_,_,_,rfl,fun h=>by cases h⟩⟩
theorem goS_step {n i:Nat} {s:St} {acc:List Change} (hi:i<n):goS (n - i) s acc=if (oneS s).2.1≠0 then ([],(oneS s).2.1) else goS (n - (i+1)) (oneS s).2.2 (acc ++ [(oneS s).1]):=by
 obtain ⟨m,hm⟩: ∃ m,n - i=m+1:=⟨n - i - 1,by omega⟩
 have hm':n - (i+1)=m:=by omega
 rw [hm,hm'];rfl
theorem getS_take {b:List UInt8} (h0:(takeS 1 (some b)).2.1=0) (h1:(takeS 1 (some b)).1≠0):getS b=goS ((takeS 1 (some b)).1 - 0) (takeS 1 (some b)).2.2 []:=by
 unfold getS
 rw [if_neg (by omega),if_neg (by omega)];rfl
def ListOut {α:Type} (r:ERep α) (e:TypeId) (w w':World) (v:Value) (l:List α) (x:Nat):Prop:=∃ a c,v= .tuple #[.slice a l.length c,.int .i64 (x:Nat)]∧ListAt r NoB w.heap.size w' a c e l∧Ext w w'
theorem ListOut.none {α:Type} {r:ERep α} {e:TypeId} {w w':World} {x:Nat} {l:List α} (hl:l=[]) (h:Ext w w'):ListOut r e w w' (.tuple #[.slice .none 0 0,.int .i64 (x:Nat)]) l x:=by
 subst hl;exact ⟨.none,0,rfl,ListAt.nil _ _,h⟩
theorem rec_Get_spec {w:World} {a:Option Addr} {b:List UInt8} {c:Nat} (hb:BytesAt w a b) (hn:b.length≤281474976710656) :
  CallsR prog K.rec_Get #[.slice a b.length c] w fun v w'=>ListOut changeR T.api_Change w w' v (getS b).1 (getS b).2:=by
 apply rec_Get.sh
 suffices H:∀ R:Value→World→Prop,(∀ v w',ListOut changeR T.api_Change w w' v (getS b).1 (getS b).2→R v w')→rec_Get.body a b.length c w R from H _ fun _ _ h=>h
 intro R hR
 unfold rec_Get.body
 refine (ends_New_in a b c w hb hn).mono ?_
 rintro _ w₁ ⟨r,rfl,hr1,hrd,he1⟩
 have hrs1:r<w₁.heap.size:=by obtain ⟨_,_,h,_⟩:=hrd.at_;exact (Array.getElem?_eq_some_iff.1 h).1
 refine ⟨_,rfl,new_put (vs:=[.pointer (some ⟨r,0,none⟩)]) rfl fun B1 w₃ hb1 hs3 he3 g3=>?_⟩
 have hG:¬ (fun x=>w.heap.size≤x∧x<r) r:=by simp
 have hrd3:RdIn (fun x=>w.heap.size≤x∧x<r) w₃ r (some b):=ReaderIn.updG hrd he3 (fun h=>h) (fun _ _ h=>h)
 have e3:Ext w w₃:=he1.trans he3
 refine ⟨_,cell_of g3 rfl,(rdTake (k:=1) (by decide) hG hrd3).mono ?_⟩
 rintro _ w₄ ⟨hu4,rfl,hr4⟩
 have e4:Ext w w₄:=e3.beyond hu4 fun x hx=>by omega
 have hs4:=hu4.size
 have g4:=hu4.get g3 (by omega)
 have a4:=takeS_lt 1 (some b)
 refine ⟨_,_,rfl,br_ne (fun hne=>?_) fun he=>br_eq (fun h0=>?_) fun h0=>?_⟩
 ·have hA:takeS 1 (some b)=(0,4,none):=takeS_err (by omega)
  have hg:getS b=([],4):=by unfold getS;rw [hA];rfl
  rw [hg] at hR
  rw [hA]
  exact hR _ _ (ListOut.none rfl e4)
 ·have hg:getS b=([],5):=by unfold getS;rw [if_neg (by omega),if_pos (by omega)]
  rw [hg] at hR
  exact hR _ _ (ListOut.none (x:=5) rfl e4)
 have hget:=getS_take (b:=b) (by omega) (by omega)
 generalize takeS 1 (some b)=A at *
 refine ⟨fun a1 l1 c1 x u=>∃ (i:Nat) (s:St) (acc:List Change),x=i∧i≤A.1∧l1=acc.length∧acc.length=i∧ListAt changeR NoB w₃.heap.size u a1 c1 T.api_Change acc∧RdIn (fun x=>w.heap.size≤x∧x<r) u r s∧Ext w u∧w₃.heap.size≤u.heap.size∧u.heap[B1]?=some (.cells [Value.pointer (some ⟨r,0,none⟩)].toArray T.rec_reader (0,0))∧getS b=goS (A.1 - i) s acc,
  fun _ _ _ x _=>((A.1:Int) - x).toNat,⟨0,_,[],rfl,by omega,rfl,rfl,ListAt.nil _ _,hr4,e4,hu4.size,g4,hget⟩,?_⟩
 rintro a1 l1 c1 x u ⟨i,s,acc,rfl,hi,rfl,hacc,hl,hrd,heu,hsu,gu,hgo⟩
 refine br_dec (fun hlt=>?_) fun hge=>?_
 ·have hi':i<A.1:=by omega
  rw [goS_step hi'] at hgo
  refine ⟨_,cells_all gu,(rec_reader_one_spec hG (fun x hx=>by omega) (by omega) hrd).mono ?_⟩
  rintro _ w₆ ⟨hu6,hr6,k,a2,n2,c2,b2,rfl,hok⟩
  have hs6:=hu6.size
  refine ⟨_,_,_,_,_,_,_,_,_,rfl,new_put (vs:=changeVs k a2 n2 c2 b2) rfl fun B2 w₈ hb2 hs8 he8 g8=>?_⟩
  have e6:Ext w w₆:=heu.beyond hu6 fun x hx=>by omega
  have hl6:ListAt changeR NoB w₃.heap.size w₆ a1 c1 T.api_Change acc:=hl.upd hu6 fun x hx=>⟨by omega,fun h=>h⟩
  have g6:=hu6.get gu (by omega)
  refine br_ne (fun hne=>?_) fun he6=>?_
  ·rw [if_pos (by omega)] at hgo
   rw [hgo] at hR
   exact hR _ _ (ListOut.none rfl (e6.trans he8))
  ·rw [if_neg (by omega)] at hgo
   obtain ⟨rfl,rfl,rfl,hc2,hby,hf⟩:=hok (by omega)
   refine ⟨_,_,_,_,_,_,_,_,cells_all g8,fun B3 w₉ hn9=>?_⟩
   have he9:=hn9.upd
   have hs9:=hn9.size
   have hl9:=(hl6.ext he8).ext he9
   refine ListAt.push (r:=changeR) (H:=fun b=>u.heap.size≤b∧b<w₆.heap.size) hl9 (changeR_intro hc2 ((hby.ext he8).ext he9) fun _ p hp=>hf p hp) (fun b hb=>⟨.inl (by omega),by omega,fun h=>?_⟩) hn9 rfl rfl (by omega) (by omega) (by omega) fun a' c' w₁₀ hu10 hl10=>?_
   ·have:=hl.lt h
    omega
   ·have e10:Ext w w₁₀:=((e6.trans he8).trans he9).beyond hu10 fun x hx=>by omega
    have hs10:=hu10.size
    have ew:IntKind.u64.wrap ((i:Int)+1)=((i+1:Nat):Int):=wu64 (by omega) (by omega)
    simp only [ew]
    refine ⟨⟨i+1,_,_,rfl,hi',rfl,by simp [hacc],hl10,(((hr6.ext he8).ext he9).upd hu10 (by omega) fun x hx=>by omega),e10,by omega,hu10.get (Ext.get he9 (Ext.get he8 g6)) (by omega),hgo⟩,meas hi'⟩
 ·have hin:i=A.1:=by omega
  subst hin
  rw [Nat.sub_self] at hgo
  refine ⟨_,cell_of gu rfl,(rdLeft hrd).mono ?_⟩
  rintro _ _ ⟨rfl,rfl⟩
  refine ⟨_,rfl,br_dec (fun hl0=>?_) fun hl0=>?_⟩
  ·have hg:getS b=([],5):=by rw [hgo];unfold goS;rw [if_pos (by omega)]
   rw [hg] at hR
   exact hR _ _ (ListOut.none (x:=5) rfl heu)
  ·have hg:getS b=(acc,0):=by rw [hgo];unfold goS;rw [if_neg (by omega)]
   rw [hg] at hR
   exact hR _ _ ⟨a1,c1,rfl,hl.weak (by omega) (fun _ h=>h.elim),heu⟩
theorem carrackref11_Get_spec {w:World} {a:Option Addr} {b:List UInt8} {c:Nat} (hb:BytesAt w a b) (hn:b.length≤1000000000000) :
  CallsR prog K.carrackref11_Get #[.slice a b.length c] w fun v w'=>ListOut changeR T.api_Change w w' v (getS b).1 (getS b).2:=by
 apply carrackref11_Get.sh
 suffices H:∀ R:Value→World→Prop,(∀ v w',ListOut changeR T.api_Change w w' v (getS b).1 (getS b).2→R v w')→carrackref11_Get.body a b.length c w R from H _ fun _ _ h=>h
 intro R hR
 unfold carrackref11_Get.body
 refine append_copy hb (by omega) fun a1 c1 w₁ he1 hb1 hc1 hf1 hnil B1 w₂ hn2=>?_
 have hs2:=hn2.size
 have hB1:B1=w₁.heap.size:=hn2.num
 have hs1:=he1.size
 have e2:Ext w w₂:=he1.trans hn2.upd
 have hG:¬ (fun x=>w.heap.size≤x∧x<B1) B1:=by simp
 have hrd2:RRdIn (fun x=>w.heap.size≤x∧x<B1) w₂ B1 (some b):=⟨⟨a1,c1,hn2.get,hb1.ext hn2.upd,hc1,fun p hp=>⟨hf1 p hp,by
  by_cases hl0:b=[]
  ·rw [hnil hl0] at hp;cases hp
  ·obtain ⟨b',o,hab,hlt⟩:=RowAt.blk hb1 (by simpa using hl0)
   rw [hab] at hp;cases hp;rw [hB1];exact hlt⟩⟩,hn⟩
 refine (rrdTake (k:=1) (by decide) hG hrd2).mono ?_
 rintro _ w₄ ⟨hu4,rfl,hr4⟩
 have e4:Ext w w₄:=e2.beyond hu4 fun x hx=>by omega
 have hs4:=hu4.size
 have a4:=takeS_lt 1 (some b)
 refine ⟨_,_,rfl,br_ne (fun hne=>?_) fun he=>br_eq (fun h0=>?_) fun h0=>?_⟩
 ·have hA:takeS 1 (some b)=(0,4,none):=takeS_err (by omega)
  have hg:getS b=([],4):=by unfold getS;rw [hA];rfl
  rw [hg] at hR
  rw [hA]
  exact hR _ _ (ListOut.none rfl e4)
 ·have hg:getS b=([],5):=by unfold getS;rw [if_neg (by omega),if_pos (by omega)]
  rw [hg] at hR
  exact hR _ _ (ListOut.none (x:=5) rfl e4)
 have hget:=getS_take (b:=b) (by omega) (by omega)
 generalize takeS 1 (some b)=A at *
 have hsB:B1<w₄.heap.size:=by omega
 refine ⟨fun a1 l1 c1 x u=>∃ (i:Nat) (s:St) (acc:List Change),x=i∧i≤A.1∧l1=acc.length∧acc.length=i∧ListAt changeR NoB w₄.heap.size u a1 c1 T.api_Change acc∧RRdIn (fun x=>w.heap.size≤x∧x<B1) u B1 s∧Ext w u∧w₄.heap.size≤u.heap.size∧getS b=goS (A.1 - i) s acc,
  fun _ _ _ x _=>((A.1:Int) - x).toNat,⟨0,_,[],rfl,by omega,rfl,rfl,ListAt.nil _ _,hr4,e4,Nat.le_refl _,hget⟩,?_⟩
 rintro a1 l1 c1 x u ⟨i,s,acc,rfl,hi,rfl,hacc,hl,hrd,heu,hsu,hgo⟩
 refine br_dec (fun hlt=>?_) fun hge=>?_
 ·have hi':i<A.1:=by omega
  have ew:IntKind.u64.wrap ((i:Int)+1)=((i+1:Nat):Int):=wu64 (by omega) (by omega)
  simp only [ew]
  rw [goS_step hi'] at hgo
  refine (rrdTake (k:=1) (by decide) hG hrd).mono ?_
  rintro _ w₅ ⟨hu5,rfl,hr5⟩
  have e5:Ext w w₅:=heu.beyond hu5 fun x hx=>by omega
  have hl5:ListAt changeR NoB w₄.heap.size w₅ a1 c1 T.api_Change acc:=hl.upd hu5 fun x hx=>⟨by omega,fun h=>h⟩
  have hs5:=hu5.size
  have a5:=takeS_lt 1 s
  have hone:oneS s=oneS s:=rfl
  conv at hone=>rhs;unfold oneS
  refine ⟨_,_,rfl,br_ne (fun hne=>?_) fun he=>?_⟩
  ·have hA:takeS 1 s=(0,4,none):=takeS_err (by omega)
   rw [hA] at hone
   replace hone:oneS s=(Change.zero,4,none):=hone
   rw [hone,if_pos (by simp)] at hgo
   rw [hgo] at hR
   rw [hA]
   exact hR _ _ (ListOut.none rfl e5)
  simp only [] at hone
  rw [if_neg (by omega)] at hone
  refine br_dec (fun h1=>?_) fun h1=>?_
  ·rw [if_pos (by omega)] at hone
   rw [hone,if_pos (by simp)] at hgo
   rw [hgo] at hR
   exact hR _ _ (ListOut.none (x:=5) rfl e5)
  rw [if_neg (by omega)] at hone
  refine (carrackref06_GetKey_spec hG (fun x hx=>by omega) (by omega) hr5).mono ?_
  rintro _ w₆ ⟨rfl,hu6,hr6⟩
  have e6:Ext w w₆:=e5.beyond hu6 fun x hx=>by omega
  have hl6:ListAt changeR NoB w₄.heap.size w₆ a1 c1 T.api_Change acc:=hl5.upd hu6 fun x hx=>⟨by omega,fun h=>h⟩
  have hs6:=hu6.size
  refine ⟨_,_,_,_,_,rfl,new_put (vs:=Key.vals (keyS (takeS 1 s).2.2).1) rfl fun B2 w₈ hb2 hs8 he8 g8=>?_⟩
  have e8:=e6.trans he8
  have hl8:=hl6.ext he8
  have hr8:=hr6.ext he8
  refine br_ne (fun hne=>?_) fun he6=>?_
  ·rw [if_pos (by omega)] at hone
   rw [hone,if_pos (by show (keyS (takeS 1 s).2.2).2.1≠0;omega)] at hgo
   rw [hgo] at hR
   exact hR _ _ (ListOut.none rfl e8)
  rw [if_neg (by omega)] at hone
  refine br_eq (fun h0=>?_) fun h0=>?_
  ·rw [if_pos (by omega)] at hone
   rw [hone,if_neg (by simp)] at hgo
   refine ⟨_,_,_,_,key_cells g8,fun B3 w₉ hn9=>?_⟩
   have he9:=hn9.upd
   have hs9:=hn9.size
   refine ListAt.push (r:=changeR) (H:=NoB) (hl8.ext he9) (x:=⟨(keyS (takeS 1 s).2.2).1,[],true⟩) (changeR_intro (a:=none) (c:=0) (x:=⟨(keyS (takeS 1 s).2.2).1,[],true⟩) (Nat.le_refl _) (BytesAt.nil _ _) fun h=>absurd rfl h) (fun b hb=>hb.elim) hn9 rfl rfl (by omega) (by omega) (by omega) fun a' c' w₁₀ hu10 hl10=>?_
   have e10:Ext w w₁₀:=(e8.trans he9).beyond hu10 fun x hx=>by omega
   have hs10:=hu10.size
   exact ⟨⟨i+1,_,_,rfl,hi',rfl,by simp [hacc],hl10,((hr8.ext he9).upd hu10 (by omega) fun x hx=>by omega),e10,by omega,hgo⟩,meas hi'⟩
  ·rw [if_neg (by omega)] at hone
   refine (rrdRow hG hr8).mono ?_
   rintro _ w₁₁ ⟨hu11,⟨a4,c4,rfl,hby,hc4,hf4⟩,hr11⟩
   have e11:Ext w w₁₁:=e8.beyond hu11 fun x hx=>by omega
   have hl11:ListAt changeR NoB w₄.heap.size w₁₁ a1 c1 T.api_Change acc:=hl8.upd hu11 fun x hx=>⟨by omega,fun h=>h⟩
   have hs11:=hu11.size
   have g11:=hu11.get g8 (by omega)
   refine ⟨_,_,_,_,rfl,br_ne (fun hne=>?_) fun he11=>br_eq (fun hl0=>?_) fun hl0=>?_⟩
   ·have hrow:=rowS_err (s:=(keyS (takeS 1 s).2.2).2.2) (by omega)
    rw [if_pos (by omega)] at hone
    rw [hone,if_pos (by simp)] at hgo
    rw [hgo] at hR
    rw [hrow]
    exact hR _ _ (ListOut.none (x:=4) rfl e11)
   ·rw [if_neg (by omega),if_pos (by omega)] at hone
    rw [hone,if_pos (by simp)] at hgo
    rw [hgo] at hR
    exact hR _ _ (ListOut.none (x:=5) rfl e11)
   ·rw [if_neg (by omega),if_neg (by omega)] at hone
    rw [hone,if_neg (by simp)] at hgo
    refine ⟨_,_,_,_,key_cells g11,fun B3 w₁₂ hn12=>?_⟩
    have he12:=hn12.upd
    have hs12:=hn12.size
    refine ListAt.push (r:=changeR) (H:=fun b=>w₈.heap.size≤b∧b<w₁₁.heap.size) (hl11.ext he12) (x:=⟨(keyS (takeS 1 s).2.2).1,(rowS (keyS (takeS 1 s).2.2).2.2).1,false⟩) (changeR_intro (x:=⟨(keyS (takeS 1 s).2.2).1,(rowS (keyS (takeS 1 s).2.2).2.2).1,false⟩) hc4 (hby.ext he12) fun _ p hp=>hf4 p hp) (fun b hb=>⟨.inl (by omega),by omega,fun h=>?_⟩) hn12 rfl rfl (by omega) (by omega) (by omega) fun a' c' w₁₃ hu13 hl13=>?_
    ·have:=hl.lt h
     omega
    ·have e13:Ext w w₁₃:=(e11.trans he12).beyond hu13 fun x hx=>by omega
     have hs13:=hu13.size
     exact ⟨⟨i+1,_,_,rfl,hi',rfl,by simp [hacc],hl13,((hr11.ext he12).upd hu13 (by omega) fun x hx=>by omega),e13,by omega,hgo⟩,meas hi'⟩
 ·have hin:i=A.1:=by omega
  subst hin
  rw [Nat.sub_self] at hgo
  refine (rrdLeft hrd).mono ?_
  rintro _ _ ⟨rfl,rfl⟩
  refine ⟨_,rfl,br_dec (fun hl0=>?_) fun hl0=>?_⟩
  ·have hg:getS b=([],5):=by rw [hgo];unfold goS;rw [if_pos (by omega)]
   rw [hg] at hR
   exact hR _ _ (ListOut.none (x:=5) rfl heu)
  ·have hg:getS b=(acc,0):=by rw [hgo];unfold goS;rw [if_neg (by omega)]
   rw [hg] at hR
   exact hR _ _ ⟨a1,c1,rfl,hl.weak (by omega) (fun _ h=>h.elim),heu⟩
theorem take_all8 {b:List UInt8} (h:b.length=8):takeS 8 (some b)=(fromLE b,0,some []):=by
 unfold takeS
 simp only []
 rw [if_neg (by omega),List.take_of_length_le (by omega),List.drop_of_length_le (by omega)]
theorem rec_GetDrop_spec {w:World} {a:Option Addr} {b:List UInt8} {c:Nat} (hb:BytesAt w a b) (hn:b.length≤281474976710656) :
  CallsR prog K.rec_GetDrop #[.slice a b.length c] w fun v w'=>v= .tuple #[.int .u64 ((dropS b).1:Nat),.int .i64 ((dropS b).2:Nat)]∧Ext w w':=by
 apply rec_GetDrop.sh
 suffices H:∀ R:Value→World→Prop,(∀ v w',v= .tuple #[.int .u64 ((dropS b).1:Nat),.int .i64 ((dropS b).2:Nat)]∧Ext w w'→R v w')→rec_GetDrop.body a b.length c w R from H _ fun _ _ h=>h
 intro R hR
 unfold rec_GetDrop.body
 refine (ends_New_in a b c w hb hn).mono ?_
 rintro _ w₁ ⟨r,rfl,hr1,hrd,he1⟩
 have hG:¬ (fun x=>w.heap.size≤x∧x<r) r:=by simp
 refine ⟨_,rfl,(rdTake (s:=some b) (k:=8) (by decide) hG hrd).mono ?_⟩
 rintro _ w₂ ⟨hu2,rfl,_⟩
 have e2:Ext w w₂:=he1.beyond hu2 fun x hx=>by omega
 refine ⟨_,_,rfl,br_ne (fun hne=>?_) fun he=>br_ne (fun h8=>?_) fun h8=>?_⟩
 ·have hg:dropS b=(0,5):=by
   unfold dropS
   rw [if_pos]
   intro h
   rw [take_all8 h] at hne
   exact hne rfl
  rw [hg] at hR
  exact hR _ _ ⟨rfl,e2⟩
 ·have hg:dropS b=(0,5):=by unfold dropS;rw [if_pos (by omega)]
  rw [hg] at hR
  exact hR _ _ ⟨rfl,e2⟩
 ·have h8':b.length=8:=by omega
  rw [take_all8 h8']
  refine br_eq (fun h0=>?_) fun h0=>?_
  ·have hg:dropS b=(0,5):=by unfold dropS;rw [if_neg (by omega),if_pos (by have:((fromLE b:Nat):Int)=0:=h0;omega)]
   rw [hg] at hR
   exact hR _ _ ⟨rfl,e2⟩
  ·have hg:dropS b=(fromLE b,0):=by unfold dropS;rw [if_neg (by omega),if_neg (by have:¬ ((fromLE b:Nat):Int)=0:=h0;omega)]
   rw [hg] at hR
   exact hR _ _ ⟨rfl,e2⟩
theorem carrackref11_GetDrop_spec {w:World} {a:Option Addr} {b:List UInt8} {c:Nat} (hb:BytesAt w a b) (hc:b.length≤c) :
  CallsR prog K.carrackref11_GetDrop #[.slice a b.length c] w fun v w'=>v= .tuple #[.int .u64 ((dropS b).1:Nat),.int .i64 ((dropS b).2:Nat)]∧Ext w w':=by
 apply carrackref11_GetDrop.sh
 suffices H:∀ R:Value→World→Prop,(∀ v w',v= .tuple #[.int .u64 ((dropS b).1:Nat),.int .i64 ((dropS b).2:Nat)]∧Ext w w'→R v w')→carrackref11_GetDrop.body a b.length c w R from H _ fun _ _ h=>h
 intro R hR
 unfold carrackref11_GetDrop.body
 refine br_ne (fun h8=>?_) fun h8=>?_
 ·have hg:dropS b=(0,5):=by unfold dropS;rw [if_pos (by omega)]
  rw [hg] at hR
  exact hR _ _ ⟨rfl,Upd.refl _ _⟩
 ·have h8':b.length=8:=by omega
  intro B1 w₁ hn1
  have hB1:B1=w.heap.size:=hn1.num
  have hG:¬ (fun x=>x≠B1) B1:=by simp
  have hrd:RRdIn (fun x=>x≠B1) w₁ B1 (some b):=⟨⟨a,c,hn1.get,hb.ext hn1.upd,hc,fun p hp=>by
   obtain ⟨b',o,hab,hlt⟩:=RowAt.blk hb (by intro h;have:=congrArg List.length h;simp at this;rw [this] at h8';simp at h8')
   rw [hab] at hp;cases hp
   show b'≠B1
   omega⟩,by omega⟩
  refine (rrdTake (G:=fun x=>x≠B1) (k:=8) (by decide) hG hrd).mono ?_
  rintro _ w₂ ⟨hu2,rfl,_⟩
  have e2:Ext w w₂:=(hn1.upd).beyond hu2 fun x hx=>by omega
  rw [take_all8 h8']
  refine ⟨_,_,rfl,br_eq (fun h0=>?_) fun h0=>?_⟩
  ·have hg:dropS b=(0,5):=by unfold dropS;rw [if_neg (by omega),if_pos (by have:((fromLE b:Nat):Int)=0:=h0;omega)]
   rw [hg] at hR
   exact hR _ _ ⟨rfl,e2⟩
  ·have hg:dropS b=(fromLE b,0):=by unfold dropS;rw [if_neg (by omega),if_neg (by have:¬ ((fromLE b:Nat):Int)=0:=h0;omega)]
   rw [hg] at hR
   exact hR _ _ ⟨rfl,e2⟩
def BList (S:Nat) (w:World) (a:Option Addr) (cap:Nat) (l:List UInt8):Prop:=OwnAt w a l.length cap T.uint8 1 (l.map bv)∧∀ b,a=some ⟨b,0,none⟩→S≤b
theorem BList.nil (S:Nat) (w:World):BList S w none 0 []:=⟨OwnAt.nil _ _ _,fun _ h=>by cases h⟩
theorem BList.bytes {S:Nat} {w:World} {a:Option Addr} {cap:Nat} {l:List UInt8} (h:BList S w a cap l):BytesAt w a l:=h.1.row
theorem BList.weak {S S':Nat} {w:World} {a:Option Addr} {cap:Nat} {l:List UInt8} (h:BList S w a cap l) (hS:S'≤S):BList S' w a cap l:=⟨h.1,fun b hb=>Nat.le_trans hS (h.2 b hb)⟩
theorem BList.ext {S:Nat} {w w':World} {a:Option Addr} {cap:Nat} {l:List UInt8} (h:BList S w a cap l) (k:Ext w w'):BList S w' a cap l:=⟨h.1.ext k,h.2⟩
theorem BList.new {S:Nat} {w w':World} {B:Nat} {cs:Array Value} (h:New w (.cells cs T.uint8) B w') {l:List UInt8} (hl:cs.toList=l.map bv) (hS:S≤w.heap.size):BList S w' (some ⟨B,0,none⟩) l.length l:=by
 have hsz:cs.size=l.length * 1:=by rw [← Array.length_toList,hl];simp
 have:=OwnAt.new h (n:=l.length) (size:=1) hsz
 rw [hl] at this
 exact ⟨this,fun b hb=>by cases hb;rw [h.num];exact hS⟩
theorem BList.cat {S:Nat} {w:World} {a ax:Option Addr} {cap n m cx:Nat} {l xs:List UInt8} (h:BList S w a cap l) (hn:n=l.length) (hm:m=xs.length) (hx:BytesAt w ax xs) (hb:l.length+xs.length≤140737488355232) (hS:S≤w.heap.size) {K:Option Addr→Nat→Nat→World→Prop}
  (hk:∀ a' c' w',Upd (fun b=>S≤b) w w'→BList S w' a' c' (l ++ xs)→K a' (l ++ xs).length c' w'):appendP T.uint8 1 1 [Value.int .u8 0] a n cap (.slice ax m cx) w K:=by
 subst hn;subst hm
 refine append_bytes h.1 hx hb fun a' c' w' hu ho hf=>hk a' c' w' (hu.mono fun b _ hb=>h.2 b hb) ⟨ho,fun b hb=>?_⟩
 rcases hf with hf | ⟨b',hb',hl⟩
 ·subst hf;exact h.2 b hb
 ·rw [hb'] at hb;cases hb;omega
theorem BList.push {S:Nat} {w w₁:World} {a:Option Addr} {cap n:Nat} {l:List UInt8} {B:Nat} {x:UInt8} (h:BList S w a cap l) (hn:n=l.length) (hnew:New w (.cells #[bv x] T.uint8) B w₁) (hb:l.length+1≤140737488355232) (hS:S≤w.heap.size) {K:Option Addr→Nat→Nat→World→Prop}
  (hk:∀ a' c' w',Upd (fun b=>S≤b) w w'→BList S w' a' c' (l ++ [x])→K a' (l ++ [x]).length c' w'):appendP T.uint8 1 1 [Value.int .u8 0] a n cap (.slice (some ⟨B,0,none⟩) 1 1) w₁ K :=
 BList.cat (xs:=[x]) (h.ext hnew.upd) hn rfl (RowAt.of hnew.get fun j v hj=>by simpa using hj) (by simpa using hb) (by have:=hnew.size;omega) fun a' c' w' hu hl=>hk a' c' w' ((Upd.ext hnew.upd).trans hu) hl
def BytesOut (w w':World) (v:Value) (l:List UInt8) (e:Nat):Prop:=∃ a c,v= .tuple #[.slice a l.length c,.int .i64 (e:Nat)]∧BList w.heap.size w' a c l∧Ext w w'
theorem BytesOut.none {w w':World} {e:Nat} (h:Ext w w'):BytesOut w w' (.tuple #[.slice .none 0 0,.int .i64 (e:Nat)]) [] e:=⟨.none,0,rfl,BList.nil _ _,h⟩
def rowB (b:List UInt8):List UInt8×Nat:=if b.length≤255 then (UInt8.ofNat b.length :: b,0) else ([],3)
def keyB (k:Key):List UInt8:=leB k.ino.toNat 2 ++ [k.what] ++ (if k.what=2 then UInt8.ofNat k.bytes.length :: k.bytes else if k.what=3 then [UInt8.ofNat k.chunk.toNat] else [])
def putKeyB (k:Key):List UInt8×Nat:=if k.may then (keyB k,0) else ([],2)
theorem Key.may_elim {k:Key} (h:k.may=true):1≤k.ino∧k.ino≤65535∧((k.what=1∧k.bytes=[]∧k.chunk=0)∨(k.what=2∧isName k.bytes=true∧k.chunk=0)∨(k.what=3∧k.bytes=[]∧0≤k.chunk∧k.chunk<8)):=by
 unfold Key.may at h
 simp only [Bool.and_eq_true,Bool.or_eq_true,decide_eq_true_eq] at h
 obtain ⟨⟨h1,h2⟩,h3⟩:=h
 refine ⟨h1,h2,?_⟩
 rcases h3 with (⟨⟨h,h'⟩,h''⟩| ⟨⟨h,h'⟩,h''⟩) | ⟨⟨⟨h,h'⟩,h''⟩,h'''⟩
 ·exact .inl ⟨UInt8.toNat_inj.1 h,h',h''⟩
 ·exact .inr (.inl ⟨UInt8.toNat_inj.1 h,h',h''⟩)
 ·exact .inr (.inr ⟨UInt8.toNat_inj.1 h,h',h'',h'''⟩)
theorem isName_len {s:List UInt8} (h:isName s=true):1≤s.length∧s.length≤12:=by
 unfold isName at h
 simp only [Bool.and_eq_true,decide_eq_true_eq] at h
 exact ⟨h.1.1.1.2,h.1.1.2⟩
theorem keyB_len {k:Key} (h:k.may=true):3≤(keyB k).length∧(keyB k).length≤16:=by
 obtain ⟨_,_,h3⟩:=Key.may_elim h
 unfold keyB
 simp only [List.length_append,leB_length,List.length_cons,List.length_nil]
 rcases h3 with ⟨h,_⟩| ⟨h,h',_⟩| ⟨h,_⟩
 ·rw [h,if_neg (by decide),if_neg (by decide)];simp
 ·have:=isName_len h'
  rw [h,if_pos rfl]
  simp only [List.length_cons]
  omega
 ·rw [h,if_neg (by decide),if_pos rfl];simp
def mayC (c:Change):Bool:=c.key.may && (if c.gone then decide (c.val.length=0) else decide (1≤c.val.length) && decide (c.val.length≤255))
def mayL (l:List Change):Bool:=decide (1≤l.length) && decide (l.length≤255) && l.all mayC
def chgB (c:Change):List UInt8:=if c.gone then 0 :: keyB c.key else 1 :: (keyB c.key ++ UInt8.ofNat c.val.length :: c.val)
def bodyB (l:List Change):List UInt8:=UInt8.ofNat l.length :: l.flatMap chgB
def Small (l:List Change):Prop:=∀ x∈l,x.key.name.size<9223372036854775807
theorem chgB_len {x:Change} (h:mayC x=true):(chgB x).length≤300:=by
 unfold mayC at h
 rw [Bool.and_eq_true] at h
 have hk:=keyB_len h.1
 unfold chgB
 split
 ·simp;omega
 ·rename_i hg
  rw [if_neg hg,Bool.and_eq_true,decide_eq_true_eq,decide_eq_true_eq] at h
  simp;omega
theorem flat_len_le {α:Type} {f:α→List UInt8} {n:Nat}:∀ (l:List α),(∀ x∈l,(f x).length≤n)→(l.flatMap f).length≤l.length * n
 | [],_=>by simp
 | x :: l,h=>by
  rw [List.flatMap_cons,List.length_append,List.length_cons,Nat.succ_mul]
  have:=h x (by simp)
  have:=flat_len_le l fun y hy=>h y (by simp [hy])
  omega
theorem mayL_elim {l:List Change} (h:mayL l=true):1≤l.length∧l.length≤255∧∀ x∈l,mayC x=true:=by
 unfold mayL at h
 simp only [Bool.and_eq_true,decide_eq_true_eq,List.all_eq_true] at h
 exact ⟨h.1.1,h.1.2,h.2⟩
theorem bodyB_len {l:List Change} (h:mayL l=true):(bodyB l).length≤100000:=by
 obtain ⟨h1,h2,h3⟩:=mayL_elim h
 unfold bodyB
 have:=flat_len_le (f:=chgB) l (fun x hx=>chgB_len (h3 x hx))
 simp only [List.length_cons]
 omega
def putPage (size:Int) (kind:UInt8) (body:List UInt8):List UInt8×Nat :=
 if isSize size=false∨kind<1∨kind > 7 then ([],2) else if (body.length:Int) > size - 5 then ([],3) else (pageOf size.toNat kind body,0)
def putL (size:Int) (l:List Change):List UInt8×Nat:=if mayL l then putPage size 2 (bodyB l) else ([],2)
def putDropB (size:Int) (seq:Nat):List UInt8×Nat:=if seq=0 then ([],2) else putPage size 3 (leB seq 8)
end Go.Den
namespace Go.Den
def costF (f:Fact):Nat:=if f.key.may then 2+(keyB f.key).length+f.val.length else 0
def mayF (f:Fact):Bool:=f.key.may && decide (1≤f.val.length) && decide (f.val.length≤255)
def roomOf (size:Int):Int:=(if isSize size=true then size - 5 else 0) - 1
def cutGo (room:Int) (i from_ used:Nat):List Fact→List Nat
 | []=>[]
 | f :: l=>if i=0∨room<((used+costF f:Nat):Int)∨i - from_=255 then i :: cutGo room (i+1) i (costF f) l else cutGo room (i+1) from_ (used+costF f) l
def cutsF (size:Int) (l:List Fact):List Nat×Nat :=
 if roomOf size<0 then ([],2)
 else if l.all mayF=false∨ordered l=false then ([],2)
 else if l.all (fun f=>decide ((costF f:Int)≤roomOf size))=false then ([],3)
 else (cutGo (roomOf size) 0 0 0 l,0)
def asChange (f:Fact):Change:=⟨f.key,f.val,false⟩
def pagesGo (size:Int) (l:List Fact):List Nat→List (List UInt8)→List (List UInt8)×Nat
 | [],acc=>(acc,0)
 | a :: at_,acc =>
  let p:=putL size (((l.take (match at_ with | []=>l.length | b :: _=>b)).drop a).map asChange)
  if p.2≠0 then ([],p.2) else pagesGo size l at_ (acc ++ [p.1])
def packF (size:Int) (l:List Fact):List (List UInt8)×Nat :=
 if (cutsF size l).2≠0 then ([],(cutsF size l).2) else pagesGo size l (cutsF size l).1 []
theorem cutGo_sorted (room:Int):∀ (l:List Fact) (i from_ used:Nat),(cutGo room i from_ used l).Pairwise (· < ·)∧∀ x∈cutGo room i from_ used l,i≤x∧x<i+l.length
 | [],i,from_,used=>⟨List.Pairwise.nil,fun _ h=>by cases h⟩
 | f :: l,i,from_,used=>by
  unfold cutGo
  split
  ·obtain ⟨h1,h2⟩:=cutGo_sorted room l (i+1) i (costF f)
   refine ⟨List.pairwise_cons.2 ⟨fun y hy=>by have:=h2 y hy;omega,h1⟩,fun x hx=>?_⟩
   rcases List.mem_cons.1 hx with rfl | hx
   ·simp
   ·have:=h2 x hx;simp;omega
  ·obtain ⟨h1,h2⟩:=cutGo_sorted room l (i+1) from_ (used+costF f)
   exact ⟨h1,fun x hx=>by have:=h2 x hx;simp;omega⟩
theorem costF_le {f:Fact} (h:mayF f=true):costF f≤300:=by
 unfold mayF at h
 simp only [Bool.and_eq_true,decide_eq_true_eq] at h
 unfold costF
 rw [if_pos h.1.1]
 have:=keyB_len h.1.1
 omega
structure LogS where
 pool:Pool
 chip:Chip
 era:Nat
 facts:List Fact
 block:Int
 page:Nat
def ownL (era:Nat) (l:List Taken):List Taken:=l.filter fun t=>decide (t.head.kind=1) && decide (t.head.era=era)
namespace LogS
def take (s:LogS):LogS×Nat :=
 let r:=takePool s.pool s.chip 1 s.era
 if r.err=0 then ({ s with pool:=r.pool,chip:=r.chip,block:=r.block,page:=1 },0) else ({ s with pool:=r.pool,chip:=r.chip },r.err)
def write (b:List UInt8):Nat→LogS→LogS×Nat
 | 0,s=>(s,0)
 | n+1,s =>
  let t:=if s.block= -1∨s.page≥s.chip.np then s.take else (s,0)
  if t.2≠0 then t else
   let q:=t.1.chip.program t.1.block t.1.page b
   if q.2≠9 then ({ t.1 with chip:=q.1,page:=t.1.page+1 },q.2) else write b n { t.1 with chip:=q.1,page:=t.1.page+1,block:= -1 }
def fuel (s:LogS):Nat:=s.chip.hits.length+2
def writeAll:List (List UInt8)→LogS→LogS×Nat
 | [],s=>(s,0)
 | b :: l,s=>if (s.write b s.fuel).2≠0 then s.write b s.fuel else writeAll l (s.write b s.fuel).1
def freeAll (first:Nat):List Taken→LogS→LogS×Nat
 | [],s=>(s,0)
 | t :: l,s=>if t.head.seq≥first∨t.bad=true then freeAll first l s
  else
   let r:=freePool s.pool s.chip t.block
   if r.2.2≠0 then ({ s with pool:=r.1,chip:=r.2.1 },r.2.2) else freeAll first l { s with pool:=r.1,chip:=r.2.1 }
def anew (s:LogS):LogS×Nat :=
 let p:=packF s.chip.sz s.facts
 if p.2≠0 then (s,p.2) else
  let t:=s.take
  if t.2≠0 then t else
   let u:=writeAll (p.1 ++ [(putDropB s.chip.sz t.1.pool.last).1]) t.1
   if u.2≠0 then u else freeAll t.1.pool.last (ownL s.era (takenPool u.1.pool u.1.chip)) u.1
def low (s:LogS) (facts:Nat):Bool:=decide (blanksPool s.pool s.chip<(facts+2+(s.chip.np - 1) - 1) / (s.chip.np - 1)+2+s.chip.sp)
def put (s:LogS) (cs:List Change):LogS×Nat :=
 if s.chip.ask 0 0≠0 then (s,s.chip.ask 0 0) else
  let p:=putL s.chip.sz cs
  if p.2≠0 then (s,p.2) else
   let fs:=applyF s.facts cs
   let t:=if s.low fs.length then s.anew else (s,0)
   if t.2=10 then t else
    let u:=t.1.write p.1 t.1.fuel
    if u.2≠0 then u else ({ u.1 with facts:=fs },0)
end LogS
theorem lg_strike_hits (c:Chip):c.strike.1.hits.length≤c.hits.length∧(c.strike.2≠none→c.strike.1.hits.length<c.hits.length)∧∀ j,c.strike.1.isBad j=c.isBad j:=by
 unfold Chip.strike
 split
 ·rename_i h
  exact ⟨Nat.le_refl _,fun h=>absurd rfl h,fun _=>rfl⟩
 ·rename_i h r hh
  split
  ·exact ⟨Nat.le_refl _,fun h=>absurd rfl h,fun _=>rfl⟩
  ·rw [hh]
   exact ⟨by simp,fun _=>by simp,fun _=>rfl⟩
theorem lg_done_hits (c:Chip) (b off n:Nat) (new:List UInt8):(c.done b off n new).1.hits.length≤c.hits.length∧((c.done b off n new).2≠0→(c.done b off n new).1.hits.length<c.hits.length)∧((c.done b off n new).2=0→∀ j,(c.done b off n new).1.isBad j=c.isBad j):=by
 obtain ⟨h1,h2,h3⟩:=lg_strike_hits c
 unfold Chip.done Chip.finish
 cases hs:c.strike.2 with
 | none=>exact ⟨h1,fun h=>absurd rfl h,fun _ j=>h3 j⟩
 | some h =>
  have h2':=h2 (by rw [hs];simp)
  simp only
  split
  ·exact ⟨h1,fun _=>h2',fun h=>by cases h⟩
  ·exact ⟨h1,fun _=>h2',fun h=>by cases h⟩
theorem lg_ask_ne9 (c:Chip) (i j:Int):c.ask i j≠9:=by
 unfold Chip.ask
 split
 ·decide
 ·split<;>decide
theorem lg_program_hits (c:Chip) (i k:Int) (b:List UInt8):(c.program i k b).1.hits.length≤c.hits.length∧((c.program i k b).2=9→c.isBad i.toNat=false→(c.program i k b).1.hits.length<c.hits.length)∧((c.program i k b).2=0→∀ j,(c.program i k b).1.isBad j=c.isBad j):=by
 unfold Chip.program
 split
 ·exact ⟨Nat.le_refl _,fun h=>absurd h (lg_ask_ne9 _ _ _),fun _ _=>rfl⟩
 ·split
  ·exact ⟨Nat.le_refl _,(fun h=>by cases h),fun _ _=>rfl⟩
  ·split
   ·rename_i hb
    exact ⟨Nat.le_refl _,fun _ h=>(by rw [h] at hb;cases hb),fun _ _=>rfl⟩
   ·split
    ·exact ⟨Nat.le_refl _,(fun h=>by cases h),fun _ _=>rfl⟩
    ·obtain ⟨h1,h2,h3⟩:=lg_done_hits c i.toNat (k.toNat * c.sz) c.sz b
     exact ⟨h1,fun h _=>h2 (by rw [h];decide),h3⟩
theorem lg_erase_hits (c:Chip) (i:Int):(c.erase i).1.hits.length≤c.hits.length∧((c.erase i).2=0→∀ j,(c.erase i).1.isBad j=c.isBad j):=by
 unfold Chip.erase
 split
 ·exact ⟨Nat.le_refl _,fun _ _=>rfl⟩
 ·split
  ·exact ⟨Nat.le_refl _,fun _ _=>rfl⟩
  ·obtain ⟨h1,_,h3⟩:=lg_done_hits c i.toNat 0 (c.np * c.sz) (List.replicate (c.np * c.sz) 255)
   exact ⟨h1,h3⟩
theorem lg_try_hits (P:Pool) (c:Chip) (i:Nat) (kind:UInt8) (era:Nat):(tryBlk P c i kind era).2.1.hits.length≤c.hits.length∧((tryBlk P c i kind era).2.2=0→∀ j,(tryBlk P c i kind era).2.1.isBad j=c.isBad j):=by
 have wh:∀ (P:Pool) (c:Chip),(writeHead P c i kind era).2.1.hits.length≤c.hits.length∧((writeHead P c i kind era).2.2=0→∀ j,(writeHead P c i kind era).2.1.isBad j=c.isBad j):=fun P c=>by
  obtain ⟨h1,_,h3⟩:=lg_program_hits c i 0 (putHead c.sz ⟨kind,era,P.raise.last⟩).1
  exact ⟨h1,h3⟩
 unfold tryBlk
 split
 ·obtain ⟨e1,e2⟩:=lg_erase_hits c i
  split
  ·rename_i hne
   exact ⟨e1,fun h=>absurd h hne⟩
  ·rename_i hz
   obtain ⟨h1,h2⟩:=wh (P.relook (c.erase i).1 i) (c.erase i).1
   exact ⟨Nat.le_trans h1 e1,fun h j=>(h2 h j).trans (e2 (by omega) j)⟩
 ·exact wh P c
theorem lg_takeGo_hits (kind:UInt8) (era:Nat):∀ (ks:List Nat) (P:Pool) (c:Chip),(takeGo kind era P c ks).chip.hits.length≤c.hits.length∧((takeGo kind era P c ks).err=0→(takeGo kind era P c ks).chip.isBad (takeGo kind era P c ks).block=false)
 | [],P,c=>⟨Nat.le_refl _,fun h=>by cases h⟩
 | k :: ks,P,c=>by
  unfold takeGo
  split
  ·exact lg_takeGo_hits kind era ks P c
  ·rename_i hgood
   obtain ⟨h1,h2⟩:=lg_try_hits P c ((P.turn+k) % c.nb) kind era
   split
   ·rename_i h0
    refine ⟨h1,fun _=>?_⟩
    show (tryBlk P c ((P.turn+k) % c.nb) kind era).2.1.isBad ((P.turn+k) % c.nb)=false
    rw [h2 h0]
    cases hb:c.isBad ((P.turn+k) % c.nb) with
    | false=>rfl
    | true=>exact absurd (.inl hb) hgood
   ·split
    ·exact ⟨h1,fun h=>by cases h⟩
    ·obtain ⟨h3,h4⟩:=lg_takeGo_hits kind era ks (tryBlk P c ((P.turn+k) % c.nb) kind era).1 (tryBlk P c ((P.turn+k) % c.nb) kind era).2.1
     exact ⟨Nat.le_trans h3 h1,h4⟩
theorem lg_takePool_hits (P:Pool) (c:Chip) (kind:UInt8) (era:Nat):(takePool P c kind era).chip.hits.length≤c.hits.length∧((takePool P c kind era).err=0→(takePool P c kind era).chip.isBad (takePool P c kind era).block=false):=by
 unfold takePool
 split
 ·exact ⟨Nat.le_refl _,fun h=>by cases h⟩
 ·split
  ·rename_i h
   exact ⟨Nat.le_refl _,fun h'=>absurd h' h⟩
  ·exact lg_takeGo_hits kind era _ P c
def LogS.left (s:LogS):Nat:=s.chip.hits.length+(if s.block= -1 then 1 else 2)
end Go.Den
namespace Go.Den
def getF:List Fact→Key→Option (List UInt8)
 | [],_=>none
 | x :: l,k=>if x.key=k then some x.val else getF l k
theorem getF_none:∀ {l:List Fact} {k:Key},(∀ y∈l,y.key≠k)→getF l k=none
 | [],_,_=>rfl
 | x :: l,k,h=>by
  unfold getF
  rw [if_neg (h x (by simp))]
  exact getF_none fun y hy=>h y (by simp [hy])
theorem before_ne {a b:Key} (h:before a b=true):a≠b:=fun e=>by rw [e,before_irrefl] at h;cases h
theorem getF_head {x:Fact} {l:List Fact} (h:Sorted (x :: l)):getF l x.key=none :=
 getF_none fun y hy e=>before_ne ((List.pairwise_cons.1 h).1 y hy) e.symm
theorem getF_ahead {l:List Fact} {k:Key} (h:∀ y∈l,before k y.key=true):getF l k=none :=
 getF_none fun y hy e=>before_ne (h y hy) e.symm
theorem facts_ext:∀ {l m:List Fact},Sorted l→Sorted m→(∀ k,getF l k=getF m k)→l=m
 | [],[],_,_,_=>rfl
 | [],y :: m,_,_,h=>by have:=h y.key;simp [getF] at this
 | x :: l,[],_,_,h=>by have:=h x.key;simp [getF] at this
 | x :: l,y :: m,hl,hm,h=>by
  obtain ⟨l1,l2⟩:=List.pairwise_cons.1 hl
  obtain ⟨m1,m2⟩:=List.pairwise_cons.1 hm
  have hk:x.key=y.key:=by
   by_cases h1:before x.key y.key=true
   ·have h2:=h x.key
    rw [getF_ahead (l:=y :: m) (fun z hz=>by
     rcases List.mem_cons.1 hz with rfl | hz
     ·exact h1
     ·exact before_trans h1 (m1 z hz))] at h2
    simp [getF] at h2
   ·by_cases h1':before y.key x.key=true
    ·have h2:=h y.key
     rw [getF_ahead (l:=x :: l) (fun z hz=>by
      rcases List.mem_cons.1 hz with rfl | hz
      ·exact h1'
      ·exact before_trans h1' (l1 z hz))] at h2
     simp [getF] at h2
    ·exact before_total (by simpa using h1) (by simpa using h1')
  have hv:x.val=y.val:=by
   have:=h x.key
   unfold getF at this
   rw [if_pos rfl,if_pos hk.symm] at this
   simpa using this
  have hxy:x=y:=by
   cases x;cases y
   simp only at hk hv
   rw [hk,hv]
  subst hxy
  rw [facts_ext l2 m2 fun k=>?_]
  by_cases e:x.key=k
  ·rw [← e,getF_head hl,getF_head hm]
  ·have:=h k
   unfold getF at this
   rwa [if_neg e,if_neg e] at this
theorem getF_putF {c:Change} {k:Key}:∀ {l:List Fact},Sorted l→getF (putF c l) k=if c.key=k then (if c.gone then none else some c.val) else getF l k
 | [],h=>by
  unfold putF
  cases c.gone<;>simp [getF]
 | x :: l,h=>by
  obtain ⟨h1,h2⟩:=List.pairwise_cons.1 h
  unfold putF
  by_cases he:x.key=c.key
  ·rw [if_pos he]
   have hh:=getF_head h
   by_cases hk:c.key=k
   ·rw [if_pos hk]
    cases c.gone
    ·simp [getF,hk]
    ·simp only [if_true]
     rw [← hk,← he];exact hh
   ·rw [if_neg hk]
    have hx:¬ x.key=k:=by rw [he];exact hk
    cases c.gone<;>simp [getF,hk,hx]
  ·rw [if_neg he]
   by_cases hb:before c.key x.key=true
   ·rw [if_pos hb]
    have hh:getF (x :: l) c.key=none:=getF_ahead fun z hz=>by
     rcases List.mem_cons.1 hz with rfl | hz
     ·exact hb
     ·exact before_trans hb (h1 z hz)
    by_cases hk:c.key=k
    ·rw [if_pos hk]
     cases c.gone
     ·simp [getF,hk]
     ·simp only [if_true]
      rw [← hk];exact hh
    ·rw [if_neg hk]
     cases c.gone<;>simp [getF,hk]
   ·rw [if_neg hb]
    have ih:=getF_putF (c:=c) (k:=k) h2
    unfold getF
    by_cases hx:x.key=k
    ·have hk:¬ c.key=k:=fun e=>he (hx.trans e.symm)
     rw [if_pos hx,if_neg hk,if_pos hx]
    ·rw [if_neg hx,ih,if_neg hx]
def effect (cs:List Change) (k:Key) (d:Option (List UInt8)):Option (List UInt8):=cs.foldl (fun d c=>if c.key=k then (if c.gone then none else some c.val) else d) d
theorem getF_applyL {k:Key}:∀ {cs:List Change} {l:List Fact},Sorted l→getF (applyL l cs) k=effect cs k (getF l k)
 | [],l,h=>rfl
 | c :: cs,l,h=>by
  show getF (applyL (putF c l) cs) k=effect cs k (if c.key=k then (if c.gone then none else some c.val) else getF l k)
  rw [getF_applyL (putF_sorted h),getF_putF h]
theorem effect_cases (k:Key):∀ cs:List Change,(∃ v,∀ d,effect cs k d=v)∨∀ d,effect cs k d=d
 | []=>.inr fun _=>rfl
 | c :: cs=>by
  rcases effect_cases k cs with ⟨v,h⟩| h
  ·exact .inl ⟨v,fun d=>h _⟩
  ·by_cases e:c.key=k
   ·refine .inl ⟨if c.gone then none else some c.val,fun d=>?_⟩
    show effect cs k (if c.key=k then (if c.gone then none else some c.val) else d)=_
    rw [h,if_pos e]
   ·refine .inr fun d=>?_
    show effect cs k (if c.key=k then (if c.gone then none else some c.val) else d)=_
    rw [h,if_neg e]
theorem effect_twice (cs:List Change) (k:Key) (d:Option (List UInt8)):effect cs k (effect cs k d)=effect cs k d:=by
 rcases effect_cases k cs with ⟨v,h⟩| h
 ·rw [h,h]
 ·rw [h]
theorem applyF_eq {l:List Fact} (h:ordered l=true) (cs:List Change):applyF l cs=applyL l cs:=by unfold applyF;rw [if_pos h]
theorem applyF_ordered (l:List Fact) (cs:List Change):ordered (applyF l cs)=true:=by
 unfold applyF
 split
 ·rename_i h
  exact ordered_sorted.2 (applyL_sorted (ordered_sorted.1 h))
 ·rfl
theorem applyF_nil {l:List Fact} (h:ordered l=true):applyF l []=l:=by rw [applyF_eq h];rfl
theorem applyF_append {l:List Fact} (h:ordered l=true) (cs ds:List Change):applyF (applyF l cs) ds=applyF l (cs ++ ds):=by
 rw [applyF_eq (applyF_ordered l cs),applyF_eq h,applyF_eq h]
 unfold applyL
 rw [List.foldl_append]
theorem applyF_twice {l:List Fact} (h:ordered l=true) (cs:List Change):applyF (applyF l cs) cs=applyF l cs:=by
 have h':=ordered_sorted.1 h
 rw [applyF_eq (applyF_ordered l cs),applyF_eq h]
 have h1:=applyL_sorted (cs:=cs) h'
 refine facts_ext (applyL_sorted h1) h1 fun k=>?_
 rw [getF_applyL h1,getF_applyL h',effect_twice]
theorem getF_mem {f:Fact}:∀ {l:List Fact},Sorted l→f∈l→getF l f.key=some f.val
 | x :: l,h,hf=>by
  unfold getF
  rcases List.mem_cons.1 hf with rfl | hf
  ·rw [if_pos rfl]
  ·rw [if_neg (before_ne ((List.pairwise_cons.1 h).1 f hf))]
   exact getF_mem (List.pairwise_cons.1 h).2 hf
theorem applyF_same {l:List Fact} (h:ordered l=true) {m:List Fact} (hm:∀ f∈m,f∈l):applyF l (m.map asChange)=l:=by
 have h':=ordered_sorted.1 h
 rw [applyF_eq h]
 refine facts_ext (applyL_sorted h') h' fun k=>?_
 rw [getF_applyL h']
 have:∀ (m:List Fact),(∀ f∈m,f∈l)→effect (m.map asChange) k (getF l k)=getF l k:=by
  intro m
  induction m with
  | nil=>intro _;rfl
  | cons x m ih =>
   intro hm
   show effect (m.map asChange) k (if x.key=k then (if false=true then none else some x.val) else getF l k)=_
   have hx:(if x.key=k then (if false=true then none else some x.val) else getF l k)=getF l k:=by
    split
    ·rename_i e
     rw [if_neg (by decide),← e,getF_mem h' (hm x (by simp))]
    ·rfl
   rw [hx]
   exact ih fun f hf=>hm f (by simp [hf])
 exact this m hm
theorem applyF_all {l:List Fact} (h:ordered l=true):applyF [] (l.map asChange)=l:=by
 have h':=ordered_sorted.1 h
 have h0:Sorted []:=List.Pairwise.nil
 rw [applyF_eq rfl]
 refine facts_ext (applyL_sorted h0) h' fun k=>?_
 rw [getF_applyL h0]
 have:∀ (m:List Fact) (d:Option (List UInt8)),Sorted m→effect (m.map asChange) k d=(getF m k).or d:=by
  intro m
  induction m with
  | nil=>intro d _;rfl
  | cons x m ih =>
   intro d hs
   show effect (m.map asChange) k (if x.key=k then (if false=true then none else some x.val) else d)=_
   rw [ih _ (List.pairwise_cons.1 hs).2]
   show (getF m k).or _=(if x.key=k then some x.val else getF m k).or d
   by_cases e:x.key=k
   ·rw [if_pos e,if_pos e,if_neg (by decide),← e,getF_head hs];rfl
   ·rw [if_neg e,if_neg e]
 rw [this l _ h']
 show (getF l k).or none=getF l k
 cases getF l k<;>rfl
def bit (x:UInt8) (k:Nat):Bool:=x.toBitVec.getLsbD k
theorem bit_nat (x:UInt8) (k:Nat):bit x k=x.toNat.testBit k:=rfl
theorem bit_div (x:UInt8) (k:Nat):(x.toNat / 2 ^ k % 2 == 0)= !bit x k:=by
 rw [bit_nat,Nat.testBit_eq_decide_div_mod_eq]
 have:x.toNat / 2 ^ k % 2=0∨x.toNat / 2 ^ k % 2=1:=by omega
 rcases this with h | h<;>rw [h]<;>rfl
theorem bit_high (x:UInt8) {k:Nat} (h:8≤k):bit x k=false:=by
 unfold bit
 exact BitVec.getLsbD_of_ge _ _ h
theorem bit_ext {x y:UInt8} (h:∀ k,k<8→bit x k=bit y k):x=y:=by
 have:x.toBitVec=y.toBitVec:=BitVec.eq_of_getLsbD_eq fun k hk=>h k hk
 exact UInt8.toBitVec_inj.1 this
theorem zeros8_bits (x:UInt8):zeros8 x=((List.range 8).filter fun k=> !bit x k).length:=by
 unfold zeros8
 congr 2
 funext k
 exact bit_div x k
theorem filter_le {α:Type} {p q:α→Bool}:∀ {l:List α},(∀ a∈l,p a=true→q a=true)→(l.filter p).length≤(l.filter q).length∧((l.filter p).length=(l.filter q).length→∀ a∈l,q a=true→p a=true)
 | [],_=>by simp
 | a :: l,h=>by
  obtain ⟨h1,h2⟩:=filter_le (l:=l) fun b hb=>h b (by simp [hb])
  have ha:=h a (by simp)
  simp only [List.filter_cons]
  cases hp:p a with
  | true =>
   have hq:=ha hp
   simp only [hq,if_true,List.length_cons]
   refine ⟨by omega,fun he b hb hqb=>?_⟩
   rcases List.mem_cons.1 hb with rfl | hb
   ·exact hp
   ·exact h2 (by omega) b hb hqb
  | false =>
   cases hq:q a with
   | true =>
    simp only [Bool.false_eq_true,if_false,if_true,List.length_cons]
    exact ⟨by omega,fun he=>by omega⟩
   | false =>
    simp only [Bool.false_eq_true,if_false]
    refine ⟨h1,fun he b hb hqb=>?_⟩
    rcases List.mem_cons.1 hb with rfl | hb
    ·rw [hq] at hqb;cases hqb
    ·exact h2 he b hb hqb
def sub8 (y x:UInt8):Prop:=∀ k,bit y k=true→bit x k=true
theorem sub8_zeros {y x:UInt8} (h:sub8 y x):zeros8 x≤zeros8 y∧(zeros8 x=zeros8 y→x=y):=by
 rw [zeros8_bits,zeros8_bits]
 obtain ⟨h1,h2⟩:=filter_le (p:=fun k=> !bit x k) (q:=fun k=> !bit y k) (l:=List.range 8) (fun k _ hk=>by
  cases hy:bit y k with
  | false=>rfl
  | true=>rw [h k hy] at hk;cases hk)
 refine ⟨h1,fun he=>bit_ext fun k hk=>?_⟩
 have:=h2 he k (by simpa using hk)
 cases hy:bit y k with
 | true=>exact h k hy
 | false =>
  rw [hy] at this
  simpa using this
theorem sub8_le {y x:UInt8} (h:sub8 y x):y.toNat≤x.toNat:=by
 have:y.toNat &&& x.toNat=y.toNat:=by
  apply Nat.eq_of_testBit_eq
  intro k
  rw [Nat.testBit_and]
  have:=h k
  rw [bit_nat,bit_nat] at this
  cases hy:y.toNat.testBit k with
  | false=>rfl
  | true=>rw [this hy];rfl
 rw [← this]
 exact Nat.and_le_right
theorem sub8_trans {x y z:UInt8} (h:sub8 x y) (k:sub8 y z):sub8 x z:=fun i hi=>k i (h i hi)
theorem bit_mix (m o n:UInt8) {k:Nat} (hk:k<8):bit (mix m o n) k=((bit o k && !bit m k) || (bit n k && bit m k)):=by
 unfold bit mix
 rw [UInt8.toBitVec_or,UInt8.toBitVec_and,UInt8.toBitVec_and,UInt8.toBitVec_not,BitVec.getLsbD_or,BitVec.getLsbD_and,BitVec.getLsbD_and,BitVec.getLsbD_not]
 simp [hk]
theorem bit_255 {k:Nat} (hk:k<8):bit 255 k=true:=by
 match k,hk with
 | 0,_ | 1,_ | 2,_ | 3,_ | 4,_ | 5,_ | 6,_ | 7,_=>rfl
theorem sub8_erase (m o:UInt8):sub8 o (mix m o 255):=by
 intro k hk
 by_cases h8:k<8
 ·rw [bit_mix _ _ _ h8,hk,bit_255 h8]
  cases bit m k<;>rfl
 ·rw [bit_high _ (by omega)] at hk;cases hk
theorem sub8_write (m n:UInt8):sub8 n (mix m 255 n):=by
 intro k hk
 by_cases h8:k<8
 ·rw [bit_mix _ _ _ h8,hk,bit_255 h8]
  cases bit m k<;>rfl
 ·rw [bit_high _ (by omega)] at hk;cases hk
theorem mix_full (o n:UInt8):mix 255 o n=n:=by
 apply bit_ext
 intro k hk
 rw [bit_mix _ _ _ hk,bit_255 hk]
 simp
def SubL (Q X:List UInt8):Prop:=Q.length=X.length∧∀ i,i<Q.length→sub8 (Q.getD i 0) (X.getD i 0)
theorem SubL.trans {A B C:List UInt8} (h:SubL A B) (k:SubL B C):SubL A C:=⟨h.1.trans k.1,fun i hi=>sub8_trans (h.2 i hi) (k.2 i (by rw [← h.1];exact hi))⟩
theorem SubL.cons {y x:UInt8} {ys xs:List UInt8} (h:SubL (y :: ys) (x :: xs)):sub8 y x∧SubL ys xs:=by
 obtain ⟨hl,hb⟩:=h
 refine ⟨hb 0 (by simp),by simpa using hl,fun i hi=>?_⟩
 exact hb (i+1) (by simpa using hi)
theorem SubL.take {A B:List UInt8} (h:SubL A B) (n:Nat):SubL (A.take n) (B.take n):=by
 refine ⟨by simp [h.1],fun i hi=>?_⟩
 have hi':i<A.length∧i<n:=by simp at hi;omega
 have hb:=h.2 i hi'.1
 have hl:=h.1
 simpa [List.getD,List.getElem?_take,hi'.2] using hb
theorem SubL.drop {A B:List UInt8} (h:SubL A B) (n:Nat):SubL (A.drop n) (B.drop n):=by
 refine ⟨by simp [h.1],fun i hi=>?_⟩
 have hb:=h.2 (n+i) (by simp at hi;omega)
 simpa [List.getD] using hb
theorem SubL.nts:∀ {Q X:List UInt8},SubL Q X→noughts X≤noughts Q∧(noughts X=noughts Q→X=Q)
 | [],[],_=>⟨Nat.le_refl _,fun _=>rfl⟩
 | [],_ :: _,h=>by have:=h.1;simp at this
 | _ :: _,[],h=>by have:=h.1;simp at this
 | y :: ys,x :: xs,h=>by
  obtain ⟨h1,h2⟩:=h.cons
  obtain ⟨a1,a2⟩:=sub8_zeros h1
  obtain ⟨b1,b2⟩:=SubL.nts h2
  have e1:noughts (x :: xs)=zeros8 x+noughts xs:=by simp [Go.Den.noughts]
  have e2:noughts (y :: ys)=zeros8 y+noughts ys:=by simp [Go.Den.noughts]
  rw [e1,e2]
  refine ⟨by omega,fun he=>?_⟩
  rw [a2 (by omega),b2 (by omega)]
theorem SubL.fle:∀ {Q X:List UInt8},SubL Q X→fromLE Q≤fromLE X
 | [],[],_=>Nat.le_refl _
 | [],_ :: _,h=>by have:=h.1;simp at this
 | _ :: _,[],h=>by have:=h.1;simp at this
 | y :: ys,x :: xs,h=>by
  obtain ⟨h1,h2⟩:=h.cons
  have a:=sub8_le h1
  have b:=SubL.fle h2
  simp only [Go.Den.fromLE]
  omega
theorem SubL.antisymm {A B:List UInt8} (h:SubL A B) (k:SubL B A):A=B:=by
 have h1:=h.nts
 have h2:=k.nts
 exact (h1.2 (by omega)).symm
def Sound (Q:List UInt8):Prop:=2≤Q.length∧fromLE (Q.take 2)=noughts (Q.drop 2)
def Safe (X:List UInt8):Prop:=∃ Q,Sound Q∧SubL Q X
theorem berger {Q X:List UInt8} (h:SubL Q X) (hq:Sound Q) (hx:Sound X):X=Q:=by
 have h1:=(h.drop 2).nts
 have h2:=(h.take 2).fle
 have e1:=hq.2
 have e2:=hx.2
 have hd:X.drop 2=Q.drop 2:=h1.2 (by omega)
 have hf:fromLE (X.take 2)=fromLE (Q.take 2):=by rw [e1,e2,hd]
 have hl:(X.take 2).length=(Q.take 2).length:=by simp [h.1]
 have ht:X.take 2=Q.take 2:=by
  have a:=leB_fromLE (X.take 2)
  have b:=leB_fromLE (Q.take 2)
  rw [hf,hl,b] at a
  exact a.symm
 rw [← List.take_append_drop 2 X,ht,hd,List.take_append_drop]
theorem Safe.up {X Y:List UInt8} (h:Safe X) (k:SubL X Y):Safe Y:=by
 obtain ⟨Q,hq,hs⟩:=h
 exact ⟨Q,hq,hs.trans k⟩
theorem Safe.same {X Y:List UInt8} (h:Safe X) (k:SubL X Y) (hy:Sound Y):Y=X:=by
 obtain ⟨Q,hq,hs⟩:=h
 have e:=berger (hs.trans k) hq hy
 subst e
 exact SubL.antisymm hs k
theorem getHead_sound {b:List UInt8} (h:(getHead b).2=0):Sound b:=by
 have hp:(getPage b).2.2=0:=by
  unfold getHead at h
  split at h
  ·exact absurd h (by assumption)
  ·rename_i hc;exact Classical.byContradiction hc
 unfold getPage at hp
 split at hp
 ·cases hp
 ·rename_i hs
  split at hp
  ·cases hp
  ·split at hp
   ·cases hp
   ·rename_i hn
    have hs':isSize b.length=true:=by simpa using hs
    simp [isSize] at hs'
    exact ⟨by omega,Classical.byContradiction hn⟩
theorem pageOf_sound {size:Nat} {kind:UInt8} {body:List UInt8} (hb:body.length+5≤size) (hs:size≤8000):Sound (pageOf size kind body):=by
 have hl:=pageOf_length size kind body hb
 have hrl:=pageRest_length size kind body hb
 have hn:=noughts_le (pageRest size kind body)
 have h2:=leB_length 2 (noughts (pageRest size kind body))
 have e:(256:Nat) ^ 2=65536:=by decide
 refine ⟨by omega,?_⟩
 unfold pageOf
 rw [List.take_append_of_le_length (by omega),List.take_of_length_le (by omega),List.drop_append_of_le_length (by omega),List.drop_of_length_le (by omega),List.nil_append]
 exact fromLE_leB 2 _ (by omega)
theorem mixL_getD (h:Option Hit) (old new:List UInt8) {i:Nat} (hi:i<old.length):(mixL h old new).getD i 0=mix (maskAt h i) (old.getD i 0) (new.getD i 0):=by
 simp [mixL,List.getD,hi]
theorem mixL_none (old new:List UInt8) (hl:new.length=old.length):mixL none old new=new:=by
 apply List.ext_getElem
 ·simp [mixL_length,hl]
 ·intro i h1 h2
  simp only [mixL,List.getElem_map,List.getElem_range,maskAt,mix_full]
  simp [List.getD,h2]
theorem mixL_erase (h:Option Hit) (old:List UInt8) (n:Nat) (hn:old.length≤n):SubL old (mixL h old (List.replicate n 255)):=by
 refine ⟨(mixL_length _ _ _).symm,fun i hi=>?_⟩
 rw [mixL_getD _ _ _ hi]
 have:(List.replicate n (255:UInt8)).getD i 0=255:=by simp [List.getD,show i<n by omega]
 rw [this]
 exact sub8_erase _ _
theorem mixL_write (h:Option Hit) (n:Nat) (new:List UInt8) (hl:new.length=n):SubL new (mixL h (List.replicate n 255) new):=by
 refine ⟨by rw [mixL_length];simp [hl],fun i hi=>?_⟩
 rw [mixL_getD _ _ _ (by simp;omega)]
 have:(List.replicate n (255:UInt8)).getD i 0=255:=by simp [List.getD,show i<n by omega]
 rw [this]
 exact sub8_write _ _
theorem isBlank_replicate (n:Nat):isBlank (List.replicate n 255)=true:=by simp [isBlank]
theorem getPage_pageOf {size:Nat} {kind:UInt8} {body:List UInt8} (hs:isSize size=true) (hk1:¬ kind<1) (hk7:¬ kind > 7) (hb:body.length+5≤size):getPage (pageOf size kind body)=(kind,body,0):=by
 have hs':=hs
 simp [isSize] at hs'
 have hlen:=pageOf_length size kind body hb
 have hrl:=pageRest_length size kind body hb
 have hn:=noughts_le (pageRest size kind body)
 have h2:=leB_length 2 (noughts (pageRest size kind body))
 have h3:=leB_length 2 body.length
 have e256:(256:Nat) ^ 2=65536:=by decide
 obtain ⟨n0,n1,hN⟩: ∃ n0 n1,leB (noughts (pageRest size kind body)) 2=[n0,n1]:=⟨_,_,rfl⟩
 obtain ⟨m0,m1,hM⟩: ∃ m0 m1,leB body.length 2=[m0,m1]:=⟨_,_,rfl⟩
 have hp:pageOf size kind body=n0 :: n1 :: kind :: m0 :: m1 :: (body ++ List.replicate (size - 5 - body.length) 255):=by
  unfold pageOf
  rw [hN]
  unfold pageRest
  rw [hM]
  simp
 have hr:pageRest size kind body=kind :: m0 :: m1 :: (body ++ List.replicate (size - 5 - body.length) 255):=by
  unfold pageRest
  rw [hM]
  simp
 have f1:fromLE [n0,n1]=noughts (pageRest size kind body):=by rw [← hN];exact fromLE_leB 2 _ (by omega)
 have f2:fromLE [m0,m1]=body.length:=by rw [← hM];exact fromLE_leB 2 _ (by omega)
 have hkb:kind≠255:=fun e=>hk7 (by rw [e];decide)
 have hnb:isBlank (pageOf size kind body)=false:=by
  rw [hp]
  simp [isBlank,hkb]
 unfold getPage
 rw [hlen,if_neg (by rw [hs];simp),if_neg (by rw [hnb];simp)]
 have d2:(pageOf size kind body).drop 2=pageRest size kind body:=by rw [hp,hr];rfl
 have t2:(pageOf size kind body).take 2=[n0,n1]:=by rw [hp];rfl
 have g2:(pageOf size kind body).getD 2 0=kind:=by rw [hp];rfl
 have t3:((pageOf size kind body).drop 3).take 2=[m0,m1]:=by rw [hp];rfl
 rw [d2,t2,f1,if_neg (by simp),g2,t3,f2]
 have d5:(pageOf size kind body).drop (5+body.length)=List.replicate (size - 5 - body.length) 255:=by
  rw [hp,← List.drop_drop]
  show (body ++ List.replicate (size - 5 - body.length) 255).drop body.length=_
  simp
 have t5:((pageOf size kind body).take (5+body.length)).drop 5=body:=by
  rw [hp,Nat.add_comm]
  show ((n0 :: n1 :: kind :: m0 :: m1 :: (body ++ List.replicate (size - 5 - body.length) 255)).take (body.length+5)).drop 5=body
  simp
 rw [d5,t5,isBlank_replicate,if_neg]
 rintro (h | h | h | h)
 ·exact hk1 h
 ·exact hk7 h
 ·omega
 ·cases h
theorem getHead_pageOf {size:Nat} {h:Head} (hs:isSize size=true) (ho:h.Ok) (hm:h.may=true):getHead (pageOf size 1 h.body)=(h,0):=by
 have hbl:=h.body_length
 have hsz:=putHead_size hs
 have hg:=getPage_pageOf (kind:=1) (body:=h.body) hs (by decide) (by decide) (by omega)
 unfold getHead
 rw [hg]
 simp only []
 rw [if_neg (by simp),if_neg (by rw [hbl];simp)]
 have e4:(256:Nat) ^ 4=4294967296:=by decide
 have e8:(256:Nat) ^ 8=18446744073709551616:=by decide
 have h4:=leB_length 4 h.era
 have h8:=leB_length 8 h.seq
 have b0:h.body.getD 0 0=h.kind:=rfl
 have b1:(h.body.drop 1).take 4=leB h.era 4:=by
  show (leB h.era 4 ++ leB h.seq 8).take 4=_
  rw [List.take_append_of_le_length (by omega),List.take_of_length_le (by omega)]
 have b5:(h.body.drop 5).take 8=leB h.seq 8:=by
  show ((leB h.era 4 ++ leB h.seq 8).drop 4).take 8=_
  rw [List.drop_append_of_le_length (by omega),List.drop_of_length_le (by omega),List.nil_append,List.take_of_length_le (by omega)]
 have f1:fromLE (leB h.era 4)=h.era:=fromLE_leB 4 _ (by have:=ho.1;omega)
 have f2:fromLE (leB h.seq 8)=h.seq:=fromLE_leB 8 _ (by have:=ho.2;omega)
 rw [b0,b1,b5,f1,f2]
 have e:(Head.mk h.kind h.era h.seq)=h:=rfl
 rw [e,hm]
 rfl
structure Deed (c c':Chip) (i e:Nat):Prop where
 geo:c.SameGeo c'
 ok:c'.Ok
 blk:∀ j,j≠i→c'.blk j=c.blk j
 bad:∀ j,j≠i→c'.isBad j=c.isBad j
 cases:(e=0∧c'.dead=c.dead∧c'.bad=c.bad)∨(e=9∧c'.dead=c.dead∧c'.isBad i=true)∨(e=10∧c'.dead=true∧c'.bad=c.bad)
 calm:(∀ t∈c.hits,t.fails=false)→e≠9∧(∀ t∈c'.hits,t.fails=false)∧c'.bad=c.bad
 quiet:c.hits=[]→e=0∧c'.hits=[]
theorem strike_same (c:Chip):c.strike.1.nb=c.nb∧c.strike.1.np=c.np∧c.strike.1.sz=c.sz∧c.strike.1.blocks=c.blocks∧c.strike.1.bad=c.bad∧c.strike.1.dead=c.dead∧(∀ t∈c.strike.1.hits,t∈c.hits)∧(∀ t,c.strike.2=some t→t∈c.hits)∧(c.hits=[]→c.strike.2=none∧c.strike.1.hits=[]):=by
 unfold Chip.strike
 split
 ·rename_i h
  exact ⟨rfl,rfl,rfl,rfl,rfl,rfl,(fun t ht=>ht),(fun t ht=>by cases ht),fun _=>⟨rfl,h⟩⟩
 ·rename_i t r h
  split
  ·exact ⟨rfl,rfl,rfl,rfl,rfl,rfl,(fun t ht=>ht),(fun t ht=>by cases ht),fun h'=>by rw [h] at h';cases h'⟩
  ·exact ⟨rfl,rfl,rfl,rfl,rfl,rfl,(fun t ht=>by rw [h];simp [ht]),(fun t ht=>by cases ht;rw [h];simp),fun h'=>by rw [h] at h';cases h'⟩
theorem getD_set_ne {α:Type} {l:List α} {i j:Nat} {x d:α} (h:j≠i):(l.set i x).getD j d=l.getD j d:=by
 simp [List.getD,List.getElem?_set_ne (Ne.symm h)]
theorem getD_set_eq {α:Type} {l:List α} {i:Nat} {x d:α} (h:i<l.length):(l.set i x).getD i d=x:=by
 simp [List.getD,h]
def madeBlk (c:Chip) (b off n:Nat) (new:List UInt8):List UInt8:=(c.blk b).take off ++ mixL c.strike.2 (((c.blk b).drop off).take n) new ++ (c.blk b).drop (off+n)
theorem done_deed {c:Chip} (h:c.Ok) {b off n:Nat} (hb:b<c.nb) (ho:off+n≤c.np * c.sz) (new:List UInt8) :
  Deed c (c.done b off n new).1 b (c.done b off n new).2∧(c.done b off n new).1.blk b=madeBlk c b off n new∧(c.done b off n new).1.dead=(if (c.done b off n new).2=10 then true else c.dead):=by
 obtain ⟨s1,s2,s3,s4,s5,s6,s7,s8,s9⟩:=strike_same c
 have hbl:=h.blk_len hb
 have hml:(madeBlk c b off n new).length=c.np * c.sz:=by simp [madeBlk,mixL_length];omega
 have hbb:b<c.blocks.length:=by rw [h.bl];exact hb
 have hbd:b<c.bad.length:=by rw [h.bad];exact hb
 have hdone:c.done b off n new=(c.strike.1.setBlk b (madeBlk c b off n new)).finish b c.strike.2:=rfl
 have hmid:∀ (bad:List Bool) (dead:Bool),bad.length=c.nb→({ c.strike.1.setBlk b (madeBlk c b off n new) with bad:=bad,dead:=dead }:Chip).Ok:=by
  intro bad dead hl
  refine ⟨by show 8≤c.strike.1.nb;rw [s1];exact h.nb1,by show c.strike.1.nb≤64;rw [s1];exact h.nb2,by show 4≤c.strike.1.np;rw [s2];exact h.np1,by show c.strike.1.np≤32;rw [s2];exact h.np2,by show 128≤c.strike.1.sz;rw [s3];exact h.sz1,by show c.strike.1.sz≤256;rw [s3];exact h.sz2,?_,?_,?_⟩
  ·show (c.strike.1.blocks.set b _).length=c.strike.1.nb
   rw [List.length_set,s4,s1];exact h.bl
  ·intro x hx
   have hx':x∈c.strike.1.blocks.set b (madeBlk c b off n new):=hx
   show x.length=c.strike.1.np * c.strike.1.sz
   rw [s2,s3]
   rw [s4] at hx'
   rcases List.mem_or_eq_of_mem_set hx' with hx' | hx'
   ·exact h.bl2 x hx'
   ·rw [hx'];exact hml
  ·show bad.length=c.strike.1.nb
   rw [s1];exact hl
 have hblk:∀ (bad:List Bool) (dead:Bool) j,({ c.strike.1.setBlk b (madeBlk c b off n new) with bad:=bad,dead:=dead }:Chip).blk j=if j=b then madeBlk c b off n new else c.blk j:=by
  intro bad dead j
  show (c.strike.1.blocks.set b _).getD j []=_
  rw [s4]
  split
  ·rename_i e;subst e;exact getD_set_eq hbb
  ·rename_i e;exact getD_set_ne e
 rw [hdone]
 cases hh:c.strike.2 with
 | none =>
  have e:(c.strike.1.setBlk b (madeBlk c b off n new)).finish b none=({ c.strike.1.setBlk b (madeBlk c b off n new) with bad:=c.strike.1.bad,dead:=c.strike.1.dead },0):=rfl
  rw [e]
  refine ⟨⟨⟨s1,s2,s3,(c.strike_geo).2.2.2⟩,hmid _ _ (by rw [s5];exact h.bad),fun j hj=>by rw [hblk,if_neg hj],fun j hj=>by show c.strike.1.bad.getD j false=_;rw [s5];rfl,.inl ⟨rfl,s6,s5⟩,fun hc=>⟨by simp,fun t ht=>hc t (s7 t ht),s5⟩,fun hq=>⟨rfl,(s9 hq).2⟩⟩,by rw [hblk,if_pos rfl],?_⟩
  simp only [if_neg (show ¬ (0=10) by omega)]
  exact s6
 | some t =>
  have htm:=s8 t hh
  have hnq:¬ c.hits=[]:=fun hq=>by rw [(s9 hq).1] at hh;cases hh
  cases hf:t.fails with
  | true =>
   have e:(c.strike.1.setBlk b (madeBlk c b off n new)).finish b (some t)=({ c.strike.1.setBlk b (madeBlk c b off n new) with bad:=c.strike.1.bad.set b true,dead:=c.strike.1.dead },9):=by
    simp only [Chip.finish,hf,if_true];rfl
   rw [e]
   refine ⟨⟨⟨s1,s2,s3,(c.strike_geo).2.2.2⟩,hmid _ _ (by rw [List.length_set,s5];exact h.bad),fun j hj=>by rw [hblk,if_neg hj],fun j hj=>?_,.inr (.inl ⟨rfl,s6,?_⟩),fun hc=>?_,fun hq=>absurd hq hnq⟩,by rw [hblk,if_pos rfl],?_⟩
   ·show (c.strike.1.bad.set b true).getD j false=_
    rw [s5];exact getD_set_ne hj
   ·show (c.strike.1.bad.set b true).getD b false=true
    rw [s5];exact getD_set_eq hbd
   ·rw [hc t htm] at hf;cases hf
   ·simp only [if_neg (show ¬ (9=10) by omega)];exact s6
  | false =>
   have e:(c.strike.1.setBlk b (madeBlk c b off n new)).finish b (some t)=({ c.strike.1.setBlk b (madeBlk c b off n new) with bad:=c.strike.1.bad,dead:=true },10):=by
    simp only [Chip.finish,hf];rfl
   rw [e]
   refine ⟨⟨⟨s1,s2,s3,(c.strike_geo).2.2.2⟩,hmid _ _ (by rw [s5];exact h.bad),fun j hj=>by rw [hblk,if_neg hj],fun j hj=>by show c.strike.1.bad.getD j false=_;rw [s5];rfl,.inr (.inr ⟨rfl,rfl,s5⟩),fun hc=>⟨by simp,fun t ht=>hc t (s7 t ht),s5⟩,fun hq=>absurd hq hnq⟩,by rw [hblk,if_pos rfl],?_⟩
   simp only [if_true]
def hd (c:Chip) (i:Nat):Head×Nat:=getHead (c.page i 0)
def isHd (c:Chip) (i:Nat):Prop:=(hd c i).2=0
def view (c:Chip) (i:Nat):Blk:=if (hd c i).2=0 then ⟨2,(hd c i).1⟩ else if isBlank (c.blk i) then ⟨0,Head.none⟩ else ⟨1,Head.none⟩
theorem lookAt_view (c:Chip) (i:Nat) (old:Blk):lookAt c i old=if c.dead then old else view c i:=rfl
theorem view_what (c:Chip) (i:Nat):(view c i).what=2 ↔ isHd c i:=by
 unfold view isHd
 split
 ·rename_i h;simp [h]
 ·rename_i h;split<;>simp [h]
theorem hd_blk {c c':Chip} (hg:c.SameGeo c') {i:Nat} (h:c'.blk i=c.blk i):hd c' i=hd c i:=by
 unfold hd Chip.page
 rw [h,hg.2.2.1]
theorem view_blk {c c':Chip} (hg:c.SameGeo c') {i:Nat} (h:c'.blk i=c.blk i):view c' i=view c i:=by
 unfold view
 rw [hd_blk hg h,h]
structure CI (c:Chip):Prop where
 ok:c.Ok
 safe:∀ i,i<c.nb→Safe (c.page i 0)
 uniq:∀ i j,i<c.nb→j<c.nb→i≠j→isHd c i→isHd c j→(hd c i).1.seq≠(hd c j).1.seq
structure Inv (P:Pool) (c:Chip):Prop where
 ci:CI c
 len:P.blocks.length=c.nb
 known:c.dead=false→∀ i,i<c.nb→P.blk i=view c i
 last:∀ i,i<c.nb→isHd c i→(hd c i).1.seq≤P.last
theorem setBlk_blk {P:Pool} {i j:Nat} {b:Blk} (hi:i<P.blocks.length):(P.setBlk i b).blk j=if j=i then b else P.blk j:=by
 show (P.blocks.set i b).getD j Blk.zero=_
 split
 ·rename_i e;subst e;exact getD_set_eq hi
 ·rename_i e;exact getD_set_ne e
theorem Inv.deed {P P':Pool} {c c':Chip} {i e:Nat} (h:Inv P c) (hd0:c.dead=false) (hi:i<c.nb) (hde:Deed c c' i e) (hs:Safe (c'.page i 0)) (hbl:P'.blocks=(P.relook c' i).blocks) (hl:P.last≤P'.last)
  (hnew:isHd c' i→(isHd c i∧hd c' i=hd c i)∨(P.last<(hd c' i).1.seq∧(hd c' i).1.seq≤P'.last)):Inv P' c':=by
 have hnb:=hde.geo.1
 have hoth:∀ j,j≠i→hd c' j=hd c j:=fun j hj=>hd_blk hde.geo (hde.blk j hj)
 have hothH:∀ j,j≠i→(isHd c' j ↔ isHd c j):=fun j hj=>by unfold isHd;rw [hoth j hj]
 have hpg:∀ j,j≠i→c'.page j 0=c.page j 0:=fun j hj=>by unfold Chip.page;rw [hde.blk j hj,hde.geo.2.2.1]
 have hil:i<P.blocks.length:=by rw [h.len];exact hi
 refine ⟨⟨hde.ok,fun j hj=>?_,fun j k hj hk hjk h1 h2=>?_⟩,?_,fun hd' j hj=>?_,fun j hj h1=>?_⟩
 ·by_cases hji:j=i
  ·subst hji;exact hs
  ·rw [hpg j hji];exact h.ci.safe j (by rw [← hnb];exact hj)
 ·rw [hnb] at hj hk
  by_cases hji:j=i
  ·subst hji
   have hkj:k≠j:=fun e=>hjk e.symm
   have h2':=(hothH k hkj).1 h2
   rw [hoth k hkj]
   rcases hnew h1 with ⟨ho,he⟩| ⟨hlt,_⟩
   ·rw [he];exact h.ci.uniq j k hj hk hjk ho h2'
   ·have:=h.last k hk h2';omega
  ·by_cases hki:k=i
   ·subst hki
    have h1':=(hothH j hji).1 h1
    rw [hoth j hji]
    rcases hnew h2 with ⟨ho,he⟩| ⟨hlt,_⟩
    ·rw [he];exact h.ci.uniq j k hj hk hjk h1' ho
    ·have:=h.last j hj h1';omega
   ·rw [hoth j hji,hoth k hki]
    exact h.ci.uniq j k hj hk hjk ((hothH j hji).1 h1) ((hothH k hki).1 h2)
 ·rw [hbl,hnb]
  show (P.blocks.set i _).length=_
  rw [List.length_set];exact h.len
 ·rw [hnb] at hj
  have:P'.blk j=(P.relook c' i).blk j:=by unfold Pool.blk;rw [hbl]
  rw [this]
  unfold Pool.relook
  rw [setBlk_blk hil,lookAt_view]
  by_cases hji:j=i
  ·subst hji
   rw [if_pos rfl,if_neg (by rw [hd'];simp)]
  ·rw [if_neg hji,h.known hd0 j hj]
   exact (view_blk hde.geo (hde.blk j hji)).symm
 ·rw [hnb] at hj
  by_cases hji:j=i
  ·subst hji
   rcases hnew h1 with ⟨ho,he⟩| ⟨_,hle⟩
   ·rw [he];have:=h.last j hj ho;omega
   ·exact hle
  ·rw [hoth j hji]
   have:=h.last j hj ((hothH j hji).1 h1)
   omega
theorem done_zero {c:Chip} {b off n:Nat} {new:List UInt8} (h:(c.done b off n new).2=0):c.strike.2=none:=by
 unfold Chip.done Chip.finish at h
 cases hh:c.strike.2 with
 | none=>rfl
 | some t =>
  rw [hh] at h
  simp only [] at h
  split at h<;>cases h
theorem isBlank_eq {l:List UInt8} (h:isBlank l=true):l=List.replicate l.length 255:=by
 refine List.eq_replicate_iff.2 ⟨rfl,fun b hb=>?_⟩
 simp only [isBlank,List.all_eq_true,beq_iff_eq] at h
 exact h b hb
theorem page0 {c:Chip} (i:Nat):c.page i 0=(c.blk i).take c.sz:=by simp [Chip.page]
theorem erase_done {c:Chip} (h:c.Ok) (hd0:c.dead=false) {i:Nat} (hi:i<c.nb) (hb:c.isBad i=false):c.erase i=c.done i 0 (c.np * c.sz) (List.replicate (c.np * c.sz) 255):=by
 unfold Chip.erase
 have:=h.np1
 have ha:c.ask i 0=0:=ask_ok (k:=0) hd0 hi (by omega)
 rw [if_neg (by omega)]
 simp only [Int.toNat_natCast]
 rw [if_neg (by rw [hb];simp)]
theorem erase_inv {P:Pool} {c:Chip} (h:Inv P c) (hd0:c.dead=false) {i:Nat} (hi:i<c.nb) (hb:c.isBad i=false) :
  Deed c (c.erase i).1 i (c.erase i).2∧Inv (P.relook (c.erase i).1 i) (c.erase i).1∧((c.erase i).2=0→(c.erase i).1.blk i=List.replicate (c.np * c.sz) 255)∧(isHd (c.erase i).1 i→isHd c i∧hd (c.erase i).1 i=hd c i):=by
 rw [erase_done h.ci.ok hd0 hi hb]
 obtain ⟨hde,hbl,hdd⟩:=done_deed h.ci.ok hi (off:=0) (n:=c.np * c.sz) (by omega) (List.replicate (c.np * c.sz) 255)
 have hz:=@done_zero c i 0 (c.np * c.sz) (List.replicate (c.np * c.sz) 255)
 generalize hr:c.done i 0 (c.np * c.sz) (List.replicate (c.np * c.sz) 255)=r at *
 have hlen:=h.ci.ok.blk_len hi
 have hmb:madeBlk c i 0 (c.np * c.sz) (List.replicate (c.np * c.sz) 255)=mixL c.strike.2 (c.blk i) (List.replicate (c.np * c.sz) 255):=by
  unfold madeBlk
  rw [Nat.zero_add,List.drop_zero,List.take_zero,List.nil_append,List.take_of_length_le (show (c.blk i).length≤c.np * c.sz by omega),List.drop_of_length_le (show (c.blk i).length≤c.np * c.sz by omega),List.append_nil]
 rw [hmb] at hbl
 have hsub:SubL (c.blk i) (r.1.blk i):=by rw [hbl];exact mixL_erase _ _ _ (by omega)
 have hsp:SubL (c.page i 0) (r.1.page i 0):=by rw [page0,page0,hde.geo.2.2.1];exact hsub.take _
 have hsafe:=h.ci.safe i hi
 have hkeep:isHd r.1 i→isHd c i∧hd r.1 i=hd c i:=by
  intro hh
  have e:=hsafe.same hsp (getHead_sound hh)
  have:hd r.1 i=hd c i:=by unfold hd;rw [e]
  exact ⟨by unfold isHd;rw [← this];exact hh,this⟩
 refine ⟨hde,h.deed hd0 hi hde (hsafe.up hsp) rfl (Nat.le_refl _) (fun hh=>.inl (hkeep hh)),fun h0=>?_,hkeep⟩
 rw [hbl,hz h0,mixL_none _ _ (by simp;omega)]
theorem view_zero {c:Chip} {i:Nat} (h:(view c i).what=0):isBlank (c.blk i)=true:=by
 unfold view at h
 split at h
 ·cases h
 ·split at h
  ·assumption
  ·cases h
theorem view_one {c:Chip} {i:Nat} (h:(view c i).what≠2) (h1:(view c i).what≠1):(view c i).what=0:=by
 unfold view at h h1 ⊢
 split
 ·rename_i hh;rw [if_pos hh] at h;exact absurd rfl h
 ·rename_i hh
  rw [if_neg hh] at h1
  split
  ·rfl
  ·rename_i hb;rw [if_neg hb] at h1;exact absurd rfl h1
theorem write_inv {P:Pool} {c:Chip} (h:Inv P c) (hd0:c.dead=false) {i:Nat} (hi:i<c.nb) (hb:c.isBad i=false) (hbl:isBlank (c.blk i)=true) {kind:UInt8} {era:Nat} (hk1:1≤kind.toNat) (hk3:kind.toNat≤3) (he1:1≤era) (he2:era<4294967296) (hl:P.last+1<18446744073709551616) :
  (writeHead P c i kind era).1.last=P.last+1∧(writeHead P c i kind era).1.turn=P.turn∧Deed c (writeHead P c i kind era).2.1 i (writeHead P c i kind era).2.2∧Inv (writeHead P c i kind era).1 (writeHead P c i kind era).2.1∧
   ((writeHead P c i kind era).2.2=0→hd (writeHead P c i kind era).2.1 i=(⟨kind,era,P.last+1⟩,0)):=by
 have hok:=h.ci.ok
 have hlast:P.raise.last=P.last+1:=Nat.mod_eq_of_lt hl
 have hsz:isSize (c.sz:Int)=true:=by
  have:=hok.sz1
  have:=hok.sz2
  simp [isSize];omega
 have hm:(Head.mk kind era (P.last+1)).may=true:=by
  simp [Head.may];omega
 have hHok:(Head.mk kind era (P.last+1)).Ok:=⟨he2,hl⟩
 have hput:putHead c.sz ⟨kind,era,P.raise.last⟩= (pageOf c.sz 1 (Head.mk kind era (P.last+1)).body,0):=by
  unfold putHead
  rw [hlast,if_neg (by rw [hm,hsz];simp)]
  simp
 have hbody:=(Head.mk kind era (P.last+1)).body_length
 have hpl:(pageOf c.sz 1 (Head.mk kind era (P.last+1)).body).length=c.sz:=pageOf_length _ _ _ (by have:=hok.sz1;omega)
 have hpg:=getHead_pageOf hsz hHok hm
 generalize hpage:pageOf c.sz 1 (Head.mk kind era (P.last+1)).body=pg at *
 have hprog:c.program i 0 pg=c.done i 0 c.sz pg:=by
  have:=hok.np1
  have ha:c.ask i 0=0:=ask_ok (k:=0) hd0 hi (by omega)
  unfold Chip.program
  rw [if_neg (by omega),if_neg (by omega)]
  simp only [Int.toNat_natCast,tn0,Nat.zero_mul,List.drop_zero]
  rw [if_neg (by rw [hb];simp),if_neg (by rw [hbl];simp)]
 have hw:writeHead P c i kind era=(P.raise.relook (c.done i 0 c.sz pg).1 i,(c.done i 0 c.sz pg).1,(c.done i 0 c.sz pg).2):=by
  unfold writeHead
  rw [hput,hprog]
 rw [hw]
 have hfit:c.sz≤c.np * c.sz:=Nat.le_mul_of_pos_left _ (by have:=hok.np1;omega)
 obtain ⟨hde,hblk,hdd⟩:=done_deed hok hi (off:=0) (n:=c.sz) (by omega) pg
 have hz:=@done_zero c i 0 c.sz pg
 generalize hr:c.done i 0 c.sz pg=r at *
 have hlen:=hok.blk_len hi
 have hrep:=isBlank_eq hbl
 have htk:(c.blk i).take c.sz=List.replicate c.sz 255:=by rw [hrep,hlen,List.take_replicate,Nat.min_eq_left hfit]
 have hpage0:r.1.page i 0=mixL c.strike.2 (List.replicate c.sz 255) pg:=by
  rw [page0,hde.geo.2.2.1,hblk]
  unfold madeBlk
  rw [Nat.zero_add,List.drop_zero,htk,List.take_zero,List.nil_append,List.take_append_of_le_length (by simp [mixL_length]),List.take_of_length_le (by simp [mixL_length])]
 have hsub:SubL pg (r.1.page i 0):=by rw [hpage0];exact mixL_write _ _ _ hpl
 have hsound:Sound pg:=by rw [← hpage];exact pageOf_sound (by have:=hok.sz1;omega) (by have:=hok.sz2;omega)
 have hnew:isHd r.1 i→hd r.1 i=(⟨kind,era,P.last+1⟩,0):=by
  intro hh
  have e:=berger hsub hsound (getHead_sound hh)
  unfold hd
  rw [e];exact hpg
 refine ⟨hlast,rfl,hde,h.deed hd0 hi hde ⟨pg,hsound,hsub⟩ rfl (by show P.last≤P.raise.last;omega) (fun hh=>.inr ?_),fun h0=>?_⟩
 ·rw [hnew hh]
  show P.last<P.last+1∧P.last+1≤P.raise.last
  omega
 ·have e:r.1.page i 0=pg:=by rw [hpage0,hz h0,mixL_none _ _ (by simp [hpl])]
  unfold hd
  rw [e];exact hpg
theorem Deed.trans {c c1 c2:Chip} {i e:Nat} (h:Deed c c1 i 0) (k:Deed c1 c2 i e):Deed c c2 i e:=by
 obtain ⟨hd1,hb1⟩: c1.dead=c.dead∧c1.bad=c.bad:=by
  rcases h.cases with ⟨_,a,b⟩| ⟨a,_⟩| ⟨a,_⟩
  ·exact ⟨a,b⟩
  ·cases a
  ·cases a
 refine ⟨h.geo.trans k.geo,k.ok,fun j hj=>(k.blk j hj).trans (h.blk j hj),fun j hj=>(k.bad j hj).trans (h.bad j hj),?_,fun hc=>?_,fun hq=>k.quiet (h.quiet hq).2⟩
 ·rcases k.cases with ⟨a,b,d⟩| ⟨a,b,d⟩| ⟨a,b,d⟩
  ·exact .inl ⟨a,by rw [b,hd1],by rw [d,hb1]⟩
  ·exact .inr (.inl ⟨a,by rw [b,hd1],d⟩)
  ·exact .inr (.inr ⟨a,b,by rw [d,hb1]⟩)
 ·have h1:=h.calm hc
  have k1:=k.calm h1.2.1
  exact ⟨k1.1,k1.2.1,by rw [k1.2.2,hb1]⟩
structure TryR (P:Pool) (c:Chip) (i:Nat) (kind:UInt8) (era:Nat) (P':Pool) (c':Chip) (e:Nat):Prop where
 deed:Deed c c' i e
 inv:Inv P' c'
 lo:P.last≤P'.last
 hi:P'.last≤P.last+1
 turn:P'.turn=P.turn
 ok:e=0→hd c' i=(⟨kind,era,P'.last⟩,0)∧P'.last=P.last+1
theorem try_inv {P:Pool} {c:Chip} (h:Inv P c) (hd0:c.dead=false) {i:Nat} (hi:i<c.nb) (hb:c.isBad i=false) (hw:(P.blk i).what≠2) {kind:UInt8} {era:Nat} (hk1:1≤kind.toNat) (hk3:kind.toNat≤3) (he1:1≤era) (he2:era<4294967296) (hl:P.last+1<18446744073709551616) :
  TryR P c i kind era (tryBlk P c i kind era).1 (tryBlk P c i kind era).2.1 (tryBlk P c i kind era).2.2:=by
 have hkn:=h.known hd0 i hi
 unfold tryBlk
 split
 ·rename_i h1
  obtain ⟨hde,hinv,hz,hk⟩:=erase_inv h hd0 hi hb
  split
  ·rename_i hne
   exact ⟨hde,hinv,Nat.le_refl _,Nat.le_succ _,rfl,fun h0=>absurd h0 hne⟩
  ·rename_i heq
   have h0:(c.erase i).2=0:=Classical.byContradiction heq
   have hdd:(c.erase i).1.dead=c.dead∧(c.erase i).1.bad=c.bad:=by
    rcases hde.cases with ⟨_,a,b⟩| ⟨a,_⟩| ⟨a,_⟩
    ·exact ⟨a,b⟩
    ·omega
    ·omega
   rw [h0] at hde
   have hnb:=hde.geo.1
   obtain ⟨w1,w2,w3,w4,w5⟩:=write_inv (i:=i) hinv (by rw [hdd.1];exact hd0) (by rw [hnb];exact hi) (by unfold Chip.isBad;rw [hdd.2];exact hb) (by rw [hz h0];exact isBlank_replicate _) hk1 hk3 he1 he2 hl
   refine ⟨hde.trans w3,w4,by rw [w1];exact Nat.le_succ _,by rw [w1];exact Nat.le_refl _,w2,fun e=>⟨?_,w1⟩⟩
   rw [w5 e,w1]
 ·rename_i h1
  have hbk:isBlank (c.blk i)=true:=by
   rw [hkn] at h1 hw
   exact view_zero (view_one hw h1)
  obtain ⟨w1,w2,w3,w4,w5⟩:=write_inv h hd0 hi hb hbk hk1 hk3 he1 he2 hl
  exact ⟨w3,w4,by rw [w1];exact Nat.le_succ _,by rw [w1];exact Nat.le_refl _,w2,fun e=>⟨by rw [w5 e,w1],w1⟩⟩
theorem isHd_blk {c c':Chip} (hg:c.SameGeo c') {i:Nat} (h:c'.blk i=c.blk i):isHd c' i ↔ isHd c i:=by
 unfold isHd
 rw [hd_blk hg h]
theorem Inv.what {P:Pool} {c:Chip} (h:Inv P c) (hd0:c.dead=false) {i:Nat} (hi:i<c.nb):(P.blk i).what=2 ↔ isHd c i:=by
 rw [h.known hd0 i hi];exact view_what c i
structure TakeP (kind:UInt8) (era:Nat) (ks:List Nat) (P:Pool) (c:Chip) (R:TakeR):Prop where
 inv:Inv R.pool R.chip
 geo:c.SameGeo R.chip
 lo:P.last≤R.pool.last
 hi:R.pool.last≤P.last+ks.length
 turn:P.turn≤c.nb→R.pool.turn≤c.nb
 kept:∀ j,j<c.nb→isHd c j→R.chip.blk j=c.blk j∧R.chip.isBad j=c.isBad j
 bads:∀ j,j<c.nb→c.isBad j=true→R.chip.isBad j=true
 cases:(R.err=0∧R.chip.dead=false∧R.block<c.nb∧¬ isHd c R.block∧R.chip.isBad R.block=false∧hd R.chip R.block=(⟨kind,era,R.pool.last⟩,0)∧P.last<R.pool.last)∨
  (R.err=10∧R.chip.dead=true)∨(R.err=11∧R.chip.dead=false∧∀ k∈ks,R.chip.isBad ((P.turn+k) % c.nb)=true∨isHd R.chip ((P.turn+k) % c.nb))
 calm:(∀ t∈c.hits,t.fails=false)→(∀ t∈R.chip.hits,t.fails=false)∧R.chip.bad=c.bad∧∃ i0,∀ j,j≠i0→R.chip.blk j=c.blk j
 quiet:c.hits=[]→R.chip.hits=[]∧R.err≠10∧(R.err=11→R.chip=c∧R.pool=P)∧(R.err=0→∀ j,j≠R.block→R.chip.blk j=c.blk j∧R.chip.isBad j=c.isBad j)
theorem takeGo_inv {kind:UInt8} {era:Nat} (hk1:1≤kind.toNat) (hk3:kind.toNat≤3) (he1:1≤era) (he2:era<4294967296):∀ (ks:List Nat) {P:Pool} {c:Chip},Inv P c→c.dead=false→P.last+ks.length<18446744073709551616→TakeP kind era ks P c (takeGo kind era P c ks)
 | [],P,c,h,hd0,hl=>by
  rw [takeGo]
  exact ⟨h,.refl _,Nat.le_refl _,by simp,fun h=>h,fun _ _ _=>⟨rfl,rfl⟩,fun _ _ h=>h,.inr (.inr ⟨rfl,hd0,fun k hk=>by simp at hk⟩),fun hc=>⟨hc,rfl,0,fun _ _=>rfl⟩,fun hq=>⟨hq,by simp,fun _=>⟨rfl,rfl⟩,fun h0=>by cases h0⟩⟩
 | k :: ks,P,c,h,hd0,hl=>by
  have hnb:=h.ci.ok.nb1
  have hmod:(P.turn+k) % c.nb<c.nb:=Nat.mod_lt _ (by omega)
  simp only [List.length_cons] at hl
  rw [takeGo]
  by_cases hcnd:c.isBad ((P.turn+k) % c.nb)=true∨(P.blk ((P.turn+k) % c.nb)).what=2
  ·rw [if_pos hcnd]
   have r:=takeGo_inv hk1 hk3 he1 he2 ks h hd0 (by omega)
   refine ⟨r.inv,r.geo,r.lo,by have:=r.hi;simp;omega,r.turn,r.kept,r.bads,?_,r.calm,r.quiet⟩
   rcases r.cases with h0 | h10 | ⟨h1,h2,h3⟩
   ·exact .inl h0
   ·exact .inr (.inl h10)
   ·refine .inr (.inr ⟨h1,h2,fun x hx=>?_⟩)
    rcases List.mem_cons.1 hx with rfl | hx
    ·rcases hcnd with hb | hw
     ·exact .inl (r.bads _ hmod hb)
     ·have hh:=(h.what hd0 hmod).1 hw
      exact .inr ((isHd_blk r.geo (r.kept _ hmod hh).1).2 hh)
    ·exact h3 x hx
  ·rw [if_neg hcnd]
   have hb:c.isBad ((P.turn+k) % c.nb)=false:=by
    cases hb:c.isBad ((P.turn+k) % c.nb) with
    | false=>rfl
    | true=>exact absurd (.inl hb) hcnd
   have hw:(P.blk ((P.turn+k) % c.nb)).what≠2:=fun hw=>hcnd (.inr hw)
   have hnh:¬ isHd c ((P.turn+k) % c.nb):=fun hh=>hw ((h.what hd0 hmod).2 hh)
   have t:=try_inv h hd0 hmod hb hw hk1 hk3 he1 he2 (by omega)
   generalize hi:(P.turn+k) % c.nb=i at *
   generalize hT:tryBlk P c i kind era=T at *
   have hkept:∀ j,isHd c j→T.2.1.blk j=c.blk j∧T.2.1.isBad j=c.isBad j:=fun j hj=>by
    have hji:j≠i:=fun e=>hnh (e ▸ hj)
    exact ⟨t.deed.blk j hji,t.deed.bad j hji⟩
   have hbads:∀ j,c.isBad j=true→T.2.1.isBad j=true:=fun j hj=>by
    have hji:j≠i:=fun e=>by rw [e,hb] at hj;cases hj
    rw [t.deed.bad j hji];exact hj
   by_cases h0:T.2.2=0
   ·rw [if_pos h0]
    obtain ⟨hhd,hls⟩:=t.ok h0
    obtain ⟨hdd,hbad⟩: T.2.1.dead=c.dead∧T.2.1.bad=c.bad:=by
     rcases t.deed.cases with ⟨_,a,b⟩| ⟨a,_⟩| ⟨a,_⟩
     ·exact ⟨a,b⟩
     ·omega
     ·omega
    refine ⟨⟨t.inv.ci,t.inv.len,t.inv.known,t.inv.last⟩,t.deed.geo,t.lo,by have:=t.hi;simp;omega,fun _=>by show i+1≤c.nb;omega,fun j _ hj=>hkept j hj,fun j _ hj=>hbads j hj,.inl ⟨rfl,by rw [← hd0];exact hdd,hmod,hnh,?_,hhd,by show P.last<T.1.last;omega⟩,fun hc=>⟨(t.deed.calm hc).2.1,(t.deed.calm hc).2.2,i,fun j hj=>t.deed.blk j hj⟩,
     fun hq=>⟨(t.deed.quiet hq).2,by simp,(fun h=>by cases h),fun _ j hj=>⟨t.deed.blk j hj,t.deed.bad j hj⟩⟩⟩
    show T.2.1.isBad i=false
    unfold Chip.isBad;rw [hbad];exact hb
   ·rw [if_neg h0]
    by_cases h10:T.2.2=10
    ·rw [if_pos h10]
     have hdd:T.2.1.dead=true:=by
      rcases t.deed.cases with ⟨a,_⟩| ⟨a,_⟩| ⟨_,a,_⟩
      ·omega
      ·omega
      ·exact a
     refine ⟨t.inv,t.deed.geo,t.lo,by have:=t.hi;simp;omega,fun h=>by show T.1.turn≤c.nb;rw [t.turn];exact h,fun j _ hj=>hkept j hj,fun j _ hj=>hbads j hj,.inr (.inl ⟨rfl,hdd⟩),fun hc=>⟨(t.deed.calm hc).2.1,(t.deed.calm hc).2.2,i,fun j hj=>t.deed.blk j hj⟩,fun hq=>absurd (t.deed.quiet hq).1 h0⟩
    ·rw [if_neg h10]
     obtain ⟨h9,hdd,hbi⟩: T.2.2=9∧T.2.1.dead=c.dead∧T.2.1.isBad i=true:=by
      rcases t.deed.cases with ⟨a,_⟩| a | ⟨a,_⟩
      ·exact absurd a h0
      ·exact a
      ·exact absurd a h10
     have r:=takeGo_inv hk1 hk3 he1 he2 ks t.inv (by rw [hdd];exact hd0) (by have:=t.hi;omega)
     have hnbT:T.2.1.nb=c.nb:=t.deed.geo.1
     have hhT:∀ j,isHd c j→isHd T.2.1 j:=fun j hj=>(isHd_blk t.deed.geo (hkept j hj).1).2 hj
     refine ⟨r.inv,t.deed.geo.trans r.geo,Nat.le_trans t.lo r.lo,by have:=r.hi;have:=t.hi;simp;omega,fun h=>by have:=r.turn (by rw [t.turn,hnbT];exact h);rw [hnbT] at this;exact this,fun j hj hh=>?_,fun j hj hh=>r.bads j (by rw [hnbT];exact hj) (hbads j hh),?_,fun hc=>absurd h9 (t.deed.calm hc).1,fun hq=>absurd (t.deed.quiet hq).1 h0⟩
     ·obtain ⟨a,b⟩:=r.kept j (by rw [hnbT];exact hj) (hhT j hh)
      exact ⟨a.trans (hkept j hh).1,b.trans (hkept j hh).2⟩
     ·rcases r.cases with ⟨a1,a2,a3,a4,a5,a6,a7⟩| a | ⟨a1,a2,a3⟩
      ·refine .inl ⟨a1,a2,by rw [← hnbT];exact a3,fun hh=>a4 (hhT _ hh),a5,a6,by have:=t.lo;omega⟩
      ·exact .inr (.inl a)
      ·refine .inr (.inr ⟨a1,a2,fun x hx=>?_⟩)
       rcases List.mem_cons.1 hx with rfl | hx
       ·rw [hi];exact .inl (r.bads i (by rw [hnbT];exact hmod) hbi)
       ·have:=a3 x hx
        rw [t.turn,hnbT] at this
        exact this
theorem mod_all {n t j:Nat} (ht:t≤n) (hj:j<n):∃ k,k<n∧(t+k) % n=j:=by
 by_cases h:t≤j
 ·exact ⟨j - t,by omega,by rw [show t+(j - t)=j by omega];exact Nat.mod_eq_of_lt hj⟩
 ·by_cases h2:t=n
  ·exact ⟨j,hj,by rw [h2,Nat.add_mod_left];exact Nat.mod_eq_of_lt hj⟩
  ·exact ⟨j+n - t,by omega,by rw [show t+(j+n - t)=j+n by omega,Nat.add_mod_right];exact Nat.mod_eq_of_lt hj⟩
theorem takePool_go {P:Pool} {c:Chip} (h:c.Ok) (hd0:c.dead=false) {kind:UInt8} {era:Nat} (hk1:1≤kind.toNat) (hk3:kind.toNat≤3) (he1:1≤era):takePool P c kind era=takeGo kind era P c (List.range c.nb):=by
 unfold takePool
 rw [if_neg (by omega),if_neg (by rw [ask00 h,hd0];simp)]
theorem blank_notHd {c:Chip} (h:c.Ok) {i:Nat} (hi:i<c.nb) (hb:isBlank (c.blk i)=true):¬ isHd c i:=by
 have hlen:=h.blk_len hi
 have hpg:isBlank (c.page i 0)=true:=by
  rw [page0]
  simp only [isBlank,List.all_eq_true] at hb ⊢
  exact fun x hx=>hb x (List.mem_of_mem_take hx)
 have hpl:(c.page i 0).length=c.sz:=page_len h hi (by have:=h.np1;omega)
 have hsz:isSize ((c.page i 0).length:Int)=true:=by
  have:=h.sz1
  have:=h.sz2
  rw [hpl];simp [isSize];omega
 intro hh
 have hg:(getPage (c.page i 0)).2.2=6:=by
  unfold getPage
  rw [if_neg (by rw [hsz];simp),if_pos hpg]
 unfold isHd hd getHead at hh
 rw [if_pos (by omega)] at hh
 omega
def Mine (c:Chip) (i:Int):Prop:=0≤i∧i<c.nb∧isHd c i.toNat∧c.isBad i.toNat=false
theorem free_not {P:Pool} {c:Chip} (h:Inv P c) (hd0:c.dead=false) {i:Int} (hm:¬ Mine c i):freePool P c i=(P,c,12):=by
 unfold freePool
 refine if_pos (Classical.byContradiction fun hn=>hm ?_)
 have h1:¬ i<0:=fun h=>hn (.inl h)
 have h2:¬ i≥c.nb:=fun h=>hn (.inr (.inl h))
 have hlt:i.toNat<c.nb:=by omega
 have h3:(P.blk i.toNat).what=2:=Classical.byContradiction fun h=>hn (.inr (.inr (.inl h)))
 have h4:¬ c.isBad i.toNat=true:=fun h=>hn (.inr (.inr (.inr h)))
 exact ⟨by omega,by omega,(h.what hd0 hlt).1 h3,by simpa using h4⟩
structure FreeP (P:Pool) (c:Chip) (i:Nat) (r:Pool×Chip×Nat) (e:Nat):Prop where
 deed:Deed c r.2.1 i e
 inv:Inv r.1 r.2.1
 last:r.1.last=P.last
 turn:r.1.turn=P.turn
 err:r.2.2=if e=9 then 0 else e
 gone:e=0→¬ isHd r.2.1 i
 keep:isHd r.2.1 i→isHd c i∧hd r.2.1 i=hd c i
theorem free_mine {P:Pool} {c:Chip} (h:Inv P c) (hd0:c.dead=false) {i:Int} (hm:Mine c i):∃ e,FreeP P c i.toNat (freePool P c i) e:=by
 obtain ⟨h0,h1,h2,h3⟩:=hm
 have hlt:i.toNat<c.nb:=by omega
 have hei:c.erase i=c.erase (i.toNat:Int):=by rw [Int.toNat_of_nonneg h0]
 have hf:freePool P c i=(P.relook (c.erase i).1 i.toNat,(c.erase i).1,if (c.erase i).2=9 then 0 else (c.erase i).2):=by
  unfold freePool
  rw [if_neg]
  rintro (a | a | a | a)
  ·omega
  ·omega
  ·exact a ((h.what hd0 hlt).2 h2)
  ·rw [h3] at a;cases a
 rw [hf,hei]
 obtain ⟨hde,hinv,hz,hk⟩:=erase_inv h hd0 hlt h3
 refine ⟨_,hde,hinv,rfl,rfl,rfl,fun h0=>?_,hk⟩
 exact blank_notHd hde.ok (by rw [hde.geo.1];exact hlt) (by show isBlank ((c.erase (i.toNat:Int)).1.blk i.toNat)=true;rw [hz h0];exact isBlank_replicate _)
theorem sorted_ext {α:Type} {f:α→Nat}:∀ {l m:List α},l.Pairwise (fun a b=>f a<f b)→m.Pairwise (fun a b=>f a<f b)→(∀ x,x∈l ↔ x∈m)→l=m
 | [],[],_,_,_=>rfl
 | [],b :: m,_,_,h=>by have:=(h b).2 (by simp);simp at this
 | a :: l,[],_,_,h=>by have:=(h a).1 (by simp);simp at this
 | a :: l,b :: m,hl,hm,h=>by
  obtain ⟨l1,l2⟩:=List.pairwise_cons.1 hl
  obtain ⟨m1,m2⟩:=List.pairwise_cons.1 hm
  have hab:a=b:=by
   rcases List.mem_cons.1 ((h a).1 (by simp)) with e | ha
   ·exact e
   ·rcases List.mem_cons.1 ((h b).2 (by simp)) with e | hb
    ·exact e.symm
    ·have:=l1 b hb;have:=m1 a ha;omega
  subst hab
  rw [sorted_ext l2 m2 fun x=>?_]
  constructor
  ·intro hx
   rcases List.mem_cons.1 ((h x).1 (by simp [hx])) with e | hx'
   ·have:=l1 x hx;rw [e] at this;omega
   ·exact hx'
  ·intro hx
   rcases List.mem_cons.1 ((h x).2 (by simp [hx])) with e | hx'
   ·have:=m1 x hx;rw [e] at this;omega
   ·exact hx'
theorem sink_sorted {x:Taken}:∀ {l:List Taken},l.Pairwise (fun a b=>b.head.seq<a.head.seq)→(∀ y∈l,y.head.seq≠x.head.seq)→(sink takenLt x l).Pairwise (fun a b=>b.head.seq<a.head.seq)
 | [],_,_=>by simp [sink]
 | y :: l,hl,hx=>by
  obtain ⟨l1,l2⟩:=List.pairwise_cons.1 hl
  have hyx:=hx y (by simp)
  unfold sink
  split
  ·rename_i hlt
   have hxy:x.head.seq<y.head.seq:=by
    simp [takenLt] at hlt
    omega
   refine List.pairwise_cons.2 ⟨fun z hz=>?_,sink_sorted l2 fun z hz=>hx z (by simp [hz])⟩
   rcases (sink_mem takenLt x z l).1 hz with rfl | hz
   ·exact hxy
   ·exact l1 z hz
  ·rename_i hlt
   have hxy:y.head.seq<x.head.seq:=by
    have:takenLt x y=false:=by simpa using hlt
    simp [takenLt] at this
    omega
   refine List.pairwise_cons.2 ⟨fun z hz=>?_,hl⟩
   rcases List.mem_cons.1 hz with rfl | hz
   ·exact hxy
   ·have:=l1 z hz;omega
theorem isort_sorted {l:List Taken} (h:l.Pairwise (fun a b=>a.head.seq≠b.head.seq)):(isort takenLt l).Pairwise (fun a b=>a.head.seq<b.head.seq):=by
 unfold isort
 rw [List.pairwise_reverse]
 have key:∀ (l acc:List Taken),acc.Pairwise (fun a b=>b.head.seq<a.head.seq)→l.Pairwise (fun a b=>a.head.seq≠b.head.seq)→(∀ a∈acc,∀ b∈l,a.head.seq≠b.head.seq)→(l.foldl (fun acc x=>sink takenLt x acc) acc).Pairwise (fun a b=>b.head.seq<a.head.seq):=by
  intro l
  induction l with
  | nil=>intro acc ha _ _;exact ha
  | cons x l ih =>
   intro acc ha hl hx
   obtain ⟨l1,l2⟩:=List.pairwise_cons.1 hl
   rw [List.foldl_cons]
   refine ih _ (sink_sorted ha fun y hy=>hx y hy x (by simp)) l2 fun a ha' b hb=>?_
   rcases (sink_mem takenLt x a acc).1 ha' with rfl | ha'
   ·exact l1 b hb
   ·exact hx a ha' b (by simp [hb])
 exact key l [] List.Pairwise.nil h fun a ha=>by simp at ha
theorem insAt_cons (t y:Taken) (l:List Taken):insAt t (y :: l)=if y.head.seq≤t.head.seq then y :: insAt t l else t :: y :: l:=by
 unfold insAt posOf
 rw [List.takeWhile_cons]
 split<;>rename_i h
 ·have:y.head.seq≤t.head.seq:=by simpa using h
  rw [if_pos this];simp
 ·have:¬ y.head.seq≤t.head.seq:=by simpa using h
  rw [if_neg this];simp
theorem insAt_mem (t x:Taken):∀ (l:List Taken),x∈insAt t l ↔ x=t∨x∈l
 | []=>by simp [insAt,posOf]
 | y :: l=>by
  rw [insAt_cons]
  split
  ·simp only [List.mem_cons,insAt_mem t x l]
   constructor
   ·rintro (h | h | h)
    ·exact .inr (.inl h)
    ·exact .inl h
    ·exact .inr (.inr h)
   ·rintro (h | h | h)
    ·exact .inr (.inl h)
    ·exact .inl h
    ·exact .inr (.inr h)
  ·simp
theorem insAt_sorted {t:Taken}:∀ {l:List Taken},l.Pairwise (fun a b=>a.head.seq<b.head.seq)→(∀ y∈l,y.head.seq≠t.head.seq)→(insAt t l).Pairwise (fun a b=>a.head.seq<b.head.seq)
 | [],_,_=>by simp [insAt,posOf]
 | y :: l,hl,hx=>by
  obtain ⟨l1,l2⟩:=List.pairwise_cons.1 hl
  have hyt:=hx y (by simp)
  rw [insAt_cons]
  split
  ·refine List.pairwise_cons.2 ⟨fun z hz=>?_,insAt_sorted l2 fun z hz=>hx z (by simp [hz])⟩
   rcases (insAt_mem t z l).1 hz with rfl | hz
   ·omega
   ·exact l1 z hz
  ·refine List.pairwise_cons.2 ⟨fun z hz=>?_,hl⟩
   rcases List.mem_cons.1 hz with rfl | hz
   ·omega
   ·have:=l1 z hz;omega
theorem view_pos {c:Chip} {i:Nat} (h:isHd c i):view c i=⟨2,(hd c i).1⟩:=if_pos h
theorem view_neg {c:Chip} {i:Nat} (h:¬ isHd c i):(view c i).head=Head.none:=by
 unfold view
 rw [if_neg (show ¬ (hd c i).2=0 from h)]
 split<;>rfl
def IsTaken (c:Chip) (n:Nat) (t:Taken):Prop:=t.block<n∧isHd c t.block∧t.head=(hd c t.block).1∧t.bad=c.isBad t.block
theorem raw_mem {P:Pool} {c:Chip} (h:Inv P c) (hd0:c.dead=false) {n:Nat} (hn:n≤c.nb) (t:Taken):t∈takenRaw P c n ↔ IsTaken c n t:=by
 unfold takenRaw IsTaken
 rw [List.mem_filterMap]
 constructor
 ·rintro ⟨i,hi,e⟩
  have hi':i<n:=by simpa using hi
  split at e
  ·rename_i hw
   cases e
   have hh:=(h.what hd0 (by omega)).1 hw
   refine ⟨hi',hh,?_,rfl⟩
   rw [h.known hd0 i (by omega),view_pos hh]
  ·cases e
 ·rintro ⟨h1,h2,h3,h4⟩
  refine ⟨t.block,by simpa using h1,?_⟩
  rw [if_pos ((h.what hd0 (by omega)).2 h2)]
  obtain ⟨b,hh,bad⟩:=t
  simp only [] at h1 h2 h3 h4 ⊢
  rw [h.known hd0 b (by omega),view_pos h2,h3,h4]
theorem raw_distinct {P:Pool} {c:Chip} (h:Inv P c) (hd0:c.dead=false):∀ n,n≤c.nb→(takenRaw P c n).Pairwise (fun a b=>a.head.seq≠b.head.seq)
 | 0,_=>by simp [takenRaw]
 | n+1,hn=>by
  rw [takenRaw_succ]
  rw [List.pairwise_append]
  refine ⟨raw_distinct h hd0 n (by omega),?_,fun a ha b hb=>?_⟩
  ·split<;>simp
  ·obtain ⟨a1,a2,a3,_⟩:=(raw_mem h hd0 (by omega) a).1 ha
   have hb':b∈takenRaw P c (n+1):=by rw [takenRaw_succ];exact List.mem_append.2 (.inr hb)
   obtain ⟨b1,b2,b3,_⟩:=(raw_mem h hd0 hn b).1 hb'
   have hbn:b.block=n:=by
    split at hb
    ·simp at hb;rw [hb]
    ·simp at hb
   rw [a3,b3]
   exact h.ci.uniq _ _ (by omega) (by omega) (by omega) a2 b2
theorem taken_mem {P:Pool} {c:Chip} (h:Inv P c) (hd0:c.dead=false) (t:Taken):t∈takenPool P c ↔ IsTaken c c.nb t:=by
 unfold takenPool
 rw [isort_mem]
 exact raw_mem h hd0 (Nat.le_refl _) t
theorem taken_sorted {P:Pool} {c:Chip} (h:Inv P c) (hd0:c.dead=false):(takenPool P c).Pairwise (fun a b=>a.head.seq<b.head.seq):=isort_sorted (raw_distinct h hd0 _ (Nat.le_refl _))
theorem refHead_eq {c:Chip} (h:c.Ok) (hd0:c.dead=false) {i:Nat} (hi:i<c.nb):refHead c i=((hd c i).1,decide ((hd c i).2=0)):=by
 have:=h.np1
 have ha:c.ask i 0=0:=ask_ok (k:=0) hd0 hi (by omega)
 unfold refHead
 rw [if_neg (by omega)]
 rfl
theorem ref_mem {c:Chip} (h:CI c) (hd0:c.dead=false):∀ n,n≤c.nb→(∀ t,t∈refGo c n ↔ IsTaken c n t)∧(refGo c n).Pairwise (fun a b=>a.head.seq<b.head.seq)
 | 0,_=>⟨fun t=>by simp [refGo,IsTaken],by simp [refGo]⟩
 | n+1,hn=>by
  obtain ⟨h1,h2⟩:=ref_mem h hd0 n (by omega)
  have hr:=refHead_eq h.ok hd0 (i:=n) (by omega)
  rw [refGo,hr]
  simp only [decide_eq_true_eq]
  split
  ·rename_i hh
   refine ⟨fun t=>?_,insAt_sorted h2 fun y hy=>?_⟩
   ·rw [insAt_mem,h1]
    constructor
    ·rintro (rfl | ⟨a,b⟩)
     ·exact ⟨Nat.lt_succ_self _,hh,rfl,rfl⟩
     ·exact ⟨by omega,b⟩
    ·rintro ⟨a,b,d,e⟩
     by_cases hb:t.block=n
     ·left
      obtain ⟨tb,th,tbad⟩:=t
      simp only [] at hb d e
      subst hb
      rw [d,e]
     ·exact .inr ⟨by omega,b,d,e⟩
   ·obtain ⟨a,b,d,_⟩:=(h1 y).1 hy
    rw [d]
    exact h.uniq _ _ (by omega) (by omega) (by omega) b hh
  ·rename_i hh
   refine ⟨fun t=>?_,h2⟩
   rw [h1]
   constructor
   ·rintro ⟨a,b⟩;exact ⟨by omega,b⟩
   ·rintro ⟨a,b,d⟩
    have:t.block≠n:=fun e=>hh (e ▸ b)
    exact ⟨by omega,b,d⟩
theorem taken_ref {P:Pool} {c:Chip} (h:Inv P c) (hd0:c.dead=false):takenPool P c=refTaken c:=by
 obtain ⟨h1,h2⟩:=ref_mem h.ci hd0 c.nb (Nat.le_refl _)
 exact sorted_ext (f:=fun t:Taken=>t.head.seq) (taken_sorted h hd0) h2 fun t=>by rw [taken_mem h hd0];exact (h1 t).symm
theorem filter_congr' {α:Type} {p q:α→Bool} {l:List α} (h:∀ a∈l,p a=q a):l.filter p=l.filter q:=by
 induction l with
 | nil=>rfl
 | cons a l ih=>rw [List.filter_cons,List.filter_cons,h a (by simp),ih fun b hb=>h b (by simp [hb])]
theorem blanks_ref {P:Pool} {c:Chip} (h:Inv P c) (hd0:c.dead=false):blanksPool P c=refBlanks c:=by
 unfold blanksPool refBlanks
 congr 1
 refine filter_congr' fun i hi=>?_
 have hi':i<c.nb:=by simpa using hi
 congr 1
 rw [refHead_eq h.ci.ok hd0 hi']
 have:=h.what hd0 hi'
 by_cases hh:isHd c i
 ·have e1:decide ((P.blk i).what≠2)=false:=decide_eq_false (fun h=>h (this.2 hh))
  have e2:decide ((hd c i).2=0)=true:=decide_eq_true hh
  rw [e1,e2];rfl
 ·have e1:decide ((P.blk i).what≠2)=true:=decide_eq_true (fun h=>hh (this.1 h))
  have e2:decide ((hd c i).2=0)=false:=decide_eq_false hh
  rw [e1,e2];rfl
theorem blanks_zero {c:Chip} (h:CI c) (hd0:c.dead=false) (hall:∀ j,j<c.nb→c.isBad j=true∨isHd c j):refBlanks c=0:=by
 unfold refBlanks
 rw [List.length_eq_zero_iff,List.filter_eq_nil_iff]
 intro i hi
 have hi':i<c.nb:=by simpa using hi
 rw [refHead_eq h.ok hd0 hi']
 rcases hall i hi' with hb | hh
 ·rw [hb];simp
 ·simp only []
  rw [decide_eq_true (show (hd c i).2=0 from hh)];simp
theorem scanGo_inv {c:Chip} (h:CI c) (hd0:c.dead=false):∀ n,n≤c.nb→(scanGo c n).blocks.length=c.nb∧(∀ i,i<n→(scanGo c n).blk i=view c i)∧(∀ i,i<n→isHd c i→(hd c i).1.seq≤(scanGo c n).last)∧
  ((scanGo c n).last=0∨∃ i,i<n∧isHd c i∧(scanGo c n).last=(hd c i).1.seq)
 | 0,_=>⟨by simp [scanGo],fun i hi=>by omega,fun i hi=>by omega,.inl rfl⟩
 | n+1,hn=>by
  obtain ⟨h1,h2,h3,h4⟩:=scanGo_inv h hd0 n (by omega)
  have hb:∀ i,i<n+1→((scanGo c n).relook c n).blk i=view c i:=by
   intro i hi
   unfold Pool.relook
   rw [setBlk_blk (by omega),lookAt_view,hd0]
   by_cases e:i=n
   ·rw [if_pos e,e];rfl
   ·rw [if_neg e];exact h2 i (by omega)
  have hl:((scanGo c n).relook c n).blocks.length=c.nb:=by
   show ((scanGo c n).blocks.set n _).length=_
   rw [List.length_set];exact h1
  have hbn:=hb n (by omega)
  rw [scanGo,hbn]
  have hseq:isHd c n→(view c n).head.seq=(hd c n).1.seq:=fun hh=>by rw [view_pos hh]
  have hseq0:¬ isHd c n→(view c n).head.seq=0:=fun hh=>by rw [view_neg hh];rfl
  split
  ·rename_i hc
   have hh:isHd c n:=Classical.byContradiction fun hn'=>by rw [hseq0 hn'] at hc;omega
   refine ⟨hl,hb,fun i hi hi'=>?_,.inr ⟨n,by omega,hh,hseq hh⟩⟩
   show _≤(view c n).head.seq
   rw [hseq hh]
   by_cases e:i=n
   ·rw [e];exact Nat.le_refl _
   ·have:=h3 i (by omega) hi'
    rw [hseq hh] at hc
    omega
  ·rename_i hc
   refine ⟨hl,hb,fun i hi hi'=>?_,?_⟩
   ·show _≤(scanGo c n).last
    by_cases e:i=n
    ·rw [e] at hi' ⊢
     rw [hseq hi'] at hc
     omega
    ·exact h3 i (by omega) hi'
   ·rcases h4 with h4 | ⟨i,a,b,d⟩
    ·exact .inl h4
    ·exact .inr ⟨i,by omega,b,d⟩
theorem scan_inv {c:Chip} (h:CI c) (hd0:c.dead=false):Inv (scanPool c) c∧(∀ m,(∀ i,i<c.nb→isHd c i→(hd c i).1.seq≤m)→(scanPool c).last≤m):=by
 obtain ⟨h1,h2,h3,h4⟩:=scanGo_inv h hd0 c.nb (Nat.le_refl _)
 refine ⟨⟨h,h1,fun _=>h2,h3⟩,fun m hm=>?_⟩
 show (scanGo c c.nb).last≤m
 rcases h4 with h4 | ⟨i,a,b,d⟩
 ·omega
 ·rw [d];exact hm i a b
theorem power_ci {c:Chip} (h:CI c):CI c.power:=⟨⟨h.ok.nb1,h.ok.nb2,h.ok.np1,h.ok.np2,h.ok.sz1,h.ok.sz2,h.ok.bl,h.ok.bl2,h.ok.bad⟩,h.safe,h.uniq⟩
theorem blank_page_safe (n:Nat) (hn:128≤n) (hn2:n≤256):Safe (List.replicate n 255):=by
 refine ⟨pageOf n 1 [],pageOf_sound (by simp;omega) (by omega),?_⟩
 have hl:=pageOf_length n 1 [] (by simp;omega)
 refine ⟨by simp [hl],fun i hi=>?_⟩
 have:(List.replicate n (255:UInt8)).getD i 0=255:=by simp [List.getD,show i<n by omega]
 rw [this]
 intro k hk
 by_cases h8:k<8
 ·exact bit_255 h8
 ·rw [bit_high _ (by omega)] at hk;cases hk
theorem new_ci {nb np sz sp:Nat} (nb1:8≤nb) (nb2:nb≤64) (np1:4≤np) (np2:np≤32) (sz1:128≤sz) (sz2:sz≤256) (c:Chip) (hc:c=⟨nb,np,sz,sp,List.replicate nb (List.replicate (np * sz) 255),List.replicate nb false,[],0,false,0⟩):CI c∧∀ i,i<c.nb→¬ isHd c i:=by
 subst hc
 have hok:Chip.Ok ⟨nb,np,sz,sp,List.replicate nb (List.replicate (np * sz) 255),List.replicate nb false,[],0,false,0⟩:=by
  refine ⟨nb1,nb2,np1,np2,sz1,sz2,by simp,fun b hb=>?_,by simp⟩
  rw [List.eq_of_mem_replicate hb];simp
 have hblk:∀ i,i<nb→Chip.blk ⟨nb,np,sz,sp,List.replicate nb (List.replicate (np * sz) 255),List.replicate nb false,[],0,false,0⟩ i=List.replicate (np * sz) 255:=fun i hi=>by
  simp [Chip.blk,List.getD,hi]
 have hfit:sz≤np * sz:=Nat.le_mul_of_pos_left _ (by omega)
 have hno:∀ i,i<nb→¬ isHd ⟨nb,np,sz,sp,List.replicate nb (List.replicate (np * sz) 255),List.replicate nb false,[],0,false,0⟩ i:=fun i hi=>blank_notHd hok hi (by rw [hblk i hi];exact isBlank_replicate _)
 refine ⟨⟨hok,fun i hi=>?_,fun i j hi _ _ h _=>absurd h (hno i hi)⟩,hno⟩
 rw [page0,hblk i hi]
 show Safe ((List.replicate (np * sz) 255).take sz)
 rw [List.take_replicate,Nat.min_eq_left hfit]
 exact blank_page_safe sz sz1 sz2
theorem setHits_geo (c:Chip) (hs:List Hit):c.SameGeo (c.setHits hs).1∧(c.setHits hs).1.dead=c.dead∧(hs=[]→c.hits=[]→(c.setHits hs).1.hits=[]):=by
 unfold Chip.setHits
 split
 ·exact ⟨.refl _,rfl,fun _ h=>h⟩
 ·exact ⟨⟨rfl,rfl,rfl,rfl⟩,rfl,fun h _=>h⟩
theorem program_inv {P:Pool} {c:Chip} (h:Inv P c) {i k:Nat} (hi:i<c.nb) (hk:1≤k) (hkn:k<c.np) (hh:c.dead=false→isHd c i) (b:List UInt8) :
  Inv P (c.program i k b).1∧(c.hits=[]→(c.program i k b).1.hits=[]∧(c.program i k b).1.dead=c.dead):=by
 have hok:=h.ci.ok
 unfold Chip.program
 split
 ·exact ⟨h,fun hq=>⟨hq,rfl⟩⟩
 rename_i hask
 have hask0:c.ask i k=0:=Classical.byContradiction hask
 obtain ⟨hd0,_⟩:=ask_zero hask0
 split
 ·exact ⟨h,fun hq=>⟨hq,rfl⟩⟩
 rename_i hl
 split
 ·exact ⟨h,fun hq=>⟨hq,rfl⟩⟩
 split
 ·exact ⟨h,fun hq=>⟨hq,rfl⟩⟩
 simp only [Int.toNat_natCast]
 have hfit:=page_in hkn
 obtain ⟨hde,hblk,hdd⟩:=done_deed hok hi (off:=k * c.sz) (n:=c.sz) hfit b
 generalize hr:c.done i (k * c.sz) c.sz b=r at *
 have hlen:=hok.blk_len hi
 have hks:c.sz≤k * c.sz:=Nat.le_mul_of_pos_left _ hk
 have hp0:r.1.page i 0=c.page i 0:=by
  rw [page0,page0,hde.geo.2.2.1,hblk]
  unfold madeBlk
  rw [List.append_assoc,List.take_append_of_le_length (by simp;omega),List.take_take,Nat.min_eq_left hks]
 have hhd:hd r.1 i=hd c i:=by unfold hd;rw [hp0]
 have hisd:isHd r.1 i:=by unfold isHd;rw [hhd];exact hh hd0
 have hil:i<P.blocks.length:=by rw [h.len];exact hi
 have hinv:=h.deed hd0 hi hde (by rw [hp0];exact h.ci.safe i hi) (P':=P.relook r.1 i) rfl (Nat.le_refl _) (fun _=>.inl ⟨hh hd0,hhd⟩)
 refine ⟨⟨hinv.ci,by rw [h.len];exact hde.geo.1.symm,fun hdr j hj=>?_,hinv.last⟩,fun hq=>⟨(hde.quiet hq).2,?_⟩⟩
 ·have:=hinv.known hdr j hj
  rw [← this]
  unfold Pool.relook
  rw [setBlk_blk hil]
  split
  ·rename_i e
   subst e
   rw [lookAt_view,hdr,h.known hd0 j hi,view_pos (hh hd0)]
   show _=view r.1 j
   rw [view_pos hisd,hhd]
  ·rfl
 ·rw [hdd,if_neg (by have:=(hde.quiet hq).1;omega)]
theorem sub_len {α:Type}:∀ {l m:List α},l.Nodup→(∀ x∈l,x∈m)→l.length≤m.length
 | [],m,_,_=>by simp
 | x :: l,m,hn,hs=>by
  obtain ⟨s,t,rfl⟩:=List.append_of_mem (hs x (by simp))
  obtain ⟨h1,h2⟩:=List.nodup_cons.1 hn
  have:=sub_len (l:=l) (m:=s ++ t) h2 fun y hy=>by
   have hne:y≠x:=fun e=>h1 (e ▸ hy)
   have:=hs y (by simp [hy])
   simp only [List.mem_append,List.mem_cons] at this ⊢
   rcases this with h | h | h
   ·exact .inl h
   ·exact absurd h hne
   ·exact .inr h
  simp at this ⊢
  omega
theorem now_mem {c:Chip} (h:CI c) (t:Taken):t∈takenPool (scanPool c.power) c.power ↔ IsTaken c c.nb t:=by
 rw [taken_mem (scan_inv (power_ci h) rfl).1 rfl]
 exact Iff.rfl
theorem mul_lt_page {j k sz:Nat} (h:j<k):j * sz+sz≤k * sz:=by
 have:=Nat.mul_le_mul_right sz (show j+1≤k by omega)
 rwa [Nat.succ_mul] at this
theorem page_made {B M:List UInt8} {k j sz:Nat} (hM:M.length=sz) (hB:k * sz+sz≤B.length) :
  ((B.take (k * sz) ++ M ++ B.drop (k * sz+sz)).drop (j * sz)).take sz=if j=k then M else (B.drop (j * sz)).take sz:=by
 apply List.ext_getElem?
 intro x
 rw [List.getElem?_take]
 by_cases hx:x<sz
 ·rw [if_pos hx,List.getElem?_drop]
  have hl:(B.take (k * sz)).length=k * sz:=by simp;omega
  rcases Nat.lt_trichotomy j k with h | h | h
  ·have:=mul_lt_page (sz:=sz) h
   rw [if_neg (by omega),List.getElem?_append_left (by simp;omega),List.getElem?_append_left (by omega),List.getElem?_take,if_pos (by omega),List.getElem?_take,if_pos hx,List.getElem?_drop]
  ·subst h
   rw [if_pos rfl,List.getElem?_append_left (by simp;omega),List.getElem?_append_right (by omega),hl]
   congr 1
   omega
  ·have:=mul_lt_page (sz:=sz) h
   rw [if_neg (by omega),List.getElem?_append_right (by simp;omega),List.getElem?_drop,List.getElem?_take,if_pos hx,List.getElem?_drop]
   congr 1
   simp
   omega
 ·rw [if_neg hx]
  split
  ·rw [List.getElem?_eq_none (by omega)]
  ·rw [List.getElem?_take,if_neg hx]
def OpenFrom (c:Chip) (i k:Nat):Prop:=isBlank ((c.blk i).drop (k * c.sz))=true
theorem OpenFrom.mono {c:Chip} {i k m:Nat} (h:OpenFrom c i k) (hkm:k≤m):OpenFrom c i m:=by
 unfold OpenFrom isBlank at *
 obtain ⟨d,rfl⟩:=Nat.exists_eq_add_of_le hkm
 rw [Nat.add_mul,← List.drop_drop]
 rw [List.all_eq_true] at h ⊢
 exact fun x hx=>h x (List.mem_of_mem_drop hx)
theorem OpenFrom.page {c:Chip} (ho:c.Ok) {i k m:Nat} (hi:i<c.nb) (h:OpenFrom c i k) (hkm:k≤m) (hm:m<c.np):c.page i m=List.replicate c.sz 255:=by
 have h':=h.mono hkm
 have hlen:=ho.blk_len hi
 have hp:=page_in hm
 unfold OpenFrom at h'
 have:=isBlank_eq h'
 unfold Chip.page
 rw [this,List.take_replicate,List.length_drop,hlen]
 congr 1
 omega
theorem OpenFrom.blk {c c':Chip} (hg:c.SameGeo c') {i k:Nat} (h:OpenFrom c i k) (hb:c'.blk i=c.blk i):OpenFrom c' i k:=by
 unfold OpenFrom at *
 rw [hb,hg.2.2.1];exact h
theorem page_blk {c c':Chip} (hg:c.SameGeo c') {i k:Nat} (hb:c'.blk i=c.blk i):c'.page i k=c.page i k:=by
 unfold Chip.page
 rw [hb,hg.2.2.1]
theorem OpenFrom.of_blank {c:Chip} {i k:Nat} (h:isBlank (c.blk i)=true):OpenFrom c i k:=by
 have:OpenFrom c i 0:=by unfold OpenFrom;simpa using h
 exact this.mono (Nat.zero_le _)
structure Wrote (c c':Chip) (i k e:Nat) (pg:List UInt8):Prop where
 deed:Deed c c' i e
 dead:c'.dead=if e=10 then true else c.dead
 sub:SubL pg (c'.page i k)
 ok:e=0→c'.page i k=pg
 other:∀ j,j≠k→c'.page i j=c.page i j
 open_:OpenFrom c' i (k+1)
 hits:c'.hits.length≤c.hits.length
 less:e≠0→c'.hits.length<c.hits.length
theorem strike_hits (c:Chip):c.strike.1.hits.length≤c.hits.length∧(c.strike.2≠none→c.strike.1.hits.length<c.hits.length):=by
 unfold Chip.strike
 split
 ·simp
 ·rename_i h r he
  split
  ·simp
  ·simp [he]
theorem finish_hits (c:Chip) (b:Nat) (h:Option Hit):(c.finish b h).1.hits=c.hits∧((c.finish b h).2≠0→h≠none):=by
 unfold Chip.finish
 split
 ·simp
 ·split<;>simp
theorem done_hits (c:Chip) (b off n:Nat) (new:List UInt8):(c.done b off n new).1.hits.length≤c.hits.length∧((c.done b off n new).2≠0→(c.done b off n new).1.hits.length<c.hits.length):=by
 unfold Chip.done
 obtain ⟨h1,h2⟩:=strike_hits c
 obtain ⟨f1,f2⟩:=finish_hits (c.strike.1.setBlk b ((c.blk b).take off ++ mixL c.strike.2 (((c.blk b).drop off).take n) new ++ (c.blk b).drop (off+n))) b c.strike.2
 rw [f1]
 exact ⟨h1,fun h=>h2 (f2 h)⟩
theorem program_done {c:Chip} (hd0:c.dead=false) {i k:Nat} (hi:i<c.nb) (hk:k<c.np) (hb:c.isBad i=false) (hop:OpenFrom c i k) {pg:List UInt8} (hl:pg.length=c.sz):c.program i k pg=c.done i (k * c.sz) c.sz pg:=by
 have ha:c.ask i k=0:=ask_ok hd0 hi hk
 unfold OpenFrom at hop
 unfold Chip.program
 rw [if_neg (by omega),if_neg (by omega)]
 simp only [Int.toNat_natCast]
 rw [if_neg (by rw [hb];simp),if_neg (by rw [hop];simp)]
theorem program_wrote {c:Chip} (hok:c.Ok) (hd0:c.dead=false) {i k:Nat} (hi:i<c.nb) (hk:k<c.np) (hb:c.isBad i=false) (hop:OpenFrom c i k) {pg:List UInt8} (hl:pg.length=c.sz) :
  Wrote c (c.program i k pg).1 i k (c.program i k pg).2 pg:=by
 rw [program_done hd0 hi hk hb hop hl]
 obtain ⟨hde,hblk,hdd⟩:=done_deed hok hi (off:=k * c.sz) (n:=c.sz) (page_in hk) pg
 have hz:=@done_zero c i (k * c.sz) c.sz pg
 obtain ⟨hh1,hh2⟩:=done_hits c i (k * c.sz) c.sz pg
 generalize hr:c.done i (k * c.sz) c.sz pg=r at *
 have hlen:=hok.blk_len hi
 have hin:=page_in hk
 have hpo:=hop.page hok hi (Nat.le_refl _) hk
 have hold:((c.blk i).drop (k * c.sz)).take c.sz=List.replicate c.sz 255:=hpo
 have hml:(mixL c.strike.2 (List.replicate c.sz 255) pg).length=c.sz:=by simp [mixL_length]
 have hb':r.1.blk i=(c.blk i).take (k * c.sz) ++ mixL c.strike.2 (List.replicate c.sz 255) pg ++ (c.blk i).drop (k * c.sz+c.sz):=by
  rw [hblk]
  unfold madeBlk
  rw [hold]
 have hpg:∀ j,r.1.page i j=if j=k then mixL c.strike.2 (List.replicate c.sz 255) pg else c.page i j:=by
  intro j
  show ((r.1.blk i).drop (j * r.1.sz)).take r.1.sz=_
  rw [hde.geo.2.2.1,hb',page_made hml (by omega)]
  rfl
 refine ⟨hde,hdd,?_,fun h0=>?_,fun j hj=>by rw [hpg,if_neg hj],?_,hh1,hh2⟩
 ·rw [hpg,if_pos rfl];exact mixL_write _ _ _ hl
 ·rw [hpg,if_pos rfl,hz h0,mixL_none _ _ (by simp [hl])]
 ·unfold OpenFrom
  rw [hde.geo.2.2.1,hb',Nat.succ_mul,List.drop_append_of_le_length (by simp;omega),List.drop_of_length_le (by simp;omega),List.nil_append]
  have:=hop.mono (Nat.le_succ k)
  unfold OpenFrom at this
  rwa [Nat.succ_mul] at this
theorem write_open {P:Pool} {c:Chip} (hok:c.Ok) (hd0:c.dead=false) {i:Nat} (hi:i<c.nb) (hb:c.isBad i=false) (hbl:isBlank (c.blk i)=true) (kind:UInt8) (era:Nat) (hp:(putHead c.sz ⟨kind,era,P.raise.last⟩).1.length=c.sz) :
  OpenFrom (writeHead P c i kind era).2.1 i 1∧(writeHead P c i kind era).2.1.hits.length≤c.hits.length:=by
 have hnp:=hok.np1
 have w:=program_wrote hok hd0 hi (k:=0) (by omega) hb (OpenFrom.of_blank hbl) hp
 exact ⟨w.open_,w.hits⟩
theorem putHead_len {c:Chip} (hok:c.Ok) {P:Pool} {kind:UInt8} {era:Nat} (hk1:1≤kind.toNat) (hk3:kind.toNat≤3) (he1:1≤era) (hl:P.last+1<18446744073709551616):(putHead c.sz ⟨kind,era,P.raise.last⟩).1.length=c.sz:=by
 have hlast:P.raise.last=P.last+1:=Nat.mod_eq_of_lt hl
 have hsz:isSize (c.sz:Int)=true:=by
  have:=hok.sz1
  have:=hok.sz2
  simp [isSize];omega
 have hm:(Head.mk kind era (P.last+1)).may=true:=by
  simp [Head.may];omega
 have hput:putHead c.sz ⟨kind,era,P.raise.last⟩= (pageOf c.sz 1 (Head.mk kind era (P.last+1)).body,0):=by
  unfold putHead
  rw [hlast,if_neg (by rw [hm,hsz];simp)]
  simp
 have hbody:=(Head.mk kind era (P.last+1)).body_length
 rw [hput]
 exact pageOf_length _ _ _ (by have:=hok.sz1;omega)
theorem erase_hits {c:Chip} (hok:c.Ok) (hd0:c.dead=false) {i:Nat} (hi:i<c.nb) (hb:c.isBad i=false):(c.erase i).1.hits.length≤c.hits.length:=by
 rw [erase_done hok hd0 hi hb]
 exact (done_hits _ _ _ _ _).1
theorem try_open {P:Pool} {c:Chip} (h:Inv P c) (hd0:c.dead=false) {i:Nat} (hi:i<c.nb) (hb:c.isBad i=false) (hw:(P.blk i).what≠2) {kind:UInt8} {era:Nat} (hk1:1≤kind.toNat) (hk3:kind.toNat≤3) (he1:1≤era) (hl:P.last+1<18446744073709551616) :
  (isHd (tryBlk P c i kind era).2.1 i→OpenFrom (tryBlk P c i kind era).2.1 i 1)∧(tryBlk P c i kind era).2.1.hits.length≤c.hits.length:=by
 have hkn:=h.known hd0 i hi
 have hnh:¬ isHd c i:=fun e=>hw ((h.what hd0 hi).2 e)
 unfold tryBlk
 split
 ·rename_i h1
  obtain ⟨hde,hinv,hz,hk⟩:=erase_inv h hd0 hi hb
  have hhe:=erase_hits h.ci.ok hd0 hi hb
  split
  ·rename_i hne
   exact ⟨fun e=>absurd (hk e).1 hnh,hhe⟩
  ·rename_i heq
   have h0:(c.erase i).2=0:=Classical.byContradiction heq
   have hdd:(c.erase i).1.dead=c.dead∧(c.erase i).1.bad=c.bad:=by
    rcases hde.cases with ⟨_,a,b⟩| ⟨a,_⟩| ⟨a,_⟩
    ·exact ⟨a,b⟩
    ·omega
    ·omega
   have hnb:=hde.geo.1
   have hsz:=hde.geo.2.2.1
   have hh:=putHead_len (c:=(c.erase i).1) (P:=P.relook (c.erase i).1 i) (kind:=kind) (era:=era) hde.ok hk1 hk3 he1 hl
   obtain ⟨w1,w2⟩:=write_open (P:=P.relook (c.erase i).1 i) hde.ok (by rw [hdd.1];exact hd0) (by rw [hnb];exact hi) (by unfold Chip.isBad;rw [hdd.2];exact hb) (by rw [hz h0];exact isBlank_replicate _) kind era hh
   exact ⟨fun _=>w1,Nat.le_trans w2 hhe⟩
 ·rename_i h1
  have hbk:isBlank (c.blk i)=true:=by
   rw [hkn] at h1 hw
   exact view_zero (view_one hw h1)
  obtain ⟨w1,w2⟩:=write_open (P:=P) h.ci.ok hd0 hi hb hbk kind era (putHead_len h.ci.ok hk1 hk3 he1 hl)
  exact ⟨fun _=>w1,w2⟩
theorem takeGo_open {kind:UInt8} {era:Nat} (hk1:1≤kind.toNat) (hk3:kind.toNat≤3) (he1:1≤era) (he2:era<4294967296):∀ (ks:List Nat) {P:Pool} {c:Chip},Inv P c→c.dead=false→P.last+ks.length<18446744073709551616→
  (∀ j,j<c.nb→¬ isHd c j→isHd (takeGo kind era P c ks).chip j→OpenFrom (takeGo kind era P c ks).chip j 1)∧(takeGo kind era P c ks).chip.hits.length≤c.hits.length
 | [],P,c,h,hd0,hl=>⟨fun j _ hn hh=>absurd hh hn,Nat.le_refl _⟩
 | k :: ks,P,c,h,hd0,hl=>by
  have hnb:=h.ci.ok.nb1
  have hmod:(P.turn+k) % c.nb<c.nb:=Nat.mod_lt _ (by omega)
  simp only [List.length_cons] at hl
  unfold takeGo
  split
  ·exact takeGo_open hk1 hk3 he1 he2 ks h hd0 (by omega)
  ·rename_i hno
   have hb:c.isBad ((P.turn+k) % c.nb)=false:=by
    cases hbb:c.isBad ((P.turn+k) % c.nb) with
    | false=>rfl
    | true=>exact absurd (.inl hbb) hno
   have hw:(P.blk ((P.turn+k) % c.nb)).what≠2:=fun e=>hno (.inr e)
   obtain ⟨o1,o2⟩:=try_open h hd0 hmod hb hw hk1 hk3 he1 (by omega)
   have tr:=try_inv h hd0 hmod hb hw hk1 hk3 he1 he2 (by omega)
   generalize hi:(P.turn+k) % c.nb=i at *
   generalize hT:tryBlk P c i kind era=T at *
   have one:∀ j,j<c.nb→¬ isHd c j→isHd T.2.1 j→OpenFrom T.2.1 j 1:=by
    intro j hj hn hh
    by_cases e:j=i
    ·subst e;exact o1 hh
    ·exact absurd ((isHd_blk tr.deed.geo (tr.deed.blk j e)).1 hh) hn
   split
   ·exact ⟨one,o2⟩
   split
   ·exact ⟨one,o2⟩
   ·rename_i h0 h10
    have hd1:T.2.1.dead=false:=by
     rcases tr.deed.cases with ⟨_,a,_⟩| ⟨_,a,_⟩| ⟨a,_⟩
     ·rw [a];exact hd0
     ·rw [a];exact hd0
     ·exact absurd a h10
    have hhi:=tr.hi
    obtain ⟨r1,r2⟩:=takeGo_open hk1 hk3 he1 he2 ks tr.inv hd1 (by omega)
    have tp:=takeGo_inv hk1 hk3 he1 he2 ks tr.inv hd1 (by omega)
    refine ⟨fun j hj hn hh=>?_,Nat.le_trans r2 o2⟩
    have hj1:j<T.2.1.nb:=by rw [tr.deed.geo.1];exact hj
    by_cases hh1:isHd T.2.1 j
    ·exact (one j hj hn hh1).blk tp.geo (tp.kept j hj1 hh1).1
    ·exact r1 j hj1 hh1 hh
end Go.Den
namespace Go.Den
structure Turn where
 from_:UInt8
 to:UInt8
 phase:UInt8
 deriving DecidableEq
namespace Turn
def zero:Turn:=⟨0,0,0⟩
def body (t:Turn):List UInt8:=[t.from_,t.to,t.phase]
def vals (t:Turn):List Value:=[bv t.from_,bv t.to,bv t.phase]
def may (t:Turn):Bool:=((t.from_ == 1 && t.to == 2) || (t.from_ == 2 && t.to == 1)) && (t.phase == 1 || t.phase == 2)
end Turn
end Go.Den
namespace Go.Den
theorem write_new {P:Pool} {c:Chip} (hok:c.Ok) (hd0:c.dead=false) {i:Nat} (hi:i<c.nb) (hb:c.isBad i=false) (hbl:isBlank (c.blk i)=true) {kind:UInt8} {era:Nat} (hk1:1≤kind.toNat) (hk3:kind.toNat≤3) (he1:1≤era) (he2:era<4294967296) (hl:P.last+1<18446744073709551616)
  (hh:isHd (writeHead P c i kind era).2.1 i):(hd (writeHead P c i kind era).2.1 i).1=⟨kind,era,P.last+1⟩:=by
 have hnp:=hok.np1
 have hlast:P.raise.last=P.last+1:=Nat.mod_eq_of_lt hl
 have hsz:isSize (c.sz:Int)=true:=by
  have:=hok.sz1
  have:=hok.sz2
  simp [isSize];omega
 have hm:(Head.mk kind era (P.last+1)).may=true:=by
  simp [Head.may];omega
 have hput:putHead c.sz ⟨kind,era,P.raise.last⟩= (pageOf c.sz 1 (Head.mk kind era (P.last+1)).body,0):=by
  unfold putHead
  rw [hlast,if_neg (by rw [hm,hsz];simp)]
  simp
 have hbody:=(Head.mk kind era (P.last+1)).body_length
 have w:=program_wrote hok hd0 hi (k:=0) (by omega) hb (OpenFrom.of_blank hbl) (putHead_len hok (P:=P) hk1 hk3 he1 hl)
 have e:(writeHead P c i kind era).2.1=(c.program i ((0:Nat):Int) (putHead c.sz ⟨kind,era,P.raise.last⟩).1).1:=rfl
 rw [e] at hh ⊢
 have hsub:=w.sub
 rw [hput] at hsub hh ⊢
 have hsound:Sound (pageOf c.sz 1 (Head.mk kind era (P.last+1)).body):=pageOf_sound (by have:=hok.sz1;omega) (by have:=hok.sz2;omega)
 have e2:=berger hsub hsound (getHead_sound hh)
 have hhd:=getHead_pageOf hsz ⟨he2,hl⟩ hm
 show (getHead _).1=_
 rw [e2,show (pageOf c.sz 1 (Head.mk kind era (P.last+1)).body)=pageOf (c.sz:Int).toNat 1 (Head.mk kind era (P.last+1)).body from rfl]
 exact congrArg Prod.fst hhd
theorem try_new {P:Pool} {c:Chip} (h:Inv P c) (hd0:c.dead=false) {i:Nat} (hi:i<c.nb) (hb:c.isBad i=false) (hw:(P.blk i).what≠2) {kind:UInt8} {era:Nat} (hk1:1≤kind.toNat) (hk3:kind.toNat≤3) (he1:1≤era) (he2:era<4294967296) (hl:P.last+1<18446744073709551616)
  (hh:isHd (tryBlk P c i kind era).2.1 i):(hd (tryBlk P c i kind era).2.1 i).1=⟨kind,era,P.last+1⟩:=by
 have hkn:=h.known hd0 i hi
 have hnh:¬ isHd c i:=fun e=>hw ((h.what hd0 hi).2 e)
 revert hh
 unfold tryBlk
 split
 ·rename_i h1
  obtain ⟨hde,hinv,hz,hk⟩:=erase_inv h hd0 hi hb
  split
  ·rename_i hne
   exact fun e=>absurd (hk e).1 hnh
  ·rename_i heq
   have h0:(c.erase i).2=0:=Classical.byContradiction heq
   have hdd:(c.erase i).1.dead=c.dead∧(c.erase i).1.bad=c.bad:=by
    rcases hde.cases with ⟨_,a,b⟩| ⟨a,_⟩| ⟨a,_⟩
    ·exact ⟨a,b⟩
    ·omega
    ·omega
   have hnb:=hde.geo.1
   exact write_new (P:=P.relook (c.erase i).1 i) hde.ok (by rw [hdd.1];exact hd0) (by rw [hnb];exact hi) (by unfold Chip.isBad;rw [hdd.2];exact hb) (by rw [hz h0];exact isBlank_replicate _) hk1 hk3 he1 he2 hl
 ·rename_i h1
  have hbk:isBlank (c.blk i)=true:=by
   rw [hkn] at h1 hw
   exact view_zero (view_one hw h1)
  exact write_new h.ci.ok hd0 hi hb hbk hk1 hk3 he1 he2 hl
theorem takeGo_new {kind:UInt8} {era:Nat} (hk1:1≤kind.toNat) (hk3:kind.toNat≤3) (he1:1≤era) (he2:era<4294967296):∀ (ks:List Nat) {P:Pool} {c:Chip},Inv P c→c.dead=false→P.last+ks.length<18446744073709551616→
  ∀ j,j<c.nb→¬ isHd c j→isHd (takeGo kind era P c ks).chip j→(hd (takeGo kind era P c ks).chip j).1.kind=kind∧(hd (takeGo kind era P c ks).chip j).1.era=era∧P.last<(hd (takeGo kind era P c ks).chip j).1.seq
 | [],P,c,h,hd0,hl=>fun j _ hn hh=>absurd hh hn
 | k :: ks,P,c,h,hd0,hl=>by
  have hnb:=h.ci.ok.nb1
  have hmod:(P.turn+k) % c.nb<c.nb:=Nat.mod_lt _ (by omega)
  simp only [List.length_cons] at hl
  unfold takeGo
  split
  ·exact takeGo_new hk1 hk3 he1 he2 ks h hd0 (by omega)
  ·rename_i hno
   have hb:c.isBad ((P.turn+k) % c.nb)=false:=by
    cases hbb:c.isBad ((P.turn+k) % c.nb) with
    | false=>rfl
    | true=>exact absurd (.inl hbb) hno
   have hw:(P.blk ((P.turn+k) % c.nb)).what≠2:=fun e=>hno (.inr e)
   have o1:=try_new h hd0 hmod hb hw hk1 hk3 he1 he2 (by omega)
   have tr:=try_inv h hd0 hmod hb hw hk1 hk3 he1 he2 (by omega)
   generalize hi:(P.turn+k) % c.nb=i at *
   generalize hT:tryBlk P c i kind era=T at *
   have one:∀ j,j<c.nb→¬ isHd c j→isHd T.2.1 j→(hd T.2.1 j).1.kind=kind∧(hd T.2.1 j).1.era=era∧P.last<(hd T.2.1 j).1.seq:=by
    intro j hj hn hh
    by_cases e:j=i
    ·subst e
     rw [o1 hh]
     exact ⟨rfl,rfl,Nat.lt_succ_self _⟩
    ·exact absurd ((isHd_blk tr.deed.geo (tr.deed.blk j e)).1 hh) hn
   split
   ·exact one
   split
   ·exact one
   ·rename_i h0 h10
    have hd1:T.2.1.dead=false:=by
     rcases tr.deed.cases with ⟨_,a,_⟩| ⟨_,a,_⟩| ⟨a,_⟩
     ·rw [a];exact hd0
     ·rw [a];exact hd0
     ·exact absurd a h10
    have hhi:=tr.hi
    have hlo:=tr.lo
    have r1:=takeGo_new hk1 hk3 he1 he2 ks tr.inv hd1 (by omega)
    have tp:=takeGo_inv hk1 hk3 he1 he2 ks tr.inv hd1 (by omega)
    intro j hj hn hh
    have hj1:j<T.2.1.nb:=by rw [tr.deed.geo.1];exact hj
    by_cases hh1:isHd T.2.1 j
    ·have e:=hd_blk tp.geo (tp.kept j hj1 hh1).1
     rw [e]
     exact one j hj hn hh1
    ·obtain ⟨a,b,d⟩:=r1 j hj1 hh1 hh
     exact ⟨a,b,by omega⟩
theorem free_hits {P:Pool} {c:Chip} (h:Inv P c) (hd0:c.dead=false) (i:Int):(freePool P c i).2.1.hits.length≤c.hits.length:=by
 by_cases hm:Mine c i
 ·unfold freePool
  split
  ·exact Nat.le_refl _
  ·have e:i=(i.toNat:Int):=by have:=hm.1;omega
   rw [e]
   exact erase_hits h.ci.ok hd0 (by have:=hm.2.1;omega) hm.2.2.2
 ·rw [free_not h hd0 hm]
  exact Nat.le_refl _
theorem cGeo {F:Nat→Prop} {A:Nat} {w:World} {p:Nat} {c:Chip} (h:CIn F A w p c) :
  CallsR prog K.nand_Chip_Geo #[.pointer (some ⟨p,0,none⟩)] w fun v w'=>v= .agg #[.int .i64 c.nb,.int .i64 c.np,.int .i64 c.sz,.int .i64 c.sp]∧Ext w w':=by
 obtain ⟨L,G,hr,_⟩:=h
 exact nand_Geo_spec hr
theorem cReadAt {F:Nat→Prop} {A:Nat} {w:World} {p:Nat} {c:Chip} (h:CIn F A w p c) (block page:Int) :
  CallsR prog K.nand_Chip_Read #[.pointer (some ⟨p,0,none⟩),.int .i64 block,.int .i64 page] w fun v w'=>Ext w w'∧
   if c.ask block page=0 then ∃ a cp,v= .tuple #[.slice a c.sz cp,.int .i64 0]∧BytesAt w' a (c.page block.toNat page.toNat)∧c.sz≤cp∧Fresh w a
   else v= .tuple #[.slice none 0 0,.int .i64 (c.ask block page:Nat)]:=by
 obtain ⟨L,G,hr,_⟩:=h
 exact nand_Read_spec hr block page
theorem cPage {F:Nat→Prop} {A:Nat} {w:World} {p:Nat} {c:Chip} (h:CIn F A w p c) (hd0:c.dead=false) {i k:Nat} (hi:i<c.nb) (hk:k<c.np) :
  CallsR prog K.nand_Chip_Read #[.pointer (some ⟨p,0,none⟩),.int .i64 i,.int .i64 k] w fun v w'=>Ext w w'∧∃ a cp,v= .tuple #[.slice a (c.page i k).length cp,.int .i64 0]∧BytesAt w' a (c.page i k)∧(c.page i k).length≤cp∧Fresh w a:=by
 refine (cReadAt h i k).mono ?_
 rintro v w' ⟨he,hv⟩
 rw [if_pos (ask_ok hd0 hi hk)] at hv
 obtain ⟨a,cp,rfl,hb,hc,hf⟩:=hv
 simp only [Int.toNat_natCast] at hb
 rw [← page_len h.ok hi hk]
 exact ⟨he,a,cp,rfl,hb,by rw [page_len h.ok hi hk];exact hc,hf⟩
structure PageSay where
 page:Int
 changes:List Change
 drop:Nat
def u64R:ERep Nat:=flatR (fun x=>[.int .u64 (x:Nat)]) 1 (by decide) (fun _=>rfl) (fun b v hv=>by simp at hv;rw [hv];rfl)
def pageR:ERep PageSay:=ERep.pair intR (ERep.pair (sliceR changeR) u64R (fun x:List Change×Nat=>x.1) (fun x=>x.2)) (fun x:PageSay=>x.page) (fun x=>(x.changes,x.drop))
abbrev pageVs (n:Int) (a:Option Addr) (l c:Nat) (d:Nat):List Value:=[.int .i64 n,.slice a l c,.int .u64 d]
theorem pageR_intro {w:World} {G:Nat→Prop} {x:PageSay} {a:Option Addr} {c:Nat} (hc:x.changes.length≤c) (h:SliceAt changeR w G a x.changes):pageR.R w G (pageVs x.page a x.changes.length c x.drop) x :=
 ⟨[.int .i64 x.page],[.slice a x.changes.length c,.int .u64 (x.drop:Nat)],rfl,rfl,[.slice a x.changes.length c],[.int .u64 (x.drop:Nat)],rfl,⟨a,c,rfl,hc,h⟩,rfl⟩
theorem pageR_elim {w:World} {G:Nat→Prop} {x:PageSay} {vs:List Value} (h:pageR.R w G vs x):∃ a c,vs=pageVs x.page a x.changes.length c x.drop∧x.changes.length≤c∧SliceAt changeR w G a x.changes:=by
 obtain ⟨u,v,rfl,hu,s,t,rfl,⟨a,c,hs,hc,hb⟩,ht⟩:=h
 have hu':u=[.int .i64 x.page]:=hu
 have ht':t=[.int .u64 (x.drop:Nat)]:=ht
 have hs':s=[.slice a x.changes.length c]:=hs
 subst hu';subst ht';subst hs'
 exact ⟨a,c,rfl,hc,hb⟩
def pageS (n:Int) (b:List UInt8):Option PageSay :=
 if (getPage b).2.2≠0 then none
 else if (getPage b).1=2 then (if (getS (getPage b).2.1).2=0 then some ⟨n,(getS (getPage b).2.1).1,0⟩ else none)
 else if (getPage b).1=3 then (if (dropS (getPage b).2.1).2=0 then some ⟨n,[],(dropS (getPage b).2.1).1⟩ else none)
 else none
theorem getPage_len (b:List UInt8):(getPage b).2.1.length≤b.length:=by
 unfold getPage
 repeat' split
 all_goals simp
 all_goals omega
theorem pg_out {u:World} {B1 B2:Nat} {cs:Array Value} {n:Int} {a:Option Addr} {l c:Nat} {d:Nat} {b:Bool} {R:Value→World→Prop} (g1:u.heap[B1]?=some (.cells cs T.api_Page (0,0))) (hcs:cs.size=3) (g2:u.heap[B2]?=some (.cells (pageVs n a l c d).toArray T.api_Page (0,0)))
  (hR:∀ u',Upd (·=B1) u u'→R (.tuple #[.agg #[.int .i64 n,.slice a l c,.int .u64 d],.bool b]) u') :
  ∃ x:Int,∃ (a':Option Addr) (n' c':Nat),∃ y:Int,cellsAt u ⟨B2,0,none⟩ [.int .i64 x,.slice a' n' c',.int .u64 y] 0∧storeP u ⟨B1,0,none⟩ [.int .i64 x,.slice a' n' c',.int .u64 y] fun w' =>
   ∃ x:Int,∃ (a':Option Addr) (n' c':Nat),∃ y:Int,cellsAt w' ⟨B1,0,none⟩ [.int .i64 x,.slice a' n' c',.int .u64 y] 0∧R (.tuple #[.agg #[.int .i64 x,.slice a' n' c',.int .u64 y],.bool b]) w' :=
 ⟨_,_,_,_,_,cells_all g2,put_all g1 (by rw [hcs];rfl) fun w' hu _ hg=>⟨_,_,_,_,_,cells_all hg,hR w' hu⟩⟩
def PageOut (w w':World) (v:Value) (o:Option PageSay):Prop:=Ext w w'∧∃ (m:Int) (a:Option Addr) (l c d:Nat) (b:Bool),v= .tuple #[.agg #[.int .i64 m,.slice a l c,.int .u64 d],.bool b]∧b=o.isSome∧
 ∀ P,o=some P→m=P.page∧d=P.drop∧l=P.changes.length∧l≤c∧∃ G,SliceAt changeR w' G a P.changes∧∀ x,G x→w.heap.size≤x∧x<w'.heap.size
theorem PageOut.none {w w':World} {o:Option PageSay} (ho:o= .none) (h:Ext w w') {m:Int} {a:Option Addr} {l c d:Nat} {b:Bool} (hb:b=false):PageOut w w' (.tuple #[.agg #[.int .i64 m,.slice a l c,.int .u64 d],.bool b]) o:=by
 subst ho
 exact ⟨h,m,a,l,c,d,b,rfl,hb,fun P hP=>by cases hP⟩
theorem scan_page_spec {w:World} {n:Int} {a:Option Addr} {b:List UInt8} {c:Nat} (hb:BytesAt w a b) (hc:b.length≤c) (hn:b.length≤100000) :
  CallsR prog K.scan_page #[.int .i64 n,.slice a b.length c] w fun v w'=>PageOut w w' v (pageS n b):=by
 apply scan_page.sh
 suffices H:∀ R:Value→World→Prop,(∀ v w',PageOut w w' v (pageS n b)→R v w')→scan_page.body n a b.length c w R from H _ fun _ _ h=>h
 intro R hR
 unfold scan_page.body
 simp only [add_lit,Nat.zero_add]
 intro B1 w₁ hn1
 have hb1:B1=w.heap.size:=hn1.num
 have hs1:=hn1.size
 refine (seal_Get_spec (hb.ext hn1.upd) hc).mono ?_
 rintro _ w₂ ⟨he2,a2,c2,rfl,hb2,hc2⟩
 have hs2:=he2.size
 have hlen:=getPage_len b
 have g2:=Ext.get he2 hn1.get
 have hS:pageS n b=pageS n b:=rfl
 conv at hS=>rhs;unfold pageS
 refine ⟨_,_,_,_,_,rfl,new_put (vs:=pageVs n none 0 0 0) rfl fun B2 w₄ hb4 hs4 he4 g4=>?_⟩
 have e4:Ext w w₄:=(hn1.upd.trans he2).trans he4
 have g14:=Ext.get he4 g2
 have own:∀ {u u':World},Ext w u→Upd (·=B1) u u'→Ext w u':=fun h k=>h.beyond k fun x hx=>by omega
 refine br_ne (fun hne=>?_) fun he=>?_
 ·rw [if_pos (by omega)] at hS
  exact pg_out g14 rfl g4 fun u' hu=>hR _ _ (PageOut.none hS (own e4 hu) (by simpa using hne))
 rw [if_neg (by omega)] at hS
 refine br_eq (fun h2=>?_) fun h2=>?_
 ·have k2:(getPage b).1=2:=UInt8.toNat_inj.1 (by have:((getPage b).1.toNat:Int)=2:=h2;show (getPage b).1.toNat=2;omega)
  rw [if_pos k2] at hS
  refine (rec_Get_spec (hb2.ext he4) (by omega)).mono ?_
  rintro _ w₆ ⟨a6,c6,rfl,hl6,he6⟩
  have hs6:=he6.size
  refine ⟨_,_,_,_,rfl,store_of (Ext.get he6 g4) (by simp) fun w₇ hp7=>?_⟩
  have hu7:=hp7.upd1
  have e7:Ext w w₇:=(e4.trans he6).beyond hu7 fun x hx=>by omega
  refine pg_out (hu7.get (Ext.get he6 g14) (by omega)) rfl hp7.get fun u' hu=>hR _ _ ?_
  by_cases hz:(getS (getPage b).2.1).2=0
  ·rw [if_pos hz] at hS
   refine ⟨own e7 hu,_,_,_,_,_,_,rfl,by rw [hS,hz];rfl,fun P hP=>?_⟩
   rw [hS] at hP
   cases hP
   refine ⟨rfl,rfl,rfl,hl6.cap,?_⟩
   have hlu:=(hl6.upd hu7 fun x hx=>⟨by omega,fun h=>h⟩).upd hu fun x hx=>⟨by omega,fun h=>h⟩
   obtain ⟨G,h1,h2⟩:=hlu.slice
   exact ⟨G,h1,fun x hx=>⟨by have h5:=(h2 x hx).1;have h6:=e4.size;rcases h5 with h | h;exact Nat.le_trans h6 h;exact h.elim,(h2 x hx).2⟩⟩
  ·rw [if_neg hz] at hS
   exact PageOut.none hS (own e7 hu) (by simpa using hz)
 have k2:¬ (getPage b).1=2:=fun h=>h2 (by show ((getPage b).1.toNat:Int)=2;rw [h];rfl)
 rw [if_neg k2] at hS
 refine br_eq (fun h3=>?_) fun h3=>?_
 ·have k3:(getPage b).1=3:=UInt8.toNat_inj.1 (by have:((getPage b).1.toNat:Int)=3:=h3;show (getPage b).1.toNat=3;omega)
  rw [if_pos k3] at hS
  refine (rec_GetDrop_spec (hb2.ext he4) (by omega)).mono ?_
  rintro _ w₆ ⟨rfl,he6⟩
  have hs6:=he6.size
  refine ⟨_,_,rfl,store_of (Ext.get he6 g4) (by simp) fun w₇ hp7=>?_⟩
  have hu7:=hp7.upd1
  have e7:Ext w w₇:=(e4.trans he6).beyond hu7 fun x hx=>by omega
  refine pg_out (d:=(dropS (getPage b).2.1).1) (hu7.get (Ext.get he6 g14) (by omega)) rfl hp7.get fun u' hu=>hR _ _ ?_
  by_cases hz:(dropS (getPage b).2.1).2=0
  ·rw [if_pos hz] at hS
   refine ⟨own e7 hu,_,_,_,_,_,_,rfl,by rw [hS,hz];rfl,fun P hP=>?_⟩
   rw [hS] at hP
   cases hP
   exact ⟨rfl,rfl,rfl,Nat.le_refl _,NoB,SliceAt.nil _ _ _,fun _ h=>h.elim⟩
  ·rw [if_neg hz] at hS
   exact PageOut.none hS (own e7 hu) (by simpa using hz)
 ·have k3:¬ (getPage b).1=3:=fun h=>h3 (by show ((getPage b).1.toNat:Int)=3;rw [h];rfl)
  rw [if_neg k3] at hS
  exact pg_out g14 rfl g4 fun u' hu=>hR _ _ (PageOut.none hS (own e4 hu) rfl)
def pagesTo (c:Chip) (i k:Nat):List PageSay:=(List.range k).filterMap fun k:Nat=>if k=0 then none else pageS k (c.page i k)
def pagesS (c:Chip) (i:Nat):List PageSay:=pagesTo c i c.np
theorem pagesTo_one (c:Chip) (i:Nat):pagesTo c i 1=[]:=rfl
theorem pagesTo_succ (c:Chip) (i k:Nat) (hk:1≤k):pagesTo c i (k+1)=pagesTo c i k ++ (pageS k (c.page i k)).toList:=by
 unfold pagesTo
 rw [List.range_succ,List.filterMap_append]
 congr 1
 rw [List.filterMap_cons,if_neg (by omega)]
 cases pageS k (c.page i k)<;>rfl
theorem pagesTo_length (c:Chip) (i k:Nat):(pagesTo c i k).length≤k:=by
 have:=List.length_filterMap_le (fun k:Nat=>if k=0 then none else pageS k (c.page i k)) (List.range k)
 simpa [pagesTo] using this
theorem ask_none0 {c:Chip} {i j:Int} (h:c.ask i j=0):c.dead=false∧0≤i∧i<c.nb∧0≤j∧j<c.np:=by
 unfold Chip.ask at h
 split at h
 ·cases h
 ·rename_i hd
  split at h
  ·cases h
  ·rename_i hx
   refine ⟨by simpa using hd,?_⟩
   omega
def pagesOut (c:Chip) (block:Int):List PageSay:=if c.ask block 0=0 then pagesS c block.toNat else []
theorem scan_Pages_spec {F:Nat→Prop} {A:Nat} {w:World} {p:Nat} {c:Chip} (h:CIn F A w p c) (block:Int) :
  CallsR prog K.scan_Pages #[.pointer (some ⟨p,0,none⟩),.int .i64 block] w fun v w'=>ListOut pageR T.api_Page w w' v (pagesOut c block) (c.ask block 0):=by
 apply scan_Pages.sh
 suffices H:∀ R:Value→World→Prop,(∀ v w',ListOut pageR T.api_Page w w' v (pagesOut c block) (c.ask block 0)→R v w')→scan_Pages.body (some ⟨p,0,none⟩) block w R from H _ fun _ _ h=>h
 intro R hR
 unfold scan_Pages.body
 refine (cReadAt h block 0).mono ?_
 rintro v w₁ ⟨he1,hv⟩
 have hs1:=he1.size
 by_cases h0:c.ask block 0=0
 ·rw [if_pos h0] at hv
  obtain ⟨a,cp,rfl,_⟩:=hv
  obtain ⟨hd0,hb0,hb1,_,hp1⟩:=ask_none0 h0
  obtain ⟨i,rfl⟩: ∃ i:Nat,block=i:=⟨block.toNat,by omega⟩
  have hok:=h.ok
  have hnp:=hok.np2
  have hnp1:=hok.np1
  refine ⟨_,_,_,_,rfl,br_ne (fun hne=>absurd rfl hne) fun _=>?_⟩
  refine ⟨fun a l cc x u=>∃ k:Nat,x=k∧1≤k∧k≤c.np∧l=(pagesTo c i k).length∧ListAt pageR NoB w.heap.size u a cc T.api_Page (pagesTo c i k)∧Ext w u∧w₁.heap.size≤u.heap.size,fun _ _ _ x _=>((c.np:Int) - x).toNat,
   ⟨1,rfl,Nat.le_refl _,by omega,rfl,ListAt.nil _ _,he1,Nat.le_refl _⟩,?_⟩
  rintro a1 l1 c1 x u ⟨k,rfl,hk1,hk,rfl,hl,heu,hsu⟩
  have hcu:=h.ext heu
  have hlen:=pagesTo_length c i k
  refine (cGeo hcu).mono ?_
  rintro _ w₃ ⟨rfl,he3⟩
  have e3:=heu.trans he3
  refine ⟨_,_,_,_,rfl,br_dec (fun hlt=>?_) fun hge=>?_⟩
  ·have hk':k<c.np:=by omega
   refine (cPage (h.ext e3) hd0 (by omega:i<c.nb) hk').mono ?_
   rintro _ w₄ ⟨he4,a4,c4,rfl,hb4,hc4,hf4⟩
   have hsz:=page_len hok (by omega:i<c.nb) hk'
   have hsz2:=hok.sz2
   refine ⟨_,_,_,_,rfl,(scan_page_spec hb4 hc4 (by omega)).mono ?_⟩
   rintro _ w₅ ⟨he5,m,a5,l5,c5,d5,b5,rfl,hb5,hP⟩
   have e5:=(e3.trans he4).trans he5
   refine ⟨_,_,_,_,_,_,rfl,new_put (vs:=pageVs m a5 l5 c5 d5) rfl fun B1 w₇ hb7 hs7 he7 g7=>?_⟩
   have ew:IntKind.i64.wrap ((k:Int)+1)=((k+1:Nat):Int):=w64 (by omega) (by omega)
   simp only [ew]
   have hl7:ListAt pageR NoB w.heap.size w₇ a1 c1 T.api_Page (pagesTo c i k):=(((hl.ext he3).ext he4).ext he5).ext he7
   have hs3:=he3.size
   have hs4:=he4.size
   have hs5:=he5.size
   have hs0:=heu.size
   refine br_intro (fun hb=>?_) fun hb=>?_
   ·rw [hb5] at hb
    obtain ⟨P,hPs⟩:=Option.isSome_iff_exists.1 hb
    obtain ⟨rfl,rfl,rfl,hlc,G,hG1,hG2⟩:=hP P hPs
    have hsucc:pagesTo c i (k+1)=pagesTo c i k ++ [P]:=by rw [pagesTo_succ c i k hk1,hPs];rfl
    refine ⟨_,_,_,_,_,cells_all g7,fun B2 w₈ hn8=>?_⟩
    have he8:=hn8.upd
    have hs8:=hn8.size
    refine ListAt.push (r:=pageR) (H:=G) (x:=P) (hl7.ext he8) (pageR_intro hlc ((hG1.ext he7).ext he8)) (fun b hb=>⟨.inl (by have:=hG2 b hb;omega),by have:=hG2 b hb;omega,fun hab=>?_⟩) hn8 rfl rfl (by omega) (by omega) (by omega) fun a' c' w₉ hu9 hl9=>?_
    ·have:=hG2 b hb
     have:=hl.lt hab
     omega
    ·rw [← hsucc] at hl9 ⊢
     exact ⟨⟨k+1,rfl,by omega,hk',rfl,hl9,Ext.own ((e5.trans he7).trans he8) hu9 (Nat.le_refl _),by have:=hu9.size;omega⟩,meas hk'⟩
   ·have hPn:pageS k (c.page i k)=none:=by rw [hb5] at hb;simpa using hb
    have hsucc:pagesTo c i (k+1)=pagesTo c i k:=by rw [pagesTo_succ c i k hk1,hPn];simp
    refine ⟨⟨k+1,rfl,by omega,hk',by rw [hsucc],by rw [hsucc];exact hl7,e5.trans he7,by omega⟩,meas hk'⟩
  ·have hk':k=c.np:=by omega
   subst hk'
   refine hR _ _ ⟨a1,c1,?_,?_,e3⟩
   ·unfold pagesOut;rw [if_pos h0,h0];rfl
   ·unfold pagesOut;rw [if_pos h0];exact hl.ext he3
 ·rw [if_neg h0] at hv
  subst hv
  refine ⟨_,_,_,_,rfl,br_ne (fun hne=>?_) fun he=>absurd he (by omega)⟩
  exact hR _ _ (ListOut.none (by unfold pagesOut;rw [if_neg h0]) he1)
theorem pageS_two {n:Int} {b:List UInt8} (h0:(getPage b).2.2=0) (h2:(getPage b).1=2):pageS n b=if (getS (getPage b).2.1).2=0 then some ⟨n,(getS (getPage b).2.1).1,0⟩ else none:=by
 unfold pageS
 rw [if_neg (by omega),if_pos h2]
theorem pageS_three {n:Int} {b:List UInt8} (h0:(getPage b).2.2=0) (h3:(getPage b).1=3):pageS n b=if (dropS (getPage b).2.1).2=0 then some ⟨n,[],(dropS (getPage b).2.1).1⟩ else none:=by
 unfold pageS
 rw [if_neg (by omega),if_neg (by rw [h3];decide),if_pos h3]
theorem pageS_other {n:Int} {b:List UInt8} (h2:(getPage b).1≠2) (h3:(getPage b).1≠3):pageS n b=none:=by
 unfold pageS
 rw [if_neg h2,if_neg h3]
 split<;>rfl
theorem kind_is {x:UInt8} {n:Nat} (hn:n<256) (h:(x.toNat:Int)=n):x=UInt8.ofNat n:=by
 apply UInt8.toNat_inj.1
 rw [UInt8.toNat_ofNat']
 omega
theorem kind_not {x:UInt8} {n:Nat} (hn:n<256) (h:(x.toNat:Int)≠n):x≠UInt8.ofNat n:=by
 rintro rfl
 apply h
 rw [UInt8.toNat_ofNat']
 omega
theorem carrackref12_Pages_spec {F:Nat→Prop} {A:Nat} {w:World} {p:Nat} {c:Chip} (h:CIn F A w p c) (hd0:c.dead=false) {i:Nat} (hi:i<c.nb) :
  CallsR prog K.carrackref12_Pages #[.pointer (some ⟨p,0,none⟩),.int .i64 i] w fun v w'=>∃ a cap,v= .slice a (pagesS c i).length cap∧ListAt pageR NoB w.heap.size w' a cap T.api_Page (pagesS c i)∧Ext w w':=by
 apply carrackref12_Pages.sh
 suffices H:∀ R:Value→World→Prop,(∀ v w',(∃ a cap,v= .slice a (pagesS c i).length cap∧ListAt pageR NoB w.heap.size w' a cap T.api_Page (pagesS c i)∧Ext w w')→R v w')→carrackref12_Pages.body (some ⟨p,0,none⟩) i w R from H _ fun _ _ h=>h
 intro R hR
 unfold carrackref12_Pages.body
 have hok:=h.ok
 have hnp:=hok.np2
 have hnp1:=hok.np1
 have hsz2:=hok.sz2
 refine ⟨fun a l cc x u=>∃ k:Nat,x=k∧1≤k∧k≤c.np∧l=(pagesTo c i k).length∧ListAt pageR NoB w.heap.size u a cc T.api_Page (pagesTo c i k)∧Ext w u,fun _ _ _ x _=>((c.np:Int) - x).toNat,
  ⟨1,rfl,Nat.le_refl _,by omega,rfl,ListAt.nil _ _,Upd.refl _ _⟩,?_⟩
 rintro a1 l1 c1 x u ⟨k,rfl,hk1,hk,rfl,hl,heu⟩
 have hlen:=pagesTo_length c i k
 refine (cGeo (h.ext heu)).mono ?_
 rintro _ w₂ ⟨rfl,he2⟩
 have e2:=heu.trans he2
 refine ⟨_,_,_,_,rfl,br_dec (fun hlt=>?_) fun hge=>?_⟩
 ·have hk':k<c.np:=by omega
  have ew:IntKind.i64.wrap ((k:Int)+1)=((k+1:Nat):Int):=w64 (by omega) (by omega)
  simp only [ew]
  refine (cPage (h.ext e2) hd0 hi hk').mono ?_
  rintro _ w₃ ⟨he3,a3,c3,rfl,hb3,hc3,hf3⟩
  have hsz:=page_len hok hi hk'
  refine ⟨_,_,_,_,rfl,(carrackref02_Get_spec hb3 hc3).mono ?_⟩
  rintro _ w₄ ⟨he4,a4,c4,rfl,hb4,hc4⟩
  have hs0:=heu.size
  have hs2:=he2.size
  have hs3:=he3.size
  have hs4:=he4.size
  have e4:=(e2.trans he3).trans he4
  have hl4:ListAt pageR NoB w.heap.size w₄ a1 c1 T.api_Page (pagesTo c i k):=((hl.ext he2).ext he3).ext he4
  have hbl:=getPage_len (c.page i k)
  have same:∀ {u':World},pageS k (c.page i k)=none→Ext w₄ u'→(∃ k':Nat,((k+1:Nat):Int)=k'∧1≤k'∧k'≤c.np∧(pagesTo c i k).length=(pagesTo c i k').length∧ListAt pageR NoB w.heap.size u' a1 c1 T.api_Page (pagesTo c i k')∧Ext w u')∧((c.np:Int) - ((k+1:Nat):Int)).toNat<((c.np:Int) - (k:Int)).toNat:=by
   intro u' hP he
   have hsucc:pagesTo c i (k+1)=pagesTo c i k:=by rw [pagesTo_succ c i k hk1,hP];simp
   exact ⟨⟨k+1,rfl,by omega,hk',by rw [hsucc],by rw [hsucc];exact hl4.ext he,e4.trans he⟩,meas hk'⟩
  have more:∀ {u':World} {P:PageSay} {B cp:Nat} {a5:Option Addr} {G:Nat→Prop} {w₀:World} {K:Option Addr→Nat→Nat→World→Prop},pageS k (c.page i k)=some P→Ext w₄ w₀→P.changes.length≤cp→SliceAt changeR w₀ G a5 P.changes→(∀ x,G x→w₄.heap.size≤x∧x<w₀.heap.size)→
    New w₀ (.cells (pageVs P.page a5 P.changes.length cp P.drop).toArray T.api_Page) B u'→(∀ a' c' w',((∃ k':Nat,((k+1:Nat):Int)=k'∧1≤k'∧k'≤c.np∧(pagesTo c i k ++ [P]).length=(pagesTo c i k').length∧ListAt pageR NoB w.heap.size w' a' c' T.api_Page (pagesTo c i k')∧Ext w w')∧((c.np:Int) - ((k+1:Nat):Int)).toNat<((c.np:Int) - (k:Int)).toNat)→K a' (pagesTo c i k ++ [P]).length c' w')→
    appendP T.api_Page 3 40 [.int .i64 0,.slice none 0 0,.int .u64 0] a1 (pagesTo c i k).length c1 (.slice (some ⟨B,0,none⟩) 1 1) u' K:=by
   intro u' P B cp a5 G w₀ K hP he hcp hsl hG hn hK
   have hsucc:pagesTo c i (k+1)=pagesTo c i k ++ [P]:=by rw [pagesTo_succ c i k hk1,hP];rfl
   have hsn:=hn.size
   have hse:=he.size
   refine ListAt.push (r:=pageR) (H:=G) (x:=P) ((hl4.ext he).ext hn.upd) (pageR_intro hcp (hsl.ext hn.upd)) (fun b hb=>⟨.inl (by have:=hG b hb;omega),by have:=hG b hb;omega,fun hab=>?_⟩) hn rfl rfl (by omega) (by omega) (by omega) fun a' c' w' hu' hl'=>hK a' c' w' ?_
   ·have:=hG b hb
    have:=hl4.lt hab
    omega
   ·rw [← hsucc] at hl' ⊢
    exact ⟨⟨k+1,rfl,by omega,hk',rfl,hl',Ext.own ((e4.trans he).trans hn.upd) hu' (Nat.le_refl _)⟩,meas hk'⟩
  refine ⟨_,_,_,_,_,rfl,br_ne (fun hne=>?_) fun he0=>?_⟩
  ·exact same (by unfold pageS;rw [if_pos (by omega)]) (Upd.refl _ _)
  have he0':(getPage (c.page i k)).2.2=0:=by omega
  refine br_eq (fun h2=>?_) fun h2=>?_
  ·have k2:(getPage (c.page i k)).1=2:=kind_is (n:=2) (by decide) h2
   have hpg:=pageS_two (n:=k) he0' k2
   have k3:¬ (((getPage (c.page i k)).1.toNat:Nat):Int)=3:=by rw [h2];decide
   refine (carrackref11_Get_spec hb4 (by omega)).mono ?_
   rintro _ w₅ ⟨a5,c5,rfl,hl5,he5⟩
   refine ⟨_,_,_,_,rfl,br_eq (fun hz=>?_) fun hz=>?_⟩
   ·rw [if_pos (by omega)] at hpg
    intro B1 w₆ hn6
    obtain ⟨G,hG1,hG2⟩:=hl5.slice
    refine more (P:=⟨k,(getS (getPage (c.page i k)).2.1).1,0⟩) hpg he5 hl5.cap hG1 (fun x hx=>⟨by rcases (hG2 x hx).1 with h | h;exact h;exact h.elim,(hG2 x hx).2⟩) hn6 fun a' c' w' hK=>br_eq (fun h3=>absurd h3 k3) fun _=>hK
   ·rw [if_neg (by omega)] at hpg
    exact br_eq (fun h3=>absurd h3 k3) fun _=>same hpg he5
  ·have k2:(getPage (c.page i k)).1≠2:=kind_not (n:=2) (by decide) h2
   refine br_eq (fun h3=>?_) fun h3=>?_
   ·have k3:(getPage (c.page i k)).1=3:=kind_is (n:=3) (by decide) h3
    have hpg:=pageS_three (n:=k) he0' k3
    refine (carrackref11_GetDrop_spec hb4 hc4).mono ?_
    rintro _ w₅ ⟨rfl,he5⟩
    refine ⟨_,_,rfl,br_eq (fun hz=>?_) fun hz=>?_⟩
    ·rw [if_pos (by omega)] at hpg
     intro B1 w₆ hn6
     exact more (P:=⟨k,[],(dropS (getPage (c.page i k)).2.1).1⟩) (G:=NoB) hpg he5 (Nat.le_refl _) (SliceAt.nil _ _ _) (fun x hx=>hx.elim) hn6 fun a' c' w' hK=>hK
    ·rw [if_neg (by omega)] at hpg
     exact same hpg he5
   ·have k3:(getPage (c.page i k)).1≠3:=kind_not (n:=3) (by decide) h3
    exact same (pageS_other k2 k3) (Upd.refl _ _)
 ·have hk':k=c.np:=by omega
  subst hk'
  exact hR _ _ ⟨a1,c1,rfl,hl.ext he2,e2⟩
theorem takeS_app {a l:List UInt8} {k:Nat} (h:a.length=k):takeS k (some (a ++ l))=(fromLE a,0,some l):=by
 unfold takeS
 simp only
 rw [if_neg (by simp;omega)]
 subst h
 simp
theorem ofNat_toNat {n:Nat} (h:n<256):(UInt8.ofNat n).toNat=n:=by
 rw [UInt8.toNat_ofNat']
 exact Nat.mod_eq_of_lt h
theorem takeS_one (b:UInt8) (l:List UInt8):takeS 1 (some (b :: l))=(b.toNat,0,some l):=by
 have:=takeS_app (a:=[b]) (l:=l) (k:=1) rfl
 rw [fromLE_one] at this
 exact this
theorem rowS_app {a l:List UInt8} (h:a.length<256):rowS (some (UInt8.ofNat a.length :: (a ++ l)))=(a,0,some l):=by
 unfold rowS
 rw [takeS_one,if_pos rfl,ofNat_toNat h]
 unfold cutS
 simp only
 rw [if_neg (by simp)]
 simp
theorem name_of (k:Key):(⟨k.bytes.toArray⟩: ByteArray)=k.name:=by
 obtain ⟨_,_,⟨⟨a⟩⟩,_⟩:=k
 rfl
theorem empty_name {k:Key} (h:k.bytes=[]):k.name=ByteArray.empty:=by
 rw [← name_of,h];rfl
theorem keyS_keyB {k:Key} (h:k.may=true) (l:List UInt8):keyS (some (keyB k ++ l))=(k,0,some l):=by
 obtain ⟨h1,h2,h3⟩:=Key.may_elim h
 have hino:fromLE (leB k.ino.toNat 2)=k.ino.toNat:=fromLE_leB 2 _ (by omega)
 have hfin:finKey k (some l)=(k,0,some l):=by unfold finKey;rw [if_pos h]
 have hin:((k.ino.toNat:Nat):Int)=k.ino:=by omega
 unfold keyS keyB
 rw [List.append_assoc,List.append_assoc,takeS_app (leB_length 2 _),hino]
 simp only [List.cons_append,List.nil_append]
 rw [takeS_one]
 simp only
 rcases h3 with ⟨w,hb,hc⟩| ⟨w,hn,hc⟩| ⟨w,hb,hc,hc2⟩
 ·have hk:(⟨(k.ino.toNat:Nat),UInt8.ofNat k.what.toNat,ByteArray.empty,0⟩: Key)=k:=by
   rw [← empty_name hb,← hc,hin]
   simp
  rw [w]
  simp only [show ((1:UInt8)=2)=False by simp,show ((1:UInt8)=3)=False by simp,if_false,List.nil_append]
  rw [if_neg (by decide),if_neg (by decide),if_neg (by decide)]
  rw [w] at hk
  rw [hk,hfin]
 ·have hl:=isName_len hn
  have hk:(⟨(k.ino.toNat:Nat),UInt8.ofNat k.what.toNat,⟨k.bytes.toArray⟩,0⟩: Key)=k:=by
   rw [name_of,← hc,hin]
   simp
  rw [w]
  simp only [if_true,List.cons_append]
  rw [if_neg (by decide),if_pos (by decide),rowS_app (by omega)]
  simp only
  rw [if_neg (by decide)]
  rw [w] at hk
  rw [hk,hfin]
 ·have hk:(⟨(k.ino.toNat:Nat),UInt8.ofNat k.what.toNat,ByteArray.empty,(k.chunk.toNat:Nat)⟩: Key)=k:=by
   rw [← empty_name hb,hin,show ((k.chunk.toNat:Nat):Int)=k.chunk by omega]
   simp
  rw [w]
  simp only [show ((3:UInt8)=2)=False by simp,if_false,if_true,List.cons_append,List.nil_append]
  rw [if_neg (by decide),if_neg (by decide),if_pos (by decide),takeS_one,ofNat_toNat (by omega)]
  simp only
  rw [if_neg (by decide)]
  rw [w] at hk
  rw [hk,hfin]
theorem oneS_chgB {c:Change} (h:mayC c=true) (l:List UInt8):oneS (some (chgB c ++ l))=(c,0,some l):=by
 have hm:c.key.may=true∧(if c.gone then decide (c.val.length=0) else decide (1≤c.val.length) && decide (c.val.length≤255))=true:=by
  unfold mayC at h
  simpa using h
 obtain ⟨key,val,gone⟩:=c
 simp only at hm
 unfold oneS chgB
 cases gone with
 | true =>
  simp only [if_true] at hm
  have hv:val=[]:=List.eq_nil_of_length_eq_zero (of_decide_eq_true hm.2)
  subst hv
  simp only [if_true,List.cons_append]
  rw [takeS_one]
  simp only
  rw [keyS_keyB hm.1,if_neg (by decide),if_neg (by decide),if_neg (fun h=>h rfl),if_pos (by decide)]
 | false =>
  have hv:=hm.2
  simp only [Bool.and_eq_true,decide_eq_true_eq,Bool.false_eq_true,if_false] at hv
  simp only [Bool.false_eq_true,if_false,List.cons_append,List.append_assoc]
  rw [takeS_one]
  simp only
  rw [keyS_keyB hm.1,if_neg (by decide),if_neg (by decide),if_neg (fun h=>h rfl),if_neg (by decide),rowS_app (by omega)]
  simp only
  rw [if_neg (by decide),if_neg (by omega)]
theorem goS_flat:∀ (cs acc:List Change),(∀ x∈cs,mayC x=true)→goS cs.length (some (cs.flatMap chgB)) acc=(acc ++ cs,0)
 | [],acc,_=>by
  show (if 0<leftS (some []) then ([],5) else (acc,0))=_
  rw [if_neg (by simp [leftS]),List.append_nil]
 | c :: cs,acc,h=>by
  rw [List.length_cons,List.flatMap_cons]
  have e:=oneS_chgB (h c (by simp)) (cs.flatMap chgB)
  show (if (oneS (some (chgB c ++ cs.flatMap chgB))).2.1≠0 then ([],(oneS (some (chgB c ++ cs.flatMap chgB))).2.1) else goS cs.length (oneS (some (chgB c ++ cs.flatMap chgB))).2.2 (acc ++ [(oneS (some (chgB c ++ cs.flatMap chgB))).1]))=_
  rw [e]
  simp only
  rw [if_neg (fun h=>h rfl),goS_flat cs _ fun x hx=>h x (by simp [hx])]
  simp
theorem getS_bodyB {cs:List Change} (h:mayL cs=true):getS (bodyB cs)=(cs,0):=by
 unfold mayL at h
 simp only [Bool.and_eq_true,decide_eq_true_eq,List.all_eq_true] at h
 unfold getS bodyB
 rw [takeS_one,ofNat_toNat (by omega)]
 simp only
 rw [if_neg (by decide),if_neg (by omega),goS_flat cs [] h.2,List.nil_append]
theorem dropS_leB {seq:Nat} (h0:seq≠0) (h:seq<18446744073709551616):dropS (leB seq 8)=(seq,0):=by
 have e:fromLE (leB seq 8)=seq:=fromLE_leB 8 _ h
 unfold dropS
 rw [if_neg (by rw [leB_length];decide),e,if_neg h0]
structure SaysP (sz:Nat) (pg:List UInt8) (cs:List Change) (d:Nat):Prop where
 len:pg.length=sz
 sound:Sound pg
 say:∀ n,pageS n pg=some ⟨n,cs,d⟩
theorem putL_says {sz:Nat} (h1:128≤sz) (h2:sz≤256) {cs:List Change} (h:(putL sz cs).2=0):SaysP sz (putL sz cs).1 cs 0∧mayL cs=true:=by
 have hsz:isSize (sz:Int)=true:=by simp [isSize];omega
 unfold putL at h ⊢
 split at h
 ·rename_i hm
  rw [if_pos hm]
  unfold putPage at h ⊢
  split at h
  ·cases h
  ·split at h
   ·cases h
   ·rename_i hn hb
    rw [if_neg hn,if_neg hb]
    have hbl:(bodyB cs).length+5≤sz:=by omega
    refine ⟨⟨pageOf_length _ _ _ (by simpa using hbl),pageOf_sound (by simpa using hbl) (by simpa using (by omega:sz≤8000)),fun n=>?_⟩,hm⟩
    have hg:getPage (pageOf sz 2 (bodyB cs))=(2,bodyB cs,0):=getPage_pageOf hsz (by decide) (by decide) hbl
    show pageS n (pageOf sz 2 (bodyB cs))=_
    unfold pageS
    rw [hg]
    simp only
    rw [if_neg (by decide),if_pos trivial,getS_bodyB hm,if_pos rfl]
 ·cases h
theorem putDrop_says {sz:Nat} (h1:128≤sz) (h2:sz≤256) {seq:Nat} (h0:seq≠0) (h:seq<18446744073709551616):(putDropB sz seq).2=0∧SaysP sz (putDropB sz seq).1 [] seq:=by
 have hsz:isSize (sz:Int)=true:=by simp [isSize];omega
 have hlen:=leB_length 8 seq
 have hp:putDropB sz seq=(pageOf sz 3 (leB seq 8),0):=by
  unfold putDropB putPage
  rw [if_neg h0,if_neg (by rw [hsz];decide),if_neg (by omega)]
  simp
 rw [hp]
 refine ⟨rfl,pageOf_length _ _ _ (by omega),pageOf_sound (by omega) (by omega),fun n=>?_⟩
 have hg:getPage (pageOf sz 3 (leB seq 8))=(3,leB seq 8,0):=getPage_pageOf hsz (by decide) (by decide) (by omega)
 show pageS n (pageOf sz 3 (leB seq 8))=_
 unfold pageS
 rw [hg]
 simp only
 rw [if_neg (by decide),if_neg (by decide),if_pos trivial,dropS_leB h0 h,if_pos rfl]
theorem getPage_sound' {b:List UInt8} (hp:(getPage b).2.2=0):Sound b:=by
 unfold getPage at hp
 split at hp
 ·cases hp
 ·rename_i hs
  split at hp
  ·cases hp
  ·split at hp
   ·cases hp
   ·rename_i hn
    have hs':isSize b.length=true:=by simpa using hs
    simp [isSize] at hs'
    exact ⟨by omega,Classical.byContradiction hn⟩
theorem pageS_sound {n:Int} {b:List UInt8} (h:pageS n b≠none):Sound b:=by
 refine getPage_sound' ?_
 unfold pageS at h
 split at h
 ·exact absurd rfl h
 ·rename_i h0;omega
theorem pageS_blank (n:Int) (k:Nat):pageS n (List.replicate k 255)=none:=by
 have:(getPage (List.replicate k 255)).2.2≠0:=by
  unfold getPage
  split
  ·simp
  ·rw [if_pos (isBlank_replicate k)];simp
 unfold pageS
 rw [if_pos this]
theorem SaysP.sub {sz:Nat} {pg X:List UInt8} {cs:List Change} {d:Nat} (h:SaysP sz pg cs d) (hX:SubL pg X) (n:Int):pageS n X=none∨X=pg:=by
 by_cases hx:pageS n X=none
 ·exact .inl hx
 ·exact .inr (berger hX h.sound (pageS_sound hx))
structure Part where
 block:Int
 seq:Nat
 pages:List PageSay
abbrev partVs (b:Int) (s:Nat) (a:Option Addr) (l c:Nat):List Value:=[.int .i64 b,.int .u64 s,.slice a l c]
def partR:ERep Part:=ERep.pair intR (ERep.pair u64R (sliceR pageR) (fun x:Nat×List PageSay=>x.1) (fun x=>x.2)) (fun x:Part=>x.block) (fun x=>(x.seq,x.pages))
theorem partR_intro {w:World} {G:Nat→Prop} {x:Part} {a:Option Addr} {c:Nat} (hc:x.pages.length≤c) (h:SliceAt pageR w G a x.pages):partR.R w G (partVs x.block x.seq a x.pages.length c) x :=
 ⟨[.int .i64 x.block],[.int .u64 (x.seq:Nat),.slice a x.pages.length c],rfl,rfl,[.int .u64 (x.seq:Nat)],[.slice a x.pages.length c],rfl,rfl,a,c,rfl,hc,h⟩
theorem partR_elim {w:World} {G:Nat→Prop} {x:Part} {vs:List Value} (h:partR.R w G vs x):∃ a c,vs=partVs x.block x.seq a x.pages.length c∧x.pages.length≤c∧SliceAt pageR w G a x.pages:=by
 obtain ⟨u,v,rfl,hu,s,t,rfl,ht,a,c,hs,hc,hb⟩:=h
 have hu':u=[.int .i64 x.block]:=hu
 have ht':s=[.int .u64 (x.seq:Nat)]:=ht
 have hs':t=[.slice a x.pages.length c]:=hs
 subst hu';subst ht';subst hs'
 exact ⟨a,c,rfl,hc,hb⟩
def isLog (era:Nat) (t:Taken):Bool:=decide (t.head.kind=1) && decide (t.head.era=era)
def partOf (c:Chip) (t:Taken):Part:=⟨t.block,t.head.seq,pagesS c t.block⟩
def partsL (c:Chip) (era:Nat) (l:List Taken):List Part:=(l.filter (isLog era)).map (partOf c)
def lowP (n:Nat) (l:List PageSay):Nat:=l.foldl (fun n p=>max n p.drop) n
def lowL (l:List Part):Nat:=l.foldl (fun n x=>lowP n x.pages) 0
def readErr (c:Chip) (era:Nat):Nat:=if c.dead then 10 else if era=0 then 2 else 0
def readParts (c:Chip) (era:Nat):List Part:=if readErr c era≠0 then [] else partsL c era (takenPool (scanPool c) c)
theorem partsL_succ (c:Chip) (era:Nat) {l:List Taken} {i:Nat} (hi:i<l.length):partsL c era (l.take (i+1))=partsL c era (l.take i) ++ if isLog era l[i] then [partOf c l[i]] else []:=by
 unfold partsL
 rw [List.take_succ_eq_append_getElem hi,List.filter_append,List.map_append]
 congr 1
 rw [List.filter_cons]
 split<;>rfl
theorem lowL_snoc (l:List Part) (x:Part):lowL (l ++ [x])=lowP (lowL l) x.pages:=by unfold lowL;rw [List.foldl_append];rfl
theorem lowP_succ (n:Nat) {l:List PageSay} {i:Nat} (hi:i<l.length):lowP n (l.take (i+1))=max (lowP n (l.take i)) l[i].drop:=by
 unfold lowP
 rw [List.take_succ_eq_append_getElem hi,List.foldl_append];rfl
theorem partsL_length (c:Chip) (era:Nat) (l:List Taken):(partsL c era l).length≤l.length:=by
 unfold partsL
 rw [List.length_map]
 exact List.length_filter_le _ _
theorem max_if (a b:Nat):(if (b:Int) > (a:Int) then (b:Int) else (a:Int))=((max a b:Nat):Int):=by
 split<;>omega
theorem scan_read_spec {F:Nat→Prop} {A:Nat} {w:World} {p:Nat} {c:Chip} (h:CIn F A w p c) (hnb:c.nb<20) (era:Nat) :
  CallsR prog K.scan_read #[.pointer (some ⟨p,0,none⟩),.int .u32 era] w fun v w'=>∃ a cap,v= .tuple #[.slice a (readParts c era).length cap,.int .u64 (lowL (readParts c era):Nat),.int .i64 (readErr c era:Nat)]∧ListAt partR NoB w.heap.size w' a cap T.scan_part (readParts c era)∧Ext w w':=by
 apply scan_read.sh
 suffices H:∀ R:Value→World→Prop,(∀ v w',(∃ a cap,v= .tuple #[.slice a (readParts c era).length cap,.int .u64 (lowL (readParts c era):Nat),.int .i64 (readErr c era:Nat)]∧ListAt partR NoB w.heap.size w' a cap T.scan_part (readParts c era)∧Ext w w')→R v w')→scan_read.body (some ⟨p,0,none⟩) era w R from H _ fun _ _ h=>h
 intro R hR
 unfold scan_read.body
 refine (cScanF h).mono ?_
 rintro _ w₁ ⟨he1,hv⟩
 have hs1:=he1.size
 split at hv
 ·rename_i hd
  subst hv
  have he:readErr c era=10:=by unfold readErr;rw [if_pos hd]
  have hp:readParts c era=[]:=by unfold readParts;rw [he];rfl
  rw [hp,he] at hR
  exact ⟨_,_,rfl,br_ne (fun _=>hR _ _ ⟨none,0,rfl,ListAt.nil _ _,he1⟩) fun h=>by cases h⟩
 rename_i hd
 have hd0:c.dead=false:=by simpa using hd
 obtain ⟨M,rfl,rfl,hp2⟩:=hv
 refine ⟨_,_,rfl,br_ne (fun h=>(h rfl).elim) fun _=>br_eq (fun he0=>?_) fun he0=>?_⟩
 ·have he:readErr c era=2:=by unfold readErr;rw [if_neg hd,if_pos (by omega)]
  have hp:readParts c era=[]:=by unfold readParts;rw [he];rfl
  rw [hp,he] at hR
  exact hR _ _ ⟨none,0,rfl,ListAt.nil _ _,he1⟩
 have he:readErr c era=0:=by unfold readErr;rw [if_neg hd,if_neg (by omega)]
 have hp:readParts c era=partsL c era (takenPool (scanPool c) c):=by unfold readParts;rw [he];rfl
 rw [hp,he] at hR
 refine (pTaken hp2 hnb rfl).mono ?_
 rintro _ w₂ ⟨he2,a1,c1,rfl,ho2,hf2⟩
 have e2:Ext w w₂:=he1.trans he2
 have hs2:=he2.size
 have hll:(takenPool (scanPool c) c).length≤c.nb:=by
  unfold takenPool
  rw [isort_length]
  exact takenRaw_length _ _ _
 have hlb:∀ x∈takenPool (scanPool c) c,x.block<c.nb:=by
  intro x hx
  unfold takenPool at hx
  rw [isort_mem] at hx
  exact takenRaw_block hx
 generalize takenPool (scanPool c) c=l at *
 have hrow:RowAt w₂ a1 (l.flatMap Taken.vals):=ho2.row
 refine ⟨_,_,_,rfl,fun a2 l2 c2 x2 x3 u=>∃ i:Nat,x3=i∧i≤l.length∧l2=(partsL c era (l.take i)).length∧x2=(lowL (partsL c era (l.take i)):Nat)∧ListAt partR NoB w₂.heap.size u a2 c2 T.scan_part (partsL c era (l.take i))∧Ext w₂ u,fun _ _ _ _ x _=>((l.length:Int) - x).toNat,
  ⟨0,rfl,by omega,rfl,rfl,ListAt.nil _ _,Upd.refl _ _⟩,?_⟩
 rintro a2 l2 c2 x2 x3 u ⟨i,rfl,hi,rfl,rfl,hl,heu⟩
 have hpl:=partsL_length c era (l.take i)
 rw [List.length_take] at hpl
 refine br_dec (fun hlt=>?_) fun hge=>?_
 ·have hi':i<l.length:=by omega
  have ew:IntKind.i64.wrap ((i:Int)+1)=((i+1:Nat):Int):=w64 (by omega) (by omega)
  simp only [ew]
  have hsu:=heu.size
  have hsucc:=partsL_succ c era hi'
  refine idx_flat (f:=Taken.vals) (k:=5) (fun _=>rfl) (by decide) (hrow.ext heu) rfl hi' fun b o ha hr=>?_
  refine ⟨_,_,_,_,_,hr.cells,new_put (vs:=l[i].vals) rfl fun B1 w₅ hb5 hs5 he5 g5=>?_⟩
  have e5:=heu.trans he5
  have hl5:=hl.ext he5
  refine ⟨_,cell_of g5 rfl,br_ne (fun hk=>?_) fun hk=>?_⟩
  ·have hlog:isLog era l[i]=false:=by
    unfold isLog
    rw [decide_eq_false (fun e=>hk (by rw [e];rfl))];rfl
   rw [hlog] at hsucc
   simp only [Bool.false_eq_true,if_false,List.append_nil] at hsucc
   exact ⟨⟨i+1,rfl,hi',by rw [hsucc],by rw [hsucc],by rw [hsucc];exact hl5,e5⟩,meas hi'⟩
  simp only [add_lit,Nat.zero_add]
  refine ⟨_,cell_of g5 rfl,br_ne (fun hk2=>?_) fun hk2=>?_⟩
  ·have hlog:isLog era l[i]=false:=by
    unfold isLog
    rw [decide_eq_false (p:=l[i].head.era=era) (fun e=>hk2 (by rw [e]))];simp
   rw [hlog] at hsucc
   simp only [Bool.false_eq_true,if_false,List.append_nil] at hsucc
   exact ⟨⟨i+1,rfl,hi',by rw [hsucc],by rw [hsucc],by rw [hsucc];exact hl5,e5⟩,meas hi'⟩
  have hlog:isLog era l[i]=true:=by
   unfold isLog
   rw [decide_eq_true (show l[i].head.kind=1 from kind_is (n:=1) (by decide) hk),decide_eq_true (p:=l[i].head.era=era) (by omega)];rfl
  rw [hlog] at hsucc
  simp only [if_true] at hsucc
  refine ⟨_,cell_of g5 rfl,_,cell_of g5 rfl,new_put (vs:=partVs l[i].block l[i].head.seq none 0 0) rfl fun B2 w₇ hb7 hs7 he7 g7=>?_⟩
  have e7:=e5.trans he7
  have hbk:=hlb _ (List.getElem_mem hi')
  refine ⟨_,cell_of (Ext.get he7 g5) rfl,(scan_Pages_spec (h.ext (e2.trans e7)) l[i].block).mono ?_⟩
  have hask:c.ask l[i].block 0=0:=ask_ok (k:=0) hd0 hbk (by have:=h.ok.np1;omega)
  have hpo:pagesOut c l[i].block=pagesS c l[i].block:=by unfold pagesOut;rw [if_pos hask,Int.toNat_natCast]
  rw [hpo,hask]
  rintro _ w₈ ⟨a3,c3,rfl,hl8,he8⟩
  have hs8:=he8.size
  have hpgl:=pagesTo_length c l[i].block c.np
  have hnp2:=h.ok.np2
  change (pagesS c l[i].block).length≤c.np at hpgl
  have hpt:partOf c l[i]=⟨l[i].block,l[i].head.seq,pagesS c l[i].block⟩:=rfl
  generalize pagesS c l[i].block=pg at *
  refine ⟨_,_,_,_,rfl,store_of (Ext.get he8 g7) (by simp) fun w₉ hp9=>?_⟩
  have g9:w₉.heap[B2]?=some (.cells (partVs l[i].block l[i].head.seq a3 pg.length c3).toArray T.scan_part (0,0)):=hp9.get
  have hu9:=hp9.upd1
  have hs9:=hu9.size
  have hl9:=hl8.upd hu9 fun x hx=>⟨by omega,fun h=>h⟩
  have hlu9:ListAt partR NoB w₂.heap.size w₉ a2 c2 T.scan_part (partsL c era (l.take i)):=by
   obtain ⟨G,h1,h2,h3⟩:=((hl5.ext he7).ext he8)
   obtain ⟨G',h1',h2',h3'⟩:=hl5
   refine ⟨G',(((h1'.ext he7).ext he8).upd hu9 (fun b hb e=>?_) fun b hb e=>?_),fun x hx=>⟨(h2' x hx).1,by have:=(h2' x hx).2;have:=he7.size;omega⟩,h3'⟩
   ·have:=(h2' b hb).2;omega
   ·have:=hl.lt hb;omega
  have e9:Ext w₂ w₉:=(e7.trans he8).beyond hu9 fun x hx=>by omega
  obtain ⟨G3,hG3,hG3'⟩:=hl9.slice
  refine ⟨_,_,_,cell_of g9 rfl,fun x14 x15 v=>∃ k:Nat,x15=k∧k≤pg.length∧x14=(lowP (lowL (partsL c era (l.take i))) (pg.take k):Nat)∧Ext w₉ v,fun _ x _=>((pg.length:Int) - x).toNat,⟨0,rfl,by omega,rfl,Upd.refl _ _⟩,?_⟩
  rintro x14 x15 v ⟨k,rfl,hk,rfl,hev⟩
  refine br_dec (fun hltk=>?_) fun hgek=>?_
  ·have hk':k<pg.length:=by omega
   have ewk:IntKind.i64.wrap ((k:Int)+1)=((k+1:Nat):Int):=w64 (by omega) (by omega)
   refine SliceAt.idx (r:=pageR) (hG3.ext hev) rfl hk' fun b o vs ha hrow' hR' hG=>?_
   obtain ⟨ac,cc,rfl,_,_⟩:=pageR_elim hR'
   refine ⟨_,_,_,_,_,hrow'.cells,new_put (vs:=pageVs pg[k].page ac pg[k].changes.length cc pg[k].drop) rfl fun B3 w₁₂ hb12 hs12 he12 g12=>?_⟩
   simp only [add_lit,Nat.zero_add]
   refine ⟨_,cell_of g12 rfl,?_⟩
   rw [ewk,max_if]
   exact ⟨⟨k+1,rfl,hk',by rw [lowP_succ _ hk'],hev.trans he12⟩,meas hk'⟩
  ·have hkk:k=pg.length:=by omega
   subst hkk
   rw [List.take_length]
   refine ⟨_,_,_,_,_,cells_all (Ext.get hev g9),fun B4 w₁₃ hn13=>?_⟩
   have hs13:=hn13.size
   have hsv:=hev.size
   refine ListAt.push (r:=partR) (H:=G3) (x:=partOf c l[i]) ((hlu9.ext hev).ext hn13.upd) (partR_intro (x:=partOf c l[i]) (by rw [hpt];exact hl9.cap) (by rw [hpt];exact (hG3.ext hev).ext hn13.upd)) (fun b hb=>⟨?_,?_,fun hab=>?_⟩) (by rw [hpt];exact hn13) rfl rfl (by omega) (by omega) (by omega) fun a' c' w₁₄ hu14 hl14=>?_
   ·have:=(hG3' b hb).1
    rcases this with h | h
    ·left;have:=e7.size;omega
    ·exact h.elim
   ·have:=(hG3' b hb).2;omega
   ·have h5:=(hG3' b hb).1
    have h6:=hl.lt hab
    rcases h5 with h | h
    ·have:=e7.size;have:=e5.size;have:=he5.size;have:=he7.size;omega
    ·exact h
   ·rw [← hsucc] at hl14 ⊢
    refine ⟨⟨i+1,rfl,hi',rfl,?_,hl14,Ext.own ((e9.trans hev).trans hn13.upd) hu14 (Nat.le_refl _)⟩,meas hi'⟩
    rw [hsucc,lowL_snoc,hpt]
 ·have hii:i=l.length:=by omega
  subst hii
  rw [List.take_length] at hl ⊢
  exact hR _ _ ⟨a2,c2,rfl,hl.weak e2.size fun _ h=>h.elim,e2.trans heu⟩
def IList (S:Nat) (w:World) (a:Option Addr) (cap:Nat) (l:List Int):Prop:=OwnAt w a l.length cap T.int 1 (l.map (Value.int .i64))∧∀ b,a=some ⟨b,0,none⟩→S≤b
theorem IList.nil (S:Nat) (w:World):IList S w none 0 []:=⟨OwnAt.nil _ _ _,fun _ h=>by cases h⟩
theorem IList.ext {S:Nat} {w w':World} {a:Option Addr} {cap:Nat} {l:List Int} (h:IList S w a cap l) (k:Ext w w'):IList S w' a cap l:=⟨h.1.ext k,h.2⟩
theorem IList.weak {S S':Nat} {w:World} {a:Option Addr} {cap:Nat} {l:List Int} (h:IList S w a cap l) (hS:S'≤S):IList S' w a cap l:=⟨h.1,fun b hb=>Nat.le_trans hS (h.2 b hb)⟩
theorem cEraseF {F:Nat→Prop} {A:Nat} {w:World} {p:Nat} {c:Chip} (h:CIn F A w p c) (block:Int) :
  CallsR prog K.nand_Chip_Erase #[.pointer (some ⟨p,0,none⟩),.int .i64 block] w fun v w'=>v= .int .i64 ((c.erase block).2:Nat)∧Upd F w w'∧CIn F A w' p (c.erase block).1:=by
 obtain ⟨L,G,hr,hF,hG⟩:=h
 refine (nand_Erase_spec hr block).mono ?_
 rintro _ w' ⟨hu,L',hs',hc,rfl⟩
 exact ⟨rfl,hu.mono fun x _ hx=>hF x hx,L',G,hc,fun x hx=>hF x (by rw [hs'.1,hs'.2.2.2.2] at hx;exact hx),fun x hx=>⟨(hG x hx).1,Nat.lt_of_lt_of_le (hG x hx).2 hu.size⟩⟩
section
set_option maxRecDepth 100000
def w12:Chip:=newChip 16 8 128 0
def h12:List UInt8×Nat:=putHead 128 ⟨1,1,1⟩
def x12:Chip×Nat:=w12.program 3 0 h12.1
end
theorem IList.pushX {G:Nat→Prop} {S:Nat} {w w₁:World} {a:Option Addr} {cap n:Nat} {l:List Int} {B:Nat} {x:Int} (h:IList S w a cap l) (hG:∀ b,a=some ⟨b,0,none⟩→¬ G b) (hGs:∀ x,G x→x<w.heap.size) (hn:n=l.length) (hnew:New w (.cells #[.int .i64 x] T.int) B w₁) (hb:l.length+1≤17592186044000) (hS:S≤w.heap.size) {K:Option Addr→Nat→Nat→World→Prop}
  (hk:∀ a' c' w',Upd (fun b=>S≤b∧¬ G b) w w'→IList S w' a' c' (l ++ [x])→(∀ b,a'=some ⟨b,0,none⟩→¬ G b)→K a' (l ++ [x]).length c' w'):appendP T.int 1 8 [Value.int .i64 0] a n cap (.slice (some ⟨B,0,none⟩) 1 1) w₁ K:=by
 subst hn
 have hrow:RowAt w₁ (some ⟨B,0,none⟩) [.int .i64 x]:=RowAt.of hnew.get fun j v hj=>by simpa using hj
 refine append_own (h.1.ext hnew.upd) rfl (read_row hrow rfl) rfl (fun v hv=>by simp at hv;rw [hv];rfl) rfl (by omega) (by omega) fun a' c' w' hu ho hf=>?_
 have hs:=hnew.size
 have:=hk a' c' w' ((Upd.ext hnew.upd).trans (hu.mono fun b _ hb=>⟨h.2 b hb,hG b hb⟩)) ⟨by simpa using ho,fun b hb=>by
  rcases hf with hf | ⟨b',hb',hl⟩
  ·subst hf;exact h.2 b hb
  ·rw [hb'] at hb;cases hb;omega⟩ (fun b hb hg=>by
  rcases hf with hf | ⟨b',hb',hl⟩
  ·subst hf;exact hG b hb hg
  ·rw [hb'] at hb;cases hb;have:=hGs _ hg;omega)
 simpa using this
theorem IList.lt {S:Nat} {w:World} {a:Option Addr} {cap:Nat} {l:List Int} (h:IList S w a cap l) {b:Nat} (hb:a=some ⟨b,0,none⟩):b<w.heap.size:=h.1.blk hb
def countS (low:Nat) (l:List Part):List Int:=(l.filter fun x=>decide (low≤x.seq)).map (·.block)
def dropS' (low:Nat) (l:List Part):List Int:=(l.filter fun x=> !decide (low≤x.seq)).map (·.block)
theorem filter_map_len {α β:Type} (p:α→Bool) (f:α→β) (l:List α):((l.filter p).map f).length≤l.length:=by
 rw [List.length_map]
 exact List.length_filter_le _ _
theorem readParts_length {c:Chip} (era:Nat):(readParts c era).length≤c.nb:=by
 unfold readParts
 split
 ·exact Nat.zero_le _
 ·refine Nat.le_trans (partsL_length _ _ _) ?_
  unfold takenPool
  rw [isort_length]
  exact takenRaw_length _ _ _
theorem zlt:(0:Nat)<256:=by decide
theorem oneS_small (s:St):(oneS s).1.val.length<256:=by
 unfold oneS
 simp only []
 split
 ·exact zlt
 ·split
  ·exact zlt
  ·split
   ·exact zlt
   ·split
    ·exact zlt
    ·split
     ·exact zlt
     ·split
      ·exact zlt
      ·exact rowS_len _
theorem goS_small:∀ (n:Nat) (s:St) (acc:List Change),(∀ x∈acc,x.val.length<256)→∀ x∈(goS n s acc).1,x.val.length<256
 | 0,s,acc,h=>by
  unfold goS
  split
  ·simp
  ·exact h
 | n+1,s,acc,h=>by
  unfold goS
  split
  ·simp
  ·refine goS_small n _ _ fun x hx=>?_
   rcases List.mem_append.1 hx with hx | hx
   ·exact h x hx
   ·simp at hx;subst hx;exact oneS_small s
theorem getS_small (b:List UInt8):∀ x∈(getS b).1,x.val.length<256:=by
 unfold getS
 split
 ·simp
 ·split
  ·simp
  ·exact goS_small _ _ _ (by simp)
theorem goS_length:∀ (n:Nat) (s:St) (acc:List Change),(goS n s acc).1.length≤acc.length+n
 | 0,s,acc=>by
  unfold goS
  split
  ·simp
  ·simp
 | n+1,s,acc=>by
  unfold goS
  split
  ·simp
  ·have:=goS_length n (oneS s).2.2 (acc ++ [(oneS s).1])
   simp at this
   omega
theorem getS_length (b:List UInt8):(getS b).1.length≤255:=by
 unfold getS
 split
 ·simp
 ·split
  ·simp
  ·have:=goS_length (takeS 1 (some b)).1 (takeS 1 (some b)).2.2 []
   have h2:=takeS_lt 1 (some b)
   simp at this
   omega
theorem pageS_small {n:Int} {b:List UInt8} {P:PageSay} (h:pageS n b=some P):(∀ x∈P.changes,x.val.length<256)∧P.changes.length≤255:=by
 unfold pageS at h
 split at h
 ·cases h
 ·split at h
  ·split at h
   ·cases h;exact ⟨getS_small _,getS_length _⟩
   ·cases h
  ·split at h
   ·split at h
    ·cases h;exact ⟨by simp,by simp⟩
    ·cases h
   ·cases h
theorem pagesS_small {c:Chip} {i:Nat} {P:PageSay} (h:P∈pagesS c i):(∀ x∈P.changes,x.val.length<256)∧P.changes.length≤255:=by
 unfold pagesS pagesTo at h
 obtain ⟨k,_,hk⟩:=List.mem_filterMap.1 h
 split at hk
 ·cases hk
 ·exact pageS_small hk
end Go.Den
