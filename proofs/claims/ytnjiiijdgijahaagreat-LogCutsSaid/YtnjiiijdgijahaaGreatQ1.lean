/- PRINTED by den.py: what the bodies of the Go functions come to. (Merged and shortened by program: Den DenOps DenQuiet DenQuiet2 DenEff DenCode DenSound Num Sh0 Sh1.) -/
import Derived.OrdersHeld
import Derived.Laws.Cells
import Derived.Laws.StructEq
import Derived.KernelRfl
import Derived.RangeFuncSeq
import Derived.Laws.Slices
import Derived.RangeFuncCalls
import Derived.OwnWalkIn
import Derived.Laws.IdiomStrings
import Derived.Laws.Append
import Derived.OrdersIn
import Derived.ControlIn
import Derived.RangeFuncLeaves
import Derived.RangeFuncRecord
import Derived.Test.YtnjiiijdgijahaaGreatProg
set_option linter.unusedVariables false
set_option linter.unusedSimpArgs false
set_option maxRecDepth 20000
namespace Go.Den
def vr2:Value→(Value→Prop)→Prop
 | .bool _,f=>∃ b:Bool,f (.bool b)
 | .int k _,f=>∃ n:Int,f (.int k n)
 | .string _,f=>∃ s:ByteArray,f (.string s)
 | .pointer none,f=>∃ p:Option Addr,f (.pointer p)
 | .pointer (some _),f=>∃ p:Addr,f (.pointer (some p))
 | .slice _ _ _,f=>∃ (a:Option Addr) (l c:Nat),f (.slice a l c)
 | .map _,f=>∃ m:Option Nat,f (.map m)
 | _,f=>∃ v:Value,f v
def vb2:List Value→(List Value→Prop)→Prop
 | [],f=>f []
 | z :: zs,f=>vr2 z fun v=>vb2 zs fun vs=>f (v :: vs)
def exCp:Value→(Value→Prop)→Prop
 | .agg cs,f=>vb2 cs.toList fun vs=>f (.agg vs.toArray)
 | z,f=>vr2 z f
def uu1:List Value→(List Value→Prop)→Prop
 | [],f=>f []
 | z :: zs,f=>exCp z fun v=>uu1 zs fun vs=>f (v :: vs)
def exSh:Value→(Value→Prop)→Prop
 | .tuple cs,f=>uu1 cs.toList fun vs=>f (.tuple vs.toArray)
 | z,f=>exCp z f
theorem xo2 {z:Value} {f:Value→Prop} (h:vr2 z f):∃ v,f v:=by
 cases z with
 | pointer p=>cases p<;>(simp only [vr2] at h;obtain ⟨x,h⟩:=h;exact ⟨_,h⟩)
 | _=>simp only [vr2] at h;first | exact h | (obtain ⟨x,h⟩:=h;exact ⟨_,h⟩) | (obtain ⟨x,y,c,h⟩:=h;exact ⟨_,h⟩)
theorem xs1 {zs:List Value}:∀ {f:List Value→Prop},vb2 zs f→∃ vs,vs.length=zs.length∧f vs:=by
 induction zs with
 | nil=>intro f h;exact ⟨[],rfl,h⟩
 | cons z zs ih =>
  intro f h
  obtain ⟨v,h⟩:=xo2 h
  obtain ⟨vs,hl,h⟩:=ih h
  exact ⟨v :: vs,by simp [hl],h⟩
theorem vj2 {z:Value} {f:Value→Prop} (h:exCp z f):∃ v,f v:=by
 cases z<;>simp only [exCp] at h<;>first | (obtain ⟨v,_,h⟩:=xs1 h;exact ⟨_,h⟩) | exact xo2 h
theorem uu0 {zs:List Value}:∀ {f:List Value→Prop},uu1 zs f→∃ vs,f vs:=by
 induction zs with
 | nil=>intro f h;exact ⟨[],h⟩
 | cons z zs ih =>
  intro f h
  obtain ⟨v,h⟩:=vj2 h
  obtain ⟨vs,h⟩:=ih h
  exact ⟨v :: vs,h⟩
theorem vj1 {z:Value} {f:Value→Prop} (h:exSh z f):∃ v,f v:=by
 cases z<;>simp only [exSh] at h<;>first | (obtain ⟨v,h⟩:=uu0 h;exact ⟨_,h⟩) | exact vj2 h
def xv4:Value→(Value→Prop)→Prop
 | .bool _,f=>∀ b:Bool,f (.bool b)
 | .int k _,f=>∀ n:Int,f (.int k n)
 | .string _,f=>∀ s:ByteArray,f (.string s)
 | .pointer none,f=>∀ p:Option Addr,f (.pointer p)
 | .pointer (some _),f=>∀ p:Addr,f (.pointer (some p))
 | .slice _ _ _,f=>∀ (a:Option Addr) (l c:Nat),f (.slice a l c)
 | .map _,f=>∀ m:Option Nat,f (.map m)
 | _,f=>∀ v:Value,f v
def xt4:List Value→(List Value→Prop)→Prop
 | [],f=>f []
 | z :: zs,f=>xv4 z fun v=>xt4 zs fun vs=>f (v :: vs)
def qk4:Value→(Value→Prop)→Prop
 | .agg cs,f=>xt4 cs.toList fun vs=>f (.agg vs.toArray)
 | z,f=>xv4 z f
def ug3:List Value→(List Value→Prop)→Prop
 | [],f=>f []
 | z :: zs,f=>qk4 z fun v=>ug3 zs fun vs=>f (v :: vs)
def un1 (R:Type):Value→Type
 | .bool _=>Bool→R
 | .int _ _=>Int→R
 | .string _=>ByteArray→R
 | .pointer none=>Option Addr→R
 | .pointer (some _)=>Addr→R
 | .slice _ _ _=>Option Addr→Nat→Nat→R
 | .map _=>Option Nat→R
 | _=>Value→R
def va7 (R:Type):List Value→Type
 | []=>R
 | z :: zs=>un1 (va7 R zs) z
def tyCp (R:Type):Value→Type
 | .agg cs=>va7 R cs.toList
 | z=>un1 R z
def uq2 (R:Type):List Value→Type
 | []=>R
 | z :: zs=>tyCp (uq2 R zs) z
def yb1 {R:Type}:(z:Value)→un1 R z→Value→Option R
 | .bool _,f,v=>match v with | .bool b=>some (f b) | _=>none
 | .int k _,f,v=>match v with | .int k' n=>if k'=k then some (f n) else none | _=>none
 | .string _,f,v=>match v with | .string b=>some (f b) | _=>none
 | .pointer none,f,v=>match v with | .pointer b=>some (f b) | _=>none
 | .pointer (some _),f,v=>match v with | .pointer (some b)=>some (f b) | _=>none
 | .slice _ _ _,f,v=>match v with | .slice a l c=>some (f a l c) | _=>none
 | .map _,f,v=>match v with | .map b=>some (f b) | _=>none
 | .float _ _,f,v=>some (f v)
 | .complex _ _ _,f,v=>some (f v)
 | .chan _,f,v=>some (f v)
 | .func _ _ _,f,v=>some (f v)
 | .nilFunc,f,v=>some (f v)
 | .iface _ _,f,v=>some (f v)
 | .nilIface,f,v=>some (f v)
 | .agg _,f,v=>some (f v)
 | .tuple _,f,v=>some (f v)
def yy5 {R:Type}:(zs:List Value)→va7 R zs→List Value→Option R
 | [],f,vs=>match vs with | []=>some f | _=>none
 | z :: zs,f,vs=>match vs with
  | []=>none
  | v :: vs=>match yb1 z f v with
   | some g=>yy5 zs g vs
   | none=>none
def qc0 {R:Type}:(z:Value)→tyCp R z→Value→Option R
 | .agg cs,f,v=>match v with | .agg vs=>yy5 cs.toList f vs.toList | _=>none
 | .bool x,f,v=>yb1 (.bool x) f v
 | .int k x,f,v=>yb1 (.int k x) f v
 | .string x,f,v=>yb1 (.string x) f v
 | .pointer x,f,v=>yb1 (.pointer x) f v
 | .slice a l c,f,v=>yb1 (.slice a l c) f v
 | .map x,f,v=>yb1 (.map x) f v
 | .float k b,f,v=>yb1 (.float k b) f v
 | .complex a b c,f,v=>yb1 (.complex a b c) f v
 | .chan c,f,v=>yb1 (.chan c) f v
 | .func a b c,f,v=>yb1 (.func a b c) f v
 | .nilFunc,f,v=>yb1 .nilFunc f v
 | .iface a b,f,v=>yb1 (.iface a b) f v
 | .nilIface,f,v=>yb1 .nilIface f v
 | .tuple a,f,v=>yb1 (.tuple a) f v
def yq3 {R:Type}:(zs:List Value)→uq2 R zs→List Value→Option R
 | [],f,vs=>match vs with | []=>some f | _=>none
 | z :: zs,f,vs=>match vs with
  | []=>none
  | v :: vs=>match qc0 z f v with
   | some g=>yq3 zs g vs
   | none=>none
def xn4:Option (World→Prop)→World→Prop
 | some p,w=>p w
 | none,_=>False
def uz0:Option (World→Nat)→World→Nat
 | some p,w=>p w
 | none,_=>0
theorem vk8 {R:Type} {z:Value} {F:Value→Prop} (h:xv4 z F) {f:un1 R z} {v:Value} {g:R} (ha:yb1 z f v=some g):F v:=by
 cases z with
 | pointer p =>
  cases p with
  | none =>
   simp only [yb1] at ha;simp only [xv4] at h
   cases v<;>first | exact h _ | cases ha
  | some p =>
   simp only [yb1] at ha;simp only [xv4] at h
   cases v with
   | pointer q=>cases q with
    | none=>cases ha
    | some q=>exact h q
   | _=>cases ha
 | _ =>
  simp only [yb1] at ha;simp only [xv4] at h
  first
  | exact h v
  |(cases v<;>first | exact h _ | exact h _ _ _ | (simp only [] at ha;split at ha<;>first | (rename_i e;subst e;exact h _) | cases ha) | cases ha)
theorem xt3 {R:Type}:∀ {zs:List Value} {F:List Value→Prop} (_:xt4 zs F) {f:va7 R zs} {vs:List Value} {g:R} (_:yy5 zs f vs=some g),F vs
 | [],F,h,f,vs,g,ha=>by
  cases vs with
  | nil=>exact h
  | cons v vs=>simp only [yy5] at ha;cases ha
 | z :: zs,F,h,f,vs,g,ha=>by
  cases vs with
  | nil=>simp only [yy5] at ha;cases ha
  | cons v vs =>
   simp only [yy5] at ha
   cases hv:yb1 z f v with
   | none=>simp only [hv] at ha;cases ha
   | some r=>simp only [hv] at ha;exact xt3 (vk8 (F:=fun v=>xt4 zs fun vs=>F (v :: vs)) h hv) ha
theorem qc2 {R:Type} {z:Value} {F:Value→Prop} (h:qk4 z F) {f:tyCp R z} {v:Value} {g:R} (ha:qc0 z f v=some g):F v:=by
 cases z with
 | agg cs =>
  simp only [qc0] at ha
  cases v<;>first | cases ha | (rename_i vs;have:=xt3 (R:=R) (F:=fun vs=>F (.agg vs.toArray)) h ha;simpa using this)
 | _=>simp only [qc0] at ha;simp only [qk4] at h;exact vk8 h ha
theorem xv5 {R:Type}:∀ {zs:List Value} {F:List Value→Prop} (_:ug3 zs F) {f:uq2 R zs} {vs:List Value} {g:R} (_:yq3 zs f vs=some g),F vs
 | [],F,h,f,vs,g,ha=>by
  cases vs with
  | nil=>exact h
  | cons v vs=>simp only [yq3] at ha;cases ha
 | z :: zs,F,h,f,vs,g,ha=>by
  cases vs with
  | nil=>simp only [yq3] at ha;cases ha
  | cons v vs =>
   simp only [yq3] at ha
   cases hv:qc0 z f v with
   | none=>simp only [hv] at ha;cases ha
   | some r=>simp only [hv] at ha;exact xv5 (qc2 (F:=fun v=>ug3 zs fun vs=>F (v :: vs)) h hv) ha
abbrev Env:=List (Nat×Value)
def Env.get:Env→Nat→Option Value
 | [],_=>none
 |(d,v) :: r,t=>if d=t then some v else Env.get r t
def EnvD (ds:List Deferred) (ε:Env) (a:Act):Prop:=a.defers=ds∧∀ t v,ε.get t=some v→a.tmps[t]?=some v
def ev (ε:Env):Operand→Option Value
 | .tmp t=>ε.get t
 | .const v=>some v
 | .global g=>some (.pointer (some ⟨g,0,none⟩))
 | .func f=>some (.func (.func f) #[] #[])
theorem EnvD.eval {ds:List Deferred} {ε:Env} {a:Act} (h:EnvD ds ε a) {x:Operand} {v:Value} (hx:ev ε x=some v):a.eval x=v:=by
 cases x<;>simp only [ev] at hx
 case tmp t=>have:=h.2 t v hx;simp [Act.eval,this]
 all_goals (cases hx;rfl)
theorem EnvD.put {ds:List Deferred} {ε:Env} {a:Act} (h:EnvD ds ε a) {d:Nat} (hd:d<a.tmps.size) (v:Value):EnvD ds ((d,v) :: ε) (a.put (some d) v):=by
 refine ⟨h.1,fun t u hu=>?_⟩
 simp only [Env.get] at hu
 simp only [Act.put,Array.getElem?_setIfInBounds]
 split at hu
 ·rename_i e;subst e;cases hu;simp [hd]
 ·rename_i e;rw [if_neg e];exact h.2 t u hu
def getL (ε:Env):List Nat→Option (List Value)
 | []=>some []
 | t :: ts=>match ε.get t with
  | some v=>match getL ε ts with
   | some vs=>some (v :: vs)
   | none=>none
  | none=>none
def Env.keep (ε:Env):List Nat→Env
 | []=>[]
 | t :: ts=>match ε.get t with
  | some v=>(t,v) :: Env.keep ε ts
  | none=>Env.keep ε ts
def Env.laid:List Nat→List Value→Env→Env
 | t :: ts,v :: vs,ε=>(t,v) :: Env.laid ts vs ε
 | _,_,ε=>ε
def za3 (w:World) (a:Addr):List Value→Nat→Prop
 | [],_=>True
 | v :: vs,i=>w.cell? (a.add i)=some v∧za3 w a vs (i+1)
def zy1 (cur:Array Value) (off:Nat) (vs:List Value):Array Value:=(cur.toList.take off ++ vs ++ cur.toList.drop (off+vs.length)).toArray
def yq0 (w:World) (b:Nat) (o:Obj):World:={ w with heap:=w.heap.setIfInBounds b o }
structure New (w:World) (o:Obj) (b:Nat) (w':World):Prop where
 num:b=w.heap.size
 eq:w'=w.alloc o
structure Put (w:World) (b:Nat) (o:Obj) (w':World):Prop where
 lt:b<w.heap.size
 eq:w'=yq0 w b o
 was:∃ cs T fr,w.heap[b]?=some (.cells cs T fr)
structure Drew (w w':World):Prop where
 eq:w'=w.drew
def za5 (w:World) (a:Addr) (vs:List Value) (K:World→Prop):Prop :=
 a.spot=none∧∃ cur T fr,w.heap[a.block]?=some (.cells cur T fr)∧a.off+vs.length≤cur.size∧(fr.2≤a.off∨a.off+vs.length≤fr.1)∧
  ∀ w',Put w a.block (.cells (zy1 cur a.off vs) T fr) w'→K w'
def yl1 (P:Program) (t:TypeId):Option Value :=
 match P.info? t with
 | some i=>match i.zero with
  | some z=>if z.cells.size=i.size then some z else none
  | none=>none
 | none=>none
def vq6 (P:Program) (t:TypeId):Option Bool :=
 match P.underlying t with
 | some (.struct _)=>some true
 | some (.array _ _)=>some true
 | some _=>some false
 | none=>none
def yj0 (P:Program) (t:TypeId):Option Nat :=
 match P.info? t with
 | some i=>some i.size
 | none=>none
def xy4 (P:Program) (t:TypeId):Option Nat :=
 match P.info? t with
 | some i=>some i.bytes
 | none=>none
def qf0 (P:Program) (t:TypeId) (a:Addr) (C:(World→Prop)→Prop) (K:Value→Prop):Prop :=
 match yl1 P t,vq6 P t with
 | some (.agg cs),some true=>vb2 cs.toList fun vs=>C (fun w=>za3 w a vs 0)∧K (.agg vs.toArray)
 | some z,some false=>vr2 z fun v=>C (fun w=>w.cell? a=some v)∧K v
 | _,_=>False
def nilC (p:Option Addr) (K:Addr→Prop):Prop :=
 match p with
 | some a=>K a
 | none=>False
def idxP (base:Option Addr) (len:Nat) (i:Int) (size:Nat) (K:Addr→Prop):Prop :=
 0≤i∧i<len∧nilC base fun a=>K (a.add (i.toNat * size))
def vu2 (P:Program) (t:TypeId) (cs:List Value) (off:Nat):Option Value :=
 match vq6 P t,yj0 P t with
 | some true,some n=>if off+n≤cs.length then some (.agg ((cs.drop off).take n).toArray) else none
 | some false,_=>cs[off]?
 | _,_=>none
def vi3 (P:Program) (t:TypeId) (f:Nat):Option Field :=
 match P.underlying t with
 | some (.struct fs)=>fs.toList[f]?
 | _=>none
def eqB:Value→Value→Option Bool
 | .bool a,.bool b=>some (a == b)
 | _,_=>none
def eqI:Value→Value→Option Bool
 | .int k a,.int k' b=>if k=k' then some (a == b) else none
 | _,_=>none
def eqS:Value→Value→Option Bool
 | .string a,.string b=>some (a.toList == b.toList)
 | _,_=>none
def qk5:Value→Option (Array Value)
 | .agg cs=>some cs
 | _=>none
def eqGo (P:Program) (rec:TypeId→Value→Value→Option Bool) (xs ys:List Value):List Field→Option Bool
 | []=>some true
 | f :: fs=>if f.name= "_" then none else
  match vu2 P f.type xs f.offset,vu2 P f.type ys f.offset with
  | some a,some b=>match rec f.type a b,eqGo P rec xs ys fs with
   | some r,some q=>some (r && q)
   | _,_=>none
  | _,_=>none
def eqV (P:Program):Nat→TypeId→Value→Value→Option Bool
 | 0,_,_,_=>none
 | d+1,t,x,y=>match P.underlying t with
  | some .bool=>eqB x y
  | some (.int _)=>eqI x y
  | some .string=>eqS x y
  | some (.struct fs)=>match qk5 x,qk5 y with
   | some xs,some ys=>if P.stoodInHeld t then none else eqGo P (eqV P d) xs.toList ys.toList fs.toList
   | _,_=>none
  | _=>none
def qj2 (op:BinOp) (k:IntKind) (a b:Int) (K:Value→Prop):Prop :=
 match op with
 | .add=>K (.int k (k.wrap (a+b)))
 | .sub=>K (.int k (k.wrap (a - b)))
 | .mul=>K (.int k (k.wrap (a * b)))
 | .quo=>b≠0∧K (.int k (k.wrap (a.tdiv b)))
 | .rem=>b≠0∧K (.int k (a.tmod b))
 | .and=>K (.int k (k.wrap ((BitVec.ofInt k.bits a &&& BitVec.ofInt k.bits b).toNat)))
 | .or=>K (.int k (k.wrap ((BitVec.ofInt k.bits a ||| BitVec.ofInt k.bits b).toNat)))
 | .xor=>K (.int k (k.wrap ((BitVec.ofInt k.bits a ^^^ BitVec.ofInt k.bits b).toNat)))
 | .andNot=>K (.int k (k.wrap ((BitVec.ofInt k.bits a &&& ~~~ BitVec.ofInt k.bits b).toNat)))
 | .eql=>K (.bool (a == b))
 | .neq=>K (.bool (a != b))
 | .lss=>K (.bool (decide (a<b)))
 | .leq=>K (.bool (decide (a≤b)))
 | .gtr=>K (.bool (decide (a > b)))
 | .geq=>K (.bool (decide (a≥b)))
 | .shl=>False
 | .shr=>False
def shlV (k:IntKind) (a b:Int):Value:=.int k (k.wrap (a * 2 ^ (min b.toNat k.bits)))
def shrV (k:IntKind) (a b:Int):Value:=.int k (a.fdiv (2 ^ (min b.toNat k.bits)))
def qi1 (op:BinOp) (a b:ByteArray) (K:Value→Prop):Prop :=
 match op with
 | .add=>a.size+b.size≤9223372036854775807∧K (.string (a ++ b))
 | .eql=>K (.bool (a.toList == b.toList))
 | .neq=>K (.bool (!(a.toList == b.toList)))
 | .lss=>K (.bool (Op.bytesLess a.toList b.toList))
 | .leq=>K (.bool (Op.bytesLess a.toList b.toList || a.toList == b.toList))
 | .gtr=>K (.bool (!(Op.bytesLess a.toList b.toList || a.toList == b.toList)))
 | .geq=>K (.bool (!(Op.bytesLess a.toList b.toList)))
 | _=>False
def ur0 (p q:Option Addr) (K:Bool→Prop):Prop :=
 match q with
 | none=>K p.isNone
 | some b=>match p with
  | none=>K false
  | some a=>a.block=b.block∧K (a == b)
def binP (P:Program) (op:BinOp) (t:TypeId) (x y:Value) (K:Value→Prop):Prop :=
 match op with
 | .shl=>match x,y with | .int k a,.int _ b=>0≤b∧K (shlV k a b) | _,_=>False
 | .shr=>match x,y with | .int k a,.int _ b=>0≤b∧K (shrV k a b) | _,_=>False
 | op=>match x,y with
  | .int k a,.int k' b=>if k=k' then qj2 op k a b K else False
  | .string a,.string b=>qi1 op a b K
  | .bool a,.bool b=>match P.underlying t with
   | some .bool=>match op with | .eql=>K (.bool (a == b)) | .neq=>K (.bool (!(a == b))) | _=>False
   | _=>False
  | .pointer p,.pointer q=>match P.underlying t with
   | some (.pointer e)=>match yj0 P e with
    | some (_+1)=>match op with | .eql=>ur0 p q fun b=>K (.bool b) | .neq=>ur0 p q fun b=>K (.bool (!b)) | _=>False
    | _=>False
   | _=>False
  | .slice a _ _,.slice none _ _=>match P.underlying t with
   | some (.slice _)=>match op with | .eql=>K (.bool a.isNone) | .neq=>K (.bool (!a.isNone)) | _=>False
   | _=>False
  | .agg xs,.agg ys=>if P.eqGuardType P.depth t then False else match eqV P 9 t (.agg xs) (.agg ys) with
   | some b=>match op with | .eql=>K (.bool b) | .neq=>K (.bool (!b)) | _=>False
   | none=>False
  | _,_=>False
def zi0 (size:Nat) (base:Option Addr) (len cap:Nat) (lo hi mx:Option Int) (K:Option Addr→Nat→Nat→Prop):Prop :=
 0≤mx.getD cap∧mx.getD cap≤cap∧0≤hi.getD len∧hi.getD len≤mx.getD cap∧0≤lo.getD 0∧lo.getD 0≤hi.getD len∧(mx.isSome=true→hi.isSome=true)∧
  K (if (mx.getD cap).toNat=(lo.getD 0).toNat then base else base.map (·.add ((lo.getD 0).toNat * size)))
   ((hi.getD len).toNat - (lo.getD 0).toNat) ((mx.getD cap).toNat - (lo.getD 0).toNat)
def yl2 (ε:Env):Option Operand→Option (Option Int)
 | none=>some none
 | some x=>match ev ε x with
  | some (.int _ n)=>some (some n)
  | _=>none
def uk7 (place:Nat→Option (Nat×Nat)) (cells:List Value):List (Nat×Value)→Option (List Value)
 | []=>some cells
 |(i,v) :: rest=>match place i with
  | none=>none
  | some (off,size)=>if v.cells.toList.length=size∧off+size≤cells.length then
    uk7 place (cells.take off ++ v.cells.toList ++ cells.drop (off+size)) rest else none
def xo3 (ε:Env):List (Nat×Operand)→Option (List (Nat×Value))
 | []=>some []
 |(i,x) :: r=>match ev ε x with
  | some v=>match xo3 ε r with
   | some vs=>some ((i,v) :: vs)
   | none=>none
  | none=>none
def evs (ε:Env):List Operand→Option (List Value)
 | []=>some []
 | x :: r=>match ev ε x with
  | some v=>match evs ε r with
   | some vs=>some (v :: vs)
   | none=>none
  | none=>none
def yo1 (P:Program) (fs:List Field):Option (List (Nat×Nat)) :=
 match fs with
 | []=>some []
 | f :: r=>match yj0 P f.type,yo1 P r with
  | some n,some l=>some ((f.offset,n) :: l)
  | _,_=>none
def qb6 (P:Program) (t:TypeId) (parts:List (Nat×Value)):Option Value :=
 match yl1 P t,P.underlying t with
 | some z,some (.struct fs)=>match yo1 P fs.toList with
  | some ps=>match uk7 (fun i=>ps[i]?) z.cells.toList parts with
   | some cs=>some (.agg cs.toArray)
   | none=>none
  | none=>none
 | some z,some (.array _ e)=>match yj0 P e with
  | some n=>match uk7 (fun i=>some (i * n,n)) z.cells.toList parts with
   | some cs=>some (.agg cs.toArray)
   | none=>none
  | none=>none
 | _,_=>none
def ui8 (P:Program) (e:TypeId) (cs:List Value) (size:Nat) (n:Int) (K:Value→Prop):Nat→Prop
 | 0=>True
 | j+1=>ui8 P e cs size n K j∧(n=(j:Nat)→match vu2 P e cs (j * size) with
  | some v=>K v
  | none=>False)
def xf4 (P:Program):Op→Bool
 | .move _ | .assign _ | .pick .. | .nilCheck _ | .binOp .. | .unOp .. | .makeFunc .. | .extract .. | .makeInterface .. | .fieldAddr .. | .field ..
 | .indexAddr .. | .index .. | .slice .. | .build .. | .load ..=>true
 | .convert src dst _=>match P.underlying src,P.underlying dst with
  | some (.int _),some (.int _)=>true
  | some .string,some .string=>true
  | _,_=>false
 | .call c=>match c.callee with
  | .builtin .len | .builtin .cap | .builtin .max | .builtin .min=>true
  | _=>false
 | _=>false
def yf8 (P:Program) (C:(World→Prop)→Prop) (o:Op) (ε:Env) (K:Value→Prop):Prop :=
 match o with
 | .move x=>match ev ε x with | some v=>K v | none=>False
 | .assign x=>match ev ε x with | some v=>K v | none=>False
 | .pick c x y=>match ev ε c,ev ε x,ev ε y with
  | some (.bool t),some (.bool a),some (.bool b)=>K (.bool (cond t a b))
  | some (.bool t),some a,some b=>match t with | true=>K a | false=>K b
  | _,_,_=>False
 | .nilCheck x=>match ev ε x with
  | some (.pointer p)=>nilC p fun a=>K (.pointer (some a))
  | some (.func (.func f) b c)=>K (.func (.func f) b c)
  | _=>False
 | .binOp op t x y _=>match ev ε x,ev ε y with
  | some a,some b=>binP P op t a b K
  | _,_=>False
 | .unOp op _ x=>match op,ev ε x with
  | .not,some (.bool b)=>K (.bool (!b))
  | .neg,some (.int k n)=>K (.int k (k.wrap (0 - n)))
  | .xor,some (.int k n)=>K (.int k (k.wrap ((BitVec.ofInt k.bits (if k.signed then -1 else k.max) ^^^ BitVec.ofInt k.bits n).toNat)))
  | _,_=>False
 | .makeFunc fn first captured=>match evs ε first.toList,evs ε captured.toList with
  | some a,some b=>K (.func fn a.toArray b.toArray)
  | _,_=>False
 | .extract x i=>match ev ε x with
  | some (.tuple vs)=>match vs.toList[i]? with | some v=>K v | none=>False
  | _=>False
 | .makeInterface t x=>match P.underlying t,ev ε x with
  | some (.interface _),_=>False
  | some _,some v=>K (.iface t v)
  | _,_=>False
 | .fieldAddr t x f=>match ev ε x,vi3 P t f with
  | some (.pointer (some a)),some fld=>match yj0 P fld.type with
   | some (_+1)=>K (.pointer (some (a.add fld.offset)))
   | _=>False
  | _,_=>False
 | .field t x f=>match ev ε x,vi3 P t f with
  | some (.agg cs),some fld=>match vu2 P fld.type cs.toList fld.offset with
   | some v=>K v
   | none=>False
  | _,_=>False
 | .indexAddr t x i=>match ev ε x,ev ε i,P.underlying t with
  | some (.slice base len _),some (.int _ n),some (.slice e)=>match yj0 P e with
   | some size=>idxP base len n size fun a=>K (.pointer (some a))
   | none=>False
  | some (.pointer (some a)),some (.int _ n),some (.array len e)=>match yj0 P e with
   | some size=>0≤n∧n<len∧K (.pointer (some (a.add (n.toNat * size))))
   | none=>False
  | _,_,_=>False
 | .index t x i=>match ev ε x,ev ε i,P.underlying t with
  | some (.agg cs),some (.int _ n),some (.array len e)=>match yj0 P e with
   | some size=>0≤n∧n<len∧match i with
    | .const _=>(match vu2 P e cs.toList (n.toNat * size) with
     | some v=>K v
     | none=>False)
    | _=>ui8 P e cs.toList size n K len
   | none=>False
  | some (.string s),some (.int _ n),some .string=>0≤n∧∃ b:UInt8,s.data.toList[n.toNat]?=some b∧K (.int .u8 b.toNat)
  | _,_,_=>False
 | .slice t x lo hi mx=>match ev ε x,P.underlying t,yl2 ε lo,yl2 ε hi,yl2 ε mx with
  | some (.slice base len cap),some (.slice e),some l,some h,some m=>match yj0 P e with
   | some size=>zi0 size base len cap l h m fun a l c=>K (.slice a l c)
   | none=>False
  | some (.pointer (some a)),some (.array n e),some l,some h,some m=>match yj0 P e with
   | some size=>zi0 size (some a) n n l h m fun a l c=>K (.slice a l c)
   | none=>False
  | some (.string s),some .string,some l,some h,some none =>
   0≤h.getD s.size∧h.getD s.size≤s.size∧0≤l.getD 0∧l.getD 0≤h.getD s.size∧K (.string (s.extract (l.getD 0).toNat (h.getD s.size).toNat))
  | _,_,_,_,_=>False
 | .build t parts=>match xo3 ε parts.toList with
  | some ps=>match qb6 P t ps with
   | some v=>K v
   | none=>False
  | none=>False
 | .load t x=>match ev ε x with
  | some (.pointer (some a))=>qf0 P t a C K
  | _=>False
 | .convert src dst x=>match P.underlying src,P.underlying dst,ev ε x with
  | some (.int _),some (.int k),some (.int _ n)=>K (.int k (k.wrap n))
  | some .string,some .string,some (.string s)=>K (.string s)
  | _,_,_=>False
 | .call c=>match c.callee,evs ε c.args.toList,c.argTypes.toList with
  | .builtin .len,some [v],[t]=>match P.underlying t,v with
   | some .string,.string s=>K (.int .i64 s.size)
   | some (.slice _),.slice _ n _=>K (.int .i64 n)
   | some (.array n _),_=>K (.int .i64 n)
   | _,_=>False
  | .builtin .cap,some [v],[t]=>match P.underlying t,v with
   | some (.slice _),.slice _ _ n=>K (.int .i64 n)
   | _,_=>False
  | .builtin .max,some [.int k a,.int _ b],_=>K (.int k (if b > a then b else a))
  | .builtin .min,some [.int k a,.int _ b],_=>K (.int k (if b<a then b else a))
  | _,_,_=>False
 | _=>False
def za0 (P:Program) (f:FuncId) (args:Array Value) (w:World) (R:Value→World→Prop):Prop :=
 Calls P f args w fun e w'=>∃ v,e= .returned v∧R v w'
def xn5 (P:Program) (f:FuncId):Bool :=
 match P.funcs[f]? with
 | some fn=>fn.body.isSome && !(fn.name == "runtime.NumGoroutine")
 | none=>false
def qj9 (P:Program) (f:FuncId) (args:List Value) (z:Option Value) (w:World) (K:Value→World→Prop):Prop :=
 match z with
 | some z=>za0 P f args.toArray w fun v w'=>exSh z fun u=>v=u∧K u w'
 | none=>za0 P f args.toArray w K
def extV (P:Program) (f:FuncId) (args:List Value) (w:World) (v:Value):Prop:=(callFunc f args.toArray).run P w= .ok (.value v) w
def Free (F:Fence):Prop:=F=Fence.wide∨∃ l,F=Fence.wide.inRound l
def vb9 (P:Program) (l:Nat) (args:List Value) (w:World) (R:Value→World→Prop):Prop :=
 ∀ (F:Fence) (n:Nat),Free F→YieldAt F n P l args.toArray w fun e w'=>∃ v,e= .returned v∧R v w'
def qn1 (P:Program) (v:Value) (args:List Value) (z:Option Value) (w:World) (K:Value→World→Prop):Prop :=
 match v with
 | .func (.func f) first captured=>xn5 P f=true∧qj9 P f (first.toList ++ args ++ captured.toList) z w K
 | .func (.yield l) first captured=>first.toList=[]∧captured.toList=[]∧vb9 P l args w fun v w'=>match z with
  | some z=>exSh z fun u=>v=u∧K u w'
  | none=>K v w'
 | _=>False
def xe2 (w:World) (size:Nat) (x:Value) (n:Nat) (vs:List Value):Prop :=
 match x with
 | .slice (some a) _ _=>vs.length=n * size∧za3 w a vs 0
 | .slice none _ _=>vs=[]
 | .string s=>vs=((s.extract 0 n).data.toList.map fun b=>Value.int .u8 b.toNat)
 | _=>False
def lenV:Value→Option Nat
 | .slice _ n _=>some n
 | .string s=>some s.size
 | _=>none
def zs8 (z:List Value):Nat→List Value
 | 0=>[]
 | n+1=>z ++ zs8 z n
def zb5 (e:TypeId) (size bytes:Nat) (z:List Value) (base:Option Addr) (sLen sCap:Nat) (x:Value) (w:World) (K:Option Addr→Nat→Nat→World→Prop):Prop :=
 ∃ n,lenV x=some n∧∃ new,xe2 w size x n new∧(∀ v∈new,v.oneCell'=true)∧
  (sLen+n≤sCap→(match base with
   | some a=>za5 w (a.add (sLen * size)) new fun w'=>K (some a) (sLen+n) sCap w'
   | none=>K none (sLen+n) sCap w))∧
  (sCap<sLen+n→sLen+n<9223372036854775808∧Builtin.nextslicecap (sLen+n) sCap * bytes≤2 ^ 48∧∃ old,xe2 w size (.slice base sLen sCap) sLen old∧
   ∀ cap b w',sLen+n≤cap→New w.drew (.cells (old ++ new ++ zs8 z (cap - (sLen+n))).toArray e) b w'→K (some ⟨b,0,none⟩) (sLen+n) cap w')
def vx2 (e:TypeId) (size bytes:Nat) (z:List Value) (base:Option Addr) (sLen sCap:Nat) (m:Int) (w:World) (K:Option Addr→Nat→Nat→World→Prop):Prop :=
 0≤m∧m<9223372036854775808∧m * bytes≤2 ^ 48∧(∀ v∈z,v.oneCell'=true)∧z.length=size∧
  (sLen+m.toNat≤sCap→(match base with
   | some a=>za5 w (a.add (sLen * size)) (zs8 z m.toNat) fun w'=>K (some a) (sLen+m.toNat) sCap w'
   | none=>K none (sLen+m.toNat) sCap w))∧
  (sCap<sLen+m.toNat→sLen+m.toNat<9223372036854775808∧Builtin.nextslicecap (sLen+m.toNat) sCap * bytes≤2 ^ 48∧∃ old,xe2 w size (.slice base sLen sCap) sLen old∧
   ∀ cap b w',sLen+m.toNat≤cap→New w.drew (.cells (old ++ zs8 z m.toNat ++ zs8 z (cap - (sLen+m.toNat))).toArray e) b w'→K (some ⟨b,0,none⟩) (sLen+m.toNat) cap w')
def xg5 (size:Nat) (base:Option Addr) (dLen:Nat) (x:Value) (w:World) (K:Int→World→Prop):Prop :=
 ∃ n,lenV x=some n∧∃ new,xe2 w size x (min n dLen) new∧(∀ v∈new,v.oneCell'=true)∧
  match base with
  | some a=>za5 w a new fun w'=>K (min n dLen:Nat) w'
  | none=>K (min n dLen:Nat) w
def ym4 (e:TypeId) (size bytes:Nat) (z:List Value) (len cap:Int) (w:World) (K:Option Addr→Nat→Nat→World→Prop):Prop :=
 0≤len∧len≤cap∧cap<9223372036854775808∧bytes * cap≤2 ^ 48∧z.length=size∧
  ∀ b w',New w (.cells (zs8 z cap.toNat).toArray e) b w'→K (some ⟨b,0,none⟩) len.toNat cap.toNat w'
def up4 (z:List Value) (base:Option Addr) (len:Nat) (w:World) (K:World→Prop):Prop :=
 match base,len with
 | none,_=>K w
 | some _,0=>K w
 | some a,n+1=>(∀ v∈zs8 z (n+1),v.oneCell'=true)∧za5 w a (zs8 z (n+1)) K
def up5 (e:TypeId) (s:ByteArray) (w:World) (K:Option Addr→Nat→Nat→World→Prop):Prop :=
 ∀ (cap b:Nat) (w':World),s.size≤cap→New w.drew (.cells (s.data.toList.map (fun x:UInt8=>Value.int .u8 (x.toNat:Int)) ++ List.replicate (cap - s.size) (Value.int .u8 0)).toArray e (cap,cap+1)) b w'→K (some ⟨b,0,none⟩) s.size cap w'
def vo4 (w:World) (base:Option Addr) (len:Nat) (K:ByteArray→Prop):Prop :=
 match base with
 | none=>K ByteArray.empty
 | some a=>∃ l:List UInt8,l.length=len∧za3 w a (l.map fun x=>Value.int .u8 (x.toNat:Int)) 0∧K ⟨l.toArray⟩
def effP (P:Program) (o:Oper) (ε:Env) (w:World) (K:Value→World→Prop):Prop :=
 match o.op with
 | .alloc e=>match yl1 P e with
  | some z=>∀ b w',New w (.cells z.cells.toList.toArray e) b w'→K (.pointer (some ⟨b,0,none⟩)) w'
  | none=>False
 | .box e x=>match ev ε x with
  | some v=>∀ b w',New w (.cells v.cells.toList.toArray e) b w'→K (.pointer (some ⟨b,0,none⟩)) w'
  | none=>False
 | .buildSlice t len parts=>match P.underlying t,xo3 ε parts.toList with
  | some (.slice e),some ps=>match yl1 P e,yj0 P e with
   | some z,some size=>if len * size > 2 ^ 24 then False else match uk7 (fun i=>some (i * size,size)) (zs8 z.cells.toList len) ps with
    | some cs=>∀ b w',New w (.cells cs.toArray e) b w'→K (.slice (some ⟨b,0,none⟩) len len) w'
    | none=>False
   | _,_=>False
  | _,_=>False
 | .store t a x=>match ev ε a,ev ε x,yj0 P t with
  | some (.pointer (some a)),some v,some n=>if v.cells.toList.length=n∧v.cells.toList.all (·.oneCell')=true then za5 w a v.cells.toList (K undef) else False
  | _,_,_=>False
 | .convert src dst x=>match P.underlying src,P.underlying dst,ev ε x with
  | some (.slice e),some .string,some (.slice base len _)=>match P.underlying e with
   | some (.int .u8)=>vo4 w base len fun s=>K (.string s) w
   | _=>False
  | some .string,some (.slice e),some (.string s)=>match P.underlying e with
   | some (.int .u8)=>up5 e s w fun a l c w'=>K (.slice a l c) w'
   | _=>False
  | _,_,_=>False
 | .makeSlice t l c=>match P.underlying t,ev ε l,ev ε c with
  | some (.slice e),some (.int _ len),some (.int _ cap)=>match yl1 P e,yj0 P e,xy4 P e with
   | some z,some size,some bytes=>ym4 e size bytes z.cells.toList len cap w fun a l c=>K (.slice a l c)
   | _,_,_=>False
  | _,_,_=>False
 | .call c=>match c.callee,evs ε c.args.toList with
  | .value (.func f),some args=>if xn5 P f then qj9 P f args (yl1 P o.type) w K else match yl1 P o.type with
   | some z=>exSh z fun v=>extV P f args w v∧K v w
   | none=>False
  | .value x,some args=>match ev ε x with
   | some v=>qn1 P v args (yl1 P o.type) w K
   | none=>False
  | .builtin .append,some [.slice base l cp,x]=>match c.argTypes.toList with
   | [t,u]=>match P.underlying t,P.underlying u with
    | some (.slice e),some d=>match yl1 P e,yj0 P e,xy4 P e,d with
     | some z,some size,some bytes,.slice _=>zb5 e size bytes z.cells.toList base l cp x w fun a l c=>K (.slice a l c)
     | some z,some size,some bytes,.string=>zb5 e size bytes z.cells.toList base l cp x w fun a l c=>K (.slice a l c)
     | some z,some size,some bytes,.int _=>match x with
      | .int _ m=>vx2 e size bytes z.cells.toList base l cp m w fun a l c=>K (.slice a l c)
      | _=>False
     | _,_,_,_=>False
    | _,_=>False
   | _=>False
  | .builtin .copy,some [.slice base l _,x]=>match c.argTypes.toList with
   | t :: _=>match P.underlying t with
    | some (.slice e)=>match yj0 P e with
     | some size=>xg5 size base l x w fun n=>K (.int .i64 n)
     | none=>False
    | _=>False
   | _=>False
  | .builtin .clear,some [.slice base l _]=>match c.argTypes.toList with
   | t :: _=>match P.underlying t with
    | some (.slice e)=>match yl1 P e with
     | some z=>up4 z.cells.toList base l w fun w'=>K (.tuple #[]) w'
     | none=>False
    | _=>False
   | _=>False
  | _,_=>False
 | _=>False
section
variable {P:Program} {ds:List Deferred}
theorem za7 {t:TypeId} {d:TypeDesc} (h:P.underlying t=some d) (w:World):(underlying t).run P w= .ok d w:=by
 simp [underlying,h]
theorem zg5 {t:TypeId} {n:Nat} (h:yj0 P t=some n) (w:World):(sizeOf t).run P w= .ok n w:=by
 unfold yj0 at h
 cases hi:P.info? t with
 | none=>simp [hi] at h
 | some i=>simp [hi] at h;simp [sizeOf,typeInfo,hi,h]
theorem zv5 {t:TypeId} {z:Value} (h:yl1 P t=some z) (w:World):(zeroValue t).run P w= .ok z w:=by
 unfold yl1 at h
 cases hi:P.info? t with
 | none=>simp [hi] at h
 | some i =>
  simp [hi] at h
  cases hz:i.zero with
  | none=>simp [hz] at h
  | some z'=>simp [hz] at h;simp [zeroValue,typeInfo,hi,hz,h]
theorem vb8 {t:TypeId} {z:Value} (h:yl1 P t=some z):yj0 P t=some z.cells.size:=by
 unfold yl1 at h;unfold yj0
 cases hi:P.info? t with
 | none=>simp [hi] at h
 | some i =>
  simp [hi] at h
  cases hz:i.zero with
  | none=>simp [hz] at h
  | some z'=>simp [hz] at h;obtain ⟨h,rfl⟩:=h;simp [h]
theorem xi4 {t:TypeId} {b:Bool} (h:vq6 P t=some b) (w:World):(isAgg t).run P w= .ok b w:=by
 unfold vq6 at h
 cases hd:P.underlying t with
 | none=>simp [hd] at h
 | some d=>cases d<;>simp [hd] at h<;>subst h<;>simp [isAgg,za7 hd]
theorem xb2 {w:World} {a:Addr}:∀ {vs:List Value} {i:Nat},za3 w a vs i→∀ j v,vs[j]?=some v→w.cell? (a.add (i+j))=some v
 | [],_,_,j,v,h=>by simp at h
 | u :: vs,i,h,j,v,hj=>by
  cases j with
  | zero=>simp at hj;subst hj;exact h.1
  | succ j=>simp at hj;have:=xb2 h.2 j v hj;rwa [show i+(j+1)=i+1+j by omega]
theorem xz1 {t:TypeId} (h:vq6 P t=some false) {a:Addr} {v:Value} {w:World} (hc:w.cell? a=some v):(loadVar t a).run P w= .ok v w:=by
 simp [loadVar,xi4 h,hc]
theorem vd4 {t:TypeId} (h:vq6 P t=some true) {a:Addr} {vs:List Value} (hn:yj0 P t=some vs.length) {w:World} (hc:za3 w a vs 0) :
  (loadVar t a).run P w= .ok (.agg vs.toArray) w:=by
 simp [loadVar,xi4 h,zg5 hn,run_loadCells_list w a vs (fun j v hj=>by simpa using xb2 hc j v hj)]
theorem vq2 {C:(World→Prop)→Prop} (hC:∀ φ ψ:World→Prop,(∀ w,φ w→ψ w)→C φ→C ψ) {t:TypeId} {a:Addr} {K:Value→Prop} (h:qf0 P t a C K) :
  ∃ v,K v∧C fun w=>(loadVar t a).run P w= .ok v w:=by
 unfold qf0 at h
 split at h
 ·rename_i cs hz ha
  obtain ⟨vs,hl,hc,hk⟩:=xs1 h
  have hs:=vb8 hz
  simp only [Value.cells] at hs
  exact ⟨_,hk,hC _ _ (fun w hw=>vd4 ha (by rw [hs,hl];simp) hw) hc⟩
 ·rename_i ha
  obtain ⟨v,hc,hk⟩:=xo2 h
  exact ⟨v,hk,hC _ _ (fun w hw=>xz1 ha hw) hc⟩
 ·exact h.elim
theorem va9 {t:TypeId} {cs:Array Value} {off:Nat} {v:Value} (h:vu2 P t cs.toList off=some v) (w:World):(part t cs off).run P w= .ok v w:=by
 unfold vu2 at h
 split at h
 ·rename_i n ha hn
  split at h
  ·cases h
   simp only [part,Sem.run_bind,xi4 ha,Result.andThen_ok,if_true,zg5 hn]
   simp only [Sem.run_pure]
   congr 2
   apply Array.ext'
   simp [Array.toList_extract,List.take_drop,Nat.add_comm]
  ·cases h
 ·rename_i ha
  rw [Array.getElem?_toList] at h
  simp [part,xi4 ha,h]
 ·cases h
theorem ue3 {ε:Env} {a:Act} (hε:EnvD ds ε a):∀ {xs:List Operand} {vs:List Value},evs ε xs=some vs→xs.map a.eval=vs
 | [],vs,h=>by simp [evs] at h;simp [h]
 | x :: xs,vs,h=>by
  simp only [evs] at h
  cases hx:ev ε x with
  | none=>simp [hx] at h
  | some v =>
   simp only [hx] at h
   cases hr:evs ε xs with
   | none=>simp [hr] at h
   | some us=>simp only [hr] at h;cases h;simp [hε.eval hx,ue3 hε hr]
theorem yc9 {ε:Env} {a:Act} (hε:EnvD ds ε a) {xs:Array Operand} {vs:List Value} (h:evs ε xs.toList=some vs):xs.map a.eval=vs.toArray:=by
 apply Array.ext'
 simp [ue3 hε h]
theorem xa9 {ε:Env} {a:Act} (hε:EnvD ds ε a):∀ {xs:List (Nat×Operand)} {vs:List (Nat×Value)},xo3 ε xs=some vs→xs.map (fun x=>(x.1,a.eval x.2))=vs
 | [],vs,h=>by simp [xo3] at h;simp [h]
 |(i,x) :: xs,vs,h=>by
  simp only [xo3] at h
  cases hx:ev ε x with
  | none=>simp [hx] at h
  | some v =>
   simp only [hx] at h
   cases hr:xo3 ε xs with
   | none=>simp [hr] at h
   | some us=>simp only [hr] at h;cases h;simp [hε.eval hx,xa9 hε hr]
theorem yt8 {ε:Env} {a:Act} (hε:EnvD ds ε a) {x:Option Operand} {n:Option Int} (h:yl2 ε x=some n) :
  (n=none∧x=none)∨∃ k m y,n=some m∧x=some y∧a.eval y= .int k m:=by
 cases x with
 | none=>simp [yl2] at h;exact .inl ⟨h.symm,rfl⟩
 | some x =>
  simp only [yl2] at h
  split at h
  ·rename_i k m hx;cases h;exact .inr ⟨k,m,x,rfl,rfl,hε.eval hx⟩
  ·cases h
theorem uk0 {op:BinOp} {k:IntKind} {a b:Int} {K:Value→Prop} (h:qj2 op k a b K) (t:TypeId) :
  ∃ v,K v∧∀ w,(binOp op t (.int k a) (.int k b)).run P w= .ok v w:=by
 cases op<;>simp only [qj2] at h
 case add=>exact ⟨_,h,fun w=>by simp [binOp,Op.intArith]⟩
 case sub=>exact ⟨_,h,fun w=>by simp [binOp,Op.intArith]⟩
 case mul=>exact ⟨_,h,fun w=>by simp [binOp,Op.intArith]⟩
 case quo=>exact ⟨_,h.2,fun w=>by simp [binOp,Op.intDiv,h.1]⟩
 case rem=>exact ⟨_,h.2,fun w=>by simp [binOp,Op.intDiv,h.1]⟩
 case and=>exact ⟨_,h,fun w=>by simp [binOp,Op.intBits]⟩
 case or=>exact ⟨_,h,fun w=>by simp [binOp,Op.intBits]⟩
 case xor=>exact ⟨_,h,fun w=>by simp [binOp,Op.intBits]⟩
 case andNot=>exact ⟨_,h,fun w=>by simp [binOp,Op.intBits]⟩
 all_goals exact ⟨_,h,fun w=>by simp [binOp,Op.intCmp]⟩
theorem uh1 {op:BinOp} {a b:ByteArray} {K:Value→Prop} (h:qi1 op a b K) (t:TypeId) :
  ∃ v,K v∧∀ w,(binOp op t (.string a) (.string b)).run P w= .ok v w:=by
 cases op<;>simp only [qi1] at h
 case add =>
  refine ⟨_,h.2,fun w=>?_⟩
  have h1:¬ ((a.size+b.size:Nat):Int) > IntKind.i64.max:=by have:=h.1;show ¬ ((a.size+b.size:Nat):Int) > 9223372036854775807;omega
  simp only [binOp,Op.stringOp]
  rw [Sem.run_ite,if_neg h1];rfl
 case eql=>exact ⟨_,h,fun w=>by simp [binOp,Op.stringOp]⟩
 case neq=>exact ⟨_,h,fun w=>by simp [binOp,Op.stringOp]⟩
 case lss=>exact ⟨_,h,fun w=>by simp [binOp,Op.stringOp]⟩
 case leq=>exact ⟨_,h,fun w=>by simp [binOp,Op.stringOp]⟩
 case gtr=>exact ⟨_,h,fun w=>by simp [binOp,Op.stringOp]⟩
 case geq=>exact ⟨_,h,fun w=>by simp [binOp,Op.stringOp]⟩
 all_goals exact h.elim
theorem uk9 {t e:TypeId} {n:Nat} (ht:P.underlying t=some (.pointer e)) (hs:yj0 P e=some (n+1)) {p q:Option Addr} {K:Bool→Prop} (h:ur0 p q K) :
  ∃ b,K b∧∀ (d:Nat) (w:World),(Op.equalIn (d+1) t (.pointer p) (.pointer q)).run P w= .ok b w:=by
 unfold ur0 at h
 cases q with
 | none=>exact ⟨_,h,fun d w=>by cases p<;>simp [Op.equalIn,za7 ht]⟩
 | some b =>
  cases p with
  | none=>exact ⟨_,h,fun d w=>by simp [Op.equalIn,za7 ht]⟩
  | some a =>
   refine ⟨_,h.2,fun d w=>?_⟩
   have hb:(a.block == b.block)=true:=by simp [h.1]
   simp only [Op.equalIn,Sem.run_bind,za7 ht,Result.andThen_ok,zg5 hs]
   simp [sameAddr,hb]
theorem ue5 {t e:TypeId} {n:Nat} (ht:P.underlying t=some (.pointer e)) (hs:yj0 P e=some (n+1)) {p q:Option Addr} {K:Bool→Prop} (h:ur0 p q K) :
  ∃ b,K b∧∀ w,(Op.equal t (.pointer p) (.pointer q)).run P w= .ok b w:=by
 obtain ⟨b,hb,hw⟩:=uk9 ht hs h
 exact ⟨b,hb,fun w=>hw 9999 w⟩
theorem vr4 {t:TypeId} (ht:P.underlying t=some .bool) (a b:Bool) (w:World):(Op.equal t (.bool a) (.bool b)).run P w= .ok (a == b) w :=
 run_equalIn_bool' w 9999 t a b ht
theorem xg3 {t e:TypeId} (ht:P.underlying t=some (.slice e)) (a:Option Addr) (l c l' c':Nat) (w:World):(Op.equal t (.slice a l c) (.slice none l' c')).run P w= .ok a.isNone w:=by
 have key:∀ d,(Op.equalIn (d+1) t (.slice a l c) (.slice none l' c')).run P w= .ok a.isNone w:=fun d=>by cases a<;>simp [Op.equalIn,za7 ht]
 exact key 9999
theorem vr5 {d k:Nat} {w:World} (ih:∀ (t:TypeId) (x y:Value) (r:Bool),eqV P d t x y=some r→(Op.equalIn (d+k) t x y).run P w= .ok r w) (xs ys:Array Value) :
  ∀ (fs:List Field) (r:Bool),eqGo P (eqV P d) xs.toList ys.toList fs=some r→(Op.eqFields (d+k) xs ys fs).run P w= .ok r w
 | [],r,h=>by simp [eqGo] at h;subst h;simp [Op.eqFields]
 | f :: fs,r,h=>by
  simp only [eqGo] at h
  split at h
  ·cases h
  ·rename_i hn
   split at h
   ·rename_i a b ha hb
    split at h
    ·rename_i p q hp hq
     cases h
     have h1:=ih _ _ _ _ hp
     have h2:=vr5 ih xs ys fs q hq
     simp only [Op.eqFields]
     rw [if_pos hn]
     simp only [Sem.run_bind,va9 ha,va9 hb,Result.andThen_ok,h1]
     cases p<;>simp [h2]
    ·cases h
   ·cases h
theorem ue6 (w:World) (k:Nat):∀ (d:Nat) (t:TypeId) (x y:Value) (r:Bool),eqV P d t x y=some r→(Op.equalIn (d+k) t x y).run P w= .ok r w
 | 0,_,_,_,_,h=>by simp [eqV] at h
 | d+1,t,x,y,r,h=>by
  rw [show d+1+k=(d+k)+1 by omega]
  simp only [eqV] at h
  split at h
  ·rename_i ht
   unfold eqB at h
   split at h
   ·cases h;exact run_equalIn_bool' w (d+k) t _ _ ht
   ·cases h
  ·rename_i ht
   unfold eqI at h
   split at h
   ·split at h
    ·rename_i e;subst e;cases h;exact run_equalIn_int w (d+k) t _ _ _ _ ht
    ·cases h
   ·cases h
  ·rename_i ht
   unfold eqS at h
   split at h
   ·cases h;exact run_equalIn_string w (d+k) t _ _ ht
   ·cases h
  ·rename_i fs ht
   split at h
   ·rename_i xs ys hx hy
    unfold qk5 at hx hy
    split at hx<;>cases hx
    split at hy<;>cases hy
    split at h
    ·cases h
    ·rename_i hp
     have hf:P.fieldsOf t=fs:=by simp [Program.fieldsOf,ht]
     rw [run_equalIn_struct w (d+k) t xs ys (by rw [hf];exact ht) (by simpa using hp),hf]
     exact vr5 (fun t x y r h=>ue6 w k d t x y r h) xs ys _ r h
   ·cases h
  ·cases h
theorem uu6 {op:BinOp} {t:TypeId} {x y:Value} {K:Value→Prop} (h:binP P op t x y K) (ox oy:Operand) :
  ∃ v,K v∧∀ w,(do eqGuard op t ox oy x y;binOp op t x y:Sem Value).run P w= .ok v w:=by
 unfold binP at h
 split at h
 ·split at h
  ·rename_i k a k' b
   refine ⟨_,h.2,fun w=>?_⟩
   have h0:=h.1
   have h1:¬ b<0:=by omega
   simp [eqGuard,binOp,Op.shift,shlV,h1]
  ·exact h.elim
 ·split at h
  ·rename_i k a k' b
   refine ⟨_,h.2,fun w=>?_⟩
   have h0:=h.1
   have h1:¬ b<0:=by omega
   simp [eqGuard,binOp,Op.shift,shrV,h1]
  ·exact h.elim
 ·rename_i hl hr
  split at h
  ·rename_i k a k' b
   split at h
   ·rename_i e;subst e
    obtain ⟨v,hv,hw⟩:=uk0 (P:=P) h t
    refine ⟨v,hv,fun w=>?_⟩
    have:(eqGuard op t ox oy (.int k a) (.int k b)).run P w= .ok () w:=by cases op<;>simp [eqGuard]
    simp [this,hw]
   ·exact h.elim
  ·rename_i a b
   obtain ⟨v,hv,hw⟩:=uh1 (P:=P) h t
   refine ⟨v,hv,fun w=>?_⟩
   have:(eqGuard op t ox oy (.string a) (.string b)).run P w= .ok () w:=by cases op<;>simp [eqGuard]
   simp [this,hw]
  ·rename_i a b
   split at h
   ·rename_i ht
    split at h
    ·exact ⟨_,h,fun w=>by simp [eqGuard,binOp,vr4 ht]⟩
    ·exact ⟨_,h,fun w=>by simp [eqGuard,binOp,vr4 ht]⟩
    ·exact h.elim
   ·exact h.elim
  ·rename_i p q
   split at h
   ·rename_i e ht
    split at h
    ·rename_i hs
     split at h
     ·obtain ⟨b,hb,hw⟩:=ue5 ht hs h
      exact ⟨_,hb,fun w=>by simp [eqGuard,binOp,hw]⟩
     ·obtain ⟨b,hb,hw⟩:=ue5 ht hs h
      exact ⟨_,hb,fun w=>by simp [eqGuard,binOp,hw]⟩
     ·exact h.elim
    ·exact h.elim
   ·exact h.elim
  ·rename_i a l c _ _
   split at h
   ·rename_i e ht
    split at h
    ·exact ⟨_,h,fun w=>by simp [eqGuard,binOp,xg3 ht]⟩
    ·exact ⟨_,h,fun w=>by simp [eqGuard,binOp,xg3 ht]⟩
    ·exact h.elim
   ·exact h.elim
  ·rename_i xs ys
   split at h
   ·exact h.elim
   ·rename_i hg
    split at h
    ·rename_i b hb
     have hb':∀ w,(Op.equalIn 10000 t (.agg xs) (.agg ys)).run P w= .ok b w:=fun w=>ue6 w 9991 9 _ _ _ _ hb
     have hgu:∀ w,(eqGuard op t ox oy (.agg xs) (.agg ys)).run P w= .ok () w:=fun w=>run_eqGuard_agg w op t ox oy xs ys (by simpa using hg)
     split at h
     ·refine ⟨_,h,fun w=>?_⟩
      rw [Sem.run_bind,hgu,Result.andThen_ok,run_eql_struct w,hb',Result.andThen_ok]
     ·refine ⟨_,h,fun w=>?_⟩
      rw [Sem.run_bind,hgu,Result.andThen_ok,run_neq_struct w,hb',Result.andThen_ok]
     ·exact h.elim
    ·exact h.elim
  ·exact h.elim
end
section
variable {P:Program} {ds:List Deferred}
theorem ub3 {p:Option Addr} {K:Addr→Prop} (h:nilC p K):∃ a,p=some a∧K a:=by
 cases p with
 | none=>exact h.elim
 | some a=>exact ⟨a,rfl,h⟩
theorem qa9 (vs:List Value):∀ (off:Nat) (cs:List Value),off+vs.length≤cs.length→
  ((vs.zipIdx off).foldl (fun (c:Array Value) x=>c.setIfInBounds x.2 x.1) cs.toArray).toList=cs.take off ++ vs ++ cs.drop (off+vs.length):=by
 induction vs with
 | nil=>intro off cs _;simp
 | cons v vs ih =>
  intro off cs h
  simp only [List.length_cons] at h
  simp only [List.zipIdx_cons,List.foldl_cons,List.setIfInBounds_toArray]
  rw [ih (off+1) (cs.set off v) (by simp;omega)]
  have h1:(cs.set off v).take (off+1)=cs.take off ++ [v]:=by
   rw [List.take_set,List.set_eq_take_append_cons_drop]
   have hl:off<(cs.take (off+1)).length:=by simp;omega
   rw [if_pos hl,List.take_take,List.drop_take]
   simp
  have h2:(cs.set off v).drop (off+1+vs.length)=cs.drop (off+(vs.length+1)):=by
   rw [List.drop_set_of_lt (by omega)]
   congr 1;omega
  rw [h1,h2]
  simp
theorem xy8 (vs:List Value) (off:Nat):∀ (k:Nat) (cs:Array Value),
  ((vs.zipIdx k).foldl (fun (c:Array Value) (x:Value×Nat)=>c.setIfInBounds (off+x.2) x.1) cs)=((vs.zipIdx (off+k)).foldl (fun (c:Array Value) x=>c.setIfInBounds x.2 x.1) cs):=by
 induction vs with
 | nil=>intro k cs;rfl
 | cons v vs ih =>
  intro k cs
  simp only [List.zipIdx_cons,List.foldl_cons]
  rw [ih (k+1),show off+(k+1)=off+k+1 by omega]
theorem xj2 {place place':Nat→Option (Nat×Nat)} (hp:∀ i,place' i=place i):∀ {parts:List (Nat×Value)} {cs ds:List Value},uk7 place cs parts=some ds→
  Instr.fill place' cs.toArray parts=some ds.toArray
 | [],cs,ds,h=>by simp [uk7] at h;simp [Instr.fill,h]
 |(i,v) :: rest,cs,ds,h=>by
  simp only [uk7] at h
  simp only [Instr.fill,hp]
  cases hpl:place i with
  | none=>simp [hpl] at h
  | some os =>
   obtain ⟨off,size⟩:=os
   simp only [hpl] at h ⊢
   split at h
   ·rename_i hc
    obtain ⟨h1,h2⟩:=hc
    have h1':v.cells.size=size:=by simpa using h1
    have h3:¬ (v.cells.size≠size || decide (off+v.cells.size > cs.toArray.size))=true:=by simp [h1'];omega
    rw [if_neg h3]
    have hf:(v.cells.zipIdx.foldl (fun cs (x:Value×Nat)=>cs.setIfInBounds (off+x.2) x.1) cs.toArray)=(cs.take off ++ v.cells.toList ++ cs.drop (off+size)).toArray:=by
     apply Array.ext'
     rw [← Array.foldl_toList,Array.toList_zipIdx]
     rw [xy8,Nat.add_zero,qa9 _ _ _ (by rw [h1];exact h2),h1]
    have hf':(v.cells.zipIdx.foldl (fun cs (x:Value×Nat)=>match x with | (c,j)=>cs.setIfInBounds (off+j) c) cs.toArray)=(cs.take off ++ v.cells.toList ++ cs.drop (off+size)).toArray:=hf
    rw [hf']
    exact xj2 hp h
   ·cases h
theorem vp1 (w:World):∀ {fs:List Field} {ps:List (Nat×Nat)},yo1 P fs=some ps→
  (fs.mapM (fun f=>do pure (f.offset,← sizeOf f.type):Field→Sem (Nat×Nat))).run P w= .ok ps w
 | [],ps,h=>by simp [yo1] at h;simp [h]
 | f :: fs,ps,h=>by
  simp only [yo1] at h
  split at h
  ·rename_i n l hn hl
   cases h
   simp only [List.mapM_cons,Sem.run_bind,zg5 hn,Result.andThen_ok,Sem.run_pure,vp1 w hl]
  ·cases h
theorem ul9 {t:TypeId} {parts:List (Nat×Value)} {v:Value} (h:qb6 P t parts=some v) (w:World):(Instr.build t parts.toArray).run P w= .ok v w:=by
 unfold qb6 at h
 split at h
 ·rename_i z fs hz ht
  split at h
  ·rename_i ps hps
   split at h
   ·rename_i cs hcs
    cases h
    have hm:(fs.mapM (fun f=>do pure (f.offset,← sizeOf f.type):Field→Sem (Nat×Nat))).run P w= .ok ps.toArray w:=by
     rw [← Array.toArray_toList (xs:=fs),List.mapM_toArray]
     rw [Sem.run_map,vp1 w hps]
     rfl
    have hfill:=xj2 (place':=fun i=>ps[i]?) (fun i=>rfl) hcs
    simp only [Instr.build,Sem.run_bind,zv5 hz,za7 ht,Result.andThen_ok,hm]
    simp only [Array.toArray_toList] at hfill
    simp [hfill]
   ·cases h
  ·cases h
 ·rename_i z n e hz ht
  split at h
  ·rename_i size hsz
   split at h
   ·rename_i cs hcs
    cases h
    have hfill:=xj2 (place':=fun i=>some (i * size,size)) (fun i=>rfl) hcs
    simp only [Instr.build,Sem.run_bind,zv5 hz,za7 ht,Result.andThen_ok,zg5 hsz]
    simp only [Array.toArray_toList] at hfill
    simp [hfill]
   ·cases h
  ·cases h
 ·cases h
theorem uw1 {k:IntKind} {i:Int} {y:Nat} {code:BoundsCode} (h0:0≤i) (h1:i≤y) (w:World):(Instr.sliceBound (.int k i) y code).run P w= .ok i.toNat w:=by
 simp [Instr.sliceBound,asIntOf,h0,h1]
theorem xh3 {ε:Env} {a:Act} (hε:EnvD ds ε a) {len cap:Nat} {lo hi mx:Option Operand} {l h m:Option Int} (hl:yl2 ε lo=some l) (hh:yl2 ε hi=some h) (hm:yl2 ε mx=some m)
  (b:Bool) (h1:0≤m.getD cap) (h2:m.getD cap≤cap) (h3:0≤h.getD len) (h4:h.getD len≤m.getD cap) (h5:0≤l.getD 0) (h6:l.getD 0≤h.getD len) (h7:m.isSome=true→h.isSome=true) (w:World) :
  (Instr.sliceBounds b len cap (lo.map a.eval) (hi.map a.eval) (mx.map a.eval)).run P w= .ok ((l.getD 0).toNat,(h.getD len).toNat,(m.getD cap).toNat) w:=by
 rcases yt8 hε hl with ⟨rfl,rfl⟩| ⟨kl,nl,xl,rfl,rfl,el⟩<;>rcases yt8 hε hh with ⟨rfl,rfl⟩| ⟨kh,nh,xh,rfl,rfl,eh⟩ <;>
  rcases yt8 hε hm with ⟨rfl,rfl⟩| ⟨km,nm,xm,rfl,rfl,em⟩<;>simp only [Option.getD_none,Option.getD_some,Option.map_none,Option.map_some] at * <;>
  first
  |(simp at h7;done)
  |(simp only [Instr.sliceBounds,Sem.run_bind,Sem.run_pure,Result.andThen_ok, *]
    repeat (first | rw [uw1 (by omega) (by omega)] | simp only [Result.andThen_ok,Int.toNat_natCast,Int.toNat_zero,Sem.run_pure,Sem.run_bind]))
theorem uh4 {ε:Env} {a:Act} (hε:EnvD ds ε a) {t e:TypeId} {size:Nat} {base:Option Addr} {len cap:Nat} {lo hi mx:Option Operand} {l h m:Option Int}
  (ht:P.underlying t=some (.slice e)) (hs:yj0 P e=some size) (hl:yl2 ε lo=some l) (hh:yl2 ε hi=some h) (hm:yl2 ε mx=some m) {K:Value→Prop} (hk:zi0 size base len cap l h m fun a l c=>K (.slice a l c)) :
  ∃ v,K v∧∀ w,(Instr.sliceAt t (.slice base len cap) (lo.map a.eval) (hi.map a.eval) (mx.map a.eval)).run P w= .ok v w:=by
 obtain ⟨h1,h2,h3,h4,h5,h6,h7,hk⟩:=hk
 refine ⟨_,hk,fun w=>?_⟩
 have hb:=xh3 hε hl hh hm true h1 h2 h3 h4 h5 h6 h7 (P:=P) w
 simp [Instr.sliceAt,Instr.slice,za7 ht,hb,zg5 hs]
theorem vl7 {ε:Env} {a:Act} (hε:EnvD ds ε a) {t e:TypeId} {size n:Nat} {p:Addr} {lo hi mx:Option Operand} {l h m:Option Int}
  (ht:P.underlying t=some (.array n e)) (hs:yj0 P e=some size) (hl:yl2 ε lo=some l) (hh:yl2 ε hi=some h) (hm:yl2 ε mx=some m) {K:Value→Prop} (hk:zi0 size (some p) n n l h m fun a l c=>K (.slice a l c)) :
  ∃ v,K v∧∀ w,(Instr.sliceAt t (.pointer (some p)) (lo.map a.eval) (hi.map a.eval) (mx.map a.eval)).run P w= .ok v w:=by
 obtain ⟨h1,h2,h3,h4,h5,h6,h7,hk⟩:=hk
 refine ⟨_,hk,fun w=>?_⟩
 have hb:=xh3 hε hl hh hm false h1 h2 h3 h4 h5 h6 h7 (P:=P) w
 simp [Instr.sliceAt,Instr.sureAddr,za7 ht,hb,zg5 hs]
 split<;>rfl
theorem vl6 {ε:Env} {a:Act} (hε:EnvD ds ε a) {t:TypeId} {s:ByteArray} {lo hi mx:Option Operand} {l h:Option Int}
  (ht:P.underlying t=some .string) (hl:yl2 ε lo=some l) (hh:yl2 ε hi=some h) (hm:yl2 ε mx=some none)
  (h1:0≤h.getD s.size) (h2:h.getD s.size≤s.size) (h3:0≤l.getD 0) (h4:l.getD 0≤h.getD s.size) (w:World) :
  (Instr.sliceAt t (.string s) (lo.map a.eval) (hi.map a.eval) (mx.map a.eval)).run P w= .ok (.string (s.extract (l.getD 0).toNat (h.getD s.size).toNat)) w:=by
 have hb:=xh3 hε hl hh hm (P:=P) false (len:=s.size) (cap:=s.size) (by simp) (by simp) h1 (by simpa using h2) h3 h4 (by simp) w
 rcases yt8 hε hm with ⟨_,rfl⟩| ⟨_,_,_,h0,_⟩
 ·simp at hb
  simp [Instr.sliceAt,Instr.slice,za7 ht,hb]
 ·cases h0
theorem vd5 {t:TypeId} {f:Nat} {fld:Field} (h:vi3 P t f=some fld) {n:Nat} (hn:yj0 P fld.type=some (n+1)) (a:Addr) (w:World) :
  (Instr.fieldAt t (.pointer (some a)) f).run P w= .ok (.pointer (some (a.add fld.offset))) w:=by
 unfold vi3 at h
 split at h
 ·rename_i fs ht
  rw [Array.getElem?_toList] at h
  simp [Instr.fieldAt,za7 ht,h,Instr.sureAddr,fieldPlace,zg5 hn]
 ·cases h
theorem vp2 {e:TypeId} {cs:List Value} {size:Nat} {n:Int} {K:Value→Prop} (h0:0≤n):∀ {len:Nat},n<len→ui8 P e cs size n K len→∃ v,vu2 P e cs (n.toNat * size)=some v∧K v
 | 0,h1,_=>by omega
 | j+1,h1,h=>by
  by_cases hj:n=(j:Nat)
  ·have:=h.2 hj
   have hn:n.toNat=j:=by omega
   rw [hn]
   split at this
   ·rename_i v hv;exact ⟨v,hv,this⟩
   ·exact this.elim
  ·exact vp2 h0 (by omega) h.1
theorem ve3 {o:Oper} {ε:Env} {a:Act} (hε:EnvD ds ε a) {C:(World→Prop)→Prop} (hC:∀ φ ψ:World→Prop,(∀ w,φ w→ψ w)→C φ→C ψ) (hT:∀ φ:World→Prop,(∀ w,φ w)→C φ)
  {K:Value→Prop} (h:yf8 P C o.op ε K):∃ v,K v∧C fun w=>(execOp a.eval o).run P w= .ok (.value v) w:=by
 obtain ⟨dst,op,type,pos,after,guard⟩:=o
 simp only at h
 have plain:∀ {v:Value} {s:Sem Value},K v→(∀ w,s.run P w= .ok v w)→(∀ w,(execOp a.eval ⟨dst,op,type,pos,after,guard⟩).run P w=(do pure (.value (← s)):Sem Next).run P w)→
   ∃ v,K v∧C fun w=>(execOp a.eval ⟨dst,op,type,pos,after,guard⟩).run P w= .ok (.value v) w:=by
  intro v s hk hs he
  exact ⟨v,hk,hT _ fun w=>by rw [he w];simp [hs]⟩
 cases op with
 | move x =>
  simp only [yf8] at h
  split at h
  ·rename_i v hv;exact plain (s:=pure v) h (fun _=>rfl) (fun w=>by simp [execOp,hε.eval hv])
  ·exact h.elim
 | assign x =>
  simp only [yf8] at h
  split at h
  ·rename_i v hv;exact plain (s:=pure v) h (fun _=>rfl) (fun w=>by simp [execOp,hε.eval hv])
  ·exact h.elim
 | pick c x y =>
  simp only [yf8] at h
  split at h
  ·rename_i t p q hc hx hy
   exact plain (s:=pure (.bool (cond t p q))) h (fun _=>rfl) (fun w=>by cases t<;>simp [execOp,hε.eval hc,hε.eval hx,hε.eval hy,asBool])
  ·rename_i t p q _ hc hx hy
   cases t with
   | true=>exact plain (s:=pure p) h (fun _=>rfl) (fun w=>by simp [execOp,hε.eval hc,hε.eval hx,hε.eval hy,asBool])
   | false=>exact plain (s:=pure q) h (fun _=>rfl) (fun w=>by simp [execOp,hε.eval hc,hε.eval hx,hε.eval hy,asBool])
  ·exact h.elim
 | nilCheck x =>
  simp only [yf8] at h
  split at h
  ·rename_i p hp
   obtain ⟨b,rfl,hk⟩:=ub3 h
   exact plain (s:=pure (.pointer (some b))) hk (fun _=>rfl) (fun w=>by simp [execOp,hε.eval hp])
  ·rename_i f b c hp
   exact plain (s:=pure (.func (.func f) b c)) h (fun _=>rfl) (fun w=>by simp [execOp,hε.eval hp])
  ·exact h.elim
 | binOp op t x y u =>
  simp only [yf8] at h
  split at h
  ·rename_i p q hp hq
   obtain ⟨v,hk,hw⟩:=uu6 h x y
   exact plain hk hw (fun w=>by simp only [execOp,hε.eval hp,hε.eval hq])
  ·exact h.elim
 | unOp op t x =>
  simp only [yf8] at h
  split at h
  ·rename_i b hb;exact plain (s:=pure (.bool (!b))) h (fun _=>rfl) (fun w=>by simp [execOp,hε.eval hb,Op.unary])
  ·rename_i k n hb;exact plain (s:=pure (.int k (k.wrap (0 - n)))) h (fun _=>rfl) (fun w=>by simp [execOp,hε.eval hb,Op.unary,Op.intArith])
  ·rename_i k n hb
   refine plain (s:=pure _) h (fun _=>rfl) (fun w=>?_)
   simp [execOp,hε.eval hb,Op.unary,Op.intBits]
  ·exact h.elim
 | makeFunc fn first captured =>
  simp only [yf8] at h
  split at h
  ·rename_i p q hp hq
   exact plain (s:=pure _) h (fun _=>rfl) (fun w=>by simp [execOp,Instr.makeFunc,yc9 hε hp,yc9 hε hq])
  ·exact h.elim
 | extract x i =>
  simp only [yf8] at h
  split at h
  ·rename_i vs hx
   split at h
   ·rename_i v hv
    rw [Array.getElem?_toList] at hv
    exact plain (s:=pure v) h (fun _=>rfl) (fun w=>by simp [execOp,Instr.extract,hε.eval hx,hv])
   ·exact h.elim
  ·exact h.elim
 | makeInterface t x =>
  simp only [yf8] at h
  split at h
  ·exact h.elim
  ·rename_i d v hn hd hx
   have hd':=hd
   refine plain (s:=pure (.iface t v)) h (fun _=>rfl) (fun w=>?_)
   cases d<;>first | (exact (hn _ rfl).elim) | simp [execOp,Instr.makeInterface,za7 hd',hε.eval hx]
  ·exact h.elim
 | fieldAddr t x f =>
  simp only [yf8] at h
  split at h
  ·rename_i b fld hx hf
   split at h
   ·rename_i n hn
    exact plain h (fun w=>vd5 hf hn b w) (fun w=>by simp only [execOp,hε.eval hx])
   ·exact h.elim
  ·exact h.elim
 | field t x f =>
  simp only [yf8] at h
  split at h
  ·rename_i cs fld hx hf
   split at h
   ·rename_i v hv
    refine plain (s:=Instr.field t (.agg cs) f) h (fun w=>?_) (fun w=>by simp only [execOp,hε.eval hx])
    unfold vi3 at hf
    split at hf
    ·rename_i fs ht
     rw [Array.getElem?_toList] at hf
     simp [Instr.field,za7 ht,hf,asAgg,va9 hv]
    ·cases hf
   ·exact h.elim
  ·exact h.elim
 | indexAddr t x i =>
  simp only [yf8] at h
  split at h
  ·rename_i base len cap k n e hx hi ht
   split at h
   ·rename_i size hsz
    obtain ⟨h0,h1,h⟩:=h
    obtain ⟨b,rfl,hk⟩:=ub3 h
    refine plain (s:=Instr.indexAt t (.slice (some b) len cap) (.int k n)) hk (fun w=>?_) (fun w=>by simp only [execOp,hε.eval hx,hε.eval hi])
    by_cases hl:len≤1<;>simp [Instr.indexAt,asIntOf,za7 ht,h0,h1,zg5 hsz,hl]
   ·exact h.elim
  ·rename_i b k n len e hx hi ht
   split at h
   ·rename_i size hsz
    obtain ⟨h0,h1,hk⟩:=h
    refine plain (s:=Instr.indexAt t (.pointer (some b)) (.int k n)) hk (fun w=>?_) (fun w=>by simp only [execOp,hε.eval hx,hε.eval hi])
    by_cases hl:len≤1<;>simp [Instr.indexAt,asIntOf,za7 ht,h0,h1,zg5 hsz,hl,Instr.sureAddr]
   ·exact h.elim
  ·exact h.elim
 | index t x i =>
  simp only [yf8] at h
  split at h
  ·rename_i cs k n len e hx hi ht
   split at h
   ·rename_i size hsz
    obtain ⟨h0,h1,h⟩:=h
    obtain ⟨v,hv,h⟩: ∃ v,vu2 P e cs.toList (n.toNat * size)=some v∧K v:=by
     split at h
     ·split at h
      ·rename_i v hv;exact ⟨v,hv,h⟩
      ·exact h.elim
     ·exact vp2 h0 h1 h
    refine plain (s:=Instr.index t (.agg cs) (.int k n)) h (fun w=>?_) (fun w=>by simp only [execOp,hε.eval hx,hε.eval hi])
    simp [Instr.index,asIntOf,za7 ht,h0,h1,zg5 hsz,va9 hv]
   ·exact h.elim
  ·rename_i s k n hx hi ht
   obtain ⟨h0,b,hb,hk⟩:=h
   refine plain (s:=Instr.index t (.string s) (.int k n)) hk (fun w=>?_) (fun w=>by simp only [execOp,hε.eval hx,hε.eval hi])
   have hb':s[n.toNat]?=some b:=by
    rw [Array.getElem?_toList] at hb
    have hlt:=(Array.getElem?_eq_some_iff.1 hb).1
    have hv:=(Array.getElem?_eq_some_iff.1 hb).2
    have hlt':n.toNat<s.size:=hlt
    rw [getElem?_pos s n.toNat hlt']
    exact congrArg some hv
   simp [Instr.index,asIntOf,za7 ht,h0,hb']
  ·exact h.elim
 | slice t x lo hi mx =>
  simp only [yf8] at h
  split at h
  ·rename_i base len cap e l hh m hx ht hl hhi hm
   split at h
   ·rename_i size hsz
    obtain ⟨v,hk,hw⟩:=uh4 hε ht hsz hl hhi hm h
    exact plain hk hw (fun w=>by simp only [execOp,hε.eval hx])
   ·exact h.elim
  ·rename_i b n e l hh m hx ht hl hhi hm
   split at h
   ·rename_i size hsz
    obtain ⟨v,hk,hw⟩:=vl7 hε ht hsz hl hhi hm h
    exact plain hk hw (fun w=>by simp only [execOp,hε.eval hx])
   ·exact h.elim
  ·rename_i s l hh hx ht hl hhi hm
   obtain ⟨h1,h2,h3,h4,hk⟩:=h
   exact plain hk (fun w=>vl6 hε ht hl hhi hm h1 h2 h3 h4 w) (fun w=>by simp only [execOp,hε.eval hx])
  ·exact h.elim
 | build t parts =>
  simp only [yf8] at h
  split at h
  ·rename_i ps hps
   split at h
   ·rename_i v hv
    refine plain h (fun w=>ul9 hv w) (fun w=>?_)
    have:parts.map (fun x=>(x.1,a.eval x.2))=ps.toArray:=by apply Array.ext';simp [xa9 hε hps]
    simp only [execOp]
    rw [show (parts.map fun (i,x)=>(i,a.eval x))=ps.toArray from this]
   ·exact h.elim
  ·exact h.elim
 | load t x =>
  simp only [yf8] at h
  split at h
  ·rename_i b hx
   obtain ⟨v,hk,hc⟩:=vq2 hC h
   exact ⟨v,hk,hC _ _ (fun w hw=>by simp [execOp,Instr.loadAt,Instr.sureAddr,hε.eval hx,hw]) hc⟩
  ·exact h.elim
 | convert src dst x =>
  simp only [yf8] at h
  split at h
  ·rename_i k1 k n _ hs hd hx
   exact plain (s:=pure _) h (fun _=>rfl) (fun w=>by simp [execOp,convert,za7 hs,za7 hd,hε.eval hx,Conv.intToInt])
  ·rename_i s hs hd hx
   exact plain (s:=pure _) h (fun _=>rfl) (fun w=>by simp [execOp,convert,za7 hs,za7 hd,hε.eval hx])
  ·exact h.elim
 | call c =>
  simp only [yf8] at h
  split at h
  ·rename_i v t hcal harg hty
   have hA:=yc9 hε harg
   have hA':c.argTypes=#[t]:=by apply Array.ext';simpa using hty
   split at h
   ·rename_i s ht
    exact plain (s:=pure _) h (fun _=>rfl) (fun w=>by simp [execOp,resolve,hcal,invoke,builtin,Builtin.len_,hA,hA',za7 ht,goInt])
   ·rename_i e b n cp ht
    exact plain (s:=pure _) h (fun _=>rfl) (fun w=>by simp [execOp,resolve,hcal,invoke,builtin,Builtin.len_,hA,hA',za7 ht,goInt])
   ·rename_i n e v' ht
    exact plain (s:=pure _) h (fun _=>rfl) (fun w=>by simp [execOp,resolve,hcal,invoke,builtin,Builtin.len_,hA,hA',za7 ht,goInt])
   ·exact h.elim
  ·rename_i v t hcal harg hty
   have hA:=yc9 hε harg
   have hA':c.argTypes=#[t]:=by apply Array.ext';simpa using hty
   split at h
   ·rename_i e b n cp ht
    exact plain (s:=pure _) h (fun _=>rfl) (fun w=>by simp [execOp,resolve,hcal,invoke,builtin,Builtin.cap_,hA,hA',za7 ht,goInt])
   ·exact h.elim
  ·rename_i k p k' q hcal harg
   have hA:=yc9 hε harg
   exact plain (s:=pure _) h (fun _=>rfl) (fun w=>by simp [execOp,resolve,hcal,invoke,builtin,Builtin.max_,Builtin.max2,hA])
  ·rename_i k p k' q hcal harg
   have hA:=yc9 hε harg
   exact plain (s:=pure _) h (fun _=>rfl) (fun w=>by simp [execOp,resolve,hcal,invoke,builtin,Builtin.min_,Builtin.min2,hA])
  ·exact h.elim
 | _=>simp only [yf8] at h
end
section
variable {P:Program} {ds:List Deferred}
theorem zv4 (z:List Value):∀ n,(zs8 z n).length=n * z.length
 | 0=>by simp [zs8]
 | n+1=>by simp [zs8,zv4 z n,Nat.succ_mul,Nat.add_comm]
theorem vn8 (z:List Value):∀ n i,i<n * z.length→(zs8 z n)[i]?=z[i % z.length]?
 | 0,i,h=>by simp at h
 | n+1,i,h=>by
  have hz:0<z.length:=by
   rcases Nat.eq_zero_or_pos z.length with h0 | h0
   ·rw [h0] at h;simp at h
   ·exact h0
  rw [Nat.succ_mul] at h
  simp only [zs8]
  by_cases hi:i<z.length
  ·rw [List.getElem?_append_left hi,Nat.mod_eq_of_lt hi]
  ·rw [List.getElem?_append_right (by omega),vn8 z n (i - z.length) (by omega)]
   congr 1
   exact (Nat.mod_eq_sub_mod (by omega)).symm
theorem yr9 (z:Array Value) (n:Nat) (m:Nat) (hm:m=n * z.size) :
  ((Array.range m).map fun i=>z[i % z.size]!)=(zs8 z.toList n).toArray:=by
 subst hm
 apply Array.ext
 ·simp [zv4]
 ·intro i h1 h2
  simp at h1
  have hz:0<z.size:=by
   rcases Nat.eq_zero_or_pos z.size with h0 | h0
   ·rw [h0] at h1;simp at h1
   ·exact h0
  have hlt:i % z.size<z.size:=Nat.mod_lt _ hz
  have:=vn8 z.toList n i (by simpa using h1)
  rw [List.getElem?_eq_getElem (by simpa [zv4] using h1)] at this
  simp only [Array.length_toList,Array.getElem?_toList] at this
  rw [Array.getElem?_eq_getElem hlt] at this
  simp [hlt]
  exact (Option.some.inj this).symm
theorem yt1 (z:Array Value) (n:Nat):Builtin.zeroCells z n=(zs8 z.toList n).toArray:=yr9 z n _ rfl
theorem ud0 {f:FuncId} (h:xn5 P f=true):∃ fn,P.funcs[f]?=some fn∧fn.body.isNone=false∧(fn.name == "runtime.NumGoroutine")=false:=by
 unfold xn5 at h
 split at h
 ·rename_i fn hf
  simp only [Bool.and_eq_true,Bool.not_eq_true'] at h
  exact ⟨fn,hf,by cases hb:fn.body<;>simp_all,h.2⟩
 ·cases h
theorem xe0 {f:FuncId} (h:xn5 P f=true) (args:Array Value) (w:World):(callFunc f args).run P w= .ok (.enter f args) w:=by
 obtain ⟨fn,hf,hb,hn⟩:=ud0 h
 have hn':fn.name≠ "runtime.NumGoroutine" := by simpa using hn
 have hb':fn.body≠none:=by intro e;simp [e] at hb
 simp [callFunc,hf,hb',hn']
theorem vl8 {w:World} {b o:Nat} {cur:Array Value} {T:TypeId} {fr:Nat×Nat} (hb:w.heap[b]?=some (.cells cur T fr)) (v:Value) :
  w.setCell ⟨b,o,none⟩ v=yq0 w b (.cells (cur.setIfInBounds o v) T fr):=by
 have hlt:=(Array.getElem?_eq_some_iff.1 hb).1
 have hv:=(Array.getElem?_eq_some_iff.1 hb).2
 unfold World.setCell yq0
 congr 1
 apply Array.ext
 ·simp
 ·intro i h1 h2
  simp only [Array.getElem_modify]
  rw [Array.getElem_setIfInBounds (by simpa using h1)]
  by_cases hi:b=i
  ·subst hi;simp [hv]
  ·simp [hi]
theorem xe4 {w:World} {b:Nat} {o:Obj} (h:b<w.heap.size):(yq0 w b o).heap[b]?=some o:=by simp [yq0,h]
theorem xc1 {w:World} {b c:Nat} {o:Obj} (h:b≠c):(yq0 w b o).heap[c]?=w.heap[c]?:=by simp [yq0,h]
theorem vt8 (w:World) (b:Nat) (o o':Obj):yq0 (yq0 w b o) b o'=yq0 w b o':=by simp [yq0]
theorem xk0 {b o:Nat} {T:TypeId} {fr:Nat×Nat}:∀ (vs:List Value) (i:Nat) (cur:Array Value) (w:World),w.heap[b]?=some (.cells cur T fr)→o+i+vs.length≤cur.size→
  (fr.2≤o+i∨o+i+vs.length≤fr.1)→(∀ v∈vs,v.oneCell'=true)→
  (storeCells ⟨b,o,none⟩ vs i).run P w= .ok () (yq0 w b (.cells (zy1 cur (o+i) vs) T fr))
 | [],i,cur,w,hb,_,_,_=>by
  have hlt:=(Array.getElem?_eq_some_iff.1 hb).1
  have hv:=(Array.getElem?_eq_some_iff.1 hb).2
  simp only [storeCells,zy1,List.append_nil,List.length_nil,Nat.add_zero,List.take_append_drop,Array.toArray_toList]
  rw [Sem.run_pure]
  congr 1
  unfold yq0
  cases w with
  | mk heap tape drawn os output =>
   congr 1
   apply Array.ext
   ·simp
   ·intro j h1 h2
    rw [Array.getElem_setIfInBounds (by simpa using h1)]
    by_cases hj:b=j
    ·subst hj;simpa using hv
    ·simp [hj]
 | v :: rest,i,cur,w,hb,hl,hfr,h1=>by
  simp only [List.length_cons] at hl hfr
  have hadd:(⟨b,o,none⟩: Addr).add i=⟨b,o+i,none⟩:=by unfold Addr.add;split<;>simp_all
  have hcell:w.cell? ⟨b,o+i,none⟩= some (cur[o+i]'(by omega)):=by simp [World.cell?,hb]
  have hfro:w.frozen? ⟨b,o+i,none⟩= false:=by
   simp only [World.frozen?,hb]
   simp
   omega
  have hst:(store ((⟨b,o,none⟩: Addr).add i) v).run P w= .ok () (w.setCell ⟨b,o+i,none⟩ v):=by
   rw [hadd,run_store P w _ v _ (h1 v (by simp)),hcell]
   simp [hfro]
  have hlt:=(Array.getElem?_eq_some_iff.1 hb).1
  have hb':(yq0 w b (.cells (cur.setIfInBounds (o+i) v) T fr)).heap[b]?=some (.cells (cur.setIfInBounds (o+i) v) T fr):=xe4 hlt
  have ih:=xk0 (b:=b) (o:=o) (T:=T) (fr:=fr) rest (i+1) (cur.setIfInBounds (o+i) v) _ hb' (by simp;omega) (by omega) (fun u hu=>h1 u (by simp [hu]))
  simp only [storeCells,Sem.run_bind,hst,Result.andThen_ok]
  rw [vl8 hb,ih,vt8]
  congr 3
  unfold zy1
  congr 1
  rw [Array.toList_setIfInBounds]
  have e1:(cur.toList.set (o+i) v).take (o+(i+1))=cur.toList.take (o+i) ++ [v]:=by
   rw [List.take_set,List.set_eq_take_append_cons_drop]
   have hl':o+i<(cur.toList.take (o+(i+1))).length:=by simp;omega
   rw [if_pos hl',List.take_take,List.drop_take]
   simp
   congr 1;omega
  have e2:(cur.toList.set (o+i) v).drop (o+(i+1)+rest.length)=cur.toList.drop (o+i+(rest.length+1)):=by
   rw [List.drop_set_of_lt (by omega)]
   congr 1;omega
  rw [e1,e2]
  simp
theorem yr6 {w:World} {a:Addr} {vs:List Value} {K:World→Prop} (h:za5 w a vs K) (h1:∀ v∈vs,v.oneCell'=true):∃ w',K w'∧(storeCells a vs).run P w= .ok () w':=by
 obtain ⟨hs,cur,T,fr,hb,hl,hfr,hk⟩:=h
 refine ⟨_,hk _ ⟨(Array.getElem?_eq_some_iff.1 hb).1,rfl,_,_,_,hb⟩,?_⟩
 have ha:a=⟨a.block,a.off,none⟩:=by cases a;simp at hs;simp [hs]
 have:=xk0 (P:=P) (b:=a.block) (o:=a.off) vs 0 cur w hb (by simpa using hl) (by simpa using hfr) h1
 rw [← ha] at this
 simpa using this
theorem ym0 {w:World} {size n:Nat} {x:Value} {vs:List Value} (h:xe2 w size x n vs):(Builtin.firstCells size n x).run P w= .ok vs.toArray w:=by
 unfold xe2 at h
 split at h
 ·rename_i a l c
  obtain ⟨hl,hc⟩:=h
  exact run_firstCells_some w size n a l c vs hl (fun j v hj=>by simpa using xb2 hc j v hj)
 ·subst h;simp [Builtin.firstCells]
 ·subst h
  simp only [Builtin.firstCells]
  rw [Sem.run_pure]
  congr 1
  apply Array.ext'
  simp
 ·exact h.elim
theorem ve1 {w:World} {size n:Nat} {x:Value} {vs:List Value} (h:xe2 w size x n vs):xe2 w.drew size x n vs:=by
 unfold xe2 at *
 have key:∀ (a:Addr) (vs:List Value) (i:Nat),za3 w a vs i→za3 w.drew a vs i:=by
  intro a vs
  induction vs with
  | nil=>intro i _;trivial
  | cons v vs ih=>intro i h;exact ⟨h.1,ih _ h.2⟩
 split<;>simp_all
theorem xf3 {x:Value} {n:Nat} (h:lenV x=some n) (w:World):(Builtin.lenOf x).run P w= .ok n w:=by
 unfold lenV at h
 split at h<;>cases h<;>simp [Builtin.lenOf]
theorem xy5 {t u e:TypeId} {ut:TypeDesc} (ht:P.underlying t=some (.slice e)) (hu:P.underlying u=some ut) (hui:∀ k,ut≠ .int k) {z:Value} (hz:yl1 P e=some z) {size bytes:Nat}
  (hs:yj0 P e=some size) (hby:xy4 P e=some bytes) {base:Option Addr} {l cp:Nat} {x:Value} {w:World} {K:Value→World→Prop} (h:zb5 e size bytes z.cells.toList base l cp x w fun a l c=>K (.slice a l c)) (ty:TypeId) :
  ∃ v w',K v w'∧(Builtin.append_ #[t,u] ty #[.slice base l cp,x]).run P w= .ok v w':=by
 obtain ⟨n,hn,new,hnew,h1,hroom,hgrow⟩:=h
 obtain ⟨i,hi,hib⟩: ∃ i,P.info? e=some i∧i.bytes=bytes:=by
  unfold xy4 at hby
  cases hi:P.info? e with
  | none=>simp [hi] at hby
  | some i=>simp [hi] at hby;exact ⟨i,rfl,hby⟩
 have hti:∀ w:World,(typeInfo e).run P w= .ok i w:=fun w=>by simp [typeInfo,hi]
 by_cases hc:l+n≤cp
 ·have hk:=hroom hc
  cases base with
  | none =>
   refine ⟨_,w,hk,?_⟩
   simp only [Builtin.append_,List.getElem?_toArray,List.getElem?_cons_zero,List.getElem?_cons_succ]
   simp only [Sem.run_bind,za7 ht,Result.andThen_ok,zg5 hs,za7 hu,Sem.run_pure]
   cases ut<;>first
    | exact (hui _ rfl).elim
    | simp [xf3 hn,hc,ym0 hnew]
  | some a =>
   obtain ⟨w',hk',hw'⟩:=yr6 (P:=P) hk h1
   refine ⟨_,w',hk',?_⟩
   simp only [Builtin.append_,List.getElem?_toArray,List.getElem?_cons_zero,List.getElem?_cons_succ]
   simp only [Sem.run_bind,za7 ht,Result.andThen_ok,zg5 hs,za7 hu,Sem.run_pure]
   cases ut<;>first
    | exact (hui _ rfl).elim
    | simp [xf3 hn,hc,ym0 hnew,hw']
 ·obtain ⟨h63,h48,old,hold,hk⟩:=hgrow (by omega)
  have hq:l+n≤(Question.appendCap (l+n) cp e).cut (w.tape w.drawn (.appendCap (l+n) cp e)):=by simp [Question.cut]
  refine ⟨_,_,hk _ _ _ hq ⟨rfl,rfl⟩,?_⟩
  have h63':¬ ((l+n:Nat):Int) > IntKind.i64.max:=by show ¬ ((l+n:Nat):Int) > 9223372036854775807;omega
  have h48':¬ Builtin.nextslicecap (l+n) cp * bytes > 2 ^ 48:=by omega
  have hr1:=ym0 (P:=P) (ve1 hold)
  have hr2:=ym0 (P:=P) (ve1 hnew)
  simp only [Builtin.append_,List.getElem?_toArray,List.getElem?_cons_zero,List.getElem?_cons_succ]
  simp only [Sem.run_bind,za7 ht,Result.andThen_ok,zg5 hs,za7 hu,Sem.run_pure]
  cases ut<;>first
   | exact (hui _ rfl).elim
   |(simp only [Bool.false_eq_true,if_false,xf3 hn,Result.andThen_ok,hc,Sem.run_ite,Sem.run_bind,hti,hib,h63',h48',false_and,run_choose,Question.forced,World.drew_eq,run_askRoom,hr1,hr2,zv5 hz,yt1,newRow,run_newObj,Sem.run_pure]
     simp)
theorem vx1 {t u e:TypeId} {k:IntKind} (ht:P.underlying t=some (.slice e)) (hu:P.underlying u=some (.int k)) {z:Value} (hz:yl1 P e=some z) {size bytes:Nat}
  (hs:yj0 P e=some size) (hby:xy4 P e=some bytes) {base:Option Addr} {l cp:Nat} {kx:IntKind} {m:Int} {w:World} {K:Value→World→Prop} (h:vx2 e size bytes z.cells.toList base l cp m w fun a l c=>K (.slice a l c)) (ty:TypeId) :
  ∃ v w',K v w'∧(Builtin.append_ #[t,u] ty #[.slice base l cp,.int kx m]).run P w= .ok v w':=by
 obtain ⟨h0,hm,hmb,h1,hzl,hroom,hgrow⟩:=h
 obtain ⟨i,hi,hib⟩: ∃ i,P.info? e=some i∧i.bytes=bytes:=by
  unfold xy4 at hby
  cases hi:P.info? e with
  | none=>simp [hi] at hby
  | some i=>simp [hi] at hby;exact ⟨i,rfl,hby⟩
 have hti:∀ w:World,(typeInfo e).run P w= .ok i w:=fun w=>by simp [typeInfo,hi]
 have wm:IntKind.i64.wrap m=m:=by
  simp only [IntKind.wrap,IntKind.bits,IntKind.signed];simp;omega
 have hsz:size=z.cells.size:=by simpa using hzl.symm
 have hall:∀ n,∀ v∈zs8 z.cells.toList n,v.oneCell'=true:=by
  intro n
  induction n with
  | zero=>intro v hv;simp [zs8] at hv
  | succ n ih=>intro v hv;simp only [zs8,List.mem_append] at hv;exact hv.elim (h1 v) (ih v)
 have hneg:¬ m<0:=by omega
 have hbig:¬ m * (i.bytes:Int) > 2 ^ 48:=by rw [hib];omega
 have happ:∀ w:World,(if m.toNat * size=0 then pure #[] else do pure (Builtin.zeroCells (← zeroValue e).cells m.toNat):Sem (Array Value)).run P w= .ok (zs8 z.cells.toList m.toNat).toArray w:=by
  intro w
  by_cases hn0:m.toNat * size=0
  ·have:zs8 z.cells.toList m.toNat=[]:=by
    apply List.eq_nil_of_length_eq_zero
    rw [zv4];rw [hsz] at hn0;simpa using hn0
   simp [hn0,this]
  ·simp [hn0,zv5 hz,yt1]
 by_cases hc:l+m.toNat≤cp
 ·have hk:=hroom hc
  cases base with
  | none =>
   refine ⟨_,w,hk,?_⟩
   simp only [Builtin.append_,List.getElem?_toArray,List.getElem?_cons_zero,List.getElem?_cons_succ]
   simp only [Sem.run_bind,za7 ht,Result.andThen_ok,zg5 hs,za7 hu,Sem.run_pure]
   simp only [asInt,asIntOf,Sem.run_bind,Sem.run_pure,Result.andThen_ok,wm,if_true,Sem.run_ite,hneg,if_false,hti,hbig,hc,Bool.not_true,Bool.false_eq_true]
   have:=happ w
   simp only [Sem.run_ite,Sem.run_bind,Sem.run_pure] at this
   rw [this]
   simp
  | some a =>
   obtain ⟨w',hk',hw'⟩:=yr6 (P:=P) hk (hall _)
   refine ⟨_,w',hk',?_⟩
   simp only [Builtin.append_,List.getElem?_toArray,List.getElem?_cons_zero,List.getElem?_cons_succ]
   simp only [Sem.run_bind,za7 ht,Result.andThen_ok,zg5 hs,za7 hu,Sem.run_pure,asInt,asIntOf,wm,if_true,Sem.run_ite,hneg,if_false,hti,hbig,hc,Bool.not_true,Bool.false_eq_true]
   have:=happ w
   simp only [Sem.run_ite,Sem.run_bind,Sem.run_pure] at this
   rw [this]
   simp [hw']
 ·obtain ⟨h63,h48,old,hold,hk⟩:=hgrow (by omega)
  have hq:l+m.toNat≤(Question.appendCap (l+m.toNat) cp e).cut (w.tape w.drawn (.appendCap (l+m.toNat) cp e)):=by simp [Question.cut]
  refine ⟨_,_,hk _ _ _ hq ⟨rfl,rfl⟩,?_⟩
  have h63':¬ ((l+m.toNat:Nat):Int) > IntKind.i64.max:=by show ¬ ((l+m.toNat:Nat):Int) > 9223372036854775807;omega
  have h48':¬ Builtin.nextslicecap (l+m.toNat) cp * bytes > 2 ^ 48:=by omega
  have hr1:=ym0 (P:=P) (ve1 hold)
  have hbig2:¬ m * (bytes:Int) > 2 ^ 48:=by omega
  simp only [Builtin.append_,List.getElem?_toArray,List.getElem?_cons_zero,List.getElem?_cons_succ]
  simp only [hbig2,Sem.run_bind,za7 ht,Result.andThen_ok,zg5 hs,za7 hu,Sem.run_pure,asInt,asIntOf,wm,if_true,Sem.run_ite,hneg,if_false,hti,hbig,hc,Bool.not_true,Bool.false_eq_true,hib,h63',h48',false_and,
   run_choose,Question.forced,World.drew_eq,run_askRoom,hr1]
  have:=happ w.drew
  simp only [Sem.run_ite,Sem.run_bind,Sem.run_pure] at this
  rw [this]
  simp only [Result.andThen_ok,zv5 hz,yt1,newRow,Sem.run_bind,run_newObj,Sem.run_pure]
  simp
  rfl
theorem uu5 {t e:TypeId} (ht:P.underlying t=some (.slice e)) {size:Nat} (hs:yj0 P e=some size) {base:Option Addr} {l cp:Nat} {x:Value} {w:World} {K:Value→World→Prop}
  (h:xg5 size base l x w fun n=>K (.int .i64 n)) (ts:List TypeId) (ty:TypeId):∃ v w',K v w'∧(Builtin.copy_ (t :: ts).toArray ty #[.slice base l cp,x]).run P w= .ok v w':=by
 obtain ⟨n,hn,new,hnew,h1,hk⟩:=h
 have hmin:Nat.min n l=min n l:=rfl
 cases base with
 | none =>
  refine ⟨_,w,hk,?_⟩
  simp only [Builtin.copy_,List.getElem?_toArray,List.getElem?_cons_zero,List.getElem?_cons_succ]
  simp [za7 ht,xf3 hn,zg5 hs,hmin,ym0 hnew,goInt]
 | some a =>
  obtain ⟨w',hk',hw'⟩:=yr6 (P:=P) hk h1
  refine ⟨_,w',hk',?_⟩
  simp only [Builtin.copy_,List.getElem?_toArray,List.getElem?_cons_zero,List.getElem?_cons_succ]
  simp [za7 ht,xf3 hn,zg5 hs,hmin,ym0 hnew,goInt,hw']
theorem ul4 {t e:TypeId} (ht:P.underlying t=some (.slice e)) {z:Value} (hz:yl1 P e=some z) {base:Option Addr} {l cp:Nat} {w:World} {K:Value→World→Prop}
  (h:up4 z.cells.toList base l w fun w'=>K (.tuple #[]) w') (ts:List TypeId) (ty:TypeId):∃ w',K (.tuple #[]) w'∧(Builtin.clear_ (t :: ts).toArray ty #[.slice base l cp]).run P w= .ok (.tuple #[]) w':=by
 cases base with
 | none =>
  refine ⟨w,h,?_⟩
  simp only [Builtin.clear_,List.getElem?_toArray,List.getElem?_cons_zero]
  simp [za7 ht]
 | some a =>
  cases l with
  | zero =>
   refine ⟨w,h,?_⟩
   simp only [Builtin.clear_,List.getElem?_toArray,List.getElem?_cons_zero]
   simp [za7 ht]
  | succ n =>
   obtain ⟨h1,h2⟩:=h
   obtain ⟨w',hk',hw'⟩:=yr6 (P:=P) h2 h1
   refine ⟨w',hk',?_⟩
   simp only [Builtin.clear_,List.getElem?_toArray,List.getElem?_cons_zero]
   simp [za7 ht,zv5 hz,yt1,hw']
theorem vg5 {t e:TypeId} (ht:P.underlying t=some (.slice e)) {z:Value} (hz:yl1 P e=some z) {size bytes:Nat} (hs:yj0 P e=some size) (hby:xy4 P e=some bytes)
  {len cap:Int} {w:World} {K:Value→World→Prop} (h:ym4 e size bytes z.cells.toList len cap w fun a l c=>K (.slice a l c)) (k k':IntKind) :
  ∃ v w',K v w'∧(Instr.makeSlice t (.int k len) (.int k' cap)).run P w= .ok v w':=by
 obtain ⟨h0,h1,h2,h3,hzl,hk⟩:=h
 refine ⟨_,_,hk _ _ ⟨rfl,rfl⟩,?_⟩
 obtain ⟨i,hi,hib⟩: ∃ i,P.info? e=some i∧i.bytes=bytes:=by
  unfold xy4 at hby
  cases hi:P.info? e with
  | none=>simp [hi] at hby
  | some i=>simp [hi] at hby;exact ⟨i,rfl,hby⟩
 have hti:∀ w:World,(typeInfo e).run P w= .ok i w:=fun w=>by simp [typeInfo,hi]
 have wl:IntKind.i64.wrap len=len:=by
  simp only [IntKind.wrap,IntKind.bits,IntKind.signed];simp;omega
 have wc:IntKind.i64.wrap cap=cap:=by
  simp only [IntKind.wrap,IntKind.bits,IntKind.signed];simp;omega
 have hb1:¬ ((i.bytes:Int) * cap > 2 ^ 48):=by rw [hib];omega
 have hcond:((decide (cap<0) || decide ((i.bytes:Int) * cap > 2 ^ 48)) || decide (len<0) || decide (len > cap))=false:=by
  simp only [Bool.or_eq_false_iff,decide_eq_false_iff_not]
  exact ⟨⟨⟨by omega,hb1⟩,by omega⟩,by omega⟩
 simp only [Instr.makeSlice,Sem.run_bind,za7 ht,Result.andThen_ok,asInt,asIntOf,Sem.run_pure,hti,wl,wc]
 simp only [hcond,Bool.false_eq_true,if_false,Sem.run_bind,Sem.run_ite,run_askRoom,Result.andThen_ok,zg5 hs,Sem.run_pure]
 have hsz:size=z.cells.size:=by simpa using hzl.symm
 by_cases hn0:cap.toNat * size=0
 ·simp only [hn0,if_true,Result.andThen_ok,newRow,Sem.run_bind,run_newObj,Sem.run_pure]
  have:zs8 z.cells.toList cap.toNat=[]:=by
   apply List.eq_nil_of_length_eq_zero
   rw [zv4];simp;rw [hsz] at hn0;simpa using hn0
  have h00:((Array.range 0).map fun _=>(default:Value))=#[]:=by simp
  simp [this]
  first | done | rw [h00]
 ·simp only [hn0,if_false,zv5 hz,Result.andThen_ok,newRow,Sem.run_bind,run_newObj,Sem.run_pure]
  rw [yr9 z.cells cap.toNat _ (by rw [hsz])]
  rfl
theorem vj3 {o:Oper} {a:Act} {w:World} {next:Act→World→Prop} {Q:Exit→Act→World→Prop} {f:FuncId} {args:Array Value} {K:Value→World→Prop}
  (h:za0 P f args w K) (hnext:∀ v w',K v w'→next (a.put o.dst v) w'):o.upon P a next Q (.ok (.enter f args) w):=by
 rw [Oper.upon_enter]
 refine Calls.mono h fun e w' he=>?_
 obtain ⟨v,rfl,hk⟩:=he
 exact hnext v w' hk
theorem vj8 {f:FuncId} {args:List Value} {z:Option Value} {w:World} {K:Value→World→Prop} (h:qj9 P f args z w K):za0 P f args.toArray w K:=by
 cases z with
 | none=>exact h
 | some z =>
  refine Calls.mono h fun e w' he=>?_
  obtain ⟨v,rfl,hk⟩:=he
  obtain ⟨u,rfl,hk⟩:=vj1 hk
  exact ⟨_,rfl,hk⟩
theorem vp0 (f:Value→ByteArray→Sem (ForInStep ByteArray)) (hf:∀ (x:UInt8) (s:ByteArray) (w:World),(f (.int .u8 (x.toNat:Int)) s).run P w= .ok (.yield (s.push x)) w):∀ (l:List UInt8) (s:ByteArray) (w:World),
  (forIn (l.map fun x=>Value.int .u8 (x.toNat:Int)) s f).run P w= .ok ⟨s.data ++ l.toArray⟩ w
 | [],s,w=>by simp
 | x :: l,s,w=>by
  simp only [List.map_cons,List.forIn_cons,Sem.run_bind,hf,Result.andThen_ok]
  rw [vp0 f hf l (s.push x) w]
  congr 2
  apply Array.ext'
  simp [ByteArray.push]
theorem uh2 {w:World} {base:Option Addr} {len cap:Nat} {K:ByteArray→Prop} (h:vo4 w base len K):∃ s,K s∧(Conv.bytesToString (.slice base len cap)).run P w= .ok (.string s) w:=by
 unfold vo4 at h
 split at h
 ·exact ⟨_,h,by simp [Conv.bytesToString]⟩
 ·rename_i a
  obtain ⟨l,hl,hc,hk⟩:=h
  refine ⟨_,hk,?_⟩
  have hload:=run_loadCells_list (P:=P) w a (l.map fun x=>Value.int .u8 (x.toNat:Int)) (fun j v hj=>by simpa using xb2 hc j v hj)
  rw [List.length_map,hl] at hload
  simp only [Conv.bytesToString,Sem.run_bind,hload,Result.andThen_ok]
  rw [← Array.forIn_toList]
  rw [vp0 _ (fun x s w=>by simp) l ByteArray.empty w]
  simp
theorem Free.fn {F:Fence} (h:Free F) (f:FuncId):F.fn f:=by
 rcases h with rfl | ⟨l,rfl⟩<;>exact trivial
theorem Free.depth {F:Fence} (h:Free F):F.depth=none:=by
 rcases h with rfl | ⟨l,rfl⟩<;>rfl
theorem Free.calls {F:Fence} (h:Free F) {n:Nat} {f:FuncId} {args:Array Value} {w:World} {R:Ending→World→Prop} (hc:Calls P f args w R):CallsIn F n P f args w R:=by
 rcases h with rfl | ⟨l,rfl⟩
 ·exact callsIn_wide.2 hc
 ·exact CallsIn.inRound l (callsIn_wide.2 hc)
theorem Free.rows {F:Fence} (h:Free F) {n:Nat} {row:String} {args:Array Value} {w:World} {R:Value→World→Prop} (hc:Rows P row args w R):RowsIn F n P row args w R:=by
 intro c cs _
 obtain ⟨v,w',r,s⟩:=hc c cs
 refine ⟨v,w',r,?_⟩
 rcases h with rfl | ⟨l,rfl⟩
 ·exact stepsIn_wide.2 s
 ·rw [fenced_inRound];exact stepsIn_wide.2 s
def vn1 (o:Oper):Bool:=match o.op with
 | .defer _=>false
 | _=>true
theorem xu2 {o:Oper} (h:vn1 o=true):∀ c,o.op≠ .defer c:=by
 intro c e
 unfold vn1 at h
 rw [e] at h
 cases h
theorem qi7 {F:Fence} (hF:Free F) {n:Nat} {o:Oper} {a:Act} {w:World} {next next':Act→World→Prop} {Q:Exit→Act→World→Prop} (hd:vn1 o=true) (hn:∀ a w,next a w→next' a w) (h:o.wp P a w next Q):o.wpIn F n P a w next' Q:=by
 refine ⟨fun f _=>hF.fn f,?_⟩
 rw [Oper.semAt_plain F _ _ (xu2 hd)]
 unfold Oper.wp at h
 have hdep:(F.depth.isSome=true→1≤n):=fun hx=>by rw [hF.depth] at hx;cases hx
 cases hr:(execOp a.eval o).run P w with
 | ok x w' =>
  rw [hr] at h
  cases x with
  | value v=>exact hn _ _ h
  | skip=>exact hn _ _ h
  | defer d=>exact hn _ _ h
  | enter f args=>exact ⟨hdep,hF.calls (Calls.mono h fun e w'' he=>by
    cases e with
    | returned v=>exact hn _ _ he
    | panicked c=>exact he
    | outgrown=>exact he)⟩
  | row r args=>exact ⟨hdep,hF.rows (Rows.mono h fun v w'' he=>hn _ _ he)⟩
  | _=>exact h.elim
 | halt hh w' =>
  rw [hr] at h
  cases hh with
  | panic v=>exact h
  | _=>exact h.elim
def wpO (P:Program) (o:Oper) (a:Act) (w:World) (next:Act→World→Prop) (Q:Exit→Act→World→Prop):Prop :=
 vn1 o=true∧∀ (F:Fence),Free F→∀ n,o.wpIn F n P a w next Q
theorem wpO.of {o:Oper} {a:Act} {w:World} {next:Act→World→Prop} {Q:Exit→Act→World→Prop} (hd:vn1 o=true) (h:o.wp P a w next Q):wpO P o a w next Q :=
 ⟨hd,fun _ hF _=>qi7 hF hd (fun _ _ h=>h) h⟩
theorem wpO.mono {o:Oper} {a:Act} {w:World} {K K':Act→World→Prop} {Q:Exit→Act→World→Prop} (h:∀ a w,K a w→K' a w) (hh:wpO P o a w K Q):wpO P o a w K' Q :=
 ⟨hh.1,fun F hF n=>Oper.wpIn_mono h (hh.2 F hF n)⟩
def qh3 (o:Oper) (ε:Env):Prop:=∃ c x l fs cs,o.op= .call c∧c.callee= .value x∧ev ε x=some (.func (.yield l) fs cs)
theorem vx6 {l:Nat} {args:List Value} {z:Option Value} {w:World} {K:Value→World→Prop} (h:vb9 P l args w fun v w'=>match z with
  | some z=>exSh z fun u=>v=u∧K u w'
  | none=>K v w'):vb9 P l args w K:=by
 intro F n hF
 obtain ⟨fn,tmps,assign,body,h1,h2⟩:=h F n hF
 refine ⟨fn,tmps,assign,body,h1,h2.mono fun e w' he=>?_⟩
 obtain ⟨v,rfl,hk⟩:=he
 cases z with
 | none=>exact ⟨v,rfl,hk⟩
 | some z =>
  obtain ⟨u,rfl,hk⟩:=vj1 hk
  exact ⟨_,rfl,hk⟩
theorem qb3 {o:Oper} {ε:Env} {a:Act} {w:World} {K:Value→World→Prop} {next:Act→World→Prop} {Q:Exit→Act→World→Prop} (hε:EnvD ds ε a)
  (hy:¬ qh3 o ε) (h:effP P o ε w K) (hnext:∀ v w',K v w'→next (a.put o.dst v) w'):o.wp P a w next Q:=by
 obtain ⟨dst,op,type,pos,after,guard⟩:=o
 unfold Oper.wp
 have value:∀ {v:Value} {w':World},K v w'→(execOp a.eval ⟨dst,op,type,pos,after,guard⟩).run P w= .ok (.value v) w'→
   Oper.upon P ⟨dst,op,type,pos,after,guard⟩ a next Q ((execOp a.eval ⟨dst,op,type,pos,after,guard⟩).run P w):=by
  intro v w' hk he
  rw [he]
  exact hnext v w' hk
 cases op with
 | alloc e =>
  simp only [effP] at h
  split at h
  ·rename_i z hz
   refine value (h _ _ ⟨rfl,rfl⟩) ?_
   simp [execOp,Instr.alloc,zv5 hz,newVar,newRow]
  ·exact h.elim
 | box e x =>
  simp only [effP] at h
  split at h
  ·rename_i v hv
   refine value (h _ _ ⟨rfl,rfl⟩) ?_
   simp [execOp,Instr.box,hε.eval hv,newVar,newRow]
  ·exact h.elim
 | buildSlice t len parts =>
  simp only [effP] at h
  split at h
  ·rename_i e ps ht hps
   split at h
   ·rename_i z size hz hsz
    split at h
    ·exact h.elim
    ·rename_i h24
     split at h
     ·rename_i cs hcs
      refine value (h _ _ ⟨rfl,rfl⟩) ?_
      have hparts:(parts.map fun (x:Nat×Operand)=>(x.1,a.eval x.2))=ps.toArray:=by apply Array.ext';simp [xa9 hε hps]
      have hzs:=vb8 hz
      rw [hsz] at hzs
      cases hzs
      have hfill:=xj2 (place':=fun i=>some (i * z.cells.size,z.cells.size)) (fun i=>rfl) hcs
      simp only [execOp]
      rw [show (parts.map fun (i,x)=>(i,a.eval x))=ps.toArray from hparts]
      have h24':¬ len * z.cells.size > 2 ^ 24:=h24
      by_cases hn0:len * z.cells.size=0
      ·have hnil:zs8 z.cells.toList len=[]:=by
        apply List.eq_nil_of_length_eq_zero
        rw [zv4];simpa using hn0
       rw [hnil] at hfill
       simp only [Instr.buildSlice,Sem.run_bind,za7 ht,Result.andThen_ok,zg5 hsz,Sem.run_ite,h24',if_false,hn0,if_true,Sem.run_pure]
       have:((Array.range 0).map fun x=>(#[]:Array Value)[x % (#[]:Array Value).size]!)=#[]:=by simp
       simp only [this]
       simp only [List.toArray] at hfill
       simp [hfill,newRow]
      ·simp only [Instr.buildSlice,Sem.run_bind,za7 ht,Result.andThen_ok,zg5 hsz,Sem.run_ite,h24',if_false,hn0,zv5 hz,Sem.run_pure]
       simp only [yr9 z.cells len _ rfl]
       simp [hfill,newRow]
     ·exact h.elim
   ·exact h.elim
  ·exact h.elim
 | store t p x =>
  simp only [effP] at h
  split at h
  ·rename_i b v n hb hv hn
   split at h
   ·rename_i hc
    obtain ⟨hl,h1⟩:=hc
    obtain ⟨w',hk,hw⟩:=yr6 (P:=P) h (fun u hu=>List.all_eq_true.1 h1 u hu)
    have hl':v.cells.size=n:=by simpa using hl
    have:(execOp a.eval ⟨dst,.store t p x,type,pos,after,guard⟩).run P w= .ok .skip w':=by
     simp [execOp,Instr.storeAt,Instr.sureAddr,hε.eval hb,hε.eval hv,storeVar,zg5 hn,hl',hw]
    rw [this]
    exact hnext _ _ hk
   ·exact h.elim
  ·exact h.elim
 | makeSlice t l c =>
  simp only [effP] at h
  split at h
  ·rename_i e k len k' cap ht hl hc
   split at h
   ·rename_i z size bytes hz hs hby
    obtain ⟨v,w',hk,hw⟩:=vg5 ht hz hs hby h k k'
    refine value hk ?_
    simp [execOp,hε.eval hl,hε.eval hc,hw]
   ·exact h.elim
  ·exact h.elim
 | call c =>
  simp only [effP] at h
  split at h
  ·rename_i f args hcal hargs
   have hA:=yc9 hε hargs
   split at h
   ·rename_i hb
    have:(execOp a.eval ⟨dst,.call c,type,pos,after,guard⟩).run P w= .ok (.enter f args.toArray) w:=by
     simp [execOp,resolve,hcal,hA,Act.eval,Deferred.ofValue,invoke,xe0 hb]
    rw [this]
    exact vj3 (vj8 h) hnext
   ·split at h
    ·obtain ⟨v,hx,hk⟩:=vj1 h
     refine value hk ?_
     have hx':(callFunc f args.toArray).run P w= .ok (.value v) w:=hx
     simp [execOp,resolve,hcal,hA,Act.eval,Deferred.ofValue,invoke,hx']
    ·exact h.elim
  ·rename_i x args _ hcal hargs
   have hA:=yc9 hε hargs
   split at h
   ·rename_i v hv
    unfold qn1 at h
    split at h
    ·rename_i f first captured
     obtain ⟨hb,h⟩:=h
     have:(execOp a.eval ⟨dst,.call c,type,pos,after,guard⟩).run P w= .ok (.enter f (first.toList ++ args ++ captured.toList).toArray) w:=by
      simp [execOp,resolve,hcal,hA,hε.eval hv,Deferred.ofValue,invoke,xe0 hb]
     rw [this]
     exact vj3 (vj8 h) hnext
    ·exact absurd ⟨_,_,_,_,_,rfl,hcal,hv⟩ hy
    ·exact h.elim
   ·exact h.elim
  ·rename_i base l cp x hcal hargs
   have hA:=yc9 hε hargs
   split at h
   ·rename_i t u hty
    have hT:c.argTypes=#[t,u]:=by apply Array.ext';simpa using hty
    split at h
    ·rename_i e d ht hu
     split at h
     ·rename_i z size bytes _ hz hs hby
      obtain ⟨v,w',hk,hw⟩:=xy5 ht hu (fun k=>by simp) hz hs hby h type
      refine value hk ?_
      simp only [execOp,resolve,hcal,hA,hT,invoke,builtin]
      simp [hw]
     ·rename_i z size bytes hz hs hby
      obtain ⟨v,w',hk,hw⟩:=xy5 ht hu (fun k=>by simp) hz hs hby h type
      refine value hk ?_
      simp only [execOp,resolve,hcal,hA,hT,invoke,builtin]
      simp [hw]
     ·rename_i z size bytes ki hz hs hby
      split at h
      ·rename_i kx m
       obtain ⟨v,w',hk,hw⟩:=vx1 (kx:=kx) ht hu hz hs hby h type
       refine value hk ?_
       simp only [execOp,resolve,hcal,hA,hT,invoke,builtin]
       simp [hw]
      ·exact h.elim
     ·exact h.elim
    ·exact h.elim
   ·exact h.elim
  ·rename_i base l cp x hcal hargs
   have hA:=yc9 hε hargs
   split at h
   ·rename_i t ts hty
    have hT:c.argTypes=(t :: ts).toArray:=by apply Array.ext';simpa using hty
    split at h
    ·rename_i e ht
     split at h
     ·rename_i size hs
      obtain ⟨v,w',hk,hw⟩:=uu5 (cp:=cp) ht hs h ts type
      refine value hk ?_
      simp only [execOp,resolve,hcal,hA,hT,invoke,builtin]
      simp [hw]
     ·exact h.elim
    ·exact h.elim
   ·exact h.elim
  ·rename_i base l cp hcal hargs
   have hA:=yc9 hε hargs
   split at h
   ·rename_i t ts hty
    have hT:c.argTypes=(t :: ts).toArray:=by apply Array.ext';simpa using hty
    split at h
    ·rename_i e ht
     split at h
     ·rename_i z hz
      obtain ⟨w',hk,hw⟩:=ul4 (cp:=cp) ht hz h ts type
      refine value hk ?_
      simp only [execOp,resolve,hcal,hA,hT,invoke,builtin]
      simp [hw]
     ·exact h.elim
    ·exact h.elim
   ·exact h.elim
  ·exact h.elim
 | convert src dst x =>
  simp only [effP] at h
  split at h
  ·rename_i e base len cap hs hd hx
   split at h
   ·rename_i he
    obtain ⟨s,hk,hr⟩:=uh2 (P:=P) (cap:=cap) h
    refine value hk ?_
    simp only [execOp,hε.eval hx]
    simp [convert,za7 hs,za7 hd,za7 he,hr]
   ·exact h.elim
  ·rename_i e s hs hd hx
   split at h
   ·rename_i he
    have hle:s.size≤grownCap w s.size 0 e:=by simp [grownCap,Question.cut]
    refine value (h _ _ _ hle ⟨rfl,rfl⟩) ?_
    have hrun:=run_bytes_of_string w src dst e s hs hd he
    have hcells:bytesRow s (grownCap w s.size 0 e)=(s.data.toList.map (fun x:UInt8=>Value.int .u8 (x.toNat:Int)) ++ List.replicate (grownCap w s.size 0 e - s.size) (Value.int .u8 0)).toArray:=by
     apply Array.ext'
     simp [bytesRow]
    have hcs:(bytesRow s (grownCap w s.size 0 e)).size=grownCap w s.size 0 e:=by
     rw [hcells]
     have:s.data.size=s.size:=rfl
     simp
     omega
    rw [hcs,hcells] at hrun
    simp only [execOp,hε.eval hx,Sem.run_bind,hrun,Result.andThen_ok,Sem.run_pure]
    rfl
   ·exact h.elim
  ·exact h.elim
 | _=>simp only [effP] at h
theorem ue8 {o:Oper} {ε:Env} {w:World} {K:Value→World→Prop} (h:effP P o ε w K):vn1 o=true:=by
 unfold vn1
 unfold effP at h
 cases ho:o.op<;>rw [ho] at h<;>first | rfl | exact h.elim
theorem qb2 {o:Oper} {ε:Env} {a:Act} {w:World} {K:Value→World→Prop} {next:Act→World→Prop} {Q:Exit→Act→World→Prop} (hε:EnvD ds ε a)
  (h:effP P o ε w K) (hnext:∀ v w',K v w'→next (a.put o.dst v) w'):wpO P o a w next Q:=by
 by_cases hy:qh3 o ε
 ·obtain ⟨c,x,l,fs,cs,ho,hcal,hv⟩:=hy
  have hnd:=ue8 h
  refine ⟨hnd,fun F hF n=>⟨fun f _=>hF.fn f,?_⟩⟩
  rw [Oper.semAt_plain F _ _ (xu2 hnd)]
  obtain ⟨dst,op,type,pos,after,guard⟩:=o
  cases ho
  simp only [effP] at h
  split at h
  ·rename_i f args hcal' hargs
   rw [hcal] at hcal'
   cases hcal'
   cases hv
  ·rename_i x' args _ hcal' hargs
   rw [hcal] at hcal'
   cases hcal'
   rw [hv] at h
   have hA:=yc9 hε hargs
   obtain ⟨h1,h2,h⟩:=h
   obtain ⟨fn,tmps,assign,body,hr,hR⟩:=vx6 h F (n - 1) hF
   have e1:fs=#[]:=Array.toList_eq_nil_iff.1 h1
   have:(execOp a.eval ⟨dst,.call c,type,pos,after,guard⟩).run P w= .ok (.round l fn tmps assign body) w:=by
    simp [execOp,resolve,hcal,hA,hε.eval hv,Deferred.ofValue,invoke,e1,hr]
   rw [this]
   refine ⟨(fun hx=>by rw [hF.depth] at hx;cases hx),hR.mono fun e w' he=>?_⟩
   obtain ⟨v,rfl,hk⟩:=he
   exact hnext v w' hk
  all_goals first | (rename_i hcal' _;rw [hcal] at hcal';cases hcal') | exact h.elim
 ·exact wpO.of (ue8 h) (qb3 hε hy h hnext)
end
def putE (n:Nat) (dst:Option Tmp) (v:Value) (ε:Env) (K:Env→Prop):Prop :=
 match dst with
 | none=>K ε
 | some d=>if d<n then K ((d,v) :: ε) else False
def vy5 (ops:List Oper) (j:Nat):Option Tmp :=
 match ops[j]? with
 | some o=>o.dst
 | none=>none
def ud1 (ops:List Oper) (o:Oper) (ε:Env) (K:Bool→Env→Prop):Prop :=
 match o.guard with
 | none=>K true ε
 | some (j,want)=>match vy5 ops j with
  | none=>K false ε
  | some d=>match ε.get d with
   | some (.bool b)=>match b with
    | true=>K want ((d,.bool true) :: ε)
    | false=>K (!want) ((d,.bool false) :: ε)
   | some _=>K false ε
   | none=>False
def opP (P:Program) (n:Nat) (o:Oper) (ε:Env) (w:World) (K:Env→World→Prop):Prop :=
 if xf4 P o.op then yf8 P (fun φ=>φ w) o.op ε fun v=>putE n o.dst v ε fun ε'=>K ε' w
 else effP P o ε w fun v w'=>putE n o.dst v ε fun ε'=>K ε' w'
def opsP (P:Program) (n:Nat) (ops:List Oper):List Nat→Env→World→(Env→World→Prop)→Prop
 | [],ε,w,K=>K ε w
 | i :: rest,ε,w,K=>match ops[i]? with
  | none=>False
  | some o=>ud1 ops o ε fun run ε=>match run with
   | true=>opP P n o ε w fun ε' w'=>opsP P n ops rest ε' w' K
   | false=>putE n o.dst undef ε fun ε'=>opsP P n ops rest ε' w K
def ve0 (ops:List Oper) (ex:List Nat):List Nat :=
 (List.range ops.length).filter fun i=> !ex.contains i && (match ops[i]? with
  | some o=>o.after.toList.all fun e=> !Region.binds .any e || ex.contains e.on
  | none=>false)
def ub0:Op→List Operand
 | .alloc _=>[]
 | .ready _=>[]
 | .waits _=>[]
 | .move x=>[x]
 | .assign x=>[x]
 | .box _ x=>[x]
 | .load _ x=>[x]
 | .nilCheck x=>[x]
 | .unOp _ _ x=>[x]
 | .convert _ _ x=>[x]
 | .sliceToArrayPointer _ x=>[x]
 | .makeInterface _ x=>[x]
 | .makeChan _ x=>[x]
 | .fieldAddr _ x _=>[x]
 | .field _ x _=>[x]
 | .range _ x=>[x]
 | .next x _=>[x]
 | .entry x=>[x]
 | .typeAssert x _ _ _=>[x]
 | .extract x _=>[x]
 | .panic x=>[x]
 | .recv _ x _=>[x]
 | .pick c a b=>[c,a,b]
 | .build _ ps=>ps.toList.map (·.2)
 | .buildSlice _ _ ps=>ps.toList.map (·.2)
 | .store _ a v=>[a,v]
 | .binOp _ _ a v _=>[a,v]
 | .makeSlice _ a v=>[a,v]
 | .indexAddr _ a v=>[a,v]
 | .index _ a v=>[a,v]
 | .lookup _ a v _=>[a,v]
 | .mapEntry _ a v=>[a,v]
 | .send a v=>[a,v]
 | .makeFunc _ first captured=>first.toList ++ captured.toList
 | .makeMap _ r=>r.toList
 | .slice _ x l h m=>[x] ++ l.toList ++ h.toList ++ m.toList
 | .mapUpdate _ m k v=>[m,k,v]
 | .entryStore _ m k v=>[m,k,v]
 | .insert _ m k v=>[m,k,v]
 | .call c=>callL c
 | .go c=>callL c
 | .defer c=>callL c
 | .select _ _=>[]
 where callL (c:Call):List Operand:=(match c.callee with | .value f=>[f] | .invoke r _=>[r] | .builtin _=>[]) ++ c.args.toList
def uo3 (ops:List Oper) (o:Oper):List Tmp :=
 ((ub0 o.op).filterMap fun | .tmp t=>some t | _=>none) ++
 (match o.guard with
  | some (g,_)=>(vy5 ops g).toList
  | none=>[])
def qc1 (ops:List Oper) (x y:Oper):Bool :=
 (match x.dst with
  | some d=> !(uo3 ops y).contains d && y.dst != some d
  | none=>true) &&
 (match y.dst with
  | some d=> !(uo3 ops x).contains d
  | none=>true)
def qf6 (ops:List Oper) (ex:List Nat) (i:Nat):Bool :=
 match ops[i]? with
 | none=>false
 | some oi=>(List.range ops.length).all fun j=>j == i || ex.contains j || match ops[j]? with
   | some oj=>(oj.after.toList.any fun e=>Region.binds .any e && e.on == i) || qc1 ops oi oj
   | none=>true
def uy9 (ops:List Oper):Bool:=ops.all fun o=>match o.op with | .select ..=>false | _=>true
def ux0 (P:Program) (ops:List Oper) (ex:List Nat):List Nat→Option Nat
 | []=>none
 | i :: is=>match ops[i]? with
  | some o=>if xf4 P o.op && qf6 ops ex i then some i else ux0 P ops ex is
  | none=>ux0 P ops ex is
def allL (K:Nat→Prop):List Nat→Prop
 | []=>True
 | [i]=>K i
 | i :: j :: r=>K i∧allL K (j :: r)
def xl1:Op→Bool
 | .load ..=>true
 | _=>false
def vn2 (ops:List Oper) (i:Nat):Bool :=
 (List.range ops.length).any fun j=>j != i && (match ops[j]? with
  | some o=>xl1 o.op && (match ops[i]? with
   | some oi=> !(oi.after.toList.any fun e=>Region.binds .any e && e.on == j)
   | none=>false)
  | none=>false)
def qj8 (b:Bool) (X Y:Prop):Prop :=
 match b with
 | true=>X∧Y
 | false=>Y
def ul0 (S:World→Prop) (o:Op):(World→Prop)→Prop:=if xl1 o then fun φ=>∀ u,S u→φ u else fun φ=>∀ u,φ u
def ue9 (P:Program) (n:Nat) (ops:List Oper) (S:World→Prop):Nat→List Nat→Env→World→(Env→World→Prop)→Prop
 | 0,ex,ε,w,K=>match ve0 ops ex with
  | []=>K ε w
  | _=>False
 | fuel+1,ex,ε,w,K=>match ve0 ops ex with
  | []=>K ε w
  | r :: rs=>match ux0 P ops ex (r :: rs) with
   | some i=>match ops[i]? with
    | none=>False
    | some o=>ud1 ops o ε fun run ε=>match run with
     | true=>yf8 P (ul0 S o.op) o.op ε fun v=>putE n o.dst v ε fun ε'=>ue9 P n ops S fuel (i :: ex) ε' w K
     | false=>putE n o.dst undef ε fun ε'=>ue9 P n ops S fuel (i :: ex) ε' w K
   | none=>allL (fun i=>match ops[i]? with
    | none=>False
    | some o=>ud1 ops o ε fun run ε=>match run with
     | true=>opP P n o ε w fun ε' w'=>qj8 (vn2 ops i) (S w') (ue9 P n ops S fuel (i :: ex) ε' w' K)
     | false=>putE n o.dst undef ε fun ε'=>qj8 (vn2 ops i) (S w) (ue9 P n ops S fuel (i :: ex) ε' w K)) (r :: rs)
def yn6:Code→Option Nat
 | .region i _ _=>some i
 | .seq a b=>match yn6 a with | some i=>some i | none=>yn6 b
 | .cond _ a b=>match yn6 a with | some i=>some i | none=>yn6 b
 | .block _ a=>yn6 a
 | .loop a=>yn6 a
 | .scope a=>yn6 a
 | _=>none
def wrs:Code→List Nat
 | .region _ ops _=>ops.toList.filterMap (·.dst)
 | .seq a b=>wrs a ++ wrs b
 | .cond _ a b=>wrs a ++ wrs b
 | .block _ a=>wrs a
 | .loop a=>wrs a
 | .scope a=>wrs a
 | _=>[]
abbrev vx5:=List (Nat×List Nat×List Nat×List Value)
def uo0:vx5→Option Nat→Option (List Nat×List Nat×List Value)
 | [],_=>none
 | _,none=>none
 |(k,r) :: ms,some i=>if k=i then some r else uo0 ms (some i)
def xk6 (keep ts:List Nat) (ws:List Nat):Bool:=(keep.all fun t=> !ws.contains t) && nodupL ts
 where nodupL:List Nat→Bool
 | []=>true
 | t :: r=> !r.contains t && nodupL r
def den (P:Program) (n:Nat) (cuts loops:vx5):Code→(Exit→Env→World→Prop)→Env→World→Prop
 | .skip,Q,ε,w=>Q .normal ε w
 | .region _ ops d,Q,ε,w=>match d with
  | false=>opsP P n ops.toList (List.range ops.toList.length) ε w fun ε' w'=>Q .normal ε' w'
  | true=>if uy9 ops.toList then ∀ u,Drew w u→∃ S:World→Prop,S u∧ue9 P n ops.toList S ops.toList.length [] ε u fun ε' w'=>Q .normal ε' w' else False
 | .seq a b,Q,ε,w=>match uo0 cuts (yn6 b) with
  | none=>den P n cuts loops a (fun e ε' w'=>match e with | .normal=>den P n cuts loops b Q ε' w' | e=>Q e ε' w') ε w
  | some (keep,ts,zs)=>if xk6 keep ts (wrs a) then
    ∃ J:uq2 (World→Prop) zs,den P n cuts loops a (fun e ε' w'=>match e with
     | .normal=>(match getL ε' ts with
      | some vs=>xn4 (yq3 zs J vs) w'
      | none=>False)
     | e=>Q e ε' w') ε w∧
    ug3 zs fun vs=>∀ w',xn4 (yq3 zs J vs) w'→den P n cuts loops b Q (Env.laid ts vs (Env.keep ε keep)) w'
   else False
 | .cond c a b,Q,ε,w=>match ev ε c with
  | some (.bool t)=>match t with
   | true=>den P n cuts loops a Q ε w
   | false=>den P n cuts loops b Q ε w
  | _=>False
 | .block id a,Q,ε,w=>den P n cuts loops a (fun e ε' w'=>match e with
  | .exit id'=>if id'=id then Q .normal ε' w' else Q (.exit id') ε' w'
  | e=>Q e ε' w') ε w
 | .loop a,Q,ε,w=>match uo0 loops (yn6 a) with
  | none=>False
  | some (keep,ts,zs)=>if xk6 keep ts (wrs a) then match getL ε ts with
    | none=>False
    | some vs₀=>∃ J:uq2 (World→Prop) zs,∃ μ:uq2 (World→Nat) zs,xn4 (yq3 zs J vs₀) w∧
     ug3 zs fun vs=>∀ w',xn4 (yq3 zs J vs) w'→den P n cuts loops a (fun e ε' w''=>match e with
      | .normal=>(match getL ε' ts with
       | some us=>xn4 (yq3 zs J us) w''∧uz0 (yq3 zs μ us) w'' < uz0 (yq3 zs μ vs) w'
       | none=>False)
      | e=>Q e ε' w'') (Env.laid ts vs (Env.keep ε keep)) w'
   else False
 | .exit id,Q,ε,w=>Q (.exit id) ε w
 | .ret,Q,ε,w=>Q .ret ε w
 | .label _,Q,ε,w=>Q .normal ε w
 | .goto _,_,_,_=>False
 | _,_,_,_=>False
def resP (P:Program) (ε:Env) (w:World):List ResultVar→(List Value→Prop)→Prop
 | [],K=>K []
 | .tmp t :: r,K=>match ε.get t with
  | some v=>resP P ε w r fun vs=>K (v :: vs)
  | none=>False
 | .cell t ty :: r,K=>match ε.get t with
  | some (.pointer (some a))=>qf0 P ty a (fun φ=>φ w) fun v=>resP P ε w r fun vs=>K (v :: vs)
  | _=>False
def vd8:List Value→Value
 | [v]=>v
 | vs=>.tuple vs.toArray
def retQ (P:Program) (rs:List ResultVar) (R:Value→World→Prop):Exit→Env→World→Prop
 | .normal,ε,w=>resP P ε w rs fun vs=>R (vd8 vs) w
 | .ret,ε,w=>resP P ε w rs fun vs=>R (vd8 vs) w
 | _,_,_=>False
def vs6:Nat→List Value→Env
 | _,[]=>[]
 | i,v :: vs=>(i,v) :: vs6 (i+1) vs
def hasR:Code→Bool
 | .rangeFunc _ _ _ _=>true
 | .seq a b=>hasR a || hasR b
 | .block _ a=>hasR a
 | _=>false
def uw7 (P:Program) (v:Value) (w:World) (round:Nat→Loop→List Value→World→(Value→World→Prop)→Prop) (K:Nat→World→Prop):Prop :=
 match v with
 | .func (.func gf) first cap=>first.toList=[]∧xn5 P gf=true∧∀ (D l:Nat) (r:Loop) (w1 w2:World),New w (.deferred (some [])) D w1→New w1 (.loop r) l w2→
  (∀ args W R,W.heap[l]?=some (.loop r)→round l r args W R→vb9 P l args W R)→
  za0 P gf (.func (.yield l) #[] #[] :: cap.toList).toArray w2 fun _ w3=>w3.heap[l]?=some (.loop r)∧∀ o,K D (w3.putObj l o)
 | _=>False
def qk2 (l:Nat) (r:Loop) (w:World) (K:World→Prop):Prop:=w.heap[l]?=some (.loop r)∧K (w.putObj l (.loop { r with state:=.busy }))
def uw6 (l:Nat) (r:Loop) (w:World) (R:Value→World→Prop):Prop:=w.heap[l]?=some (.loop { r with state:=.busy })∧R (.bool true) (w.putObj l (.loop r))
def uy8 (n:Nat) (keep ts ps:List Nat) (zs:Nat):Bool:=decide (ts=ps) && decide (zs=ts.length) && xk6 keep ts ts && ts.all fun t=>decide (t<n)
def denD (P:Program) (n:Nat) (cuts loops:vx5):Code→(Exit→List Nat→Env→World→Prop)→List Nat→Env→World→Prop
 | .rangeFunc g ps ag bd,Q,Ds,ε,w=>match Ds with
  | []=>match ev ε g with
   | some v=>match uo0 loops (yn6 (.seq ag bd)) with
     | some (keep,ts,zs)=>match uy8 n keep ts ps.toList zs.length with
      | true=>uw7 P v w (fun l r args W R=>uu1 zs fun vs=>args=vs∧den P n cuts loops ag (fun e ε1 Wa=>match e with
        | .normal=>qk2 l r Wa fun Wb=>den P n cuts loops bd (fun e _ U=>match e with
         | .normal=>uw6 l r U R
         | _=>False) ε1 Wb
        | _=>False) (Env.laid ts vs (Env.keep ε keep)) W) fun D w'=>Q .normal [D] ε w'
      | false=>False
     | none=>False
   | none=>False
  | _=>False
 | .seq a b,Q,Ds,ε,w=>match hasR a || hasR b with
  | true=>denD P n cuts loops a (fun e Ds' ε' w'=>match e with
   | .normal=>denD P n cuts loops b Q Ds' ε' w'
   | e=>Q e Ds' ε' w') Ds ε w
  | false=>den P n cuts loops (.seq a b) (fun e ε' w'=>Q e Ds ε' w') ε w
 | .block id a,Q,Ds,ε,w=>match hasR a with
  | true=>denD P n cuts loops a (fun e Ds' ε' w'=>match e with
   | .exit id'=>if id'=id then Q .normal Ds' ε' w' else Q (.exit id') Ds' ε' w'
   | e=>Q e Ds' ε' w') Ds ε w
  | false=>den P n cuts loops (.block id a) (fun e ε' w'=>Q e Ds ε' w') ε w
 | c,Q,Ds,ε,w=>den P n cuts loops c (fun e ε' w'=>Q e Ds ε' w') ε w
def ql9 (P:Program) (rs:List ResultVar) (R:Value→World→Prop):Exit→List Nat→Env→World→Prop
 | e,[],ε,w=>retQ P rs R e ε w
 | .normal,[D],ε,w=>w.heap[D]?=some (.deferred (some []))∧resP P ε (w.putObj D (.deferred none)) rs fun vs=>R (vd8 vs) (w.putObj D (.deferred none))
 | .ret,[D],ε,w=>w.heap[D]?=some (.deferred (some []))∧resP P ε (w.putObj D (.deferred none)) rs fun vs=>R (vd8 vs) (w.putObj D (.deferred none))
 | _,_,_,_=>False
def qh2 (P:Program) (fn:Func) (cuts loops:vx5) (args:List Value) (w:World) (R:Value→World→Prop):Prop :=
 match fn.body with
 | some c=>if args.length≤fn.ntmps then (match hasR c with
  | true=>denD P fn.ntmps cuts loops c (ql9 P fn.results.toList R) [] (vs6 0 args) w
  | false=>den P fn.ntmps cuts loops c (retQ P fn.results.toList R) (vs6 0 args) w) else False
 | none=>False
section
variable {P:Program} {ds:List Deferred}
def zr3 (ts:List Nat) (a a':Act):Prop:=∀ t,t ∉ ts→a'.tmps[t]?=a.tmps[t]?
theorem zr3.refl (ts:List Nat) (a:Act):zr3 ts a a:=fun _ _=>rfl
theorem zr3.trans {ts:List Nat} {a b c:Act} (h:zr3 ts a b) (k:zr3 ts b c):zr3 ts a c:=fun t ht=>(k t ht).trans (h t ht)
theorem zr3.mono {ts us:List Nat} {a b:Act} (h:zr3 ts a b) (hs:∀ t,t∈ts→t∈us):zr3 us a b:=fun t ht=>h t fun hm=>ht (hs t hm)
theorem zr3.put {ts:List Nat} (a:Act) (d:Option Tmp) (v:Value) (hd:∀ t,d=some t→t∈ts):zr3 ts a (a.put d v):=by
 intro t ht
 cases d with
 | none=>rfl
 | some d =>
  have:d≠t:=fun e=>ht (hd t (by rw [e]))
  simp [Act.put,Array.getElem?_setIfInBounds_ne this]
theorem xi1 (a:Act) (d:Option Tmp) (v:Value):(a.put d v).tmps.size=a.tmps.size:=by cases d<;>simp [Act.put]
theorem yr3 {n:Nat} {dst:Option Tmp} {v:Value} {ε:Env} {K:Env→Prop} {a:Act} (hε:EnvD ds ε a) (hn:a.tmps.size=n) (h:putE n dst v ε K):∃ ε',EnvD ds ε' (a.put dst v)∧K ε':=by
 unfold putE at h
 cases dst with
 | none=>exact ⟨ε,hε,h⟩
 | some d =>
  simp only at h
  by_cases hd:d<n
  ·have hd':d<a.tmps.size:=Nat.lt_of_lt_of_eq hd hn.symm
   rw [if_pos hd] at h
   exact ⟨_,hε.put hd' v,h⟩
  ·rw [if_neg hd] at h;exact h.elim
theorem xn6 {ops:Array Oper} {o:Oper} {ε:Env} {K:Bool→Env→Prop} {a:Act} (hε:EnvD ds ε a) (h:ud1 ops.toList o ε K) :
  ∃ run ε',Region.wanted o (yielded ops a.tmps)=run∧EnvD ds ε' a∧K run ε':=by
 unfold ud1 at h
 unfold Region.wanted
 split at h
 ·rename_i hg;simp only [hg];exact ⟨true,ε,rfl,hε,h⟩
 ·rename_i j want hg
  simp only [hg]
  have hslot:(ops[j]?).bind (·.dst)=vy5 ops.toList j:=by
   unfold vy5;rw [Array.getElem?_toList];cases ops[j]?<;>rfl
  split at h
  ·rename_i hs
   refine ⟨false,ε,?_,hε,h⟩
   simp [yielded,hslot,hs]
  ·rename_i d hs
   split at h
   ·rename_i b hb
    have ha:=hε.2 d _ hb
    have hy:yielded ops a.tmps j=some b:=by simp [yielded,hslot,hs,ha]
    have hε':EnvD ds ((d,.bool b) :: ε) a:=⟨hε.1,fun t v hv=>by
     simp only [Env.get] at hv
     split at hv
     ·rename_i e;subst e;cases hv;exact ha
     ·exact hε.2 t v hv⟩
    cases b with
    | true=>exact ⟨want,_,by rw [hy];cases want<;>rfl,hε',h⟩
    | false=>exact ⟨!want,_,by rw [hy];cases want<;>rfl,hε',h⟩
   ·rename_i v hv hd
    have ha:=hε.2 d _ hd
    refine ⟨false,ε,?_,hε,h⟩
    have hy:yielded ops a.tmps j=none:=by
     simp only [yielded,hslot,hs,Option.bind_some,ha]
     cases v<;>first | rfl | (exact (hv _ rfl).elim)
    simp [hy]
   ·exact h.elim
theorem qh4 (w:World):∀ φ ψ:World→Prop,(∀ w,φ w→ψ w)→(fun φ:World→Prop=>φ w) φ→(fun φ:World→Prop=>φ w) ψ:=fun _ _ h hφ=>h _ hφ
theorem xm6 {o:Oper} (h:xf4 P o.op=true):vn1 o=true:=by
 unfold vn1
 unfold xf4 at h
 cases ho:o.op<;>rw [ho] at h<;>first | rfl | cases h
theorem un9 {n:Nat} {o:Oper} {ε:Env} {a:Act} {w:World} {K:Env→World→Prop} {next:Act→World→Prop} {Q:Exit→Act→World→Prop} (hε:EnvD ds ε a) (hn:a.tmps.size=n)
  (h:opP P n o ε w K) (hnext:∀ v ε' w',EnvD ds ε' (a.put o.dst v)→K ε' w'→next (a.put o.dst v) w'):wpO P o a w next Q:=by
 unfold opP at h
 split at h
 ·rename_i hqu
  obtain ⟨v,hk,hw⟩:=ve3 hε (qh4 w) (fun φ hφ=>hφ w) h
  obtain ⟨ε',hε',hk⟩:=yr3 hε hn hk
  refine wpO.of (xm6 hqu) ?_
  unfold Oper.wp
  rw [hw]
  exact hnext v ε' w hε' hk
 ·refine qb2 hε h fun v w' hk=>?_
  obtain ⟨ε',hε',hk⟩:=yr3 hε hn hk
  exact hnext v ε' w' hε' hk
def wpOq (P:Program) (ops:Array Oper) (Q:Exit→Act→World→Prop) (i:Nat) (K:Act→World→Prop) (a:Act) (w:World):Prop :=
 match ops[i]? with
 | none=>K a w
 | some o=>if Region.wanted o (yielded ops a.tmps) then wpO P o a w K Q else K (a.put o.dst undef) w
theorem wpOq.mono {ops:Array Oper} {Q:Exit→Act→World→Prop} {i:Nat} {K K':Act→World→Prop} {a:Act} {w:World} (h:∀ a w,K a w→K' a w) (hh:wpOq P ops Q i K a w):wpOq P ops Q i K' a w:=by
 unfold wpOq at *
 cases ho:ops[i]? with
 | none=>rw [ho] at hh;exact h _ _ hh
 | some o =>
  rw [ho] at hh
  simp only at hh ⊢
  split at hh
  ·rename_i hw;rw [if_pos hw];exact hh.mono h
  ·rename_i hw;rw [if_neg hw];exact h _ _ hh
theorem wpOq.in {F:Fence} (hF:Free F) {m:Nat} {ops:Array Oper} {Q:Exit→Act→World→Prop} {i:Nat} {K:Act→World→Prop} {a:Act} {w:World} (hh:wpOq P ops Q i K a w):wpOpIn F m P ops Q i K a w:=by
 unfold wpOq at hh
 unfold wpOpIn
 cases ho:ops[i]? with
 | none=>rw [ho] at hh;exact hh
 | some o =>
  rw [ho] at hh
  simp only at hh ⊢
  split at hh
  ·rename_i hw;rw [if_pos hw];exact hh.2 F hF m
  ·rename_i hw;rw [if_neg hw];exact ⟨fun f _=>hF.fn f,hh⟩
abbrev uq1 (ops:Array Oper):List Nat:=ops.toList.filterMap (·.dst)
theorem vg4 {ops:Array Oper} {i:Nat} {o:Oper} (h:ops[i]?=some o) {t:Nat} (ht:o.dst=some t):t∈uq1 ops :=
 List.mem_filterMap.2 ⟨o,by rw [← Array.getElem?_toList] at h;exact List.mem_of_getElem? h,ht⟩
theorem vf9 {F:Fence} (hF:Free F) {m n:Nat} {ops:Array Oper} {Q:Exit→Act→World→Prop} {K:Env→World→Prop}:∀ (l:List Nat) (ε:Env) (w:World) (a:Act),opsP P n ops.toList l ε w K→EnvD ds ε a→a.tmps.size=n→
  (∀ ε' a' w',EnvD ds ε' a'→a'.tmps.size=n→zr3 (uq1 ops) a a'→K ε' w'→Q .normal a' w')→wpOpsIn F m P ops Q l a w
 | [],ε,w,a,h,hε,hn,hq=>hq ε a w hε hn (zr3.refl _ _) h
 | i :: rest,ε,w,a,h,hε,hn,hq=>by
  simp only [opsP] at h
  rw [wpOpsIn_cons]
  refine wpOq.in hF ?_
  unfold wpOq
  split at h
  ·exact h.elim
  ·rename_i o ho
   rw [Array.getElem?_toList] at ho
   simp only [ho]
   obtain ⟨run,ε₁,hrun,hε₁,h⟩:=xn6 hε h
   have hmem:∀ t,o.dst=some t→t∈uq1 ops:=fun t ht=>vg4 ho ht
   cases run with
   | true =>
    simp only [hrun,if_true]
    refine (un9 hε₁ hn h fun v ε' w' hε' hk=>?_)
    exact vf9 hF rest ε' w' _ hk hε' (by rw [xi1];exact hn) (fun ε'' a'' w'' h1 h2 h3 h4=>hq ε'' a'' w'' h1 h2 ((zr3.put a o.dst v hmem).trans h3) h4)
   | false =>
    simp only [hrun,Bool.false_eq_true,if_false]
    obtain ⟨ε',hε',hk⟩:=yr3 hε₁ hn h
    exact vf9 hF rest ε' w _ hk hε' (by rw [xi1];exact hn) (fun ε'' a'' w'' h1 h2 h3 h4=>hq ε'' a'' w'' h1 h2 ((zr3.put a o.dst _ hmem).trans h3) h4)
def xh8 (listed:Array Bool) (m:Nat) (ex:List Nat):Prop:=listed.size=m∧(∀ i∈ex,i<m)∧∀ j,listed.getD j false=ex.contains j
theorem xh8.start (m:Nat):xh8 (Array.replicate m false) m []:=⟨by simp,by simp,fun j=>by
 by_cases h:j<m<;>simp [Array.getElem?_replicate,h]⟩
theorem xh8.step {listed:Array Bool} {m:Nat} {ex:List Nat} (h:xh8 listed m ex) {i:Nat} (hi:i<m):xh8 (listed.setIfInBounds i true) m (i :: ex):=by
 refine ⟨by simp [h.1],fun j hj=>?_,fun j=>?_⟩
 ·rcases List.mem_cons.1 hj with rfl | hj
  ·exact hi
  ·exact h.2.1 j hj
 ·by_cases hij:i=j
  ·subst hij;simp [h.1,hi]
  ·rw [getD_set_ne false hij,h.2.2 j]
   simp only [List.contains_cons]
   have:(j == i)=false:=by simp;exact fun e=>hij e.symm
   simp [this]
theorem xh8.getT {listed:Array Bool} {m:Nat} {ex:List Nat} (h:xh8 listed m ex) {j:Nat} (hj:j<m):listed.getD j true=ex.contains j:=by
 rw [← h.2.2 j]
 have:j<listed.size:=by rw [h.1];exact hj
 simp [this]
theorem xq2 {ops:Array Oper} {listed:Array Bool} {ex:List Nat} (h:xh8 listed ops.size ex):Region.ready .any ops listed=ve0 ops.toList ex:=by
 unfold Region.ready ve0
 rw [Array.length_toList]
 refine List.filter_congr fun i hi=>?_
 have hi':i<ops.size:=by simpa using hi
 rw [h.getT hi',Array.getElem?_toList]
 congr 1
 cases ops[i]? with
 | none=>rfl
 | some o =>
  simp only [Option.map_some,Option.getD_some]
  rw [← Array.all_toList]
  congr 1
  funext e
  rw [h.2.2]
theorem qi6 (o:Op) (hs:∀ cs b,o≠ .select cs b):o.operands.toList=ub0 o:=by
 cases o<;>first
  | exact absurd rfl (hs _ _)
  |(simp [Op.operands,ub0,ub0.callL,Call.operands];done)
  |(rename_i c;cases hc:c.callee<;>simp [Op.operands,ub0,ub0.callL,Call.operands,hc];done)
  |(rename_i l h m;cases l<;>cases h<;>cases m<;>simp [Op.operands,ub0];done)
  |(rename_i r;cases r<;>simp [Op.operands,ub0];done)
theorem us3 {ops:Array Oper} (h:uy9 ops.toList=true):Region.noSelect ops=true:=by
 unfold uy9 at h
 unfold Region.noSelect
 rw [← Array.all_toList]
 exact h
theorem uo2 {ops:Array Oper} {o:Oper} (hs:∀ cs b,o.op≠ .select cs b):o.looksAt ops=uo3 ops.toList o:=by
 unfold Oper.looksAt uo3
 rw [qi6 _ hs]
 congr 1
 cases o.guard with
 | none=>rfl
 | some g =>
  obtain ⟨g,_⟩:=g
  simp only [vy5]
  rw [Array.getElem?_toList]
  cases ops[g]?<;>rfl
theorem qa7 {ops:Array Oper} (hs:Region.noSelect ops=true) {listed:Array Bool} {ex:List Nat} (h:xh8 listed ops.size ex) {i:Nat} (hf:qf6 ops.toList ex i=true):Region.free .any ops listed i=true:=by
 unfold qf6 at hf
 unfold Region.free
 rw [Array.getElem?_toList] at hf
 split at hf
 ·cases hf
 ·rename_i oi hoi
  simp only [hoi]
  rw [List.all_eq_true] at hf ⊢
  intro j hj
  have hj':j<ops.size:=by simpa using hj
  have:=hf j (by rw [Array.length_toList];exact hj)
  rw [Array.getElem?_toList] at this
  rw [h.getT hj']
  cases hoj:ops[j]? with
  | none=>simp
  | some oj =>
   simp only [hoj] at this
   have si:=Region.noSelect_spec hs i oi
   have sj:=Region.noSelect_spec hs j oj
   have ha:oi.apart ops oj=qc1 ops.toList oi oj:=by
    unfold Oper.apart qc1
    rw [uo2 (fun cs b=>si cs b hoi),uo2 (fun cs b=>sj cs b hoj)]
    rfl
   simp only [ha]
   rw [← Array.any_toList]
   exact this
def YN (P:Program) (ops:Array Oper) (S:World→Prop) (o:Oper) (v:Value) (a:Act):Prop :=
 (Region.wanted o (yielded ops a.tmps)=true∧∀ w,(xl1 o.op=true→S w)→(execOp a.eval o).run P w= .ok (.value v) w)∨
 (Region.wanted o (yielded ops a.tmps)=false∧v=undef)
def keepS (P:Program) (ops:Array Oper) (S:World→Prop) (i:Nat) (w w':World):Prop :=
 (∃ o,ops[i]?=some o∧xf4 P o.op=true∧w'=w)∨(vn2 ops.toList i=true→S w')
def wpN (P:Program) (ops:Array Oper) (Q:Exit→Act→World→Prop) (S:World→Prop):Nat→Array Bool→Act→World→Prop
 | 0,L,a,w=>Region.ready .any ops L=[]∧Q .normal a w
 | n+1,L,a,w=>(Region.ready .any ops L=[]→Q .normal a w)∧
   ∀ i∈Region.ready .any ops L,wpOq P ops Q i (fun a' w'=>keepS P ops S i w w'∧wpN P ops Q S n (L.setIfInBounds i true) a' w') a w
theorem uv0 {F:Fence} (hF:Free F) {m:Nat} {ops:Array Oper} {Q:Exit→Act→World→Prop} {S:World→Prop}:∀ (n:Nat) (L:Array Bool) (a:Act) (w:World),wpN P ops Q S n L a w→wpAnyIn F m P .any ops Q n L a w
 | 0,_,_,_,h=>h
 | n+1,_,_,_,h=>⟨h.1,fun i hi=>wpOpIn_mono (fun a' w' h'=>uv0 hF n _ a' w' h'.2) (wpOq.in hF (h.2 i hi))⟩
theorem YN.same {ops:Array Oper} {S:World→Prop} {o:Oper} {v:Value} {a a':Act} (hy:YN P ops S o v a) (he:execOp a'.eval o=execOp a.eval o)
  (hw:Region.wanted o (yielded ops a'.tmps)=Region.wanted o (yielded ops a.tmps)):YN P ops S o v a':=by
 unfold YN at *
 rw [he,hw]
 exact hy
theorem YN.here {ops:Array Oper} {Q:Exit→Act→World→Prop} {S:World→Prop} {i:Nat} {o:Oper} {v:Value} {a:Act} (hi:ops[i]?=some o) (hy:YN P ops S o v a) {K:Act→World→Prop} {w:World}
  (hS:xl1 o.op=true→S w) (hnd:vn1 o=true) (h:K (a.put o.dst v) w):wpOq P ops Q i K a w:=by
 unfold wpOq
 simp only [hi]
 rcases hy with ⟨hw,hv⟩| ⟨hw,rfl⟩
 ·rw [if_pos hw]
  refine wpO.of hnd ?_
  unfold Oper.wp
  rw [hv w hS]
  exact h
 ·rw [if_neg (by simp [hw])]
  exact h
theorem uu9 {ops:Array Oper} {Q:Exit→Act→World→Prop} {S:World→Prop} {j:Nat} {oi oj:Oper} {v:Value} (hj:ops[j]?=some oj) (hap:oi.apart ops oj=true)
  (hsi:∀ cs b,oi.op≠ .select cs b) (hsj:∀ cs b,oj.op≠ .select cs b) (hQ:∀ c a w,¬ Q (.panic c) a w) {K:Act→World→Prop} {a:Act} {w:World}
  (hy:YN P ops S oi v a) (h:wpOq P ops Q j K (a.put oi.dst v) w):wpOq P ops Q j (fun a' w'=>YN P ops S oi v a'∧K (a'.put oi.dst v) w') a w:=by
 obtain ⟨h1,h2,h3⟩:=Oper.apart_spec hap
 have keep:∀ (a:Act),YN P ops S oi v a→∀ u,YN P ops S oi v (a.put oj.dst u):=fun a hy u=>hy.same (execOp_put oi hsi a oj.dst u h3) (wanted_put oi a oj.dst u h3)
 unfold wpOq at h ⊢
 simp only [hj] at h ⊢
 rw [wanted_put oj a oi.dst v h1] at h
 by_cases hw:Region.wanted oj (yielded ops a.tmps)=true
 ·rw [if_pos hw] at h ⊢
  obtain ⟨hd,h⟩:=h
  refine ⟨hd,fun F hF m=>⟨fun f _=>hF.fn f,?_⟩⟩
  have h:=(h F hF m).2
  rw [Oper.semAt_plain F _ _ (xu2 hd)] at h ⊢
  rw [execOp_put oj hsj a oi.dst v h1] at h
  cases hr:(execOp a.eval oj).run P w with
  | ok x w' =>
   rw [hr] at h
   cases x with
   | value u =>
    simp only [Oper.uponIn] at h ⊢
    exact ⟨keep a hy u,by rw [← Act.put_comm a v u h2];exact h⟩
   | skip =>
    simp only [Oper.uponIn] at h ⊢
    exact ⟨keep a hy _,by rw [← Act.put_comm a v undef h2];exact h⟩
   | defer d =>
    simp only [Oper.uponIn] at h ⊢
    have hy':YN P ops S oi v { tmps:=a.tmps,defers:=d :: a.defers }:=hy.same rfl rfl
    refine ⟨keep _ hy' _,?_⟩
    rw [← Act.put_comm _ v undef h2,← Act.put_defers]
    exact h
   | enter f args =>
    simp only [Oper.uponIn] at h ⊢
    refine ⟨h.1,CallsIn.mono h.2 fun e w'' he=>?_⟩
    cases e with
    | returned u=>exact ⟨keep a hy u,by rw [← Act.put_comm a v u h2];exact he⟩
    | panicked c=>exact (hQ _ _ _ he).elim
    | outgrown=>exact he
   | row row args =>
    simp only [Oper.uponIn] at h ⊢
    exact ⟨h.1,RowsIn.mono h.2 fun u w'' he=>⟨keep a hy u,by rw [← Act.put_comm a v u h2];exact he⟩⟩
   | round l f tmps ag body =>
    simp only [Oper.uponIn] at h ⊢
    refine ⟨h.1,RoundIn.mono h.2 fun e w'' he=>?_⟩
    cases e with
    | returned u=>exact ⟨keep a hy u,by rw [← Act.put_comm a v u h2];exact he⟩
    | panicked c=>exact (hQ _ _ _ he).elim
    | outgrown=>exact he
   | _=>simp only [Oper.uponIn] at h
  | halt x w' =>
   rw [hr] at h
   cases x<;>simp only [Oper.uponIn] at h
   exact (hQ _ _ _ h).elim
 ·rw [if_neg hw] at h ⊢
  exact ⟨keep a hy _,by rw [← Act.put_comm a v undef h2];exact h⟩
theorem vp8 {ops:Array Oper} {i j:Nat} {oi oj:Oper} (hi:ops[i]?=some oi) (hj:ops[j]?=some oj) (hld:xl1 oi.op=true) (hne:i≠j) (hno:∀ e∈oj.after,Region.binds .any e=true→e.on≠i):vn2 ops.toList j=true:=by
 unfold vn2
 rw [List.any_eq_true]
 refine ⟨i,by simp;exact (Array.getElem?_eq_some_iff.1 hi).1,?_⟩
 rw [Array.getElem?_toList,Array.getElem?_toList,hi,hj]
 simp only [hld,Bool.true_and,Bool.and_eq_true,bne_iff_ne,ne_eq,Bool.not_eq_true']
 refine ⟨hne,?_⟩
 rw [Bool.eq_false_iff]
 intro h
 obtain ⟨e,he,hb⟩:=List.any_eq_true.1 h
 simp only [Bool.and_eq_true,beq_iff_eq] at hb
 exact hno e (by simpa using he) hb.1 hb.2
theorem vx9 {ops:Array Oper} {Q:Exit→Act→World→Prop} {S:World→Prop} {i:Nat} {oi:Oper} {v:Value} (hi:ops[i]?=some oi) (hqi:xf4 P oi.op=true) (hsel:Region.noSelect ops=true) (hQ:∀ c a w,¬ Q (.panic c) a w) :
  ∀ (n:Nat) (L:Array Bool) (a:Act) (w:World),
   (∀ j oj,ops[j]?=some oj→j≠i→L.getD j true=false→(∀ e∈oj.after,Region.binds .any e=true→e.on≠i)→oi.apart ops oj=true)→
   i∈Region.ready .any ops L→YN P ops S oi v a→(xl1 oi.op=true→S w)→wpN P ops Q S n (L.setIfInBounds i true) (a.put oi.dst v) w→wpN P ops Q S (n+1) L a w:=by
 intro n
 induction n with
 | zero =>
  intro L a w _ hr hy hS H
  refine ⟨fun h=>(by rw [h] at hr;cases hr),fun j hj=>?_⟩
  by_cases hji:j=i
  ·subst hji;exact hy.here hi hS (xm6 hqi) ⟨.inl ⟨_,hi,hqi,rfl⟩,H⟩
  ·have:=ready_mono hj hji
   rw [H.1] at this
   cases this
 | succ n ih =>
  intro L a w hfree hr hy hS H
  refine ⟨fun h=>(by rw [h] at hr;cases hr),fun j hj=>?_⟩
  by_cases hji:j=i
  ·subst hji;exact hy.here hi hS (xm6 hqi) ⟨.inl ⟨_,hi,hqi,rfl⟩,H⟩
  ·have h1:=H.2 j (ready_mono hj hji)
   obtain ⟨hjun,oj,hoj,hall⟩:=mem_ready.1 hj
   have hnot:∀ e∈oj.after,Region.binds .any e=true→e.on≠i:=fun e he hb heq=>by
    have h1:=hall e he hb
    have h0:=(mem_ready.1 hr).1
    rw [heq] at h1
    rcases Nat.lt_or_ge i L.size with h' | h'
    ·simp [h'] at h0 h1;rw [h0] at h1;cases h1
    ·simp [Array.getElem?_eq_none h'] at h1
   have h2:=uu9 hoj (hfree j oj hoj hji hjun hnot) (fun cs b=>Region.noSelect_spec hsel i oi cs b hi) (fun cs b=>Region.noSelect_spec hsel j oj cs b hoj) hQ hy h1
   have hfree':∀ k ok,ops[k]?=some ok→k≠i→(L.setIfInBounds j true).getD k true=false→(∀ e∈ok.after,Region.binds .any e=true→e.on≠i)→oi.apart ops ok=true:=fun k ok hk hki hun hno=>by
    refine hfree k ok hk hki ?_ hno
    by_cases hjk:j=k
    ·subst hjk;exact hjun
    ·rw [getD_set_ne true hjk] at hun;exact hun
   have hload:xl1 oi.op=true→vn2 ops.toList j=true:=fun hld=>vp8 hi hoj hld (Ne.symm hji) hnot
   refine wpOq.mono (fun a' w' h3=>⟨h3.2.1,ih (L.setIfInBounds j true) a' w' hfree' (ready_mono hr (Ne.symm hji)) h3.1 (fun hld=>?_) ?_⟩) h2
   ·rcases h3.2.1 with ⟨_,_,_,rfl⟩| hk
    ·exact hS hld
    ·exact hk (hload hld)
   ·rw [Array.setIfInBounds_comm _ _ hji]
    exact h3.2.2
theorem up7 {K:Nat→Prop}:∀ {l:List Nat},allL K l→∀ i∈l,K i
 | [],_,i,hi=>by cases hi
 | [j],h,i,hi=>by simp at hi;subst hi;exact h
 | j :: k :: r,h,i,hi=>by
  rcases List.mem_cons.1 hi with rfl | hi
  ·exact h.1
  ·exact up7 h.2 i hi
theorem vf3 {ops:List Oper} {ex:List Nat}:∀ {l:List Nat} {i:Nat},ux0 P ops ex l=some i→i∈l∧(∃ o,ops[i]?=some o∧xf4 P o.op=true)∧qf6 ops ex i=true
 | [],i,h=>by cases h
 | j :: r,i,h=>by
  simp only [ux0] at h
  split at h
  ·rename_i o ho
   split at h
   ·rename_i hc;cases h;simp at hc;exact ⟨List.mem_cons_self,⟨o,ho,hc.1⟩,hc.2⟩
   ·have:=vf3 h;exact ⟨List.mem_cons_of_mem _ this.1,this.2⟩
  ·have:=vf3 h;exact ⟨List.mem_cons_of_mem _ this.1,this.2⟩
def Pend (ops:Array Oper) (ex:List Nat):Prop:=∃ i o,ops[i]?=some o∧xl1 o.op=true∧i ∉ ex
theorem yx9 {n:Nat} {ops:Array Oper} {S:World→Prop} {Q:Exit→Act→World→Prop} {K:Env→World→Prop} (hs:Region.noSelect ops=true) (hQ:∀ c a w,¬ Q (.panic c) a w) :
  ∀ (fuel:Nat) (ex:List Nat) (ε:Env) (w:World) (a:Act) (L:Array Bool),ue9 P n ops.toList S fuel ex ε w K→EnvD ds ε a→a.tmps.size=n→xh8 L ops.size ex→(Pend ops ex→S w)→
  (∀ ε' a' w',EnvD ds ε' a'→a'.tmps.size=n→zr3 (uq1 ops) a a'→K ε' w'→Q .normal a' w')→wpN P ops Q S fuel L a w
 | 0,ex,ε,w,a,L,h,hε,hn,hl,hS,hq=>by
  simp only [ue9] at h
  split at h
  ·rename_i hr;exact ⟨by rw [xq2 hl];exact hr,hq ε a w hε hn (zr3.refl _ _) h⟩
  ·exact h.elim
 | fuel+1,ex,ε,w,a,L,h,hε,hn,hl,hS,hq=>by
  simp only [ue9] at h
  split at h
  ·rename_i hr
   have hr':Region.ready .any ops L=[]:=by rw [xq2 hl];exact hr
   exact ⟨fun _=>hq ε a w hε hn (zr3.refl _ _) h,by rw [hr'];simp⟩
  ·rename_i r rs hr
   have hmemlt:∀ i,i∈r :: rs→i<ops.size:=by
    intro i hi
    rw [← hr] at hi
    unfold ve0 at hi
    have:=(List.mem_filter.1 hi).1
    simpa using this
   have hnotex:∀ i,i∈r :: rs→i ∉ ex:=by
    intro i hi
    rw [← hr] at hi
    unfold ve0 at hi
    have:=(List.mem_filter.1 hi).2
    simp only [Bool.and_eq_true,Bool.not_eq_true'] at this
    simpa using this.1
   have hafter:∀ i o,i∈r :: rs→ops[i]?=some o→∀ e∈o.after,Region.binds .any e=true→e.on∈ex:=by
    intro i o hi ho e he hb
    rw [← hr] at hi
    unfold ve0 at hi
    have:=(List.mem_filter.1 hi).2
    rw [Array.getElem?_toList,ho] at this
    simp only [Bool.and_eq_true,List.all_eq_true] at this
    have:=this.2 e (by simpa using he)
    rw [hb] at this
    simpa using this
   have step:∀ i,Pend ops (i :: ex)→Pend ops ex:=fun i ⟨j,o,ho,hl,hm⟩=>⟨j,o,ho,hl,fun h=>hm (List.mem_cons_of_mem _ h)⟩
   split at h
   ·rename_i i hp
    obtain ⟨hmem,hquiet,hfree⟩:=vf3 hp
    split at h
    ·exact h.elim
    ·rename_i o ho
     have ho':=ho
     rw [Array.getElem?_toList] at ho
     have hqo:xf4 P o.op=true:=by
      obtain ⟨o',ho2,hq2⟩:=hquiet
      rw [ho'] at ho2
      cases ho2
      exact hq2
     have hdst:∀ t,o.dst=some t→t∈uq1 ops:=fun t ht=>vg4 ho ht
     obtain ⟨run,ε₁,hrun,hε₁,h⟩:=xn6 hε h
     have hready:i∈Region.ready .any ops L:=by rw [xq2 hl,hr];exact hmem
     have hSi:xl1 o.op=true→S w:=fun hld=>hS ⟨i,o,ho,hld,hnotex i hmem⟩
     cases run with
     | true =>
      have hC:∀ φ ψ:World→Prop,(∀ w,φ w→ψ w)→ul0 S o.op φ→ul0 S o.op ψ:=by
       intro φ ψ hφ
       unfold ul0
       split
       ·exact fun hh u hu=>hφ u (hh u hu)
       ·exact fun hh u=>hφ u (hh u)
      have hT:∀ φ:World→Prop,(∀ w,φ w)→ul0 S o.op φ:=by
       intro φ hφ
       unfold ul0
       split
       ·exact fun u _=>hφ u
       ·exact fun u=>hφ u
      obtain ⟨v,hk,hw⟩:=ve3 hε₁ hC hT h
      obtain ⟨ε',hε',hk⟩:=yr3 hε₁ hn hk
      refine vx9 ho hqo hs hQ fuel L a w (Region.free_spec ho (qa7 hs hl hfree)) hready (.inl ⟨hrun,fun u hu=>?_⟩) hSi
       (yx9 hs hQ fuel _ ε' w _ _ hk hε' (by rw [xi1];exact hn) (hl.step (hmemlt i hmem)) (fun hp=>hS (step i hp))
        (fun ε'' a'' w'' h1 h2 h3 h4=>hq ε'' a'' w'' h1 h2 ((zr3.put a o.dst v hdst).trans h3) h4))
      unfold ul0 at hw
      by_cases hld:xl1 o.op=true
      ·rw [if_pos hld] at hw;exact hw u (hu hld)
      ·rw [if_neg hld] at hw;exact hw u
     | false =>
      obtain ⟨ε',hε',hk⟩:=yr3 hε₁ hn h
      exact vx9 ho hqo hs hQ fuel L a w (Region.free_spec ho (qa7 hs hl hfree)) hready (.inr ⟨hrun,rfl⟩) hSi
       (yx9 hs hQ fuel _ ε' w _ _ hk hε' (by rw [xi1];exact hn) (hl.step (hmemlt i hmem)) (fun hp=>hS (step i hp))
        (fun ε'' a'' w'' h1 h2 h3 h4=>hq ε'' a'' w'' h1 h2 ((zr3.put a o.dst _ hdst).trans h3) h4))
   ·refine ⟨fun h0=>(by rw [xq2 hl,hr] at h0;cases h0),fun i hi=>?_⟩
    rw [xq2 hl,hr] at hi
    have h:=up7 h i hi
    split at h
    ·exact h.elim
    ·rename_i o ho
     rw [Array.getElem?_toList] at ho
     have hdst:∀ t,o.dst=some t→t∈uq1 ops:=fun t ht=>vg4 ho ht
     obtain ⟨run,ε₁,hrun,hε₁,h⟩:=xn6 hε h
     have hpend:Pend ops (i :: ex)→vn2 ops.toList i=true:=fun ⟨j,oj,hj,hld,hm⟩=>
      vp8 hj ho hld (fun e=>hm (by rw [e];exact List.mem_cons_self)) fun e he hb heq=>hm (List.mem_cons_of_mem _ (by rw [← heq];exact hafter i o hi ho e he hb))
     have hcond:∀ {X Y:Prop},qj8 (vn2 ops.toList i) X Y→(vn2 ops.toList i=true→X)∧Y:=by
      intro X Y hc
      cases hb:vn2 ops.toList i with
      | true=>rw [hb] at hc;exact ⟨fun _=>hc.1,hc.2⟩
      | false=>rw [hb] at hc;exact ⟨fun hh=>(Bool.false_ne_true hh).elim,hc⟩
     unfold wpOq
     simp only [ho]
     cases run with
     | true =>
      simp only [hrun,if_true]
      refine un9 hε₁ hn h fun v ε' w' hε' hk=>?_
      obtain ⟨hk1,hk2⟩:=hcond hk
      exact ⟨.inr hk1,yx9 hs hQ fuel _ ε' w' _ _ hk2 hε' (by rw [xi1];exact hn) (hl.step (hmemlt i hi)) (fun hp=>hk1 (hpend hp))
        (fun ε'' a'' w'' h1 h2 h3 h4=>hq ε'' a'' w'' h1 h2 ((zr3.put a o.dst v hdst).trans h3) h4)⟩
     | false =>
      simp only [hrun,Bool.false_eq_true,if_false]
      obtain ⟨ε',hε',hk⟩:=yr3 hε₁ hn h
      obtain ⟨hk1,hk2⟩:=hcond hk
      exact ⟨.inr hk1,yx9 hs hQ fuel _ ε' w _ _ hk2 hε' (by rw [xi1];exact hn) (hl.step (hmemlt i hi)) (fun hp=>hk1 (hpend hp))
        (fun ε'' a'' w'' h1 h2 h3 h4=>hq ε'' a'' w'' h1 h2 ((zr3.put a o.dst _ hdst).trans h3) h4)⟩
def Lift (ds:List Deferred) (n:Nat) (ws:List Nat) (a:Act) (Q:Exit→Env→World→Prop):Exit→Act→World→Prop :=
 fun e a' w'=>(∀ c,e≠ .panic c)∧(e≠ .outgrown)∧(∀ l,e≠ .goto l)∧∃ ε',EnvD ds ε' a'∧a'.tmps.size=n∧zr3 ws a a'∧Q e ε' w'
theorem vv2:∀ {ts:List Nat} {ε:Env} {t:Nat} {v:Value},(Env.keep ε ts).get t=some v→t∈ts∧ε.get t=some v
 | [],ε,t,v,h=>by cases h
 | s :: ts,ε,t,v,h=>by
  simp only [Env.keep] at h
  split at h
  ·rename_i u hu
   simp only [Env.get] at h
   split at h
   ·rename_i e;subst e;cases h;exact ⟨List.mem_cons_self,hu⟩
   ·have:=vv2 h;exact ⟨List.mem_cons_of_mem _ this.1,this.2⟩
  ·have:=vv2 h;exact ⟨List.mem_cons_of_mem _ this.1,this.2⟩
theorem vv1 {ε:Env} {a a':Act} {keep ws:List Nat} (hε:EnvD ds ε a) (hs:zr3 ws a a') (hk:(keep.all fun t=> !ws.contains t)=true) (hd:a'.defers=ds):EnvD ds (Env.keep ε keep) a':=by
 refine ⟨hd,fun t v h=>?_⟩
 obtain ⟨hm,hv⟩:=vv2 h
 have:=List.all_eq_true.1 hk t hm
 have hnot:t ∉ ws:=by simpa using this
 rw [hs t hnot]
 exact hε.2 t v hv
theorem vh2:∀ {ts:List Nat} {vs:List Value} {ε:Env} {a:Act},EnvD ds ε a→(∀ (j t:Nat) (v:Value),ts[j]?=some t→vs[j]?=some v→a.tmps[t]?=some v)→EnvD ds (Env.laid ts vs ε) a
 | [],vs,ε,a,h,_=>by simpa [Env.laid] using h
 | t :: ts,[],ε,a,h,_=>by simpa [Env.laid] using h
 | t :: ts,v :: vs,ε,a,h,hj=>by
  have ih:=vh2 (ts:=ts) (vs:=vs) h (fun j s u hs hu=>hj (j+1) s u (by simpa using hs) (by simpa using hu))
  refine ⟨ih.1,fun s u hu=>?_⟩
  simp only [Env.laid,Env.get] at hu
  split at hu
  ·rename_i e;subst e;cases hu;exact hj 0 t v (by simp) (by simp)
  ·exact ih.2 s u hu
theorem vv7:∀ {ts:List Nat} {ε:Env} {vs:List Value} {a:Act},getL ε ts=some vs→EnvD ds ε a→∀ (j t:Nat) (v:Value),ts[j]?=some t→vs[j]?=some v→a.tmps[t]?=some v
 | [],ε,vs,a,h,hε,j,t,v,ht,hv=>by simp at ht
 | s :: ts,ε,vs,a,h,hε,j,t,v,ht,hv=>by
  simp only [getL] at h
  split at h
  ·rename_i u hu
   split at h
   ·rename_i us hus
    cases h
    cases j with
    | zero=>simp at ht hv;subst ht;subst hv;exact hε.2 _ _ hu
    | succ j=>simp at ht hv;exact vv7 hus hε j t v ht hv
   ·cases h
  ·cases h
theorem qa3:∀ {ts:List Nat} {vs:List Value} {ε:Env},xk6.nodupL ts=true→vs.length=ts.length→getL (Env.laid ts vs ε) ts=some vs:=by
 have key:∀ (ts:List Nat) (s:Nat) (u:Value) (ε:Env),s ∉ ts→getL ((s,u) :: ε) ts=getL ε ts:=by
  intro ts
  induction ts with
  | nil=>intro s u ε _;rfl
  | cons t ts ih =>
   intro s u ε h
   have h1:s≠t:=fun e=>h (by simp [e])
   have h2:s ∉ ts:=fun e=>h (by simp [e])
   simp only [getL,Env.get,if_neg h1,ih s u ε h2]
 intro ts
 induction ts with
 | nil=>intro vs ε _ hl;cases vs<;>simp_all [getL]
 | cons t ts ih =>
  intro vs ε hd hl
  cases vs with
  | nil=>simp at hl
  | cons v vs =>
   simp only [xk6.nodupL,Bool.and_eq_true,Bool.not_eq_true'] at hd
   have hnot:t ∉ ts:=by simpa using hd.1
   simp only [Env.laid,getL,Env.get,if_true,key _ _ _ _ hnot,ih hd.2 (by simpa using hl)]
theorem vv6:∀ {ts:List Nat} {ε:Env} {vs:List Value},getL ε ts=some vs→vs.length=ts.length
 | [],ε,vs,h=>by cases h;rfl
 | t :: ts,ε,vs,h=>by
  simp only [getL] at h
  split at h
  ·split at h
   ·rename_i us hus;cases h;simp [vv6 hus]
   ·cases h
  ·cases h
def xo9 (a:Act) (ts:List Nat):List Value:=ts.map fun t=>a.tmps.getD t undef
theorem xv6:∀ {ts:List Nat} {ε:Env} {vs:List Value} {a:Act},getL ε ts=some vs→EnvD ds ε a→xo9 a ts=vs
 | [],ε,vs,a,h,hε=>by cases h;rfl
 | t :: ts,ε,vs,a,h,hε=>by
  simp only [getL] at h
  split at h
  ·rename_i u hu
   split at h
   ·rename_i us hus
    cases h
    have:=hε.2 t u hu
    have ih:=xv6 hus hε
    unfold xo9 at ih ⊢
    simp [this,← ih]
   ·cases h
  ·cases h
theorem vq7 {o:Option (World→Prop)} {w:World} (h:xn4 o w):∃ g,o=some g∧g w:=by
 cases o with
 | none=>exact h.elim
 | some g=>exact ⟨g,rfl,h⟩
theorem xb1 {F:Fence} {m n:Nat} {cuts loops:vx5} (hF:Free F) (hm:P.follows .mixedOrders=true):∀ (c:Code) (Q:Exit→Env→World→Prop) (ε:Env) (w:World) (a:Act),den P n cuts loops c Q ε w→EnvD ds ε a→a.tmps.size=n→
  c.wpIn F m P (Lift ds n (wrs c) a Q) a w:=by
 intro c
 induction c with
 | skip=>intro Q ε w a h hε hn;exact wpIn_skip ⟨by simp,by simp,by simp,ε,hε,hn,zr3.refl _ _,h⟩
 | region id ops d =>
  intro Q ε w a h hε hn
  simp only [den] at h
  cases d with
  | false =>
   refine wpIn_region ?_
   rw [← Array.length_toList]
   exact vf9 hF _ ε w a h hε hn fun ε' a' w' h1 h2 h3 h4=>⟨by simp,by simp,by simp,ε',h1,h2,h3,h4⟩
  | true =>
   simp only at h
   split at h
   ·rename_i hns
    obtain ⟨S,hS,h⟩:=h _ ⟨rfl⟩
    refine wpIn_region_any hm (uv0 hF (S:=S) _ _ _ _ ?_)
    refine yx9 (us3 hns) (fun c a w h=>h.1 c rfl) _ [] ε w.drew a _ h hε hn (xh8.start _) (fun _=>hS) fun ε' a' w' h1 h2 h3 h4=>⟨by simp,by simp,by simp,ε',h1,h2,h3,h4⟩
   ·exact h.elim
 | seq x y ihx ihy =>
  intro Q ε w a h hε hn
  simp only [den] at h
  split at h
  ·refine wpIn_seq (wpIn_mono (ihx _ ε w a h hε hn) ?_)
   rintro e a' w' ⟨hp,ho,hg,ε',hε',hn',hsame,hq⟩
   cases e with
   | normal =>
    refine wpIn_mono (ihy _ ε' w' a' hq hε' hn') ?_
    rintro e a'' w'' ⟨hp,ho,hg,ε'',hε'',hn'',hsame',hq'⟩
    exact ⟨hp,ho,hg,ε'',hε'',hn'',(hsame.mono (by simp [wrs];intro t ht;exact .inl ht)).trans (hsame'.mono (by simp [wrs];intro t ht;exact .inr ht)),hq'⟩
   | panic c=>exact (hp c rfl).elim
   | outgrown=>exact (ho rfl).elim
   | goto l=>exact (hg l rfl).elim
   | _=>exact ⟨by simp,by simp,by simp,ε',hε',hn',hsame.mono (by simp [wrs];intro t ht;exact .inl ht),hq⟩
  ·rename_i keep ts zs hmk
   split at h
   ·rename_i hok
    unfold xk6 at hok
    rw [Bool.and_eq_true] at hok
    obtain ⟨J,h,hall⟩:=h
    refine wpIn_seq (wpIn_mono (ihx _ ε w a h hε hn) ?_)
    rintro e a' w' ⟨hp,ho,hg,ε',hε',hn',hsame,hq⟩
    cases e with
    | normal =>
     simp only at hq
     split at hq
     ·rename_i vs hvs
      obtain ⟨g,hg',_⟩:=vq7 hq
      have hden:=xv5 hall hg' w' hq
      have hεk:EnvD ds (Env.laid ts vs (Env.keep ε keep)) a':=vh2 (vv1 hε hsame hok.1 hε'.1) (vv7 hvs hε')
      refine wpIn_mono (ihy _ _ w' a' hden hεk hn') ?_
      rintro e a'' w'' ⟨hp,ho,hg,ε'',hε'',hn'',hsame',hq'⟩
      exact ⟨hp,ho,hg,ε'',hε'',hn'',(hsame.mono (by simp [wrs];intro t ht;exact .inl ht)).trans (hsame'.mono (by simp [wrs];intro t ht;exact .inr ht)),hq'⟩
     ·exact hq.elim
    | panic c=>exact (hp c rfl).elim
    | outgrown=>exact (ho rfl).elim
    | goto l=>exact (hg l rfl).elim
    | _=>exact ⟨by simp,by simp,by simp,ε',hε',hn',hsame.mono (by simp [wrs];intro t ht;exact .inl ht),hq⟩
   ·exact h.elim
 | cond c x y ihx ihy =>
  intro Q ε w a h hε hn
  simp only [den] at h
  split at h
  ·rename_i t ht
   have hc:=hε.eval ht
   cases t with
   | true =>
    refine wpIn_cond_true hc (wpIn_mono (ihx _ ε w a h hε hn) ?_)
    rintro e a'' w'' ⟨hp,ho,hg,ε'',hε'',hn'',hsame',hq'⟩
    exact ⟨hp,ho,hg,ε'',hε'',hn'',hsame'.mono (by simp [wrs];intro t ht;exact .inl ht),hq'⟩
   | false =>
    refine wpIn_cond_false hc (wpIn_mono (ihy _ ε w a h hε hn) ?_)
    rintro e a'' w'' ⟨hp,ho,hg,ε'',hε'',hn'',hsame',hq'⟩
    exact ⟨hp,ho,hg,ε'',hε'',hn'',hsame'.mono (by simp [wrs];intro t ht;exact .inr ht),hq'⟩
  ·exact h.elim
 | block id x ih =>
  intro Q ε w a h hε hn
  simp only [den] at h
  refine wpIn_block (wpIn_mono (ih _ ε w a h hε hn) ?_)
  rintro e a' w' ⟨hp,ho,hg,ε',hε',hn',hsame,hq⟩
  cases e with
  | exit id' =>
   simp only [Exit.inBlock]
   simp only at hq
   split
   ·rename_i e;rw [if_pos e] at hq;exact ⟨by simp,by simp,by simp,ε',hε',hn',hsame,hq⟩
   ·rename_i e;rw [if_neg e] at hq;exact ⟨by simp,by simp,by simp,ε',hε',hn',hsame,hq⟩
  | panic c=>exact (hp c rfl).elim
  | outgrown=>exact (ho rfl).elim
  | goto l=>exact (hg l rfl).elim
  | _=>exact ⟨by simp,by simp,by simp,ε',hε',hn',hsame,hq⟩
 | loop x ih =>
  intro Q ε w a h hε hn
  simp only [den] at h
  split at h
  ·exact h.elim
  ·rename_i keep ts zs hmk
   split at h
   ·rename_i hok
    unfold xk6 at hok
    rw [Bool.and_eq_true] at hok
    split at h
    ·exact h.elim
    ·rename_i vs₀ hvs₀
     obtain ⟨J,μ,h0,hall⟩:=h
     refine wpIn_loop (fun a' w'=>∃ vs,xn4 (yq3 zs J vs) w'∧EnvD ds (Env.laid ts vs (Env.keep ε keep)) a'∧vs.length=ts.length∧a'.tmps.size=n∧zr3 (wrs x) a a')
      (fun a' w'=>uz0 (yq3 zs μ (xo9 a' ts)) w') ?_ ?_
     ·exact ⟨vs₀,h0,vh2 (vv1 hε (zr3.refl _ _) hok.1 hε.1) (vv7 hvs₀ hε),vv6 hvs₀,hn,zr3.refl _ _⟩
     ·rintro a₁ w₁ ⟨vs,hJ,hε₁,hlen,hn₁,hsame₁⟩
      obtain ⟨g,hg',_⟩:=vq7 hJ
      have hden:=xv5 hall hg' w₁ hJ
      have hav:xo9 a₁ ts=vs:=xv6 (qa3 hok.2 hlen) hε₁
      refine wpIn_mono (ih _ _ w₁ a₁ hden hε₁ hn₁) ?_
      rintro e a' w' ⟨hp,ho,hg,ε',hε',hn',hsame,hq⟩
      cases e with
      | normal =>
       simp only at hq
       split at hq
       ·rename_i us hus
        have hau:xo9 a' ts=us:=xv6 hus hε'
        refine ⟨⟨us,hq.1,vh2 (vv1 hε (hsame₁.trans hsame) hok.1 hε'.1) (vv7 hus hε'),vv6 hus,hn',hsame₁.trans hsame⟩,?_⟩
        show uz0 (yq3 zs μ (xo9 a' ts)) w' < uz0 (yq3 zs μ (xo9 a₁ ts)) w₁
        rw [hau,hav];exact hq.2
       ·exact hq.elim
      | panic c=>exact (hp c rfl).elim
      | outgrown=>exact (ho rfl).elim
      | goto l=>exact (hg l rfl).elim
      | _=>exact ⟨by simp,by simp,by simp,ε',hε',hn',hsame₁.trans hsame,hq⟩
   ·exact h.elim
 | exit id=>intro Q ε w a h hε hn;exact wpIn_exit ⟨by simp,by simp,by simp,ε,hε,hn,zr3.refl _ _,h⟩
 | ret=>intro Q ε w a h hε hn;exact wpIn_ret ⟨by simp,by simp,by simp,ε,hε,hn,zr3.refl _ _,h⟩
 | label l=>intro Q ε w a h hε hn;exact wpIn_label ⟨by simp,by simp,by simp,ε,hε,hn,zr3.refl _ _,h⟩
 | goto l=>intro Q ε w a h;exact h.elim
 | scope x ih=>intro Q ε w a h;exact h.elim
 | rangeFunc f ps x y _ _=>intro Q ε w a h;exact h.elim
 | refuse why=>intro Q ε w a h;exact h.elim
theorem xm4 {ε:Env} {a:Act} {w:World} (hε:EnvD ds ε a):∀ {rs:List ResultVar} {K:List Value→Prop},resP P ε w rs K→
  ∃ vs,K vs∧(rs.mapM (fun | .tmp t=>pure (a.tmps.getD t undef) | .cell p t=>do loadVar t (← asAddr (a.tmps.getD p undef)):ResultVar→Sem Value)).run P w= .ok vs w
 | [],K,h=>⟨[],h,rfl⟩
 | .tmp t :: r,K,h=>by
  simp only [resP] at h
  split at h
  ·rename_i v hv
   obtain ⟨vs,hk,hr⟩:=xm4 hε h
   refine ⟨v :: vs,hk,?_⟩
   have:=hε.2 t v hv
   simp only [List.mapM_cons,Sem.run_bind,Sem.run_pure,Result.andThen_ok,hr]
   simp [this]
  ·exact h.elim
 | .cell p ty :: r,K,h=>by
  simp only [resP] at h
  split at h
  ·rename_i b hb
   obtain ⟨v,h,hw⟩:=vq2 (P:=P) (qh4 w) h
   obtain ⟨vs,hk,hr⟩:=xm4 hε h
   refine ⟨v :: vs,hk,?_⟩
   have:=hε.2 p _ hb
   have e1:a.tmps.getD p undef= .pointer (some b):=by simp [this]
   have hw':(loadVar ty b).run P w= .ok v w:=hw
   have ha:(asAddr (.pointer (some b))).run P w= .ok b w:=rfl
   simp only [List.mapM_cons,Sem.run_bind,e1,ha,Sem.run_pure,Result.andThen_ok,hw',hr]
  ·exact h.elim
theorem vr9:∀ {vs:List Value} {i t:Nat} {v:Value},(vs6 i vs).get t=some v→i≤t∧vs[t - i]?=some v
 | [],i,t,v,h=>by cases h
 | u :: vs,i,t,v,h=>by
  simp only [vs6,Env.get] at h
  split at h
  ·rename_i e;subst e;cases h;simp
  ·obtain ⟨h1,h2⟩:=vr9 h
   refine ⟨by omega,?_⟩
   obtain ⟨k,hk⟩: ∃ k,t - i=k+1:=⟨t - i - 1,by omega⟩
   rw [hk]
   simp
   rwa [show t - (i+1)=k by omega] at h2
theorem yq6 {fn:Func} {ε:Env} {a:Act} {w:World} (hε:EnvD ds ε a) {R:Value→World→Prop} (h:resP P ε w fn.results.toList fun vs=>R (vd8 vs) w) :
  ∃ v,(results fn a.tmps).run P w= .ok v w∧R v w:=by
 obtain ⟨vs,hr,hm⟩:=xm4 hε h
 have hmA:(fn.results.mapM (fun | .tmp t=>pure (a.tmps.getD t undef) | .cell p t=>do loadVar t (← asAddr (a.tmps.getD p undef)):ResultVar→Sem Value)).run P w= .ok vs.toArray w:=by
  rw [← Array.toArray_toList (xs:=fn.results),List.mapM_toArray,Sem.run_map,hm]
  rfl
 refine ⟨vd8 vs,?_,hr⟩
 unfold results
 rw [Sem.run_bind]
 refine (congrArg (fun r=>Result.andThen r _) hmA).trans ?_
 simp only [Result.andThen_ok,Sem.run_pure]
 congr 1
 cases vs with
 | nil=>simp [vd8]
 | cons v vs =>
  cases vs with
  | nil=>simp [vd8]
  | cons u us=>simp [vd8]
def coll (D:Nat):Deferred:={ target:=.collected D,args:=#[] }
def ql2 (n:Nat) (Q:Exit→List Nat→Env→World→Prop):Exit→Act→World→Prop :=
 fun e a' w'=>(∀ c,e≠ .panic c)∧(e≠ .outgrown)∧(∀ l,e≠ .goto l)∧∃ Ds ε',EnvD (Ds.map coll) ε' a'∧a'.tmps.size=n∧Q e Ds ε' w'
theorem qb1 {zs:List Value}:∀ {f:List Value→Prop},uu1 zs f→∃ vs,vs.length=zs.length∧f vs:=by
 induction zs with
 | nil=>intro f h;exact ⟨[],rfl,h⟩
 | cons z zs ih =>
  intro f h
  obtain ⟨v,h⟩:=vj2 h
  obtain ⟨vs,hl,h⟩:=ih h
  exact ⟨v :: vs,by simp [hl],h⟩
def xp8 (tmps:Array Value) (ts:List Nat) (vs:List Value):Array Value:=(ts.zip vs).foldl (fun t p=>t.setIfInBounds p.1 p.2) tmps
theorem vd0:∀ (ts:List Nat) (vs:List Value) (tmps:Array Value),(xp8 tmps ts vs).size=tmps.size
 | [],vs,tmps=>rfl
 | t :: ts,[],tmps=>rfl
 | t :: ts,v :: vs,tmps=>by
  have:=vd0 ts vs (tmps.setIfInBounds t v)
  simpa [xp8] using this
theorem xd9:∀ (ts:List Nat) (vs:List Value) (tmps:Array Value) (s:Nat),s ∉ ts→(xp8 tmps ts vs)[s]?=tmps[s]?
 | [],vs,tmps,s,h=>rfl
 | t :: ts,[],tmps,s,h=>rfl
 | t :: ts,v :: vs,tmps,s,h=>by
  have h1:t≠s:=fun e=>h (by simp [e])
  have h2:s ∉ ts:=fun e=>h (by simp [e])
  have:=xd9 ts vs (tmps.setIfInBounds t v) s h2
  rw [Array.getElem?_setIfInBounds_ne h1] at this
  exact this
theorem vy6:∀ (ts:List Nat) (vs:List Value) (tmps:Array Value),xk6.nodupL ts=true→(∀ t∈ts,t<tmps.size)→∀ (j t:Nat) (v:Value),ts[j]?=some t→vs[j]?=some v→(xp8 tmps ts vs)[t]?=some v
 | [],vs,tmps,_,_,j,t,v,ht,hv=>by simp at ht
 | s :: ts,[],tmps,_,_,j,t,v,ht,hv=>by simp at hv
 | s :: ts,u :: vs,tmps,hd,hlt,j,t,v,ht,hv=>by
  simp only [xk6.nodupL,Bool.and_eq_true,Bool.not_eq_true'] at hd
  have hnot:s ∉ ts:=by simpa using hd.1
  cases j with
  | zero =>
   simp at ht hv
   subst ht;subst hv
   have:=xd9 ts vs (tmps.setIfInBounds s u) s hnot
   have hs:s<tmps.size:=hlt s (by simp)
   refine this.trans ?_
   simp [hs]
  | succ j =>
   exact vy6 ts vs (tmps.setIfInBounds s u) hd.2 (fun t ht=>by simpa using hlt t (by simp [ht])) j t v (by simpa using ht) (by simpa using hv)
theorem ud6 (ps:Array Tmp) (vs:List Value) (tmps:Array Value):(ps.zip vs.toArray).foldl (fun tmps (x:Tmp×Value)=>tmps.setIfInBounds x.1 x.2) tmps=xp8 tmps ps.toList vs:=by
 rw [← Array.foldl_toList,Array.toList_zip]
 rfl
theorem ui0 {m n:Nat} {cuts loops:vx5} (hm:P.follows .mixedOrders=true) {g:Operand} {ps:Array Tmp} {ag bd:Code} {Q:Exit→List Nat→Env→World→Prop} {ε:Env} {w:World} {a:Act}
  (h:denD P n cuts loops (.rangeFunc g ps ag bd) Q [] ε w) (hε:EnvD [] ε a) (hn:a.tmps.size=n):(Code.rangeFunc g ps ag bd).wpIn Fence.wide m P (ql2 n Q) a w:=by
 simp only [denD] at h
 split at h
 ·rename_i v hg
  ·split at h
   ·rename_i keep ts zs hmk
    split at h
    ·rename_i hok
     unfold uy8 at hok
     simp only [Bool.and_eq_true,decide_eq_true_eq,List.all_eq_true] at hok
     obtain ⟨⟨⟨hts,hzs⟩,hok⟩,hlt⟩:=hok
     unfold xk6 at hok
     rw [Bool.and_eq_true] at hok
     unfold uw7 at h
     split at h
     case h_2=>exact h.elim
     rename_i gf first cap
     obtain ⟨hfirst,hb,h⟩:=h
     have e1:first=#[]:=Array.toList_eq_nil_iff.1 hfirst
     subst e1
     refine wpIn_rangeFunc fun fn _=>?_
     have hround:∀ (rec:Loop) (l:Nat),rec={ state:=.ready,pending:=none,fn:=fn,tmps:=a.tmps,params:=ps,assign:=ag,body:=bd,defers:=w.heap.size }→
       ∀ args W R,W.heap[l]?=some (.loop rec)→(uu1 zs fun vs=>args=vs∧den P n cuts loops ag (fun e ε1 Wa=>match e with
        | .normal=>qk2 l rec Wa fun Wb=>den P n cuts loops bd (fun e _ U=>match e with
         | .normal=>uw6 l rec U R
         | _=>False) ε1 Wb
        | _=>False) (Env.laid ts vs (Env.keep ε keep)) W)→vb9 P l args W R:=by
      intro rec l hrec args W R hW hr F k hF
      obtain ⟨vs,hvs,rfl,hr⟩:=qb1 hr
      have hy:=run_yield (P:=P) (args:=args.toArray) hW (by rw [hrec];simp [hvs,hzs,hts])
      have hset:((rec.params.zip args.toArray).foldl (fun tmps (x:Tmp×Value)=>tmps.setIfInBounds x.1 x.2) rec.tmps)=xp8 a.tmps ts args:=by
       rw [ud6,hts,hrec]
      have hF':Free (F.inRound l):=by
       rcases hF with rfl | ⟨l',rfl⟩
       ·exact .inr ⟨l,rfl⟩
       ·exact .inr ⟨l,rfl⟩
      refine ⟨_,_,_,_,hy,roundIn_of_wpIn (hF.fn _) ?_⟩
      rw [hset]
      have hsz:(xp8 a.tmps ts args).size=n:=by rw [vd0];exact hn
      have hkeep:EnvD [] (Env.keep ε keep) { tmps:=xp8 a.tmps ts args,defers:=[] }:=vv1 (ws:=ts) hε (fun t ht=>xd9 ts args a.tmps t ht) hok.1 rfl
      have hlaid:EnvD [] (Env.laid ts args (Env.keep ε keep)) { tmps:=xp8 a.tmps ts args,defers:=[] }:=vh2 hkeep (vy6 ts args a.tmps hok.2 (fun t ht=>by rw [hn];exact of_decide_eq_true (by simpa using hlt t ht)))
      have e2:rec.assign=ag:=by rw [hrec]
      have e3:rec.body=bd:=by rw [hrec]
      rw [e2,e3]
      refine wpIn_mono (xb1 hF' hm ag _ _ W _ hr hlaid hsz) ?_
      rintro e a1 Wa ⟨hp,ho,hg',ε1,hε1,hn1,hsame,hq⟩
      cases e with
      | normal =>
       obtain ⟨hWa,hq⟩:=hq
       refine ⟨_,run_beginRound hWa (by rw [hrec]),?_⟩
       refine wpIn_mono (xb1 hF' hm bd _ _ _ _ hq hε1 hn1) ?_
       rintro e a2 U ⟨hp,ho,hg',ε2,hε2,hn2,hsame2,hq⟩
       cases e with
       | normal =>
        obtain ⟨hU,hR⟩:=hq
        have hend:=run_endRound (P:=P) none hU
        refine ⟨_,_,hend,_,rfl,?_⟩
        have e4:({ ({ rec with state:=LoopState.busy }:Loop) with state:=if (none:Option Code).isNone then LoopState.ready else LoopState.done,pending:=none }:Loop)=rec:=by rw [hrec];rfl
        rw [e4]
        exact hR
       | panic c=>exact (hp c rfl).elim
       | outgrown=>exact (ho rfl).elim
       | goto l=>exact (hg' l rfl).elim
       | _=>exact hq.elim
      | panic c=>exact (hp c rfl).elim
      | outgrown=>exact (ho rfl).elim
      | goto l=>exact (hg' l rfl).elim
      | _=>exact hq.elim
     obtain ⟨W1,hW1⟩: ∃ W1,W1=(w.alloc (.deferred (some []))).alloc (.loop { state:=.ready,pending:=none,fn:=fn,tmps:=a.tmps,params:=ps,assign:=ag,body:=bd,defers:=w.heap.size }):=⟨_,rfl⟩
     refine ⟨w.heap.size+1,[coll w.heap.size],W1,{ target:=.fn (.func gf) cap,args:=#[.func (.yield (w.heap.size+1)) #[] #[]] },W1,gf,(.func (.yield (w.heap.size+1)) #[] #[] :: cap.toList).toArray,W1,(by rw [hW1];exact run_enterLoop_outer _ _ _ _ _),?_,fun _ _=>trivial,?_,(fun hx=>by cases hx),?_⟩
     ·have hge:=hε.eval hg
      show (Deferred.ofValue (a.eval g) _).run P W1=_
      rw [hge]
      simp [Deferred.ofValue,rangeCall,Act.eval]
     ·have:(#[Value.func (.yield (w.heap.size+1)) #[] #[]] ++ cap)=(.func (.yield (w.heap.size+1)) #[] #[] :: cap.toList).toArray:=by apply Array.ext';simp
      simp only [invoke,this,xe0 hb]
     ·refine callsIn_wide.2 (Calls.mono (h w.heap.size (w.heap.size+1) _ _ _ ⟨rfl,rfl⟩ ⟨by rw [World.size_alloc],hW1⟩ (hround _ _ rfl)) ?_)
      rintro e w3 ⟨v,rfl,hl,hk⟩
      refine ⟨none,_,run_endLoop hl (by simp),?_⟩
      exact ⟨by simp,by simp,by simp,[w.heap.size],ε,⟨by rw [hε.1];rfl,hε.2⟩,hn,hk _⟩
    ·exact h.elim
   ·exact h.elim
 ·exact h.elim
theorem xv1 {m n:Nat} {cuts loops:vx5} (hm:P.follows .mixedOrders=true) {c:Code} {Q:Exit→List Nat→Env→World→Prop} {Ds:List Nat} {ε:Env} {w:World} {a:Act}
  (h:den P n cuts loops c (fun e ε' w'=>Q e Ds ε' w') ε w) (hε:EnvD (Ds.map coll) ε a) (hn:a.tmps.size=n):c.wpIn Fence.wide m P (ql2 n Q) a w:=by
 refine wpIn_mono (xb1 (.inl rfl) hm c _ _ w _ h hε hn) ?_
 rintro e a' w' ⟨hp,ho,hg,ε',hε',hn',hsame,hq⟩
 exact ⟨hp,ho,hg,Ds,ε',hε',hn',hq⟩
theorem uu4 {m n:Nat} {cuts loops:vx5} (hm:P.follows .mixedOrders=true):∀ (c:Code) (Q:Exit→List Nat→Env→World→Prop) (Ds:List Nat) (ε:Env) (w:World) (a:Act),denD P n cuts loops c Q Ds ε w→EnvD (Ds.map coll) ε a→a.tmps.size=n→
  c.wpIn Fence.wide m P (ql2 n Q) a w:=by
 intro c
 induction c with
 | rangeFunc g ps ag bd _ _ =>
  intro Q Ds ε w a h hε hn
  cases Ds with
  | nil=>exact ui0 hm h hε hn
  | cons D Ds=>simp only [denD] at h
 | seq x y ihx ihy =>
  intro Q Ds ε w a h hε hn
  simp only [denD] at h
  split at h
  ·refine wpIn_seq (wpIn_mono (ihx _ _ _ _ _ h hε hn) ?_)
   rintro e a' w' ⟨hp,ho,hg,Ds',ε',hε',hn',hq⟩
   cases e with
   | normal=>exact ihy _ _ _ _ _ hq hε' hn'
   | panic c=>exact (hp c rfl).elim
   | outgrown=>exact (ho rfl).elim
   | goto l=>exact (hg l rfl).elim
   | _=>exact ⟨by simp,by simp,by simp,Ds',ε',hε',hn',hq⟩
  ·exact xv1 hm h hε hn
 | block id x ih =>
  intro Q Ds ε w a h hε hn
  simp only [denD] at h
  split at h
  ·refine wpIn_block (wpIn_mono (ih _ _ _ _ _ h hε hn) ?_)
   rintro e a' w' ⟨hp,ho,hg,Ds',ε',hε',hn',hq⟩
   cases e with
   | exit id' =>
    simp only [Exit.inBlock]
    simp only at hq
    split
    ·rename_i e;rw [if_pos e] at hq;exact ⟨by simp,by simp,by simp,Ds',ε',hε',hn',hq⟩
    ·rename_i e;rw [if_neg e] at hq;exact ⟨by simp,by simp,by simp,Ds',ε',hε',hn',hq⟩
   | panic c=>exact (hp c rfl).elim
   | outgrown=>exact (ho rfl).elim
   | goto l=>exact (hg l rfl).elim
   | _=>exact ⟨by simp,by simp,by simp,Ds',ε',hε',hn',hq⟩
  ·exact xv1 hm h hε hn
 | _=>intro Q Ds ε w a h hε hn;exact xv1 hm h hε hn
theorem za1 {f:FuncId} {fn:Func} (hm:P.follows .mixedOrders=true) (hf:P.funcs[f]?=some fn) (cuts loops:vx5) {args:List Value} {w:World} {R:Value→World→Prop}
  (h:qh2 P fn cuts loops args w R):za0 P f args.toArray w R:=by
 unfold qh2 at h
 split at h
 ·rename_i c hb
  split at h
  ·rename_i hl
   have hsz:(args.toArray ++ Array.replicate (fn.ntmps - args.toArray.size) undef).size=fn.ntmps:=by simp;omega
   have hε:EnvD [] (vs6 0 args) { tmps:=args.toArray ++ Array.replicate (fn.ntmps - args.toArray.size) undef,defers:=[] }:=by
    refine ⟨rfl,fun t v hv=>?_⟩
    obtain ⟨_,hv⟩:=vr9 hv
    have hlt:t<args.length:=by
     have:=(List.getElem?_eq_some_iff.1 hv).1
     omega
    simp only [Nat.sub_zero] at hv
    rw [Array.getElem?_append_left (by simpa using hlt)]
    simpa using hv
   split at h
   ·refine callsIn_wide.1 (callsIn_of_wp_marks (F:=Fence.wide) (n:=0) hf hb trivial (wpIn_mono (uu4 hm c _ [] _ w _ h hε hsz) ?_))
    rintro e a' w' ⟨hp,ho,hg,Ds,ε',hε',hn',hq⟩
    have key:∀ {e:Exit},e= .normal∨e= .ret→ql9 P fn.results.toList R e Ds ε' w'→LeavesInM Fence.wide 0 P fn a'.tmps (fun e w'=>∃ v,e= .returned v∧R v w') a'.defers .returning w':=by
     intro e he hq
     rw [hε'.1]
     cases Ds with
     | nil =>
      have hq':resP P ε' w' fn.results.toList fun vs=>R (vd8 vs) w':=by
       rcases he with rfl | rfl<;>exact hq
      obtain ⟨v,hr,hR⟩:=yq6 hε' hq'
      exact ⟨v,hr,v,rfl,hR⟩
     | cons D Ds =>
      cases Ds with
      | nil =>
       have hq':w'.heap[D]?=some (.deferred (some []))∧resP P ε' (w'.putObj D (.deferred none)) fn.results.toList fun vs=>R (vd8 vs) (w'.putObj D (.deferred none)):=by
        rcases he with rfl | rfl<;>exact hq
       obtain ⟨v,hr,hR⟩:=yq6 hε' hq'.2
       exact ⟨by simp,.inl ⟨D,_,rfl,run_takeDeferred hq'.1,v,hr,v,rfl,hR⟩⟩
      | cons D' Ds=>rcases he with rfl | rfl<;>exact hq.elim
    cases e with
    | normal=>exact key (.inl rfl) hq
    | ret=>exact key (.inr rfl) hq
    | panic c=>exact (hp c rfl).elim
    | outgrown=>exact (ho rfl).elim
    | goto l=>exact (hg l rfl).elim
    | _=>cases Ds with
     | nil=>exact hq.elim
     | cons D Ds=>cases Ds<;>exact hq.elim
   ·refine callsIn_wide.1 (callsIn_of_wp (F:=Fence.wide) (n:=0) hf hb trivial (wpIn_mono (xb1 (.inl rfl) hm c _ _ w _ h hε hsz) ?_))
    rintro e a' w' ⟨hp,ho,hg,ε',hε',hn',hsame,hq⟩
    cases e with
    | normal =>
     obtain ⟨v,hr,hR⟩:=yq6 hε' hq
     exact ⟨hε'.1,v,hr,v,rfl,hR⟩
    | ret =>
     obtain ⟨v,hr,hR⟩:=yq6 hε' hq
     exact ⟨hε'.1,v,hr,v,rfl,hR⟩
    | _=>exact hq.elim
  ·exact h.elim
 ·exact h.elim
end
end Go.Den
section
namespace Go.Den
open Go.Proofs
noncomputable def prog:Program:=Tryz.prog
theorem follows:prog.follows .mixedOrders=true:=by kernel_rfl
def br (b:Bool) (X Y:Prop):Prop:=match b with | true=>X | false=>Y
def yp7 (v:Value) (args:List Value) (w:World) (K:Value→World→Prop):Prop :=
 match v with
 | .func (.func f) first captured=>xn5 prog f=true∧za0 prog f (first.toList ++ args ++ captured.toList).toArray w K
 | .func (.yield l) first captured=>first.toList=[]∧captured.toList=[]∧vb9 prog l args w K
 | _=>False
namespace K
def zj6:Nat:=5
def zh8:Nat:=6
def zi9:Nat:=8
def yn3:Nat:=9
def ze9:Nat:=10
def yj9:Nat:=11
def ze6:Nat:=12
def zp4:Nat:=13
def zb9:Nat:=14
def zk2:Nat:=15
def zq7:Nat:=16
def zq1:Nat:=17
def zh7:Nat:=18
def zm2:Nat:=19
def zd2:Nat:=20
def zl6:Nat:=21
def zb1:Nat:=22
def zd3:Nat:=23
def zi8:Nat:=24
def zd9:Nat:=25
def zg1:Nat:=26
def zi6:Nat:=29
def zl0:Nat:=30
def zz0:Nat:=31
def zu5:Nat:=32
def yb5:Nat:=33
def zs7:Nat:=34
def zz1:Nat:=35
def zk4:Nat:=36
def zh2:Nat:=37
def zg7:Nat:=38
def zp5:Nat:=39
def yh1:Nat:=40
def zd6:Nat:=41
def yi7:Nat:=42
def zu4:Nat:=43
def zt5:Nat:=44
def yl9:Nat:=45
def zj0:Nat:=46
def ze2:Nat:=47
def zy8:Nat:=48
def ya0:Nat:=49
def zm1:Nat:=50
def zm0:Nat:=51
def zf4:Nat:=52
def zn4:Nat:=53
def zf9:Nat:=54
def zm5:Nat:=55
def zt4:Nat:=56
def zs3:Nat:=57
def zv0:Nat:=58
def zw5:Nat:=59
def zj1:Nat:=60
def zi7:Nat:=61
def zp0:Nat:=62
def zj4:Nat:=63
def zn8:Nat:=64
def zk9:Nat:=65
def yp4:Nat:=66
def xv3:Nat:=67
def zq2:Nat:=68
def zp1:Nat:=69
def zo4:Nat:=70
def zn6:Nat:=71
def yd2:Nat:=72
def zf1:Nat:=73
def zw1:Nat:=74
def zi4:Nat:=75
def zn3:Nat:=76
def yt9:Nat:=77
def ye4:Nat:=78
def yu6:Nat:=79
def zd7:Nat:=80
def yd4:Nat:=81
def zs6:Nat:=82
def zu3:Nat:=83
def zs1:Nat:=84
def zs5:Nat:=85
def zs4:Nat:=86
def zz6:Nat:=87
def zs2:Nat:=88
def ym8:Nat:=89
def yh6:Nat:=90
def zk6:Nat:=91
def zv7:Nat:=92
def yr1:Nat:=93
def yd5:Nat:=94
def ze5:Nat:=95
def zd4:Nat:=96
def zi5:Nat:=97
def zh9:Nat:=98
def zo8:Nat:=99
def zr0:Nat:=100
def zl3:Nat:=101
def zn9:Nat:=102
def zn7:Nat:=103
def ze8:Nat:=104
def zh4:Nat:=105
def zr2:Nat:=106
def zl4:Nat:=107
def zk0:Nat:=111
def ze7:Nat:=112
def yg6:Nat:=113
def zv6:Nat:=114
def yf7:Nat:=116
def zl1:Nat:=117
def zd5:Nat:=118
def zn0:Nat:=119
def yj7:Nat:=120
def yg8:Nat:=121
def zs0:Nat:=122
def yd8:Nat:=123
def yd3:Nat:=124
def zy2:Nat:=125
def ye2:Nat:=126
def zy9:Nat:=127
def zw6:Nat:=128
def ya9:Nat:=129
def yb9:Nat:=130
def yb7:Nat:=131
def yw3:Nat:=132
def yr7:Nat:=133
def zn1:Nat:=134
def zl8:Nat:=135
def zl5:Nat:=136
def zm6:Nat:=137
def zi2:Nat:=138
def zb3:Nat:=139
def zj3:Nat:=140
def zf2:Nat:=141
def zg0:Nat:=142
def zm4:Nat:=143
def zj2:Nat:=144
def zo0:Nat:=145
def zq8:Nat:=146
def zo7:Nat:=147
def yd1:Nat:=148
def yb4:Nat:=149
def zd8:Nat:=150
def zj8:Nat:=151
def ye6:Nat:=152
def zt1:Nat:=153
def zx1:Nat:=154
def ya2:Nat:=155
def zy5:Nat:=156
def yq7:Nat:=157
def yk2:Nat:=158
def zt8:Nat:=159
def yd6:Nat:=160
def zj5:Nat:=162
def zo9:Nat:=163
def yg7:Nat:=164
def ym7:Nat:=165
def yf4:Nat:=166
def zc3:Nat:=167
def zw0:Nat:=168
def ze1:Nat:=169
def zv2:Nat:=170
def yf5:Nat:=171
def zq6:Nat:=172
def zo6:Nat:=173
def zm3:Nat:=174
def yu3:Nat:=176
def zz7:Nat:=177
def zq3:Nat:=178
def zn2:Nat:=179
def zb8:Nat:=180
def ya5:Nat:=181
def yj5:Nat:=182
def zv8:Nat:=183
def zq5:Nat:=184
def zn5:Nat:=185
def zr9:Nat:=186
def zr1:Nat:=187
def yq9:Nat:=189
def ya1:Nat:=190
def zq4:Nat:=191
end K
namespace T
def func:Nat:=1
def int:Nat:=3
def bool:Nat:=4
def zf7:Nat:=5
def string:Nat:=9
def interface:Nat:=20
def zu0:Nat:=23
def vx3:Nat:=29
def yw7:Nat:=31
def uv3:Nat:=34
def zx6:Nat:=40
def xv8:Nat:=45
def zx7:Nat:=47
def zc6:Nat:=49
def zp2:Nat:=51
def xc6:Nat:=64
def yf6:Nat:=66
def yc7:Nat:=70
def zc9:Nat:=72
def za9:Nat:=74
def zy3:Nat:=83
def vu6:Nat:=86
def zy0:Nat:=87
def qc8:Nat:=94
def zm7:Nat:=119
def vf0:Nat:=148
def yj4:Nat:=178
def ya8:Nat:=181
def zy7:Nat:=204
def xo4:Nat:=233
def xi8:Nat:=239
end T
end Go.Den
end
namespace Go.Den
section
set_option maxRecDepth 100000
open Go.Proofs
def zj6.body (y0a:Int) (y1a:Option Addr) (y1aL y1aC:Nat) (y2a:Option Addr) (y2aL y2aC:Nat) (y3a:Int) (y4a:Option Addr) (y4aL y4aC:Nat) (y5a:Option Addr) (y5aL y5aC:Nat) (w:World) (R:Value→World→Prop):Prop :=
 za0 prog K.zi8 #[.int .u8 y0a] w fun v1 w1=>∃ p1 b1,v1= .tuple #[.pointer p1,.bool b1]∧br (!b1) (R (.bool false) w1) (∃ J1:World→Prop,(∃ (J2:Int→World→Prop) (μ1:Int→World→Nat),J2 0 w1∧∀ x1:Int,∀ w2:World,J2 x1 w2→br (decide (x1<((y1aL:Nat):Int))) (br (decide (x1<60)) (idxP y1a y1aL x1 3 fun q1=>∃ x2 a1 l1 c1 x3,za3 w2 q1 [.int .i64 x2,.slice a1 l1 c1,.int .u8 x3] 0∧za0 prog K.zd9 #[.pointer p1,.agg #[.int .i64 x2,.slice a1 l1 c1,.int .u8 x3]] w2 fun v2 w3=>∃ b2,v2= .bool b2∧br (!b2) (R (.bool false) w3) (J2 (IntKind.i64.wrap (x1+1)) w3∧μ1 (IntKind.i64.wrap (x1+1)) w3 < μ1 x1 w2)) (J1 w2)) (J1 w2))∧(∀ w4:World,J1 w4→za0 prog K.ze6 #[.slice y2a y2aL y2aC] w4 fun v3 w5=>∃ a2 l2 c2,v3= .slice a2 l2 c2∧nilC p1 fun q2=>∃ p2,w5.cell? q2=some (.pointer p2)∧(30:Int)≠0∧∀ B1 w6,New w5 (.cells #[.int .i64 (IntKind.i64.wrap (Int.tmod y3a 30)),.bool false,.slice y4a y4aL y4aC] T.zx6) B1 w6→za0 prog K.zk2 #[.pointer p2,.slice (some ⟨B1,0,none⟩) 1 1] w6 fun v4 w7=>∃ x4,v4= .int .i64 x4∧nilC p1 fun q3=>∃ p3,w7.cell? (q3.add 1)=some (.pointer p3)∧za0 prog K.zp4 #[.pointer p3,.slice a2 l2 c2] w7 fun v5 w8=>∃ x5,v5= .int .i64 x5∧nilC p1 fun q4=>∃ p4,w8.cell? q4=some (.pointer p4)∧za0 prog K.zi6 #[.pointer p4] w8 fun v6 w9=>∃ p5 x6,v6= .tuple #[.pointer p5,.int .i64 x6]∧br (x6 != 0) (R (.bool false) w9) (nilC p1 fun q5=>∃ a3 l3 c3,w9.cell? (q5.add 2)=some (.slice a3 l3 c3)∧za0 prog K.zl0 #[.slice a2 l2 c2] w9 fun v7 w10=>∃ b3,v7= .bool b3∧br b3 (nilC p1 fun q6=>∃ a4 l4 c4,w10.cell? (q6.add 2)=some (.slice a4 l4 c4)∧za0 prog K.zd3 #[.slice a4 l4 c4,.slice a2 l2 c2] w10 fun v8 w11=>∃ a5 l5 c5,v8= .slice a5 l5 c5∧za0 prog K.zd2 #[.pointer p5,.int .u32 3] w11 fun v9 w12=>∃ a6 l6 c6,v9= .slice a6 l6 c6∧∃ J3:World→Prop,(br (x5 == 0) (za0 prog K.zb1 #[.slice a6 l6 c6,.slice a5 l5 c5] w12 fun v10 w13=>∃ b4,v10= .bool b4∧br (!b4) (R (.bool false) w13) (br (x5 != 0) (nilC p1 fun q7=>∃ a7 l7 c7,w13.cell? (q7.add 2)=some (.slice a7 l7 c7)∧za0 prog K.zb1 #[.slice a6 l6 c6,.slice a7 l7 c7] w13 fun v11 w14=>∃ b5,v11= .bool b5∧br (!b5) (br (x5 == 10) (za0 prog K.zb1 #[.slice a6 l6 c6,.slice a5 l5 c5] w14 fun v12 w15=>∃ b6,v12= .bool b6∧br (!b6) (R (.bool false) w15) (J3 w15)) (R (.bool false) w14)) (J3 w14)) (J3 w13))) (br (x5 != 0) (nilC p1 fun q8=>∃ a8 l8 c8,w12.cell? (q8.add 2)=some (.slice a8 l8 c8)∧za0 prog K.zb1 #[.slice a6 l6 c6,.slice a8 l8 c8] w12 fun v13 w16=>∃ b7,v13= .bool b7∧br (!b7) (br (x5 == 10) (za0 prog K.zb1 #[.slice a6 l6 c6,.slice a5 l5 c5] w16 fun v14 w17=>∃ b8,v14= .bool b8∧br (!b8) (R (.bool false) w17) (J3 w17)) (R (.bool false) w16)) (J3 w16)) (J3 w12)))∧(∀ w18:World,J3 w18→za0 prog K.zz0 #[.pointer p5,.int .u32 3] w18 fun v15 w19=>∃ p6 x7,v15= .tuple #[.pointer p6,.int .i64 x7]∧br (x7 != 0) (R (.bool false) w19) (za0 prog K.zm2 #[.pointer p6] w19 fun v16 w20=>∃ a9 l9 c9,v16= .slice a9 l9 c9∧za0 prog K.zb1 #[.slice a9 l9 c9,.slice a6 l6 c6] w20 fun v17 w21=>∃ b9,v17= .bool b9∧br (!b9) (R (.bool false) w21) (za0 prog K.ze6 #[.slice y5a y5aL y5aC] w21 fun v18 w22=>∃ a10 l10 c10,v18= .slice a10 l10 c10∧za0 prog K.zp4 #[.pointer p6,.slice a10 l10 c10] w22 fun v19 w23=>∃ x8,v19= .int .i64 x8∧br (x8 != 0) (za0 prog K.zb9 #[] w23 fun v20 w24=>∃ b10,v20= .bool b10∧R (.bool b10) w24) (za0 prog K.zd2 #[.pointer p5,.int .u32 3] w23 fun v21 w25=>∃ a11 l11 c11,v21= .slice a11 l11 c11∧za0 prog K.zd3 #[.slice a6 l6 c6,.slice a10 l10 c10] w25 fun v22 w26=>∃ a12 l12 c12,v22= .slice a12 l12 c12∧za0 prog K.zb1 #[.slice a11 l11 c11,.slice a12 l12 c12] w26 fun v23 w27=>∃ b11,v23= .bool b11∧br b11 (za0 prog K.zb9 #[] w27 fun v24 w28=>∃ b12,v24= .bool b12∧R (.bool b12) w28) (R (.bool false) w27)))))) (za0 prog K.zd2 #[.pointer p5,.int .u32 3] w10 fun v25 w29=>∃ a13 l13 c13,v25= .slice a13 l13 c13∧∃ J4:World→Prop,(br (x5 == 0) (za0 prog K.zb1 #[.slice a13 l13 c13,.slice a3 l3 c3] w29 fun v26 w30=>∃ b13,v26= .bool b13∧br (!b13) (R (.bool false) w30) (br (x5 != 0) (nilC p1 fun q9=>∃ a14 l14 c14,w30.cell? (q9.add 2)=some (.slice a14 l14 c14)∧za0 prog K.zb1 #[.slice a13 l13 c13,.slice a14 l14 c14] w30 fun v27 w31=>∃ b14,v27= .bool b14∧br (!b14) (br (x5 == 10) (za0 prog K.zb1 #[.slice a13 l13 c13,.slice a3 l3 c3] w31 fun v28 w32=>∃ b15,v28= .bool b15∧br (!b15) (R (.bool false) w32) (J4 w32)) (R (.bool false) w31)) (J4 w31)) (J4 w30))) (br (x5 != 0) (nilC p1 fun q10=>∃ a15 l15 c15,w29.cell? (q10.add 2)=some (.slice a15 l15 c15)∧za0 prog K.zb1 #[.slice a13 l13 c13,.slice a15 l15 c15] w29 fun v29 w33=>∃ b16,v29= .bool b16∧br (!b16) (br (x5 == 10) (za0 prog K.zb1 #[.slice a13 l13 c13,.slice a3 l3 c3] w33 fun v30 w34=>∃ b17,v30= .bool b17∧br (!b17) (R (.bool false) w34) (J4 w34)) (R (.bool false) w33)) (J4 w33)) (J4 w29)))∧(∀ w35:World,J4 w35→za0 prog K.zz0 #[.pointer p5,.int .u32 3] w35 fun v31 w36=>∃ p7 x9,v31= .tuple #[.pointer p7,.int .i64 x9]∧br (x9 != 0) (R (.bool false) w36) (za0 prog K.zm2 #[.pointer p7] w36 fun v32 w37=>∃ a16 l16 c16,v32= .slice a16 l16 c16∧za0 prog K.zb1 #[.slice a16 l16 c16,.slice a13 l13 c13] w37 fun v33 w38=>∃ b18,v33= .bool b18∧br (!b18) (R (.bool false) w38) (za0 prog K.ze6 #[.slice y5a y5aL y5aC] w38 fun v34 w39=>∃ a17 l17 c17,v34= .slice a17 l17 c17∧za0 prog K.zp4 #[.pointer p7,.slice a17 l17 c17] w39 fun v35 w40=>∃ x10,v35= .int .i64 x10∧br (x10 != 0) (za0 prog K.zb9 #[] w40 fun v36 w41=>∃ b19,v36= .bool b19∧R (.bool b19) w41) (za0 prog K.zd2 #[.pointer p5,.int .u32 3] w40 fun v37 w42=>∃ a18 l18 c18,v37= .slice a18 l18 c18∧za0 prog K.zd3 #[.slice a13 l13 c13,.slice a17 l17 c17] w42 fun v38 w43=>∃ a19 l19 c19,v38= .slice a19 l19 c19∧za0 prog K.zb1 #[.slice a18 l18 c18,.slice a19 l19 c19] w43 fun v39 w44=>∃ b20,v39= .bool b20∧br b20 (za0 prog K.zb9 #[] w44 fun v40 w45=>∃ b21,v40= .bool b21∧R (.bool b21) w45) (R (.bool false) w44)))))))))
theorem zj6.sh {y0a:Int} {y1a:Option Addr} {y1aL y1aC:Nat} {y2a:Option Addr} {y2aL y2aC:Nat} {y3a:Int} {y4a:Option Addr} {y4aL y4aC:Nat} {y5a:Option Addr} {y5aL y5aC:Nat} {w:World} {R:Value→World→Prop} (h:zj6.body y0a y1a y1aL y1aC y2a y2aL y2aC y3a y4a y4aL y4aC y5a y5aL y5aC w R) :
  za0 prog K.zj6 #[.int .u8 y0a,.slice y1a y1aL y1aC,.slice y2a y2aL y2aC,.int .u8 y3a,.slice y4a y4aL y4aC,.slice y5a y5aL y5aC] w R :=
 za1 follows (f:=K.zj6) Tryz.func5 ([(9,[2,3,4,5,13],[],[]),(21,[5,18,21],[],[])]) ([(5,[1,2,3,4,5,13],[15],[.int .i64 0])])
  (Eq.mp (by kernel_rfl) h)
def zh8.body (y0a:Int) (y1a:Option Addr) (y1aL y1aC:Nat) (y2a:Option Addr) (y2aL y2aC:Nat) (y3a:Option Addr) (y3aL y3aC:Nat) (w:World) (R:Value→World→Prop):Prop :=
 za0 prog K.zi8 #[.int .u8 y0a] w fun v1 w1=>∃ p1 b1,v1= .tuple #[.pointer p1,.bool b1]∧br (!b1) (R (.bool false) w1) (∃ (J1:Int→World→Prop) (μ1:Int→World→Nat),J1 0 w1∧∀ x1:Int,∀ w2:World,J1 x1 w2→br (decide (x1<((y1aL:Nat):Int))) (br (decide (x1<60)) (idxP y1a y1aL x1 3 fun q1=>∃ x2 a1 l1 c1 x3,za3 w2 q1 [.int .i64 x2,.slice a1 l1 c1,.int .u8 x3] 0∧za0 prog K.zd9 #[.pointer p1,.agg #[.int .i64 x2,.slice a1 l1 c1,.int .u8 x3]] w2 fun v2 w3=>∃ b2,v2= .bool b2∧br (!b2) (R (.bool false) w3) (J1 (IntKind.i64.wrap (x1+1)) w3∧μ1 (IntKind.i64.wrap (x1+1)) w3 < μ1 x1 w2)) (nilC p1 fun q2=>∃ p2,w2.cell? q2=some (.pointer p2)∧∃ (J2:Option Addr→Int→World→Prop) (μ2:Option Addr→Int→World→Nat),J2 p2 0 w2∧∀ p3:Option Addr,∀ x4:Int,∀ w4:World,J2 p3 x4 w4→br (decide (x4<((y2aL:Nat):Int))) (br (decide (x4<4)) (za0 prog K.zz0 #[.pointer p3,.int .u32 3] w4 fun v3 w5=>∃ p4 x5,v3= .tuple #[.pointer p4,.int .i64 x5]∧br (x5 != 0) (R (.bool false) w5) (idxP y2a y2aL x4 1 fun q3=>∃ x6,w5.cell? q3=some (.int .u8 x6)∧(30:Int)≠0∧∀ B1 w6,New w5 (.cells #[.int .i64 (IntKind.i64.wrap (Int.tmod x6 30)),.bool false,.slice y3a y3aL y3aC] T.zx6) B1 w6→za0 prog K.zk2 #[.pointer p3,.slice (some ⟨B1,0,none⟩) 1 1] w6 fun v4 w7=>∃ x7,v4= .int .i64 x7∧za0 prog K.zu5 #[.pointer p4,.int .i64 16] w7 fun v5 w8=>∃ x8,v5= .int .i64 x8∧za0 prog K.zi6 #[.pointer p3] w8 fun v6 w9=>∃ p5 x9,v6= .tuple #[.pointer p5,.int .i64 x9]∧∀ w10:World,Drew w9 w10→∃ S1:World→Prop,S1 w10∧nilC p1 fun q4=>∃ a2 l2 c2,(∀ u1,S1 u1→u1.cell? (q4.add 2)=some (.slice a2 l2 c2))∧za0 prog K.zd2 #[.pointer p5,.int .u32 3] w10 fun v7 w11=>∃ a3 l3 c3,v7= .slice a3 l3 c3∧S1 w11∧za0 prog K.zb1 #[.slice a3 l3 c3,.slice a2 l2 c2] w11 fun v8 w12=>∃ b3,v8= .bool b3∧br (!b3) (R (.bool false) w12) (J2 p5 (IntKind.i64.wrap (x4+1)) w12∧μ2 p5 (IntKind.i64.wrap (x4+1)) w12 < μ2 p3 x4 w4))) (za0 prog K.zb9 #[] w4 fun v9 w13=>∃ b4,v9= .bool b4∧R (.bool b4) w13)) (za0 prog K.zb9 #[] w4 fun v10 w14=>∃ b5,v10= .bool b5∧R (.bool b5) w14))) (nilC p1 fun q5=>∃ p6,w2.cell? q5=some (.pointer p6)∧∃ (J3:Option Addr→Int→World→Prop) (μ3:Option Addr→Int→World→Nat),J3 p6 0 w2∧∀ p7:Option Addr,∀ x10:Int,∀ w15:World,J3 p7 x10 w15→br (decide (x10<((y2aL:Nat):Int))) (br (decide (x10<4)) (za0 prog K.zz0 #[.pointer p7,.int .u32 3] w15 fun v11 w16=>∃ p8 x11,v11= .tuple #[.pointer p8,.int .i64 x11]∧br (x11 != 0) (R (.bool false) w16) (idxP y2a y2aL x10 1 fun q6=>∃ x12,w16.cell? q6=some (.int .u8 x12)∧(30:Int)≠0∧∀ B2 w17,New w16 (.cells #[.int .i64 (IntKind.i64.wrap (Int.tmod x12 30)),.bool false,.slice y3a y3aL y3aC] T.zx6) B2 w17→za0 prog K.zk2 #[.pointer p7,.slice (some ⟨B2,0,none⟩) 1 1] w17 fun v12 w18=>∃ x13,v12= .int .i64 x13∧za0 prog K.zu5 #[.pointer p8,.int .i64 16] w18 fun v13 w19=>∃ x14,v13= .int .i64 x14∧za0 prog K.zi6 #[.pointer p7] w19 fun v14 w20=>∃ p9 x15,v14= .tuple #[.pointer p9,.int .i64 x15]∧∀ w21:World,Drew w20 w21→∃ S2:World→Prop,S2 w21∧nilC p1 fun q7=>∃ a4 l4 c4,(∀ u2,S2 u2→u2.cell? (q7.add 2)=some (.slice a4 l4 c4))∧za0 prog K.zd2 #[.pointer p9,.int .u32 3] w21 fun v15 w22=>∃ a5 l5 c5,v15= .slice a5 l5 c5∧S2 w22∧za0 prog K.zb1 #[.slice a5 l5 c5,.slice a4 l4 c4] w22 fun v16 w23=>∃ b6,v16= .bool b6∧br (!b6) (R (.bool false) w23) (J3 p9 (IntKind.i64.wrap (x10+1)) w23∧μ3 p9 (IntKind.i64.wrap (x10+1)) w23 < μ3 p7 x10 w15))) (za0 prog K.zb9 #[] w15 fun v17 w24=>∃ b7,v17= .bool b7∧R (.bool b7) w24)) (za0 prog K.zb9 #[] w15 fun v18 w25=>∃ b8,v18= .bool b8∧R (.bool b8) w25)))
theorem zh8.sh {y0a:Int} {y1a:Option Addr} {y1aL y1aC:Nat} {y2a:Option Addr} {y2aL y2aC:Nat} {y3a:Option Addr} {y3aL y3aC:Nat} {w:World} {R:Value→World→Prop} (h:zh8.body y0a y1a y1aL y1aC y2a y2aL y2aC y3a y3aL y3aC w R) :
  za0 prog K.zh8 #[.int .u8 y0a,.slice y1a y1aL y1aC,.slice y2a y2aL y2aC,.slice y3a y3aL y3aC] w R :=
 za1 follows (f:=K.zh8) Tryz.func6 ([]) ([(5,[1,2,3,9],[11],[.int .i64 0]),(11,[2,3,9],[12,13],[.pointer none,.int .i64 0])])
  (Eq.mp (by kernel_rfl) h)
def zi9.body (spares:Int) (l:Option Addr) (lL lC:Nat) (hits:Option Addr) (hitsL hitsC:Nat) (w:World) (R:Value→World→Prop):Prop :=
 za0 prog K.zi8 #[.int .u8 spares] w fun v1 w1=>∃ p1 b1,v1= .tuple #[.pointer p1,.bool b1]∧br (!b1) (R (.bool false) w1) (∀ w2:World,Drew w1 w2→∃ S1:World→Prop,S1 w2∧nilC p1 fun q1=>∃ p2,(∀ u1,S1 u1→u1.cell? q1=some (.pointer p2))∧za0 prog K.zk4 #[.slice hits hitsL hitsC] w2 fun v2 w3=>∃ a1 l1 c1,v2= .slice a1 l1 c1∧S1 w3∧za0 prog K.zk2 #[.pointer p2,.slice a1 l1 c1] w3 fun v3 w4=>∃ x1,v3= .int .i64 x1∧∃ (J1:Int→World→Prop) (μ1:Int→World→Nat),J1 0 w4∧∀ x2:Int,∀ w5:World,J1 x2 w5→br (decide (x2<((lL:Nat):Int))) (br (decide (x2<80)) (idxP l lL x2 3 fun q2=>∃ x3 a2 l2 c2 x4,za3 w5 q2 [.int .i64 x3,.slice a2 l2 c2,.int .u8 x4] 0∧za0 prog K.zd9 #[.pointer p1,.agg #[.int .i64 x3,.slice a2 l2 c2,.int .u8 x4]] w5 fun v4 w6=>∃ b2,v4= .bool b2∧br (!b2) (R (.bool false) w6) (nilC p1 fun q3=>∃ p3,w6.cell? q3=some (.pointer p3)∧za0 prog K.zh2 #[.pointer p3] w6 fun v5 w7=>∃ x5,v5= .int .i64 x5∧br (decide (x5<2)) (za0 prog K.zg7 #[.pointer p1] w7 fun v6 w8=>∃ b3,v6= .bool b3∧br (!b3) (R (.bool false) w8) (J1 (IntKind.i64.wrap (x2+1)) w8∧μ1 (IntKind.i64.wrap (x2+1)) w8 < μ1 x2 w5)) (J1 (IntKind.i64.wrap (x2+1)) w7∧μ1 (IntKind.i64.wrap (x2+1)) w7 < μ1 x2 w5))) (za0 prog K.zb9 #[] w5 fun v7 w9=>∃ b4,v7= .bool b4∧R (.bool b4) w9)) (za0 prog K.zb9 #[] w5 fun v8 w10=>∃ b5,v8= .bool b5∧R (.bool b5) w10))
theorem zi9.sh {spares:Int} {l:Option Addr} {lL lC:Nat} {hits:Option Addr} {hitsL hitsC:Nat} {w:World} {R:Value→World→Prop} (h:zi9.body spares l lL lC hits hitsL hitsC w R) :
  za0 prog K.zi9 #[.int .u8 spares,.slice l lL lC,.slice hits hitsL hitsC] w R :=
 za1 follows (f:=K.zi9) Tryz.func8 ([]) ([(6,[1,7],[9],[.int .i64 0])])
  (Eq.mp (by kernel_rfl) h)
def yn3.body (g_Blocks:Int) (g_Pages:Int) (g_Size:Int) (g_Spares:Int) (w:World) (R:Value→World→Prop):Prop :=
 ∀ B1 w1,New w (.cells #[.int .i64 g_Blocks,.int .i64 g_Pages,.int .i64 g_Size,.int .i64 g_Spares] T.vx3) B1 w1→∃ x1,w1.cell? ⟨B1,0,none⟩= some (.int .i64 x1)∧∃ x2,w1.cell? (Addr.add ⟨B1,0,none⟩ 1)=some (.int .i64 x2)∧∃ x3,w1.cell? (Addr.add ⟨B1,0,none⟩ 2)=some (.int .i64 x3)∧∃ x4,w1.cell? (Addr.add ⟨B1,0,none⟩ 3)=some (.int .i64 x4)∧∃ (J1:Int→World→Prop) (μ1:Int→World→Nat),J1 0 w1∧∀ x5:Int,∀ w2:World,J1 x5 w2→br (decide (x5<4)) (0≤x5∧x5<4∧((((True)∧(x5=((0:Nat):Int)→∀ B2 w3,New w2 (.cells #[.int .i64 0,.int .i64 0,.int .i64 0] T.qc8) B2 w3→za5 w3 ⟨B2,0,none⟩ [.int .i64 x1,.int .i64 8,.int .i64 64] fun w4=>0≤(0:Int)∧(0:Int)<3∧∃ x6,w4.cell? (Addr.add ⟨B2,0,none⟩ (Int.toNat (0:Int) * 1))=some (.int .i64 x6)∧0≤(1:Int)∧(1:Int)<3∧∃ x7,w4.cell? (Addr.add ⟨B2,0,none⟩ (Int.toNat (1:Int) * 1))=some (.int .i64 x7)∧br (decide (x6<x7)) (R (.tuple #[.pointer none,.int .i64 2]) w4) (0≤(0:Int)∧(0:Int)<3∧∃ x8,w4.cell? (Addr.add ⟨B2,0,none⟩ (Int.toNat (0:Int) * 1))=some (.int .i64 x8)∧0≤(2:Int)∧(2:Int)<3∧∃ x9,w4.cell? (Addr.add ⟨B2,0,none⟩ (Int.toNat (2:Int) * 1))=some (.int .i64 x9)∧br (decide (x8 > x9)) (R (.tuple #[.pointer none,.int .i64 2]) w4) (J1 (IntKind.i64.wrap (x5+1)) w4∧μ1 (IntKind.i64.wrap (x5+1)) w4 < μ1 x5 w2))))∧(x5=((1:Nat):Int)→∀ B3 w5,New w2 (.cells #[.int .i64 0,.int .i64 0,.int .i64 0] T.qc8) B3 w5→za5 w5 ⟨B3,0,none⟩ [.int .i64 x2,.int .i64 4,.int .i64 32] fun w6=>0≤(0:Int)∧(0:Int)<3∧∃ x10,w6.cell? (Addr.add ⟨B3,0,none⟩ (Int.toNat (0:Int) * 1))=some (.int .i64 x10)∧0≤(1:Int)∧(1:Int)<3∧∃ x11,w6.cell? (Addr.add ⟨B3,0,none⟩ (Int.toNat (1:Int) * 1))=some (.int .i64 x11)∧br (decide (x10<x11)) (R (.tuple #[.pointer none,.int .i64 2]) w6) (0≤(0:Int)∧(0:Int)<3∧∃ x12,w6.cell? (Addr.add ⟨B3,0,none⟩ (Int.toNat (0:Int) * 1))=some (.int .i64 x12)∧0≤(2:Int)∧(2:Int)<3∧∃ x13,w6.cell? (Addr.add ⟨B3,0,none⟩ (Int.toNat (2:Int) * 1))=some (.int .i64 x13)∧br (decide (x12 > x13)) (R (.tuple #[.pointer none,.int .i64 2]) w6) (J1 (IntKind.i64.wrap (x5+1)) w6∧μ1 (IntKind.i64.wrap (x5+1)) w6 < μ1 x5 w2))))∧(x5=((2:Nat):Int)→∀ B4 w7,New w2 (.cells #[.int .i64 0,.int .i64 0,.int .i64 0] T.qc8) B4 w7→za5 w7 ⟨B4,0,none⟩ [.int .i64 x3,.int .i64 128,.int .i64 256] fun w8=>0≤(0:Int)∧(0:Int)<3∧∃ x14,w8.cell? (Addr.add ⟨B4,0,none⟩ (Int.toNat (0:Int) * 1))=some (.int .i64 x14)∧0≤(1:Int)∧(1:Int)<3∧∃ x15,w8.cell? (Addr.add ⟨B4,0,none⟩ (Int.toNat (1:Int) * 1))=some (.int .i64 x15)∧br (decide (x14<x15)) (R (.tuple #[.pointer none,.int .i64 2]) w8) (0≤(0:Int)∧(0:Int)<3∧∃ x16,w8.cell? (Addr.add ⟨B4,0,none⟩ (Int.toNat (0:Int) * 1))=some (.int .i64 x16)∧0≤(2:Int)∧(2:Int)<3∧∃ x17,w8.cell? (Addr.add ⟨B4,0,none⟩ (Int.toNat (2:Int) * 1))=some (.int .i64 x17)∧br (decide (x16 > x17)) (R (.tuple #[.pointer none,.int .i64 2]) w8) (J1 (IntKind.i64.wrap (x5+1)) w8∧μ1 (IntKind.i64.wrap (x5+1)) w8 < μ1 x5 w2))))∧(x5=((3:Nat):Int)→∀ B5 w9,New w2 (.cells #[.int .i64 0,.int .i64 0,.int .i64 0] T.qc8) B5 w9→za5 w9 ⟨B5,0,none⟩ [.int .i64 x4,.int .i64 0,.int .i64 4] fun w10=>0≤(0:Int)∧(0:Int)<3∧∃ x18,w10.cell? (Addr.add ⟨B5,0,none⟩ (Int.toNat (0:Int) * 1))=some (.int .i64 x18)∧0≤(1:Int)∧(1:Int)<3∧∃ x19,w10.cell? (Addr.add ⟨B5,0,none⟩ (Int.toNat (1:Int) * 1))=some (.int .i64 x19)∧br (decide (x18<x19)) (R (.tuple #[.pointer none,.int .i64 2]) w10) (0≤(0:Int)∧(0:Int)<3∧∃ x20,w10.cell? (Addr.add ⟨B5,0,none⟩ (Int.toNat (0:Int) * 1))=some (.int .i64 x20)∧0≤(2:Int)∧(2:Int)<3∧∃ x21,w10.cell? (Addr.add ⟨B5,0,none⟩ (Int.toNat (2:Int) * 1))=some (.int .i64 x21)∧br (decide (x20 > x21)) (R (.tuple #[.pointer none,.int .i64 2]) w10) (J1 (IntKind.i64.wrap (x5+1)) w10∧μ1 (IntKind.i64.wrap (x5+1)) w10 < μ1 x5 w2)))) (∀ w11:World,Drew w2 w11→∃ S1:World→Prop,S1 w11∧∃ x22 x23 x24 x25,(∀ u1,S1 u1→za3 u1 ⟨B1,0,none⟩ [.int .i64 x22,.int .i64 x23,.int .i64 x24,.int .i64 x25] 0)∧∃ x26,(∀ u2,S1 u2→u2.cell? ⟨B1,0,none⟩= some (.int .i64 x26))∧ym4 T.bool 1 1 [.bool false] x26 x26 w11 fun a1 l1 c1 w12=>S1 w12∧∀ B6 w13,New w12 (.cells #[.int .i64 x22,.int .i64 x23,.int .i64 x24,.int .i64 x25,.slice none 0 0,.slice a1 l1 c1,.slice none 0 0,.int .i64 0,.bool false,.int .i64 0] T.zy3) B6 w13→S1 w13∧∃ x27,w13.cell? ⟨B1,0,none⟩= some (.int .i64 x27)∧∃ (J2:Int→World→Prop) (μ2:Int→World→Nat),J2 0 w13∧∀ x28:Int,∀ w14:World,J2 x28 w14→br (decide (x28<x27)) (∀ w15:World,Drew w14 w15→∃ S2:World→Prop,S2 w15∧∃ a2 l2 c2,(∀ u3,S2 u3→u3.cell? (Addr.add ⟨B6,0,none⟩ 4)=some (.slice a2 l2 c2))∧∃ x29,(∀ u4,S2 u4→u4.cell? (Addr.add ⟨B1,0,none⟩ 1)=some (.int .i64 x29))∧∃ x30,(∀ u5,S2 u5→u5.cell? (Addr.add ⟨B1,0,none⟩ 2)=some (.int .i64 x30))∧∀ B7 w16,New w15 (.cells #[.int .u8 255] T.zf7) B7 w16→S2 w16∧za0 prog K.zp5 #[.slice (some ⟨B7,0,none⟩) 1 1,.int .i64 (IntKind.i64.wrap (x29 * x30))] w16 fun v1 w17=>∃ a3 l3 c3,v1= .slice a3 l3 c3∧S2 w17∧∀ B8 w18,New w17 (.cells #[.slice a3 l3 c3] T.zu0) B8 w18→S2 w18∧zb5 T.zu0 1 24 [.slice none 0 0] a2 l2 c2 (.slice (some ⟨B8,0,none⟩) 1 1) w18 fun a4 l4 c4 w19=>S2 w19∧za5 w19 (Addr.add ⟨B6,0,none⟩ 4) [.slice a4 l4 c4] fun w20=>J2 (IntKind.i64.wrap (x28+1)) w20∧μ2 (IntKind.i64.wrap (x28+1)) w20 < μ2 x28 w14) (R (.tuple #[.pointer (some ⟨B6,0,none⟩),.int .i64 0]) w14))
theorem yn3.sh {g_Blocks:Int} {g_Pages:Int} {g_Size:Int} {g_Spares:Int} {w:World} {R:Value→World→Prop} (h:yn3.body g_Blocks g_Pages g_Size g_Spares w R) :
  za0 prog K.yn3 #[.agg #[.int .i64 g_Blocks,.int .i64 g_Pages,.int .i64 g_Size,.int .i64 g_Spares]] w R :=
 za1 follows (f:=K.yn3) Tryz.func9 ([]) ([(2,[1,19],[20],[.int .i64 0]),(9,[1,6,43],[44],[.int .i64 0])])
  (Eq.mp (by kernel_rfl) h)
def ze9.body (spares:Int) (w:World) (R:Value→World→Prop):Prop :=
 ∀ B1 w1,New w (.cells #[.int .i64 0,.int .i64 0,.int .i64 0,.int .i64 0] T.vx3) B1 w1→(2:Int)≠0∧za5 w1 ⟨B1,0,none⟩ [.int .i64 16,.int .i64 8,.int .i64 128,.int .i64 (IntKind.i64.wrap (Int.tmod spares 2))] fun w2=>∃ x1 x2 x3 x4,za3 w2 ⟨B1,0,none⟩ [.int .i64 x1,.int .i64 x2,.int .i64 x3,.int .i64 x4] 0∧R (.agg #[.int .i64 x1,.int .i64 x2,.int .i64 x3,.int .i64 x4]) w2
theorem ze9.sh {spares:Int} {w:World} {R:Value→World→Prop} (h:ze9.body spares w R) :
  za0 prog K.ze9 #[.int .u8 spares] w R :=
 za1 follows (f:=K.ze9) Tryz.func10 ([]) ([])
  (Eq.mp (by kernel_rfl) h)
def yj9.body (c:Option Addr) (era:Int) (w:World) (R:Value→World→Prop):Prop :=
 za0 prog K.yh1 #[.pointer c,.int .u32 era] w fun v1 w1=>∃ p1 a1 l1 c1 x1,v1= .tuple #[.pointer p1,.slice a1 l1 c1,.int .i64 x1]∧br (x1 != 0) (R (.tuple #[.pointer none,.int .i64 x1]) w1) (za0 prog K.zd6 #[.slice a1 l1 c1,.func (.func K.yi7) #[] #[]] w1 fun v2 w2=>∃ b1,v2= .bool b1∧br b1 (R (.tuple #[.pointer none,.int .i64 2]) w2) (∀ B1 w3,New w2 (.cells #[.pointer p1,.int .u32 era,.slice none 0 0,.int .i64 (-1),.int .i64 0] T.vu6) B1 w3→za0 prog K.zu4 #[.pointer (some ⟨B1,0,none⟩)] w3 fun v3 w4=>∃ x2,v3= .int .i64 x2∧br (x2 != 0) (R (.tuple #[.pointer none,.int .i64 x2]) w4) (R (.tuple #[.pointer (some ⟨B1,0,none⟩),.int .i64 0]) w4)))
theorem yj9.sh {c:Option Addr} {era:Int} {w:World} {R:Value→World→Prop} (h:yj9.body c era w R) :
  za0 prog K.yj9 #[.pointer c,.int .u32 era] w R :=
 za1 follows (f:=K.yj9) Tryz.func11 ([]) ([])
  (Eq.mp (by kernel_rfl) h)
def ze6.body (l:Option Addr) (lL lC:Nat) (w:World) (R:Value→World→Prop):Prop :=
 za0 prog K.zg1 #[.slice l lL lC] w fun v1 w1=>∃ a1 l1 c1,v1= .slice a1 l1 c1∧∃ (J1:Int→World→Prop) (μ1:Int→World→Nat),J1 0 w1∧∀ x1:Int,∀ w2:World,J1 x1 w2→br (decide (x1<((l1:Nat):Int))) (idxP a1 l1 x1 6 fun q1=>∃ x2,w2.cell? q1=some (.int .i64 x2)∧(2:Int)≠0∧idxP a1 l1 x1 6 fun q2=>za5 w2 q2 [.int .i64 (IntKind.i64.wrap ((1:Int)+(IntKind.i64.wrap (Int.tmod (IntKind.u64.wrap x2) 2))))] fun w3=>idxP a1 l1 x1 6 fun q3=>∃ x3,w3.cell? (q3.add 1)=some (.int .u8 x3)∧br (x3 == 2) (idxP a1 l1 x1 6 fun q4=>∃ x4,w3.cell? q4=some (.int .i64 x4)∧idxP a1 l1 x1 6 fun q5=>za5 w3 q5 [.int .i64 x4,.int .u8 1,.string (⟨#[]⟩: ByteArray),.int .i64 0] fun w4=>idxP a1 l1 x1 6 fun q6=>∃ x5,w4.cell? (q6.add 3)=some (.int .i64 x5)∧(2:Int)≠0∧idxP a1 l1 x1 6 fun q7=>za5 w4 (q7.add 3) [.int .i64 (IntKind.i64.wrap (Int.tmod (IntKind.u64.wrap x5) 2))] fun w5=>J1 (IntKind.i64.wrap (x1+1)) w5∧μ1 (IntKind.i64.wrap (x1+1)) w5 < μ1 x1 w2) (idxP a1 l1 x1 6 fun q8=>∃ x6,w3.cell? (q8.add 3)=some (.int .i64 x6)∧(2:Int)≠0∧idxP a1 l1 x1 6 fun q9=>za5 w3 (q9.add 3) [.int .i64 (IntKind.i64.wrap (Int.tmod (IntKind.u64.wrap x6) 2))] fun w6=>J1 (IntKind.i64.wrap (x1+1)) w6∧μ1 (IntKind.i64.wrap (x1+1)) w6 < μ1 x1 w2)) (R (.slice a1 l1 c1) w2)
theorem ze6.sh {l:Option Addr} {lL lC:Nat} {w:World} {R:Value→World→Prop} (h:ze6.body l lL lC w R) :
  za0 prog K.ze6 #[.slice l lL lC] w R :=
 za1 follows (f:=K.ze6) Tryz.func12 ([]) ([(3,[3],[4],[.int .i64 0])])
  (Eq.mp (by kernel_rfl) h)
def zp4.body (l:Option Addr) (changes:Option Addr) (changesL changesC:Nat) (w:World) (R:Value→World→Prop):Prop :=
 za0 prog K.zt5 #[.pointer l] w fun v1 w1=>∃ x1,v1= .int .i64 x1∧br (x1 != 0) (R (.int .i64 x1) w1) (nilC l fun q1=>∃ p1,w1.cell? q1=some (.pointer p1)∧za0 prog K.zj0 #[.pointer p1] w1 fun v2 w2=>∃ p2,v2= .pointer p2∧za0 prog K.ze2 #[.pointer p2] w2 fun v3 w3=>∃ x2 x3 x4 x5,v3= .agg #[.int .i64 x2,.int .i64 x3,.int .i64 x4,.int .i64 x5]∧za0 prog K.yl9 #[.int .i64 x4,.slice changes changesL changesC] w3 fun v4 w4=>∃ a1 l1 c1 x6,v4= .tuple #[.slice a1 l1 c1,.int .i64 x6]∧br (x6 != 0) (R (.int .i64 x6) w4) (nilC l fun q2=>∃ a2 l2 c2,w4.cell? (q2.add 2)=some (.slice a2 l2 c2)∧za0 prog K.zy8 #[.slice a2 l2 c2,.slice changes changesL changesC] w4 fun v5 w5=>∃ a3 l3 c3,v5= .slice a3 l3 c3∧za0 prog K.ya0 #[.pointer l,.int .i64 ((l3:Nat):Int)] w5 fun v6 w6=>∃ b1,v6= .bool b1∧br b1 (za0 prog K.zu4 #[.pointer l] w6 fun v7 w7=>∃ x7,v7= .int .i64 x7∧br (x7 == 10) (R (.int .i64 x7) w7) (za0 prog K.zm1 #[.pointer l,.slice a1 l1 c1] w7 fun v8 w8=>∃ x8,v8= .int .i64 x8∧br (x8 != 0) (R (.int .i64 x8) w8) (nilC l fun q3=>za5 w8 (q3.add 2) [.slice a3 l3 c3] fun w9=>R (.int .i64 0) w9))) (za0 prog K.zm1 #[.pointer l,.slice a1 l1 c1] w6 fun v9 w10=>∃ x9,v9= .int .i64 x9∧br (x9 != 0) (R (.int .i64 x9) w10) (nilC l fun q4=>za5 w10 (q4.add 2) [.slice a3 l3 c3] fun w11=>R (.int .i64 0) w11))))
theorem zp4.sh {l:Option Addr} {changes:Option Addr} {changesL changesC:Nat} {w:World} {R:Value→World→Prop} (h:zp4.body l changes changesL changesC w R) :
  za0 prog K.zp4 #[.pointer l,.slice changes changesL changesC] w R :=
 za1 follows (f:=K.zp4) Tryz.func13 ([]) ([])
  (Eq.mp (by kernel_rfl) h)
def zb9.body  (w:World) (R:Value→World→Prop):Prop :=
 za0 prog K.ze9 #[.int .u8 0] w fun v1 w1=>∃ x1 x2 x3 x4,v1= .agg #[.int .i64 x1,.int .i64 x2,.int .i64 x3,.int .i64 x4]∧za0 prog K.yn3 #[.agg #[.int .i64 x1,.int .i64 x2,.int .i64 x3,.int .i64 x4]] w1 fun v2 w2=>∃ p1 x5,v2= .tuple #[.pointer p1,.int .i64 x5]∧za0 prog K.yj9 #[.pointer p1,.int .u32 1] w2 fun v3 w3=>∃ p2 x6,v3= .tuple #[.pointer p2,.int .i64 x6]∧za0 prog K.zl6 #[] w3 fun v4 w4=>∃ a1 l1 c1,v4= .slice a1 l1 c1∧za0 prog K.zp4 #[.pointer p2,.slice a1 l1 c1] w4 fun v5 w5=>∃ x7,v5= .int .i64 x7∧za0 prog K.zi6 #[.pointer p1] w5 fun v6 w6=>∃ p3 x8,v6= .tuple #[.pointer p3,.int .i64 x8]∧za0 prog K.zz0 #[.pointer p3,.int .u32 1] w6 fun v7 w7=>∃ p4 x9,v7= .tuple #[.pointer p4,.int .i64 x9]∧za0 prog K.zz0 #[.pointer p3,.int .u32 2] w7 fun v8 w8=>∃ p5 x10,v8= .tuple #[.pointer p5,.int .i64 x10]∧za0 prog K.zl6 #[] w8 fun v9 w9=>∃ a2 l2 c2,v9= .slice a2 l2 c2∧za0 prog K.zd3 #[.slice none 0 0,.slice a2 l2 c2] w9 fun v10 w10=>∃ a3 l3 c3,v10= .slice a3 l3 c3∧br (x5 == 0) (br (x6 == 0) (br (x7 == 0) (br (x8 == 0) (br (x9 == 0) (br (x10 == 16) (br (((l3:Nat):Int) == 1) (za0 prog K.zm2 #[.pointer p2] w10 fun v11 w11=>∃ a4 l4 c4,v11= .slice a4 l4 c4∧za0 prog K.zb1 #[.slice a4 l4 c4,.slice a3 l3 c3] w11 fun v12 w12=>∃ b1,v12= .bool b1∧br b1 (za0 prog K.zm2 #[.pointer p4] w12 fun v13 w13=>∃ a5 l5 c5,v13= .slice a5 l5 c5∧za0 prog K.zb1 #[.slice a5 l5 c5,.slice a3 l3 c3] w13 fun v14 w14=>∃ b2,v14= .bool b2∧R (.bool b2) w14) (R (.bool false) w12)) (R (.bool false) w10)) (R (.bool false) w10)) (R (.bool false) w10)) (R (.bool false) w10)) (R (.bool false) w10)) (R (.bool false) w10)) (R (.bool false) w10)
theorem zb9.sh  {w:World} {R:Value→World→Prop} (h:zb9.body  w R) :
  za0 prog K.zb9 #[] w R :=
 za1 follows (f:=K.zb9) Tryz.func14 ([]) ([])
  (Eq.mp (by kernel_rfl) h)
end
section
set_option maxRecDepth 100000
open Go.Proofs
def zk2.body (c:Option Addr) (l:Option Addr) (lL lC:Nat) (w:World) (R:Value→World→Prop):Prop :=
 za0 prog K.zm0 #[.pointer c] w fun v1 w1=>∃ b1,v1= .bool b1∧br b1 (R (.int .i64 1) w1) (za0 prog K.zf4 #[.slice l lL lC,.func (.func K.zn4) #[] #[]] w1 fun v2 w2=>∃ b2,v2= .bool b2∧br b2 (R (.int .i64 2) w2) (nilC c fun q1=>za5 w2 (q1.add 6) [.slice none 0 0] fun w3=>nilC c fun q2=>za5 w3 (q2.add 7) [.int .i64 0] fun w4=>∃ (J1:Int→World→Prop) (μ1:Int→World→Nat),J1 0 w4∧∀ x1:Int,∀ w5:World,J1 x1 w5→br (decide (x1<((lL:Nat):Int))) (idxP l lL x1 3 fun q3=>∃ x2 b3 a1 l1 c1,za3 w5 q3 [.int .i64 x2,.bool b3,.slice a1 l1 c1] 0∧∀ B1 w6,New w5 (.cells #[.int .i64 0,.bool false,.slice none 0 0] T.zx6) B1 w6→za5 w6 ⟨B1,0,none⟩ [.int .i64 x2,.bool b3,.slice a1 l1 c1] fun w7=>∃ a2 l2 c2,w7.cell? (Addr.add ⟨B1,0,none⟩ 2)=some (.slice a2 l2 c2)∧za0 prog K.zf9 #[.slice a2 l2 c2] w7 fun v3 w8=>∃ a3 l3 c3,v3= .slice a3 l3 c3∧za5 w8 (Addr.add ⟨B1,0,none⟩ 2) [.slice a3 l3 c3] fun w9=>∀ w10:World,Drew w9 w10→∃ S1:World→Prop,S1 w10∧nilC c fun q4=>∃ a4 l4 c4,(∀ u1,S1 u1→u1.cell? (q4.add 6)=some (.slice a4 l4 c4))∧∃ x3 b4 a5 l5 c5,(∀ u2,S1 u2→za3 u2 ⟨B1,0,none⟩ [.int .i64 x3,.bool b4,.slice a5 l5 c5] 0)∧∀ B2 w11,New w10 (.cells #[.int .i64 x3,.bool b4,.slice a5 l5 c5] T.zx6) B2 w11→S1 w11∧zb5 T.zx6 3 40 [.int .i64 0,.bool false,.slice none 0 0] a4 l4 c4 (.slice (some ⟨B2,0,none⟩) 1 1) w11 fun a6 l6 c6 w12=>S1 w12∧nilC c fun q5=>za5 w12 (q5.add 6) [.slice a6 l6 c6] fun w13=>J1 (IntKind.i64.wrap (x1+1)) w13∧μ1 (IntKind.i64.wrap (x1+1)) w13 < μ1 x1 w5) (R (.int .i64 0) w5)))
theorem zk2.sh {c:Option Addr} {l:Option Addr} {lL lC:Nat} {w:World} {R:Value→World→Prop} (h:zk2.body c l lL lC w R) :
  za0 prog K.zk2 #[.pointer c,.slice l lL lC] w R :=
 za1 follows (f:=K.zk2) Tryz.func15 ([]) ([(7,[0,19,20],[21],[.int .i64 0])])
  (Eq.mp (by kernel_rfl) h)
def zq7.body (c:Option Addr) (kind:Int) (era:Int) (w:World) (R:Value→World→Prop):Prop :=
 za0 prog K.zm5 #[.pointer c] w fun v1 w1=>∃ a1 l1 c1,v1= .slice a1 l1 c1∧∃ (J1:Option Addr→Nat→Nat→Int→World→Prop) (μ1:Option Addr→Nat→Nat→Int→World→Nat),J1 none 0 0 0 w1∧∀ (a2:Option Addr) (l2 c2:Nat),∀ x1:Int,∀ w2:World,J1 a2 l2 c2 x1 w2→br (decide (x1<((l1:Nat):Int))) (idxP a1 l1 x1 5 fun q1=>∃ x2,w2.cell? (q1.add 1)=some (.int .u8 x2)∧br (x2 == kind) (idxP a1 l1 x1 5 fun q2=>∃ x3,w2.cell? (Addr.add (q2.add 1) 1)=some (.int .u32 x3)∧br (x3 == era) (idxP a1 l1 x1 5 fun q3=>∃ x4 x5 x6 x7 b1,za3 w2 q3 [.int .i64 x4,.int .u8 x5,.int .u32 x6,.int .u64 x7,.bool b1] 0∧∀ B1 w3,New w2 (.cells #[.int .i64 x4,.int .u8 x5,.int .u32 x6,.int .u64 x7,.bool b1] T.zc6) B1 w3→zb5 T.zc6 5 32 [.int .i64 0,.int .u8 0,.int .u32 0,.int .u64 0,.bool false] a2 l2 c2 (.slice (some ⟨B1,0,none⟩) 1 1) w3 fun a3 l3 c3 w4=>J1 a3 l3 c3 (IntKind.i64.wrap (x1+1)) w4∧μ1 a3 l3 c3 (IntKind.i64.wrap (x1+1)) w4 < μ1 a2 l2 c2 x1 w2) (J1 a2 l2 c2 (IntKind.i64.wrap (x1+1)) w2∧μ1 a2 l2 c2 (IntKind.i64.wrap (x1+1)) w2 < μ1 a2 l2 c2 x1 w2)) (J1 a2 l2 c2 (IntKind.i64.wrap (x1+1)) w2∧μ1 a2 l2 c2 (IntKind.i64.wrap (x1+1)) w2 < μ1 a2 l2 c2 x1 w2)) (R (.slice a2 l2 c2) w2)
theorem zq7.sh {c:Option Addr} {kind:Int} {era:Int} {w:World} {R:Value→World→Prop} (h:zq7.body c kind era w R) :
  za0 prog K.zq7 #[.pointer c,.int .u8 kind,.int .u32 era] w R :=
 za1 follows (f:=K.zq7) Tryz.func16 ([]) ([(4,[1,2,8],[7,9],[.slice none 0 0,.int .i64 0])])
  (Eq.mp (by kernel_rfl) h)
def zq1.body (c:Option Addr) (block:Int) (w:World) (R:Value→World→Prop):Prop :=
 za0 prog K.zt4 #[.pointer c,.int .i64 block,.int .i64 0] w fun v1 w1=>∃ x1,v1= .int .i64 x1∧br (x1 != 0) (R (.int .i64 x1) w1) (nilC c fun q1=>∃ a1 l1 c1,w1.cell? (q1.add 5)=some (.slice a1 l1 c1)∧idxP a1 l1 block 1 fun q2=>∃ b1,w1.cell? q2=some (.bool b1)∧br b1 (R (.int .i64 9) w1) (nilC c fun q3=>∃ a2 l2 c2,w1.cell? (q3.add 4)=some (.slice a2 l2 c2)∧idxP a2 l2 block 1 fun q4=>∃ a3 l3 c3,w1.cell? q4=some (.slice a3 l3 c3)∧za0 prog K.zs3 #[.pointer c,.int .i64 block,.slice a3 l3 c3,.func (.func K.zv0) #[] #[]] w1 fun v2 w2=>∃ x2,v2= .int .i64 x2∧R (.int .i64 x2) w2))
theorem zq1.sh {c:Option Addr} {block:Int} {w:World} {R:Value→World→Prop} (h:zq1.body c block w R) :
  za0 prog K.zq1 #[.pointer c,.int .i64 block] w R :=
 za1 follows (f:=K.zq1) Tryz.func17 ([]) ([])
  (Eq.mp (by kernel_rfl) h)
def zh7.body (c:Option Addr) (block:Int) (w:World) (R:Value→World→Prop):Prop :=
 za0 prog K.zm0 #[.pointer c] w fun v1 w1=>∃ b1,v1= .bool b1∧br (!b1) (br (decide (block≥0)) (nilC c fun q1=>∃ x1,w1.cell? q1=some (.int .i64 x1)∧br (decide (block<x1)) (nilC c fun q2=>∃ a1 l1 c1,w1.cell? (q2.add 5)=some (.slice a1 l1 c1)∧idxP a1 l1 block 1 fun q3=>∃ b2,w1.cell? q3=some (.bool b2)∧R (.bool b2) w1) (R (.bool false) w1)) (R (.bool false) w1)) (R (.bool false) w1)
theorem zh7.sh {c:Option Addr} {block:Int} {w:World} {R:Value→World→Prop} (h:zh7.body c block w R) :
  za0 prog K.zh7 #[.pointer c,.int .i64 block] w R :=
 za1 follows (f:=K.zh7) Tryz.func18 ([]) ([])
  (Eq.mp (by kernel_rfl) h)
def zm2.body (l:Option Addr) (w:World) (R:Value→World→Prop):Prop :=
 za0 prog K.zw5 #[.pointer l] w fun v1 w1=>∃ b1,v1= .bool b1∧br b1 (R (.slice none 0 0) w1) (nilC l fun q1=>∃ a1 l1 c1,w1.cell? (q1.add 2)=some (.slice a1 l1 c1)∧za0 prog K.zy8 #[.slice a1 l1 c1,.slice none 0 0] w1 fun v2 w2=>∃ a2 l2 c2,v2= .slice a2 l2 c2∧R (.slice a2 l2 c2) w2)
theorem zm2.sh {l:Option Addr} {w:World} {R:Value→World→Prop} (h:zm2.body l w R) :
  za0 prog K.zm2 #[.pointer l] w R :=
 za1 follows (f:=K.zm2) Tryz.func19 ([]) ([])
  (Eq.mp (by kernel_rfl) h)
def zd2.body (c:Option Addr) (era:Int) (w:World) (R:Value→World→Prop):Prop :=
 za0 prog K.zj1 #[.pointer c,.int .u32 era] w fun v1 w1=>∃ a1 l1 c1 a2 l2 c2,v1= .tuple #[.slice a1 l1 c1,.slice a2 l2 c2]∧∃ (J1:Option Addr→Nat→Nat→Int→World→Prop) (μ1:Option Addr→Nat→Nat→Int→World→Nat),J1 none 0 0 0 w1∧∀ (a3:Option Addr) (l3 c3:Nat),∀ x1:Int,∀ w2:World,J1 a3 l3 c3 x1 w2→br (decide (x1<((l1:Nat):Int))) (idxP a1 l1 x1 1 fun q1=>∃ x2,w2.cell? q1=some (.int .i64 x2)∧za0 prog K.zi7 #[.pointer c,.int .i64 x2] w2 fun v2 w3=>∃ a4 l4 c4,v2= .slice a4 l4 c4∧∃ (J2:Option Addr→Nat→Nat→Int→World→Prop) (μ2:Option Addr→Nat→Nat→Int→World→Nat),J2 a3 l3 c3 0 w3∧∀ (a5:Option Addr) (l5 c5:Nat),∀ x3:Int,∀ w4:World,J2 a5 l5 c5 x3 w4→br (decide (x3<((l4:Nat):Int))) (idxP a4 l4 x3 3 fun q2=>∃ a6 l6 c6,w4.cell? (q2.add 1)=some (.slice a6 l6 c6)∧za0 prog K.zd3 #[.slice a5 l5 c5,.slice a6 l6 c6] w4 fun v3 w5=>∃ a7 l7 c7,v3= .slice a7 l7 c7∧J2 a7 l7 c7 (IntKind.i64.wrap (x3+1)) w5∧μ2 a7 l7 c7 (IntKind.i64.wrap (x3+1)) w5 < μ2 a5 l5 c5 x3 w4) (J1 a5 l5 c5 (IntKind.i64.wrap (x1+1)) w4∧μ1 a5 l5 c5 (IntKind.i64.wrap (x1+1)) w4 < μ1 a3 l3 c3 x1 w2)) (R (.slice a3 l3 c3) w2)
theorem zd2.sh {c:Option Addr} {era:Int} {w:World} {R:Value→World→Prop} (h:zd2.body c era w R) :
  za0 prog K.zd2 #[.pointer c,.int .u32 era] w R :=
 za1 follows (f:=K.zd2) Tryz.func20 ([]) ([(4,[0,6],[5,8],[.slice none 0 0,.int .i64 0]),(8,[0,6,8,9],[5,10],[.slice none 0 0,.int .i64 0])])
  (Eq.mp (by kernel_rfl) h)
def zl6.body  (w:World) (R:Value→World→Prop):Prop :=
 ∀ B1 w1,New w (.cells #[.int .u8 5] T.zf7) B1 w1→∀ B2 w2,New w1 (.cells #[.int .i64 1,.int .u8 1,.string (⟨#[]⟩: ByteArray),.int .i64 0,.slice (some ⟨B1,0,none⟩) 1 1,.bool false] T.zc9) B2 w2→R (.slice (some ⟨B2,0,none⟩) 1 1) w2
theorem zl6.sh  {w:World} {R:Value→World→Prop} (h:zl6.body  w R) :
  za0 prog K.zl6 #[] w R :=
 za1 follows (f:=K.zl6) Tryz.func21 ([]) ([])
  (Eq.mp (by kernel_rfl) h)
def zb1.body (a:Option Addr) (aL aC:Nat) (b:Option Addr) (bL bC:Nat) (w:World) (R:Value→World→Prop):Prop :=
 br (((aL:Nat):Int) != ((bL:Nat):Int)) (R (.bool false) w) (∃ (J1:Int→World→Prop) (μ1:Int→World→Nat),J1 0 w∧∀ x1:Int,∀ w1:World,J1 x1 w1→br (decide (x1<((aL:Nat):Int))) (∀ w2:World,Drew w1 w2→∃ S1:World→Prop,S1 w2∧idxP a aL x1 5 fun q1=>∃ x2 x3 s1 x4,(∀ u1,S1 u1→za3 u1 q1 [.int .i64 x2,.int .u8 x3,.string s1,.int .i64 x4] 0)∧idxP b bL x1 5 fun q2=>∃ x5 x6 s2 x7,(∀ u2,S1 u2→za3 u2 q2 [.int .i64 x5,.int .u8 x6,.string s2,.int .i64 x7] 0)∧br (!((x2 == x5) && ((x3 == x6) && ((s1.toList == s2.toList) && ((x4 == x7) && true))))) (S1 w2∧R (.bool false) w2) (idxP a aL x1 5 fun q3=>∃ a1 l1 c1,(∀ u3,S1 u3→u3.cell? (q3.add 4)=some (.slice a1 l1 c1))∧idxP b bL x1 5 fun q4=>∃ a2 l2 c2,(∀ u4,S1 u4→u4.cell? (q4.add 4)=some (.slice a2 l2 c2))∧za0 prog K.zp0 #[.slice a1 l1 c1,.slice a2 l2 c2] w2 fun v1 w3=>∃ b1,v1= .bool b1∧S1 w3∧br (!b1) (R (.bool false) w3) (J1 (IntKind.i64.wrap (x1+1)) w3∧μ1 (IntKind.i64.wrap (x1+1)) w3 < μ1 x1 w1))) (R (.bool true) w1))
theorem zb1.sh {a:Option Addr} {aL aC:Nat} {b:Option Addr} {bL bC:Nat} {w:World} {R:Value→World→Prop} (h:zb1.body a aL aC b bL bC w R) :
  za0 prog K.zb1 #[.slice a aL aC,.slice b bL bC] w R :=
 za1 follows (f:=K.zb1) Tryz.func22 ([]) ([(4,[0,1],[5],[.int .i64 0])])
  (Eq.mp (by kernel_rfl) h)
def zd3.body (l:Option Addr) (lL lC:Nat) (changes:Option Addr) (changesL changesC:Nat) (w:World) (R:Value→World→Prop):Prop :=
 za0 prog K.zj4 #[.slice l lL lC] w fun v1 w1=>∃ b1,v1= .bool b1∧br (!b1) (R (.slice none 0 0) w1) (zb5 T.za9 5 64 [.int .i64 0,.int .u8 0,.string (⟨#[]⟩: ByteArray),.int .i64 0,.slice none 0 0] none 0 0 (.slice l lL lC) w1 fun a1 l1 c1 w2=>∃ (J1:Option Addr→Nat→Nat→Int→World→Prop) (μ1:Option Addr→Nat→Nat→Int→World→Nat),J1 a1 l1 c1 0 w2∧∀ (a2:Option Addr) (l2 c2:Nat),∀ x1:Int,∀ w3:World,J1 a2 l2 c2 x1 w3→br (decide (x1<((changesL:Nat):Int))) (idxP changes changesL x1 6 fun q1=>∃ x2 x3 s1 x4 a3 l3 c3 b2,za3 w3 q1 [.int .i64 x2,.int .u8 x3,.string s1,.int .i64 x4,.slice a3 l3 c3,.bool b2] 0∧za0 prog K.zn8 #[.slice a2 l2 c2,.agg #[.int .i64 x2,.int .u8 x3,.string s1,.int .i64 x4,.slice a3 l3 c3,.bool b2]] w3 fun v2 w4=>∃ a4 l4 c4,v2= .slice a4 l4 c4∧J1 a4 l4 c4 (IntKind.i64.wrap (x1+1)) w4∧μ1 a4 l4 c4 (IntKind.i64.wrap (x1+1)) w4 < μ1 a2 l2 c2 x1 w3) (R (.slice a2 l2 c2) w3))
theorem zd3.sh {l:Option Addr} {lL lC:Nat} {changes:Option Addr} {changesL changesC:Nat} {w:World} {R:Value→World→Prop} (h:zd3.body l lL lC changes changesL changesC w R) :
  za0 prog K.zd3 #[.slice l lL lC,.slice changes changesL changesC] w R :=
 za1 follows (f:=K.zd3) Tryz.func23 ([]) ([(6,[1],[5,6],[.slice none 0 0,.int .i64 0])])
  (Eq.mp (by kernel_rfl) h)
def zi8.body (spares:Int) (w:World) (R:Value→World→Prop):Prop :=
 za0 prog K.ze9 #[.int .u8 spares] w fun v1 w1=>∃ x1 x2 x3 x4,v1= .agg #[.int .i64 x1,.int .i64 x2,.int .i64 x3,.int .i64 x4]∧za0 prog K.yn3 #[.agg #[.int .i64 x1,.int .i64 x2,.int .i64 x3,.int .i64 x4]] w1 fun v2 w2=>∃ p1 x5,v2= .tuple #[.pointer p1,.int .i64 x5]∧za0 prog K.yj9 #[.pointer p1,.int .u32 3] w2 fun v3 w3=>∃ p2 x6,v3= .tuple #[.pointer p2,.int .i64 x6]∧∀ B1 w4,New w3 (.cells #[.pointer p1,.pointer p2,.slice none 0 0] T.yf6) B1 w4→br (x5 == 0) (br (x6 == 0) (R (.tuple #[.pointer (some ⟨B1,0,none⟩),.bool (!(Option.isNone p2))]) w4) (R (.tuple #[.pointer (some ⟨B1,0,none⟩),.bool false]) w4)) (R (.tuple #[.pointer (some ⟨B1,0,none⟩),.bool false]) w4)
theorem zi8.sh {spares:Int} {w:World} {R:Value→World→Prop} (h:zi8.body spares w R) :
  za0 prog K.zi8 #[.int .u8 spares] w R :=
 za1 follows (f:=K.zi8) Tryz.func24 ([]) ([])
  (Eq.mp (by kernel_rfl) h)
def zd9.body (y0a:Option Addr) (y1a_Do:Int) (y1a_Changes:Option Addr) (y1a_ChangesL y1a_ChangesC:Nat) (y1a_Blanks:Int) (w:World) (R:Value→World→Prop):Prop :=
 ∀ B1 w1,New w (.cells #[.int .i64 y1a_Do,.slice y1a_Changes y1a_ChangesL y1a_ChangesC,.int .u8 y1a_Blanks] T.xc6) B1 w1→∃ x1,w1.cell? ⟨B1,0,none⟩= some (.int .i64 x1)∧br (x1 == 1) (∃ a1 l1 c1,w1.cell? (Addr.add ⟨B1,0,none⟩ 1)=some (.slice a1 l1 c1)∧za0 prog K.ze6 #[.slice a1 l1 c1] w1 fun v1 w2=>∃ a2 l2 c2,v1= .slice a2 l2 c2∧za0 prog K.zk9 #[.int .i64 128,.slice a2 l2 c2] w2 fun v2 w3=>∃ a3 l3 c3 x2,v2= .tuple #[.slice a3 l3 c3,.int .i64 x2]∧nilC y0a fun q1=>∃ p1,w3.cell? (q1.add 1)=some (.pointer p1)∧za0 prog K.zp4 #[.pointer p1,.slice a2 l2 c2] w3 fun v3 w4=>∃ x3,v3= .int .i64 x3∧br (x2 != 0) (R (.bool (x3 == x2)) w4) (nilC y0a fun q2=>∃ a4 l4 c4,w4.cell? (q2.add 2)=some (.slice a4 l4 c4)∧za0 prog K.zd3 #[.slice a4 l4 c4,.slice a2 l2 c2] w4 fun v4 w5=>∃ a5 l5 c5,v4= .slice a5 l5 c5∧br (x3 == 11) (nilC y0a fun q3=>∃ p2,w5.cell? q3=some (.pointer p2)∧za0 prog K.zh2 #[.pointer p2] w5 fun v5 w6=>∃ x4,v5= .int .i64 x4∧za0 prog K.ze9 #[.int .u8 1] w6 fun v6 w7=>∃ x5 x6 x7 x8,v6= .agg #[.int .i64 x5,.int .i64 x6,.int .i64 x7,.int .i64 x8]∧br (decide (x4 > x8)) (R (.bool true) w7) (za0 prog K.ze9 #[.int .u8 1] w7 fun v7 w8=>∃ x9 x10 x11 x12,v7= .agg #[.int .i64 x9,.int .i64 x10,.int .i64 x11,.int .i64 x12]∧za0 prog K.yp4 #[.agg #[.int .i64 x9,.int .i64 x10,.int .i64 x11,.int .i64 x12]] w8 fun v8 w9=>∃ x13,v8= .int .i64 x13∧R (.bool (decide (((l5:Nat):Int) > x13))) w9)) (br (x3 != 0) (R (.bool false) w5) (nilC y0a fun q4=>za5 w5 (q4.add 2) [.slice a5 l5 c5] fun w10=>R (.bool true) w10)))) (br (x1 == 2) (∀ w11:World,Drew w1 w11→∃ S1:World→Prop,S1 w11∧nilC y0a fun q5=>∃ p3,(∀ u1,S1 u1→u1.cell? (q5.add 1)=some (.pointer p3))∧∃ x14,(∀ u2,S1 u2→u2.cell? (Addr.add ⟨B1,0,none⟩ 2)=some (.int .u8 x14))∧(8:Int)≠0∧za0 prog K.zu5 #[.pointer p3,.int .i64 (IntKind.i64.wrap (Int.tmod x14 8))] w11 fun v9 w12=>∃ x15,v9= .int .i64 x15∧S1 w12∧br (x15 == 0) (∀ w13:World,Drew w12 w13→∃ S2:World→Prop,S2 w13∧nilC y0a fun q6=>∃ p4,(∀ u3,S2 u3→u3.cell? (q6.add 1)=some (.pointer p4))∧∃ x16,(∀ u4,S2 u4→u4.cell? (Addr.add ⟨B1,0,none⟩ 2)=some (.int .u8 x16))∧(8:Int)≠0∧za0 prog K.zs7 #[.pointer p4] w13 fun v10 w14=>∃ x17,v10= .int .i64 x17∧S2 w14∧R (.bool (decide (x17≥(IntKind.i64.wrap (Int.tmod x16 8))))) w14) (∀ w15:World,Drew w12 w15→∃ S3:World→Prop,S3 w15∧br (x15 == 11) (nilC y0a fun q7=>∃ p5,(∀ u5,S3 u5→u5.cell? q7=some (.pointer p5))∧za0 prog K.zh2 #[.pointer p5] w15 fun v11 w16=>∃ x18,v11= .int .i64 x18∧S3 w16∧br (decide (x18 > 1)) (S3 w16∧S3 w16∧S3 w16∧S3 w16∧S3 w16∧R (.bool true) w16) (nilC y0a fun q8=>∃ a6 l6 c6,(∀ u6,S3 u6→u6.cell? (q8.add 2)=some (.slice a6 l6 c6))∧za0 prog K.ze9 #[.int .u8 1] w16 fun v12 w17=>∃ x19 x20 x21 x22,v12= .agg #[.int .i64 x19,.int .i64 x20,.int .i64 x21,.int .i64 x22]∧S3 w17∧za0 prog K.yp4 #[.agg #[.int .i64 x19,.int .i64 x20,.int .i64 x21,.int .i64 x22]] w17 fun v13 w18=>∃ x23,v13= .int .i64 x23∧S3 w18∧br (decide (((l6:Nat):Int) > x23)) (S3 w18∧S3 w18∧S3 w18∧R (.bool true) w18) (∃ x24,(∀ u7,S3 u7→u7.cell? (Addr.add ⟨B1,0,none⟩ 2)=some (.int .u8 x24))∧(8:Int)≠0∧nilC y0a fun q9=>∃ a7 l7 c7,(∀ u8,S3 u8→u8.cell? (q9.add 2)=some (.slice a7 l7 c7))∧nilC y0a fun q10=>∃ p6,(∀ u9,S3 u9→u9.cell? q10=some (.pointer p6))∧za0 prog K.ze9 #[.int .u8 1] w18 fun v14 w19=>∃ x25 x26 x27 x28,v14= .agg #[.int .i64 x25,.int .i64 x26,.int .i64 x27,.int .i64 x28]∧S3 w19∧za0 prog K.xv3 #[.agg #[.int .i64 x25,.int .i64 x26,.int .i64 x27,.int .i64 x28],.int .i64 ((l7:Nat):Int)] w19 fun v15 w20=>∃ x29,v15= .int .i64 x29∧S3 w20∧za0 prog K.zh2 #[.pointer p6] w20 fun v16 w21=>∃ x30,v16= .int .i64 x30∧S3 w21∧R (.bool (decide ((IntKind.i64.wrap ((IntKind.i64.wrap (Int.tmod x24 8))+x29)) > (IntKind.i64.wrap ((16:Int) - x30))))) w21))) (S3 w15∧S3 w15∧S3 w15∧S3 w15∧S3 w15∧S3 w15∧R (.bool false) w15))) (br (x1 == 3) (nilC y0a fun q11=>∃ p7,w1.cell? (q11.add 1)=some (.pointer p7)∧za0 prog K.yb5 #[.pointer p7] w1 fun v17 w22=>∃ x31,v17= .int .i64 x31∧R (.bool (x31 == 0)) w22) (br (x1 == 4) (nilC y0a fun q12=>∃ p8,w1.cell? q12=some (.pointer p8)∧za0 prog K.zi6 #[.pointer p8] w1 fun v18 w23=>∃ p9 x32,v18= .tuple #[.pointer p9,.int .i64 x32]∧za0 prog K.zz0 #[.pointer p9,.int .u32 3] w23 fun v19 w24=>∃ p10 x33,v19= .tuple #[.pointer p10,.int .i64 x33]∧∀ w25:World,Drew w24 w25→∃ S4:World→Prop,S4 w25∧br (x32 != 0) (S4 w25∧S4 w25∧R (.bool false) w25) (br (x33 != 0) (S4 w25∧S4 w25∧R (.bool false) w25) (nilC y0a fun q13=>∃ p11,(∀ u10,S4 u10→u10.cell? q13=some (.pointer p11))∧za0 prog K.zq2 #[.pointer p9] w25 fun v20 w26=>∃ a8 l8 c8,v20= .slice a8 l8 c8∧S4 w26∧za0 prog K.zq2 #[.pointer p11] w26 fun v21 w27=>∃ a9 l9 c9,v21= .slice a9 l9 c9∧za0 prog K.zp0 #[.slice a8 l8 c8,.slice a9 l9 c9] w27 fun v22 w28=>∃ b1,v22= .bool b1∧S4 w28∧br (!b1) (R (.bool false) w28) (nilC y0a fun q14=>za5 w28 q14 [.pointer p9] fun w29=>nilC y0a fun q15=>za5 w29 (q15.add 1) [.pointer p10] fun w30=>R (.bool true) w30)))) (R (.bool true) w1))))
theorem zd9.sh {y0a:Option Addr} {y1a_Do:Int} {y1a_Changes:Option Addr} {y1a_ChangesL y1a_ChangesC:Nat} {y1a_Blanks:Int} {w:World} {R:Value→World→Prop} (h:zd9.body y0a y1a_Do y1a_Changes y1a_ChangesL y1a_ChangesC y1a_Blanks w R) :
  za0 prog K.zd9 #[.pointer y0a,.agg #[.int .i64 y1a_Do,.slice y1a_Changes y1a_ChangesL y1a_ChangesC,.int .u8 y1a_Blanks]] w R :=
 za1 follows (f:=K.zd9) Tryz.func25 ([]) ([])
  (Eq.mp (by kernel_rfl) h)
def zg1.body (l:Option Addr) (lL lC:Nat) (w:World) (R:Value→World→Prop):Prop :=
 ∃ (J1:Option Addr→Nat→Nat→Int→World→Prop) (μ1:Option Addr→Nat→Nat→Int→World→Nat),J1 none 0 0 0 w∧∀ (a1:Option Addr) (l1 c1:Nat),∀ x1:Int,∀ w1:World,J1 a1 l1 c1 x1 w1→br (decide (x1<((lL:Nat):Int))) (∀ w2:World,Drew w1 w2→∃ S1:World→Prop,S1 w2∧idxP l lL x1 6 fun q1=>∃ x2 x3 s1 x4,(∀ u1,S1 u1→za3 u1 q1 [.int .i64 x2,.int .u8 x3,.string s1,.int .i64 x4] 0)∧idxP l lL x1 6 fun q2=>∃ a2 l2 c2,(∀ u2,S1 u2→u2.cell? (q2.add 4)=some (.slice a2 l2 c2))∧idxP l lL x1 6 fun q3=>∃ b1,(∀ u3,S1 u3→u3.cell? (q3.add 5)=some (.bool b1))∧za0 prog K.zp1 #[.slice a2 l2 c2] w2 fun v1 w3=>∃ a3 l3 c3,v1= .slice a3 l3 c3∧S1 w3∧∀ B1 w4,New w3 (.cells #[.int .i64 x2,.int .u8 x3,.string s1,.int .i64 x4,.slice a3 l3 c3,.bool b1] T.zc9) B1 w4→S1 w4∧zb5 T.zc9 6 72 [.int .i64 0,.int .u8 0,.string (⟨#[]⟩: ByteArray),.int .i64 0,.slice none 0 0,.bool false] a1 l1 c1 (.slice (some ⟨B1,0,none⟩) 1 1) w4 fun a4 l4 c4 w5=>S1 w5∧J1 a4 l4 c4 (IntKind.i64.wrap (x1+1)) w5∧μ1 a4 l4 c4 (IntKind.i64.wrap (x1+1)) w5 < μ1 a1 l1 c1 x1 w1) (R (.slice a1 l1 c1) w1)
theorem zg1.sh {l:Option Addr} {lL lC:Nat} {w:World} {R:Value→World→Prop} (h:zg1.body l lL lC w R) :
  za0 prog K.zg1 #[.slice l lL lC] w R :=
 za1 follows (f:=K.zg1) Tryz.func26 ([]) ([(3,[0],[3,4],[.slice none 0 0,.int .i64 0])])
  (Eq.mp (by kernel_rfl) h)
def zi6.body (c:Option Addr) (w:World) (R:Value→World→Prop):Prop :=
 za0 prog K.zm0 #[.pointer c] w fun v1 w1=>∃ b1,v1= .bool b1∧br b1 (R (.tuple #[.pointer none,.int .i64 1]) w1) (∀ w2:World,Drew w1 w2→∃ S1:World→Prop,S1 w2∧nilC c fun q1=>∃ x1 x2 x3 x4,(∀ u1,S1 u1→za3 u1 q1 [.int .i64 x1,.int .i64 x2,.int .i64 x3,.int .i64 x4] 0)∧nilC c fun q2=>∃ a1 l1 c1,(∀ u2,S1 u2→u2.cell? (q2.add 5)=some (.slice a1 l1 c1))∧za0 prog K.zo4 #[.slice a1 l1 c1] w2 fun v2 w3=>∃ a2 l2 c2,v2= .slice a2 l2 c2∧S1 w3∧∀ B1 w4,New w3 (.cells #[.int .i64 x1,.int .i64 x2,.int .i64 x3,.int .i64 x4,.slice none 0 0,.slice a2 l2 c2,.slice none 0 0,.int .i64 0,.bool false,.int .i64 0] T.zy3) B1 w4→S1 w4∧nilC c fun q3=>∃ a3 l3 c3,w4.cell? (q3.add 4)=some (.slice a3 l3 c3)∧∃ (J1:Int→World→Prop) (μ1:Int→World→Nat),J1 0 w4∧∀ x5:Int,∀ w5:World,J1 x5 w5→br (decide (x5<((l3:Nat):Int))) (idxP a3 l3 x5 1 fun q4=>∃ a4 l4 c4,w5.cell? q4=some (.slice a4 l4 c4)∧∀ w6:World,Drew w5 w6→∃ S2:World→Prop,S2 w6∧∃ a5 l5 c5,(∀ u3,S2 u3→u3.cell? (Addr.add ⟨B1,0,none⟩ 4)=some (.slice a5 l5 c5))∧za0 prog K.zf9 #[.slice a4 l4 c4] w6 fun v3 w7=>∃ a6 l6 c6,v3= .slice a6 l6 c6∧S2 w7∧∀ B2 w8,New w7 (.cells #[.slice a6 l6 c6] T.zu0) B2 w8→S2 w8∧zb5 T.zu0 1 24 [.slice none 0 0] a5 l5 c5 (.slice (some ⟨B2,0,none⟩) 1 1) w8 fun a7 l7 c7 w9=>za5 w9 (Addr.add ⟨B1,0,none⟩ 4) [.slice a7 l7 c7] fun w10=>J1 (IntKind.i64.wrap (x5+1)) w10∧μ1 (IntKind.i64.wrap (x5+1)) w10 < μ1 x5 w5) (R (.tuple #[.pointer (some ⟨B1,0,none⟩),.int .i64 0]) w5))
theorem zi6.sh {c:Option Addr} {w:World} {R:Value→World→Prop} (h:zi6.body c w R) :
  za0 prog K.zi6 #[.pointer c] w R :=
 za1 follows (f:=K.zi6) Tryz.func29 ([]) ([(5,[4,23,24],[25],[.int .i64 0])])
  (Eq.mp (by kernel_rfl) h)
def zl0.body (l:Option Addr) (lL lC:Nat) (w:World) (R:Value→World→Prop):Prop :=
 br (decide (((lL:Nat):Int)<1)) (R (.bool false) w) (br (decide (((lL:Nat):Int) > 255)) (R (.bool false) w) (∃ (J1:Int→World→Prop) (μ1:Int→World→Nat),J1 0 w∧∀ x1:Int,∀ w1:World,J1 x1 w1→br (decide (x1<((lL:Nat):Int))) (idxP l lL x1 6 fun q1=>∃ x2 x3 s1 x4 a1 l1 c1 b1,za3 w1 q1 [.int .i64 x2,.int .u8 x3,.string s1,.int .i64 x4,.slice a1 l1 c1,.bool b1] 0∧za0 prog K.zn6 #[.agg #[.int .i64 x2,.int .u8 x3,.string s1,.int .i64 x4,.slice a1 l1 c1,.bool b1]] w1 fun v1 w2=>∃ b2,v1= .bool b2∧br (!b2) (R (.bool false) w2) (J1 (IntKind.i64.wrap (x1+1)) w2∧μ1 (IntKind.i64.wrap (x1+1)) w2 < μ1 x1 w1)) (R (.bool true) w1)))
theorem zl0.sh {l:Option Addr} {lL lC:Nat} {w:World} {R:Value→World→Prop} (h:zl0.body l lL lC w R) :
  za0 prog K.zl0 #[.slice l lL lC] w R :=
 za1 follows (f:=K.zl0) Tryz.func30 ([]) ([(4,[0],[3],[.int .i64 0])])
  (Eq.mp (by kernel_rfl) h)
def zz0.body (y0a:Option Addr) (y1a:Int) (w:World) (R:Value→World→Prop):Prop :=
 za0 prog K.yh1 #[.pointer y0a,.int .u32 y1a] w fun v1 w1=>∃ p1 a1 l1 c1 x1,v1= .tuple #[.pointer p1,.slice a1 l1 c1,.int .i64 x1]∧br (x1 != 0) (R (.tuple #[.pointer none,.int .i64 x1]) w1) (br (((l1:Nat):Int) == 0) (R (.tuple #[.pointer none,.int .i64 16]) w1) (∀ B1 w2,New w1 (.cells #[.pointer p1,.int .u32 y1a,.slice none 0 0,.int .i64 (-1),.int .i64 0] T.vu6) B1 w2→za0 prog K.yd2 #[.pointer y0a,.int .u32 y1a] w2 fun v2 w3=>∃ a2 l2 c2 x2,v2= .tuple #[.slice a2 l2 c2,.int .i64 x2]∧za5 w3 (Addr.add ⟨B1,0,none⟩ 2) [.slice a2 l2 c2] fun w4=>idxP a1 l1 (IntKind.i64.wrap (((l1:Nat):Int) - 1)) 5 fun q1=>∃ x3 x4 x5 x6 b1,za3 w4 q1 [.int .i64 x3,.int .u8 x4,.int .u32 x5,.int .u64 x6,.bool b1] 0∧∀ B2 w5,New w4 (.cells #[.int .i64 0,.int .u8 0,.int .u32 0,.int .u64 0,.bool false] T.zc6) B2 w5→za5 w5 ⟨B2,0,none⟩ [.int .i64 x3,.int .u8 x4,.int .u32 x5,.int .u64 x6,.bool b1] fun w6=>∃ b2,w6.cell? (Addr.add ⟨B2,0,none⟩ 4)=some (.bool b2)∧br (!b2) (∃ x7,w6.cell? ⟨B2,0,none⟩= some (.int .i64 x7)∧za5 w6 (Addr.add ⟨B1,0,none⟩ 3) [.int .i64 x7] fun w7=>za5 w7 (Addr.add ⟨B1,0,none⟩ 4) [.int .i64 1] fun w8=>∃ (J1:Int→World→Prop) (μ1:Int→World→Nat),J1 1 w8∧∀ x8:Int,∀ w9:World,J1 x8 w9→za0 prog K.ze2 #[.pointer y0a] w9 fun v3 w10=>∃ x9 x10 x11 x12,v3= .agg #[.int .i64 x9,.int .i64 x10,.int .i64 x11,.int .i64 x12]∧br (decide (x8<x10)) (∃ x13,w10.cell? ⟨B2,0,none⟩= some (.int .i64 x13)∧za0 prog K.zf1 #[.pointer y0a,.int .i64 x13,.int .i64 x8] w10 fun v4 w11=>∃ a3 l3 c3 x14,v4= .tuple #[.slice a3 l3 c3,.int .i64 x14]∧za0 prog K.zw1 #[.slice a3 l3 c3] w11 fun v5 w12=>∃ b3,v5= .bool b3∧br (!b3) (za5 w12 (Addr.add ⟨B1,0,none⟩ 4) [.int .i64 (IntKind.i64.wrap (x8+1))] fun w13=>J1 (IntKind.i64.wrap (x8+1)) w13∧μ1 (IntKind.i64.wrap (x8+1)) w13 < μ1 x8 w9) (J1 (IntKind.i64.wrap (x8+1)) w12∧μ1 (IntKind.i64.wrap (x8+1)) w12 < μ1 x8 w9)) (R (.tuple #[.pointer (some ⟨B1,0,none⟩),.int .i64 0]) w10)) (R (.tuple #[.pointer (some ⟨B1,0,none⟩),.int .i64 0]) w6)))
theorem zz0.sh {y0a:Option Addr} {y1a:Int} {w:World} {R:Value→World→Prop} (h:zz0.body y0a y1a w R) :
  za0 prog K.zz0 #[.pointer y0a,.int .u32 y1a] w R :=
 za1 follows (f:=K.zz0) Tryz.func31 ([]) ([(12,[0,9,10],[11],[.int .i64 0])])
  (Eq.mp (by kernel_rfl) h)
def zu5.body (l:Option Addr) (blanks:Int) (w:World) (R:Value→World→Prop):Prop :=
 za0 prog K.zt5 #[.pointer l] w fun v1 w1=>∃ x1,v1= .int .i64 x1∧br (x1 != 0) (R (.int .i64 x1) w1) (nilC l fun q1=>∃ p1,w1.cell? q1=some (.pointer p1)∧za0 prog K.zi4 #[.pointer p1] w1 fun v2 w2=>∃ x2,v2= .int .i64 x2∧br (decide (x2≥blanks)) (R (.int .i64 0) w2) (za0 prog K.zu4 #[.pointer l] w2 fun v3 w3=>∃ x3,v3= .int .i64 x3∧br (x3 != 0) (R (.int .i64 x3) w3) (nilC l fun q2=>∃ p2,w3.cell? q2=some (.pointer p2)∧za0 prog K.zi4 #[.pointer p2] w3 fun v4 w4=>∃ x4,v4= .int .i64 x4∧br (decide (x4<blanks)) (R (.int .i64 11) w4) (R (.int .i64 0) w4))))
theorem zu5.sh {l:Option Addr} {blanks:Int} {w:World} {R:Value→World→Prop} (h:zu5.body l blanks w R) :
  za0 prog K.zu5 #[.pointer l,.int .i64 blanks] w R :=
 za1 follows (f:=K.zu5) Tryz.func32 ([]) ([])
  (Eq.mp (by kernel_rfl) h)
def yb5.body (l:Option Addr) (w:World) (R:Value→World→Prop):Prop :=
 za0 prog K.zt5 #[.pointer l] w fun v1 w1=>∃ x1,v1= .int .i64 x1∧R (.int .i64 x1) w1
theorem yb5.sh {l:Option Addr} {w:World} {R:Value→World→Prop} (h:yb5.body l w R) :
  za0 prog K.yb5 #[.pointer l] w R :=
 za1 follows (f:=K.yb5) Tryz.func33 ([]) ([])
  (Eq.mp (by kernel_rfl) h)
def zs7.body (l:Option Addr) (w:World) (R:Value→World→Prop):Prop :=
 za0 prog K.zw5 #[.pointer l] w fun v1 w1=>∃ b1,v1= .bool b1∧br b1 (R (.int .i64 0) w1) (nilC l fun q1=>∃ p1,w1.cell? q1=some (.pointer p1)∧za0 prog K.zi4 #[.pointer p1] w1 fun v2 w2=>∃ x1,v2= .int .i64 x1∧R (.int .i64 x1) w2)
theorem zs7.sh {l:Option Addr} {w:World} {R:Value→World→Prop} (h:zs7.body l w R) :
  za0 prog K.zs7 #[.pointer l] w R :=
 za1 follows (f:=K.zs7) Tryz.func34 ([]) ([])
  (Eq.mp (by kernel_rfl) h)
def zz1.body (l:Option Addr) (w:World) (R:Value→World→Prop):Prop :=
 za0 prog K.zw5 #[.pointer l] w fun v1 w1=>∃ b1,v1= .bool b1∧br b1 (R (.pointer none) w1) (nilC l fun q1=>∃ p1,w1.cell? q1=some (.pointer p1)∧za0 prog K.zj0 #[.pointer p1] w1 fun v2 w2=>∃ p2,v2= .pointer p2∧R (.pointer p2) w2)
theorem zz1.sh {l:Option Addr} {w:World} {R:Value→World→Prop} (h:zz1.body l w R) :
  za0 prog K.zz1 #[.pointer l] w R :=
 za1 follows (f:=K.zz1) Tryz.func35 ([]) ([])
  (Eq.mp (by kernel_rfl) h)
def zk4.body (l:Option Addr) (lL lC:Nat) (w:World) (R:Value→World→Prop):Prop :=
 ∃ (J1:Option Addr→Nat→Nat→Int→World→Prop) (μ1:Option Addr→Nat→Nat→Int→World→Nat),J1 none 0 0 0 w∧∀ (a1:Option Addr) (l1 c1:Nat),∀ x1:Int,∀ w1:World,J1 a1 l1 c1 x1 w1→br (decide (x1<((lL:Nat):Int))) (br (decide (x1<2)) (idxP l lL x1 3 fun q1=>∃ x2 b1 a2 l2 c2,za3 w1 q1 [.int .i64 x2,.bool b1,.slice a2 l2 c2] 0∧∀ B1 w2,New w1 (.cells #[.int .i64 0,.bool false,.slice none 0 0] T.zx6) B1 w2→za5 w2 ⟨B1,0,none⟩ [.int .i64 x2,.bool b1,.slice a2 l2 c2] fun w3=>za5 w3 (Addr.add ⟨B1,0,none⟩ 1) [.bool true] fun w4=>∃ x3,w4.cell? ⟨B1,0,none⟩= some (.int .i64 x3)∧br (decide (x3<0)) (za5 w4 ⟨B1,0,none⟩ [.int .i64 0] fun w5=>∃ x4 b2 a3 l3 c3,za3 w5 ⟨B1,0,none⟩ [.int .i64 x4,.bool b2,.slice a3 l3 c3] 0∧∀ B2 w6,New w5 (.cells #[.int .i64 x4,.bool b2,.slice a3 l3 c3] T.zx6) B2 w6→zb5 T.zx6 3 40 [.int .i64 0,.bool false,.slice none 0 0] a1 l1 c1 (.slice (some ⟨B2,0,none⟩) 1 1) w6 fun a4 l4 c4 w7=>J1 a4 l4 c4 (IntKind.i64.wrap (x1+1)) w7∧μ1 a4 l4 c4 (IntKind.i64.wrap (x1+1)) w7 < μ1 a1 l1 c1 x1 w1) (∃ x5 b3 a5 l5 c5,za3 w4 ⟨B1,0,none⟩ [.int .i64 x5,.bool b3,.slice a5 l5 c5] 0∧∀ B3 w8,New w4 (.cells #[.int .i64 x5,.bool b3,.slice a5 l5 c5] T.zx6) B3 w8→zb5 T.zx6 3 40 [.int .i64 0,.bool false,.slice none 0 0] a1 l1 c1 (.slice (some ⟨B3,0,none⟩) 1 1) w8 fun a6 l6 c6 w9=>J1 a6 l6 c6 (IntKind.i64.wrap (x1+1)) w9∧μ1 a6 l6 c6 (IntKind.i64.wrap (x1+1)) w9 < μ1 a1 l1 c1 x1 w1)) (R (.slice a1 l1 c1) w1)) (R (.slice a1 l1 c1) w1)
theorem zk4.sh {l:Option Addr} {lL lC:Nat} {w:World} {R:Value→World→Prop} (h:zk4.body l lL lC w R) :
  za0 prog K.zk4 #[.slice l lL lC] w R :=
 za1 follows (f:=K.zk4) Tryz.func36 ([]) ([(3,[0],[3,4],[.slice none 0 0,.int .i64 0])])
  (Eq.mp (by kernel_rfl) h)
def zh2.body (c:Option Addr) (w:World) (R:Value→World→Prop):Prop :=
 ∃ (J1:Int→Int→World→Prop) (μ1:Int→Int→World→Nat),J1 0 0 w∧∀ x1:Int,∀ x2:Int,∀ w1:World,J1 x1 x2 w1→br (decide (x2<16)) (za0 prog K.zh7 #[.pointer c,.int .i64 x2] w1 fun v1 w2=>∃ b1,v1= .bool b1∧br b1 (J1 (IntKind.i64.wrap (x1+1)) (IntKind.i64.wrap (x2+1)) w2∧μ1 (IntKind.i64.wrap (x1+1)) (IntKind.i64.wrap (x2+1)) w2 < μ1 x1 x2 w1) (J1 x1 (IntKind.i64.wrap (x2+1)) w2∧μ1 x1 (IntKind.i64.wrap (x2+1)) w2 < μ1 x1 x2 w1)) (R (.int .i64 x1) w1)
theorem zh2.sh {c:Option Addr} {w:World} {R:Value→World→Prop} (h:zh2.body c w R) :
  za0 prog K.zh2 #[.pointer c] w R :=
 za1 follows (f:=K.zh2) Tryz.func37 ([]) ([(3,[0],[3,4],[.int .i64 0,.int .i64 0])])
  (Eq.mp (by kernel_rfl) h)
def zg7.body (r:Option Addr) (w:World) (R:Value→World→Prop):Prop :=
 ∀ w1:World,Drew w w1→∃ S1:World→Prop,S1 w1∧nilC r fun q1=>∃ p1,(∀ u1,S1 u1→u1.cell? q1=some (.pointer p1))∧nilC r fun q2=>∃ a1 l1 c1,(∀ u2,S1 u2→u2.cell? (q2.add 2)=some (.slice a1 l1 c1))∧za0 prog K.zd2 #[.pointer p1,.int .u32 3] w1 fun v1 w2=>∃ a2 l2 c2,v1= .slice a2 l2 c2∧S1 w2∧za0 prog K.zb1 #[.slice a2 l2 c2,.slice a1 l1 c1] w2 fun v2 w3=>∃ b1,v2= .bool b1∧S1 w3∧br b1 (nilC r fun q3=>∃ p2,(∀ u3,S1 u3→u3.cell? (q3.add 1)=some (.pointer p2))∧nilC r fun q4=>∃ a3 l3 c3,(∀ u4,S1 u4→u4.cell? (q4.add 2)=some (.slice a3 l3 c3))∧za0 prog K.zm2 #[.pointer p2] w3 fun v3 w4=>∃ a4 l4 c4,v3= .slice a4 l4 c4∧S1 w4∧za0 prog K.zb1 #[.slice a4 l4 c4,.slice a3 l3 c3] w4 fun v4 w5=>∃ b2,v4= .bool b2∧S1 w5∧br b2 (nilC r fun q5=>∃ p3,(∀ u5,S1 u5→u5.cell? (q5.add 1)=some (.pointer p3))∧nilC r fun q6=>∃ p4,(∀ u6,S1 u6→u6.cell? q6=some (.pointer p4))∧za0 prog K.zs7 #[.pointer p3] w5 fun v5 w6=>∃ x1,v5= .int .i64 x1∧S1 w6∧za0 prog K.zn3 #[.pointer p4] w6 fun v6 w7=>∃ x2,v6= .int .i64 x2∧S1 w7∧br (x1 == x2) (nilC r fun q7=>∃ p5,(∀ u7,S1 u7→u7.cell? (q7.add 1)=some (.pointer p5))∧nilC r fun q8=>∃ p6,(∀ u8,S1 u8→u8.cell? q8=some (.pointer p6))∧za0 prog K.zz1 #[.pointer p5] w7 fun v7 w8=>∃ p7,v7= .pointer p7∧S1 w8∧ur0 p7 p6 fun b3=>R (.bool b3) w8) (S1 w7∧R (.bool false) w7)) (S1 w5∧S1 w5∧S1 w5∧R (.bool false) w5)) (S1 w3∧S1 w3∧S1 w3∧S1 w3∧S1 w3∧R (.bool false) w3)
theorem zg7.sh {r:Option Addr} {w:World} {R:Value→World→Prop} (h:zg7.body r w R) :
  za0 prog K.zg7 #[.pointer r] w R :=
 za1 follows (f:=K.zg7) Tryz.func38 ([]) ([])
  (Eq.mp (by kernel_rfl) h)
def zp5.body (x:Option Addr) (xL xC:Nat) (count:Int) (w:World) (R:Value→World→Prop):Prop :=
 br (decide (count<0)) (False) (za0 prog K.yt9 #[.int .u64 (IntKind.u64.wrap ((xL:Nat):Int)),.int .u64 (IntKind.u64.wrap count)] w fun v1 w1=>∃ x1 x2,v1= .tuple #[.int .u64 x1,.int .u64 x2]∧∃ J1:World→Prop,(br (decide (x1 > 0)) (False) (br (decide (x2 > 9223372036854775807)) (False) (J1 w1)))∧(∀ w2:World,J1 w2→ym4 T.zf7 1 1 [.int .u8 0] (IntKind.i64.wrap x2) (IntKind.i64.wrap x2) w2 fun a1 l1 c1 w3=>xg5 1 a1 l1 (.slice x xL xC) w3 fun x3 w4=>∃ (J2:Int→World→Prop) (μ1:Int→World→Nat),J2 x3 w4∧∀ x4:Int,∀ w5:World,J2 x4 w5→br (decide (x4<((l1:Nat):Int))) (∀ w6:World,Drew w5 w6→∃ S1:World→Prop,S1 w6∧zi0 1 a1 l1 c1 (some x4) none none fun a2 l2 c2=>zi0 1 a1 l1 c1 none (some x4) none fun a3 l3 c3=>xg5 1 a2 l2 (.slice a3 l3 c3) w6 fun x5 w7=>J2 (IntKind.i64.wrap (x4+x5)) w7∧μ1 (IntKind.i64.wrap (x4+x5)) w7 < μ1 x4 w5) (R (.slice a1 l1 c1) w5)))
theorem zp5.sh {x:Option Addr} {xL xC:Nat} {count:Int} {w:World} {R:Value→World→Prop} (h:zp5.body x xL xC count w R) :
  za0 prog K.zp5 #[.slice x xL xC,.int .i64 count] w R :=
 za1 follows (f:=K.zp5) Tryz.func39 ([(6,[0,6],[],[])]) ([(8,[7],[8],[.int .i64 0])])
  (Eq.mp (by kernel_rfl) h)
def yh1.body (c:Option Addr) (era:Int) (w:World) (R:Value→World→Prop):Prop :=
 za0 prog K.ye4 #[.pointer c] w fun v1 w1=>∃ p1 x1,v1= .tuple #[.pointer p1,.int .i64 x1]∧br (x1 != 0) (R (.tuple #[.pointer none,.slice none 0 0,.int .i64 x1]) w1) (br (era == 0) (R (.tuple #[.pointer none,.slice none 0 0,.int .i64 2]) w1) (za0 prog K.yu6 #[.pointer p1,.int .u32 era] w1 fun v2 w2=>∃ a1 l1 c1,v2= .slice a1 l1 c1∧R (.tuple #[.pointer p1,.slice a1 l1 c1,.int .i64 0]) w2))
theorem yh1.sh {c:Option Addr} {era:Int} {w:World} {R:Value→World→Prop} (h:yh1.body c era w R) :
  za0 prog K.yh1 #[.pointer c,.int .u32 era] w R :=
 za1 follows (f:=K.yh1) Tryz.func40 ([]) ([])
  (Eq.mp (by kernel_rfl) h)
def zd6.body (s:Option Addr) (sL sC:Nat) (f:Value) (w:World) (R:Value→World→Prop):Prop :=
 za0 prog K.zd7 #[.slice s sL sC,f] w fun v1 w1=>∃ x1,v1= .int .i64 x1∧R (.bool (decide (x1≥0))) w1
theorem zd6.sh {s:Option Addr} {sL sC:Nat} {f:Value} {w:World} {R:Value→World→Prop} (h:zd6.body s sL sC f w R) :
  za0 prog K.zd6 #[.slice s sL sC,f] w R :=
 za1 follows (f:=K.zd6) Tryz.func41 ([]) ([])
  (Eq.mp (by kernel_rfl) h)
def yi7.body (t_Block:Int) (t_Head_Kind:Int) (t_Head_Era:Int) (t_Head_Seq:Int) (t_Bad:Bool) (w:World) (R:Value→World→Prop):Prop :=
 ∀ B1 w1,New w (.cells #[.int .i64 t_Block,.int .u8 t_Head_Kind,.int .u32 t_Head_Era,.int .u64 t_Head_Seq,.bool t_Bad] T.zc6) B1 w1→∃ b1,w1.cell? (Addr.add ⟨B1,0,none⟩ 4)=some (.bool b1)∧R (.bool (!b1)) w1
theorem yi7.sh {t_Block:Int} {t_Head_Kind:Int} {t_Head_Era:Int} {t_Head_Seq:Int} {t_Bad:Bool} {w:World} {R:Value→World→Prop} (h:yi7.body t_Block t_Head_Kind t_Head_Era t_Head_Seq t_Bad w R) :
  za0 prog K.yi7 #[.agg #[.int .i64 t_Block,.int .u8 t_Head_Kind,.int .u32 t_Head_Era,.int .u64 t_Head_Seq,.bool t_Bad]] w R :=
 za1 follows (f:=K.yi7) Tryz.func42 ([]) ([])
  (Eq.mp (by kernel_rfl) h)
end
end Go.Den
