/- PRINTED by den.py: what the bodies of the Go functions come to. (Merged and shortened by program: Den DenOps DenQuiet DenQuiet2 DenEff DenCode DenSound DenDefer Num Sh0 Sh1.) -/
import Derived.OrdersHeld
import Derived.Laws.Cells
import Derived.Laws.StructEq
import Derived.KernelRfl
import Derived.MapKept
import Derived.RangeFuncSeq
import Derived.Laws.Slices
import Derived.RangeFuncCalls
import Derived.OwnWalkIn
import Derived.Laws.IdiomStrings
import Derived.Laws.Append
import Derived.OrdersIn
import Derived.ControlIn
import Derived.RangeFuncLeaves
import Derived.RangeFuncRecord
import Derived.DefersIn
import Derived.Test.YtmjlhddkhkgpfaaGreatDoorProg
set_option linter.unusedVariables false
set_option linter.unusedSimpArgs false
set_option maxRecDepth 20000
open Go.IntKind (i64 u64 u32 u8)
namespace Go.Den
def exLeaf:Value->(Value->Prop)->Prop
 | .bool _,f=>∃ b:Bool,f (.bool b)
 | .int k _,f=>∃ n:Int,f (.int k n)
 | .string _,f=>∃ s:ByteArray,f (.string s)
 | .pointer none,f=>∃ p:Option Addr,f (.pointer p)
 | .pointer (some _),f=>∃ p:Addr,f (.pointer (some p))
 | .slice _ _ _,f=>∃ (a:Option Addr) (l c:Nat),f (.slice a l c)
 | .map _,f=>∃ m:Option Nat,f (.map m)
 | _,f=>∃ v:Value,f v
def exLeaves:List Value->(List Value->Prop)->Prop
 | [],f=>f []
 | z :: zs,f=>exLeaf z fun v=>exLeaves zs fun vs=>f (v :: vs)
def exCp:Value->(Value->Prop)->Prop
 | .agg cs,f=>exLeaves cs.toList fun vs=>f (.agg vs.toArray)
 | z,f=>exLeaf z f
def exCps:List Value->(List Value->Prop)->Prop
 | [],f=>f []
 | z :: zs,f=>exCp z fun v=>exCps zs fun vs=>f (v :: vs)
def exSh:Value->(Value->Prop)->Prop
 | .tuple cs,f=>exCps cs.toList fun vs=>f (.tuple vs.toArray)
 | z,f=>exCp z f
theorem exLeaf_some {z:Value} {f:Value->Prop} (h:exLeaf z f):∃ v,f v:=by
 cases z with
 | pointer p=>cases p<;>(simp only [exLeaf] at h;obtain ⟨x,h⟩:=h;exact ⟨_,h⟩)
 | _=>simp only [exLeaf] at h;first | exact h | (obtain ⟨x,h⟩:=h;exact ⟨_,h⟩) | (obtain ⟨x,y,c,h⟩:=h;exact ⟨_,h⟩)
theorem exLeaves_some {zs:List Value}:∀ {f:List Value->Prop},exLeaves zs f->∃ vs,vs.length=zs.length/\f vs:=by
 induction zs with
 | nil=>intro f h;exact ⟨[],rfl,h⟩
 | cons z zs ih =>
  intro f h
  obtain ⟨v,h⟩:=exLeaf_some h
  obtain ⟨vs,hl,h⟩:=ih h
  exact ⟨v :: vs,by simp [hl],h⟩
theorem exCp_some {z:Value} {f:Value->Prop} (h:exCp z f):∃ v,f v:=by
 cases z<;>simp only [exCp] at h<;>first | (obtain ⟨v,_,h⟩:=exLeaves_some h;exact ⟨_,h⟩) | exact exLeaf_some h
theorem exCps_some {zs:List Value}:∀ {f:List Value->Prop},exCps zs f->∃ vs,f vs:=by
 induction zs with
 | nil=>intro f h;exact ⟨[],h⟩
 | cons z zs ih =>
  intro f h
  obtain ⟨v,h⟩:=exCp_some h
  obtain ⟨vs,h⟩:=ih h
  exact ⟨v :: vs,h⟩
theorem exSh_some {z:Value} {f:Value->Prop} (h:exSh z f):∃ v,f v:=by
 cases z<;>simp only [exSh] at h<;>first | (obtain ⟨v,h⟩:=exCps_some h;exact ⟨_,h⟩) | exact exCp_some h
def allLeaf:Value->(Value->Prop)->Prop
 | .bool _,f=>∀ b:Bool,f (.bool b)
 | .int k _,f=>∀ n:Int,f (.int k n)
 | .string _,f=>∀ s:ByteArray,f (.string s)
 | .pointer none,f=>∀ p:Option Addr,f (.pointer p)
 | .pointer (some _),f=>∀ p:Addr,f (.pointer (some p))
 | .slice _ _ _,f=>∀ (a:Option Addr) (l c:Nat),f (.slice a l c)
 | .map _,f=>∀ m:Option Nat,f (.map m)
 | _,f=>∀ v:Value,f v
def allLeaves:List Value->(List Value->Prop)->Prop
 | [],f=>f []
 | z :: zs,f=>allLeaf z fun v=>allLeaves zs fun vs=>f (v :: vs)
def allCp:Value->(Value->Prop)->Prop
 | .agg cs,f=>allLeaves cs.toList fun vs=>f (.agg vs.toArray)
 | z,f=>allLeaf z f
def allCps:List Value->(List Value->Prop)->Prop
 | [],f=>f []
 | z :: zs,f=>allCp z fun v=>allCps zs fun vs=>f (v :: vs)
def tyLeaf (R:Type):Value->Type
 | .bool _=>Bool->R
 | .int _ _=>Int->R
 | .string _=>ByteArray->R
 | .pointer none=>Option Addr->R
 | .pointer (some _)=>Addr->R
 | .slice _ _ _=>Option Addr->Nat->Nat->R
 | .map _=>Option Nat->R
 | _=>Value->R
def tyLeaves (R:Type):List Value->Type
 | []=>R
 | z :: zs=>tyLeaf (tyLeaves R zs) z
def tyCp (R:Type):Value->Type
 | .agg cs=>tyLeaves R cs.toList
 | z=>tyLeaf R z
def tyCps (R:Type):List Value->Type
 | []=>R
 | z :: zs=>tyCp (tyCps R zs) z
def appLeaf {R:Type}:(z:Value)->tyLeaf R z->Value->Option R
 | .bool _,f,v=>match v with | .bool b=>some (f b) | _=>none
 | .int k _,f,v=>match v with | .int k' n=>if k'=k then some (f n) else none | _=>none
 | .string _,f,v=>match v with | .string b=>some (f b) | _=>none
 | .pointer none,f,v=>match v with | .pointer b=>some (f b) | _=>none
 | .pointer (some _),f,v=>match v with | .pointer (some b)=>some (f b) | _=>none
 | .slice _ _ _,f,v=>match v with | .slice a l c=>some (f a l c) | _=>none
 | .map _,f,v=>match v with | .map b=>some (f b) | _=>none
 | .float _ _,f,v=>some (f v)
 | .complex _ _ _,f,v=>some (f v)
 | .chan _,f,v=>some (f v)
 | .func _ _ _,f,v=>some (f v)
 | .nilFunc,f,v=>some (f v)
 | .iface _ _,f,v=>some (f v)
 | .nilIface,f,v=>some (f v)
 | .agg _,f,v=>some (f v)
 | .tuple _,f,v=>some (f v)
def appLeaves {R:Type}:(zs:List Value)->tyLeaves R zs->List Value->Option R
 | [],f,vs=>match vs with | []=>some f | _=>none
 | z :: zs,f,vs=>match vs with
  | []=>none
  | v :: vs=>match appLeaf z f v with
   | some g=>appLeaves zs g vs
   | none=>none
def appCp {R:Type}:(z:Value)->tyCp R z->Value->Option R
 | .agg cs,f,v=>match v with | .agg vs=>appLeaves cs.toList f vs.toList | _=>none
 | .bool x,f,v=>appLeaf (.bool x) f v
 | .int k x,f,v=>appLeaf (.int k x) f v
 | .string x,f,v=>appLeaf (.string x) f v
 | .pointer x,f,v=>appLeaf (.pointer x) f v
 | .slice a l c,f,v=>appLeaf (.slice a l c) f v
 | .map x,f,v=>appLeaf (.map x) f v
 | .float k b,f,v=>appLeaf (.float k b) f v
 | .complex a b c,f,v=>appLeaf (.complex a b c) f v
 | .chan c,f,v=>appLeaf (.chan c) f v
 | .func a b c,f,v=>appLeaf (.func a b c) f v
 | .nilFunc,f,v=>appLeaf .nilFunc f v
 | .iface a b,f,v=>appLeaf (.iface a b) f v
 | .nilIface,f,v=>appLeaf .nilIface f v
 | .tuple a,f,v=>appLeaf (.tuple a) f v
def appCps {R:Type}:(zs:List Value)->tyCps R zs->List Value->Option R
 | [],f,vs=>match vs with | []=>some f | _=>none
 | z :: zs,f,vs=>match vs with
  | []=>none
  | v :: vs=>match appCp z f v with
   | some g=>appCps zs g vs
   | none=>none
def holdsAt:Option (World->Prop)->World->Prop
 | some p,w=>p w
 | none,_=>False
def natAt:Option (World->Nat)->World->Nat
 | some p,w=>p w
 | none,_=>0
theorem allLeaf_app {R:Type} {z:Value} {F:Value->Prop} (h:allLeaf z F) {f:tyLeaf R z} {v:Value} {g:R} (ha:appLeaf z f v=some g):F v:=by
 cases z with
 | pointer p =>
  cases p with
  | none =>
   simp only [appLeaf] at ha;simp only [allLeaf] at h
   cases v<;>first | exact h _ | cases ha
  | some p =>
   simp only [appLeaf] at ha;simp only [allLeaf] at h
   cases v with
   | pointer q=>cases q with
    | none=>cases ha
    | some q=>exact h q
   | _=>cases ha
 | _ =>
  simp only [appLeaf] at ha;simp only [allLeaf] at h
  first
  | exact h v
  |(cases v<;>first | exact h _ | exact h _ _ _ | (simp only [] at ha;split at ha<;>first | (rename_i e;subst e;exact h _) | cases ha) | cases ha)
theorem allLeaves_app {R:Type}:∀ {zs:List Value} {F:List Value->Prop} (_:allLeaves zs F) {f:tyLeaves R zs} {vs:List Value} {g:R} (_:appLeaves zs f vs=some g),F vs
 | [],F,h,f,vs,g,ha=>by
  cases vs with
  | nil=>exact h
  | cons v vs=>simp only [appLeaves] at ha;cases ha
 | z :: zs,F,h,f,vs,g,ha=>by
  cases vs with
  | nil=>simp only [appLeaves] at ha;cases ha
  | cons v vs =>
   simp only [appLeaves] at ha
   cases hv:appLeaf z f v with
   | none=>simp only [hv] at ha;cases ha
   | some r=>simp only [hv] at ha;exact allLeaves_app (allLeaf_app (F:=fun v=>allLeaves zs fun vs=>F (v :: vs)) h hv) ha
theorem allCp_app {R:Type} {z:Value} {F:Value->Prop} (h:allCp z F) {f:tyCp R z} {v:Value} {g:R} (ha:appCp z f v=some g):F v:=by
 cases z with
 | agg cs =>
  simp only [appCp] at ha
  cases v<;>first | cases ha | (rename_i vs;have:=allLeaves_app (R:=R) (F:=fun vs=>F (.agg vs.toArray)) h ha;simpa using this)
 | _=>simp only [appCp] at ha;simp only [allCp] at h;exact allLeaf_app h ha
theorem allCps_app {R:Type}:∀ {zs:List Value} {F:List Value->Prop} (_:allCps zs F) {f:tyCps R zs} {vs:List Value} {g:R} (_:appCps zs f vs=some g),F vs
 | [],F,h,f,vs,g,ha=>by
  cases vs with
  | nil=>exact h
  | cons v vs=>simp only [appCps] at ha;cases ha
 | z :: zs,F,h,f,vs,g,ha=>by
  cases vs with
  | nil=>simp only [appCps] at ha;cases ha
  | cons v vs =>
   simp only [appCps] at ha
   cases hv:appCp z f v with
   | none=>simp only [hv] at ha;cases ha
   | some r=>simp only [hv] at ha;exact allCps_app (allCp_app (F:=fun v=>allCps zs fun vs=>F (v :: vs)) h hv) ha
abbrev Env:=List (Nat×Value)
def Env.get:Env->Nat->Option Value
 | [],_=>none
 |(d,v) :: r,t=>if d=t then some v else Env.get r t
def EnvD (ds:List Deferred) (ε:Env) (a:Act):Prop:=a.defers=ds/\∀ t v,ε.get t=some v->a.tmps[t]?=some v
def ev (ε:Env):Operand->Option Value
 | .tmp t=>ε.get t
 | .const v=>some v
 | .global g=>some (.pointer (some ⟨g,0,none⟩))
 | .func f=>some (.func (.func f) #[] #[])
theorem EnvD.eval {ds:List Deferred} {ε:Env} {a:Act} (h:EnvD ds ε a) {x:Operand} {v:Value} (hx:ev ε x=some v):a.eval x=v:=by
 cases x<;>simp only [ev] at hx
 case tmp t=>have:=h.2 t v hx;simp [Act.eval,this]
 all_goals (cases hx;rfl)
theorem EnvD.put {ds:List Deferred} {ε:Env} {a:Act} (h:EnvD ds ε a) {d:Nat} (hd:d<a.tmps.size) (v:Value):EnvD ds ((d,v) :: ε) (a.put (some d) v):=by
 refine ⟨h.1,fun t u hu=>?_⟩
 simp only [Env.get] at hu
 simp only [Act.put,Array.getElem?_setIfInBounds]
 split at hu
 .rename_i e;subst e;cases hu;simp [hd]
 .rename_i e;rw [if_neg e];exact h.2 t u hu
def getL (ε:Env):List Nat->Option (List Value)
 | []=>some []
 | t :: ts=>match ε.get t with
  | some v=>match getL ε ts with
   | some vs=>some (v :: vs)
   | none=>none
  | none=>none
def Env.keep (ε:Env):List Nat->Env
 | []=>[]
 | t :: ts=>match ε.get t with
  | some v=>(t,v) :: Env.keep ε ts
  | none=>Env.keep ε ts
def Env.laid:List Nat->List Value->Env->Env
 | t :: ts,v :: vs,ε=>(t,v) :: Env.laid ts vs ε
 | _,_,ε=>ε
def cellsAt (w:World) (a:Addr):List Value->Nat->Prop
 | [],_=>True
 | v :: vs,i=>w.cell? (a.add i)=some v/\cellsAt w a vs (i+1)
def splice (cur:Array Value) (off:Nat) (vs:List Value):Array Value:=(cur.toList.take off ++ vs ++ cur.toList.drop (off+vs.length)).toArray
def putBlk (w:World) (b:Nat) (o:Obj):World:={ w with heap:=w.heap.setIfInBounds b o }
structure New (w:World) (o:Obj) (b:Nat) (w':World):Prop where
 num:b=w.heap.size
 eq:w'=w.alloc o
structure Put (w:World) (b:Nat) (o:Obj) (w':World):Prop where
 lt:b<w.heap.size
 eq:w'=putBlk w b o
 was:∃ cs T fr,w.heap[b]?=some (.cells cs T fr)
structure Drew (w w':World):Prop where
 eq:w'=w.drew
def storeP (w:World) (a:Addr) (vs:List Value) (K:World->Prop):Prop :=
 a.spot=none/\∃ cur T fr,w.heap[a.block]?=some (.cells cur T fr)/\a.off+vs.length<=cur.size/\(fr.2<=a.off\/a.off+vs.length<=fr.1)/\
  ∀ w',Put w a.block (.cells (splice cur a.off vs) T fr) w'->K w'
def zeroOf (P:Program) (t:TypeId):Option Value :=
 match P.info? t with
 | some i=>match i.zero with
  | some z=>if z.cells.size=i.size then some z else none
  | none=>none
 | none=>none
def isAggT (P:Program) (t:TypeId):Option Bool :=
 match P.underlying t with
 | some (.struct _)=>some true
 | some (.array _ _)=>some true
 | some _=>some false
 | none=>none
def sizeT (P:Program) (t:TypeId):Option Nat :=
 match P.info? t with
 | some i=>some i.size
 | none=>none
def bytesT (P:Program) (t:TypeId):Option Nat :=
 match P.info? t with
 | some i=>some i.bytes
 | none=>none
def loadP (P:Program) (t:TypeId) (a:Addr) (C:(World->Prop)->Prop) (K:Value->Prop):Prop :=
 match zeroOf P t,isAggT P t with
 | some (.agg cs),some true=>exLeaves cs.toList fun vs=>C (fun w=>cellsAt w a vs 0)/\K (.agg vs.toArray)
 | some z,some false=>exLeaf z fun v=>C (fun w=>w.cell? a=some v)/\K v
 | _,_=>False
def nilC (p:Option Addr) (K:Addr->Prop):Prop :=
 match p with
 | some a=>K a
 | none=>False
def idxP (base:Option Addr) (len:Nat) (i:Int) (size:Nat) (K:Addr->Prop):Prop :=
 0<=i/\i<len/\nilC base fun a=>K (a.add (i.toNat * size))
def partL (P:Program) (t:TypeId) (cs:List Value) (off:Nat):Option Value :=
 match isAggT P t,sizeT P t with
 | some true,some n=>if off+n<=cs.length then some (.agg ((cs.drop off).take n).toArray) else none
 | some false,_=>cs[off]?
 | _,_=>none
def fieldOf (P:Program) (t:TypeId) (f:Nat):Option Field :=
 match P.underlying t with
 | some (.struct fs)=>fs.toList[f]?
 | _=>none
def eqB:Value->Value->Option Bool
 | .bool a,.bool b=>some (a == b)
 | _,_=>none
def eqI:Value->Value->Option Bool
 | .int k a,.int k' b=>if k=k' then some (a == b) else none
 | _,_=>none
def eqS:Value->Value->Option Bool
 | .string a,.string b=>some (a.toList == b.toList)
 | _,_=>none
def aggOf:Value->Option (Array Value)
 | .agg cs=>some cs
 | _=>none
def eqGo (P:Program) (rec:TypeId->Value->Value->Option Bool) (xs ys:List Value):List Field->Option Bool
 | []=>some true
 | f :: fs=>if f.name= "_" then none else
  match partL P f.type xs f.offset,partL P f.type ys f.offset with
  | some a,some b=>match rec f.type a b,eqGo P rec xs ys fs with
   | some r,some q=>some (r && q)
   | _,_=>none
  | _,_=>none
def eqV (P:Program):Nat->TypeId->Value->Value->Option Bool
 | 0,_,_,_=>none
 | d+1,t,x,y=>match P.underlying t with
  | some .bool=>eqB x y
  | some (.int _)=>eqI x y
  | some .string=>eqS x y
  | some (.struct fs)=>match aggOf x,aggOf y with
   | some xs,some ys=>if P.stoodInHeld t then none else eqGo P (eqV P d) xs.toList ys.toList fs.toList
   | _,_=>none
  | _=>none
def intOp (op:BinOp) (k:IntKind) (a b:Int) (K:Value->Prop):Prop :=
 match op with
 | .add=>K (.int k (k.wrap (a+b)))
 | .sub=>K (.int k (k.wrap (a - b)))
 | .mul=>K (.int k (k.wrap (a * b)))
 | .quo=>b≠0/\K (.int k (k.wrap (a.tdiv b)))
 | .rem=>b≠0/\K (.int k (a.tmod b))
 | .and=>K (.int k (k.wrap ((BitVec.ofInt k.bits a &&& BitVec.ofInt k.bits b).toNat)))
 | .or=>K (.int k (k.wrap ((BitVec.ofInt k.bits a ||| BitVec.ofInt k.bits b).toNat)))
 | .xor=>K (.int k (k.wrap ((BitVec.ofInt k.bits a ^^^ BitVec.ofInt k.bits b).toNat)))
 | .andNot=>K (.int k (k.wrap ((BitVec.ofInt k.bits a &&& ~~~ BitVec.ofInt k.bits b).toNat)))
 | .eql=>K (.bool (a == b))
 | .neq=>K (.bool (a != b))
 | .lss=>K (.bool (decide (a<b)))
 | .leq=>K (.bool (decide (a<=b)))
 | .gtr=>K (.bool (decide (a > b)))
 | .geq=>K (.bool (decide (a≥b)))
 | .shl=>False
 | .shr=>False
def shlV (k:IntKind) (a b:Int):Value:=.int k (k.wrap (a * 2 ^ (min b.toNat k.bits)))
def shrV (k:IntKind) (a b:Int):Value:=.int k (a.fdiv (2 ^ (min b.toNat k.bits)))
def strOp (op:BinOp) (a b:ByteArray) (K:Value->Prop):Prop :=
 match op with
 | .add=>a.size+b.size<=9223372036854775807/\K (.string (a ++ b))
 | .eql=>K (.bool (a.toList == b.toList))
 | .neq=>K (.bool (!(a.toList == b.toList)))
 | .lss=>K (.bool (Op.bytesLess a.toList b.toList))
 | .leq=>K (.bool (Op.bytesLess a.toList b.toList || a.toList == b.toList))
 | .gtr=>K (.bool (!(Op.bytesLess a.toList b.toList || a.toList == b.toList)))
 | .geq=>K (.bool (!(Op.bytesLess a.toList b.toList)))
 | _=>False
def ptrEq (p q:Option Addr) (K:Bool->Prop):Prop :=
 match q with
 | none=>K p.isNone
 | some b=>match p with
  | none=>K false
  | some a=>a.block=b.block/\K (a == b)
def binP (P:Program) (op:BinOp) (t:TypeId) (x y:Value) (K:Value->Prop):Prop :=
 match op with
 | .shl=>match x,y with | .int k a,.int _ b=>0<=b/\K (shlV k a b) | _,_=>False
 | .shr=>match x,y with | .int k a,.int _ b=>0<=b/\K (shrV k a b) | _,_=>False
 | op=>match x,y with
  | .int k a,.int k' b=>if k=k' then intOp op k a b K else False
  | .string a,.string b=>strOp op a b K
  | .bool a,.bool b=>match P.underlying t with
   | some .bool=>match op with | .eql=>K (.bool (a == b)) | .neq=>K (.bool (!(a == b))) | _=>False
   | _=>False
  | .pointer p,.pointer q=>match P.underlying t with
   | some (.pointer e)=>match sizeT P e with
    | some (_+1)=>match op with | .eql=>ptrEq p q fun b=>K (.bool b) | .neq=>ptrEq p q fun b=>K (.bool (!b)) | _=>False
    | _=>False
   | _=>False
  | .slice a _ _,.slice none _ _=>match P.underlying t with
   | some (.slice _)=>match op with | .eql=>K (.bool a.isNone) | .neq=>K (.bool (!a.isNone)) | _=>False
   | _=>False
  | .agg xs,.agg ys=>if P.eqGuardType P.depth t then False else match eqV P 9 t (.agg xs) (.agg ys) with
   | some b=>match op with | .eql=>K (.bool b) | .neq=>K (.bool (!b)) | _=>False
   | none=>False
  | _,_=>False
def sliceP (size:Nat) (base:Option Addr) (len cap:Nat) (lo hi mx:Option Int) (K:Option Addr->Nat->Nat->Prop):Prop :=
 0<=mx.getD cap/\mx.getD cap<=cap/\0<=hi.getD len/\hi.getD len<=mx.getD cap/\0<=lo.getD 0/\lo.getD 0<=hi.getD len/\(mx.isSome=true->hi.isSome=true)/\
  K (if (mx.getD cap).toNat=(lo.getD 0).toNat then base else base.map (·.add ((lo.getD 0).toNat * size)))
   ((hi.getD len).toNat - (lo.getD 0).toNat) ((mx.getD cap).toNat - (lo.getD 0).toNat)
def intsOf (ε:Env):Option Operand->Option (Option Int)
 | none=>some none
 | some x=>match ev ε x with
  | some (.int _ n)=>some (some n)
  | _=>none
def fillL (place:Nat->Option (Nat×Nat)) (cells:List Value):List (Nat×Value)->Option (List Value)
 | []=>some cells
 |(i,v) :: rest=>match place i with
  | none=>none
  | some (off,size)=>if v.cells.toList.length=size/\off+size<=cells.length then
    fillL place (cells.take off ++ v.cells.toList ++ cells.drop (off+size)) rest else none
def evParts (ε:Env):List (Nat×Operand)->Option (List (Nat×Value))
 | []=>some []
 |(i,x) :: r=>match ev ε x with
  | some v=>match evParts ε r with
   | some vs=>some ((i,v) :: vs)
   | none=>none
  | none=>none
def evs (ε:Env):List Operand->Option (List Value)
 | []=>some []
 | x :: r=>match ev ε x with
  | some v=>match evs ε r with
   | some vs=>some (v :: vs)
   | none=>none
  | none=>none
def structPlaces (P:Program) (fs:List Field):Option (List (Nat×Nat)) :=
 match fs with
 | []=>some []
 | f :: r=>match sizeT P f.type,structPlaces P r with
  | some n,some l=>some ((f.offset,n) :: l)
  | _,_=>none
def buildV (P:Program) (t:TypeId) (parts:List (Nat×Value)):Option Value :=
 match zeroOf P t,P.underlying t with
 | some z,some (.struct fs)=>match structPlaces P fs.toList with
  | some ps=>match fillL (fun i=>ps[i]?) z.cells.toList parts with
   | some cs=>some (.agg cs.toArray)
   | none=>none
  | none=>none
 | some z,some (.array _ e)=>match sizeT P e with
  | some n=>match fillL (fun i=>some (i * n,n)) z.cells.toList parts with
   | some cs=>some (.agg cs.toArray)
   | none=>none
  | none=>none
 | _,_=>none
def partAll (P:Program) (e:TypeId) (cs:List Value) (size:Nat) (n:Int) (K:Value->Prop):Nat->Prop
 | 0=>True
 | j+1=>partAll P e cs size n K j/\(n=(j:Nat)->match partL P e cs (j * size) with
  | some v=>K v
  | none=>False)
def isQuiet (P:Program):Op->Bool
 | .move _ | .assign _ | .pick .. | .nilCheck _ | .binOp .. | .unOp .. | .makeFunc .. | .extract .. | .makeInterface .. | .fieldAddr .. | .field ..
 | .indexAddr .. | .index .. | .slice .. | .build .. | .load ..=>true
 | .convert src dst _=>match P.underlying src,P.underlying dst with
  | some (.int _),some (.int _)=>true
  | some .string,some .string=>true
  | _,_=>false
 | .call c=>match c.callee with
  | .builtin .len | .builtin .cap | .builtin .max | .builtin .min=>true
  | _=>false
 | _=>false
def quietP (P:Program) (C:(World->Prop)->Prop) (o:Op) (ε:Env) (K:Value->Prop):Prop :=
 match o with
 | .move x=>match ev ε x with | some v=>K v | none=>False
 | .assign x=>match ev ε x with | some v=>K v | none=>False
 | .pick c x y=>match ev ε c,ev ε x,ev ε y with
  | some (.bool t),some (.bool a),some (.bool b)=>K (.bool (cond t a b))
  | some (.bool t),some a,some b=>match t with | true=>K a | false=>K b
  | _,_,_=>False
 | .nilCheck x=>match ev ε x with
  | some (.pointer p)=>nilC p fun a=>K (.pointer (some a))
  | some (.func (.func f) b c)=>K (.func (.func f) b c)
  | _=>False
 | .binOp op t x y _=>match ev ε x,ev ε y with
  | some a,some b=>binP P op t a b K
  | _,_=>False
 | .unOp op _ x=>match op,ev ε x with
  | .not,some (.bool b)=>K (.bool (!b))
  | .neg,some (.int k n)=>K (.int k (k.wrap (0 - n)))
  | .xor,some (.int k n)=>K (.int k (k.wrap ((BitVec.ofInt k.bits (if k.signed then -1 else k.max) ^^^ BitVec.ofInt k.bits n).toNat)))
  | _,_=>False
 | .makeFunc fn first captured=>match evs ε first.toList,evs ε captured.toList with
  | some a,some b=>K (.func fn a.toArray b.toArray)
  | _,_=>False
 | .extract x i=>match ev ε x with
  | some (.tuple vs)=>match vs.toList[i]? with | some v=>K v | none=>False
  | _=>False
 | .makeInterface t x=>match P.underlying t,ev ε x with
  | some (.interface _),_=>False
  | some _,some v=>K (.iface t v)
  | _,_=>False
 | .fieldAddr t x f=>match ev ε x,fieldOf P t f with
  | some (.pointer (some a)),some fld=>match sizeT P fld.type with
   | some (_+1)=>K (.pointer (some (a.add fld.offset)))
   | _=>False
  | _,_=>False
 | .field t x f=>match ev ε x,fieldOf P t f with
  | some (.agg cs),some fld=>match partL P fld.type cs.toList fld.offset with
   | some v=>K v
   | none=>False
  | _,_=>False
 | .indexAddr t x i=>match ev ε x,ev ε i,P.underlying t with
  | some (.slice base len _),some (.int _ n),some (.slice e)=>match sizeT P e with
   | some size=>idxP base len n size fun a=>K (.pointer (some a))
   | none=>False
  | some (.pointer (some a)),some (.int _ n),some (.array len e)=>match sizeT P e with
   | some size=>0<=n/\n<len/\K (.pointer (some (a.add (n.toNat * size))))
   | none=>False
  | _,_,_=>False
 | .index t x i=>match ev ε x,ev ε i,P.underlying t with
  | some (.agg cs),some (.int _ n),some (.array len e)=>match sizeT P e with
   | some size=>0<=n/\n<len/\match i with
    | .const _=>(match partL P e cs.toList (n.toNat * size) with
     | some v=>K v
     | none=>False)
    | _=>partAll P e cs.toList size n K len
   | none=>False
  | some (.string s),some (.int _ n),some .string=>0<=n/\∃ b:UInt8,s.data.toList[n.toNat]?=some b/\K (.int .u8 b.toNat)
  | _,_,_=>False
 | .slice t x lo hi mx=>match ev ε x,P.underlying t,intsOf ε lo,intsOf ε hi,intsOf ε mx with
  | some (.slice base len cap),some (.slice e),some l,some h,some m=>match sizeT P e with
   | some size=>sliceP size base len cap l h m fun a l c=>K (.slice a l c)
   | none=>False
  | some (.pointer (some a)),some (.array n e),some l,some h,some m=>match sizeT P e with
   | some size=>sliceP size (some a) n n l h m fun a l c=>K (.slice a l c)
   | none=>False
  | some (.string s),some .string,some l,some h,some none =>
   0<=h.getD s.size/\h.getD s.size<=s.size/\0<=l.getD 0/\l.getD 0<=h.getD s.size/\K (.string (s.extract (l.getD 0).toNat (h.getD s.size).toNat))
  | _,_,_,_,_=>False
 | .build t parts=>match evParts ε parts.toList with
  | some ps=>match buildV P t ps with
   | some v=>K v
   | none=>False
  | none=>False
 | .load t x=>match ev ε x with
  | some (.pointer (some a))=>loadP P t a C K
  | _=>False
 | .convert src dst x=>match P.underlying src,P.underlying dst,ev ε x with
  | some (.int _),some (.int k),some (.int _ n)=>K (.int k (k.wrap n))
  | some .string,some .string,some (.string s)=>K (.string s)
  | _,_,_=>False
 | .call c=>match c.callee,evs ε c.args.toList,c.argTypes.toList with
  | .builtin .len,some [v],[t]=>match P.underlying t,v with
   | some .string,.string s=>K (.int .i64 s.size)
   | some (.slice _),.slice _ n _=>K (.int .i64 n)
   | some (.array n _),_=>K (.int .i64 n)
   | _,_=>False
  | .builtin .cap,some [v],[t]=>match P.underlying t,v with
   | some (.slice _),.slice _ _ n=>K (.int .i64 n)
   | _,_=>False
  | .builtin .max,some [.int k a,.int _ b],_=>K (.int k (if b > a then b else a))
  | .builtin .min,some [.int k a,.int _ b],_=>K (.int k (if b<a then b else a))
  | _,_,_=>False
 | _=>False
abbrev RT:=Value->World->Prop
abbrev EB:ByteArray:=⟨#[]⟩
def CallsR (P:Program) (f:FuncId) (args:Array Value) (w:World) (R:Value->World->Prop):Prop :=
 Calls P f args w fun e w'=>∃ v,e= .returned v/\R v w'
def hasBody (P:Program) (f:FuncId):Bool :=
 match P.funcs[f]? with
 | some fn=>fn.body.isSome && !(fn.name == "runtime.NumGoroutine")
 | none=>false
def callP (P:Program) (f:FuncId) (args:List Value) (z:Option Value) (w:World) (K:Value->World->Prop):Prop :=
 match z with
 | some z=>CallsR P f args.toArray w fun v w'=>exSh z fun u=>v=u/\K u w'
 | none=>CallsR P f args.toArray w K
def extV (P:Program) (f:FuncId) (args:List Value) (w:World) (v:Value):Prop:=(callFunc f args.toArray).run P w= .ok (.value v) w
def Free (F:Fence):Prop:=F=Fence.wide\/∃ l,F=Fence.wide.inRound l
def yieldP (P:Program) (l:Nat) (args:List Value) (w:World) (R:Value->World->Prop):Prop :=
 ∀ (F:Fence) (n:Nat),Free F->YieldAt F n P l args.toArray w fun e w'=>∃ v,e= .returned v/\R v w'
def callV (P:Program) (v:Value) (args:List Value) (z:Option Value) (w:World) (K:Value->World->Prop):Prop :=
 match v with
 | .func (.func f) first captured=>hasBody P f=true/\callP P f (first.toList ++ args ++ captured.toList) z w K
 | .func (.yield l) first captured=>first.toList=[]/\captured.toList=[]/\yieldP P l args w fun v w'=>match z with
  | some z=>exSh z fun u=>v=u/\K u w'
  | none=>K v w'
 | _=>False
def readP (w:World) (size:Nat) (x:Value) (n:Nat) (vs:List Value):Prop :=
 match x with
 | .slice (some a) _ _=>vs.length=n * size/\cellsAt w a vs 0
 | .slice none _ _=>vs=[]
 | .string s=>vs=((s.extract 0 n).data.toList.map fun b=>Value.int .u8 b.toNat)
 | _=>False
def lenV:Value->Option Nat
 | .slice _ n _=>some n
 | .string s=>some s.size
 | _=>none
def zerosL (z:List Value):Nat->List Value
 | 0=>[]
 | n+1=>z ++ zerosL z n
def appendP (e:TypeId) (size bytes:Nat) (z:List Value) (base:Option Addr) (sLen sCap:Nat) (x:Value) (w:World) (K:Option Addr->Nat->Nat->World->Prop):Prop :=
 ∃ n,lenV x=some n/\∃ new,readP w size x n new/\(∀ v∈new,v.oneCell'=true)/\
  (sLen+n<=sCap->(match base with
   | some a=>storeP w (a.add (sLen * size)) new fun w'=>K (some a) (sLen+n) sCap w'
   | none=>K none (sLen+n) sCap w))/\
  (sCap<sLen+n->sLen+n<9223372036854775808/\Builtin.nextslicecap (sLen+n) sCap * bytes<=2 ^ 48/\∃ old,readP w size (.slice base sLen sCap) sLen old/\
   ∀ cap b w',sLen+n<=cap->cap<9223372036854775808->New w.drew (.cells (old ++ new ++ zerosL z (cap - (sLen+n))).toArray e) b w'->K (some ⟨b,0,none⟩) (sLen+n) cap w')
def appendZ (e:TypeId) (size bytes:Nat) (z:List Value) (base:Option Addr) (sLen sCap:Nat) (m:Int) (w:World) (K:Option Addr->Nat->Nat->World->Prop):Prop :=
 0<=m/\m<9223372036854775808/\m * bytes<=2 ^ 48/\(∀ v∈z,v.oneCell'=true)/\z.length=size/\
  (sLen+m.toNat<=sCap->(match base with
   | some a=>storeP w (a.add (sLen * size)) (zerosL z m.toNat) fun w'=>K (some a) (sLen+m.toNat) sCap w'
   | none=>K none (sLen+m.toNat) sCap w))/\
  (sCap<sLen+m.toNat->sLen+m.toNat<9223372036854775808/\Builtin.nextslicecap (sLen+m.toNat) sCap * bytes<=2 ^ 48/\∃ old,readP w size (.slice base sLen sCap) sLen old/\
   ∀ cap b w',sLen+m.toNat<=cap->New w.drew (.cells (old ++ zerosL z m.toNat ++ zerosL z (cap - (sLen+m.toNat))).toArray e) b w'->K (some ⟨b,0,none⟩) (sLen+m.toNat) cap w')
def copyP (size:Nat) (base:Option Addr) (dLen:Nat) (x:Value) (w:World) (K:Int->World->Prop):Prop :=
 ∃ n,lenV x=some n/\∃ new,readP w size x (min n dLen) new/\(∀ v∈new,v.oneCell'=true)/\
  match base with
  | some a=>storeP w a new fun w'=>K (min n dLen:Nat) w'
  | none=>K (min n dLen:Nat) w
def makeSliceP (e:TypeId) (size bytes:Nat) (z:List Value) (len cap:Int) (w:World) (K:Option Addr->Nat->Nat->World->Prop):Prop :=
 0<=len/\len<=cap/\cap<9223372036854775808/\bytes * cap<=2 ^ 48/\z.length=size/\
  ∀ b w',New w (.cells (zerosL z cap.toNat).toArray e) b w'->K (some ⟨b,0,none⟩) len.toNat cap.toNat w'
def clearP (z:List Value) (base:Option Addr) (len:Nat) (w:World) (K:World->Prop):Prop :=
 match base,len with
 | none,_=>K w
 | some _,0=>K w
 | some a,n+1=>(∀ v∈zerosL z (n+1),v.oneCell'=true)/\storeP w a (zerosL z (n+1)) K
def bytesOfP (e:TypeId) (s:ByteArray) (w:World) (K:Option Addr->Nat->Nat->World->Prop):Prop :=
 ∀ (cap b:Nat) (w':World),s.size<=cap->New w.drew (.cells (s.data.toList.map (fun x:UInt8=>Value.int .u8 (x.toNat:Int)) ++ List.replicate (cap - s.size) (Value.int .u8 0)).toArray e (cap,cap+1)) b w'->K (some ⟨b,0,none⟩) s.size cap w'
def strOfP (w:World) (base:Option Addr) (len:Nat) (K:ByteArray->Prop):Prop :=
 match base with
 | none=>K ByteArray.empty
 | some a=>∃ l:List UInt8,l.length=len/\cellsAt w a (l.map fun x=>Value.int .u8 (x.toNat:Int)) 0/\K ⟨l.toArray⟩
def foundP (P:Program) (kt:TypeId) (emp:Bool) (k:Value) (es:Array MapEntry) (r:Option (Nat×Value)):Prop :=
 ∀ w,(Instr.checkKey emp 10000 kt k).run P w= .ok () w/\(Instr.findKey kt k es.toList).run P w= .ok r w
def gotP (P:Program) (kt:TypeId) (m:Option Nat) (k z:Value) (w:World) (u:Value) (ok:Bool):Prop :=
 match m with
 | none=>u=z/\ok=false/\foundP P kt true k #[] none
 | some r=>∃ es clock res,w.heap[r]?=some (.map es clock)/\foundP P kt es.isEmpty k es res/\match res with
  | some (_,v)=>u=v/\ok=true
  | none=>u=z/\ok=false
def setP (P:Program) (kt:TypeId) (m:Option Nat) (k v:Value) (w:World) (K:World->Prop):Prop :=
 match m with
 | none=>False
 | some r=>∃ es clock res,w.heap[r]?=some (.map es clock)/\foundP P kt false k es res/\match res with
  | some (i,_)=>(∀ w,(Instr.keyThatStays (((es[i]?).map (·.key)).getD k) k).run P w= .ok k w)/\K (putBlk w r (.map (es.modify i fun e=>{ e with key:=k,val:=v }) clock))
  | none=>K (putBlk w r (.map (es.push { key:=k,val:=v,born:=clock }) (clock+1)))
def effP (P:Program) (o:Oper) (ε:Env) (w:World) (K:Value->World->Prop):Prop :=
 match o.op with
 | .alloc e=>match zeroOf P e with
  | some z=>∀ b w',New w (.cells z.cells.toList.toArray e) b w'->K (.pointer (some ⟨b,0,none⟩)) w'
  | none=>False
 | .makeMap _ none=>∀ b w',New w (.map #[] 0) b w'->K (.map (some b)) w'
 | .lookup t x k c=>match P.underlying t,ev ε x,ev ε k with
  | some (.map kt e),some (.map m),some kv=>match zeroOf P e with
   | some z=>exCp z fun u=>∃ ok:Bool,gotP P kt m kv z w u ok/\match c with
    | true=>K (.tuple #[u,.bool ok]) w
    | false=>K u w
   | none=>False
  | _,_,_=>False
 | .mapUpdate t x k v=>match P.underlying t,ev ε x,ev ε k,ev ε v with
  | some (.map kt _),some (.map m),some kv,some vv=>setP P kt m kv vv w fun w'=>K undef w'
  | _,_,_,_=>False
 | .box e x=>match ev ε x with
  | some v=>∀ b w',New w (.cells v.cells.toList.toArray e) b w'->K (.pointer (some ⟨b,0,none⟩)) w'
  | none=>False
 | .buildSlice t len parts=>match P.underlying t,evParts ε parts.toList with
  | some (.slice e),some ps=>match zeroOf P e,sizeT P e with
   | some z,some size=>if len * size > 2 ^ 24 then False else match fillL (fun i=>some (i * size,size)) (zerosL z.cells.toList len) ps with
    | some cs=>∀ b w',New w (.cells cs.toArray e) b w'->K (.slice (some ⟨b,0,none⟩) len len) w'
    | none=>False
   | _,_=>False
  | _,_=>False
 | .store t a x=>match ev ε a,ev ε x,sizeT P t with
  | some (.pointer (some a)),some v,some n=>if v.cells.toList.length=n/\v.cells.toList.all (·.oneCell')=true then storeP w a v.cells.toList (K undef) else False
  | _,_,_=>False
 | .convert src dst x=>match P.underlying src,P.underlying dst,ev ε x with
  | some (.slice e),some .string,some (.slice base len _)=>match P.underlying e with
   | some (.int .u8)=>strOfP w base len fun s=>K (.string s) w
   | _=>False
  | some .string,some (.slice e),some (.string s)=>match P.underlying e with
   | some (.int .u8)=>bytesOfP e s w fun a l c w'=>K (.slice a l c) w'
   | _=>False
  | _,_,_=>False
 | .makeSlice t l c=>match P.underlying t,ev ε l,ev ε c with
  | some (.slice e),some (.int _ len),some (.int _ cap)=>match zeroOf P e,sizeT P e,bytesT P e with
   | some z,some size,some bytes=>makeSliceP e size bytes z.cells.toList len cap w fun a l c=>K (.slice a l c)
   | _,_,_=>False
  | _,_,_=>False
 | .call c=>match c.callee,evs ε c.args.toList with
  | .value (.func f),some args=>if hasBody P f then callP P f args (zeroOf P o.type) w K else match zeroOf P o.type with
   | some z=>exSh z fun v=>extV P f args w v/\K v w
   | none=>False
  | .value x,some args=>match ev ε x with
   | some v=>callV P v args (zeroOf P o.type) w K
   | none=>False
  | .builtin .append,some [.slice base l cp,x]=>match c.argTypes.toList with
   | [t,u]=>match P.underlying t,P.underlying u with
    | some (.slice e),some d=>match zeroOf P e,sizeT P e,bytesT P e,d with
     | some z,some size,some bytes,.slice _=>appendP e size bytes z.cells.toList base l cp x w fun a l c=>K (.slice a l c)
     | some z,some size,some bytes,.string=>appendP e size bytes z.cells.toList base l cp x w fun a l c=>K (.slice a l c)
     | some z,some size,some bytes,.int _=>match x with
      | .int _ m=>appendZ e size bytes z.cells.toList base l cp m w fun a l c=>K (.slice a l c)
      | _=>False
     | _,_,_,_=>False
    | _,_=>False
   | _=>False
  | .builtin .copy,some [.slice base l _,x]=>match c.argTypes.toList with
   | t :: _=>match P.underlying t with
    | some (.slice e)=>match sizeT P e with
     | some size=>copyP size base l x w fun n=>K (.int .i64 n)
     | none=>False
    | _=>False
   | _=>False
  | .builtin .clear,some [.slice base l _]=>match c.argTypes.toList with
   | t :: _=>match P.underlying t with
    | some (.slice e)=>match zeroOf P e with
     | some z=>clearP z.cells.toList base l w fun w'=>K (.tuple #[]) w'
     | none=>False
    | _=>False
   | _=>False
  | _,_=>False
 | _=>False
def CallsE (P:Program) (f:FuncId) (args:Array Value) (w:World) (R X:Value->World->Prop):Prop :=
 Calls P f args w fun e w'=>(∃ v,e= .returned v/\R v w')\/∃ pv,e= .panicked [{ v:=pv,recovered:=false }]/\X pv w'
def callPE (P:Program) (f:FuncId) (args:List Value) (z:Option Value) (w:World) (K X:Value->World->Prop):Prop :=
 match z with
 | some z=>CallsE P f args.toArray w (fun v w'=>exSh z fun u=>v=u/\K u w') X
 | none=>CallsE P f args.toArray w K X
def callVE (P:Program) (v:Value) (args:List Value) (z:Option Value) (w:World) (K X:Value->World->Prop):Prop :=
 match v with
 | .func (.func f) first captured=>hasBody P f=true/\callPE P f (first.toList ++ args ++ captured.toList) z w K X
 | _=>False
def effE (P:Program) (o:Oper) (ε:Env) (w:World) (X K:Value->World->Prop):Prop :=
 match o.op with
 | .panic x=>match ev ε x with
  | some (.iface t v)=>X (.iface t v) w
  | _=>False
 | .call c=>match c.callee,evs ε c.args.toList with
  | .value (.func f),some args=>if hasBody P f then callPE P f args (zeroOf P o.type) w K X else effP P o ε w K
  | .value x,some args=>match ev ε x with
   | some v=>callVE P v args (zeroOf P o.type) w K X
   | none=>False
  | _,_=>effP P o ε w K
 | _=>effP P o ε w K
abbrev PanicK:=Option (Value->World->Prop)
def effX (P:Program) (X:PanicK) (o:Oper) (ε:Env) (w:World) (K:Value->World->Prop):Prop :=
 match X with
 | none=>effP P o ε w K
 | some X=>effE P o ε w X K
section
variable {P:Program} {ds:List Deferred}
theorem run_underlying' {t:TypeId} {d:TypeDesc} (h:P.underlying t=some d) (w:World):(underlying t).run P w= .ok d w:=by
 simp [underlying,h]
theorem run_sizeOf' {t:TypeId} {n:Nat} (h:sizeT P t=some n) (w:World):(sizeOf t).run P w= .ok n w:=by
 unfold sizeT at h
 cases hi:P.info? t with
 | none=>simp [hi] at h
 | some i=>simp [hi] at h;simp [sizeOf,typeInfo,hi,h]
theorem run_zeroValue' {t:TypeId} {z:Value} (h:zeroOf P t=some z) (w:World):(zeroValue t).run P w= .ok z w:=by
 unfold zeroOf at h
 cases hi:P.info? t with
 | none=>simp [hi] at h
 | some i =>
  simp [hi] at h
  cases hz:i.zero with
  | none=>simp [hz] at h
  | some z'=>simp [hz] at h;simp [zeroValue,typeInfo,hi,hz,h]
theorem zeroOf_size {t:TypeId} {z:Value} (h:zeroOf P t=some z):sizeT P t=some z.cells.size:=by
 unfold zeroOf at h;unfold sizeT
 cases hi:P.info? t with
 | none=>simp [hi] at h
 | some i =>
  simp [hi] at h
  cases hz:i.zero with
  | none=>simp [hz] at h
  | some z'=>simp [hz] at h;obtain ⟨h,rfl⟩:=h;simp [h]
theorem run_isAgg' {t:TypeId} {b:Bool} (h:isAggT P t=some b) (w:World):(isAgg t).run P w= .ok b w:=by
 unfold isAggT at h
 cases hd:P.underlying t with
 | none=>simp [hd] at h
 | some d=>cases d<;>simp [hd] at h<;>subst h<;>simp [isAgg,run_underlying' hd]
theorem cellsAt_get {w:World} {a:Addr}:∀ {vs:List Value} {i:Nat},cellsAt w a vs i->∀ j v,vs[j]?=some v->w.cell? (a.add (i+j))=some v
 | [],_,_,j,v,h=>by simp at h
 | u :: vs,i,h,j,v,hj=>by
  cases j with
  | zero=>simp at hj;subst hj;exact h.1
  | succ j=>simp at hj;have:=cellsAt_get h.2 j v hj;rwa [show i+(j+1)=i+1+j by omega]
theorem run_loadVar_leaf {t:TypeId} (h:isAggT P t=some false) {a:Addr} {v:Value} {w:World} (hc:w.cell? a=some v):(loadVar t a).run P w= .ok v w:=by
 simp [loadVar,run_isAgg' h,hc]
theorem run_loadVar_agg {t:TypeId} (h:isAggT P t=some true) {a:Addr} {vs:List Value} (hn:sizeT P t=some vs.length) {w:World} (hc:cellsAt w a vs 0) :
  (loadVar t a).run P w= .ok (.agg vs.toArray) w:=by
 simp [loadVar,run_isAgg' h,run_sizeOf' hn,run_loadCells_list w a vs (fun j v hj=>by simpa using cellsAt_get hc j v hj)]
theorem load_sound {C:(World->Prop)->Prop} (hC:∀ φ ψ:World->Prop,(∀ w,φ w->ψ w)->C φ->C ψ) {t:TypeId} {a:Addr} {K:Value->Prop} (h:loadP P t a C K) :
  ∃ v,K v/\C fun w=>(loadVar t a).run P w= .ok v w:=by
 unfold loadP at h
 split at h
 .rename_i cs hz ha
  obtain ⟨vs,hl,hc,hk⟩:=exLeaves_some h
  have hs:=zeroOf_size hz
  simp only [Value.cells] at hs
  exact ⟨_,hk,hC _ _ (fun w hw=>run_loadVar_agg ha (by rw [hs,hl];simp) hw) hc⟩
 .rename_i ha
  obtain ⟨v,hc,hk⟩:=exLeaf_some h
  exact ⟨v,hk,hC _ _ (fun w hw=>run_loadVar_leaf ha hw) hc⟩
 .exact h.elim
theorem run_part {t:TypeId} {cs:Array Value} {off:Nat} {v:Value} (h:partL P t cs.toList off=some v) (w:World):(part t cs off).run P w= .ok v w:=by
 unfold partL at h
 split at h
 .rename_i n ha hn
  split at h
  .cases h
   simp only [part,Sem.run_bind,run_isAgg' ha,Result.andThen_ok,if_true,run_sizeOf' hn]
   simp only [Sem.run_pure]
   congr 2
   apply Array.ext'
   simp [Array.toList_extract,List.take_drop,Nat.add_comm]
  .cases h
 .rename_i ha
  rw [Array.getElem?_toList] at h
  simp [part,run_isAgg' ha,h]
 .cases h
theorem evs_sound {ε:Env} {a:Act} (hε:EnvD ds ε a):∀ {xs:List Operand} {vs:List Value},evs ε xs=some vs->xs.map a.eval=vs
 | [],vs,h=>by simp [evs] at h;simp [h]
 | x :: xs,vs,h=>by
  simp only [evs] at h
  cases hx:ev ε x with
  | none=>simp [hx] at h
  | some v =>
   simp only [hx] at h
   cases hr:evs ε xs with
   | none=>simp [hr] at h
   | some us=>simp only [hr] at h;cases h;simp [hε.eval hx,evs_sound hε hr]
theorem evs_array {ε:Env} {a:Act} (hε:EnvD ds ε a) {xs:Array Operand} {vs:List Value} (h:evs ε xs.toList=some vs):xs.map a.eval=vs.toArray:=by
 apply Array.ext'
 simp [evs_sound hε h]
theorem evParts_sound {ε:Env} {a:Act} (hε:EnvD ds ε a):∀ {xs:List (Nat×Operand)} {vs:List (Nat×Value)},evParts ε xs=some vs->xs.map (fun x=>(x.1,a.eval x.2))=vs
 | [],vs,h=>by simp [evParts] at h;simp [h]
 |(i,x) :: xs,vs,h=>by
  simp only [evParts] at h
  cases hx:ev ε x with
  | none=>simp [hx] at h
  | some v =>
   simp only [hx] at h
   cases hr:evParts ε xs with
   | none=>simp [hr] at h
   | some us=>simp only [hr] at h;cases h;simp [hε.eval hx,evParts_sound hε hr]
theorem intsOf_sound {ε:Env} {a:Act} (hε:EnvD ds ε a) {x:Option Operand} {n:Option Int} (h:intsOf ε x=some n) :
  (n=none/\x=none)\/∃ k m y,n=some m/\x=some y/\a.eval y= .int k m:=by
 cases x with
 | none=>simp [intsOf] at h;exact .inl ⟨h.symm,rfl⟩
 | some x =>
  simp only [intsOf] at h
  split at h
  .rename_i k m hx;cases h;exact .inr ⟨k,m,x,rfl,rfl,hε.eval hx⟩
  .cases h
theorem intOp_sound {op:BinOp} {k:IntKind} {a b:Int} {K:Value->Prop} (h:intOp op k a b K) (t:TypeId) :
  ∃ v,K v/\∀ w,(binOp op t (.int k a) (.int k b)).run P w= .ok v w:=by
 cases op<;>simp only [intOp] at h
 case add=>exact ⟨_,h,fun w=>by simp [binOp,Op.intArith]⟩
 case sub=>exact ⟨_,h,fun w=>by simp [binOp,Op.intArith]⟩
 case mul=>exact ⟨_,h,fun w=>by simp [binOp,Op.intArith]⟩
 case quo=>exact ⟨_,h.2,fun w=>by simp [binOp,Op.intDiv,h.1]⟩
 case rem=>exact ⟨_,h.2,fun w=>by simp [binOp,Op.intDiv,h.1]⟩
 case and=>exact ⟨_,h,fun w=>by simp [binOp,Op.intBits]⟩
 case or=>exact ⟨_,h,fun w=>by simp [binOp,Op.intBits]⟩
 case xor=>exact ⟨_,h,fun w=>by simp [binOp,Op.intBits]⟩
 case andNot=>exact ⟨_,h,fun w=>by simp [binOp,Op.intBits]⟩
 all_goals exact ⟨_,h,fun w=>by simp [binOp,Op.intCmp]⟩
theorem strOp_sound {op:BinOp} {a b:ByteArray} {K:Value->Prop} (h:strOp op a b K) (t:TypeId) :
  ∃ v,K v/\∀ w,(binOp op t (.string a) (.string b)).run P w= .ok v w:=by
 cases op<;>simp only [strOp] at h
 case add =>
  refine ⟨_,h.2,fun w=>?_⟩
  have h1:¬ ((a.size+b.size:Nat):Int) > i64.max:=by have:=h.1;show ¬ ((a.size+b.size:Nat):Int) > 9223372036854775807;omega
  simp only [binOp,Op.stringOp]
  rw [Sem.run_ite,if_neg h1];rfl
 case eql=>exact ⟨_,h,fun w=>by simp [binOp,Op.stringOp]⟩
 case neq=>exact ⟨_,h,fun w=>by simp [binOp,Op.stringOp]⟩
 case lss=>exact ⟨_,h,fun w=>by simp [binOp,Op.stringOp]⟩
 case leq=>exact ⟨_,h,fun w=>by simp [binOp,Op.stringOp]⟩
 case gtr=>exact ⟨_,h,fun w=>by simp [binOp,Op.stringOp]⟩
 case geq=>exact ⟨_,h,fun w=>by simp [binOp,Op.stringOp]⟩
 all_goals exact h.elim
theorem equalIn_ptr {t e:TypeId} {n:Nat} (ht:P.underlying t=some (.pointer e)) (hs:sizeT P e=some (n+1)) {p q:Option Addr} {K:Bool->Prop} (h:ptrEq p q K) :
  ∃ b,K b/\∀ (d:Nat) (w:World),(Op.equalIn (d+1) t (.pointer p) (.pointer q)).run P w= .ok b w:=by
 unfold ptrEq at h
 cases q with
 | none=>exact ⟨_,h,fun d w=>by cases p<;>simp [Op.equalIn,run_underlying' ht]⟩
 | some b =>
  cases p with
  | none=>exact ⟨_,h,fun d w=>by simp [Op.equalIn,run_underlying' ht]⟩
  | some a =>
   refine ⟨_,h.2,fun d w=>?_⟩
   have hb:(a.block == b.block)=true:=by simp [h.1]
   simp only [Op.equalIn,Sem.run_bind,run_underlying' ht,Result.andThen_ok,run_sizeOf' hs]
   simp [sameAddr,hb]
theorem equal_ptr {t e:TypeId} {n:Nat} (ht:P.underlying t=some (.pointer e)) (hs:sizeT P e=some (n+1)) {p q:Option Addr} {K:Bool->Prop} (h:ptrEq p q K) :
  ∃ b,K b/\∀ w,(Op.equal t (.pointer p) (.pointer q)).run P w= .ok b w:=by
 obtain ⟨b,hb,hw⟩:=equalIn_ptr ht hs h
 exact ⟨b,hb,fun w=>hw 9999 w⟩
theorem equal_bool {t:TypeId} (ht:P.underlying t=some .bool) (a b:Bool) (w:World):(Op.equal t (.bool a) (.bool b)).run P w= .ok (a == b) w :=
 run_equalIn_bool' w 9999 t a b ht
theorem equal_slice_nil {t e:TypeId} (ht:P.underlying t=some (.slice e)) (a:Option Addr) (l c l' c':Nat) (w:World):(Op.equal t (.slice a l c) (.slice none l' c')).run P w= .ok a.isNone w:=by
 have key:∀ d,(Op.equalIn (d+1) t (.slice a l c) (.slice none l' c')).run P w= .ok a.isNone w:=fun d=>by cases a<;>simp [Op.equalIn,run_underlying' ht]
 exact key 9999
theorem eqGo_sound {d k:Nat} {w:World} (ih:∀ (t:TypeId) (x y:Value) (r:Bool),eqV P d t x y=some r->(Op.equalIn (d+k) t x y).run P w= .ok r w) (xs ys:Array Value) :
  ∀ (fs:List Field) (r:Bool),eqGo P (eqV P d) xs.toList ys.toList fs=some r->(Op.eqFields (d+k) xs ys fs).run P w= .ok r w
 | [],r,h=>by simp [eqGo] at h;subst h;simp [Op.eqFields]
 | f :: fs,r,h=>by
  simp only [eqGo] at h
  split at h
  .cases h
  .rename_i hn
   split at h
   .rename_i a b ha hb
    split at h
    .rename_i p q hp hq
     cases h
     have h1:=ih _ _ _ _ hp
     have h2:=eqGo_sound ih xs ys fs q hq
     simp only [Op.eqFields]
     rw [if_pos hn]
     simp only [Sem.run_bind,run_part ha,run_part hb,Result.andThen_ok,h1]
     cases p<;>simp [h2]
    .cases h
   .cases h
theorem eqV_sound (w:World) (k:Nat):∀ (d:Nat) (t:TypeId) (x y:Value) (r:Bool),eqV P d t x y=some r->(Op.equalIn (d+k) t x y).run P w= .ok r w
 | 0,_,_,_,_,h=>by simp [eqV] at h
 | d+1,t,x,y,r,h=>by
  rw [show d+1+k=(d+k)+1 by omega]
  simp only [eqV] at h
  split at h
  .rename_i ht
   unfold eqB at h
   split at h
   .cases h;exact run_equalIn_bool' w (d+k) t _ _ ht
   .cases h
  .rename_i ht
   unfold eqI at h
   split at h
   .split at h
    .rename_i e;subst e;cases h;exact run_equalIn_int w (d+k) t _ _ _ _ ht
    .cases h
   .cases h
  .rename_i ht
   unfold eqS at h
   split at h
   .cases h;exact run_equalIn_string w (d+k) t _ _ ht
   .cases h
  .rename_i fs ht
   split at h
   .rename_i xs ys hx hy
    unfold aggOf at hx hy
    split at hx<;>cases hx
    split at hy<;>cases hy
    split at h
    .cases h
    .rename_i hp
     have hf:P.fieldsOf t=fs:=by simp [Program.fieldsOf,ht]
     rw [run_equalIn_struct w (d+k) t xs ys (by rw [hf];exact ht) (by simpa using hp),hf]
     exact eqGo_sound (fun t x y r h=>eqV_sound w k d t x y r h) xs ys _ r h
   .cases h
  .cases h
theorem binP_sound {op:BinOp} {t:TypeId} {x y:Value} {K:Value->Prop} (h:binP P op t x y K) (ox oy:Operand) :
  ∃ v,K v/\∀ w,(do eqGuard op t ox oy x y;binOp op t x y:Sem Value).run P w= .ok v w:=by
 unfold binP at h
 split at h
 .split at h
  .rename_i k a k' b
   refine ⟨_,h.2,fun w=>?_⟩
   have h0:=h.1
   have h1:¬ b<0:=by omega
   simp [eqGuard,binOp,Op.shift,shlV,h1]
  .exact h.elim
 .split at h
  .rename_i k a k' b
   refine ⟨_,h.2,fun w=>?_⟩
   have h0:=h.1
   have h1:¬ b<0:=by omega
   simp [eqGuard,binOp,Op.shift,shrV,h1]
  .exact h.elim
 .rename_i hl hr
  split at h
  .rename_i k a k' b
   split at h
   .rename_i e;subst e
    obtain ⟨v,hv,hw⟩:=intOp_sound (P:=P) h t
    refine ⟨v,hv,fun w=>?_⟩
    have:(eqGuard op t ox oy (.int k a) (.int k b)).run P w= .ok () w:=by cases op<;>simp [eqGuard]
    simp [this,hw]
   .exact h.elim
  .rename_i a b
   obtain ⟨v,hv,hw⟩:=strOp_sound (P:=P) h t
   refine ⟨v,hv,fun w=>?_⟩
   have:(eqGuard op t ox oy (.string a) (.string b)).run P w= .ok () w:=by cases op<;>simp [eqGuard]
   simp [this,hw]
  .rename_i a b
   split at h
   .rename_i ht
    split at h
    .exact ⟨_,h,fun w=>by simp [eqGuard,binOp,equal_bool ht]⟩
    .exact ⟨_,h,fun w=>by simp [eqGuard,binOp,equal_bool ht]⟩
    .exact h.elim
   .exact h.elim
  .rename_i p q
   split at h
   .rename_i e ht
    split at h
    .rename_i hs
     split at h
     .obtain ⟨b,hb,hw⟩:=equal_ptr ht hs h
      exact ⟨_,hb,fun w=>by simp [eqGuard,binOp,hw]⟩
     .obtain ⟨b,hb,hw⟩:=equal_ptr ht hs h
      exact ⟨_,hb,fun w=>by simp [eqGuard,binOp,hw]⟩
     .exact h.elim
    .exact h.elim
   .exact h.elim
  .rename_i a l c _ _
   split at h
   .rename_i e ht
    split at h
    .exact ⟨_,h,fun w=>by simp [eqGuard,binOp,equal_slice_nil ht]⟩
    .exact ⟨_,h,fun w=>by simp [eqGuard,binOp,equal_slice_nil ht]⟩
    .exact h.elim
   .exact h.elim
  .rename_i xs ys
   split at h
   .exact h.elim
   .rename_i hg
    split at h
    .rename_i b hb
     have hb':∀ w,(Op.equalIn 10000 t (.agg xs) (.agg ys)).run P w= .ok b w:=fun w=>eqV_sound w 9991 9 _ _ _ _ hb
     have hgu:∀ w,(eqGuard op t ox oy (.agg xs) (.agg ys)).run P w= .ok () w:=fun w=>run_eqGuard_agg w op t ox oy xs ys (by simpa using hg)
     split at h
     .refine ⟨_,h,fun w=>?_⟩
      rw [Sem.run_bind,hgu,Result.andThen_ok,run_eql_struct w,hb',Result.andThen_ok]
     .refine ⟨_,h,fun w=>?_⟩
      rw [Sem.run_bind,hgu,Result.andThen_ok,run_neq_struct w,hb',Result.andThen_ok]
     .exact h.elim
    .exact h.elim
  .exact h.elim
end
section
variable {P:Program} {ds:List Deferred}
theorem nilC_some {p:Option Addr} {K:Addr->Prop} (h:nilC p K):∃ a,p=some a/\K a:=by
 cases p with
 | none=>exact h.elim
 | some a=>exact ⟨a,rfl,h⟩
theorem foldl_set (vs:List Value):∀ (off:Nat) (cs:List Value),off+vs.length<=cs.length->
  ((vs.zipIdx off).foldl (fun (c:Array Value) x=>c.setIfInBounds x.2 x.1) cs.toArray).toList=cs.take off ++ vs ++ cs.drop (off+vs.length):=by
 induction vs with
 | nil=>intro off cs _;simp
 | cons v vs ih =>
  intro off cs h
  simp only [List.length_cons] at h
  simp only [List.zipIdx_cons,List.foldl_cons,List.setIfInBounds_toArray]
  rw [ih (off+1) (cs.set off v) (by simp;omega)]
  have h1:(cs.set off v).take (off+1)=cs.take off ++ [v]:=by
   rw [List.take_set,List.set_eq_take_append_cons_drop]
   have hl:off<(cs.take (off+1)).length:=by simp;omega
   rw [if_pos hl,List.take_take,List.drop_take]
   simp
  have h2:(cs.set off v).drop (off+1+vs.length)=cs.drop (off+(vs.length+1)):=by
   rw [List.drop_set_of_lt (by omega)]
   congr 1;omega
  rw [h1,h2]
  simp
theorem zipIdx_foldl_off (vs:List Value) (off:Nat):∀ (k:Nat) (cs:Array Value),
  ((vs.zipIdx k).foldl (fun (c:Array Value) (x:Value×Nat)=>c.setIfInBounds (off+x.2) x.1) cs)=((vs.zipIdx (off+k)).foldl (fun (c:Array Value) x=>c.setIfInBounds x.2 x.1) cs):=by
 induction vs with
 | nil=>intro k cs;rfl
 | cons v vs ih =>
  intro k cs
  simp only [List.zipIdx_cons,List.foldl_cons]
  rw [ih (k+1),show off+(k+1)=off+k+1 by omega]
theorem fill_sound {place place':Nat->Option (Nat×Nat)} (hp:∀ i,place' i=place i):∀ {parts:List (Nat×Value)} {cs ds:List Value},fillL place cs parts=some ds->
  Instr.fill place' cs.toArray parts=some ds.toArray
 | [],cs,ds,h=>by simp [fillL] at h;simp [Instr.fill,h]
 |(i,v) :: rest,cs,ds,h=>by
  simp only [fillL] at h
  simp only [Instr.fill,hp]
  cases hpl:place i with
  | none=>simp [hpl] at h
  | some os =>
   obtain ⟨off,size⟩:=os
   simp only [hpl] at h ⊢
   split at h
   .rename_i hc
    obtain ⟨h1,h2⟩:=hc
    have h1':v.cells.size=size:=by simpa using h1
    have h3:¬ (v.cells.size≠size || decide (off+v.cells.size > cs.toArray.size))=true:=by simp [h1'];omega
    rw [if_neg h3]
    have hf:(v.cells.zipIdx.foldl (fun cs (x:Value×Nat)=>cs.setIfInBounds (off+x.2) x.1) cs.toArray)=(cs.take off ++ v.cells.toList ++ cs.drop (off+size)).toArray:=by
     apply Array.ext'
     rw [<- Array.foldl_toList,Array.toList_zipIdx]
     rw [zipIdx_foldl_off,Nat.add_zero,foldl_set _ _ _ (by rw [h1];exact h2),h1]
    have hf':(v.cells.zipIdx.foldl (fun cs (x:Value×Nat)=>match x with | (c,j)=>cs.setIfInBounds (off+j) c) cs.toArray)=(cs.take off ++ v.cells.toList ++ cs.drop (off+size)).toArray:=hf
    rw [hf']
    exact fill_sound hp h
   .cases h
theorem places_run (w:World):∀ {fs:List Field} {ps:List (Nat×Nat)},structPlaces P fs=some ps->
  (fs.mapM (fun f=>do pure (f.offset,<- sizeOf f.type):Field->Sem (Nat×Nat))).run P w= .ok ps w
 | [],ps,h=>by simp [structPlaces] at h;simp [h]
 | f :: fs,ps,h=>by
  simp only [structPlaces] at h
  split at h
  .rename_i n l hn hl
   cases h
   simp only [List.mapM_cons,Sem.run_bind,run_sizeOf' hn,Result.andThen_ok,Sem.run_pure,places_run w hl]
  .cases h
theorem build_sound {t:TypeId} {parts:List (Nat×Value)} {v:Value} (h:buildV P t parts=some v) (w:World):(Instr.build t parts.toArray).run P w= .ok v w:=by
 unfold buildV at h
 split at h
 .rename_i z fs hz ht
  split at h
  .rename_i ps hps
   split at h
   .rename_i cs hcs
    cases h
    have hm:(fs.mapM (fun f=>do pure (f.offset,<- sizeOf f.type):Field->Sem (Nat×Nat))).run P w= .ok ps.toArray w:=by
     rw [<- Array.toArray_toList (xs:=fs),List.mapM_toArray]
     rw [Sem.run_map,places_run w hps]
     rfl
    have hfill:=fill_sound (place':=fun i=>ps[i]?) (fun i=>rfl) hcs
    simp only [Instr.build,Sem.run_bind,run_zeroValue' hz,run_underlying' ht,Result.andThen_ok,hm]
    simp only [Array.toArray_toList] at hfill
    simp [hfill]
   .cases h
  .cases h
 .rename_i z n e hz ht
  split at h
  .rename_i size hsz
   split at h
   .rename_i cs hcs
    cases h
    have hfill:=fill_sound (place':=fun i=>some (i * size,size)) (fun i=>rfl) hcs
    simp only [Instr.build,Sem.run_bind,run_zeroValue' hz,run_underlying' ht,Result.andThen_ok,run_sizeOf' hsz]
    simp only [Array.toArray_toList] at hfill
    simp [hfill]
   .cases h
  .cases h
 .cases h
theorem run_bound {k:IntKind} {i:Int} {y:Nat} {code:BoundsCode} (h0:0<=i) (h1:i<=y) (w:World):(Instr.sliceBound (.int k i) y code).run P w= .ok i.toNat w:=by
 simp [Instr.sliceBound,asIntOf,h0,h1]
theorem bounds_sound {ε:Env} {a:Act} (hε:EnvD ds ε a) {len cap:Nat} {lo hi mx:Option Operand} {l h m:Option Int} (hl:intsOf ε lo=some l) (hh:intsOf ε hi=some h) (hm:intsOf ε mx=some m)
  (b:Bool) (h1:0<=m.getD cap) (h2:m.getD cap<=cap) (h3:0<=h.getD len) (h4:h.getD len<=m.getD cap) (h5:0<=l.getD 0) (h6:l.getD 0<=h.getD len) (h7:m.isSome=true->h.isSome=true) (w:World) :
  (Instr.sliceBounds b len cap (lo.map a.eval) (hi.map a.eval) (mx.map a.eval)).run P w= .ok ((l.getD 0).toNat,(h.getD len).toNat,(m.getD cap).toNat) w:=by
 rcases intsOf_sound hε hl with ⟨rfl,rfl⟩| ⟨kl,nl,xl,rfl,rfl,el⟩<;>rcases intsOf_sound hε hh with ⟨rfl,rfl⟩| ⟨kh,nh,xh,rfl,rfl,eh⟩ <;>
  rcases intsOf_sound hε hm with ⟨rfl,rfl⟩| ⟨km,nm,xm,rfl,rfl,em⟩<;>simp only [Option.getD_none,Option.getD_some,Option.map_none,Option.map_some] at * <;>
  first
  |(simp at h7;done)
  |(simp only [Instr.sliceBounds,Sem.run_bind,Sem.run_pure,Result.andThen_ok, *]
    repeat (first | rw [run_bound (by omega) (by omega)] | simp only [Result.andThen_ok,Int.toNat_natCast,Int.toNat_zero,Sem.run_pure,Sem.run_bind]))
theorem slice_sound {ε:Env} {a:Act} (hε:EnvD ds ε a) {t e:TypeId} {size:Nat} {base:Option Addr} {len cap:Nat} {lo hi mx:Option Operand} {l h m:Option Int}
  (ht:P.underlying t=some (.slice e)) (hs:sizeT P e=some size) (hl:intsOf ε lo=some l) (hh:intsOf ε hi=some h) (hm:intsOf ε mx=some m) {K:Value->Prop} (hk:sliceP size base len cap l h m fun a l c=>K (.slice a l c)) :
  ∃ v,K v/\∀ w,(Instr.sliceAt t (.slice base len cap) (lo.map a.eval) (hi.map a.eval) (mx.map a.eval)).run P w= .ok v w:=by
 obtain ⟨h1,h2,h3,h4,h5,h6,h7,hk⟩:=hk
 refine ⟨_,hk,fun w=>?_⟩
 have hb:=bounds_sound hε hl hh hm true h1 h2 h3 h4 h5 h6 h7 (P:=P) w
 simp [Instr.sliceAt,Instr.slice,run_underlying' ht,hb,run_sizeOf' hs]
theorem sliceArr_sound {ε:Env} {a:Act} (hε:EnvD ds ε a) {t e:TypeId} {size n:Nat} {p:Addr} {lo hi mx:Option Operand} {l h m:Option Int}
  (ht:P.underlying t=some (.array n e)) (hs:sizeT P e=some size) (hl:intsOf ε lo=some l) (hh:intsOf ε hi=some h) (hm:intsOf ε mx=some m) {K:Value->Prop} (hk:sliceP size (some p) n n l h m fun a l c=>K (.slice a l c)) :
  ∃ v,K v/\∀ w,(Instr.sliceAt t (.pointer (some p)) (lo.map a.eval) (hi.map a.eval) (mx.map a.eval)).run P w= .ok v w:=by
 obtain ⟨h1,h2,h3,h4,h5,h6,h7,hk⟩:=hk
 refine ⟨_,hk,fun w=>?_⟩
 have hb:=bounds_sound hε hl hh hm false h1 h2 h3 h4 h5 h6 h7 (P:=P) w
 simp [Instr.sliceAt,Instr.sureAddr,run_underlying' ht,hb,run_sizeOf' hs]
 split<;>rfl
theorem sliceStr_sound {ε:Env} {a:Act} (hε:EnvD ds ε a) {t:TypeId} {s:ByteArray} {lo hi mx:Option Operand} {l h:Option Int}
  (ht:P.underlying t=some .string) (hl:intsOf ε lo=some l) (hh:intsOf ε hi=some h) (hm:intsOf ε mx=some none)
  (h1:0<=h.getD s.size) (h2:h.getD s.size<=s.size) (h3:0<=l.getD 0) (h4:l.getD 0<=h.getD s.size) (w:World) :
  (Instr.sliceAt t (.string s) (lo.map a.eval) (hi.map a.eval) (mx.map a.eval)).run P w= .ok (.string (s.extract (l.getD 0).toNat (h.getD s.size).toNat)) w:=by
 have hb:=bounds_sound hε hl hh hm (P:=P) false (len:=s.size) (cap:=s.size) (by simp) (by simp) h1 (by simpa using h2) h3 h4 (by simp) w
 rcases intsOf_sound hε hm with ⟨_,rfl⟩| ⟨_,_,_,h0,_⟩
 .simp at hb
  simp [Instr.sliceAt,Instr.slice,run_underlying' ht,hb]
 .cases h0
theorem run_field_place {t:TypeId} {f:Nat} {fld:Field} (h:fieldOf P t f=some fld) {n:Nat} (hn:sizeT P fld.type=some (n+1)) (a:Addr) (w:World) :
  (Instr.fieldAt t (.pointer (some a)) f).run P w= .ok (.pointer (some (a.add fld.offset))) w:=by
 unfold fieldOf at h
 split at h
 .rename_i fs ht
  rw [Array.getElem?_toList] at h
  simp [Instr.fieldAt,run_underlying' ht,h,Instr.sureAddr,fieldPlace,run_sizeOf' hn]
 .cases h
theorem partAll_at {e:TypeId} {cs:List Value} {size:Nat} {n:Int} {K:Value->Prop} (h0:0<=n):∀ {len:Nat},n<len->partAll P e cs size n K len->∃ v,partL P e cs (n.toNat * size)=some v/\K v
 | 0,h1,_=>by omega
 | j+1,h1,h=>by
  by_cases hj:n=(j:Nat)
  .have:=h.2 hj
   have hn:n.toNat=j:=by omega
   rw [hn]
   split at this
   .rename_i v hv;exact ⟨v,hv,this⟩
   .exact this.elim
  .exact partAll_at h0 (by omega) h.1
theorem quiet_sound {o:Oper} {ε:Env} {a:Act} (hε:EnvD ds ε a) {C:(World->Prop)->Prop} (hC:∀ φ ψ:World->Prop,(∀ w,φ w->ψ w)->C φ->C ψ) (hT:∀ φ:World->Prop,(∀ w,φ w)->C φ)
  {K:Value->Prop} (h:quietP P C o.op ε K):∃ v,K v/\C fun w=>(execOp a.eval o).run P w= .ok (.value v) w:=by
 obtain ⟨dst,op,type,pos,after,guard⟩:=o
 simp only at h
 have plain:∀ {v:Value} {s:Sem Value},K v->(∀ w,s.run P w= .ok v w)->(∀ w,(execOp a.eval ⟨dst,op,type,pos,after,guard⟩).run P w=(do pure (.value (<- s)):Sem Next).run P w)->
   ∃ v,K v/\C fun w=>(execOp a.eval ⟨dst,op,type,pos,after,guard⟩).run P w= .ok (.value v) w:=by
  intro v s hk hs he
  exact ⟨v,hk,hT _ fun w=>by rw [he w];simp [hs]⟩
 cases op with
 | move x =>
  simp only [quietP] at h
  split at h
  .rename_i v hv;exact plain (s:=pure v) h (fun _=>rfl) (fun w=>by simp [execOp,hε.eval hv])
  .exact h.elim
 | assign x =>
  simp only [quietP] at h
  split at h
  .rename_i v hv;exact plain (s:=pure v) h (fun _=>rfl) (fun w=>by simp [execOp,hε.eval hv])
  .exact h.elim
 | pick c x y =>
  simp only [quietP] at h
  split at h
  .rename_i t p q hc hx hy
   exact plain (s:=pure (.bool (cond t p q))) h (fun _=>rfl) (fun w=>by cases t<;>simp [execOp,hε.eval hc,hε.eval hx,hε.eval hy,asBool])
  .rename_i t p q _ hc hx hy
   cases t with
   | true=>exact plain (s:=pure p) h (fun _=>rfl) (fun w=>by simp [execOp,hε.eval hc,hε.eval hx,hε.eval hy,asBool])
   | false=>exact plain (s:=pure q) h (fun _=>rfl) (fun w=>by simp [execOp,hε.eval hc,hε.eval hx,hε.eval hy,asBool])
  .exact h.elim
 | nilCheck x =>
  simp only [quietP] at h
  split at h
  .rename_i p hp
   obtain ⟨b,rfl,hk⟩:=nilC_some h
   exact plain (s:=pure (.pointer (some b))) hk (fun _=>rfl) (fun w=>by simp [execOp,hε.eval hp])
  .rename_i f b c hp
   exact plain (s:=pure (.func (.func f) b c)) h (fun _=>rfl) (fun w=>by simp [execOp,hε.eval hp])
  .exact h.elim
 | binOp op t x y u =>
  simp only [quietP] at h
  split at h
  .rename_i p q hp hq
   obtain ⟨v,hk,hw⟩:=binP_sound h x y
   exact plain hk hw (fun w=>by simp only [execOp,hε.eval hp,hε.eval hq])
  .exact h.elim
 | unOp op t x =>
  simp only [quietP] at h
  split at h
  .rename_i b hb;exact plain (s:=pure (.bool (!b))) h (fun _=>rfl) (fun w=>by simp [execOp,hε.eval hb,Op.unary])
  .rename_i k n hb;exact plain (s:=pure (.int k (k.wrap (0 - n)))) h (fun _=>rfl) (fun w=>by simp [execOp,hε.eval hb,Op.unary,Op.intArith])
  .rename_i k n hb
   refine plain (s:=pure _) h (fun _=>rfl) (fun w=>?_)
   simp [execOp,hε.eval hb,Op.unary,Op.intBits]
  .exact h.elim
 | makeFunc fn first captured =>
  simp only [quietP] at h
  split at h
  .rename_i p q hp hq
   exact plain (s:=pure _) h (fun _=>rfl) (fun w=>by simp [execOp,Instr.makeFunc,evs_array hε hp,evs_array hε hq])
  .exact h.elim
 | extract x i =>
  simp only [quietP] at h
  split at h
  .rename_i vs hx
   split at h
   .rename_i v hv
    rw [Array.getElem?_toList] at hv
    exact plain (s:=pure v) h (fun _=>rfl) (fun w=>by simp [execOp,Instr.extract,hε.eval hx,hv])
   .exact h.elim
  .exact h.elim
 | makeInterface t x =>
  simp only [quietP] at h
  split at h
  .exact h.elim
  .rename_i d v hn hd hx
   have hd':=hd
   refine plain (s:=pure (.iface t v)) h (fun _=>rfl) (fun w=>?_)
   cases d<;>first | (exact (hn _ rfl).elim) | simp [execOp,Instr.makeInterface,run_underlying' hd',hε.eval hx]
  .exact h.elim
 | fieldAddr t x f =>
  simp only [quietP] at h
  split at h
  .rename_i b fld hx hf
   split at h
   .rename_i n hn
    exact plain h (fun w=>run_field_place hf hn b w) (fun w=>by simp only [execOp,hε.eval hx])
   .exact h.elim
  .exact h.elim
 | field t x f =>
  simp only [quietP] at h
  split at h
  .rename_i cs fld hx hf
   split at h
   .rename_i v hv
    refine plain (s:=Instr.field t (.agg cs) f) h (fun w=>?_) (fun w=>by simp only [execOp,hε.eval hx])
    unfold fieldOf at hf
    split at hf
    .rename_i fs ht
     rw [Array.getElem?_toList] at hf
     simp [Instr.field,run_underlying' ht,hf,asAgg,run_part hv]
    .cases hf
   .exact h.elim
  .exact h.elim
 | indexAddr t x i =>
  simp only [quietP] at h
  split at h
  .rename_i base len cap k n e hx hi ht
   split at h
   .rename_i size hsz
    obtain ⟨h0,h1,h⟩:=h
    obtain ⟨b,rfl,hk⟩:=nilC_some h
    refine plain (s:=Instr.indexAt t (.slice (some b) len cap) (.int k n)) hk (fun w=>?_) (fun w=>by simp only [execOp,hε.eval hx,hε.eval hi])
    by_cases hl:len<=1<;>simp [Instr.indexAt,asIntOf,run_underlying' ht,h0,h1,run_sizeOf' hsz,hl]
   .exact h.elim
  .rename_i b k n len e hx hi ht
   split at h
   .rename_i size hsz
    obtain ⟨h0,h1,hk⟩:=h
    refine plain (s:=Instr.indexAt t (.pointer (some b)) (.int k n)) hk (fun w=>?_) (fun w=>by simp only [execOp,hε.eval hx,hε.eval hi])
    by_cases hl:len<=1<;>simp [Instr.indexAt,asIntOf,run_underlying' ht,h0,h1,run_sizeOf' hsz,hl,Instr.sureAddr]
   .exact h.elim
  .exact h.elim
 | index t x i =>
  simp only [quietP] at h
  split at h
  .rename_i cs k n len e hx hi ht
   split at h
   .rename_i size hsz
    obtain ⟨h0,h1,h⟩:=h
    obtain ⟨v,hv,h⟩: ∃ v,partL P e cs.toList (n.toNat * size)=some v/\K v:=by
     split at h
     .split at h
      .rename_i v hv;exact ⟨v,hv,h⟩
      .exact h.elim
     .exact partAll_at h0 h1 h
    refine plain (s:=Instr.index t (.agg cs) (.int k n)) h (fun w=>?_) (fun w=>by simp only [execOp,hε.eval hx,hε.eval hi])
    simp [Instr.index,asIntOf,run_underlying' ht,h0,h1,run_sizeOf' hsz,run_part hv]
   .exact h.elim
  .rename_i s k n hx hi ht
   obtain ⟨h0,b,hb,hk⟩:=h
   refine plain (s:=Instr.index t (.string s) (.int k n)) hk (fun w=>?_) (fun w=>by simp only [execOp,hε.eval hx,hε.eval hi])
   have hb':s[n.toNat]?=some b:=by
    rw [Array.getElem?_toList] at hb
    have hlt:=(Array.getElem?_eq_some_iff.1 hb).1
    have hv:=(Array.getElem?_eq_some_iff.1 hb).2
    have hlt':n.toNat<s.size:=hlt
    rw [getElem?_pos s n.toNat hlt']
    exact congrArg some hv
   simp [Instr.index,asIntOf,run_underlying' ht,h0,hb']
  .exact h.elim
 | slice t x lo hi mx =>
  simp only [quietP] at h
  split at h
  .rename_i base len cap e l hh m hx ht hl hhi hm
   split at h
   .rename_i size hsz
    obtain ⟨v,hk,hw⟩:=slice_sound hε ht hsz hl hhi hm h
    exact plain hk hw (fun w=>by simp only [execOp,hε.eval hx])
   .exact h.elim
  .rename_i b n e l hh m hx ht hl hhi hm
   split at h
   .rename_i size hsz
    obtain ⟨v,hk,hw⟩:=sliceArr_sound hε ht hsz hl hhi hm h
    exact plain hk hw (fun w=>by simp only [execOp,hε.eval hx])
   .exact h.elim
  .rename_i s l hh hx ht hl hhi hm
   obtain ⟨h1,h2,h3,h4,hk⟩:=h
   exact plain hk (fun w=>sliceStr_sound hε ht hl hhi hm h1 h2 h3 h4 w) (fun w=>by simp only [execOp,hε.eval hx])
  .exact h.elim
 | build t parts =>
  simp only [quietP] at h
  split at h
  .rename_i ps hps
   split at h
   .rename_i v hv
    refine plain h (fun w=>build_sound hv w) (fun w=>?_)
    have:parts.map (fun x=>(x.1,a.eval x.2))=ps.toArray:=by apply Array.ext';simp [evParts_sound hε hps]
    simp only [execOp]
    rw [show (parts.map fun (i,x)=>(i,a.eval x))=ps.toArray from this]
   .exact h.elim
  .exact h.elim
 | load t x =>
  simp only [quietP] at h
  split at h
  .rename_i b hx
   obtain ⟨v,hk,hc⟩:=load_sound hC h
   exact ⟨v,hk,hC _ _ (fun w hw=>by simp [execOp,Instr.loadAt,Instr.sureAddr,hε.eval hx,hw]) hc⟩
  .exact h.elim
 | convert src dst x =>
  simp only [quietP] at h
  split at h
  .rename_i k1 k n _ hs hd hx
   exact plain (s:=pure _) h (fun _=>rfl) (fun w=>by simp [execOp,convert,run_underlying' hs,run_underlying' hd,hε.eval hx,Conv.intToInt])
  .rename_i s hs hd hx
   exact plain (s:=pure _) h (fun _=>rfl) (fun w=>by simp [execOp,convert,run_underlying' hs,run_underlying' hd,hε.eval hx])
  .exact h.elim
 | call c =>
  simp only [quietP] at h
  split at h
  .rename_i v t hcal harg hty
   have hA:=evs_array hε harg
   have hA':c.argTypes=#[t]:=by apply Array.ext';simpa using hty
   split at h
   .rename_i s ht
    exact plain (s:=pure _) h (fun _=>rfl) (fun w=>by simp [execOp,resolve,hcal,invoke,builtin,Builtin.len_,hA,hA',run_underlying' ht,goInt])
   .rename_i e b n cp ht
    exact plain (s:=pure _) h (fun _=>rfl) (fun w=>by simp [execOp,resolve,hcal,invoke,builtin,Builtin.len_,hA,hA',run_underlying' ht,goInt])
   .rename_i n e v' ht
    exact plain (s:=pure _) h (fun _=>rfl) (fun w=>by simp [execOp,resolve,hcal,invoke,builtin,Builtin.len_,hA,hA',run_underlying' ht,goInt])
   .exact h.elim
  .rename_i v t hcal harg hty
   have hA:=evs_array hε harg
   have hA':c.argTypes=#[t]:=by apply Array.ext';simpa using hty
   split at h
   .rename_i e b n cp ht
    exact plain (s:=pure _) h (fun _=>rfl) (fun w=>by simp [execOp,resolve,hcal,invoke,builtin,Builtin.cap_,hA,hA',run_underlying' ht,goInt])
   .exact h.elim
  .rename_i k p k' q hcal harg
   have hA:=evs_array hε harg
   exact plain (s:=pure _) h (fun _=>rfl) (fun w=>by simp [execOp,resolve,hcal,invoke,builtin,Builtin.max_,Builtin.max2,hA])
  .rename_i k p k' q hcal harg
   have hA:=evs_array hε harg
   exact plain (s:=pure _) h (fun _=>rfl) (fun w=>by simp [execOp,resolve,hcal,invoke,builtin,Builtin.min_,Builtin.min2,hA])
  .exact h.elim
 | _=>simp only [quietP] at h
end
section
variable {P:Program} {ds:List Deferred}
theorem zerosL_length (z:List Value):∀ n,(zerosL z n).length=n * z.length
 | 0=>by simp [zerosL]
 | n+1=>by simp [zerosL,zerosL_length z n,Nat.succ_mul,Nat.add_comm]
theorem zerosL_get (z:List Value):∀ n i,i<n * z.length->(zerosL z n)[i]?=z[i % z.length]?
 | 0,i,h=>by simp at h
 | n+1,i,h=>by
  have hz:0<z.length:=by
   rcases Nat.eq_zero_or_pos z.length with h0 | h0
   .rw [h0] at h;simp at h
   .exact h0
  rw [Nat.succ_mul] at h
  simp only [zerosL]
  by_cases hi:i<z.length
  .rw [List.getElem?_append_left hi,Nat.mod_eq_of_lt hi]
  .rw [List.getElem?_append_right (by omega),zerosL_get z n (i - z.length) (by omega)]
   congr 1
   exact (Nat.mod_eq_sub_mod (by omega)).symm
theorem range_map_zeros (z:Array Value) (n:Nat) (m:Nat) (hm:m=n * z.size) :
  ((Array.range m).map fun i=>z[i % z.size]!)=(zerosL z.toList n).toArray:=by
 subst hm
 apply Array.ext
 .simp [zerosL_length]
 .intro i h1 h2
  simp at h1
  have hz:0<z.size:=by
   rcases Nat.eq_zero_or_pos z.size with h0 | h0
   .rw [h0] at h1;simp at h1
   .exact h0
  have hlt:i % z.size<z.size:=Nat.mod_lt _ hz
  have:=zerosL_get z.toList n i (by simpa using h1)
  rw [List.getElem?_eq_getElem (by simpa [zerosL_length] using h1)] at this
  simp only [Array.length_toList,Array.getElem?_toList] at this
  rw [Array.getElem?_eq_getElem hlt] at this
  simp [hlt]
  exact (Option.some.inj this).symm
theorem zeroCells_eq (z:Array Value) (n:Nat):Builtin.zeroCells z n=(zerosL z.toList n).toArray:=range_map_zeros z n _ rfl
theorem hasBody_spec {f:FuncId} (h:hasBody P f=true):∃ fn,P.funcs[f]?=some fn/\fn.body.isNone=false/\(fn.name == "runtime.NumGoroutine")=false:=by
 unfold hasBody at h
 split at h
 .rename_i fn hf
  simp only [Bool.and_eq_true,Bool.not_eq_true'] at h
  exact ⟨fn,hf,by cases hb:fn.body<;>simp_all,h.2⟩
 .cases h
theorem run_callFunc {f:FuncId} (h:hasBody P f=true) (args:Array Value) (w:World):(callFunc f args).run P w= .ok (.enter f args) w:=by
 obtain ⟨fn,hf,hb,hn⟩:=hasBody_spec h
 have hn':fn.name≠ "runtime.NumGoroutine" := by simpa using hn
 have hb':fn.body≠none:=by intro e;simp [e] at hb
 simp [callFunc,hf,hb',hn']
theorem setCell_putBlk {w:World} {b o:Nat} {cur:Array Value} {T:TypeId} {fr:Nat×Nat} (hb:w.heap[b]?=some (.cells cur T fr)) (v:Value) :
  w.setCell ⟨b,o,none⟩ v=putBlk w b (.cells (cur.setIfInBounds o v) T fr):=by
 have hlt:=(Array.getElem?_eq_some_iff.1 hb).1
 have hv:=(Array.getElem?_eq_some_iff.1 hb).2
 unfold World.setCell putBlk
 congr 1
 apply Array.ext
 .simp
 .intro i h1 h2
  simp only [Array.getElem_modify]
  rw [Array.getElem_setIfInBounds (by simpa using h1)]
  by_cases hi:b=i
  .subst hi;simp [hv]
  .simp [hi]
theorem putBlk_get_same {w:World} {b:Nat} {o:Obj} (h:b<w.heap.size):(putBlk w b o).heap[b]?=some o:=by simp [putBlk,h]
theorem putBlk_get_other {w:World} {b c:Nat} {o:Obj} (h:b≠c):(putBlk w b o).heap[c]?=w.heap[c]?:=by simp [putBlk,h]
theorem putBlk_putBlk (w:World) (b:Nat) (o o':Obj):putBlk (putBlk w b o) b o'=putBlk w b o':=by simp [putBlk]
theorem run_storeCells {b o:Nat} {T:TypeId} {fr:Nat×Nat}:∀ (vs:List Value) (i:Nat) (cur:Array Value) (w:World),w.heap[b]?=some (.cells cur T fr)->o+i+vs.length<=cur.size->
  (fr.2<=o+i\/o+i+vs.length<=fr.1)->(∀ v∈vs,v.oneCell'=true)->
  (storeCells ⟨b,o,none⟩ vs i).run P w= .ok () (putBlk w b (.cells (splice cur (o+i) vs) T fr))
 | [],i,cur,w,hb,_,_,_=>by
  have hlt:=(Array.getElem?_eq_some_iff.1 hb).1
  have hv:=(Array.getElem?_eq_some_iff.1 hb).2
  simp only [storeCells,splice,List.append_nil,List.length_nil,Nat.add_zero,List.take_append_drop,Array.toArray_toList]
  rw [Sem.run_pure]
  congr 1
  unfold putBlk
  cases w with
  | mk heap tape drawn os output =>
   congr 1
   apply Array.ext
   .simp
   .intro j h1 h2
    rw [Array.getElem_setIfInBounds (by simpa using h1)]
    by_cases hj:b=j
    .subst hj;simpa using hv
    .simp [hj]
 | v :: rest,i,cur,w,hb,hl,hfr,h1=>by
  simp only [List.length_cons] at hl hfr
  have hadd:(⟨b,o,none⟩: Addr).add i=⟨b,o+i,none⟩:=by unfold Addr.add;split<;>simp_all
  have hcell:w.cell? ⟨b,o+i,none⟩= some (cur[o+i]'(by omega)):=by simp [World.cell?,hb]
  have hfro:w.frozen? ⟨b,o+i,none⟩= false:=by
   simp only [World.frozen?,hb]
   simp
   omega
  have hst:(store ((⟨b,o,none⟩: Addr).add i) v).run P w= .ok () (w.setCell ⟨b,o+i,none⟩ v):=by
   rw [hadd,run_store P w _ v _ (h1 v (by simp)),hcell]
   simp [hfro]
  have hlt:=(Array.getElem?_eq_some_iff.1 hb).1
  have hb':(putBlk w b (.cells (cur.setIfInBounds (o+i) v) T fr)).heap[b]?=some (.cells (cur.setIfInBounds (o+i) v) T fr):=putBlk_get_same hlt
  have ih:=run_storeCells (b:=b) (o:=o) (T:=T) (fr:=fr) rest (i+1) (cur.setIfInBounds (o+i) v) _ hb' (by simp;omega) (by omega) (fun u hu=>h1 u (by simp [hu]))
  simp only [storeCells,Sem.run_bind,hst,Result.andThen_ok]
  rw [setCell_putBlk hb,ih,putBlk_putBlk]
  congr 3
  unfold splice
  congr 1
  rw [Array.toList_setIfInBounds]
  have e1:(cur.toList.set (o+i) v).take (o+(i+1))=cur.toList.take (o+i) ++ [v]:=by
   rw [List.take_set,List.set_eq_take_append_cons_drop]
   have hl':o+i<(cur.toList.take (o+(i+1))).length:=by simp;omega
   rw [if_pos hl',List.take_take,List.drop_take]
   simp
   congr 1;omega
  have e2:(cur.toList.set (o+i) v).drop (o+(i+1)+rest.length)=cur.toList.drop (o+i+(rest.length+1)):=by
   rw [List.drop_set_of_lt (by omega)]
   congr 1;omega
  rw [e1,e2]
  simp
theorem store_sound {w:World} {a:Addr} {vs:List Value} {K:World->Prop} (h:storeP w a vs K) (h1:∀ v∈vs,v.oneCell'=true):∃ w',K w'/\(storeCells a vs).run P w= .ok () w':=by
 obtain ⟨hs,cur,T,fr,hb,hl,hfr,hk⟩:=h
 refine ⟨_,hk _ ⟨(Array.getElem?_eq_some_iff.1 hb).1,rfl,_,_,_,hb⟩,?_⟩
 have ha:a=⟨a.block,a.off,none⟩:=by cases a;simp at hs;simp [hs]
 have:=run_storeCells (P:=P) (b:=a.block) (o:=a.off) vs 0 cur w hb (by simpa using hl) (by simpa using hfr) h1
 rw [<- ha] at this
 simpa using this
theorem read_sound {w:World} {size n:Nat} {x:Value} {vs:List Value} (h:readP w size x n vs):(Builtin.firstCells size n x).run P w= .ok vs.toArray w:=by
 unfold readP at h
 split at h
 .rename_i a l c
  obtain ⟨hl,hc⟩:=h
  exact run_firstCells_some w size n a l c vs hl (fun j v hj=>by simpa using cellsAt_get hc j v hj)
 .subst h;simp [Builtin.firstCells]
 .subst h
  simp only [Builtin.firstCells]
  rw [Sem.run_pure]
  congr 1
  apply Array.ext'
  simp
 .exact h.elim
theorem read_drew {w:World} {size n:Nat} {x:Value} {vs:List Value} (h:readP w size x n vs):readP w.drew size x n vs:=by
 unfold readP at *
 have key:∀ (a:Addr) (vs:List Value) (i:Nat),cellsAt w a vs i->cellsAt w.drew a vs i:=by
  intro a vs
  induction vs with
  | nil=>intro i _;trivial
  | cons v vs ih=>intro i h;exact ⟨h.1,ih _ h.2⟩
 split<;>simp_all
theorem len_sound {x:Value} {n:Nat} (h:lenV x=some n) (w:World):(Builtin.lenOf x).run P w= .ok n w:=by
 unfold lenV at h
 split at h<;>cases h<;>simp [Builtin.lenOf]
theorem append_sound {t u e:TypeId} {ut:TypeDesc} (ht:P.underlying t=some (.slice e)) (hu:P.underlying u=some ut) (hui:∀ k,ut≠ .int k) {z:Value} (hz:zeroOf P e=some z) {size bytes:Nat}
  (hs:sizeT P e=some size) (hby:bytesT P e=some bytes) {base:Option Addr} {l cp:Nat} {x:Value} {w:World} {K:Value->World->Prop} (h:appendP e size bytes z.cells.toList base l cp x w fun a l c=>K (.slice a l c)) (ty:TypeId) :
  ∃ v w',K v w'/\(Builtin.append_ #[t,u] ty #[.slice base l cp,x]).run P w= .ok v w':=by
 obtain ⟨n,hn,new,hnew,h1,hroom,hgrow⟩:=h
 obtain ⟨i,hi,hib⟩: ∃ i,P.info? e=some i/\i.bytes=bytes:=by
  unfold bytesT at hby
  cases hi:P.info? e with
  | none=>simp [hi] at hby
  | some i=>simp [hi] at hby;exact ⟨i,rfl,hby⟩
 have hti:∀ w:World,(typeInfo e).run P w= .ok i w:=fun w=>by simp [typeInfo,hi]
 by_cases hc:l+n<=cp
 .have hk:=hroom hc
  cases base with
  | none =>
   refine ⟨_,w,hk,?_⟩
   simp only [Builtin.append_,List.getElem?_toArray,List.getElem?_cons_zero,List.getElem?_cons_succ]
   simp only [Sem.run_bind,run_underlying' ht,Result.andThen_ok,run_sizeOf' hs,run_underlying' hu,Sem.run_pure]
   cases ut<;>first
    | exact (hui _ rfl).elim
    | simp [len_sound hn,hc,read_sound hnew]
  | some a =>
   obtain ⟨w',hk',hw'⟩:=store_sound (P:=P) hk h1
   refine ⟨_,w',hk',?_⟩
   simp only [Builtin.append_,List.getElem?_toArray,List.getElem?_cons_zero,List.getElem?_cons_succ]
   simp only [Sem.run_bind,run_underlying' ht,Result.andThen_ok,run_sizeOf' hs,run_underlying' hu,Sem.run_pure]
   cases ut<;>first
    | exact (hui _ rfl).elim
    | simp [len_sound hn,hc,read_sound hnew,hw']
 .obtain ⟨h63,h48,old,hold,hk⟩:=hgrow (by omega)
  have hq:l+n<=(Question.appendCap (l+n) cp e).cut (w.tape w.drawn (.appendCap (l+n) cp e)):=by simp [Question.cut]
  have hq2:(Question.appendCap (l+n) cp e).cut (w.tape w.drawn (.appendCap (l+n) cp e))<9223372036854775808:=by
   show (l+n)+(w.tape w.drawn (.appendCap (l+n) cp e)) % (2 ^ 63 - (l+n))<9223372036854775808
   have:=Nat.mod_lt (w.tape w.drawn (.appendCap (l+n) cp e)) (show 0<2 ^ 63 - (l+n) by omega)
   omega
  refine ⟨_,_,hk _ _ _ hq hq2 ⟨rfl,rfl⟩,?_⟩
  have h63':¬ ((l+n:Nat):Int) > i64.max:=by show ¬ ((l+n:Nat):Int) > 9223372036854775807;omega
  have h48':¬ Builtin.nextslicecap (l+n) cp * bytes > 2 ^ 48:=by omega
  have hr1:=read_sound (P:=P) (read_drew hold)
  have hr2:=read_sound (P:=P) (read_drew hnew)
  simp only [Builtin.append_,List.getElem?_toArray,List.getElem?_cons_zero,List.getElem?_cons_succ]
  simp only [Sem.run_bind,run_underlying' ht,Result.andThen_ok,run_sizeOf' hs,run_underlying' hu,Sem.run_pure]
  cases ut<;>first
   | exact (hui _ rfl).elim
   |(simp only [Bool.false_eq_true,if_false,len_sound hn,Result.andThen_ok,hc,Sem.run_ite,Sem.run_bind,hti,hib,h63',h48',false_and,run_choose,Question.forced,World.drew_eq,run_askRoom,hr1,hr2,run_zeroValue' hz,zeroCells_eq,newRow,run_newObj,Sem.run_pure]
     simp)
theorem appendZ_sound {t u e:TypeId} {k:IntKind} (ht:P.underlying t=some (.slice e)) (hu:P.underlying u=some (.int k)) {z:Value} (hz:zeroOf P e=some z) {size bytes:Nat}
  (hs:sizeT P e=some size) (hby:bytesT P e=some bytes) {base:Option Addr} {l cp:Nat} {kx:IntKind} {m:Int} {w:World} {K:Value->World->Prop} (h:appendZ e size bytes z.cells.toList base l cp m w fun a l c=>K (.slice a l c)) (ty:TypeId) :
  ∃ v w',K v w'/\(Builtin.append_ #[t,u] ty #[.slice base l cp,.int kx m]).run P w= .ok v w':=by
 obtain ⟨h0,hm,hmb,h1,hzl,hroom,hgrow⟩:=h
 obtain ⟨i,hi,hib⟩: ∃ i,P.info? e=some i/\i.bytes=bytes:=by
  unfold bytesT at hby
  cases hi:P.info? e with
  | none=>simp [hi] at hby
  | some i=>simp [hi] at hby;exact ⟨i,rfl,hby⟩
 have hti:∀ w:World,(typeInfo e).run P w= .ok i w:=fun w=>by simp [typeInfo,hi]
 have wm:i64.wrap m=m:=by
  simp only [IntKind.wrap,IntKind.bits,IntKind.signed];simp;omega
 have hsz:size=z.cells.size:=by simpa using hzl.symm
 have hall:∀ n,∀ v∈zerosL z.cells.toList n,v.oneCell'=true:=by
  intro n
  induction n with
  | zero=>intro v hv;simp [zerosL] at hv
  | succ n ih=>intro v hv;simp only [zerosL,List.mem_append] at hv;exact hv.elim (h1 v) (ih v)
 have hneg:¬ m<0:=by omega
 have hbig:¬ m * (i.bytes:Int) > 2 ^ 48:=by rw [hib];omega
 have happ:∀ w:World,(if m.toNat * size=0 then pure #[] else do pure (Builtin.zeroCells (<- zeroValue e).cells m.toNat):Sem (Array Value)).run P w= .ok (zerosL z.cells.toList m.toNat).toArray w:=by
  intro w
  by_cases hn0:m.toNat * size=0
  .have:zerosL z.cells.toList m.toNat=[]:=by
    apply List.eq_nil_of_length_eq_zero
    rw [zerosL_length];rw [hsz] at hn0;simpa using hn0
   simp [hn0,this]
  .simp [hn0,run_zeroValue' hz,zeroCells_eq]
 by_cases hc:l+m.toNat<=cp
 .have hk:=hroom hc
  cases base with
  | none =>
   refine ⟨_,w,hk,?_⟩
   simp only [Builtin.append_,List.getElem?_toArray,List.getElem?_cons_zero,List.getElem?_cons_succ]
   simp only [Sem.run_bind,run_underlying' ht,Result.andThen_ok,run_sizeOf' hs,run_underlying' hu,Sem.run_pure]
   simp only [asInt,asIntOf,Sem.run_bind,Sem.run_pure,Result.andThen_ok,wm,if_true,Sem.run_ite,hneg,if_false,hti,hbig,hc,Bool.not_true,Bool.false_eq_true]
   have:=happ w
   simp only [Sem.run_ite,Sem.run_bind,Sem.run_pure] at this
   rw [this]
   simp
  | some a =>
   obtain ⟨w',hk',hw'⟩:=store_sound (P:=P) hk (hall _)
   refine ⟨_,w',hk',?_⟩
   simp only [Builtin.append_,List.getElem?_toArray,List.getElem?_cons_zero,List.getElem?_cons_succ]
   simp only [Sem.run_bind,run_underlying' ht,Result.andThen_ok,run_sizeOf' hs,run_underlying' hu,Sem.run_pure,asInt,asIntOf,wm,if_true,Sem.run_ite,hneg,if_false,hti,hbig,hc,Bool.not_true,Bool.false_eq_true]
   have:=happ w
   simp only [Sem.run_ite,Sem.run_bind,Sem.run_pure] at this
   rw [this]
   simp [hw']
 .obtain ⟨h63,h48,old,hold,hk⟩:=hgrow (by omega)
  have hq:l+m.toNat<=(Question.appendCap (l+m.toNat) cp e).cut (w.tape w.drawn (.appendCap (l+m.toNat) cp e)):=by simp [Question.cut]
  refine ⟨_,_,hk _ _ _ hq ⟨rfl,rfl⟩,?_⟩
  have h63':¬ ((l+m.toNat:Nat):Int) > i64.max:=by show ¬ ((l+m.toNat:Nat):Int) > 9223372036854775807;omega
  have h48':¬ Builtin.nextslicecap (l+m.toNat) cp * bytes > 2 ^ 48:=by omega
  have hr1:=read_sound (P:=P) (read_drew hold)
  have hbig2:¬ m * (bytes:Int) > 2 ^ 48:=by omega
  simp only [Builtin.append_,List.getElem?_toArray,List.getElem?_cons_zero,List.getElem?_cons_succ]
  simp only [hbig2,Sem.run_bind,run_underlying' ht,Result.andThen_ok,run_sizeOf' hs,run_underlying' hu,Sem.run_pure,asInt,asIntOf,wm,if_true,Sem.run_ite,hneg,if_false,hti,hbig,hc,Bool.not_true,Bool.false_eq_true,hib,h63',h48',false_and,
   run_choose,Question.forced,World.drew_eq,run_askRoom,hr1]
  have:=happ w.drew
  simp only [Sem.run_ite,Sem.run_bind,Sem.run_pure] at this
  rw [this]
  simp only [Result.andThen_ok,run_zeroValue' hz,zeroCells_eq,newRow,Sem.run_bind,run_newObj,Sem.run_pure]
  simp
  rfl
theorem copy_sound {t e:TypeId} (ht:P.underlying t=some (.slice e)) {size:Nat} (hs:sizeT P e=some size) {base:Option Addr} {l cp:Nat} {x:Value} {w:World} {K:Value->World->Prop}
  (h:copyP size base l x w fun n=>K (.int .i64 n)) (ts:List TypeId) (ty:TypeId):∃ v w',K v w'/\(Builtin.copy_ (t :: ts).toArray ty #[.slice base l cp,x]).run P w= .ok v w':=by
 obtain ⟨n,hn,new,hnew,h1,hk⟩:=h
 have hmin:Nat.min n l=min n l:=rfl
 cases base with
 | none =>
  refine ⟨_,w,hk,?_⟩
  simp only [Builtin.copy_,List.getElem?_toArray,List.getElem?_cons_zero,List.getElem?_cons_succ]
  simp [run_underlying' ht,len_sound hn,run_sizeOf' hs,hmin,read_sound hnew,goInt]
 | some a =>
  obtain ⟨w',hk',hw'⟩:=store_sound (P:=P) hk h1
  refine ⟨_,w',hk',?_⟩
  simp only [Builtin.copy_,List.getElem?_toArray,List.getElem?_cons_zero,List.getElem?_cons_succ]
  simp [run_underlying' ht,len_sound hn,run_sizeOf' hs,hmin,read_sound hnew,goInt,hw']
theorem clear_sound {t e:TypeId} (ht:P.underlying t=some (.slice e)) {z:Value} (hz:zeroOf P e=some z) {base:Option Addr} {l cp:Nat} {w:World} {K:Value->World->Prop}
  (h:clearP z.cells.toList base l w fun w'=>K (.tuple #[]) w') (ts:List TypeId) (ty:TypeId):∃ w',K (.tuple #[]) w'/\(Builtin.clear_ (t :: ts).toArray ty #[.slice base l cp]).run P w= .ok (.tuple #[]) w':=by
 cases base with
 | none =>
  refine ⟨w,h,?_⟩
  simp only [Builtin.clear_,List.getElem?_toArray,List.getElem?_cons_zero]
  simp [run_underlying' ht]
 | some a =>
  cases l with
  | zero =>
   refine ⟨w,h,?_⟩
   simp only [Builtin.clear_,List.getElem?_toArray,List.getElem?_cons_zero]
   simp [run_underlying' ht]
  | succ n =>
   obtain ⟨h1,h2⟩:=h
   obtain ⟨w',hk',hw'⟩:=store_sound (P:=P) h2 h1
   refine ⟨w',hk',?_⟩
   simp only [Builtin.clear_,List.getElem?_toArray,List.getElem?_cons_zero]
   simp [run_underlying' ht,run_zeroValue' hz,zeroCells_eq,hw']
theorem makeSlice_sound {t e:TypeId} (ht:P.underlying t=some (.slice e)) {z:Value} (hz:zeroOf P e=some z) {size bytes:Nat} (hs:sizeT P e=some size) (hby:bytesT P e=some bytes)
  {len cap:Int} {w:World} {K:Value->World->Prop} (h:makeSliceP e size bytes z.cells.toList len cap w fun a l c=>K (.slice a l c)) (k k':IntKind) :
  ∃ v w',K v w'/\(Instr.makeSlice t (.int k len) (.int k' cap)).run P w= .ok v w':=by
 obtain ⟨h0,h1,h2,h3,hzl,hk⟩:=h
 refine ⟨_,_,hk _ _ ⟨rfl,rfl⟩,?_⟩
 obtain ⟨i,hi,hib⟩: ∃ i,P.info? e=some i/\i.bytes=bytes:=by
  unfold bytesT at hby
  cases hi:P.info? e with
  | none=>simp [hi] at hby
  | some i=>simp [hi] at hby;exact ⟨i,rfl,hby⟩
 have hti:∀ w:World,(typeInfo e).run P w= .ok i w:=fun w=>by simp [typeInfo,hi]
 have wl:i64.wrap len=len:=by
  simp only [IntKind.wrap,IntKind.bits,IntKind.signed];simp;omega
 have wc:i64.wrap cap=cap:=by
  simp only [IntKind.wrap,IntKind.bits,IntKind.signed];simp;omega
 have hb1:¬ ((i.bytes:Int) * cap > 2 ^ 48):=by rw [hib];omega
 have hcond:((decide (cap<0) || decide ((i.bytes:Int) * cap > 2 ^ 48)) || decide (len<0) || decide (len > cap))=false:=by
  simp only [Bool.or_eq_false_iff,decide_eq_false_iff_not]
  exact ⟨⟨⟨by omega,hb1⟩,by omega⟩,by omega⟩
 simp only [Instr.makeSlice,Sem.run_bind,run_underlying' ht,Result.andThen_ok,asInt,asIntOf,Sem.run_pure,hti,wl,wc]
 simp only [hcond,Bool.false_eq_true,if_false,Sem.run_bind,Sem.run_ite,run_askRoom,Result.andThen_ok,run_sizeOf' hs,Sem.run_pure]
 have hsz:size=z.cells.size:=by simpa using hzl.symm
 by_cases hn0:cap.toNat * size=0
 .simp only [hn0,if_true,Result.andThen_ok,newRow,Sem.run_bind,run_newObj,Sem.run_pure]
  have:zerosL z.cells.toList cap.toNat=[]:=by
   apply List.eq_nil_of_length_eq_zero
   rw [zerosL_length];simp;rw [hsz] at hn0;simpa using hn0
  have h00:((Array.range 0).map fun _=>(default:Value))=#[]:=by simp
  simp [this]
  first | done | rw [h00]
 .simp only [hn0,if_false,run_zeroValue' hz,Result.andThen_ok,newRow,Sem.run_bind,run_newObj,Sem.run_pure]
  rw [range_map_zeros z.cells cap.toNat _ (by rw [hsz])]
  rfl
theorem enter_sound {o:Oper} {a:Act} {w:World} {next:Act->World->Prop} {Q:Exit->Act->World->Prop} {f:FuncId} {args:Array Value} {K:Value->World->Prop}
  (h:CallsR P f args w K) (hnext:∀ v w',K v w'->next (a.put o.dst v) w'):o.upon P a next Q (.ok (.enter f args) w):=by
 rw [Oper.upon_enter]
 refine Calls.mono h fun e w' he=>?_
 obtain ⟨v,rfl,hk⟩:=he
 exact hnext v w' hk
theorem callP_sound {f:FuncId} {args:List Value} {z:Option Value} {w:World} {K:Value->World->Prop} (h:callP P f args z w K):CallsR P f args.toArray w K:=by
 cases z with
 | none=>exact h
 | some z =>
  refine Calls.mono h fun e w' he=>?_
  obtain ⟨v,rfl,hk⟩:=he
  obtain ⟨u,rfl,hk⟩:=exSh_some hk
  exact ⟨_,rfl,hk⟩
theorem push_bytes (f:Value->ByteArray->Sem (ForInStep ByteArray)) (hf:∀ (x:UInt8) (s:ByteArray) (w:World),(f (.int .u8 (x.toNat:Int)) s).run P w= .ok (.yield (s.push x)) w):∀ (l:List UInt8) (s:ByteArray) (w:World),
  (forIn (l.map fun x=>Value.int .u8 (x.toNat:Int)) s f).run P w= .ok ⟨s.data ++ l.toArray⟩ w
 | [],s,w=>by simp
 | x :: l,s,w=>by
  simp only [List.map_cons,List.forIn_cons,Sem.run_bind,hf,Result.andThen_ok]
  rw [push_bytes f hf l (s.push x) w]
  congr 2
  apply Array.ext'
  simp [ByteArray.push]
theorem strOf_sound {w:World} {base:Option Addr} {len cap:Nat} {K:ByteArray->Prop} (h:strOfP w base len K):∃ s,K s/\(Conv.bytesToString (.slice base len cap)).run P w= .ok (.string s) w:=by
 unfold strOfP at h
 split at h
 .exact ⟨_,h,by simp [Conv.bytesToString]⟩
 .rename_i a
  obtain ⟨l,hl,hc,hk⟩:=h
  refine ⟨_,hk,?_⟩
  have hload:=run_loadCells_list (P:=P) w a (l.map fun x=>Value.int .u8 (x.toNat:Int)) (fun j v hj=>by simpa using cellsAt_get hc j v hj)
  rw [List.length_map,hl] at hload
  simp only [Conv.bytesToString,Sem.run_bind,hload,Result.andThen_ok]
  rw [<- Array.forIn_toList]
  rw [push_bytes _ (fun x s w=>by simp) l ByteArray.empty w]
  simp
theorem Free.fn {F:Fence} (h:Free F) (f:FuncId):F.fn f:=by
 rcases h with rfl | ⟨l,rfl⟩<;>exact trivial
theorem Free.depth {F:Fence} (h:Free F):F.depth=none:=by
 rcases h with rfl | ⟨l,rfl⟩<;>rfl
theorem Free.calls {F:Fence} (h:Free F) {n:Nat} {f:FuncId} {args:Array Value} {w:World} {R:Ending->World->Prop} (hc:Calls P f args w R):CallsIn F n P f args w R:=by
 rcases h with rfl | ⟨l,rfl⟩
 .exact callsIn_wide.2 hc
 .exact CallsIn.inRound l (callsIn_wide.2 hc)
theorem Free.rows {F:Fence} (h:Free F) {n:Nat} {row:String} {args:Array Value} {w:World} {R:Value->World->Prop} (hc:Rows P row args w R):RowsIn F n P row args w R:=by
 intro c cs _
 obtain ⟨v,w',r,s⟩:=hc c cs
 refine ⟨v,w',r,?_⟩
 rcases h with rfl | ⟨l,rfl⟩
 .exact stepsIn_wide.2 s
 .rw [fenced_inRound];exact stepsIn_wide.2 s
def noDef (o:Oper):Bool:=match o.op with
 | .defer _=>false
 | _=>true
theorem noDef_spec {o:Oper} (h:noDef o=true):∀ c,o.op≠ .defer c:=by
 intro c e
 unfold noDef at h
 rw [e] at h
 cases h
theorem opIn_of {F:Fence} (hF:Free F) {n:Nat} {o:Oper} {a:Act} {w:World} {next next':Act->World->Prop} {Q:Exit->Act->World->Prop} (hd:noDef o=true) (hn:∀ a w,next a w->next' a w) (h:o.wp P a w next Q):o.wpIn F n P a w next' Q:=by
 refine ⟨fun f _=>hF.fn f,?_⟩
 rw [Oper.semAt_plain F _ _ (noDef_spec hd)]
 unfold Oper.wp at h
 have hdep:(F.depth.isSome=true->1<=n):=fun hx=>by rw [hF.depth] at hx;cases hx
 cases hr:(execOp a.eval o).run P w with
 | ok x w' =>
  rw [hr] at h
  cases x with
  | value v=>exact hn _ _ h
  | skip=>exact hn _ _ h
  | defer d=>exact hn _ _ h
  | enter f args=>exact ⟨hdep,hF.calls (Calls.mono h fun e w'' he=>by
    cases e with
    | returned v=>exact hn _ _ he
    | panicked c=>exact he
    | outgrown=>exact he)⟩
  | row r args=>exact ⟨hdep,hF.rows (Rows.mono h fun v w'' he=>hn _ _ he)⟩
  | _=>exact h.elim
 | halt hh w' =>
  rw [hr] at h
  cases hh with
  | panic v=>exact h
  | _=>exact h.elim
def wpO (P:Program) (o:Oper) (a:Act) (w:World) (next:Act->World->Prop) (Q:Exit->Act->World->Prop):Prop :=
 noDef o=true/\∀ (F:Fence),Free F->∀ n,o.wpIn F n P a w next Q
theorem wpO.of {o:Oper} {a:Act} {w:World} {next:Act->World->Prop} {Q:Exit->Act->World->Prop} (hd:noDef o=true) (h:o.wp P a w next Q):wpO P o a w next Q :=
 ⟨hd,fun _ hF _=>opIn_of hF hd (fun _ _ h=>h) h⟩
theorem wpO.mono {o:Oper} {a:Act} {w:World} {K K':Act->World->Prop} {Q:Exit->Act->World->Prop} (h:∀ a w,K a w->K' a w) (hh:wpO P o a w K Q):wpO P o a w K' Q :=
 ⟨hh.1,fun F hF n=>Oper.wpIn_mono h (hh.2 F hF n)⟩
def Yields (o:Oper) (ε:Env):Prop:=∃ c x l fs cs,o.op= .call c/\c.callee= .value x/\ev ε x=some (.func (.yield l) fs cs)
theorem yieldP_sound {l:Nat} {args:List Value} {z:Option Value} {w:World} {K:Value->World->Prop} (h:yieldP P l args w fun v w'=>match z with
  | some z=>exSh z fun u=>v=u/\K u w'
  | none=>K v w'):yieldP P l args w K:=by
 intro F n hF
 obtain ⟨fn,tmps,assign,body,h1,h2⟩:=h F n hF
 refine ⟨fn,tmps,assign,body,h1,h2.mono fun e w' he=>?_⟩
 obtain ⟨v,rfl,hk⟩:=he
 cases z with
 | none=>exact ⟨v,rfl,hk⟩
 | some z =>
  obtain ⟨u,rfl,hk⟩:=exSh_some hk
  exact ⟨_,rfl,hk⟩
theorem eff_plain {o:Oper} {ε:Env} {a:Act} {w:World} {K:Value->World->Prop} {next:Act->World->Prop} {Q:Exit->Act->World->Prop} (hε:EnvD ds ε a)
  (hy:¬ Yields o ε) (h:effP P o ε w K) (hnext:∀ v w',K v w'->next (a.put o.dst v) w'):o.wp P a w next Q:=by
 obtain ⟨dst,op,type,pos,after,guard⟩:=o
 unfold Oper.wp
 have value:∀ {v:Value} {w':World},K v w'->(execOp a.eval ⟨dst,op,type,pos,after,guard⟩).run P w= .ok (.value v) w'->
   Oper.upon P ⟨dst,op,type,pos,after,guard⟩ a next Q ((execOp a.eval ⟨dst,op,type,pos,after,guard⟩).run P w):=by
  intro v w' hk he
  rw [he]
  exact hnext v w' hk
 cases op with
 | alloc e =>
  simp only [effP] at h
  split at h
  .rename_i z hz
   refine value (h _ _ ⟨rfl,rfl⟩) ?_
   simp [execOp,Instr.alloc,run_zeroValue' hz,newVar,newRow]
  .exact h.elim
 | box e x =>
  simp only [effP] at h
  split at h
  .rename_i v hv
   refine value (h _ _ ⟨rfl,rfl⟩) ?_
   simp [execOp,Instr.box,hε.eval hv,newVar,newRow]
  .exact h.elim
 | buildSlice t len parts =>
  simp only [effP] at h
  split at h
  .rename_i e ps ht hps
   split at h
   .rename_i z size hz hsz
    split at h
    .exact h.elim
    .rename_i h24
     split at h
     .rename_i cs hcs
      refine value (h _ _ ⟨rfl,rfl⟩) ?_
      have hparts:(parts.map fun (x:Nat×Operand)=>(x.1,a.eval x.2))=ps.toArray:=by apply Array.ext';simp [evParts_sound hε hps]
      have hzs:=zeroOf_size hz
      rw [hsz] at hzs
      cases hzs
      have hfill:=fill_sound (place':=fun i=>some (i * z.cells.size,z.cells.size)) (fun i=>rfl) hcs
      simp only [execOp]
      rw [show (parts.map fun (i,x)=>(i,a.eval x))=ps.toArray from hparts]
      have h24':¬ len * z.cells.size > 2 ^ 24:=h24
      by_cases hn0:len * z.cells.size=0
      .have hnil:zerosL z.cells.toList len=[]:=by
        apply List.eq_nil_of_length_eq_zero
        rw [zerosL_length];simpa using hn0
       rw [hnil] at hfill
       simp only [Instr.buildSlice,Sem.run_bind,run_underlying' ht,Result.andThen_ok,run_sizeOf' hsz,Sem.run_ite,h24',if_false,hn0,if_true,Sem.run_pure]
       have:((Array.range 0).map fun x=>(#[]:Array Value)[x % (#[]:Array Value).size]!)=#[]:=by simp
       simp only [this]
       simp only [List.toArray] at hfill
       simp [hfill,newRow]
      .simp only [Instr.buildSlice,Sem.run_bind,run_underlying' ht,Result.andThen_ok,run_sizeOf' hsz,Sem.run_ite,h24',if_false,hn0,run_zeroValue' hz,Sem.run_pure]
       simp only [range_map_zeros z.cells len _ rfl]
       simp [hfill,newRow]
     .exact h.elim
   .exact h.elim
  .exact h.elim
 | store t p x =>
  simp only [effP] at h
  split at h
  .rename_i b v n hb hv hn
   split at h
   .rename_i hc
    obtain ⟨hl,h1⟩:=hc
    obtain ⟨w',hk,hw⟩:=store_sound (P:=P) h (fun u hu=>List.all_eq_true.1 h1 u hu)
    have hl':v.cells.size=n:=by simpa using hl
    have:(execOp a.eval ⟨dst,.store t p x,type,pos,after,guard⟩).run P w= .ok .skip w':=by
     simp [execOp,Instr.storeAt,Instr.sureAddr,hε.eval hb,hε.eval hv,storeVar,run_sizeOf' hn,hl',hw]
    rw [this]
    exact hnext _ _ hk
   .exact h.elim
  .exact h.elim
 | makeSlice t l c =>
  simp only [effP] at h
  split at h
  .rename_i e k len k' cap ht hl hc
   split at h
   .rename_i z size bytes hz hs hby
    obtain ⟨v,w',hk,hw⟩:=makeSlice_sound ht hz hs hby h k k'
    refine value hk ?_
    simp [execOp,hε.eval hl,hε.eval hc,hw]
   .exact h.elim
  .exact h.elim
 | call c =>
  simp only [effP] at h
  split at h
  .rename_i f args hcal hargs
   have hA:=evs_array hε hargs
   split at h
   .rename_i hb
    have:(execOp a.eval ⟨dst,.call c,type,pos,after,guard⟩).run P w= .ok (.enter f args.toArray) w:=by
     simp [execOp,resolve,hcal,hA,Act.eval,Deferred.ofValue,invoke,run_callFunc hb]
    rw [this]
    exact enter_sound (callP_sound h) hnext
   .split at h
    .obtain ⟨v,hx,hk⟩:=exSh_some h
     refine value hk ?_
     have hx':(callFunc f args.toArray).run P w= .ok (.value v) w:=hx
     simp [execOp,resolve,hcal,hA,Act.eval,Deferred.ofValue,invoke,hx']
    .exact h.elim
  .rename_i x args _ hcal hargs
   have hA:=evs_array hε hargs
   split at h
   .rename_i v hv
    unfold callV at h
    split at h
    .rename_i f first captured
     obtain ⟨hb,h⟩:=h
     have:(execOp a.eval ⟨dst,.call c,type,pos,after,guard⟩).run P w= .ok (.enter f (first.toList ++ args ++ captured.toList).toArray) w:=by
      simp [execOp,resolve,hcal,hA,hε.eval hv,Deferred.ofValue,invoke,run_callFunc hb]
     rw [this]
     exact enter_sound (callP_sound h) hnext
    .exact absurd ⟨_,_,_,_,_,rfl,hcal,hv⟩ hy
    .exact h.elim
   .exact h.elim
  .rename_i base l cp x hcal hargs
   have hA:=evs_array hε hargs
   split at h
   .rename_i t u hty
    have hT:c.argTypes=#[t,u]:=by apply Array.ext';simpa using hty
    split at h
    .rename_i e d ht hu
     split at h
     .rename_i z size bytes _ hz hs hby
      obtain ⟨v,w',hk,hw⟩:=append_sound ht hu (fun k=>by simp) hz hs hby h type
      refine value hk ?_
      simp only [execOp,resolve,hcal,hA,hT,invoke,builtin]
      simp [hw]
     .rename_i z size bytes hz hs hby
      obtain ⟨v,w',hk,hw⟩:=append_sound ht hu (fun k=>by simp) hz hs hby h type
      refine value hk ?_
      simp only [execOp,resolve,hcal,hA,hT,invoke,builtin]
      simp [hw]
     .rename_i z size bytes ki hz hs hby
      split at h
      .rename_i kx m
       obtain ⟨v,w',hk,hw⟩:=appendZ_sound (kx:=kx) ht hu hz hs hby h type
       refine value hk ?_
       simp only [execOp,resolve,hcal,hA,hT,invoke,builtin]
       simp [hw]
      .exact h.elim
     .exact h.elim
    .exact h.elim
   .exact h.elim
  .rename_i base l cp x hcal hargs
   have hA:=evs_array hε hargs
   split at h
   .rename_i t ts hty
    have hT:c.argTypes=(t :: ts).toArray:=by apply Array.ext';simpa using hty
    split at h
    .rename_i e ht
     split at h
     .rename_i size hs
      obtain ⟨v,w',hk,hw⟩:=copy_sound (cp:=cp) ht hs h ts type
      refine value hk ?_
      simp only [execOp,resolve,hcal,hA,hT,invoke,builtin]
      simp [hw]
     .exact h.elim
    .exact h.elim
   .exact h.elim
  .rename_i base l cp hcal hargs
   have hA:=evs_array hε hargs
   split at h
   .rename_i t ts hty
    have hT:c.argTypes=(t :: ts).toArray:=by apply Array.ext';simpa using hty
    split at h
    .rename_i e ht
     split at h
     .rename_i z hz
      obtain ⟨w',hk,hw⟩:=clear_sound (cp:=cp) ht hz h ts type
      refine value hk ?_
      simp only [execOp,resolve,hcal,hA,hT,invoke,builtin]
      simp [hw]
     .exact h.elim
    .exact h.elim
   .exact h.elim
  .exact h.elim
 | makeMap t r =>
  cases r with
  | none =>
   simp only [effP] at h
   refine value (h _ _ ⟨rfl,rfl⟩) ?_
   simp [execOp,Instr.makeMap]
  | some r=>simp only [effP] at h
 | lookup t x k c =>
  simp only [effP] at h
  split at h
  .rename_i kt e m kv ht hx hk
   split at h
   .rename_i z hz
    obtain ⟨u,ok,hg,hK⟩:=exCp_some h
    have hrun:(Instr.lookup t (.map m) kv c).run P w= .ok (if c then .tuple #[u,.bool ok] else u) w:=by
     cases m with
     | none =>
      obtain ⟨rfl,rfl,hf⟩:=hg
      obtain ⟨h1,h2⟩:=hf w
      simp [Instr.lookup,run_underlying' ht,h1,h2,run_zeroValue' hz,Result.andThen]
     | some r =>
      obtain ⟨es,clock,res,hb,hf,hr⟩:=hg
      obtain ⟨h1,h2⟩:=hf w
      cases res with
      | none =>
       obtain ⟨rfl,rfl⟩:=hr
       simp [Instr.lookup,run_underlying' ht,MapKept.run_getObj_map hb,h1,h2,run_zeroValue' hz,Result.andThen]
      | some iv =>
       obtain ⟨rfl,rfl⟩:=hr
       simp [Instr.lookup,run_underlying' ht,MapKept.run_getObj_map hb,h1,h2,Result.andThen]
    cases c with
    | true =>
     refine value hK ?_
     simp [execOp,hε.eval hx,hε.eval hk,hrun]
    | false =>
     refine value hK ?_
     simp [execOp,hε.eval hx,hε.eval hk,hrun]
   .exact h.elim
  .exact h.elim
 | mapUpdate t x k v =>
  simp only [effP] at h
  split at h
  .rename_i kt e m kv vv ht hx hk hv
   cases m with
   | none=>exact h.elim
   | some r =>
    obtain ⟨es,clock,res,hb,hf,hr⟩:=h
    obtain ⟨h1,h2⟩:=hf w
    cases res with
    | none =>
     have:(execOp a.eval ⟨dst,.mapUpdate t x k v,type,pos,after,guard⟩).run P w= .ok .skip (putBlk w r (.map (es.push { key:=kv,val:=vv,born:=clock }) (clock+1))):=by
      simp [execOp,hε.eval hx,hε.eval hk,hε.eval hv,Instr.mapUpdate,run_underlying' ht,MapKept.run_getObj_map hb,h1,h2,MapKept.run_setObj_map _ hb,Result.andThen,putBlk]
     rw [this]
     exact hnext _ _ hr
    | some iv =>
     obtain ⟨hs,hr⟩:=hr
     have hs':=hs w
     have:(execOp a.eval ⟨dst,.mapUpdate t x k v,type,pos,after,guard⟩).run P w= .ok .skip (putBlk w r (.map (es.modify iv.1 fun e=>{ e with key:=kv,val:=vv }) clock)):=by
      simp [execOp,hε.eval hx,hε.eval hk,hε.eval hv,Instr.mapUpdate,run_underlying' ht,MapKept.run_getObj_map hb,h1,h2,hs',MapKept.run_setObj_map _ hb,Result.andThen,putBlk]
     rw [this]
     exact hnext _ _ hr
  .exact h.elim
 | convert src dst x =>
  simp only [effP] at h
  split at h
  .rename_i e base len cap hs hd hx
   split at h
   .rename_i he
    obtain ⟨s,hk,hr⟩:=strOf_sound (P:=P) (cap:=cap) h
    refine value hk ?_
    simp only [execOp,hε.eval hx]
    simp [convert,run_underlying' hs,run_underlying' hd,run_underlying' he,hr]
   .exact h.elim
  .rename_i e s hs hd hx
   split at h
   .rename_i he
    have hle:s.size<=grownCap w s.size 0 e:=by simp [grownCap,Question.cut]
    refine value (h _ _ _ hle ⟨rfl,rfl⟩) ?_
    have hrun:=run_bytes_of_string w src dst e s hs hd he
    have hcells:bytesRow s (grownCap w s.size 0 e)=(s.data.toList.map (fun x:UInt8=>Value.int .u8 (x.toNat:Int)) ++ List.replicate (grownCap w s.size 0 e - s.size) (Value.int .u8 0)).toArray:=by
     apply Array.ext'
     simp [bytesRow]
    have hcs:(bytesRow s (grownCap w s.size 0 e)).size=grownCap w s.size 0 e:=by
     rw [hcells]
     have:s.data.size=s.size:=rfl
     simp
     omega
    rw [hcs,hcells] at hrun
    simp only [execOp,hε.eval hx,Sem.run_bind,hrun,Result.andThen_ok,Sem.run_pure]
    rfl
   .exact h.elim
  .exact h.elim
 | _=>simp only [effP] at h
theorem eff_noDef {o:Oper} {ε:Env} {w:World} {K:Value->World->Prop} (h:effP P o ε w K):noDef o=true:=by
 unfold noDef
 unfold effP at h
 cases ho:o.op<;>rw [ho] at h<;>first | rfl | exact h.elim | (exfalso;revert h;simp)
theorem eff_sound {o:Oper} {ε:Env} {a:Act} {w:World} {K:Value->World->Prop} {next:Act->World->Prop} {Q:Exit->Act->World->Prop} (hε:EnvD ds ε a)
  (h:effP P o ε w K) (hnext:∀ v w',K v w'->next (a.put o.dst v) w'):wpO P o a w next Q:=by
 by_cases hy:Yields o ε
 .obtain ⟨c,x,l,fs,cs,ho,hcal,hv⟩:=hy
  have hnd:=eff_noDef h
  refine ⟨hnd,fun F hF n=>⟨fun f _=>hF.fn f,?_⟩⟩
  rw [Oper.semAt_plain F _ _ (noDef_spec hnd)]
  obtain ⟨dst,op,type,pos,after,guard⟩:=o
  cases ho
  simp only [effP] at h
  split at h
  .rename_i f args hcal' hargs
   rw [hcal] at hcal'
   cases hcal'
   cases hv
  .rename_i x' args _ hcal' hargs
   rw [hcal] at hcal'
   cases hcal'
   rw [hv] at h
   have hA:=evs_array hε hargs
   obtain ⟨h1,h2,h⟩:=h
   obtain ⟨fn,tmps,assign,body,hr,hR⟩:=yieldP_sound h F (n - 1) hF
   have e1:fs=#[]:=Array.toList_eq_nil_iff.1 h1
   have:(execOp a.eval ⟨dst,.call c,type,pos,after,guard⟩).run P w= .ok (.round l fn tmps assign body) w:=by
    simp [execOp,resolve,hcal,hA,hε.eval hv,Deferred.ofValue,invoke,e1,hr]
   rw [this]
   refine ⟨(fun hx=>by rw [hF.depth] at hx;cases hx),hR.mono fun e w' he=>?_⟩
   obtain ⟨v,rfl,hk⟩:=he
   exact hnext v w' hk
  all_goals first | (rename_i hcal' _;rw [hcal] at hcal';cases hcal') | exact h.elim
 .exact wpO.of (eff_noDef h) (eff_plain hε hy h hnext)
theorem callPE_sound {f:FuncId} {args:List Value} {z:Option Value} {w:World} {K X:Value->World->Prop} (h:callPE P f args z w K X):CallsE P f args.toArray w K X:=by
 cases z with
 | none=>exact h
 | some z =>
  refine Calls.mono h fun e w' he=>?_
  rcases he with ⟨v,rfl,hk⟩| he
  .obtain ⟨u,rfl,hk⟩:=exSh_some hk
   exact .inl ⟨_,rfl,hk⟩
  .exact .inr he
theorem enterE_sound {o:Oper} {a:Act} {w:World} {next:Act->World->Prop} {Q:Exit->Act->World->Prop} {f:FuncId} {args:Array Value} {K X:Value->World->Prop}
  (h:CallsE P f args w K X) (hnext:∀ v w',K v w'->next (a.put o.dst v) w') (hX:∀ pv w',X pv w'->Q (.panic [{ v:=pv,recovered:=false }]) a w'):o.upon P a next Q (.ok (.enter f args) w):=by
 rw [Oper.upon_enter]
 refine Calls.mono h fun e w' he=>?_
 rcases he with ⟨v,rfl,hk⟩| ⟨pv,rfl,hx⟩
 .exact hnext v w' hk
 .exact hX pv w' hx
theorem effE_sound {o:Oper} {ε:Env} {a:Act} {w:World} {K X:Value->World->Prop} {next:Act->World->Prop} {Q:Exit->Act->World->Prop} (hε:EnvD ds ε a)
  (h:effE P o ε w X K) (hnext:∀ v w',K v w'->next (a.put o.dst v) w') (hX:∀ pv w',X pv w'->Q (.panic [{ v:=pv,recovered:=false }]) a w'):wpO P o a w next Q:=by
 unfold effE at h
 split at h
 .rename_i x hop
  split at h
  .rename_i t v hv
   refine wpO.of (by unfold noDef;rw [hop]) ?_
   obtain ⟨dst,op,type,pos,after,guard⟩:=o
   cases hop
   unfold Oper.wp
   have:(execOp a.eval ⟨dst,.panic x,type,pos,after,guard⟩).run P w= .halt (.panic (.iface t v)) w:=by
    simp [execOp,hε.eval hv,Instr.panic,goPanic]
   rw [this]
   exact hX _ _ h
  .exact h.elim
 .rename_i c hop
  split at h
  .rename_i f args hcal hargs
   split at h
   .rename_i hb
    refine wpO.of (by unfold noDef;rw [hop]) ?_
    obtain ⟨dst,op,type,pos,after,guard⟩:=o
    cases hop
    have hA:=evs_array hε hargs
    have:(execOp a.eval ⟨dst,.call c,type,pos,after,guard⟩).run P w= .ok (.enter f args.toArray) w:=by
     simp [execOp,resolve,hcal,hA,Act.eval,Deferred.ofValue,invoke,run_callFunc hb]
    unfold Oper.wp
    rw [this]
    exact enterE_sound (callPE_sound h) hnext hX
   .exact eff_sound hε h hnext
  .rename_i x args _ hcal hargs
   split at h
   .rename_i v hv
    unfold callVE at h
    split at h
    .rename_i f first captured
     obtain ⟨hb,h⟩:=h
     refine wpO.of (by unfold noDef;rw [hop]) ?_
     obtain ⟨dst,op,type,pos,after,guard⟩:=o
     cases hop
     have hA:=evs_array hε hargs
     have:(execOp a.eval ⟨dst,.call c,type,pos,after,guard⟩).run P w= .ok (.enter f (first.toList ++ args ++ captured.toList).toArray) w:=by
      simp [execOp,resolve,hcal,hA,hε.eval hv,Deferred.ofValue,invoke,run_callFunc hb]
     unfold Oper.wp
     rw [this]
     exact enterE_sound (callPE_sound h) hnext hX
    .exact h.elim
   .exact h.elim
  .exact eff_sound hε h hnext
 .exact eff_sound hε h hnext
theorem effX_sound {X:PanicK} {o:Oper} {ε:Env} {a:Act} {w:World} {K:Value->World->Prop} {next:Act->World->Prop} {Q:Exit->Act->World->Prop} (hε:EnvD ds ε a)
  (h:effX P X o ε w K) (hnext:∀ v w',K v w'->next (a.put o.dst v) w') (hX:∀ Y,X=some Y->∀ pv w',Y pv w'->Q (.panic [{ v:=pv,recovered:=false }]) a w'):wpO P o a w next Q:=by
 cases X with
 | none=>exact eff_sound hε h hnext
 | some X=>exact effE_sound hε h hnext (hX X rfl)
end
def putE (n:Nat) (dst:Option Tmp) (v:Value) (ε:Env) (K:Env->Prop):Prop :=
 match dst with
 | none=>K ε
 | some d=>if d<n then K ((d,v) :: ε) else False
def slotOf (ops:List Oper) (j:Nat):Option Tmp :=
 match ops[j]? with
 | some o=>o.dst
 | none=>none
def guardP (ops:List Oper) (o:Oper) (ε:Env) (K:Bool->Env->Prop):Prop :=
 match o.guard with
 | none=>K true ε
 | some (j,want)=>match slotOf ops j with
  | none=>K false ε
  | some d=>match ε.get d with
   | some (.bool b)=>match b with
    | true=>K want ((d,.bool true) :: ε)
    | false=>K (!want) ((d,.bool false) :: ε)
   | some _=>K false ε
   | none=>False
def opP (P:Program) (n:Nat) (X:PanicK) (o:Oper) (ε:Env) (w:World) (K:Env->World->Prop):Prop :=
 if isQuiet P o.op then quietP P (fun φ=>φ w) o.op ε fun v=>putE n o.dst v ε fun ε'=>K ε' w
 else effX P X o ε w fun v w'=>putE n o.dst v ε fun ε'=>K ε' w'
def opsP (P:Program) (n:Nat) (X:PanicK) (ops:List Oper):List Nat->Env->World->(Env->World->Prop)->Prop
 | [],ε,w,K=>K ε w
 | i :: rest,ε,w,K=>match ops[i]? with
  | none=>False
  | some o=>guardP ops o ε fun run ε=>match run with
   | true=>opP P n X o ε w fun ε' w'=>opsP P n X ops rest ε' w' K
   | false=>putE n o.dst undef ε fun ε'=>opsP P n X ops rest ε' w K
def readyL (ops:List Oper) (ex:List Nat):List Nat :=
 (List.range ops.length).filter fun i=> !ex.contains i && (match ops[i]? with
  | some o=>o.after.toList.all fun e=> !Region.binds .any e || ex.contains e.on
  | none=>false)
def opdsL:Op->List Operand
 | .alloc _=>[]
 | .ready _=>[]
 | .waits _=>[]
 | .move x=>[x]
 | .assign x=>[x]
 | .box _ x=>[x]
 | .load _ x=>[x]
 | .nilCheck x=>[x]
 | .unOp _ _ x=>[x]
 | .convert _ _ x=>[x]
 | .sliceToArrayPointer _ x=>[x]
 | .makeInterface _ x=>[x]
 | .makeChan _ x=>[x]
 | .fieldAddr _ x _=>[x]
 | .field _ x _=>[x]
 | .range _ x=>[x]
 | .next x _=>[x]
 | .entry x=>[x]
 | .typeAssert x _ _ _=>[x]
 | .extract x _=>[x]
 | .panic x=>[x]
 | .recv _ x _=>[x]
 | .pick c a b=>[c,a,b]
 | .build _ ps=>ps.toList.map (·.2)
 | .buildSlice _ _ ps=>ps.toList.map (·.2)
 | .store _ a v=>[a,v]
 | .binOp _ _ a v _=>[a,v]
 | .makeSlice _ a v=>[a,v]
 | .indexAddr _ a v=>[a,v]
 | .index _ a v=>[a,v]
 | .lookup _ a v _=>[a,v]
 | .mapEntry _ a v=>[a,v]
 | .send a v=>[a,v]
 | .makeFunc _ first captured=>first.toList ++ captured.toList
 | .makeMap _ r=>r.toList
 | .slice _ x l h m=>[x] ++ l.toList ++ h.toList ++ m.toList
 | .mapUpdate _ m k v=>[m,k,v]
 | .entryStore _ m k v=>[m,k,v]
 | .insert _ m k v=>[m,k,v]
 | .call c=>callL c
 | .go c=>callL c
 | .defer c=>callL c
 | .select _ _=>[]
 where callL (c:Call):List Operand:=(match c.callee with | .value f=>[f] | .invoke r _=>[r] | .builtin _=>[]) ++ c.args.toList
def looksL (ops:List Oper) (o:Oper):List Tmp :=
 ((opdsL o.op).filterMap fun | .tmp t=>some t | _=>none) ++
 (match o.guard with
  | some (g,_)=>(slotOf ops g).toList
  | none=>[])
def apartL (ops:List Oper) (x y:Oper):Bool :=
 (match x.dst with
  | some d=> !(looksL ops y).contains d && y.dst != some d
  | none=>true) &&
 (match y.dst with
  | some d=> !(looksL ops x).contains d
  | none=>true)
def freeL (ops:List Oper) (ex:List Nat) (i:Nat):Bool :=
 match ops[i]? with
 | none=>false
 | some oi=>(List.range ops.length).all fun j=>j == i || ex.contains j || match ops[j]? with
   | some oj=>(oj.after.toList.any fun e=>Region.binds .any e && e.on == i) || apartL ops oi oj
   | none=>true
def noSelL (ops:List Oper):Bool:=ops.all fun o=>match o.op with | .select ..=>false | _=>true
def pickQ (P:Program) (ops:List Oper) (ex:List Nat):List Nat->Option Nat
 | []=>none
 | i :: is=>match ops[i]? with
  | some o=>if isQuiet P o.op && freeL ops ex i then some i else pickQ P ops ex is
  | none=>pickQ P ops ex is
def allL (K:Nat->Prop):List Nat->Prop
 | []=>True
 | [i]=>K i
 | i :: j :: r=>K i/\allL K (j :: r)
def isLoad:Op->Bool
 | .load ..=>true
 | _=>false
def needA (ops:List Oper) (i:Nat):Bool :=
 (List.range ops.length).any fun j=>j != i && (match ops[j]? with
  | some o=>isLoad o.op && (match ops[i]? with
   | some oi=> !(oi.after.toList.any fun e=>Region.binds .any e && e.on == j)
   | none=>false)
  | none=>false)
def condS (b:Bool) (X Y:Prop):Prop :=
 match b with
 | true=>X/\Y
 | false=>Y
def drawC (S:World->Prop) (o:Op):(World->Prop)->Prop:=if isLoad o then fun φ=>∀ u,S u->φ u else fun φ=>∀ u,φ u
def drawP (P:Program) (n:Nat) (X:PanicK) (ops:List Oper) (S:World->Prop):Nat->List Nat->Env->World->(Env->World->Prop)->Prop
 | 0,ex,ε,w,K=>match readyL ops ex with
  | []=>K ε w
  | _=>False
 | fuel+1,ex,ε,w,K=>match readyL ops ex with
  | []=>K ε w
  | r :: rs=>match pickQ P ops ex (r :: rs) with
   | some i=>match ops[i]? with
    | none=>False
    | some o=>guardP ops o ε fun run ε=>match run with
     | true=>quietP P (drawC S o.op) o.op ε fun v=>putE n o.dst v ε fun ε'=>drawP P n X ops S fuel (i :: ex) ε' w K
     | false=>putE n o.dst undef ε fun ε'=>drawP P n X ops S fuel (i :: ex) ε' w K
   | none=>allL (fun i=>match ops[i]? with
    | none=>False
    | some o=>guardP ops o ε fun run ε=>match run with
     | true=>opP P n X o ε w fun ε' w'=>condS (needA ops i) (S w') (drawP P n X ops S fuel (i :: ex) ε' w' K)
     | false=>putE n o.dst undef ε fun ε'=>condS (needA ops i) (S w) (drawP P n X ops S fuel (i :: ex) ε' w K)) (r :: rs)
def firstReg:Code->Option Nat
 | .region i _ _=>some i
 | .seq a b=>match firstReg a with | some i=>some i | none=>firstReg b
 | .cond _ a b=>match firstReg a with | some i=>some i | none=>firstReg b
 | .block _ a=>firstReg a
 | .loop a=>firstReg a
 | .scope a=>firstReg a
 | _=>none
def wrs:Code->List Nat
 | .region _ ops _=>ops.toList.filterMap (·.dst)
 | .seq a b=>wrs a ++ wrs b
 | .cond _ a b=>wrs a ++ wrs b
 | .block _ a=>wrs a
 | .loop a=>wrs a
 | .scope a=>wrs a
 | _=>[]
abbrev Marks:=List (Nat×List Nat×List Nat×List Value)
def markOf:Marks->Option Nat->Option (List Nat×List Nat×List Value)
 | [],_=>none
 | _,none=>none
 |(k,r) :: ms,some i=>if k=i then some r else markOf ms (some i)
def okMark (keep ts:List Nat) (ws:List Nat):Bool:=(keep.all fun t=> !ws.contains t) && nodupL ts
 where nodupL:List Nat->Bool
 | []=>true
 | t :: r=> !r.contains t && nodupL r
def den (P:Program) (n:Nat) (X:PanicK) (cuts loops:Marks):Code->(Exit->Env->World->Prop)->Env->World->Prop
 | .skip,Q,ε,w=>Q .normal ε w
 | .region _ ops d,Q,ε,w=>match d with
  | false=>opsP P n X ops.toList (List.range ops.toList.length) ε w fun ε' w'=>Q .normal ε' w'
  | true=>if noSelL ops.toList then ∀ u,Drew w u->∃ S:World->Prop,S u/\drawP P n X ops.toList S ops.toList.length [] ε u fun ε' w'=>Q .normal ε' w' else False
 | .seq a b,Q,ε,w=>match markOf cuts (firstReg b) with
  | none=>den P n X cuts loops a (fun e ε' w'=>match e with | .normal=>den P n X cuts loops b Q ε' w' | e=>Q e ε' w') ε w
  | some (keep,ts,zs)=>if okMark keep ts (wrs a) then
    ∃ J:tyCps (World->Prop) zs,den P n X cuts loops a (fun e ε' w'=>match e with
     | .normal=>(match getL ε' ts with
      | some vs=>holdsAt (appCps zs J vs) w'
      | none=>False)
     | e=>Q e ε' w') ε w/\
    allCps zs fun vs=>∀ w',holdsAt (appCps zs J vs) w'->den P n X cuts loops b Q (Env.laid ts vs (Env.keep ε keep)) w'
   else False
 | .cond c a b,Q,ε,w=>match ev ε c with
  | some (.bool t)=>match t with
   | true=>den P n X cuts loops a Q ε w
   | false=>den P n X cuts loops b Q ε w
  | _=>False
 | .block id a,Q,ε,w=>den P n X cuts loops a (fun e ε' w'=>match e with
  | .exit id'=>if id'=id then Q .normal ε' w' else Q (.exit id') ε' w'
  | e=>Q e ε' w') ε w
 | .loop a,Q,ε,w=>match markOf loops (firstReg a) with
  | none=>False
  | some (keep,ts,zs)=>if okMark keep ts (wrs a) then match getL ε ts with
    | none=>False
    | some vs0=>∃ J:tyCps (World->Prop) zs,∃ μ:tyCps (World->Nat) zs,holdsAt (appCps zs J vs0) w/\
     allCps zs fun vs=>∀ w',holdsAt (appCps zs J vs) w'->den P n X cuts loops a (fun e ε' w''=>match e with
      | .normal=>(match getL ε' ts with
       | some us=>holdsAt (appCps zs J us) w''/\natAt (appCps zs μ us) w'' < natAt (appCps zs μ vs) w'
       | none=>False)
      | e=>Q e ε' w'') (Env.laid ts vs (Env.keep ε keep)) w'
   else False
 | .scope a,Q,ε,w=>den P n X cuts loops a Q ε w
 | .exit id,Q,ε,w=>Q (.exit id) ε w
 | .ret,Q,ε,w=>Q .ret ε w
 | .label _,Q,ε,w=>Q .normal ε w
 | .goto _,_,_,_=>False
 | _,_,_,_=>False
def resP (P:Program) (ε:Env) (w:World):List ResultVar->(List Value->Prop)->Prop
 | [],K=>K []
 | .tmp t :: r,K=>match ε.get t with
  | some v=>resP P ε w r fun vs=>K (v :: vs)
  | none=>False
 | .cell t ty :: r,K=>match ε.get t with
  | some (.pointer (some a))=>loadP P ty a (fun φ=>φ w) fun v=>resP P ε w r fun vs=>K (v :: vs)
  | _=>False
def retOf:List Value->Value
 | [v]=>v
 | vs=>.tuple vs.toArray
def retQ (P:Program) (rs:List ResultVar) (R:Value->World->Prop):Exit->Env->World->Prop
 | .normal,ε,w=>resP P ε w rs fun vs=>R (retOf vs) w
 | .ret,ε,w=>resP P ε w rs fun vs=>R (retOf vs) w
 | _,_,_=>False
def argEnv:Nat->List Value->Env
 | _,[]=>[]
 | i,v :: vs=>(i,v) :: argEnv (i+1) vs
def hasR:Code->Bool
 | .rangeFunc _ _ _ _=>true
 | .seq a b=>hasR a || hasR b
 | .block _ a=>hasR a
 | _=>false
def rangeP (P:Program) (v:Value) (w:World) (round:Nat->Loop->List Value->World->(Value->World->Prop)->Prop) (K:Nat->World->Prop):Prop :=
 match v with
 | .func (.func gf) first cap=>first.toList=[]/\hasBody P gf=true/\∀ (D l:Nat) (r:Loop) (w1 w2:World),New w (.deferred (some [])) D w1->New w1 (.loop r) l w2->
  (∀ args W R,W.heap[l]?=some (.loop r)->round l r args W R->yieldP P l args W R)->
  CallsR P gf (.func (.yield l) #[] #[] :: cap.toList).toArray w2 fun _ w3=>w3.heap[l]?=some (.loop r)/\∀ o,K D (w3.putObj l o)
 | _=>False
def busyP (l:Nat) (r:Loop) (w:World) (K:World->Prop):Prop:=w.heap[l]?=some (.loop r)/\K (w.putObj l (.loop { r with state:=.busy }))
def readyP (l:Nat) (r:Loop) (w:World) (R:Value->World->Prop):Prop:=w.heap[l]?=some (.loop { r with state:=.busy })/\R (.bool true) (w.putObj l (.loop r))
def okRange (n:Nat) (keep ts ps:List Nat) (zs:Nat):Bool:=decide (ts=ps) && decide (zs=ts.length) && okMark keep ts ts && ts.all fun t=>decide (t<n)
def denD (P:Program) (n:Nat) (cuts loops:Marks):Code->(Exit->List Nat->Env->World->Prop)->List Nat->Env->World->Prop
 | .rangeFunc g ps ag bd,Q,Ds,ε,w=>match Ds with
  | []=>match ev ε g with
   | some v=>match markOf loops (firstReg (.seq ag bd)) with
     | some (keep,ts,zs)=>match okRange n keep ts ps.toList zs.length with
      | true=>rangeP P v w (fun l r args W R=>exCps zs fun vs=>args=vs/\den P n none cuts loops ag (fun e ε1 Wa=>match e with
        | .normal=>busyP l r Wa fun Wb=>den P n none cuts loops bd (fun e _ U=>match e with
         | .normal=>readyP l r U R
         | _=>False) ε1 Wb
        | _=>False) (Env.laid ts vs (Env.keep ε keep)) W) fun D w'=>Q .normal [D] ε w'
      | false=>False
     | none=>False
   | none=>False
  | _=>False
 | .seq a b,Q,Ds,ε,w=>match hasR a || hasR b with
  | true=>denD P n cuts loops a (fun e Ds' ε' w'=>match e with
   | .normal=>denD P n cuts loops b Q Ds' ε' w'
   | e=>Q e Ds' ε' w') Ds ε w
  | false=>den P n none cuts loops (.seq a b) (fun e ε' w'=>Q e Ds ε' w') ε w
 | .block id a,Q,Ds,ε,w=>match hasR a with
  | true=>denD P n cuts loops a (fun e Ds' ε' w'=>match e with
   | .exit id'=>if id'=id then Q .normal Ds' ε' w' else Q (.exit id') Ds' ε' w'
   | e=>Q e Ds' ε' w') Ds ε w
  | false=>den P n none cuts loops (.block id a) (fun e ε' w'=>Q e Ds ε' w') ε w
 | c,Q,Ds,ε,w=>den P n none cuts loops c (fun e ε' w'=>Q e Ds ε' w') ε w
def retQD (P:Program) (rs:List ResultVar) (R:Value->World->Prop):Exit->List Nat->Env->World->Prop
 | e,[],ε,w=>retQ P rs R e ε w
 | .normal,[D],ε,w=>w.heap[D]?=some (.deferred (some []))/\resP P ε (w.putObj D (.deferred none)) rs fun vs=>R (retOf vs) (w.putObj D (.deferred none))
 | .ret,[D],ε,w=>w.heap[D]?=some (.deferred (some []))/\resP P ε (w.putObj D (.deferred none)) rs fun vs=>R (retOf vs) (w.putObj D (.deferred none))
 | _,_,_,_=>False
def bodyOf (P:Program) (fn:Func) (cuts loops:Marks) (args:List Value) (w:World) (R:Value->World->Prop):Prop :=
 match fn.body with
 | some c=>if args.length<=fn.ntmps then (match hasR c with
  | true=>denD P fn.ntmps cuts loops c (retQD P fn.results.toList R) [] (argEnv 0 args) w
  | false=>den P fn.ntmps none cuts loops c (retQ P fn.results.toList R) (argEnv 0 args) w) else False
 | none=>False
section
variable {P:Program} {ds:List Deferred}
def SameBut (ts:List Nat) (a a':Act):Prop:=∀ t,t ∉ ts->a'.tmps[t]?=a.tmps[t]?
theorem SameBut.refl (ts:List Nat) (a:Act):SameBut ts a a:=fun _ _=>rfl
theorem SameBut.trans {ts:List Nat} {a b c:Act} (h:SameBut ts a b) (k:SameBut ts b c):SameBut ts a c:=fun t ht=>(k t ht).trans (h t ht)
theorem SameBut.mono {ts us:List Nat} {a b:Act} (h:SameBut ts a b) (hs:∀ t,t∈ts->t∈us):SameBut us a b:=fun t ht=>h t fun hm=>ht (hs t hm)
theorem SameBut.put {ts:List Nat} (a:Act) (d:Option Tmp) (v:Value) (hd:∀ t,d=some t->t∈ts):SameBut ts a (a.put d v):=by
 intro t ht
 cases d with
 | none=>rfl
 | some d =>
  have:d≠t:=fun e=>ht (hd t (by rw [e]))
  simp [Act.put,Array.getElem?_setIfInBounds_ne this]
theorem size_put (a:Act) (d:Option Tmp) (v:Value):(a.put d v).tmps.size=a.tmps.size:=by cases d<;>simp [Act.put]
theorem putE_sound {n:Nat} {dst:Option Tmp} {v:Value} {ε:Env} {K:Env->Prop} {a:Act} (hε:EnvD ds ε a) (hn:a.tmps.size=n) (h:putE n dst v ε K):∃ ε',EnvD ds ε' (a.put dst v)/\K ε':=by
 unfold putE at h
 cases dst with
 | none=>exact ⟨ε,hε,h⟩
 | some d =>
  simp only at h
  by_cases hd:d<n
  .have hd':d<a.tmps.size:=Nat.lt_of_lt_of_eq hd hn.symm
   rw [if_pos hd] at h
   exact ⟨_,hε.put hd' v,h⟩
  .rw [if_neg hd] at h;exact h.elim
theorem guard_sound {ops:Array Oper} {o:Oper} {ε:Env} {K:Bool->Env->Prop} {a:Act} (hε:EnvD ds ε a) (h:guardP ops.toList o ε K) :
  ∃ run ε',Region.wanted o (yielded ops a.tmps)=run/\EnvD ds ε' a/\K run ε':=by
 unfold guardP at h
 unfold Region.wanted
 split at h
 .rename_i hg;simp only [hg];exact ⟨true,ε,rfl,hε,h⟩
 .rename_i j want hg
  simp only [hg]
  have hslot:(ops[j]?).bind (·.dst)=slotOf ops.toList j:=by
   unfold slotOf;rw [Array.getElem?_toList];cases ops[j]?<;>rfl
  split at h
  .rename_i hs
   refine ⟨false,ε,?_,hε,h⟩
   simp [yielded,hslot,hs]
  .rename_i d hs
   split at h
   .rename_i b hb
    have ha:=hε.2 d _ hb
    have hy:yielded ops a.tmps j=some b:=by simp [yielded,hslot,hs,ha]
    have hε':EnvD ds ((d,.bool b) :: ε) a:=⟨hε.1,fun t v hv=>by
     simp only [Env.get] at hv
     split at hv
     .rename_i e;subst e;cases hv;exact ha
     .exact hε.2 t v hv⟩
    cases b with
    | true=>exact ⟨want,_,by rw [hy];cases want<;>rfl,hε',h⟩
    | false=>exact ⟨!want,_,by rw [hy];cases want<;>rfl,hε',h⟩
   .rename_i v hv hd
    have ha:=hε.2 d _ hd
    refine ⟨false,ε,?_,hε,h⟩
    have hy:yielded ops a.tmps j=none:=by
     simp only [yielded,hslot,hs,Option.bind_some,ha]
     cases v<;>first | rfl | (exact (hv _ rfl).elim)
    simp [hy]
   .exact h.elim
theorem C_mono (w:World):∀ φ ψ:World->Prop,(∀ w,φ w->ψ w)->(fun φ:World->Prop=>φ w) φ->(fun φ:World->Prop=>φ w) ψ:=fun _ _ h hφ=>h _ hφ
theorem quiet_noDef {o:Oper} (h:isQuiet P o.op=true):noDef o=true:=by
 unfold noDef
 unfold isQuiet at h
 cases ho:o.op<;>rw [ho] at h<;>first | rfl | cases h
theorem op_sound {X:PanicK} {n:Nat} {o:Oper} {ε:Env} {a:Act} {w:World} {K:Env->World->Prop} {next:Act->World->Prop} {Q:Exit->Act->World->Prop} (hε:EnvD ds ε a) (hn:a.tmps.size=n)
  (h:opP P n X o ε w K) (hX:∀ Y,X=some Y->∀ pv w',Y pv w'->Q (.panic [{ v:=pv,recovered:=false }]) a w') (hnext:∀ v ε' w',EnvD ds ε' (a.put o.dst v)->K ε' w'->next (a.put o.dst v) w'):wpO P o a w next Q:=by
 unfold opP at h
 split at h
 .rename_i hqu
  obtain ⟨v,hk,hw⟩:=quiet_sound hε (C_mono w) (fun φ hφ=>hφ w) h
  obtain ⟨ε',hε',hk⟩:=putE_sound hε hn hk
  refine wpO.of (quiet_noDef hqu) ?_
  unfold Oper.wp
  rw [hw]
  exact hnext v ε' w hε' hk
 .refine effX_sound hε h (fun v w' hk=>?_) hX
  obtain ⟨ε',hε',hk⟩:=putE_sound hε hn hk
  exact hnext v ε' w' hε' hk
def wpOq (P:Program) (ops:Array Oper) (Q:Exit->Act->World->Prop) (i:Nat) (K:Act->World->Prop) (a:Act) (w:World):Prop :=
 match ops[i]? with
 | none=>K a w
 | some o=>if Region.wanted o (yielded ops a.tmps) then wpO P o a w K Q else K (a.put o.dst undef) w
theorem wpOq.mono {ops:Array Oper} {Q:Exit->Act->World->Prop} {i:Nat} {K K':Act->World->Prop} {a:Act} {w:World} (h:∀ a w,K a w->K' a w) (hh:wpOq P ops Q i K a w):wpOq P ops Q i K' a w:=by
 unfold wpOq at *
 cases ho:ops[i]? with
 | none=>rw [ho] at hh;exact h _ _ hh
 | some o =>
  rw [ho] at hh
  simp only at hh ⊢
  split at hh
  .rename_i hw;rw [if_pos hw];exact hh.mono h
  .rename_i hw;rw [if_neg hw];exact h _ _ hh
theorem wpOq.in {F:Fence} (hF:Free F) {m:Nat} {ops:Array Oper} {Q:Exit->Act->World->Prop} {i:Nat} {K:Act->World->Prop} {a:Act} {w:World} (hh:wpOq P ops Q i K a w):wpOpIn F m P ops Q i K a w:=by
 unfold wpOq at hh
 unfold wpOpIn
 cases ho:ops[i]? with
 | none=>rw [ho] at hh;exact hh
 | some o =>
  rw [ho] at hh
  simp only at hh ⊢
  split at hh
  .rename_i hw;rw [if_pos hw];exact hh.2 F hF m
  .rename_i hw;rw [if_neg hw];exact ⟨fun f _=>hF.fn f,hh⟩
abbrev wrOps (ops:Array Oper):List Nat:=ops.toList.filterMap (·.dst)
theorem mem_wrOps {ops:Array Oper} {i:Nat} {o:Oper} (h:ops[i]?=some o) {t:Nat} (ht:o.dst=some t):t∈wrOps ops :=
 List.mem_filterMap.2 ⟨o,by rw [<- Array.getElem?_toList] at h;exact List.mem_of_getElem? h,ht⟩
theorem ops_sound2 {F:Fence} (hF:Free F) {X:PanicK} {m n:Nat} {ops:Array Oper} {Q:Exit->Act->World->Prop} {K:Env->World->Prop} (tl:List Nat):∀ (l:List Nat) (ε:Env) (w:World) (a:Act),opsP P n X ops.toList l ε w K->EnvD ds ε a->a.tmps.size=n->
  (∀ Y,X=some Y->∀ pv w' a',a'.defers=ds->a'.tmps.size=n->SameBut (wrOps ops) a a'->Y pv w'->Q (.panic [{ v:=pv,recovered:=false }]) a' w')->
  (∀ ε' a' w',EnvD ds ε' a'->a'.tmps.size=n->SameBut (wrOps ops) a a'->K ε' w'->wpOpsIn F m P ops Q tl a' w')->wpOpsIn F m P ops Q (l ++ tl) a w
 | [],ε,w,a,h,hε,hn,hX,hq=>hq ε a w hε hn (SameBut.refl _ _) h
 | i :: rest,ε,w,a,h,hε,hn,hX,hq=>by
  simp only [opsP] at h
  rw [List.cons_append,wpOpsIn_cons]
  refine wpOq.in hF ?_
  unfold wpOq
  split at h
  .exact h.elim
  .rename_i o ho
   rw [Array.getElem?_toList] at ho
   simp only [ho]
   obtain ⟨run,ε1',hrun,hε1',h⟩:=guard_sound hε h
   have hmem:∀ t,o.dst=some t->t∈wrOps ops:=fun t ht=>mem_wrOps ho ht
   cases run with
   | true =>
    simp only [hrun,if_true]
    refine (op_sound hε1' hn h (fun Y hY pv w' hy=>hX Y hY pv w' a hε1'.1 hn (SameBut.refl _ _) hy) fun v ε' w' hε' hk=>?_)
    exact ops_sound2 hF tl rest ε' w' _ hk hε' (by rw [size_put];exact hn) (fun Y hY pv w' a' hd hs hm hy=>hX Y hY pv w' a' hd hs ((SameBut.put a o.dst v hmem).trans hm) hy) (fun ε'' a'' w'' h1 h2 h3 h4=>hq ε'' a'' w'' h1 h2 ((SameBut.put a o.dst v hmem).trans h3) h4)
   | false =>
    simp only [hrun,Bool.false_eq_true,if_false]
    obtain ⟨ε',hε',hk⟩:=putE_sound hε1' hn h
    exact ops_sound2 hF tl rest ε' w _ hk hε' (by rw [size_put];exact hn) (fun Y hY pv w' a' hd hs hm hy=>hX Y hY pv w' a' hd hs ((SameBut.put a o.dst _ hmem).trans hm) hy) (fun ε'' a'' w'' h1 h2 h3 h4=>hq ε'' a'' w'' h1 h2 ((SameBut.put a o.dst _ hmem).trans h3) h4)
theorem ops_sound {F:Fence} (hF:Free F) {X:PanicK} {m n:Nat} {ops:Array Oper} {Q:Exit->Act->World->Prop} {K:Env->World->Prop} (l:List Nat) (ε:Env) (w:World) (a:Act) (h:opsP P n X ops.toList l ε w K) (hε:EnvD ds ε a) (hn:a.tmps.size=n)
  (hX:∀ Y,X=some Y->∀ pv w' a',a'.defers=ds->a'.tmps.size=n->SameBut (wrOps ops) a a'->Y pv w'->Q (.panic [{ v:=pv,recovered:=false }]) a' w')
  (hq:∀ ε' a' w',EnvD ds ε' a'->a'.tmps.size=n->SameBut (wrOps ops) a a'->K ε' w'->Q .normal a' w'):wpOpsIn F m P ops Q l a w:=by
 have:=ops_sound2 hF (m:=m) [] l ε w a h hε hn hX hq
 rwa [List.append_nil] at this
def Listed (listed:Array Bool) (m:Nat) (ex:List Nat):Prop:=listed.size=m/\(∀ i∈ex,i<m)/\∀ j,listed.getD j false=ex.contains j
theorem Listed.start (m:Nat):Listed (Array.replicate m false) m []:=⟨by simp,by simp,fun j=>by
 by_cases h:j<m<;>simp [Array.getElem?_replicate,h]⟩
theorem Listed.step {listed:Array Bool} {m:Nat} {ex:List Nat} (h:Listed listed m ex) {i:Nat} (hi:i<m):Listed (listed.setIfInBounds i true) m (i :: ex):=by
 refine ⟨by simp [h.1],fun j hj=>?_,fun j=>?_⟩
 .rcases List.mem_cons.1 hj with rfl | hj
  .exact hi
  .exact h.2.1 j hj
 .by_cases hij:i=j
  .subst hij;simp [h.1,hi]
  .rw [getD_set_ne false hij,h.2.2 j]
   simp only [List.contains_cons]
   have:(j == i)=false:=by simp;exact fun e=>hij e.symm
   simp [this]
theorem Listed.getT {listed:Array Bool} {m:Nat} {ex:List Nat} (h:Listed listed m ex) {j:Nat} (hj:j<m):listed.getD j true=ex.contains j:=by
 rw [<- h.2.2 j]
 have:j<listed.size:=by rw [h.1];exact hj
 simp [this]
theorem ready_eq {ops:Array Oper} {listed:Array Bool} {ex:List Nat} (h:Listed listed ops.size ex):Region.ready .any ops listed=readyL ops.toList ex:=by
 unfold Region.ready readyL
 rw [Array.length_toList]
 refine List.filter_congr fun i hi=>?_
 have hi':i<ops.size:=by simpa using hi
 rw [h.getT hi',Array.getElem?_toList]
 congr 1
 cases ops[i]? with
 | none=>rfl
 | some o =>
  simp only [Option.map_some,Option.getD_some]
  rw [<- Array.all_toList]
  congr 1
  funext e
  rw [h.2.2]
theorem opds_eq (o:Op) (hs:∀ cs b,o≠ .select cs b):o.operands.toList=opdsL o:=by
 cases o<;>first
  | exact absurd rfl (hs _ _)
  |(simp [Op.operands,opdsL,opdsL.callL,Call.operands];done)
  |(rename_i c;cases hc:c.callee<;>simp [Op.operands,opdsL,opdsL.callL,Call.operands,hc];done)
  |(rename_i l h m;cases l<;>cases h<;>cases m<;>simp [Op.operands,opdsL];done)
  |(rename_i r;cases r<;>simp [Op.operands,opdsL];done)
theorem noSel_spec {ops:Array Oper} (h:noSelL ops.toList=true):Region.noSelect ops=true:=by
 unfold noSelL at h
 unfold Region.noSelect
 rw [<- Array.all_toList]
 exact h
theorem looks_eq {ops:Array Oper} {o:Oper} (hs:∀ cs b,o.op≠ .select cs b):o.looksAt ops=looksL ops.toList o:=by
 unfold Oper.looksAt looksL
 rw [opds_eq _ hs]
 congr 1
 cases o.guard with
 | none=>rfl
 | some g =>
  obtain ⟨g,_⟩:=g
  simp only [slotOf]
  rw [Array.getElem?_toList]
  cases ops[g]?<;>rfl
theorem free_eq {ops:Array Oper} (hs:Region.noSelect ops=true) {listed:Array Bool} {ex:List Nat} (h:Listed listed ops.size ex) {i:Nat} (hf:freeL ops.toList ex i=true):Region.free .any ops listed i=true:=by
 unfold freeL at hf
 unfold Region.free
 rw [Array.getElem?_toList] at hf
 split at hf
 .cases hf
 .rename_i oi hoi
  simp only [hoi]
  rw [List.all_eq_true] at hf ⊢
  intro j hj
  have hj':j<ops.size:=by simpa using hj
  have:=hf j (by rw [Array.length_toList];exact hj)
  rw [Array.getElem?_toList] at this
  rw [h.getT hj']
  cases hoj:ops[j]? with
  | none=>simp
  | some oj =>
   simp only [hoj] at this
   have si:=Region.noSelect_spec hs i oi
   have sj:=Region.noSelect_spec hs j oj
   have ha:oi.apart ops oj=apartL ops.toList oi oj:=by
    unfold Oper.apart apartL
    rw [looks_eq (fun cs b=>si cs b hoi),looks_eq (fun cs b=>sj cs b hoj)]
    rfl
   simp only [ha]
   rw [<- Array.any_toList]
   exact this
def YN (P:Program) (ops:Array Oper) (S:World->Prop) (o:Oper) (v:Value) (a:Act):Prop :=
 (Region.wanted o (yielded ops a.tmps)=true/\∀ w,(isLoad o.op=true->S w)->(execOp a.eval o).run P w= .ok (.value v) w)\/
 (Region.wanted o (yielded ops a.tmps)=false/\v=undef)
def keepS (P:Program) (ops:Array Oper) (S:World->Prop) (i:Nat) (w w':World):Prop :=
 (∃ o,ops[i]?=some o/\isQuiet P o.op=true/\w'=w)\/(needA ops.toList i=true->S w')
def wpN (P:Program) (ops:Array Oper) (Q:Exit->Act->World->Prop) (S:World->Prop):Nat->Array Bool->Act->World->Prop
 | 0,L,a,w=>Region.ready .any ops L=[]/\Q .normal a w
 | n+1,L,a,w=>(Region.ready .any ops L=[]->Q .normal a w)/\
   ∀ i∈Region.ready .any ops L,wpOq P ops Q i (fun a' w'=>keepS P ops S i w w'/\wpN P ops Q S n (L.setIfInBounds i true) a' w') a w
theorem wpN_any {F:Fence} (hF:Free F) {m:Nat} {ops:Array Oper} {Q:Exit->Act->World->Prop} {S:World->Prop}:∀ (n:Nat) (L:Array Bool) (a:Act) (w:World),wpN P ops Q S n L a w->wpAnyIn F m P .any ops Q n L a w
 | 0,_,_,_,h=>h
 | n+1,_,_,_,h=>⟨h.1,fun i hi=>wpOpIn_mono (fun a' w' h'=>wpN_any hF n _ a' w' h'.2) (wpOq.in hF (h.2 i hi))⟩
theorem YN.same {ops:Array Oper} {S:World->Prop} {o:Oper} {v:Value} {a a':Act} (hy:YN P ops S o v a) (he:execOp a'.eval o=execOp a.eval o)
  (hw:Region.wanted o (yielded ops a'.tmps)=Region.wanted o (yielded ops a.tmps)):YN P ops S o v a':=by
 unfold YN at *
 rw [he,hw]
 exact hy
theorem YN.here {ops:Array Oper} {Q:Exit->Act->World->Prop} {S:World->Prop} {i:Nat} {o:Oper} {v:Value} {a:Act} (hi:ops[i]?=some o) (hy:YN P ops S o v a) {K:Act->World->Prop} {w:World}
  (hS:isLoad o.op=true->S w) (hnd:noDef o=true) (h:K (a.put o.dst v) w):wpOq P ops Q i K a w:=by
 unfold wpOq
 simp only [hi]
 rcases hy with ⟨hw,hv⟩| ⟨hw,rfl⟩
 .rw [if_pos hw]
  refine wpO.of hnd ?_
  unfold Oper.wp
  rw [hv w hS]
  exact h
 .rw [if_neg (by simp [hw])]
  exact h
theorem wpOq_swap {ops:Array Oper} {Q:Exit->Act->World->Prop} {S:World->Prop} {j:Nat} {oi oj:Oper} {v:Value} (hj:ops[j]?=some oj) (hap:oi.apart ops oj=true)
  (hdi:∀ t,oi.dst=some t->t∈wrOps ops) (hsi:∀ cs b,oi.op≠ .select cs b) (hsj:∀ cs b,oj.op≠ .select cs b) (hQ:∀ c a a' w,a.defers=a'.defers->a.tmps.size=a'.tmps.size->SameBut (wrOps ops) a' a->Q (.panic c) a w->Q (.panic c) a' w) {K:Act->World->Prop} {a:Act} {w:World}
  (hy:YN P ops S oi v a) (h:wpOq P ops Q j K (a.put oi.dst v) w):wpOq P ops Q j (fun a' w'=>YN P ops S oi v a'/\K (a'.put oi.dst v) w') a w:=by
 obtain ⟨h1,h2,h3⟩:=Oper.apart_spec hap
 have keep:∀ (a:Act),YN P ops S oi v a->∀ u,YN P ops S oi v (a.put oj.dst u):=fun a hy u=>hy.same (execOp_put oi hsi a oj.dst u h3) (wanted_put oi a oj.dst u h3)
 have hpd:(a.put oi.dst v).defers=a.defers:=by cases oi.dst<;>rfl
 unfold wpOq at h ⊢
 simp only [hj] at h ⊢
 rw [wanted_put oj a oi.dst v h1] at h
 by_cases hw:Region.wanted oj (yielded ops a.tmps)=true
 .rw [if_pos hw] at h ⊢
  obtain ⟨hd,h⟩:=h
  refine ⟨hd,fun F hF m=>⟨fun f _=>hF.fn f,?_⟩⟩
  have h:=(h F hF m).2
  rw [Oper.semAt_plain F _ _ (noDef_spec hd)] at h ⊢
  rw [execOp_put oj hsj a oi.dst v h1] at h
  cases hr:(execOp a.eval oj).run P w with
  | ok x w' =>
   rw [hr] at h
   cases x with
   | value u =>
    simp only [Oper.uponIn] at h ⊢
    exact ⟨keep a hy u,by rw [<- Act.put_comm a v u h2];exact h⟩
   | skip =>
    simp only [Oper.uponIn] at h ⊢
    exact ⟨keep a hy _,by rw [<- Act.put_comm a v undef h2];exact h⟩
   | defer d =>
    simp only [Oper.uponIn] at h ⊢
    have hy':YN P ops S oi v { tmps:=a.tmps,defers:=d :: a.defers }:=hy.same rfl rfl
    refine ⟨keep _ hy' _,?_⟩
    rw [<- Act.put_comm _ v undef h2,<- Act.put_defers]
    exact h
   | enter f args =>
    simp only [Oper.uponIn] at h ⊢
    refine ⟨h.1,CallsIn.mono h.2 fun e w'' he=>?_⟩
    cases e with
    | returned u=>exact ⟨keep a hy u,by rw [<- Act.put_comm a v u h2];exact he⟩
    | panicked c=>exact hQ _ _ _ _ hpd (size_put _ _ _) (SameBut.put a oi.dst v hdi) he
    | outgrown=>exact he
   | row row args =>
    simp only [Oper.uponIn] at h ⊢
    exact ⟨h.1,RowsIn.mono h.2 fun u w'' he=>⟨keep a hy u,by rw [<- Act.put_comm a v u h2];exact he⟩⟩
   | round l f tmps ag body =>
    simp only [Oper.uponIn] at h ⊢
    refine ⟨h.1,RoundIn.mono h.2 fun e w'' he=>?_⟩
    cases e with
    | returned u=>exact ⟨keep a hy u,by rw [<- Act.put_comm a v u h2];exact he⟩
    | panicked c=>exact hQ _ _ _ _ hpd (size_put _ _ _) (SameBut.put a oi.dst v hdi) he
    | outgrown=>exact he
   | _=>simp only [Oper.uponIn] at h
  | halt x w' =>
   rw [hr] at h
   cases x<;>simp only [Oper.uponIn] at h ⊢
   exact hQ _ _ _ _ hpd (size_put _ _ _) (SameBut.put a oi.dst v hdi) h
 .rw [if_neg hw] at h ⊢
  exact ⟨keep a hy _,by rw [<- Act.put_comm a v undef h2];exact h⟩
theorem needA_true {ops:Array Oper} {i j:Nat} {oi oj:Oper} (hi:ops[i]?=some oi) (hj:ops[j]?=some oj) (hld:isLoad oi.op=true) (hne:i≠j) (hno:∀ e∈oj.after,Region.binds .any e=true->e.on≠i):needA ops.toList j=true:=by
 unfold needA
 rw [List.any_eq_true]
 refine ⟨i,by simp;exact (Array.getElem?_eq_some_iff.1 hi).1,?_⟩
 rw [Array.getElem?_toList,Array.getElem?_toList,hi,hj]
 simp only [hld,Bool.true_and,Bool.and_eq_true,bne_iff_ne,ne_eq,Bool.not_eq_true']
 refine ⟨hne,?_⟩
 rw [Bool.eq_false_iff]
 intro h
 obtain ⟨e,he,hb⟩:=List.any_eq_true.1 h
 simp only [Bool.and_eq_true,beq_iff_eq] at hb
 exact hno e (by simpa using he) hb.1 hb.2
theorem wpN_first {ops:Array Oper} {Q:Exit->Act->World->Prop} {S:World->Prop} {i:Nat} {oi:Oper} {v:Value} (hi:ops[i]?=some oi) (hqi:isQuiet P oi.op=true) (hsel:Region.noSelect ops=true) (hQ:∀ c a a' w,a.defers=a'.defers->a.tmps.size=a'.tmps.size->SameBut (wrOps ops) a' a->Q (.panic c) a w->Q (.panic c) a' w) :
  ∀ (n:Nat) (L:Array Bool) (a:Act) (w:World),
   (∀ j oj,ops[j]?=some oj->j≠i->L.getD j true=false->(∀ e∈oj.after,Region.binds .any e=true->e.on≠i)->oi.apart ops oj=true)->
   i∈Region.ready .any ops L->YN P ops S oi v a->(isLoad oi.op=true->S w)->wpN P ops Q S n (L.setIfInBounds i true) (a.put oi.dst v) w->wpN P ops Q S (n+1) L a w:=by
 intro n
 induction n with
 | zero =>
  intro L a w _ hr hy hS H
  refine ⟨fun h=>(by rw [h] at hr;cases hr),fun j hj=>?_⟩
  by_cases hji:j=i
  .subst hji;exact hy.here hi hS (quiet_noDef hqi) ⟨.inl ⟨_,hi,hqi,rfl⟩,H⟩
  .have:=ready_mono hj hji
   rw [H.1] at this
   cases this
 | succ n ih =>
  intro L a w hfree hr hy hS H
  refine ⟨fun h=>(by rw [h] at hr;cases hr),fun j hj=>?_⟩
  by_cases hji:j=i
  .subst hji;exact hy.here hi hS (quiet_noDef hqi) ⟨.inl ⟨_,hi,hqi,rfl⟩,H⟩
  .have h1:=H.2 j (ready_mono hj hji)
   obtain ⟨hjun,oj,hoj,hall⟩:=mem_ready.1 hj
   have hnot:∀ e∈oj.after,Region.binds .any e=true->e.on≠i:=fun e he hb heq=>by
    have h1:=hall e he hb
    have h0:=(mem_ready.1 hr).1
    rw [heq] at h1
    rcases Nat.lt_or_ge i L.size with h' | h'
    .simp [h'] at h0 h1;rw [h0] at h1;cases h1
    .simp [Array.getElem?_eq_none h'] at h1
   have h2:=wpOq_swap hoj (hfree j oj hoj hji hjun hnot) (fun t ht=>mem_wrOps hi ht) (fun cs b=>Region.noSelect_spec hsel i oi cs b hi) (fun cs b=>Region.noSelect_spec hsel j oj cs b hoj) hQ hy h1
   have hfree':∀ k ok,ops[k]?=some ok->k≠i->(L.setIfInBounds j true).getD k true=false->(∀ e∈ok.after,Region.binds .any e=true->e.on≠i)->oi.apart ops ok=true:=fun k ok hk hki hun hno=>by
    refine hfree k ok hk hki ?_ hno
    by_cases hjk:j=k
    .subst hjk;exact hjun
    .rw [getD_set_ne true hjk] at hun;exact hun
   have hload:isLoad oi.op=true->needA ops.toList j=true:=fun hld=>needA_true hi hoj hld (Ne.symm hji) hnot
   refine wpOq.mono (fun a' w' h3=>⟨h3.2.1,ih (L.setIfInBounds j true) a' w' hfree' (ready_mono hr (Ne.symm hji)) h3.1 (fun hld=>?_) ?_⟩) h2
   .rcases h3.2.1 with ⟨_,_,_,rfl⟩| hk
    .exact hS hld
    .exact hk (hload hld)
   .rw [Array.setIfInBounds_comm _ _ hji]
    exact h3.2.2
theorem allL_mem {K:Nat->Prop}:∀ {l:List Nat},allL K l->∀ i∈l,K i
 | [],_,i,hi=>by cases hi
 | [j],h,i,hi=>by simp at hi;subst hi;exact h
 | j :: k :: r,h,i,hi=>by
  rcases List.mem_cons.1 hi with rfl | hi
  .exact h.1
  .exact allL_mem h.2 i hi
theorem pickQ_mem {ops:List Oper} {ex:List Nat}:∀ {l:List Nat} {i:Nat},pickQ P ops ex l=some i->i∈l/\(∃ o,ops[i]?=some o/\isQuiet P o.op=true)/\freeL ops ex i=true
 | [],i,h=>by cases h
 | j :: r,i,h=>by
  simp only [pickQ] at h
  split at h
  .rename_i o ho
   split at h
   .rename_i hc;cases h;simp at hc;exact ⟨List.mem_cons_self,⟨o,ho,hc.1⟩,hc.2⟩
   .have:=pickQ_mem h;exact ⟨List.mem_cons_of_mem _ this.1,this.2⟩
  .have:=pickQ_mem h;exact ⟨List.mem_cons_of_mem _ this.1,this.2⟩
def Pend (ops:Array Oper) (ex:List Nat):Prop:=∃ i o,ops[i]?=some o/\isLoad o.op=true/\i ∉ ex
theorem draw_sound {X:PanicK} {n:Nat} {ops:Array Oper} {S:World->Prop} {Q:Exit->Act->World->Prop} {K:Env->World->Prop} (hs:Region.noSelect ops=true) (hQ:∀ c a a' w,a.defers=a'.defers->a.tmps.size=a'.tmps.size->SameBut (wrOps ops) a' a->Q (.panic c) a w->Q (.panic c) a' w) :
  ∀ (fuel:Nat) (ex:List Nat) (ε:Env) (w:World) (a:Act) (L:Array Bool),drawP P n X ops.toList S fuel ex ε w K->EnvD ds ε a->a.tmps.size=n->Listed L ops.size ex->(Pend ops ex->S w)->(∀ Y,X=some Y->∀ pv w' a',a'.defers=ds->a'.tmps.size=n->SameBut (wrOps ops) a a'->Y pv w'->Q (.panic [{ v:=pv,recovered:=false }]) a' w')->
  (∀ ε' a' w',EnvD ds ε' a'->a'.tmps.size=n->SameBut (wrOps ops) a a'->K ε' w'->Q .normal a' w')->wpN P ops Q S fuel L a w
 | 0,ex,ε,w,a,L,h,hε,hn,hl,hS,hX,hq=>by
  simp only [drawP] at h
  split at h
  .rename_i hr;exact ⟨by rw [ready_eq hl];exact hr,hq ε a w hε hn (SameBut.refl _ _) h⟩
  .exact h.elim
 | fuel+1,ex,ε,w,a,L,h,hε,hn,hl,hS,hX,hq=>by
  simp only [drawP] at h
  split at h
  .rename_i hr
   have hr':Region.ready .any ops L=[]:=by rw [ready_eq hl];exact hr
   exact ⟨fun _=>hq ε a w hε hn (SameBut.refl _ _) h,by rw [hr'];simp⟩
  .rename_i r rs hr
   have hmemlt:∀ i,i∈r :: rs->i<ops.size:=by
    intro i hi
    rw [<- hr] at hi
    unfold readyL at hi
    have:=(List.mem_filter.1 hi).1
    simpa using this
   have hnotex:∀ i,i∈r :: rs->i ∉ ex:=by
    intro i hi
    rw [<- hr] at hi
    unfold readyL at hi
    have:=(List.mem_filter.1 hi).2
    simp only [Bool.and_eq_true,Bool.not_eq_true'] at this
    simpa using this.1
   have hafter:∀ i o,i∈r :: rs->ops[i]?=some o->∀ e∈o.after,Region.binds .any e=true->e.on∈ex:=by
    intro i o hi ho e he hb
    rw [<- hr] at hi
    unfold readyL at hi
    have:=(List.mem_filter.1 hi).2
    rw [Array.getElem?_toList,ho] at this
    simp only [Bool.and_eq_true,List.all_eq_true] at this
    have:=this.2 e (by simpa using he)
    rw [hb] at this
    simpa using this
   have step:∀ i,Pend ops (i :: ex)->Pend ops ex:=fun i ⟨j,o,ho,hl,hm⟩=>⟨j,o,ho,hl,fun h=>hm (List.mem_cons_of_mem _ h)⟩
   split at h
   .rename_i i hp
    obtain ⟨hmem,hquiet,hfree⟩:=pickQ_mem hp
    split at h
    .exact h.elim
    .rename_i o ho
     have ho':=ho
     rw [Array.getElem?_toList] at ho
     have hqo:isQuiet P o.op=true:=by
      obtain ⟨o',ho2,hq2⟩:=hquiet
      rw [ho'] at ho2
      cases ho2
      exact hq2
     have hdst:∀ t,o.dst=some t->t∈wrOps ops:=fun t ht=>mem_wrOps ho ht
     obtain ⟨run,ε1',hrun,hε1',h⟩:=guard_sound hε h
     have hready:i∈Region.ready .any ops L:=by rw [ready_eq hl,hr];exact hmem
     have hSi:isLoad o.op=true->S w:=fun hld=>hS ⟨i,o,ho,hld,hnotex i hmem⟩
     cases run with
     | true =>
      have hC:∀ φ ψ:World->Prop,(∀ w,φ w->ψ w)->drawC S o.op φ->drawC S o.op ψ:=by
       intro φ ψ hφ
       unfold drawC
       split
       .exact fun hh u hu=>hφ u (hh u hu)
       .exact fun hh u=>hφ u (hh u)
      have hT:∀ φ:World->Prop,(∀ w,φ w)->drawC S o.op φ:=by
       intro φ hφ
       unfold drawC
       split
       .exact fun u _=>hφ u
       .exact fun u=>hφ u
      obtain ⟨v,hk,hw⟩:=quiet_sound hε1' hC hT h
      obtain ⟨ε',hε',hk⟩:=putE_sound hε1' hn hk
      refine wpN_first ho hqo hs hQ fuel L a w (Region.free_spec ho (free_eq hs hl hfree)) hready (.inl ⟨hrun,fun u hu=>?_⟩) hSi
       (draw_sound hs hQ fuel _ ε' w _ _ hk hε' (by rw [size_put];exact hn) (hl.step (hmemlt i hmem)) (fun hp=>hS (step i hp)) (fun Y hY pv w' a' hd hz hm hy=>hX Y hY pv w' a' hd hz ((SameBut.put a o.dst v hdst).trans hm) hy)
        (fun ε'' a'' w'' h1 h2 h3 h4=>hq ε'' a'' w'' h1 h2 ((SameBut.put a o.dst v hdst).trans h3) h4))
      unfold drawC at hw
      by_cases hld:isLoad o.op=true
      .rw [if_pos hld] at hw;exact hw u (hu hld)
      .rw [if_neg hld] at hw;exact hw u
     | false =>
      obtain ⟨ε',hε',hk⟩:=putE_sound hε1' hn h
      exact wpN_first ho hqo hs hQ fuel L a w (Region.free_spec ho (free_eq hs hl hfree)) hready (.inr ⟨hrun,rfl⟩) hSi
       (draw_sound hs hQ fuel _ ε' w _ _ hk hε' (by rw [size_put];exact hn) (hl.step (hmemlt i hmem)) (fun hp=>hS (step i hp)) (fun Y hY pv w' a' hd hz hm hy=>hX Y hY pv w' a' hd hz ((SameBut.put a o.dst _ hdst).trans hm) hy)
        (fun ε'' a'' w'' h1 h2 h3 h4=>hq ε'' a'' w'' h1 h2 ((SameBut.put a o.dst _ hdst).trans h3) h4))
   .refine ⟨fun h0=>(by rw [ready_eq hl,hr] at h0;cases h0),fun i hi=>?_⟩
    rw [ready_eq hl,hr] at hi
    have h:=allL_mem h i hi
    split at h
    .exact h.elim
    .rename_i o ho
     rw [Array.getElem?_toList] at ho
     have hdst:∀ t,o.dst=some t->t∈wrOps ops:=fun t ht=>mem_wrOps ho ht
     obtain ⟨run,ε1',hrun,hε1',h⟩:=guard_sound hε h
     have hpend:Pend ops (i :: ex)->needA ops.toList i=true:=fun ⟨j,oj,hj,hld,hm⟩=>
      needA_true hj ho hld (fun e=>hm (by rw [e];exact List.mem_cons_self)) fun e he hb heq=>hm (List.mem_cons_of_mem _ (by rw [<- heq];exact hafter i o hi ho e he hb))
     have hcond:∀ {X Y:Prop},condS (needA ops.toList i) X Y->(needA ops.toList i=true->X)/\Y:=by
      intro X Y hc
      cases hb:needA ops.toList i with
      | true=>rw [hb] at hc;exact ⟨fun _=>hc.1,hc.2⟩
      | false=>rw [hb] at hc;exact ⟨fun hh=>(Bool.false_ne_true hh).elim,hc⟩
     unfold wpOq
     simp only [ho]
     cases run with
     | true =>
      simp only [hrun,if_true]
      refine op_sound hε1' hn h (fun Y hY pv w' hy=>hX Y hY pv w' a hε1'.1 hn (SameBut.refl _ _) hy) fun v ε' w' hε' hk=>?_
      obtain ⟨hk1,hk2⟩:=hcond hk
      exact ⟨.inr hk1,draw_sound hs hQ fuel _ ε' w' _ _ hk2 hε' (by rw [size_put];exact hn) (hl.step (hmemlt i hi)) (fun hp=>hk1 (hpend hp)) (fun Y hY pv w' a' hd hz hm hy=>hX Y hY pv w' a' hd hz ((SameBut.put a o.dst v hdst).trans hm) hy)
        (fun ε'' a'' w'' h1 h2 h3 h4=>hq ε'' a'' w'' h1 h2 ((SameBut.put a o.dst v hdst).trans h3) h4)⟩
     | false =>
      simp only [hrun,Bool.false_eq_true,if_false]
      obtain ⟨ε',hε',hk⟩:=putE_sound hε1' hn h
      obtain ⟨hk1,hk2⟩:=hcond hk
      exact ⟨.inr hk1,draw_sound hs hQ fuel _ ε' w _ _ hk2 hε' (by rw [size_put];exact hn) (hl.step (hmemlt i hi)) (fun hp=>hk1 (hpend hp)) (fun Y hY pv w' a' hd hz hm hy=>hX Y hY pv w' a' hd hz ((SameBut.put a o.dst _ hdst).trans hm) hy)
        (fun ε'' a'' w'' h1 h2 h3 h4=>hq ε'' a'' w'' h1 h2 ((SameBut.put a o.dst _ hdst).trans h3) h4)⟩
def Lift (ds:List Deferred) (n:Nat) (ws:List Nat) (a:Act) (Q:Exit->Env->World->Prop):Exit->Act->World->Prop :=
 fun e a' w'=>(∀ c,e≠ .panic c)/\(e≠ .outgrown)/\(∀ l,e≠ .goto l)/\∃ ε',EnvD ds ε' a'/\a'.tmps.size=n/\SameBut ws a a'/\Q e ε' w'
def LiftX (X:PanicK) (ds:List Deferred) (n:Nat) (ws:List Nat) (a:Act) (Q:Exit->Env->World->Prop):Exit->Act->World->Prop :=
 fun e a' w'=>(∃ Y pv,X=some Y/\e= .panic [{ v:=pv,recovered:=false }]/\a'.defers=ds/\a'.tmps.size=n/\SameBut ws a a'/\Y pv w')\/Lift ds n ws a Q e a' w'
theorem LiftX.move {X:PanicK} {ds:List Deferred} {n:Nat} {ws:List Nat} {a:Act} {Q:Exit->Env->World->Prop} (c:List PanicEntry) (b b':Act) (w:World) (hd:b.defers=b'.defers) (hz:b.tmps.size=b'.tmps.size) (hs:SameBut ws b' b) (h:LiftX X ds n ws a Q (.panic c) b w):LiftX X ds n ws a Q (.panic c) b' w:=by
 rcases h with ⟨Y,pv,hY,he,h,hn,hm,hy⟩| h
 .exact .inl ⟨Y,pv,hY,he,hd ▸ h,hz ▸ hn,fun t ht=>(hs t ht).symm.trans (hm t ht),hy⟩
 .exact (h.1 c rfl).elim
theorem keep_get:∀ {ts:List Nat} {ε:Env} {t:Nat} {v:Value},(Env.keep ε ts).get t=some v->t∈ts/\ε.get t=some v
 | [],ε,t,v,h=>by cases h
 | s :: ts,ε,t,v,h=>by
  simp only [Env.keep] at h
  split at h
  .rename_i u hu
   simp only [Env.get] at h
   split at h
   .rename_i e;subst e;cases h;exact ⟨List.mem_cons_self,hu⟩
   .have:=keep_get h;exact ⟨List.mem_cons_of_mem _ this.1,this.2⟩
  .have:=keep_get h;exact ⟨List.mem_cons_of_mem _ this.1,this.2⟩
theorem keep_ok {ε:Env} {a a':Act} {keep ws:List Nat} (hε:EnvD ds ε a) (hs:SameBut ws a a') (hk:(keep.all fun t=> !ws.contains t)=true) (hd:a'.defers=ds):EnvD ds (Env.keep ε keep) a':=by
 refine ⟨hd,fun t v h=>?_⟩
 obtain ⟨hm,hv⟩:=keep_get h
 have:=List.all_eq_true.1 hk t hm
 have hnot:t ∉ ws:=by simpa using this
 rw [hs t hnot]
 exact hε.2 t v hv
theorem laid_ok:∀ {ts:List Nat} {vs:List Value} {ε:Env} {a:Act},EnvD ds ε a->(∀ (j t:Nat) (v:Value),ts[j]?=some t->vs[j]?=some v->a.tmps[t]?=some v)->EnvD ds (Env.laid ts vs ε) a
 | [],vs,ε,a,h,_=>by simpa [Env.laid] using h
 | t :: ts,[],ε,a,h,_=>by simpa [Env.laid] using h
 | t :: ts,v :: vs,ε,a,h,hj=>by
  have ih:=laid_ok (ts:=ts) (vs:=vs) h (fun j s u hs hu=>hj (j+1) s u (by simpa using hs) (by simpa using hu))
  refine ⟨ih.1,fun s u hu=>?_⟩
  simp only [Env.laid,Env.get] at hu
  split at hu
  .rename_i e;subst e;cases hu;exact hj 0 t v (by simp) (by simp)
  .exact ih.2 s u hu
theorem getL_at:∀ {ts:List Nat} {ε:Env} {vs:List Value} {a:Act},getL ε ts=some vs->EnvD ds ε a->∀ (j t:Nat) (v:Value),ts[j]?=some t->vs[j]?=some v->a.tmps[t]?=some v
 | [],ε,vs,a,h,hε,j,t,v,ht,hv=>by simp at ht
 | s :: ts,ε,vs,a,h,hε,j,t,v,ht,hv=>by
  simp only [getL] at h
  split at h
  .rename_i u hu
   split at h
   .rename_i us hus
    cases h
    cases j with
    | zero=>simp at ht hv;subst ht;subst hv;exact hε.2 _ _ hu
    | succ j=>simp at ht hv;exact getL_at hus hε j t v ht hv
   .cases h
  .cases h
theorem getL_laid:∀ {ts:List Nat} {vs:List Value} {ε:Env},okMark.nodupL ts=true->vs.length=ts.length->getL (Env.laid ts vs ε) ts=some vs:=by
 have key:∀ (ts:List Nat) (s:Nat) (u:Value) (ε:Env),s ∉ ts->getL ((s,u) :: ε) ts=getL ε ts:=by
  intro ts
  induction ts with
  | nil=>intro s u ε _;rfl
  | cons t ts ih =>
   intro s u ε h
   have h1:s≠t:=fun e=>h (by simp [e])
   have h2:s ∉ ts:=fun e=>h (by simp [e])
   simp only [getL,Env.get,if_neg h1,ih s u ε h2]
 intro ts
 induction ts with
 | nil=>intro vs ε _ hl;cases vs<;>simp_all [getL]
 | cons t ts ih =>
  intro vs ε hd hl
  cases vs with
  | nil=>simp at hl
  | cons v vs =>
   simp only [okMark.nodupL,Bool.and_eq_true,Bool.not_eq_true'] at hd
   have hnot:t ∉ ts:=by simpa using hd.1
   simp only [Env.laid,getL,Env.get,if_true,key _ _ _ _ hnot,ih hd.2 (by simpa using hl)]
theorem getL_len:∀ {ts:List Nat} {ε:Env} {vs:List Value},getL ε ts=some vs->vs.length=ts.length
 | [],ε,vs,h=>by cases h;rfl
 | t :: ts,ε,vs,h=>by
  simp only [getL] at h
  split at h
  .split at h
   .rename_i us hus;cases h;simp [getL_len hus]
   .cases h
  .cases h
def actVals (a:Act) (ts:List Nat):List Value:=ts.map fun t=>a.tmps.getD t undef
theorem actVals_eq:∀ {ts:List Nat} {ε:Env} {vs:List Value} {a:Act},getL ε ts=some vs->EnvD ds ε a->actVals a ts=vs
 | [],ε,vs,a,h,hε=>by cases h;rfl
 | t :: ts,ε,vs,a,h,hε=>by
  simp only [getL] at h
  split at h
  .rename_i u hu
   split at h
   .rename_i us hus
    cases h
    have:=hε.2 t u hu
    have ih:=actVals_eq hus hε
    unfold actVals at ih ⊢
    simp [this,<- ih]
   .cases h
  .cases h
def noJump (Q:Exit->Act->World->Prop):Exit->Act->World->Prop
 | .goto _,_,_=>False
 | e,a,w=>Q e a w
theorem stepR_scopeD {b:Frame} {a:Act} {k:List Item} {cs:List Frame} {w:World} {c:Code}:step P (lone (b.atR a (.code (.scope c) :: k)) cs w)= .next (lone (b.atR a (.code c :: .inScope c :: k)) cs w) :=
 step_lone_go (by simp [stepG,stepG.exec,Frame.atR])
theorem stepR_inScopeD {b:Frame} {a:Act} {k:List Item} {cs:List Frame} {w:World} {c:Code}:step P (lone (b.atR a (.inScope c :: k)) cs w)= .next (lone (b.atR a k) cs w) :=
 step_lone_go (by simp [stepG,stepG.exec,Frame.atR])
theorem wpIn_scopeD {F:Fence} {n:Nat} {Q:Exit->Act->World->Prop} {a:Act} {w:World} {c:Code} (h:c.wpIn F n P (noJump Q) a w):(Code.scope c).wpIn F n P Q a w:=by
 intro b k cs hro hb hr
 have h0:(lone (b.atR a (.code (.scope c) :: k)) cs w).fenced P F:=fenced_calm hb hr rfl
 obtain ⟨e,a1',w1,hq,harr⟩:=h b (.inScope c :: k) cs hro hb hr
 cases e with
 | normal=>exact ⟨.normal,a1',w1,hq,.head h0 stepR_scopeD (StepsIn.trans harr (.one (fenced_calm hb hr rfl) stepR_inScopeD))⟩
 | exit id' =>
  have hx:exitTo id' (.inScope c :: k)=exitTo id' k:=by simp [exitTo]
  exact ⟨.exit id',a1',w1,hq,fun k' hk=>.head h0 stepR_scopeD (harr.1 k' (by rw [hx];exact hk)),
   fun hr' hk=>let ⟨k1,h1,h2⟩:=harr.2 hr' (by rw [hx];exact hk);⟨k1,h1,.head h0 stepR_scopeD h2⟩⟩
 | goto l=>exact hq.elim
 | ret=>exact ⟨_,a1',w1,hq,.of_steps (.one h0 stepR_scopeD) harr⟩
 | panic ch=>exact ⟨_,a1',w1,hq,.of_steps (.one h0 stepR_scopeD) harr⟩
 | outgrown=>exact ⟨_,a1',w1,hq,.of_steps (.one h0 stepR_scopeD) harr⟩
theorem holds_some {o:Option (World->Prop)} {w:World} (h:holdsAt o w):∃ g,o=some g/\g w:=by
 cases o with
 | none=>exact h.elim
 | some g=>exact ⟨g,rfl,h⟩
theorem den_soundIn {F:Fence} {X:PanicK} {m n:Nat} {cuts loops:Marks} (hF:Free F) (hm:P.follows .mixedOrders=true):∀ (c:Code) (Q:Exit->Env->World->Prop) (ε:Env) (w:World) (a:Act),den P n X cuts loops c Q ε w->EnvD ds ε a->a.tmps.size=n->
  c.wpIn F m P (LiftX X ds n (wrs c) a Q) a w:=by
 intro c
 induction c with
 | skip=>intro Q ε w a h hε hn;exact wpIn_skip (.inr ⟨by simp,by simp,by simp,ε,hε,hn,SameBut.refl _ _,h⟩)
 | region id ops d =>
  intro Q ε w a h hε hn
  simp only [den] at h
  cases d with
  | false =>
   refine wpIn_region ?_
   rw [<- Array.length_toList]
   exact ops_sound hF _ ε w a h hε hn (fun Y hY pv w' a' hd hz hm hy=>.inl ⟨Y,pv,hY,rfl,hd,hz,hm,hy⟩) fun ε' a' w' h1 h2 h3 h4=>.inr ⟨by simp,by simp,by simp,ε',h1,h2,h3,h4⟩
  | true =>
   simp only at h
   split at h
   .rename_i hns
    obtain ⟨S,hS,h⟩:=h _ ⟨rfl⟩
    refine wpIn_region_any hm (wpN_any hF (S:=S) _ _ _ _ ?_)
    refine draw_sound (noSel_spec hns) LiftX.move _ [] ε w.drew a _ h hε hn (Listed.start _) (fun _=>hS) (fun Y hY pv w' a' hd hz hm hy=>.inl ⟨Y,pv,hY,rfl,hd,hz,hm,hy⟩) fun ε' a' w' h1 h2 h3 h4=>.inr ⟨by simp,by simp,by simp,ε',h1,h2,h3,h4⟩
   .exact h.elim
 | seq x y ihx ihy =>
  intro Q ε w a h hε hn
  simp only [den] at h
  split at h
  .refine wpIn_seq (wpIn_mono (ihx _ ε w a h hε hn) ?_)
   rintro e a' w' (⟨Y,pv,hY,rfl,hd,hz,hm,hy⟩| ⟨hp,ho,hg,ε',hε',hn',hsame,hq⟩)
   .exact .inl ⟨Y,pv,hY,rfl,hd,hz,hm.mono (by simp [wrs];intro t ht;exact .inl ht),hy⟩
   cases e with
   | normal =>
    refine wpIn_mono (ihy _ ε' w' a' hq hε' hn') ?_
    rintro e a'' w'' (⟨Y,pv,hY,rfl,hd,hz,hm,hy⟩| ⟨hp,ho,hg,ε'',hε'',hn'',hsame',hq'⟩)
    .exact .inl ⟨Y,pv,hY,rfl,hd,hz,(hsame.mono (by simp [wrs];intro t ht;exact .inl ht)).trans (hm.mono (by simp [wrs];intro t ht;exact .inr ht)),hy⟩
    exact .inr ⟨hp,ho,hg,ε'',hε'',hn'',(hsame.mono (by simp [wrs];intro t ht;exact .inl ht)).trans (hsame'.mono (by simp [wrs];intro t ht;exact .inr ht)),hq'⟩
   | panic c=>exact (hp c rfl).elim
   | outgrown=>exact (ho rfl).elim
   | goto l=>exact (hg l rfl).elim
   | _=>exact .inr ⟨by simp,by simp,by simp,ε',hε',hn',hsame.mono (by simp [wrs];intro t ht;exact .inl ht),hq⟩
  .rename_i keep ts zs hmk
   split at h
   .rename_i hok
    unfold okMark at hok
    rw [Bool.and_eq_true] at hok
    obtain ⟨J,h,hall⟩:=h
    refine wpIn_seq (wpIn_mono (ihx _ ε w a h hε hn) ?_)
    rintro e a' w' (⟨Y,pv,hY,rfl,hd,hz,hm,hy⟩| ⟨hp,ho,hg,ε',hε',hn',hsame,hq⟩)
    .exact .inl ⟨Y,pv,hY,rfl,hd,hz,hm.mono (by simp [wrs];intro t ht;exact .inl ht),hy⟩
    cases e with
    | normal =>
     simp only at hq
     split at hq
     .rename_i vs hvs
      obtain ⟨g,hg',_⟩:=holds_some hq
      have hden:=allCps_app hall hg' w' hq
      have hεk:EnvD ds (Env.laid ts vs (Env.keep ε keep)) a':=laid_ok (keep_ok hε hsame hok.1 hε'.1) (getL_at hvs hε')
      refine wpIn_mono (ihy _ _ w' a' hden hεk hn') ?_
      rintro e a'' w'' (⟨Y,pv,hY,rfl,hd,hz,hm,hy⟩| ⟨hp,ho,hg,ε'',hε'',hn'',hsame',hq'⟩)
      .exact .inl ⟨Y,pv,hY,rfl,hd,hz,(hsame.mono (by simp [wrs];intro t ht;exact .inl ht)).trans (hm.mono (by simp [wrs];intro t ht;exact .inr ht)),hy⟩
      exact .inr ⟨hp,ho,hg,ε'',hε'',hn'',(hsame.mono (by simp [wrs];intro t ht;exact .inl ht)).trans (hsame'.mono (by simp [wrs];intro t ht;exact .inr ht)),hq'⟩
     .exact hq.elim
    | panic c=>exact (hp c rfl).elim
    | outgrown=>exact (ho rfl).elim
    | goto l=>exact (hg l rfl).elim
    | _=>exact .inr ⟨by simp,by simp,by simp,ε',hε',hn',hsame.mono (by simp [wrs];intro t ht;exact .inl ht),hq⟩
   .exact h.elim
 | cond c x y ihx ihy =>
  intro Q ε w a h hε hn
  simp only [den] at h
  split at h
  .rename_i t ht
   have hc:=hε.eval ht
   cases t with
   | true =>
    refine wpIn_cond_true hc (wpIn_mono (ihx _ ε w a h hε hn) ?_)
    rintro e a'' w'' (⟨Y,pv,hY,rfl,hd,hz,hm,hy⟩| ⟨hp,ho,hg,ε'',hε'',hn'',hsame',hq'⟩)
    .exact .inl ⟨Y,pv,hY,rfl,hd,hz,hm.mono (by simp [wrs];intro t ht;exact .inl ht),hy⟩
    exact .inr ⟨hp,ho,hg,ε'',hε'',hn'',hsame'.mono (by simp [wrs];intro t ht;exact .inl ht),hq'⟩
   | false =>
    refine wpIn_cond_false hc (wpIn_mono (ihy _ ε w a h hε hn) ?_)
    rintro e a'' w'' (⟨Y,pv,hY,rfl,hd,hz,hm,hy⟩| ⟨hp,ho,hg,ε'',hε'',hn'',hsame',hq'⟩)
    .exact .inl ⟨Y,pv,hY,rfl,hd,hz,hm.mono (by simp [wrs];intro t ht;exact .inr ht),hy⟩
    exact .inr ⟨hp,ho,hg,ε'',hε'',hn'',hsame'.mono (by simp [wrs];intro t ht;exact .inr ht),hq'⟩
  .exact h.elim
 | block id x ih =>
  intro Q ε w a h hε hn
  simp only [den] at h
  refine wpIn_block (wpIn_mono (ih _ ε w a h hε hn) ?_)
  rintro e a' w' (⟨Y,pv,hY,rfl,hd,hz,hm,hy⟩| ⟨hp,ho,hg,ε',hε',hn',hsame,hq⟩)
  .exact .inl ⟨Y,pv,hY,rfl,hd,hz,hm,hy⟩
  cases e with
  | exit id' =>
   simp only [Exit.inBlock]
   simp only at hq
   split
   .rename_i e;rw [if_pos e] at hq;exact .inr ⟨by simp,by simp,by simp,ε',hε',hn',hsame,hq⟩
   .rename_i e;rw [if_neg e] at hq;exact .inr ⟨by simp,by simp,by simp,ε',hε',hn',hsame,hq⟩
  | panic c=>exact (hp c rfl).elim
  | outgrown=>exact (ho rfl).elim
  | goto l=>exact (hg l rfl).elim
  | _=>exact .inr ⟨by simp,by simp,by simp,ε',hε',hn',hsame,hq⟩
 | loop x ih =>
  intro Q ε w a h hε hn
  simp only [den] at h
  split at h
  .exact h.elim
  .rename_i keep ts zs hmk
   split at h
   .rename_i hok
    unfold okMark at hok
    rw [Bool.and_eq_true] at hok
    split at h
    .exact h.elim
    .rename_i vs0 hvs0
     obtain ⟨J,μ,h0,hall⟩:=h
     refine wpIn_loop (fun a' w'=>∃ vs,holdsAt (appCps zs J vs) w'/\EnvD ds (Env.laid ts vs (Env.keep ε keep)) a'/\vs.length=ts.length/\a'.tmps.size=n/\SameBut (wrs x) a a')
      (fun a' w'=>natAt (appCps zs μ (actVals a' ts)) w') ?_ ?_
     .exact ⟨vs0,h0,laid_ok (keep_ok hε (SameBut.refl _ _) hok.1 hε.1) (getL_at hvs0 hε),getL_len hvs0,hn,SameBut.refl _ _⟩
     .rintro a1' w1 ⟨vs,hJ,hε1',hlen,hn1',hsame1⟩
      obtain ⟨g,hg',_⟩:=holds_some hJ
      have hden:=allCps_app hall hg' w1 hJ
      have hav:actVals a1' ts=vs:=actVals_eq (getL_laid hok.2 hlen) hε1'
      refine wpIn_mono (ih _ _ w1 a1' hden hε1' hn1') ?_
      rintro e a' w' (⟨Y,pv,hY,rfl,hd,hz,hm,hy⟩| ⟨hp,ho,hg,ε',hε',hn',hsame,hq⟩)
      .exact .inl ⟨Y,pv,hY,rfl,hd,hz,hsame1.trans hm,hy⟩
      cases e with
      | normal =>
       simp only at hq
       split at hq
       .rename_i us hus
        have hau:actVals a' ts=us:=actVals_eq hus hε'
        refine ⟨⟨us,hq.1,laid_ok (keep_ok hε (hsame1.trans hsame) hok.1 hε'.1) (getL_at hus hε'),getL_len hus,hn',hsame1.trans hsame⟩,?_⟩
        show natAt (appCps zs μ (actVals a' ts)) w' < natAt (appCps zs μ (actVals a1' ts)) w1
        rw [hau,hav];exact hq.2
       .exact hq.elim
      | panic c=>exact (hp c rfl).elim
      | outgrown=>exact (ho rfl).elim
      | goto l=>exact (hg l rfl).elim
      | _=>exact .inr ⟨by simp,by simp,by simp,ε',hε',hn',hsame1.trans hsame,hq⟩
   .exact h.elim
 | exit id=>intro Q ε w a h hε hn;exact wpIn_exit (.inr ⟨by simp,by simp,by simp,ε,hε,hn,SameBut.refl _ _,h⟩)
 | ret=>intro Q ε w a h hε hn;exact wpIn_ret (.inr ⟨by simp,by simp,by simp,ε,hε,hn,SameBut.refl _ _,h⟩)
 | label l=>intro Q ε w a h hε hn;exact wpIn_label (.inr ⟨by simp,by simp,by simp,ε,hε,hn,SameBut.refl _ _,h⟩)
 | goto l=>intro Q ε w a h;exact h.elim
 | scope x ih =>
  intro Q ε w a h hε hn
  simp only [den] at h
  refine wpIn_scopeD (wpIn_mono (ih _ ε w a h hε hn) ?_)
  rintro e a' w' (⟨Y,pv,hY,rfl,hd,hz,hm,hy⟩| ⟨hp,ho,hg,ε',hε',hn',hsame,hq⟩)
  .exact .inl ⟨Y,pv,hY,rfl,hd,hz,hm,hy⟩
  cases e with
  | panic c=>exact (hp c rfl).elim
  | outgrown=>exact (ho rfl).elim
  | goto l=>exact (hg l rfl).elim
  | _=>exact .inr ⟨by simp,by simp,by simp,ε',hε',hn',hsame,hq⟩
 | rangeFunc f ps x y _ _=>intro Q ε w a h;exact h.elim
 | refuse why=>intro Q ε w a h;exact h.elim
theorem run_results {ε:Env} {a:Act} {w:World} (hε:EnvD ds ε a):∀ {rs:List ResultVar} {K:List Value->Prop},resP P ε w rs K->
  ∃ vs,K vs/\(rs.mapM (fun | .tmp t=>pure (a.tmps.getD t undef) | .cell p t=>do loadVar t (<- asAddr (a.tmps.getD p undef)):ResultVar->Sem Value)).run P w= .ok vs w
 | [],K,h=>⟨[],h,rfl⟩
 | .tmp t :: r,K,h=>by
  simp only [resP] at h
  split at h
  .rename_i v hv
   obtain ⟨vs,hk,hr⟩:=run_results hε h
   refine ⟨v :: vs,hk,?_⟩
   have:=hε.2 t v hv
   simp only [List.mapM_cons,Sem.run_bind,Sem.run_pure,Result.andThen_ok,hr]
   simp [this]
  .exact h.elim
 | .cell p ty :: r,K,h=>by
  simp only [resP] at h
  split at h
  .rename_i b hb
   obtain ⟨v,h,hw⟩:=load_sound (P:=P) (C_mono w) h
   obtain ⟨vs,hk,hr⟩:=run_results hε h
   refine ⟨v :: vs,hk,?_⟩
   have:=hε.2 p _ hb
   have e1:a.tmps.getD p undef= .pointer (some b):=by simp [this]
   have hw':(loadVar ty b).run P w= .ok v w:=hw
   have ha:(asAddr (.pointer (some b))).run P w= .ok b w:=rfl
   simp only [List.mapM_cons,Sem.run_bind,e1,ha,Sem.run_pure,Result.andThen_ok,hw',hr]
  .exact h.elim
theorem argEnv_get:∀ {vs:List Value} {i t:Nat} {v:Value},(argEnv i vs).get t=some v->i<=t/\vs[t - i]?=some v
 | [],i,t,v,h=>by cases h
 | u :: vs,i,t,v,h=>by
  simp only [argEnv,Env.get] at h
  split at h
  .rename_i e;subst e;cases h;simp
  .obtain ⟨h1,h2⟩:=argEnv_get h
   refine ⟨by omega,?_⟩
   obtain ⟨k,hk⟩: ∃ k,t - i=k+1:=⟨t - i - 1,by omega⟩
   rw [hk]
   simp
   rwa [show t - (i+1)=k by omega] at h2
theorem results_sound {fn:Func} {ε:Env} {a:Act} {w:World} (hε:EnvD ds ε a) {R:Value->World->Prop} (h:resP P ε w fn.results.toList fun vs=>R (retOf vs) w) :
  ∃ v,(results fn a.tmps).run P w= .ok v w/\R v w:=by
 obtain ⟨vs,hr,hm⟩:=run_results hε h
 have hmA:(fn.results.mapM (fun | .tmp t=>pure (a.tmps.getD t undef) | .cell p t=>do loadVar t (<- asAddr (a.tmps.getD p undef)):ResultVar->Sem Value)).run P w= .ok vs.toArray w:=by
  rw [<- Array.toArray_toList (xs:=fn.results),List.mapM_toArray,Sem.run_map,hm]
  rfl
 refine ⟨retOf vs,?_,hr⟩
 unfold results
 rw [Sem.run_bind]
 refine (congrArg (fun r=>Result.andThen r _) hmA).trans ?_
 simp only [Result.andThen_ok,Sem.run_pure]
 congr 1
 cases vs with
 | nil=>simp [retOf]
 | cons v vs =>
  cases vs with
  | nil=>simp [retOf]
  | cons u us=>simp [retOf]
def coll (D:Nat):Deferred:={ target:=.collected D,args:=#[] }
def LiftD (n:Nat) (Q:Exit->List Nat->Env->World->Prop):Exit->Act->World->Prop :=
 fun e a' w'=>(∀ c,e≠ .panic c)/\(e≠ .outgrown)/\(∀ l,e≠ .goto l)/\∃ Ds ε',EnvD (Ds.map coll) ε' a'/\a'.tmps.size=n/\Q e Ds ε' w'
theorem exCps_len {zs:List Value}:∀ {f:List Value->Prop},exCps zs f->∃ vs,vs.length=zs.length/\f vs:=by
 induction zs with
 | nil=>intro f h;exact ⟨[],rfl,h⟩
 | cons z zs ih =>
  intro f h
  obtain ⟨v,h⟩:=exCp_some h
  obtain ⟨vs,hl,h⟩:=ih h
  exact ⟨v :: vs,by simp [hl],h⟩
def setAll (tmps:Array Value) (ts:List Nat) (vs:List Value):Array Value:=(ts.zip vs).foldl (fun t p=>t.setIfInBounds p.1 p.2) tmps
theorem setAll_size:∀ (ts:List Nat) (vs:List Value) (tmps:Array Value),(setAll tmps ts vs).size=tmps.size
 | [],vs,tmps=>rfl
 | t :: ts,[],tmps=>rfl
 | t :: ts,v :: vs,tmps=>by
  have:=setAll_size ts vs (tmps.setIfInBounds t v)
  simpa [setAll] using this
theorem setAll_other:∀ (ts:List Nat) (vs:List Value) (tmps:Array Value) (s:Nat),s ∉ ts->(setAll tmps ts vs)[s]?=tmps[s]?
 | [],vs,tmps,s,h=>rfl
 | t :: ts,[],tmps,s,h=>rfl
 | t :: ts,v :: vs,tmps,s,h=>by
  have h1:t≠s:=fun e=>h (by simp [e])
  have h2:s ∉ ts:=fun e=>h (by simp [e])
  have:=setAll_other ts vs (tmps.setIfInBounds t v) s h2
  rw [Array.getElem?_setIfInBounds_ne h1] at this
  exact this
theorem setAll_at:∀ (ts:List Nat) (vs:List Value) (tmps:Array Value),okMark.nodupL ts=true->(∀ t∈ts,t<tmps.size)->∀ (j t:Nat) (v:Value),ts[j]?=some t->vs[j]?=some v->(setAll tmps ts vs)[t]?=some v
 | [],vs,tmps,_,_,j,t,v,ht,hv=>by simp at ht
 | s :: ts,[],tmps,_,_,j,t,v,ht,hv=>by simp at hv
 | s :: ts,u :: vs,tmps,hd,hlt,j,t,v,ht,hv=>by
  simp only [okMark.nodupL,Bool.and_eq_true,Bool.not_eq_true'] at hd
  have hnot:s ∉ ts:=by simpa using hd.1
  cases j with
  | zero =>
   simp at ht hv
   subst ht;subst hv
   have:=setAll_other ts vs (tmps.setIfInBounds s u) s hnot
   have hs:s<tmps.size:=hlt s (by simp)
   refine this.trans ?_
   simp [hs]
  | succ j =>
   exact setAll_at ts vs (tmps.setIfInBounds s u) hd.2 (fun t ht=>by simpa using hlt t (by simp [ht])) j t v (by simpa using ht) (by simpa using hv)
theorem foldl_setAll (ps:Array Tmp) (vs:List Value) (tmps:Array Value):(ps.zip vs.toArray).foldl (fun tmps (x:Tmp×Value)=>tmps.setIfInBounds x.1 x.2) tmps=setAll tmps ps.toList vs:=by
 rw [<- Array.foldl_toList,Array.toList_zip]
 rfl
theorem range_sound {m n:Nat} {cuts loops:Marks} (hm:P.follows .mixedOrders=true) {g:Operand} {ps:Array Tmp} {ag bd:Code} {Q:Exit->List Nat->Env->World->Prop} {ε:Env} {w:World} {a:Act}
  (h:denD P n cuts loops (.rangeFunc g ps ag bd) Q [] ε w) (hε:EnvD [] ε a) (hn:a.tmps.size=n):(Code.rangeFunc g ps ag bd).wpIn Fence.wide m P (LiftD n Q) a w:=by
 simp only [denD] at h
 split at h
 .rename_i v hg
  .split at h
   .rename_i keep ts zs hmk
    split at h
    .rename_i hok
     unfold okRange at hok
     simp only [Bool.and_eq_true,decide_eq_true_eq,List.all_eq_true] at hok
     obtain ⟨⟨⟨hts,hzs⟩,hok⟩,hlt⟩:=hok
     unfold okMark at hok
     rw [Bool.and_eq_true] at hok
     unfold rangeP at h
     split at h
     case h_2=>exact h.elim
     rename_i gf first cap
     obtain ⟨hfirst,hb,h⟩:=h
     have e1:first=#[]:=Array.toList_eq_nil_iff.1 hfirst
     subst e1
     refine wpIn_rangeFunc fun fn _=>?_
     have hround:∀ (rec:Loop) (l:Nat),rec={ state:=.ready,pending:=none,fn:=fn,tmps:=a.tmps,params:=ps,assign:=ag,body:=bd,defers:=w.heap.size }->
       ∀ args W R,W.heap[l]?=some (.loop rec)->(exCps zs fun vs=>args=vs/\den P n none cuts loops ag (fun e ε1 Wa=>match e with
        | .normal=>busyP l rec Wa fun Wb=>den P n none cuts loops bd (fun e _ U=>match e with
         | .normal=>readyP l rec U R
         | _=>False) ε1 Wb
        | _=>False) (Env.laid ts vs (Env.keep ε keep)) W)->yieldP P l args W R:=by
      intro rec l hrec args W R hW hr F k hF
      obtain ⟨vs,hvs,rfl,hr⟩:=exCps_len hr
      have hy:=run_yield (P:=P) (args:=args.toArray) hW (by rw [hrec];simp [hvs,hzs,hts])
      have hset:((rec.params.zip args.toArray).foldl (fun tmps (x:Tmp×Value)=>tmps.setIfInBounds x.1 x.2) rec.tmps)=setAll a.tmps ts args:=by
       rw [foldl_setAll,hts,hrec]
      have hF':Free (F.inRound l):=by
       rcases hF with rfl | ⟨l',rfl⟩
       .exact .inr ⟨l,rfl⟩
       .exact .inr ⟨l,rfl⟩
      refine ⟨_,_,_,_,hy,roundIn_of_wpIn (hF.fn _) ?_⟩
      rw [hset]
      have hsz:(setAll a.tmps ts args).size=n:=by rw [setAll_size];exact hn
      have hkeep:EnvD [] (Env.keep ε keep) { tmps:=setAll a.tmps ts args,defers:=[] }:=keep_ok (ws:=ts) hε (fun t ht=>setAll_other ts args a.tmps t ht) hok.1 rfl
      have hlaid:EnvD [] (Env.laid ts args (Env.keep ε keep)) { tmps:=setAll a.tmps ts args,defers:=[] }:=laid_ok hkeep (setAll_at ts args a.tmps hok.2 (fun t ht=>by rw [hn];exact of_decide_eq_true (by simpa using hlt t ht)))
      have e2:rec.assign=ag:=by rw [hrec]
      have e3:rec.body=bd:=by rw [hrec]
      rw [e2,e3]
      refine wpIn_mono (den_soundIn hF' hm ag _ _ W _ hr hlaid hsz) ?_
      rintro e a1 Wa (⟨_,_,hY,_⟩| ⟨hp,ho,hg',ε1,hε1,hn1,hsame,hq⟩)
      .cases hY
      cases e with
      | normal =>
       obtain ⟨hWa,hq⟩:=hq
       refine ⟨_,run_beginRound hWa (by rw [hrec]),?_⟩
       refine wpIn_mono (den_soundIn hF' hm bd _ _ _ _ hq hε1 hn1) ?_
       rintro e a2 U (⟨_,_,hY,_⟩| ⟨hp,ho,hg',ε2,hε2,hn2,hsame2,hq⟩)
       .cases hY
       cases e with
       | normal =>
        obtain ⟨hU,hR⟩:=hq
        have hend:=run_endRound (P:=P) none hU
        refine ⟨_,_,hend,_,rfl,?_⟩
        have e4:({ ({ rec with state:=LoopState.busy }:Loop) with state:=if (none:Option Code).isNone then LoopState.ready else LoopState.done,pending:=none }:Loop)=rec:=by rw [hrec];rfl
        rw [e4]
        exact hR
       | panic c=>exact (hp c rfl).elim
       | outgrown=>exact (ho rfl).elim
       | goto l=>exact (hg' l rfl).elim
       | _=>exact hq.elim
      | panic c=>exact (hp c rfl).elim
      | outgrown=>exact (ho rfl).elim
      | goto l=>exact (hg' l rfl).elim
      | _=>exact hq.elim
     obtain ⟨W1,hW1⟩: ∃ W1,W1=(w.alloc (.deferred (some []))).alloc (.loop { state:=.ready,pending:=none,fn:=fn,tmps:=a.tmps,params:=ps,assign:=ag,body:=bd,defers:=w.heap.size }):=⟨_,rfl⟩
     refine ⟨w.heap.size+1,[coll w.heap.size],W1,{ target:=.fn (.func gf) cap,args:=#[.func (.yield (w.heap.size+1)) #[] #[]] },W1,gf,(.func (.yield (w.heap.size+1)) #[] #[] :: cap.toList).toArray,W1,(by rw [hW1];exact run_enterLoop_outer _ _ _ _ _),?_,fun _ _=>trivial,?_,(fun hx=>by cases hx),?_⟩
     .have hge:=hε.eval hg
      show (Deferred.ofValue (a.eval g) _).run P W1=_
      rw [hge]
      simp [Deferred.ofValue,rangeCall,Act.eval]
     .have:(#[Value.func (.yield (w.heap.size+1)) #[] #[]] ++ cap)=(.func (.yield (w.heap.size+1)) #[] #[] :: cap.toList).toArray:=by apply Array.ext';simp
      simp only [invoke,this,run_callFunc hb]
     .refine callsIn_wide.2 (Calls.mono (h w.heap.size (w.heap.size+1) _ _ _ ⟨rfl,rfl⟩ ⟨by rw [World.size_alloc],hW1⟩ (hround _ _ rfl)) ?_)
      rintro e w3 ⟨v,rfl,hl,hk⟩
      refine ⟨none,_,run_endLoop hl (by simp),?_⟩
      exact ⟨by simp,by simp,by simp,[w.heap.size],ε,⟨by rw [hε.1];rfl,hε.2⟩,hn,hk _⟩
    .exact h.elim
   .exact h.elim
 .exact h.elim
theorem denD_plain {m n:Nat} {cuts loops:Marks} (hm:P.follows .mixedOrders=true) {c:Code} {Q:Exit->List Nat->Env->World->Prop} {Ds:List Nat} {ε:Env} {w:World} {a:Act}
  (h:den P n none cuts loops c (fun e ε' w'=>Q e Ds ε' w') ε w) (hε:EnvD (Ds.map coll) ε a) (hn:a.tmps.size=n):c.wpIn Fence.wide m P (LiftD n Q) a w:=by
 refine wpIn_mono (den_soundIn (.inl rfl) hm c _ _ w _ h hε hn) ?_
 rintro e a' w' (⟨_,_,hY,_⟩| ⟨hp,ho,hg,ε',hε',hn',hsame,hq⟩)
 .cases hY
 exact ⟨hp,ho,hg,Ds,ε',hε',hn',hq⟩
theorem denD_sound {m n:Nat} {cuts loops:Marks} (hm:P.follows .mixedOrders=true):∀ (c:Code) (Q:Exit->List Nat->Env->World->Prop) (Ds:List Nat) (ε:Env) (w:World) (a:Act),denD P n cuts loops c Q Ds ε w->EnvD (Ds.map coll) ε a->a.tmps.size=n->
  c.wpIn Fence.wide m P (LiftD n Q) a w:=by
 intro c
 induction c with
 | rangeFunc g ps ag bd _ _ =>
  intro Q Ds ε w a h hε hn
  cases Ds with
  | nil=>exact range_sound hm h hε hn
  | cons D Ds=>simp only [denD] at h
 | seq x y ihx ihy =>
  intro Q Ds ε w a h hε hn
  simp only [denD] at h
  split at h
  .refine wpIn_seq (wpIn_mono (ihx _ _ _ _ _ h hε hn) ?_)
   rintro e a' w' ⟨hp,ho,hg,Ds',ε',hε',hn',hq⟩
   cases e with
   | normal=>exact ihy _ _ _ _ _ hq hε' hn'
   | panic c=>exact (hp c rfl).elim
   | outgrown=>exact (ho rfl).elim
   | goto l=>exact (hg l rfl).elim
   | _=>exact ⟨by simp,by simp,by simp,Ds',ε',hε',hn',hq⟩
  .exact denD_plain hm h hε hn
 | block id x ih =>
  intro Q Ds ε w a h hε hn
  simp only [denD] at h
  split at h
  .refine wpIn_block (wpIn_mono (ih _ _ _ _ _ h hε hn) ?_)
   rintro e a' w' ⟨hp,ho,hg,Ds',ε',hε',hn',hq⟩
   cases e with
   | exit id' =>
    simp only [Exit.inBlock]
    simp only at hq
    split
    .rename_i e;rw [if_pos e] at hq;exact ⟨by simp,by simp,by simp,Ds',ε',hε',hn',hq⟩
    .rename_i e;rw [if_neg e] at hq;exact ⟨by simp,by simp,by simp,Ds',ε',hε',hn',hq⟩
   | panic c=>exact (hp c rfl).elim
   | outgrown=>exact (ho rfl).elim
   | goto l=>exact (hg l rfl).elim
   | _=>exact ⟨by simp,by simp,by simp,Ds',ε',hε',hn',hq⟩
  .exact denD_plain hm h hε hn
 | _=>intro Q Ds ε w a h hε hn;exact denD_plain hm h hε hn
theorem calls_body {f:FuncId} {fn:Func} (hm:P.follows .mixedOrders=true) (hf:P.funcs[f]?=some fn) (cuts loops:Marks) {args:List Value} {w:World} {R:Value->World->Prop}
  (h:bodyOf P fn cuts loops args w R):CallsR P f args.toArray w R:=by
 unfold bodyOf at h
 split at h
 .rename_i c hb
  split at h
  .rename_i hl
   have hsz:(args.toArray ++ Array.replicate (fn.ntmps - args.toArray.size) undef).size=fn.ntmps:=by simp;omega
   have hε:EnvD [] (argEnv 0 args) { tmps:=args.toArray ++ Array.replicate (fn.ntmps - args.toArray.size) undef,defers:=[] }:=by
    refine ⟨rfl,fun t v hv=>?_⟩
    obtain ⟨_,hv⟩:=argEnv_get hv
    have hlt:t<args.length:=by
     have:=(List.getElem?_eq_some_iff.1 hv).1
     omega
    simp only [Nat.sub_zero] at hv
    rw [Array.getElem?_append_left (by simpa using hlt)]
    simpa using hv
   split at h
   .refine callsIn_wide.1 (callsIn_of_wp_marks (F:=Fence.wide) (n:=0) hf hb trivial (wpIn_mono (denD_sound hm c _ [] _ w _ h hε hsz) ?_))
    rintro e a' w' ⟨hp,ho,hg,Ds,ε',hε',hn',hq⟩
    have key:∀ {e:Exit},e= .normal\/e= .ret->retQD P fn.results.toList R e Ds ε' w'->LeavesInM Fence.wide 0 P fn a'.tmps (fun e w'=>∃ v,e= .returned v/\R v w') a'.defers .returning w':=by
     intro e he hq
     rw [hε'.1]
     cases Ds with
     | nil =>
      have hq':resP P ε' w' fn.results.toList fun vs=>R (retOf vs) w':=by
       rcases he with rfl | rfl<;>exact hq
      obtain ⟨v,hr,hR⟩:=results_sound hε' hq'
      exact ⟨v,hr,v,rfl,hR⟩
     | cons D Ds =>
      cases Ds with
      | nil =>
       have hq':w'.heap[D]?=some (.deferred (some []))/\resP P ε' (w'.putObj D (.deferred none)) fn.results.toList fun vs=>R (retOf vs) (w'.putObj D (.deferred none)):=by
        rcases he with rfl | rfl<;>exact hq
       obtain ⟨v,hr,hR⟩:=results_sound hε' hq'.2
       exact ⟨by simp,.inl ⟨D,_,rfl,run_takeDeferred hq'.1,v,hr,v,rfl,hR⟩⟩
      | cons D' Ds=>rcases he with rfl | rfl<;>exact hq.elim
    cases e with
    | normal=>exact key (.inl rfl) hq
    | ret=>exact key (.inr rfl) hq
    | panic c=>exact (hp c rfl).elim
    | outgrown=>exact (ho rfl).elim
    | goto l=>exact (hg l rfl).elim
    | _=>cases Ds with
     | nil=>exact hq.elim
     | cons D Ds=>cases Ds<;>exact hq.elim
   .refine callsIn_wide.1 (callsIn_of_wp (F:=Fence.wide) (n:=0) hf hb trivial (wpIn_mono (den_soundIn (.inl rfl) hm c _ _ w _ h hε hsz) ?_))
    rintro e a' w' (⟨_,_,hY,_⟩| ⟨hp,ho,hg,ε',hε',hn',hsame,hq⟩)
    .cases hY
    cases e with
    | normal =>
     obtain ⟨v,hr,hR⟩:=results_sound hε' hq
     exact ⟨hε'.1,v,hr,v,rfl,hR⟩
    | ret =>
     obtain ⟨v,hr,hR⟩:=results_sound hε' hq
     exact ⟨hε'.1,v,hr,v,rfl,hR⟩
    | _=>exact hq.elim
  .exact h.elim
 .exact h.elim
end
section
variable {P:Program}
end
end Go.Den
section
namespace Go.Den
open Go.Proofs
noncomputable def prog:Program:=Tryz.prog
theorem follows:prog.follows .mixedOrders=true:=by kernel_rfl
def br (b:Bool) (X Y:Prop):Prop:=match b with | true=>X | false=>Y
def callT (v:Value) (args:List Value) (w:World) (K:Value->World->Prop):Prop :=
 match v with
 | .func (.func f) first captured=>hasBody prog f=true/\CallsR prog f (first.toList ++ args ++ captured.toList).toArray w K
 | .func (.yield l) first captured=>first.toList=[]/\captured.toList=[]/\yieldP prog l args w K
 | _=>False
namespace K
def carracklaw19_StemNil:Nat:=6
def nand_New:Nat:=9
def carracklaw19_geo:Nat:=10
def stem_Make:Nat:=11
def stem_Open:Nat:=12
def carracklaw19_lives:Nat:=13
def stem_Stem_Put:Nat:=15
def stem_Stem_Sync:Nat:=16
def carrackref18_Facts:Nat:=17
def stem_Stem_Tidy:Nat:=23
def stem_Stem_Facts:Nat:=24
def stem_Stem_Blanks:Nat:=25
def stem_Stem_Chip:Nat:=26
def carrackref02_Size:Nat:=27
def slices_Repeat_byte:Nat:=33
def pool_Scan:Nat:=34
def stem_Stem_own:Nat:=35
def stem_greatest:Nat:=36
def stem_Stem_end:Nat:=37
def walk_Facts:Nat:=38
def walk_Newest:Nat:=39
def slices_Clone_api_Fact:Nat:=40
def walk_Pages:Nat:=41
def nand_Chip_Read:Nat:=42
def stem_Stem_behind:Nat:=43
def nand_Chip_Geo:Nat:=44
def stem_Stem_off:Nat:=48
def stem_Stem_dead:Nat:=49
def rec_Put:Nat:=50
def pool_Pool_Chip:Nat:=51
def fact_Apply:Nat:=52
def fact_Same:Nat:=53
def stem_Stem_missing:Nat:=54
def stem_ceil:Nat:=55
def pool_Pool_Blanks:Nat:=56
def stem_Stem_reserve:Nat:=57
def stem_Stem_free:Nat:=58
def stem_Stem_store:Nat:=59
def carrackref18_walked:Nat:=60
def nand_Chip_off:Nat:=65
def slices_Concat_byte:Nat:=66
def bytes_Clone:Nat:=68
def slices_Clone_byte:Nat:=71
def bits_Mul:Nat:=75
def pool_Pool_look:Nat:=76
def pool_Pool_Taken:Nat:=77
def seal_Get:Nat:=78
def point_Get:Nat:=79
def point_Put:Nat:=80
def stem_Stem_write:Nat:=81
def walk_walked:Nat:=82
def walk_Blocks:Nat:=83
def point_Newer:Nat:=84
def nand_Chip_ask:Nat:=85
def nand_Chip_page:Nat:=86
def seal_Blank:Nat:=87
def carrackref02_Noughts:Nat:=89
def rec_body:Nat:=92
def seal_Put:Nat:=93
def pool_Pool_off:Nat:=94
def fact_isOrdered:Nat:=95
def fact_own:Nat:=96
def fact_place:Nat:=97
def slices_Delete_api_Fact:Nat:=98
def slices_Insert_api_Fact:Nat:=99
def slices_EqualFunc_api_Fact:Nat:=100
def fact_Same_1:Nat:=101
def slices_Equal_byte:Nat:=102
def stem_lay:Nat:=103
def stem_Stem_missing_1:Nat:=104
def nand_Chip_Bad:Nat:=105
def room_Want:Nat:=106
def stem_Stem_store_1:Nat:=108
def carrackref18_Newest:Nat:=109
def carrackref18_Blocks:Nat:=110
def carrackref18_Tree_down:Nat:=111
def slices_Grow_byte:Nat:=115
def carrackref04_Head:Nat:=116
def carrackref06_Before:Nat:=118
def bits_Mul64:Nat:=121
def pool_GetHead:Nat:=122
def slices_SortStableFunc_api_Taken:Nat:=123
def pool_Pool_Taken_1:Nat:=124
def seal_isSize:Nat:=125
def ends_New:Nat:=126
def ends_Reader_Take:Nat:=127
def seal_Noughts:Nat:=128
def seal_Body:Nat:=129
def point_may:Nat:=130
def ends_Reader_Left:Nat:=131
def point_lay:Nat:=132
def pool_Pool_Take:Nat:=133
def nand_Chip_Program:Nat:=134
def walk_tree_walk:Nat:=135
def walk_asked:Nat:=136
def carrackref06_MayKey:Nat:=137
def rec_change:Nat:=138
def ends_Put:Nat:=139
def fact_Before:Nat:=140
def fact_own_1:Nat:=141
def sort_Search:Nat:=142
def fact_place_1:Nat:=143
def slices_overlaps_api_Fact:Nat:=144
def slices_rotateRight_api_Fact:Nat:=145
def stem_plan:Nat:=146
def leaf_PutLeaf:Nat:=147
def leaf_PutInner:Nat:=148
def room_May:Nat:=149
def room_want:Nat:=150
def nand_Chip_Erase:Nat:=151
def carrackref02_Get:Nat:=152
def carrackref17_Get:Nat:=153
def carrackref04_Of:Nat:=154
def carrackref18_Tree_has:Nat:=155
def carrackref18_Tree_met:Nat:=156
def carrackref15_GetLeaf:Nat:=157
def carrackref15_GetInner:Nat:=158
def carrackref04_GetHead:Nat:=159
def carrackref06_order:Nat:=160
def pool_PutHead:Nat:=161
def slices_stableCmpFunc_api_Taken:Nat:=162
def ends_Reader_off:Nat:=163
def ends_isSize:Nat:=164
def ends_Reader_cut:Nat:=165
def bits_OnesCount8:Nat:=166
def pool_Pool_alive:Nat:=167
def pool_Pool_try:Nat:=168
def nand_Chip_done:Nat:=169
def nand_Chip_Program_1:Nat:=170
def carrackref05_Name:Nat:=177
def fact_PutKey:Nat:=178
def rec_join:Nat:=179
def ends_Row:Nat:=180
def fact_order:Nat:=181
def shape_Leaves:Nat:=183
def shape_Above:Nat:=184
def room_Cap:Nat:=185
def nand_Chip_Erase_1:Nat:=186
def carrackref02_Blank:Nat:=187
def carrackref01_Reader_Take:Nat:=188
def carrackref17_May:Nat:=189
def carrackref04_Taken:Nat:=190
def carrackref06_GetKey:Nat:=191
def carrackref01_Reader_Row:Nat:=192
def carrackref01_Reader_Left:Nat:=193
def carrackref04_MayHead:Nat:=194
def slices_insertionSortCmpFunc_api_Taken:Nat:=195
def slices_symMergeCmpFunc_api_Taken:Nat:=196
def nand_Chip_strike:Nat:=197
def fact_MayKey:Nat:=203
def cmp_Or_int:Nat:=204
def cmp_Compare_int:Nat:=205
def cmp_Compare_uint8:Nat:=206
def cmp_Compare_string:Nat:=207
def shape_cut:Nat:=209
def shape_Leaves_1:Nat:=210
def leaf_LeafLength:Nat:=211
def shape_Above_1:Nat:=212
def leaf_InnerLength:Nat:=213
def room_within:Nat:=214
def carrackref01_Size:Nat:=215
def path_Name:Nat:=221
def cmp_isNaN_int:Nat:=222
def cmp_isNaN_uint8:Nat:=223
def cmp_isNaN_string:Nat:=224
def shape_End:Nat:=225
def path_may:Nat:=228
def shape_End_1:Nat:=229
end K
namespace T
def func:Nat:=1
def int:Nat:=3
def bool:Nat:=4
def uint8:Nat:=5
def string:Nat:=9
def interface:Nat:=20
def api_Key:Nat:=24
def L_uint8:Nat:=25
def api_Fact:Nat:=27
def api_Geo:Nat:=33
def p_stem_Stem:Nat:=35
def api_Change:Nat:=40
def L_api_Fact:Nat:=46
def map_stringapi_Place:Nat:=65
def api_Place:Nat:=67
def stem_Stem:Nat:=70
def api_Hit:Nat:=79
def A3int:Nat:=87
def nand_Chip:Nat:=92
def L_int:Nat:=96
def api_Point:Nat:=102
def carrackref18_Tree:Nat:=123
def pool_Pool:Nat:=140
def api_Head:Nat:=143
def pool_block:Nat:=145
def api_Taken:Nat:=149
def walk_tree:Nat:=162
def A4uint64:Nat:=209
def point_field:Nat:=214
def api_Child:Nat:=231
def ends_Reader:Nat:=242
def struct:Nat:=249
def L_api_Key:Nat:=259
def carrackref01_Reader:Nat:=263
end T
end Go.Den
end
namespace Go.Den
section
set_option maxRecDepth 100000
open Go.Proofs
def carracklaw19_StemNil.body (l:Option Addr) (lL lC:Nat) (zero:Bool) (w:World) (R:RT):Prop :=
 br zero (∀ B1 w1,New w (.cells #[.pointer none,.int .u32 0,.slice none 0 0,.slice none 0 0,.map none,.int .i64 0,.int .i64 0,.int .u64 0,.int .i64 0,.int .i64 0] T.stem_Stem) B1 w1->CallsR prog K.stem_Stem_Put #[.pointer (some ⟨B1,0,none⟩),.slice l lL lC] w1 fun v1 w2=>∃ x1,v1= .int .i64 x1/\br (x1 == 1) (CallsR prog K.stem_Stem_Sync #[.pointer (some ⟨B1,0,none⟩)] w2 fun v2 w3=>∃ x2,v2= .int .i64 x2/\br (x2 == 1) (CallsR prog K.stem_Stem_Tidy #[.pointer (some ⟨B1,0,none⟩),.int .i64 1] w3 fun v3 w4=>∃ x3,v3= .int .i64 x3/\br (x3 == 1) (CallsR prog K.stem_Stem_Facts #[.pointer (some ⟨B1,0,none⟩)] w4 fun v4 w5=>∃ a1 l1 c1,v4= .slice a1 l1 c1/\br (((l1:Nat):Int) == 0) (CallsR prog K.stem_Stem_Blanks #[.pointer (some ⟨B1,0,none⟩)] w5 fun v5 w6=>∃ x4,v5= .int .i64 x4/\br (x4 == 0) (CallsR prog K.stem_Stem_Chip #[.pointer (some ⟨B1,0,none⟩)] w6 fun v6 w7=>∃ p1,v6= .pointer p1/\br (Option.isNone p1) (CallsR prog K.carrackref02_Size #[.int .i64 128] w7 fun v7 w8=>∃ b1,v7= .bool b1/\br b1 (CallsR prog K.carracklaw19_lives #[] w8 fun v8 w9=>∃ b2,v8= .bool b2/\R (.bool b2) w9) (R (.bool false) w8)) (R (.bool false) w7)) (R (.bool false) w6)) (R (.bool false) w5)) (R (.bool false) w4)) (R (.bool false) w3)) (R (.bool false) w2)) (CallsR prog K.stem_Stem_Put #[.pointer none,.slice l lL lC] w fun v9 w10=>∃ x5,v9= .int .i64 x5/\br (x5 == 1) (CallsR prog K.stem_Stem_Sync #[.pointer none] w10 fun v10 w11=>∃ x6,v10= .int .i64 x6/\br (x6 == 1) (CallsR prog K.stem_Stem_Tidy #[.pointer none,.int .i64 1] w11 fun v11 w12=>∃ x7,v11= .int .i64 x7/\br (x7 == 1) (CallsR prog K.stem_Stem_Facts #[.pointer none] w12 fun v12 w13=>∃ a2 l2 c2,v12= .slice a2 l2 c2/\br (((l2:Nat):Int) == 0) (CallsR prog K.stem_Stem_Blanks #[.pointer none] w13 fun v13 w14=>∃ x8,v13= .int .i64 x8/\br (x8 == 0) (CallsR prog K.stem_Stem_Chip #[.pointer none] w14 fun v14 w15=>∃ p2,v14= .pointer p2/\br (Option.isNone p2) (CallsR prog K.carrackref02_Size #[.int .i64 128] w15 fun v15 w16=>∃ b3,v15= .bool b3/\br b3 (CallsR prog K.carracklaw19_lives #[] w16 fun v16 w17=>∃ b4,v16= .bool b4/\R (.bool b4) w17) (R (.bool false) w16)) (R (.bool false) w15)) (R (.bool false) w14)) (R (.bool false) w13)) (R (.bool false) w12)) (R (.bool false) w11)) (R (.bool false) w10))
theorem carracklaw19_StemNil.sh {l lL lC zero w R} (h:carracklaw19_StemNil.body l lL lC zero w R) :
  CallsR prog K.carracklaw19_StemNil #[.slice l lL lC,.bool zero] w R:=calls_body follows Tryz.func6 ([]) ([]) (Eq.mp (by kernel_rfl) h)
def nand_New.body (g_Blocks:Int) (g_Pages:Int) (g_Size:Int) (g_Spares:Int) (w:World) (R:RT):Prop :=
 ∀ B1 w1,New w (.cells #[.int .i64 g_Blocks,.int .i64 g_Pages,.int .i64 g_Size,.int .i64 g_Spares] T.api_Geo) B1 w1->∃ x1,w1.cell? ⟨B1,0,none⟩= some (.int .i64 x1)/\∃ x2,w1.cell? (Addr.add ⟨B1,0,none⟩ 1)=some (.int .i64 x2)/\∃ x3,w1.cell? (Addr.add ⟨B1,0,none⟩ 2)=some (.int .i64 x3)/\∃ x4,w1.cell? (Addr.add ⟨B1,0,none⟩ 3)=some (.int .i64 x4)/\∃ (J1:Int->World->Prop) (μ1:Int->World->Nat),J1 0 w1/\∀ x5:Int,∀ w2:World,J1 x5 w2->br (decide (x5<4)) (0<=x5/\x5<4/\((((True)/\(x5=((0:Nat):Int)->∀ B2 w3,New w2 (.cells #[.int .i64 0,.int .i64 0,.int .i64 0] T.A3int) B2 w3->storeP w3 ⟨B2,0,none⟩ [.int .i64 x1,.int .i64 8,.int .i64 64] fun w4=>0<=(0:Int)/\(0:Int)<3/\∃ x6,w4.cell? (Addr.add ⟨B2,0,none⟩ (Int.toNat (0:Int) * 1))=some (.int .i64 x6)/\0<=(1:Int)/\(1:Int)<3/\∃ x7,w4.cell? (Addr.add ⟨B2,0,none⟩ (Int.toNat (1:Int) * 1))=some (.int .i64 x7)/\br (decide (x6<x7)) (R (.tuple #[.pointer none,.int .i64 2]) w4) (0<=(0:Int)/\(0:Int)<3/\∃ x8,w4.cell? (Addr.add ⟨B2,0,none⟩ (Int.toNat (0:Int) * 1))=some (.int .i64 x8)/\0<=(2:Int)/\(2:Int)<3/\∃ x9,w4.cell? (Addr.add ⟨B2,0,none⟩ (Int.toNat (2:Int) * 1))=some (.int .i64 x9)/\br (decide (x8 > x9)) (R (.tuple #[.pointer none,.int .i64 2]) w4) (J1 (i64.wrap (x5+1)) w4/\μ1 (i64.wrap (x5+1)) w4 < μ1 x5 w2))))/\(x5=((1:Nat):Int)->∀ B3 w5,New w2 (.cells #[.int .i64 0,.int .i64 0,.int .i64 0] T.A3int) B3 w5->storeP w5 ⟨B3,0,none⟩ [.int .i64 x2,.int .i64 4,.int .i64 32] fun w6=>0<=(0:Int)/\(0:Int)<3/\∃ x10,w6.cell? (Addr.add ⟨B3,0,none⟩ (Int.toNat (0:Int) * 1))=some (.int .i64 x10)/\0<=(1:Int)/\(1:Int)<3/\∃ x11,w6.cell? (Addr.add ⟨B3,0,none⟩ (Int.toNat (1:Int) * 1))=some (.int .i64 x11)/\br (decide (x10<x11)) (R (.tuple #[.pointer none,.int .i64 2]) w6) (0<=(0:Int)/\(0:Int)<3/\∃ x12,w6.cell? (Addr.add ⟨B3,0,none⟩ (Int.toNat (0:Int) * 1))=some (.int .i64 x12)/\0<=(2:Int)/\(2:Int)<3/\∃ x13,w6.cell? (Addr.add ⟨B3,0,none⟩ (Int.toNat (2:Int) * 1))=some (.int .i64 x13)/\br (decide (x12 > x13)) (R (.tuple #[.pointer none,.int .i64 2]) w6) (J1 (i64.wrap (x5+1)) w6/\μ1 (i64.wrap (x5+1)) w6 < μ1 x5 w2))))/\(x5=((2:Nat):Int)->∀ B4 w7,New w2 (.cells #[.int .i64 0,.int .i64 0,.int .i64 0] T.A3int) B4 w7->storeP w7 ⟨B4,0,none⟩ [.int .i64 x3,.int .i64 128,.int .i64 256] fun w8=>0<=(0:Int)/\(0:Int)<3/\∃ x14,w8.cell? (Addr.add ⟨B4,0,none⟩ (Int.toNat (0:Int) * 1))=some (.int .i64 x14)/\0<=(1:Int)/\(1:Int)<3/\∃ x15,w8.cell? (Addr.add ⟨B4,0,none⟩ (Int.toNat (1:Int) * 1))=some (.int .i64 x15)/\br (decide (x14<x15)) (R (.tuple #[.pointer none,.int .i64 2]) w8) (0<=(0:Int)/\(0:Int)<3/\∃ x16,w8.cell? (Addr.add ⟨B4,0,none⟩ (Int.toNat (0:Int) * 1))=some (.int .i64 x16)/\0<=(2:Int)/\(2:Int)<3/\∃ x17,w8.cell? (Addr.add ⟨B4,0,none⟩ (Int.toNat (2:Int) * 1))=some (.int .i64 x17)/\br (decide (x16 > x17)) (R (.tuple #[.pointer none,.int .i64 2]) w8) (J1 (i64.wrap (x5+1)) w8/\μ1 (i64.wrap (x5+1)) w8 < μ1 x5 w2))))/\(x5=((3:Nat):Int)->∀ B5 w9,New w2 (.cells #[.int .i64 0,.int .i64 0,.int .i64 0] T.A3int) B5 w9->storeP w9 ⟨B5,0,none⟩ [.int .i64 x4,.int .i64 0,.int .i64 4] fun w10=>0<=(0:Int)/\(0:Int)<3/\∃ x18,w10.cell? (Addr.add ⟨B5,0,none⟩ (Int.toNat (0:Int) * 1))=some (.int .i64 x18)/\0<=(1:Int)/\(1:Int)<3/\∃ x19,w10.cell? (Addr.add ⟨B5,0,none⟩ (Int.toNat (1:Int) * 1))=some (.int .i64 x19)/\br (decide (x18<x19)) (R (.tuple #[.pointer none,.int .i64 2]) w10) (0<=(0:Int)/\(0:Int)<3/\∃ x20,w10.cell? (Addr.add ⟨B5,0,none⟩ (Int.toNat (0:Int) * 1))=some (.int .i64 x20)/\0<=(2:Int)/\(2:Int)<3/\∃ x21,w10.cell? (Addr.add ⟨B5,0,none⟩ (Int.toNat (2:Int) * 1))=some (.int .i64 x21)/\br (decide (x20 > x21)) (R (.tuple #[.pointer none,.int .i64 2]) w10) (J1 (i64.wrap (x5+1)) w10/\μ1 (i64.wrap (x5+1)) w10 < μ1 x5 w2)))) (∀ w11:World,Drew w2 w11->∃ S1:World->Prop,S1 w11/\∃ x22 x23 x24 x25,(∀ u1,S1 u1->cellsAt u1 ⟨B1,0,none⟩ [.int .i64 x22,.int .i64 x23,.int .i64 x24,.int .i64 x25] 0)/\∃ x26,(∀ u2,S1 u2->u2.cell? ⟨B1,0,none⟩= some (.int .i64 x26))/\makeSliceP T.bool 1 1 [.bool false] x26 x26 w11 fun a1 l1 c1 w12=>S1 w12/\∀ B6 w13,New w12 (.cells #[.int .i64 x22,.int .i64 x23,.int .i64 x24,.int .i64 x25,.slice none 0 0,.slice a1 l1 c1,.slice none 0 0,.int .i64 0,.bool false,.int .i64 0] T.nand_Chip) B6 w13->S1 w13/\∃ x27,w13.cell? ⟨B1,0,none⟩= some (.int .i64 x27)/\∃ (J2:Int->World->Prop) (μ2:Int->World->Nat),J2 0 w13/\∀ x28:Int,∀ w14:World,J2 x28 w14->br (decide (x28<x27)) (∀ w15:World,Drew w14 w15->∃ S2:World->Prop,S2 w15/\∃ a2 l2 c2,(∀ u3,S2 u3->u3.cell? (Addr.add ⟨B6,0,none⟩ 4)=some (.slice a2 l2 c2))/\∃ x29,(∀ u4,S2 u4->u4.cell? (Addr.add ⟨B1,0,none⟩ 1)=some (.int .i64 x29))/\∃ x30,(∀ u5,S2 u5->u5.cell? (Addr.add ⟨B1,0,none⟩ 2)=some (.int .i64 x30))/\∀ B7 w16,New w15 (.cells #[.int .u8 255] T.uint8) B7 w16->S2 w16/\CallsR prog K.slices_Repeat_byte #[.slice (some ⟨B7,0,none⟩) 1 1,.int .i64 (i64.wrap (x29 * x30))] w16 fun v1 w17=>∃ a3 l3 c3,v1= .slice a3 l3 c3/\S2 w17/\∀ B8 w18,New w17 (.cells #[.slice a3 l3 c3] T.L_uint8) B8 w18->S2 w18/\appendP T.L_uint8 1 24 [.slice none 0 0] a2 l2 c2 (.slice (some ⟨B8,0,none⟩) 1 1) w18 fun a4 l4 c4 w19=>S2 w19/\storeP w19 (Addr.add ⟨B6,0,none⟩ 4) [.slice a4 l4 c4] fun w20=>J2 (i64.wrap (x28+1)) w20/\μ2 (i64.wrap (x28+1)) w20 < μ2 x28 w14) (R (.tuple #[.pointer (some ⟨B6,0,none⟩),.int .i64 0]) w14))
theorem nand_New.sh {g_Blocks g_Pages g_Size g_Spares w R} (h:nand_New.body g_Blocks g_Pages g_Size g_Spares w R) :
  CallsR prog K.nand_New #[.agg #[.int .i64 g_Blocks,.int .i64 g_Pages,.int .i64 g_Size,.int .i64 g_Spares]] w R:=calls_body follows Tryz.func9 ([]) ([(2,[1,19],[20],[.int .i64 0]),(9,[1,6,43],[44],[.int .i64 0])]) (Eq.mp (by kernel_rfl) h)
def carracklaw19_geo.body (spares:Int) (w:World) (R:RT):Prop :=
 ∀ B1 w1,New w (.cells #[.int .i64 0,.int .i64 0,.int .i64 0,.int .i64 0] T.api_Geo) B1 w1->(3:Int)≠0/\storeP w1 ⟨B1,0,none⟩ [.int .i64 24,.int .i64 8,.int .i64 128,.int .i64 (i64.wrap (Int.tmod (u64.wrap spares) 3))] fun w2=>∃ x1 x2 x3 x4,cellsAt w2 ⟨B1,0,none⟩ [.int .i64 x1,.int .i64 x2,.int .i64 x3,.int .i64 x4] 0/\R (.agg #[.int .i64 x1,.int .i64 x2,.int .i64 x3,.int .i64 x4]) w2
theorem carracklaw19_geo.sh {spares w R} (h:carracklaw19_geo.body spares w R) :
  CallsR prog K.carracklaw19_geo #[.int .i64 spares] w R:=calls_body follows Tryz.func10 ([]) ([]) (Eq.mp (by kernel_rfl) h)
def stem_Make.body (c:Option Addr) (era:Int) (w:World) (R:RT):Prop :=
 CallsR prog K.pool_Scan #[.pointer c] w fun v1 w1=>∃ p1 x1,v1= .tuple #[.pointer p1,.int .i64 x1]/\br (x1 != 0) (R (.tuple #[.pointer none,.int .i64 x1]) w1) (br (era == 0) (R (.tuple #[.pointer none,.int .i64 2]) w1) (∀ B1 w2,New w1 (.cells #[.pointer p1,.int .u32 era,.slice none 0 0,.slice none 0 0,.map none,.int .i64 0,.int .i64 0,.int .u64 0,.int .i64 (-1),.int .i64 0] T.stem_Stem) B1 w2->CallsR prog K.stem_Stem_own #[.pointer (some ⟨B1,0,none⟩)] w2 fun v2 w3=>∃ a1 l1 c1 a2 l2 c2,v2= .tuple #[.slice a1 l1 c1,.slice a2 l2 c2]/\br (decide (((l2:Nat):Int) > 0)) (R (.tuple #[.pointer none,.int .i64 2]) w3) (CallsR prog K.stem_greatest #[.pointer c,.slice a1 l1 c1] w3 fun v3 w4=>∃ x2,v3= .int .u64 x2/\storeP w4 (Addr.add ⟨B1,0,none⟩ 7) [.int .u64 x2] fun w5=>CallsR prog K.stem_Stem_end #[.pointer (some ⟨B1,0,none⟩),.agg #[.int .i64 0,.int .i64 0],.int .i64 0] w5 fun v4 w6=>∃ x3,v4= .int .i64 x3/\br (x3 != 0) (R (.tuple #[.pointer none,.int .i64 x3]) w6) (R (.tuple #[.pointer (some ⟨B1,0,none⟩),.int .i64 0]) w6))))
theorem stem_Make.sh {c era w R} (h:stem_Make.body c era w R) :
  CallsR prog K.stem_Make #[.pointer c,.int .u32 era] w R:=calls_body follows Tryz.func11 ([]) ([]) (Eq.mp (by kernel_rfl) h)
def stem_Open.body (y0a:Option Addr) (y1a:Int) (w:World) (R:RT):Prop :=
 CallsR prog K.pool_Scan #[.pointer y0a] w fun v1 w1=>∃ p1 x1,v1= .tuple #[.pointer p1,.int .i64 x1]/\br (x1 != 0) (R (.tuple #[.pointer none,.int .i64 x1]) w1) (br (y1a == 0) (R (.tuple #[.pointer none,.int .i64 2]) w1) (CallsR prog K.walk_Facts #[.pointer y0a,.int .u32 y1a] w1 fun v2 w2=>∃ a1 l1 c1 x2,v2= .tuple #[.slice a1 l1 c1,.int .i64 x2]/\br (x2 != 0) (R (.tuple #[.pointer none,.int .i64 16]) w2) (CallsR prog K.walk_Newest #[.pointer y0a,.int .u32 y1a] w2 fun v3 w3=>∃ x3 x4 x5 x6 x7 x8 x9,v3= .tuple #[.agg #[.int .u64 x3,.int .i64 x4,.int .i64 x5,.int .i64 x6],.int .i64 x7,.int .i64 x8,.int .i64 x9]/\∀ B1 w4,New w3 (.cells #[.int .u64 0,.int .i64 0,.int .i64 0,.int .i64 0] T.api_Point) B1 w4->storeP w4 ⟨B1,0,none⟩ [.int .u64 x3,.int .i64 x4,.int .i64 x5,.int .i64 x6] fun w5=>∀ w6:World,Drew w5 w6->∃ S1:World->Prop,S1 w6/\∃ x10,(∀ u1,S1 u1->u1.cell? ⟨B1,0,none⟩= some (.int .u64 x10))/\CallsR prog K.slices_Clone_api_Fact #[.slice a1 l1 c1] w6 fun v4 w7=>∃ a2 l2 c2,v4= .slice a2 l2 c2/\S1 w7/\∀ B2 w8,New w7 (.cells #[.pointer p1,.int .u32 y1a,.slice a1 l1 c1,.slice a2 l2 c2,.map none,.int .i64 x7,.int .i64 x8,.int .u64 x10,.int .i64 (-1),.int .i64 0] T.stem_Stem) B2 w8->S1 w8/\CallsR prog K.walk_Pages #[.pointer y0a,.int .u32 y1a] w8 fun v5 w9=>∃ a3 l3 c3 x11,v5= .tuple #[.slice a3 l3 c3,.int .i64 x11]/\∀ B3 w10,New w9 (.map #[] 0) B3 w10->storeP w10 (Addr.add ⟨B2,0,none⟩ 4) [.map (some B3)] fun w11=>∃ (J1:Int->World->Prop) (μ1:Int->World->Nat),J1 0 w11/\∀ x12:Int,∀ w12:World,J1 x12 w12->br (decide (x12<((l3:Nat):Int))) (idxP a3 l3 x12 2 fun q1=>∃ x13 x14,cellsAt w12 q1 [.int .i64 x13,.int .i64 x14] 0/\∀ B4 w13,New w12 (.cells #[.int .i64 0,.int .i64 0] T.api_Place) B4 w13->storeP w13 ⟨B4,0,none⟩ [.int .i64 x13,.int .i64 x14] fun w14=>∃ x15,w14.cell? ⟨B4,0,none⟩= some (.int .i64 x15)/\∃ x16,w14.cell? (Addr.add ⟨B4,0,none⟩ 1)=some (.int .i64 x16)/\CallsR prog K.nand_Chip_Read #[.pointer y0a,.int .i64 x15,.int .i64 x16] w14 fun v6 w15=>∃ a4 l4 c4 x17,v6= .tuple #[.slice a4 l4 c4,.int .i64 x17]/\∀ w16:World,Drew w15 w16->∃ S2:World->Prop,S2 w16/\∃ m1:Option Nat,(∀ u2,S2 u2->u2.cell? (Addr.add ⟨B2,0,none⟩ 4)=some (.map m1))/\∃ x18 x19,(∀ u3,S2 u3->cellsAt u3 ⟨B4,0,none⟩ [.int .i64 x18,.int .i64 x19] 0)/\strOfP w16 a4 l4 fun s1=>S2 w16/\setP prog T.string m1 (.string s1) (.agg #[.int .i64 x18,.int .i64 x19]) w16 fun w17=>J1 (i64.wrap (x12+1)) w17/\μ1 (i64.wrap (x12+1)) w17 < μ1 x12 w12) (CallsR prog K.stem_Stem_own #[.pointer (some ⟨B2,0,none⟩)] w12 fun v7 w18=>∃ a5 l5 c5 a6 l6 c6,v7= .tuple #[.slice a5 l5 c5,.slice a6 l6 c6]/\br (decide (((l6:Nat):Int) > 0)) (idxP a6 l6 (i64.wrap (((l6:Nat):Int) - 1)) 1 fun q2=>∃ x20,w18.cell? q2=some (.int .i64 x20)/\CallsR prog K.stem_Stem_behind #[.pointer (some ⟨B2,0,none⟩),.int .i64 x20] w18 fun v8 w19=>∃ x21,v8= .int .i64 x21/\CallsR prog K.nand_Chip_Geo #[.pointer y0a] w19 fun v9 w20=>∃ x22 x23 x24 x25,v9= .agg #[.int .i64 x22,.int .i64 x23,.int .i64 x24,.int .i64 x25]/\br (decide (x21<x23)) (storeP w20 (Addr.add ⟨B2,0,none⟩ 8) [.int .i64 x20] fun w21=>storeP w21 (Addr.add ⟨B2,0,none⟩ 9) [.int .i64 x21] fun w22=>R (.tuple #[.pointer (some ⟨B2,0,none⟩),.int .i64 0]) w22) (R (.tuple #[.pointer (some ⟨B2,0,none⟩),.int .i64 0]) w20)) (R (.tuple #[.pointer (some ⟨B2,0,none⟩),.int .i64 0]) w18)))))
theorem stem_Open.sh {y0a y1a w R} (h:stem_Open.body y0a y1a w R) :
  CallsR prog K.stem_Open #[.pointer y0a,.int .u32 y1a] w R:=calls_body follows Tryz.func12 ([]) ([(14,[0,13,74,75],[76],[.int .i64 0])]) (Eq.mp (by kernel_rfl) h)
def carracklaw19_lives.body  (w:World) (R:RT):Prop :=
 CallsR prog K.carracklaw19_geo #[.int .i64 0] w fun v1 w1=>∃ x1 x2 x3 x4,v1= .agg #[.int .i64 x1,.int .i64 x2,.int .i64 x3,.int .i64 x4]/\CallsR prog K.nand_New #[.agg #[.int .i64 x1,.int .i64 x2,.int .i64 x3,.int .i64 x4]] w1 fun v2 w2=>∃ p1 x5,v2= .tuple #[.pointer p1,.int .i64 x5]/\CallsR prog K.stem_Make #[.pointer p1,.int .u32 3] w2 fun v3 w3=>∃ p2 x6,v3= .tuple #[.pointer p2,.int .i64 x6]/\∀ B1 w4,New w3 (.cells #[.int .u8 5] T.uint8) B1 w4->∀ B2 w5,New w4 (.cells #[.int .i64 1,.int .u8 1,.string EB,.int .i64 0,.slice (some ⟨B1,0,none⟩) 1 1,.bool false] T.api_Change) B2 w5->CallsR prog K.stem_Stem_Put #[.pointer p2,.slice (some ⟨B2,0,none⟩) 1 1] w5 fun v4 w6=>∃ x7,v4= .int .i64 x7/\CallsR prog K.carrackref18_Facts #[.pointer p1,.int .u32 3] w6 fun v5 w7=>∃ a1 l1 c1 x8,v5= .tuple #[.slice a1 l1 c1,.int .i64 x8]/\CallsR prog K.stem_Stem_Sync #[.pointer p2] w7 fun v6 w8=>∃ x9,v6= .int .i64 x9/\CallsR prog K.carrackref18_Facts #[.pointer p1,.int .u32 3] w8 fun v7 w9=>∃ a2 l2 c2 x10,v7= .tuple #[.slice a2 l2 c2,.int .i64 x10]/\CallsR prog K.stem_Open #[.pointer p1,.int .u32 4] w9 fun v8 w10=>∃ p3 x11,v8= .tuple #[.pointer p3,.int .i64 x11]/\br (x5 == 0) (br (x6 == 0) (br (x7 == 0) (br (x8 == 0) (br (((l1:Nat):Int) == 0) (br (x9 == 0) (br (x10 == 0) (br (((l2:Nat):Int) == 1) (R (.bool (x11 == 16)) w10) (R (.bool false) w10)) (R (.bool false) w10)) (R (.bool false) w10)) (R (.bool false) w10)) (R (.bool false) w10)) (R (.bool false) w10)) (R (.bool false) w10)) (R (.bool false) w10)
theorem carracklaw19_lives.sh  {w:World} {R:Value->World->Prop} (h:carracklaw19_lives.body  w R) :
  CallsR prog K.carracklaw19_lives #[] w R:=calls_body follows Tryz.func13 ([]) ([]) (Eq.mp (by kernel_rfl) h)
end
section
set_option maxRecDepth 100000
open Go.Proofs
def stem_Stem_Put.body (s:Option Addr) (changes:Option Addr) (changesL changesC:Nat) (w:World) (R:RT):Prop :=
 CallsR prog K.stem_Stem_off #[.pointer s] w fun v1 w1=>∃ b1,v1= .bool b1/\br b1 (R (.int .i64 1) w1) (CallsR prog K.stem_Stem_dead #[.pointer s] w1 fun v2 w2=>∃ b2,v2= .bool b2/\br b2 (R (.int .i64 10) w2) (nilC s fun q1=>∃ p1,w2.cell? q1=some (.pointer p1)/\CallsR prog K.pool_Pool_Chip #[.pointer p1] w2 fun v3 w3=>∃ p2,v3= .pointer p2/\CallsR prog K.nand_Chip_Geo #[.pointer p2] w3 fun v4 w4=>∃ x1 x2 x3 x4,v4= .agg #[.int .i64 x1,.int .i64 x2,.int .i64 x3,.int .i64 x4]/\CallsR prog K.rec_Put #[.int .i64 x3,.slice changes changesL changesC] w4 fun v5 w5=>∃ a1 l1 c1 x5,v5= .tuple #[.slice a1 l1 c1,.int .i64 x5]/\br (x5 != 0) (R (.int .i64 x5) w5) (nilC s fun q2=>∃ a2 l2 c2,w5.cell? (q2.add 2)=some (.slice a2 l2 c2)/\CallsR prog K.fact_Apply #[.slice a2 l2 c2,.slice changes changesL changesC] w5 fun v6 w6=>∃ a3 l3 c3,v6= .slice a3 l3 c3/\nilC s fun q3=>storeP w6 (q3.add 2) [.slice a3 l3 c3] fun w7=>R (.int .i64 0) w7)))
theorem stem_Stem_Put.sh {s changes changesL changesC w R} (h:stem_Stem_Put.body s changes changesL changesC w R) :
  CallsR prog K.stem_Stem_Put #[.pointer s,.slice changes changesL changesC] w R:=calls_body follows Tryz.func15 ([]) ([]) (Eq.mp (by kernel_rfl) h)
def stem_Stem_Sync.body (y0a:Option Addr) (w:World) (R:RT):Prop :=
 CallsR prog K.stem_Stem_off #[.pointer y0a] w fun v1 w1=>∃ b1,v1= .bool b1/\br b1 (R (.int .i64 1) w1) (CallsR prog K.stem_Stem_dead #[.pointer y0a] w1 fun v2 w2=>∃ b2,v2= .bool b2/\br b2 (R (.int .i64 10) w2) (∀ w3:World,Drew w2 w3->∃ S1:World->Prop,S1 w3/\nilC y0a fun q1=>∃ a1 l1 c1,(∀ u1,S1 u1->u1.cell? (q1.add 2)=some (.slice a1 l1 c1))/\nilC y0a fun q2=>∃ a2 l2 c2,(∀ u2,S1 u2->u2.cell? (q2.add 3)=some (.slice a2 l2 c2))/\CallsR prog K.fact_Same #[.slice a1 l1 c1,.slice a2 l2 c2] w3 fun v3 w4=>∃ b3,v3= .bool b3/\br b3 (R (.int .i64 0) w4) (nilC y0a fun q3=>∃ a3 l3 c3,w4.cell? (q3.add 2)=some (.slice a3 l3 c3)/\CallsR prog K.stem_Stem_missing #[.pointer y0a,.slice a3 l3 c3] w4 fun v4 w5=>∃ x1 x2,v4= .tuple #[.int .i64 x1,.int .i64 x2]/\br (x2 != 0) (R (.int .i64 x2) w5) (nilC y0a fun q4=>∃ p1,w5.cell? q4=some (.pointer p1)/\CallsR prog K.pool_Pool_Chip #[.pointer p1] w5 fun v5 w6=>∃ p2,v5= .pointer p2/\CallsR prog K.nand_Chip_Geo #[.pointer p2] w6 fun v6 w7=>∃ x3 x4 x5 x6,v6= .agg #[.int .i64 x3,.int .i64 x4,.int .i64 x5,.int .i64 x6]/\nilC y0a fun q5=>∃ x7,w7.cell? (q5.add 8)=some (.int .i64 x7)/\br (decide (x7≥0)) (nilC y0a fun q6=>∃ x8,w7.cell? (q6.add 9)=some (.int .i64 x8)/\CallsR prog K.stem_ceil #[.int .i64 (if (0:Int) > (i64.wrap ((i64.wrap (x1+1)) - (i64.wrap (x4 - x8)))) then (0:Int) else (i64.wrap ((i64.wrap (x1+1)) - (i64.wrap (x4 - x8))))),.int .i64 (i64.wrap (x4 - 1))] w7 fun v7 w8=>∃ x9,v7= .int .i64 x9/\nilC y0a fun q7=>∃ p3,w8.cell? q7=some (.pointer p3)/\CallsR prog K.pool_Pool_Blanks #[.pointer p3] w8 fun v8 w9=>∃ x10,v8= .int .i64 x10/\CallsR prog K.stem_Stem_reserve #[.pointer y0a] w9 fun v9 w10=>∃ x11,v9= .int .i64 x11/\br (decide ((i64.wrap (x10 - x9))<x11)) (CallsR prog K.stem_Stem_free #[.pointer y0a] w10 fun v10 w11=>∃ x12,v10= .int .i64 x12/\br (x12 != 0) (R (.int .i64 x12) w11) (nilC y0a fun q8=>∃ p4,w11.cell? q8=some (.pointer p4)/\CallsR prog K.pool_Pool_Blanks #[.pointer p4] w11 fun v11 w12=>∃ x13,v11= .int .i64 x13/\CallsR prog K.stem_Stem_reserve #[.pointer y0a] w12 fun v12 w13=>∃ x14,v12= .int .i64 x14/\nilC y0a fun q9=>∃ a4 l4 c4,w13.cell? (q9.add 2)=some (.slice a4 l4 c4)/\CallsR prog K.stem_Stem_store #[.pointer y0a,.slice a4 l4 c4,.bool (decide ((i64.wrap (x13 - x9))<x14))] w13 fun v13 w14=>∃ x15,v13= .int .i64 x15/\br (x15 != 0) (R (.int .i64 x15) w14) (br (decide ((i64.wrap (x13 - x9))<x14)) (CallsR prog K.stem_Stem_free #[.pointer y0a] w14 fun v14 w15=>∃ x16,v14= .int .i64 x16/\R (.int .i64 x16) w15) (R (.int .i64 0) w14)))) (nilC y0a fun q10=>∃ a5 l5 c5,w10.cell? (q10.add 2)=some (.slice a5 l5 c5)/\CallsR prog K.stem_Stem_store #[.pointer y0a,.slice a5 l5 c5,.bool (decide ((i64.wrap (x10 - x9))<x11))] w10 fun v15 w16=>∃ x17,v15= .int .i64 x17/\br (x17 != 0) (R (.int .i64 x17) w16) (br (decide ((i64.wrap (x10 - x9))<x11)) (CallsR prog K.stem_Stem_free #[.pointer y0a] w16 fun v16 w17=>∃ x18,v16= .int .i64 x18/\R (.int .i64 x18) w17) (R (.int .i64 0) w16)))) (CallsR prog K.stem_ceil #[.int .i64 (if (0:Int) > (i64.wrap ((i64.wrap (x1+1)) - 0)) then (0:Int) else (i64.wrap ((i64.wrap (x1+1)) - 0))),.int .i64 (i64.wrap (x4 - 1))] w7 fun v17 w18=>∃ x19,v17= .int .i64 x19/\nilC y0a fun q11=>∃ p5,w18.cell? q11=some (.pointer p5)/\CallsR prog K.pool_Pool_Blanks #[.pointer p5] w18 fun v18 w19=>∃ x20,v18= .int .i64 x20/\CallsR prog K.stem_Stem_reserve #[.pointer y0a] w19 fun v19 w20=>∃ x21,v19= .int .i64 x21/\br (decide ((i64.wrap (x20 - x19))<x21)) (CallsR prog K.stem_Stem_free #[.pointer y0a] w20 fun v20 w21=>∃ x22,v20= .int .i64 x22/\br (x22 != 0) (R (.int .i64 x22) w21) (nilC y0a fun q12=>∃ p6,w21.cell? q12=some (.pointer p6)/\CallsR prog K.pool_Pool_Blanks #[.pointer p6] w21 fun v21 w22=>∃ x23,v21= .int .i64 x23/\CallsR prog K.stem_Stem_reserve #[.pointer y0a] w22 fun v22 w23=>∃ x24,v22= .int .i64 x24/\nilC y0a fun q13=>∃ a6 l6 c6,w23.cell? (q13.add 2)=some (.slice a6 l6 c6)/\CallsR prog K.stem_Stem_store #[.pointer y0a,.slice a6 l6 c6,.bool (decide ((i64.wrap (x23 - x19))<x24))] w23 fun v23 w24=>∃ x25,v23= .int .i64 x25/\br (x25 != 0) (R (.int .i64 x25) w24) (br (decide ((i64.wrap (x23 - x19))<x24)) (CallsR prog K.stem_Stem_free #[.pointer y0a] w24 fun v24 w25=>∃ x26,v24= .int .i64 x26/\R (.int .i64 x26) w25) (R (.int .i64 0) w24)))) (nilC y0a fun q14=>∃ a7 l7 c7,w20.cell? (q14.add 2)=some (.slice a7 l7 c7)/\CallsR prog K.stem_Stem_store #[.pointer y0a,.slice a7 l7 c7,.bool (decide ((i64.wrap (x20 - x19))<x21))] w20 fun v25 w26=>∃ x27,v25= .int .i64 x27/\br (x27 != 0) (R (.int .i64 x27) w26) (br (decide ((i64.wrap (x20 - x19))<x21)) (CallsR prog K.stem_Stem_free #[.pointer y0a] w26 fun v26 w27=>∃ x28,v26= .int .i64 x28/\R (.int .i64 x28) w27) (R (.int .i64 0) w26))))))))
theorem stem_Stem_Sync.sh {y0a w R} (h:stem_Stem_Sync.body y0a w R) :
  CallsR prog K.stem_Stem_Sync #[.pointer y0a] w R:=calls_body follows Tryz.func16 ([]) ([]) (Eq.mp (by kernel_rfl) h)
def carrackref18_Facts.body (c:Option Addr) (era:Int) (w:World) (R:RT):Prop :=
 CallsR prog K.carrackref18_walked #[.pointer c,.int .u32 era] w fun v1 w1=>∃ p1 x1,v1= .tuple #[.pointer p1,.int .i64 x1]/\br (x1 != 0) (R (.tuple #[.slice none 0 0,.int .i64 x1]) w1) (nilC p1 fun q1=>∃ a1 l1 c1,w1.cell? (q1.add 3)=some (.slice a1 l1 c1)/\R (.tuple #[.slice a1 l1 c1,.int .i64 0]) w1)
theorem carrackref18_Facts.sh {c era w R} (h:carrackref18_Facts.body c era w R) :
  CallsR prog K.carrackref18_Facts #[.pointer c,.int .u32 era] w R:=calls_body follows Tryz.func17 ([]) ([]) (Eq.mp (by kernel_rfl) h)
def stem_Stem_Tidy.body (s:Option Addr) (blanks:Int) (w:World) (R:RT):Prop :=
 CallsR prog K.stem_Stem_off #[.pointer s] w fun v1 w1=>∃ b1,v1= .bool b1/\br b1 (R (.int .i64 1) w1) (CallsR prog K.stem_Stem_dead #[.pointer s] w1 fun v2 w2=>∃ b2,v2= .bool b2/\br b2 (R (.int .i64 10) w2) (nilC s fun q1=>∃ p1,w2.cell? q1=some (.pointer p1)/\CallsR prog K.pool_Pool_Blanks #[.pointer p1] w2 fun v3 w3=>∃ x1,v3= .int .i64 x1/\br (decide (x1≥blanks)) (R (.int .i64 0) w3) (CallsR prog K.stem_Stem_free #[.pointer s] w3 fun v4 w4=>∃ x2,v4= .int .i64 x2/\br (x2 != 0) (R (.int .i64 x2) w4) (nilC s fun q2=>∃ p2,w4.cell? q2=some (.pointer p2)/\CallsR prog K.pool_Pool_Blanks #[.pointer p2] w4 fun v5 w5=>∃ x3,v5= .int .i64 x3/\br (decide (x3≥blanks)) (R (.int .i64 x2) w5) (nilC s fun q3=>∃ a1 l1 c1,w5.cell? (q3.add 3)=some (.slice a1 l1 c1)/\CallsR prog K.stem_Stem_store #[.pointer s,.slice a1 l1 c1,.bool true] w5 fun v6 w6=>∃ x4,v6= .int .i64 x4/\br (x4 != 0) (R (.int .i64 x4) w6) (CallsR prog K.stem_Stem_free #[.pointer s] w6 fun v7 w7=>∃ x5,v7= .int .i64 x5/\br (x5 != 0) (R (.int .i64 x5) w7) (nilC s fun q4=>∃ p3,w7.cell? q4=some (.pointer p3)/\CallsR prog K.pool_Pool_Blanks #[.pointer p3] w7 fun v8 w8=>∃ x6,v8= .int .i64 x6/\br (decide (x6<blanks)) (R (.int .i64 11) w8) (R (.int .i64 0) w8))))))))
theorem stem_Stem_Tidy.sh {s blanks w R} (h:stem_Stem_Tidy.body s blanks w R) :
  CallsR prog K.stem_Stem_Tidy #[.pointer s,.int .i64 blanks] w R:=calls_body follows Tryz.func23 ([]) ([]) (Eq.mp (by kernel_rfl) h)
def stem_Stem_Facts.body (s:Option Addr) (w:World) (R:RT):Prop :=
 CallsR prog K.stem_Stem_off #[.pointer s] w fun v1 w1=>∃ b1,v1= .bool b1/\br b1 (R (.slice none 0 0) w1) (nilC s fun q1=>∃ a1 l1 c1,w1.cell? (q1.add 2)=some (.slice a1 l1 c1)/\∃ (J1:Option Addr->Nat->Nat->Int->World->Prop) (μ1:Option Addr->Nat->Nat->Int->World->Nat),J1 none 0 0 0 w1/\∀ (a2:Option Addr) (l2 c2:Nat),∀ x1:Int,∀ w2:World,J1 a2 l2 c2 x1 w2->br (decide (x1<((l1:Nat):Int))) (idxP a1 l1 x1 5 fun q2=>∃ x2 x3 s1 x4 a3 l3 c3,cellsAt w2 q2 [.int .i64 x2,.int .u8 x3,.string s1,.int .i64 x4,.slice a3 l3 c3] 0/\∀ B1 w3,New w2 (.cells #[.int .i64 0,.int .u8 0,.string EB,.int .i64 0,.slice none 0 0] T.api_Fact) B1 w3->storeP w3 ⟨B1,0,none⟩ [.int .i64 x2,.int .u8 x3,.string s1,.int .i64 x4,.slice a3 l3 c3] fun w4=>∀ w5:World,Drew w4 w5->∃ S1:World->Prop,S1 w5/\∃ x5 x6 s2 x7,(∀ u1,S1 u1->cellsAt u1 ⟨B1,0,none⟩ [.int .i64 x5,.int .u8 x6,.string s2,.int .i64 x7] 0)/\∃ a4 l4 c4,(∀ u2,S1 u2->u2.cell? (Addr.add ⟨B1,0,none⟩ 4)=some (.slice a4 l4 c4))/\CallsR prog K.bytes_Clone #[.slice a4 l4 c4] w5 fun v2 w6=>∃ a5 l5 c5,v2= .slice a5 l5 c5/\S1 w6/\∀ B2 w7,New w6 (.cells #[.int .i64 x5,.int .u8 x6,.string s2,.int .i64 x7,.slice a5 l5 c5] T.api_Fact) B2 w7->S1 w7/\appendP T.api_Fact 5 64 [.int .i64 0,.int .u8 0,.string EB,.int .i64 0,.slice none 0 0] a2 l2 c2 (.slice (some ⟨B2,0,none⟩) 1 1) w7 fun a6 l6 c6 w8=>S1 w8/\J1 a6 l6 c6 (i64.wrap (x1+1)) w8/\μ1 a6 l6 c6 (i64.wrap (x1+1)) w8 < μ1 a2 l2 c2 x1 w2) (R (.slice a2 l2 c2) w2))
theorem stem_Stem_Facts.sh {s w R} (h:stem_Stem_Facts.body s w R) :
  CallsR prog K.stem_Stem_Facts #[.pointer s] w R:=calls_body follows Tryz.func24 ([]) ([(5,[11,12],[3,13],[.slice none 0 0,.int .i64 0])]) (Eq.mp (by kernel_rfl) h)
def stem_Stem_Blanks.body (s:Option Addr) (w:World) (R:RT):Prop :=
 CallsR prog K.stem_Stem_off #[.pointer s] w fun v1 w1=>∃ b1,v1= .bool b1/\br b1 (R (.int .i64 0) w1) (nilC s fun q1=>∃ p1,w1.cell? q1=some (.pointer p1)/\CallsR prog K.pool_Pool_Blanks #[.pointer p1] w1 fun v2 w2=>∃ x1,v2= .int .i64 x1/\R (.int .i64 x1) w2)
theorem stem_Stem_Blanks.sh {s w R} (h:stem_Stem_Blanks.body s w R) :
  CallsR prog K.stem_Stem_Blanks #[.pointer s] w R:=calls_body follows Tryz.func25 ([]) ([]) (Eq.mp (by kernel_rfl) h)
def stem_Stem_Chip.body (s:Option Addr) (w:World) (R:RT):Prop :=
 CallsR prog K.stem_Stem_off #[.pointer s] w fun v1 w1=>∃ b1,v1= .bool b1/\br b1 (R (.pointer none) w1) (nilC s fun q1=>∃ p1,w1.cell? q1=some (.pointer p1)/\CallsR prog K.pool_Pool_Chip #[.pointer p1] w1 fun v2 w2=>∃ p2,v2= .pointer p2/\R (.pointer p2) w2)
theorem stem_Stem_Chip.sh {s w R} (h:stem_Stem_Chip.body s w R) :
  CallsR prog K.stem_Stem_Chip #[.pointer s] w R:=calls_body follows Tryz.func26 ([]) ([]) (Eq.mp (by kernel_rfl) h)
def carrackref02_Size.body (n:Int) (w:World) (R:RT):Prop :=
 br (decide (n≥128)) (R (.bool (decide (n<=256))) w) (R (.bool false) w)
theorem carrackref02_Size.sh {n w R} (h:carrackref02_Size.body n w R) :
  CallsR prog K.carrackref02_Size #[.int .i64 n] w R:=calls_body follows Tryz.func27 ([]) ([]) (Eq.mp (by kernel_rfl) h)
def slices_Repeat_byte.body (x:Option Addr) (xL xC:Nat) (count:Int) (w:World) (R:RT):Prop :=
 br (decide (count<0)) (False) (CallsR prog K.bits_Mul #[.int .u64 (u64.wrap ((xL:Nat):Int)),.int .u64 (u64.wrap count)] w fun v1 w1=>∃ x1 x2,v1= .tuple #[.int .u64 x1,.int .u64 x2]/\∃ J1:World->Prop,(br (decide (x1 > 0)) (False) (br (decide (x2 > 9223372036854775807)) (False) (J1 w1)))/\(∀ w2:World,J1 w2->makeSliceP T.uint8 1 1 [.int .u8 0] (i64.wrap x2) (i64.wrap x2) w2 fun a1 l1 c1 w3=>copyP 1 a1 l1 (.slice x xL xC) w3 fun x3 w4=>∃ (J2:Int->World->Prop) (μ1:Int->World->Nat),J2 x3 w4/\∀ x4:Int,∀ w5:World,J2 x4 w5->br (decide (x4<((l1:Nat):Int))) (∀ w6:World,Drew w5 w6->∃ S1:World->Prop,S1 w6/\sliceP 1 a1 l1 c1 (some x4) none none fun a2 l2 c2=>sliceP 1 a1 l1 c1 none (some x4) none fun a3 l3 c3=>copyP 1 a2 l2 (.slice a3 l3 c3) w6 fun x5 w7=>J2 (i64.wrap (x4+x5)) w7/\μ1 (i64.wrap (x4+x5)) w7 < μ1 x4 w5) (R (.slice a1 l1 c1) w5)))
theorem slices_Repeat_byte.sh {x xL xC count w R} (h:slices_Repeat_byte.body x xL xC count w R) :
  CallsR prog K.slices_Repeat_byte #[.slice x xL xC,.int .i64 count] w R:=calls_body follows Tryz.func33 ([(6,[0,6],[],[])]) ([(8,[7],[8],[.int .i64 0])]) (Eq.mp (by kernel_rfl) h)
def pool_Scan.body (y0a:Option Addr) (w:World) (R:RT):Prop :=
 ∃ J1:World->Prop,(br (Option.isNone y0a) (R (.tuple #[.pointer none,.int .i64 1]) w) (CallsR prog K.nand_Chip_Geo #[.pointer y0a] w fun v1 w1=>∃ x1 x2 x3 x4,v1= .agg #[.int .i64 x1,.int .i64 x2,.int .i64 x3,.int .i64 x4]/\br (x1 == 0) (R (.tuple #[.pointer none,.int .i64 1]) w1) (J1 w1)))/\(∀ w2:World,J1 w2->CallsR prog K.nand_Chip_Read #[.pointer y0a,.int .i64 0,.int .i64 0] w2 fun v2 w3=>∃ a1 l1 c1 x5,v2= .tuple #[.slice a1 l1 c1,.int .i64 x5]/\br (x5 != 0) (R (.tuple #[.pointer none,.int .i64 x5]) w3) (CallsR prog K.nand_Chip_Geo #[.pointer y0a] w3 fun v3 w4=>∃ x6 x7 x8 x9,v3= .agg #[.int .i64 x6,.int .i64 x7,.int .i64 x8,.int .i64 x9]/\makeSliceP T.pool_block 4 24 [.int .i64 0,.int .u8 0,.int .u32 0,.int .u64 0] x6 x6 w4 fun a2 l2 c2 w5=>∀ B1 w6,New w5 (.cells #[.pointer y0a,.slice a2 l2 c2,.int .u64 0,.int .i64 0] T.pool_Pool) B1 w6->∃ a3 l3 c3,w6.cell? (Addr.add ⟨B1,0,none⟩ 1)=some (.slice a3 l3 c3)/\∃ (J2:Int->World->Prop) (μ1:Int->World->Nat),J2 0 w6/\∀ x10:Int,∀ w7:World,J2 x10 w7->br (decide (x10<((l3:Nat):Int))) (CallsR prog K.pool_Pool_look #[.pointer (some ⟨B1,0,none⟩),.int .i64 x10] w7 fun v4 w8=>v4= .tuple #[]/\∃ a4 l4 c4,w8.cell? (Addr.add ⟨B1,0,none⟩ 1)=some (.slice a4 l4 c4)/\idxP a4 l4 x10 4 fun q1=>∃ x11 x12 x13,cellsAt w8 (q1.add 1) [.int .u8 x11,.int .u32 x12,.int .u64 x13] 0/\∀ B2 w9,New w8 (.cells #[.int .u8 0,.int .u32 0,.int .u64 0] T.api_Head) B2 w9->storeP w9 ⟨B2,0,none⟩ [.int .u8 x11,.int .u32 x12,.int .u64 x13] fun w10=>∀ w11:World,Drew w10 w11->∃ S1:World->Prop,S1 w11/\∃ x14,(∀ u1,S1 u1->u1.cell? (Addr.add ⟨B2,0,none⟩ 2)=some (.int .u64 x14))/\∃ x15,(∀ u2,S1 u2->u2.cell? (Addr.add ⟨B1,0,none⟩ 2)=some (.int .u64 x15))/\br (decide (x14 > x15)) (∃ x16,w11.cell? (Addr.add ⟨B2,0,none⟩ 2)=some (.int .u64 x16)/\storeP w11 (Addr.add ⟨B1,0,none⟩ 2) [.int .u64 x16] fun w12=>storeP w12 (Addr.add ⟨B1,0,none⟩ 3) [.int .i64 (i64.wrap (x10+1))] fun w13=>J2 (i64.wrap (x10+1)) w13/\μ1 (i64.wrap (x10+1)) w13 < μ1 x10 w7) (∃ x17,(∀ u3,S1 u3->u3.cell? (Addr.add ⟨B2,0,none⟩ 2)=some (.int .u64 x17))/\∃ x18,(∀ u4,S1 u4->u4.cell? (Addr.add ⟨B1,0,none⟩ 2)=some (.int .u64 x18))/\br (x17 == x18) (∃ x19,(∀ u5,S1 u5->u5.cell? (Addr.add ⟨B2,0,none⟩ 2)=some (.int .u64 x19))/\br (decide (x19 > 0)) (∃ x20,w11.cell? (Addr.add ⟨B2,0,none⟩ 2)=some (.int .u64 x20)/\storeP w11 (Addr.add ⟨B1,0,none⟩ 2) [.int .u64 x20] fun w14=>storeP w14 (Addr.add ⟨B1,0,none⟩ 3) [.int .i64 (i64.wrap (x10+1))] fun w15=>J2 (i64.wrap (x10+1)) w15/\μ1 (i64.wrap (x10+1)) w15 < μ1 x10 w7) (J2 (i64.wrap (x10+1)) w11/\μ1 (i64.wrap (x10+1)) w11 < μ1 x10 w7)) (J2 (i64.wrap (x10+1)) w11/\μ1 (i64.wrap (x10+1)) w11 < μ1 x10 w7))) (R (.tuple #[.pointer (some ⟨B1,0,none⟩),.int .i64 0]) w7)))
theorem pool_Scan.sh {y0a w R} (h:pool_Scan.body y0a w R) :
  CallsR prog K.pool_Scan #[.pointer y0a] w R:=calls_body follows Tryz.func34 ([(3,[0],[],[])]) ([(8,[6,36],[37],[.int .i64 0])]) (Eq.mp (by kernel_rfl) h)
def stem_Stem_own.body (s:Option Addr) (w:World) (R:RT):Prop :=
 nilC s fun q1=>∃ p1,w.cell? q1=some (.pointer p1)/\CallsR prog K.pool_Pool_Taken #[.pointer p1] w fun v1 w1=>∃ a1 l1 c1,v1= .slice a1 l1 c1/\∃ (J1:Option Addr->Nat->Nat->Option Addr->Nat->Nat->Int->World->Prop) (μ1:Option Addr->Nat->Nat->Option Addr->Nat->Nat->Int->World->Nat),J1 none 0 0 none 0 0 0 w1/\∀ (a2:Option Addr) (l2 c2:Nat),∀ (a3:Option Addr) (l3 c3:Nat),∀ x1:Int,∀ w2:World,J1 a2 l2 c2 a3 l3 c3 x1 w2->br (decide (x1<((l1:Nat):Int))) (idxP a1 l1 x1 5 fun q2=>∃ x2 x3 x4 x5 b1,cellsAt w2 q2 [.int .i64 x2,.int .u8 x3,.int .u32 x4,.int .u64 x5,.bool b1] 0/\∀ B1 w3,New w2 (.cells #[.int .i64 0,.int .u8 0,.int .u32 0,.int .u64 0,.bool false] T.api_Taken) B1 w3->storeP w3 ⟨B1,0,none⟩ [.int .i64 x2,.int .u8 x3,.int .u32 x4,.int .u64 x5,.bool b1] fun w4=>∀ w5:World,Drew w4 w5->∃ S1:World->Prop,S1 w5/\∃ x6,(∀ u1,S1 u1->u1.cell? (Addr.add ⟨B1,0,none⟩ 1)=some (.int .u8 x6))/\br (x6 == 2) (∃ x7,(∀ u2,S1 u2->u2.cell? (Addr.add (Addr.add ⟨B1,0,none⟩ 1) 1)=some (.int .u32 x7))/\nilC s fun q3=>∃ x8,(∀ u3,S1 u3->u3.cell? (q3.add 1)=some (.int .u32 x8))/\br (x7 == x8) (∃ x9,w5.cell? ⟨B1,0,none⟩= some (.int .i64 x9)/\∀ B2 w6,New w5 (.cells #[.int .i64 x9] T.int) B2 w6->appendP T.int 1 8 [.int .i64 0] a2 l2 c2 (.slice (some ⟨B2,0,none⟩) 1 1) w6 fun a4 l4 c4 w7=>∃ b2,w7.cell? (Addr.add ⟨B1,0,none⟩ 4)=some (.bool b2)/\br (!b2) (∃ x10,w7.cell? ⟨B1,0,none⟩= some (.int .i64 x10)/\∀ B3 w8,New w7 (.cells #[.int .i64 x10] T.int) B3 w8->appendP T.int 1 8 [.int .i64 0] a3 l3 c3 (.slice (some ⟨B3,0,none⟩) 1 1) w8 fun a5 l5 c5 w9=>J1 a4 l4 c4 a5 l5 c5 (i64.wrap (x1+1)) w9/\μ1 a4 l4 c4 a5 l5 c5 (i64.wrap (x1+1)) w9 < μ1 a2 l2 c2 a3 l3 c3 x1 w2) (J1 a4 l4 c4 a3 l3 c3 (i64.wrap (x1+1)) w7/\μ1 a4 l4 c4 a3 l3 c3 (i64.wrap (x1+1)) w7 < μ1 a2 l2 c2 a3 l3 c3 x1 w2)) (J1 a2 l2 c2 a3 l3 c3 (i64.wrap (x1+1)) w5/\μ1 a2 l2 c2 a3 l3 c3 (i64.wrap (x1+1)) w5 < μ1 a2 l2 c2 a3 l3 c3 x1 w2)) (J1 a2 l2 c2 a3 l3 c3 (i64.wrap (x1+1)) w5/\μ1 a2 l2 c2 a3 l3 c3 (i64.wrap (x1+1)) w5 < μ1 a2 l2 c2 a3 l3 c3 x1 w2)) (R (.tuple #[.slice a2 l2 c2,.slice a3 l3 c3]) w2)
theorem stem_Stem_own.sh {s w R} (h:stem_Stem_own.body s w R) :
  CallsR prog K.stem_Stem_own #[.pointer s] w R:=calls_body follows Tryz.func35 ([]) ([(2,[0,10,11],[2,3,12],[.slice none 0 0,.slice none 0 0,.int .i64 0])]) (Eq.mp (by kernel_rfl) h)
def stem_greatest.body (c:Option Addr) (blocks:Option Addr) (blocksL blocksC:Nat) (w:World) (R:RT):Prop :=
 ∃ (J1:Int->Int->World->Prop) (μ1:Int->Int->World->Nat),J1 0 0 w/\∀ x1:Int,∀ x2:Int,∀ w1:World,J1 x1 x2 w1->br (decide (x2<((blocksL:Nat):Int))) (idxP blocks blocksL x2 1 fun q1=>∃ x3,w1.cell? q1=some (.int .i64 x3)/\∃ (J2:Int->Int->World->Prop) (μ2:Int->Int->World->Nat),J2 x1 1 w1/\∀ x4:Int,∀ x5:Int,∀ w2:World,J2 x4 x5 w2->CallsR prog K.nand_Chip_Geo #[.pointer c] w2 fun v1 w3=>∃ x6 x7 x8 x9,v1= .agg #[.int .i64 x6,.int .i64 x7,.int .i64 x8,.int .i64 x9]/\br (decide (x5<x7)) (CallsR prog K.nand_Chip_Read #[.pointer c,.int .i64 x3,.int .i64 x5] w3 fun v2 w4=>∃ a1 l1 c1 x10,v2= .tuple #[.slice a1 l1 c1,.int .i64 x10]/\CallsR prog K.seal_Get #[.slice a1 l1 c1] w4 fun v3 w5=>∃ x11 a2 l2 c2 x12,v3= .tuple #[.int .u8 x11,.slice a2 l2 c2,.int .i64 x12]/\br (x12 != 0) (J2 x4 (i64.wrap (x5+1)) w5/\μ2 x4 (i64.wrap (x5+1)) w5 < μ2 x4 x5 w2) (br (x11 != 6) (J2 x4 (i64.wrap (x5+1)) w5/\μ2 x4 (i64.wrap (x5+1)) w5 < μ2 x4 x5 w2) (CallsR prog K.point_Get #[.slice a2 l2 c2] w5 fun v4 w6=>∃ x13 x14 x15 x16 x17,v4= .tuple #[.agg #[.int .u64 x13,.int .i64 x14,.int .i64 x15,.int .i64 x16],.int .i64 x17]/\∀ B1 w7,New w6 (.cells #[.int .u64 0,.int .i64 0,.int .i64 0,.int .i64 0] T.api_Point) B1 w7->storeP w7 ⟨B1,0,none⟩ [.int .u64 x13,.int .i64 x14,.int .i64 x15,.int .i64 x16] fun w8=>br (x17 == 0) (∃ x18,w8.cell? ⟨B1,0,none⟩= some (.int .u64 x18)/\J2 (if x18 > x4 then x18 else x4) (i64.wrap (x5+1)) w8/\μ2 (if x18 > x4 then x18 else x4) (i64.wrap (x5+1)) w8 < μ2 x4 x5 w2) (J2 x4 (i64.wrap (x5+1)) w8/\μ2 x4 (i64.wrap (x5+1)) w8 < μ2 x4 x5 w2)))) (J1 x4 (i64.wrap (x2+1)) w3/\μ1 x4 (i64.wrap (x2+1)) w3 < μ1 x1 x2 w1)) (R (.int .u64 x1) w1)
theorem stem_greatest.sh {c blocks blocksL blocksC w R} (h:stem_greatest.body c blocks blocksL blocksC w R) :
  CallsR prog K.stem_greatest #[.pointer c,.slice blocks blocksL blocksC] w R:=calls_body follows Tryz.func36 ([]) ([(3,[0,16,17],[5,18],[.int .u64 0,.int .i64 0]),(6,[0,7,16,17,18],[5,8],[.int .u64 0,.int .i64 0])]) (Eq.mp (by kernel_rfl) h)
def stem_Stem_end.body (s:Option Addr) (top_Block:Int) (top_Page:Int) (count:Int) (w:World) (R:RT):Prop :=
 ∀ B1 w1,New w (.cells #[.int .i64 top_Block,.int .i64 top_Page] T.api_Place) B1 w1->nilC s fun q1=>∃ x1,w1.cell? (q1.add 7)=some (.int .u64 x1)/\nilC s fun q2=>storeP w1 (q2.add 7) [.int .u64 (u64.wrap (x1+1))] fun w2=>∀ w3:World,Drew w2 w3->∃ S1:World->Prop,S1 w3/\nilC s fun q3=>∃ p1,(∀ u1,S1 u1->u1.cell? q3=some (.pointer p1))/\nilC s fun q4=>∃ x2,(∀ u2,S1 u2->u2.cell? (q4.add 7)=some (.int .u64 x2))/\∃ x3,(∀ u3,S1 u3->u3.cell? ⟨B1,0,none⟩= some (.int .i64 x3))/\∃ x4,(∀ u4,S1 u4->u4.cell? (Addr.add ⟨B1,0,none⟩ 1)=some (.int .i64 x4))/\CallsR prog K.pool_Pool_Chip #[.pointer p1] w3 fun v1 w4=>∃ p2,v1= .pointer p2/\S1 w4/\CallsR prog K.nand_Chip_Geo #[.pointer p2] w4 fun v2 w5=>∃ x5 x6 x7 x8,v2= .agg #[.int .i64 x5,.int .i64 x6,.int .i64 x7,.int .i64 x8]/\S1 w5/\CallsR prog K.point_Put #[.int .i64 x7,.agg #[.int .u64 x2,.int .i64 x3,.int .i64 x4,.int .i64 count]] w5 fun v3 w6=>∃ a1 l1 c1 x9,v3= .tuple #[.slice a1 l1 c1,.int .i64 x9]/\S1 w6/\br (x9 != 0) (R (.int .i64 x9) w6) (CallsR prog K.stem_Stem_write #[.pointer s,.slice a1 l1 c1] w6 fun v4 w7=>∃ x10 x11 x12,v4= .tuple #[.agg #[.int .i64 x10,.int .i64 x11],.int .i64 x12]/\∀ B2 w8,New w7 (.cells #[.int .i64 0,.int .i64 0] T.api_Place) B2 w8->storeP w8 ⟨B2,0,none⟩ [.int .i64 x10,.int .i64 x11] fun w9=>br (x12 == 0) (∃ x13 x14,cellsAt w9 ⟨B2,0,none⟩ [.int .i64 x13,.int .i64 x14] 0/\nilC s fun q5=>storeP w9 (q5.add 5) [.int .i64 x13,.int .i64 x14] fun w10=>R (.int .i64 x12) w10) (R (.int .i64 x12) w9))
theorem stem_Stem_end.sh {s top_Block top_Page count w R} (h:stem_Stem_end.body s top_Block top_Page count w R) :
  CallsR prog K.stem_Stem_end #[.pointer s,.agg #[.int .i64 top_Block,.int .i64 top_Page],.int .i64 count] w R:=calls_body follows Tryz.func37 ([]) ([]) (Eq.mp (by kernel_rfl) h)
def walk_Facts.body (c:Option Addr) (era:Int) (w:World) (R:RT):Prop :=
 CallsR prog K.walk_walked #[.pointer c,.int .u32 era] w fun v1 w1=>∃ p1 x1,v1= .tuple #[.pointer p1,.int .i64 x1]/\br (x1 != 0) (R (.tuple #[.slice none 0 0,.int .i64 x1]) w1) (nilC p1 fun q1=>∃ a1 l1 c1,w1.cell? (q1.add 4)=some (.slice a1 l1 c1)/\R (.tuple #[.slice a1 l1 c1,.int .i64 0]) w1)
theorem walk_Facts.sh {c era w R} (h:walk_Facts.body c era w R) :
  CallsR prog K.walk_Facts #[.pointer c,.int .u32 era] w R:=calls_body follows Tryz.func38 ([]) ([]) (Eq.mp (by kernel_rfl) h)
end
end Go.Den
