/- The operations of a translated Go function, each as a plain proposition: definitions. -/
import Derived.Test.YtljaocdmeoheaaaDen
namespace Go.Den

def cellsAt (w : World) (a : Addr) : List Value → Nat → Prop
  | [], _ => True
  | v :: vs, i => w.cell? (a.add i) = some v ∧ cellsAt w a vs (i + 1)

def splice (cur : Array Value) (off : Nat) (vs : List Value) : Array Value := (cur.toList.take off ++ vs ++ cur.toList.drop (off + vs.length)).toArray
def putBlk (w : World) (b : Nat) (o : Obj) : World := { w with heap := w.heap.setIfInBounds b o }

/-- w' is w with a new block b -/
structure New (w : World) (o : Obj) (b : Nat) (w' : World) : Prop where
  num : b = w.heap.size
  eq : w' = w.alloc o
/-- w' is w with another block at b -/
structure Put (w : World) (b : Nat) (o : Obj) (w' : World) : Prop where
  lt : b < w.heap.size
  eq : w' = putBlk w b o
/-- w' is w behind a draw -/
structure Drew (w w' : World) : Prop where
  eq : w' = w.drew
/-- a store of cells into one block -/
def storeP (w : World) (a : Addr) (vs : List Value) (K : World → Prop) : Prop :=
  a.spot = none ∧ ∃ cur T fr, w.heap[a.block]? = some (.cells cur T fr) ∧ a.off + vs.length ≤ cur.size ∧ (fr.2 ≤ a.off ∨ a.off + vs.length ≤ fr.1) ∧
    ∀ w', Put w a.block (.cells (splice cur a.off vs) T fr) w' → K w'

/-! ### Quiet operations: a value, and no world is changed -/
def zeroOf (P : Program) (t : TypeId) : Option Value :=
  match P.info? t with
  | some i => match i.zero with
    | some z => if z.cells.size = i.size then some z else none
    | none => none
  | none => none
def isAggT (P : Program) (t : TypeId) : Option Bool :=
  match P.underlying t with
  | some (.struct _) => some true
  | some (.array _ _) => some true
  | some _ => some false
  | none => none
def sizeT (P : Program) (t : TypeId) : Option Nat :=
  match P.info? t with
  | some i => some i.size
  | none => none
def bytesT (P : Program) (t : TypeId) : Option Nat :=
  match P.info? t with
  | some i => some i.bytes
  | none => none

def loadP (P : Program) (t : TypeId) (a : Addr) (C : (World → Prop) → Prop) (K : Value → Prop) : Prop :=
  match zeroOf P t, isAggT P t with
  | some (.agg cs), some true => exLeaves cs.toList fun vs => C (fun w => cellsAt w a vs 0) ∧ K (.agg vs.toArray)
  | some z, some false => exLeaf z fun v => C (fun w => w.cell? a = some v) ∧ K v
  | _, _ => False

def nilC (p : Option Addr) (K : Addr → Prop) : Prop :=
  match p with
  | some a => K a
  | none => False
def idxP (base : Option Addr) (len : Nat) (i : Int) (size : Nat) (K : Addr → Prop) : Prop :=
  0 ≤ i ∧ i < len ∧ nilC base fun a => K (a.add (i.toNat * size))

def partL (P : Program) (t : TypeId) (cs : List Value) (off : Nat) : Option Value :=
  match isAggT P t, sizeT P t with
  | some true, some n => if off + n ≤ cs.length then some (.agg ((cs.drop off).take n).toArray) else none
  | some false, _ => cs[off]?
  | _, _ => none

def fieldOf (P : Program) (t : TypeId) (f : Nat) : Option Field :=
  match P.underlying t with
  | some (.struct fs) => fs.toList[f]?
  | _ => none

def eqB : Value → Value → Option Bool
  | .bool a, .bool b => some (a == b)
  | _, _ => none
def eqI : Value → Value → Option Bool
  | .int k a, .int k' b => if k = k' then some (a == b) else none
  | _, _ => none
def eqS : Value → Value → Option Bool
  | .string a, .string b => some (a.toList == b.toList)
  | _, _ => none
def aggOf : Value → Option (Array Value)
  | .agg cs => some cs
  | _ => none
def eqGo (P : Program) (rec : TypeId → Value → Value → Option Bool) (xs ys : List Value) : List Field → Option Bool
  | [] => some true
  | f :: fs => if f.name = "_" then none else
    match partL P f.type xs f.offset, partL P f.type ys f.offset with
    | some a, some b => match rec f.type a b, eqGo P rec xs ys fs with
      | some r, some q => some (r && q)
      | _, _ => none
    | _, _ => none
/-- equality at a type of integers, bools, strings, and structs of these -/
def eqV (P : Program) : Nat → TypeId → Value → Value → Option Bool
  | 0, _, _, _ => none
  | d + 1, t, x, y => match P.underlying t with
    | some .bool => eqB x y
    | some (.int _) => eqI x y
    | some .string => eqS x y
    | some (.struct fs) => match aggOf x, aggOf y with
      | some xs, some ys => if P.stoodInHeld t then none else eqGo P (eqV P d) xs.toList ys.toList fs.toList
      | _, _ => none
    | _ => none

def intOp (op : BinOp) (k : IntKind) (a b : Int) (K : Value → Prop) : Prop :=
  match op with
  | .add => K (.int k (k.wrap (a + b)))
  | .sub => K (.int k (k.wrap (a - b)))
  | .mul => K (.int k (k.wrap (a * b)))
  | .quo => b ≠ 0 ∧ K (.int k (k.wrap (a.tdiv b)))
  | .rem => b ≠ 0 ∧ K (.int k (a.tmod b))
  | .and => K (.int k (k.wrap ((BitVec.ofInt k.bits a &&& BitVec.ofInt k.bits b).toNat)))
  | .or => K (.int k (k.wrap ((BitVec.ofInt k.bits a ||| BitVec.ofInt k.bits b).toNat)))
  | .xor => K (.int k (k.wrap ((BitVec.ofInt k.bits a ^^^ BitVec.ofInt k.bits b).toNat)))
  | .andNot => K (.int k (k.wrap ((BitVec.ofInt k.bits a &&& ~~~ BitVec.ofInt k.bits b).toNat)))
  | .eql => K (.bool (a == b))
  | .neq => K (.bool (a != b))
  | .lss => K (.bool (decide (a < b)))
  | .leq => K (.bool (decide (a ≤ b)))
  | .gtr => K (.bool (decide (a > b)))
  | .geq => K (.bool (decide (a ≥ b)))
  | .shl => False
  | .shr => False
def shlV (k : IntKind) (a b : Int) : Value := .int k (k.wrap (a * 2 ^ (min b.toNat k.bits)))
def shrV (k : IntKind) (a b : Int) : Value := .int k (a.fdiv (2 ^ (min b.toNat k.bits)))
def strOp (op : BinOp) (a b : ByteArray) (K : Value → Prop) : Prop :=
  match op with
  | .add => a.size + b.size ≤ 9223372036854775807 ∧ K (.string (a ++ b))
  | .eql => K (.bool (a.toList == b.toList))
  | .neq => K (.bool (!(a.toList == b.toList)))
  | .lss => K (.bool (Op.bytesLess a.toList b.toList))
  | .leq => K (.bool (Op.bytesLess a.toList b.toList || a.toList == b.toList))
  | .gtr => K (.bool (!(Op.bytesLess a.toList b.toList || a.toList == b.toList)))
  | .geq => K (.bool (!(Op.bytesLess a.toList b.toList)))
  | _ => False
/-- p == q; two that are not nil must lie in one block -/
def ptrEq (p q : Option Addr) (K : Bool → Prop) : Prop :=
  match q with
  | none => K p.isNone
  | some b => match p with
    | none => K false
    | some a => a.block = b.block ∧ K (a == b)

def binP (P : Program) (op : BinOp) (t : TypeId) (x y : Value) (K : Value → Prop) : Prop :=
  match op with
  | .shl => match x, y with | .int k a, .int _ b => 0 ≤ b ∧ K (shlV k a b) | _, _ => False
  | .shr => match x, y with | .int k a, .int _ b => 0 ≤ b ∧ K (shrV k a b) | _, _ => False
  | op => match x, y with
    | .int k a, .int k' b => if k = k' then intOp op k a b K else False
    | .string a, .string b => strOp op a b K
    | .bool a, .bool b => match P.underlying t with
      | some .bool => match op with | .eql => K (.bool (a == b)) | .neq => K (.bool (!(a == b))) | _ => False
      | _ => False
    | .pointer p, .pointer q => match P.underlying t with
      | some (.pointer e) => match sizeT P e with
        | some (_ + 1) => match op with | .eql => ptrEq p q fun b => K (.bool b) | .neq => ptrEq p q fun b => K (.bool (!b)) | _ => False
        | _ => False
      | _ => False
    | .slice a _ _, .slice none _ _ => match P.underlying t with
      | some (.slice _) => match op with | .eql => K (.bool a.isNone) | .neq => K (.bool (!a.isNone)) | _ => False
      | _ => False
    | .agg xs, .agg ys => if P.eqGuardType P.depth t then False else match eqV P 9 t (.agg xs) (.agg ys) with
      | some b => match op with | .eql => K (.bool b) | .neq => K (.bool (!b)) | _ => False
      | none => False
    | _, _ => False

def sliceP (size : Nat) (base : Option Addr) (len cap : Nat) (lo hi mx : Option Int) (K : Option Addr → Nat → Nat → Prop) : Prop :=
  0 ≤ mx.getD cap ∧ mx.getD cap ≤ cap ∧ 0 ≤ hi.getD len ∧ hi.getD len ≤ mx.getD cap ∧ 0 ≤ lo.getD 0 ∧ lo.getD 0 ≤ hi.getD len ∧ (mx.isSome = true → hi.isSome = true) ∧
    K (if (mx.getD cap).toNat = (lo.getD 0).toNat then base else base.map (·.add ((lo.getD 0).toNat * size)))
      ((hi.getD len).toNat - (lo.getD 0).toNat) ((mx.getD cap).toNat - (lo.getD 0).toNat)
def intsOf (ε : Env) : Option Operand → Option (Option Int)
  | none => some none
  | some x => match ev ε x with
    | some (.int _ n) => some (some n)
    | _ => none

def fillL (place : Nat → Option (Nat × Nat)) (cells : List Value) : List (Nat × Value) → Option (List Value)
  | [] => some cells
  | (i, v) :: rest => match place i with
    | none => none
    | some (off, size) => if v.cells.toList.length = size ∧ off + size ≤ cells.length then
        fillL place (cells.take off ++ v.cells.toList ++ cells.drop (off + size)) rest else none
def evParts (ε : Env) : List (Nat × Operand) → Option (List (Nat × Value))
  | [] => some []
  | (i, x) :: r => match ev ε x with
    | some v => match evParts ε r with
      | some vs => some ((i, v) :: vs)
      | none => none
    | none => none
def evs (ε : Env) : List Operand → Option (List Value)
  | [] => some []
  | x :: r => match ev ε x with
    | some v => match evs ε r with
      | some vs => some (v :: vs)
      | none => none
    | none => none
def structPlaces (P : Program) (fs : List Field) : Option (List (Nat × Nat)) :=
  match fs with
  | [] => some []
  | f :: r => match sizeT P f.type, structPlaces P r with
    | some n, some l => some ((f.offset, n) :: l)
    | _, _ => none
def buildV (P : Program) (t : TypeId) (parts : List (Nat × Value)) : Option Value :=
  match zeroOf P t, P.underlying t with
  | some z, some (.struct fs) => match structPlaces P fs.toList with
    | some ps => match fillL (fun i => ps[i]?) z.cells.toList parts with
      | some cs => some (.agg cs.toArray)
      | none => none
    | none => none
  | some z, some (.array _ e) => match sizeT P e with
    | some n => match fillL (fun i => some (i * n, n)) z.cells.toList parts with
      | some cs => some (.agg cs.toArray)
      | none => none
    | none => none
  | _, _ => none

/-- whichever part an index names -/
def partAll (P : Program) (e : TypeId) (cs : List Value) (size : Nat) (n : Int) (K : Value → Prop) : Nat → Prop
  | 0 => True
  | j + 1 => partAll P e cs size n K j ∧ (n = (j : Nat) → match partL P e cs (j * size) with
    | some v => K v
    | none => False)
def isQuiet (P : Program) : Op → Bool
  | .move _ | .assign _ | .pick .. | .nilCheck _ | .binOp .. | .unOp .. | .makeFunc .. | .extract .. | .makeInterface .. | .fieldAddr .. | .field ..
  | .indexAddr .. | .index .. | .slice .. | .build .. | .load .. => true
  | .convert src dst _ => match P.underlying src, P.underlying dst with
    | some (.int _), some (.int _) => true
    | some .string, some .string => true
    | _, _ => false
  | .call c => match c.callee with
    | .builtin .len | .builtin .cap | .builtin .max | .builtin .min => true
    | _ => false
  | _ => false

def quietP (P : Program) (C : (World → Prop) → Prop) (o : Op) (ε : Env) (K : Value → Prop) : Prop :=
  match o with
  | .move x => match ev ε x with | some v => K v | none => False
  | .assign x => match ev ε x with | some v => K v | none => False
  | .pick c x y => match ev ε c, ev ε x, ev ε y with
    | some (.bool t), some (.bool a), some (.bool b) => K (.bool (cond t a b))
    | some (.bool t), some a, some b => match t with | true => K a | false => K b
    | _, _, _ => False
  | .nilCheck x => match ev ε x with
    | some (.pointer p) => nilC p fun a => K (.pointer (some a))
    | some (.func (.func f) b c) => K (.func (.func f) b c)
    | _ => False
  | .binOp op t x y _ => match ev ε x, ev ε y with
    | some a, some b => binP P op t a b K
    | _, _ => False
  | .unOp op _ x => match op, ev ε x with
    | .not, some (.bool b) => K (.bool (!b))
    | .neg, some (.int k n) => K (.int k (k.wrap (0 - n)))
    | .xor, some (.int k n) => K (.int k (k.wrap ((BitVec.ofInt k.bits (if k.signed then -1 else k.max) ^^^ BitVec.ofInt k.bits n).toNat)))
    | _, _ => False
  | .makeFunc fn first captured => match evs ε first.toList, evs ε captured.toList with
    | some a, some b => K (.func fn a.toArray b.toArray)
    | _, _ => False
  | .extract x i => match ev ε x with
    | some (.tuple vs) => match vs.toList[i]? with | some v => K v | none => False
    | _ => False
  | .makeInterface t x => match P.underlying t, ev ε x with
    | some (.interface _), _ => False
    | some _, some v => K (.iface t v)
    | _, _ => False
  | .fieldAddr t x f => match ev ε x, fieldOf P t f with
    | some (.pointer (some a)), some fld => match sizeT P fld.type with
      | some (_ + 1) => K (.pointer (some (a.add fld.offset)))
      | _ => False
    | _, _ => False
  | .field t x f => match ev ε x, fieldOf P t f with
    | some (.agg cs), some fld => match partL P fld.type cs.toList fld.offset with
      | some v => K v
      | none => False
    | _, _ => False
  | .indexAddr t x i => match ev ε x, ev ε i, P.underlying t with
    | some (.slice base len _), some (.int _ n), some (.slice e) => match sizeT P e with
      | some size => idxP base len n size fun a => K (.pointer (some a))
      | none => False
    | some (.pointer (some a)), some (.int _ n), some (.array len e) => match sizeT P e with
      | some size => 0 ≤ n ∧ n < len ∧ K (.pointer (some (a.add (n.toNat * size))))
      | none => False
    | _, _, _ => False
  | .index t x i => match ev ε x, ev ε i, P.underlying t with
    | some (.agg cs), some (.int _ n), some (.array len e) => match sizeT P e with
      | some size => 0 ≤ n ∧ n < len ∧ match i with
        | .const _ => (match partL P e cs.toList (n.toNat * size) with
          | some v => K v
          | none => False)
        | _ => partAll P e cs.toList size n K len
      | none => False
    | some (.string s), some (.int _ n), some .string => 0 ≤ n ∧ ∃ b : UInt8, s.data.toList[n.toNat]? = some b ∧ K (.int .u8 b.toNat)
    | _, _, _ => False
  | .slice t x lo hi mx => match ev ε x, P.underlying t, intsOf ε lo, intsOf ε hi, intsOf ε mx with
    | some (.slice base len cap), some (.slice e), some l, some h, some m => match sizeT P e with
      | some size => sliceP size base len cap l h m fun a l c => K (.slice a l c)
      | none => False
    | some (.pointer (some a)), some (.array n e), some l, some h, some m => match sizeT P e with
      | some size => sliceP size (some a) n n l h m fun a l c => K (.slice a l c)
      | none => False
    | some (.string s), some .string, some l, some h, some none =>
      0 ≤ h.getD s.size ∧ h.getD s.size ≤ s.size ∧ 0 ≤ l.getD 0 ∧ l.getD 0 ≤ h.getD s.size ∧ K (.string (s.extract (l.getD 0).toNat (h.getD s.size).toNat))
    | _, _, _, _, _ => False
  | .build t parts => match evParts ε parts.toList with
    | some ps => match buildV P t ps with
      | some v => K v
      | none => False
    | none => False
  | .load t x => match ev ε x with
    | some (.pointer (some a)) => loadP P t a C K
    | _ => False
  | .convert src dst x => match P.underlying src, P.underlying dst, ev ε x with
    | some (.int _), some (.int k), some (.int _ n) => K (.int k (k.wrap n))
    | some .string, some .string, some (.string s) => K (.string s)
    | _, _, _ => False
  | .call c => match c.callee, evs ε c.args.toList, c.argTypes.toList with
    | .builtin .len, some [v], [t] => match P.underlying t, v with
      | some .string, .string s => K (.int .i64 s.size)
      | some (.slice _), .slice _ n _ => K (.int .i64 n)
      | some (.array n _), _ => K (.int .i64 n)
      | _, _ => False
    | .builtin .cap, some [v], [t] => match P.underlying t, v with
      | some (.slice _), .slice _ _ n => K (.int .i64 n)
      | _, _ => False
    | .builtin .max, some [.int k a, .int _ b], _ => K (.int k (if b > a then b else a))
    | .builtin .min, some [.int k a, .int _ b], _ => K (.int k (if b < a then b else a))
    | _, _, _ => False
  | _ => False

/-! ### Operations that change the world, or may -/
def CallsR (P : Program) (f : FuncId) (args : Array Value) (w : World) (R : Value → World → Prop) : Prop :=
  Calls P f args w fun e w' => ∃ v, e = .returned v ∧ R v w'
def hasBody (P : Program) (f : FuncId) : Bool :=
  match P.funcs[f]? with
  | some fn => fn.body.isSome && !(fn.name == "runtime.NumGoroutine")
  | none => false

def callP (P : Program) (f : FuncId) (args : List Value) (z : Option Value) (w : World) (K : Value → World → Prop) : Prop :=
  match z with
  | some z => CallsR P f args.toArray w fun v w' => exSh z fun u => v = u ∧ K u w'
  | none => CallsR P f args.toArray w K
/-- a function value is called -/
def callV (P : Program) (v : Value) (args : List Value) (z : Option Value) (w : World) (K : Value → World → Prop) : Prop :=
  match v with
  | .func (.func f) first captured => hasBody P f = true ∧ callP P f (first.toList ++ args ++ captured.toList) z w K
  | _ => False

/-- what a slice's or a string's first cells are -/
def readP (w : World) (size : Nat) (x : Value) (n : Nat) (vs : List Value) : Prop :=
  match x with
  | .slice (some a) _ _ => vs.length = n * size ∧ cellsAt w a vs 0
  | .slice none _ _ => vs = []
  | .string s => vs = ((s.extract 0 n).data.toList.map fun b => Value.int .u8 b.toNat)
  | _ => False
def lenV : Value → Option Nat
  | .slice _ n _ => some n
  | .string s => some s.size
  | _ => none
def zerosL (z : List Value) : Nat → List Value
  | 0 => []
  | n + 1 => z ++ zerosL z n
/-- append of x's cells onto a slice -/
def appendP (e : TypeId) (size bytes : Nat) (z : List Value) (base : Option Addr) (sLen sCap : Nat) (x : Value) (w : World) (K : Option Addr → Nat → Nat → World → Prop) : Prop :=
  ∃ n, lenV x = some n ∧ ∃ new, readP w size x n new ∧ (∀ v ∈ new, v.oneCell' = true) ∧
    (sLen + n ≤ sCap → (match base with
      | some a => storeP w (a.add (sLen * size)) new fun w' => K (some a) (sLen + n) sCap w'
      | none => K none (sLen + n) sCap w)) ∧
    (sCap < sLen + n → sLen + n < 9223372036854775808 ∧ Builtin.nextslicecap (sLen + n) sCap * bytes ≤ 2 ^ 48 ∧ ∃ old, readP w size (.slice base sLen sCap) sLen old ∧
      ∀ cap b w', sLen + n ≤ cap → New w.drew (.cells (old ++ new ++ zerosL z (cap - (sLen + n))).toArray e) b w' → K (some ⟨b, 0, none⟩) (sLen + n) cap w')
/-- append of so many zeros: append(s, make([]T, n)...) -/
def appendZ (e : TypeId) (size bytes : Nat) (z : List Value) (base : Option Addr) (sLen sCap : Nat) (m : Int) (w : World) (K : Option Addr → Nat → Nat → World → Prop) : Prop :=
  0 ≤ m ∧ m < 9223372036854775808 ∧ m * bytes ≤ 2 ^ 48 ∧ (∀ v ∈ z, v.oneCell' = true) ∧ z.length = size ∧
    (sLen + m.toNat ≤ sCap → (match base with
      | some a => storeP w (a.add (sLen * size)) (zerosL z m.toNat) fun w' => K (some a) (sLen + m.toNat) sCap w'
      | none => K none (sLen + m.toNat) sCap w)) ∧
    (sCap < sLen + m.toNat → sLen + m.toNat < 9223372036854775808 ∧ Builtin.nextslicecap (sLen + m.toNat) sCap * bytes ≤ 2 ^ 48 ∧ ∃ old, readP w size (.slice base sLen sCap) sLen old ∧
      ∀ cap b w', sLen + m.toNat ≤ cap → New w.drew (.cells (old ++ zerosL z m.toNat ++ zerosL z (cap - (sLen + m.toNat))).toArray e) b w' → K (some ⟨b, 0, none⟩) (sLen + m.toNat) cap w')
def copyP (size : Nat) (base : Option Addr) (dLen : Nat) (x : Value) (w : World) (K : Int → World → Prop) : Prop :=
  ∃ n, lenV x = some n ∧ ∃ new, readP w size x (min n dLen) new ∧ (∀ v ∈ new, v.oneCell' = true) ∧
    match base with
    | some a => storeP w a new fun w' => K (min n dLen : Nat) w'
    | none => K (min n dLen : Nat) w
def makeSliceP (e : TypeId) (size bytes : Nat) (z : List Value) (len cap : Int) (w : World) (K : Option Addr → Nat → Nat → World → Prop) : Prop :=
  0 ≤ len ∧ len ≤ cap ∧ cap < 9223372036854775808 ∧ bytes * cap ≤ 2 ^ 48 ∧ z.length = size ∧
    ∀ b w', New w (.cells (zerosL z cap.toNat).toArray e) b w' → K (some ⟨b, 0, none⟩) len.toNat cap.toNat w'

def effP (P : Program) (o : Oper) (ε : Env) (w : World) (K : Value → World → Prop) : Prop :=
  match o.op with
  | .alloc e => match zeroOf P e with
    | some z => ∀ b w', New w (.cells z.cells.toList.toArray e) b w' → K (.pointer (some ⟨b, 0, none⟩)) w'
    | none => False
  | .box e x => match ev ε x with
    | some v => ∀ b w', New w (.cells v.cells.toList.toArray e) b w' → K (.pointer (some ⟨b, 0, none⟩)) w'
    | none => False
  | .buildSlice t len parts => match P.underlying t, evParts ε parts.toList with
    | some (.slice e), some ps => match zeroOf P e, sizeT P e with
      | some z, some size => if len * size > 2 ^ 24 then False else match fillL (fun i => some (i * size, size)) (zerosL z.cells.toList len) ps with
        | some cs => ∀ b w', New w (.cells cs.toArray e) b w' → K (.slice (some ⟨b, 0, none⟩) len len) w'
        | none => False
      | _, _ => False
    | _, _ => False
  | .store t a x => match ev ε a, ev ε x, sizeT P t with
    | some (.pointer (some a)), some v, some n => if v.cells.toList.length = n ∧ v.cells.toList.all (·.oneCell') = true then storeP w a v.cells.toList (K undef) else False
    | _, _, _ => False
  | .makeSlice t l c => match P.underlying t, ev ε l, ev ε c with
    | some (.slice e), some (.int _ len), some (.int _ cap) => match zeroOf P e, sizeT P e, bytesT P e with
      | some z, some size, some bytes => makeSliceP e size bytes z.cells.toList len cap w fun a l c => K (.slice a l c)
      | _, _, _ => False
    | _, _, _ => False
  | .call c => match c.callee, evs ε c.args.toList with
    | .value (.func f), some args => if hasBody P f then callP P f args (zeroOf P o.type) w K else False
    | .value x, some args => match ev ε x with
      | some v => callV P v args (zeroOf P o.type) w K
      | none => False
    | .builtin .append, some [.slice base l cp, x] => match c.argTypes.toList with
      | [t, u] => match P.underlying t, P.underlying u with
        | some (.slice e), some d => match zeroOf P e, sizeT P e, bytesT P e, d with
          | some z, some size, some bytes, .slice _ => appendP e size bytes z.cells.toList base l cp x w fun a l c => K (.slice a l c)
          | some z, some size, some bytes, .string => appendP e size bytes z.cells.toList base l cp x w fun a l c => K (.slice a l c)
          | some z, some size, some bytes, .int _ => match x with
            | .int _ m => appendZ e size bytes z.cells.toList base l cp m w fun a l c => K (.slice a l c)
            | _ => False
          | _, _, _, _ => False
        | _, _ => False
      | _ => False
    | .builtin .copy, some [.slice base l _, x] => match c.argTypes.toList with
      | t :: _ => match P.underlying t with
        | some (.slice e) => match sizeT P e with
          | some size => copyP size base l x w fun n => K (.int .i64 n)
          | none => False
        | _ => False
      | _ => False
    | _, _ => False
  | _ => False

end Go.Den
