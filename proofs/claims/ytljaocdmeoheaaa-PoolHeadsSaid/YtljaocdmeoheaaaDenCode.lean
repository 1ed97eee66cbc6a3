/- The reading of a whole body: regions (in the order of the text, or in every order), branches, loops, cuts. -/
import Derived.Test.YtljaocdmeoheaaaDenEff
set_option linter.unusedSimpArgs false
namespace Go.Den

/-! ### Definitions -/
def putE (n : Nat) (dst : Option Tmp) (v : Value) (ε : Env) (K : Env → Prop) : Prop :=
  match dst with
  | none => K ε
  | some d => if d < n then K ((d, v) :: ε) else False
def slotOf (ops : List Oper) (j : Nat) : Option Tmp :=
  match ops[j]? with
  | some o => o.dst
  | none => none
def guardP (ops : List Oper) (o : Oper) (ε : Env) (K : Bool → Env → Prop) : Prop :=
  match o.guard with
  | none => K true ε
  | some (j, want) => match slotOf ops j with
    | none => K false ε
    | some d => match ε.get d with
      | some (.bool b) => match b with
        | true => K want ((d, .bool true) :: ε)
        | false => K (!want) ((d, .bool false) :: ε)
      | some _ => K false ε
      | none => False
/-- one operation, in a world of which S is kept -/
def opP (P : Program) (n : Nat) (o : Oper) (ε : Env) (w : World) (K : Env → World → Prop) : Prop :=
  if isQuiet P o.op then quietP P (fun φ => φ w) o.op ε fun v => putE n o.dst v ε fun ε' => K ε' w
  else effP P o ε w fun v w' => putE n o.dst v ε fun ε' => K ε' w'
def opsP (P : Program) (n : Nat) (ops : List Oper) : List Nat → Env → World → (Env → World → Prop) → Prop
  | [], ε, w, K => K ε w
  | i :: rest, ε, w, K => match ops[i]? with
    | none => False
    | some o => guardP ops o ε fun run ε => match run with
      | true => opP P n o ε w fun ε' w' => opsP P n ops rest ε' w' K
      | false => putE n o.dst undef ε fun ε' => opsP P n ops rest ε' w K

def readyL (ops : List Oper) (ex : List Nat) : List Nat :=
  (List.range ops.length).filter fun i => !ex.contains i && (match ops[i]? with
    | some o => o.after.toList.all fun e => !Region.binds .any e || ex.contains e.on
    | none => false)
def opdsL : Op → List Operand
  | .alloc _ => []
  | .ready _ => []
  | .waits _ => []
  | .move x => [x]
  | .assign x => [x]
  | .box _ x => [x]
  | .load _ x => [x]
  | .nilCheck x => [x]
  | .unOp _ _ x => [x]
  | .convert _ _ x => [x]
  | .sliceToArrayPointer _ x => [x]
  | .makeInterface _ x => [x]
  | .makeChan _ x => [x]
  | .fieldAddr _ x _ => [x]
  | .field _ x _ => [x]
  | .range _ x => [x]
  | .next x _ => [x]
  | .entry x => [x]
  | .typeAssert x _ _ _ => [x]
  | .extract x _ => [x]
  | .panic x => [x]
  | .recv _ x _ => [x]
  | .pick c a b => [c, a, b]
  | .build _ ps => ps.toList.map (·.2)
  | .buildSlice _ _ ps => ps.toList.map (·.2)
  | .store _ a v => [a, v]
  | .binOp _ _ a v _ => [a, v]
  | .makeSlice _ a v => [a, v]
  | .indexAddr _ a v => [a, v]
  | .index _ a v => [a, v]
  | .lookup _ a v _ => [a, v]
  | .mapEntry _ a v => [a, v]
  | .send a v => [a, v]
  | .makeFunc _ first captured => first.toList ++ captured.toList
  | .makeMap _ r => r.toList
  | .slice _ x l h m => [x] ++ l.toList ++ h.toList ++ m.toList
  | .mapUpdate _ m k v => [m, k, v]
  | .entryStore _ m k v => [m, k, v]
  | .insert _ m k v => [m, k, v]
  | .call c => callL c
  | .go c => callL c
  | .defer c => callL c
  | .select _ _ => []
  where callL (c : Call) : List Operand := (match c.callee with | .value f => [f] | .invoke r _ => [r] | .builtin _ => []) ++ c.args.toList
def looksL (ops : List Oper) (o : Oper) : List Tmp :=
  ((opdsL o.op).filterMap fun | .tmp t => some t | _ => none) ++
  (match o.guard with
   | some (g, _) => (slotOf ops g).toList
   | none => [])
def apartL (ops : List Oper) (x y : Oper) : Bool :=
  (match x.dst with
   | some d => !(looksL ops y).contains d && y.dst != some d
   | none => true) &&
  (match y.dst with
   | some d => !(looksL ops x).contains d
   | none => true)
def freeL (ops : List Oper) (ex : List Nat) (i : Nat) : Bool :=
  match ops[i]? with
  | none => false
  | some oi => (List.range ops.length).all fun j => j == i || ex.contains j || match ops[j]? with
      | some oj => (oj.after.toList.any fun e => Region.binds .any e && e.on == i) || apartL ops oi oj
      | none => true
def noSelL (ops : List Oper) : Bool := ops.all fun o => match o.op with | .select .. => false | _ => true
def pickQ (P : Program) (ops : List Oper) (ex : List Nat) : List Nat → Option Nat
  | [] => none
  | i :: is => match ops[i]? with
    | some o => if isQuiet P o.op && freeL ops ex i then some i else pickQ P ops ex is
    | none => pickQ P ops ex is
def allL (K : Nat → Prop) : List Nat → Prop
  | [] => True
  | [i] => K i
  | i :: j :: r => K i ∧ allL K (j :: r)
def isLoad : Op → Bool
  | .load .. => true
  | _ => false
/-- may a load of the region come behind operation i? -/
def needA (ops : List Oper) (i : Nat) : Bool :=
  (List.range ops.length).any fun j => j != i && (match ops[j]? with
    | some o => isLoad o.op && (match ops[i]? with
      | some oi => !(oi.after.toList.any fun e => Region.binds .any e && e.on == j)
      | none => false)
    | none => false)
def condS (b : Bool) (X Y : Prop) : Prop :=
  match b with
  | true => X ∧ Y
  | false => Y
def drawC (S : World → Prop) (o : Op) : (World → Prop) → Prop := if isLoad o then fun φ => ∀ u, S u → φ u else fun φ => ∀ u, φ u
/-- a region whose order is drawn: quiet operations as early as may be, the others in whatever order they may come -/
def drawP (P : Program) (n : Nat) (ops : List Oper) (S : World → Prop) : Nat → List Nat → Env → World → (Env → World → Prop) → Prop
  | 0, ex, ε, w, K => match readyL ops ex with
    | [] => K ε w
    | _ => False
  | fuel + 1, ex, ε, w, K => match readyL ops ex with
    | [] => K ε w
    | r :: rs => match pickQ P ops ex (r :: rs) with
      | some i => match ops[i]? with
        | none => False
        | some o => guardP ops o ε fun run ε => match run with
          | true => quietP P (drawC S o.op) o.op ε fun v => putE n o.dst v ε fun ε' => drawP P n ops S fuel (i :: ex) ε' w K
          | false => putE n o.dst undef ε fun ε' => drawP P n ops S fuel (i :: ex) ε' w K
      | none => allL (fun i => match ops[i]? with
        | none => False
        | some o => guardP ops o ε fun run ε => match run with
          | true => opP P n o ε w fun ε' w' => condS (needA ops i) (S w') (drawP P n ops S fuel (i :: ex) ε' w' K)
          | false => putE n o.dst undef ε fun ε' => condS (needA ops i) (S w) (drawP P n ops S fuel (i :: ex) ε' w K)) (r :: rs)

def firstReg : Code → Option Nat
  | .region i _ _ => some i
  | .seq a b => match firstReg a with | some i => some i | none => firstReg b
  | .cond _ a b => match firstReg a with | some i => some i | none => firstReg b
  | .block _ a => firstReg a
  | .loop a => firstReg a
  | .scope a => firstReg a
  | _ => none
/-- what slots a piece of code writes -/
def wrs : Code → List Nat
  | .region _ ops _ => ops.toList.filterMap (·.dst)
  | .seq a b => wrs a ++ wrs b
  | .cond _ a b => wrs a ++ wrs b
  | .block _ a => wrs a
  | .loop a => wrs a
  | .scope a => wrs a
  | _ => []
abbrev Marks := List (Nat × List Nat × List Nat × List Value)
def markOf : Marks → Option Nat → Option (List Nat × List Nat × List Value)
  | [], _ => none
  | _, none => none
  | (k, r) :: ms, some i => if k = i then some r else markOf ms (some i)
def okMark (keep ts : List Nat) (ws : List Nat) : Bool := (keep.all fun t => !ws.contains t) && nodupL ts
  where nodupL : List Nat → Bool
  | [] => true
  | t :: r => !r.contains t && nodupL r

def den (P : Program) (n : Nat) (cuts loops : Marks) : Code → (Exit → Env → World → Prop) → Env → World → Prop
  | .skip, Q, ε, w => Q .normal ε w
  | .region _ ops d, Q, ε, w => match d with
    | false => opsP P n ops.toList (List.range ops.toList.length) ε w fun ε' w' => Q .normal ε' w'
    | true => if noSelL ops.toList then ∀ u, Drew w u → ∃ S : World → Prop, S u ∧ drawP P n ops.toList S ops.toList.length [] ε u fun ε' w' => Q .normal ε' w' else False
  | .seq a b, Q, ε, w => match markOf cuts (firstReg b) with
    | none => den P n cuts loops a (fun e ε' w' => match e with | .normal => den P n cuts loops b Q ε' w' | e => Q e ε' w') ε w
    | some (keep, ts, zs) => if okMark keep ts (wrs a) then
        ∃ J : tyCps (World → Prop) zs, den P n cuts loops a (fun e ε' w' => match e with
          | .normal => (match getL ε' ts with
            | some vs => holdsAt (appCps zs J vs) w'
            | none => False)
          | e => Q e ε' w') ε w ∧
        allCps zs fun vs => ∀ w', holdsAt (appCps zs J vs) w' → den P n cuts loops b Q (Env.laid ts vs (Env.keep ε keep)) w'
      else False
  | .cond c a b, Q, ε, w => match ev ε c with
    | some (.bool t) => match t with
      | true => den P n cuts loops a Q ε w
      | false => den P n cuts loops b Q ε w
    | _ => False
  | .block id a, Q, ε, w => den P n cuts loops a (fun e ε' w' => match e with
    | .exit id' => if id' = id then Q .normal ε' w' else Q (.exit id') ε' w'
    | e => Q e ε' w') ε w
  | .loop a, Q, ε, w => match markOf loops (firstReg a) with
    | none => False
    | some (keep, ts, zs) => if okMark keep ts (wrs a) then match getL ε ts with
        | none => False
        | some vs₀ => ∃ J : tyCps (World → Prop) zs, ∃ μ : tyCps (World → Nat) zs, holdsAt (appCps zs J vs₀) w ∧
          allCps zs fun vs => ∀ w', holdsAt (appCps zs J vs) w' → den P n cuts loops a (fun e ε' w'' => match e with
            | .normal => (match getL ε' ts with
              | some us => holdsAt (appCps zs J us) w'' ∧ natAt (appCps zs μ us) w'' < natAt (appCps zs μ vs) w'
              | none => False)
            | e => Q e ε' w'') (Env.laid ts vs (Env.keep ε keep)) w'
      else False
  | .exit id, Q, ε, w => Q (.exit id) ε w
  | .ret, Q, ε, w => Q .ret ε w
  | .label _, Q, ε, w => Q .normal ε w
  | .goto _, _, _, _ => False
  | .scope a, Q, ε, w => den P n cuts loops a Q ε w
  | _, _, _, _ => False

def resP (P : Program) (ε : Env) (w : World) : List ResultVar → (List Value → Prop) → Prop
  | [], K => K []
  | .tmp t :: r, K => match ε.get t with
    | some v => resP P ε w r fun vs => K (v :: vs)
    | none => False
  | .cell t ty :: r, K => match ε.get t with
    | some (.pointer (some a)) => loadP P ty a (fun φ => φ w) fun v => resP P ε w r fun vs => K (v :: vs)
    | _ => False
def retOf : List Value → Value
  | [v] => v
  | vs => .tuple vs.toArray
def retQ (P : Program) (rs : List ResultVar) (R : Value → World → Prop) : Exit → Env → World → Prop
  | .normal, ε, w => resP P ε w rs fun vs => R (retOf vs) w
  | .ret, ε, w => resP P ε w rs fun vs => R (retOf vs) w
  | _, _, _ => False
def argEnv : Nat → List Value → Env
  | _, [] => []
  | i, v :: vs => (i, v) :: argEnv (i + 1) vs
/-- a function's body, read -/
def bodyOf (P : Program) (fn : Func) (cuts loops : Marks) (args : List Value) (w : World) (R : Value → World → Prop) : Prop :=
  match fn.body with
  | some c => if args.length ≤ fn.ntmps then den P fn.ntmps cuts loops c (retQ P fn.results.toList R) (argEnv 0 args) w else False
  | none => False

end Go.Den
