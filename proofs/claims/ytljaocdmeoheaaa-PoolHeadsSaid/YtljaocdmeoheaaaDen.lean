/- A big-step reading of a translated Go function as a plain proposition, in continuation style: definitions. -/
import Derived.OrdersHeld
import Derived.Laws.Cells
import Derived.Laws.StructEq
import Derived.KernelRfl
namespace Go.Den

/-! ### Prototypes: a type is told by its zero value -/
def exLeaf : Value → (Value → Prop) → Prop
  | .bool _, f => ∃ b : Bool, f (.bool b)
  | .int k _, f => ∃ n : Int, f (.int k n)
  | .string _, f => ∃ s : ByteArray, f (.string s)
  | .pointer _, f => ∃ p : Option Addr, f (.pointer p)
  | .slice _ _ _, f => ∃ (a : Option Addr) (l c : Nat), f (.slice a l c)
  | .map _, f => ∃ m : Option Nat, f (.map m)
  | _, f => ∃ v : Value, f v
def exLeaves : List Value → (List Value → Prop) → Prop
  | [], f => f []
  | z :: zs, f => exLeaf z fun v => exLeaves zs fun vs => f (v :: vs)
def exCp : Value → (Value → Prop) → Prop
  | .agg cs, f => exLeaves cs.toList fun vs => f (.agg vs.toArray)
  | z, f => exLeaf z f
def exCps : List Value → (List Value → Prop) → Prop
  | [], f => f []
  | z :: zs, f => exCp z fun v => exCps zs fun vs => f (v :: vs)
def exSh : Value → (Value → Prop) → Prop
  | .tuple cs, f => exCps cs.toList fun vs => f (.tuple vs.toArray)
  | z, f => exCp z f

theorem exLeaf_some {z : Value} {f : Value → Prop} (h : exLeaf z f) : ∃ v, f v := by
  cases z <;> simp only [exLeaf] at h <;> first | exact h | (obtain ⟨x, h⟩ := h; exact ⟨_, h⟩) | (obtain ⟨x, y, c, h⟩ := h; exact ⟨_, h⟩)
theorem exLeaves_some {zs : List Value} : ∀ {f : List Value → Prop}, exLeaves zs f → ∃ vs, vs.length = zs.length ∧ f vs := by
  induction zs with
  | nil => intro f h; exact ⟨[], rfl, h⟩
  | cons z zs ih =>
    intro f h
    obtain ⟨v, h⟩ := exLeaf_some h
    obtain ⟨vs, hl, h⟩ := ih h
    exact ⟨v :: vs, by simp [hl], h⟩
theorem exCp_some {z : Value} {f : Value → Prop} (h : exCp z f) : ∃ v, f v := by
  cases z <;> simp only [exCp] at h <;> first | (obtain ⟨v, _, h⟩ := exLeaves_some h; exact ⟨_, h⟩) | exact exLeaf_some h
theorem exCps_some {zs : List Value} : ∀ {f : List Value → Prop}, exCps zs f → ∃ vs, f vs := by
  induction zs with
  | nil => intro f h; exact ⟨[], h⟩
  | cons z zs ih =>
    intro f h
    obtain ⟨v, h⟩ := exCp_some h
    obtain ⟨vs, h⟩ := ih h
    exact ⟨v :: vs, h⟩
theorem exSh_some {z : Value} {f : Value → Prop} (h : exSh z f) : ∃ v, f v := by
  cases z <;> simp only [exSh] at h <;> first | (obtain ⟨v, h⟩ := exCps_some h; exact ⟨_, h⟩) | exact exCp_some h

def allLeaf : Value → (Value → Prop) → Prop
  | .bool _, f => ∀ b : Bool, f (.bool b)
  | .int k _, f => ∀ n : Int, f (.int k n)
  | .string _, f => ∀ s : ByteArray, f (.string s)
  | .pointer _, f => ∀ p : Option Addr, f (.pointer p)
  | .slice _ _ _, f => ∀ (a : Option Addr) (l c : Nat), f (.slice a l c)
  | .map _, f => ∀ m : Option Nat, f (.map m)
  | _, f => ∀ v : Value, f v
def allLeaves : List Value → (List Value → Prop) → Prop
  | [], f => f []
  | z :: zs, f => allLeaf z fun v => allLeaves zs fun vs => f (v :: vs)
def allCp : Value → (Value → Prop) → Prop
  | .agg cs, f => allLeaves cs.toList fun vs => f (.agg vs.toArray)
  | z, f => allLeaf z f
def allCps : List Value → (List Value → Prop) → Prop
  | [], f => f []
  | z :: zs, f => allCp z fun v => allCps zs fun vs => f (v :: vs)

def tyLeaf (R : Type) : Value → Type
  | .bool _ => Bool → R
  | .int _ _ => Int → R
  | .string _ => ByteArray → R
  | .pointer _ => Option Addr → R
  | .slice _ _ _ => Option Addr → Nat → Nat → R
  | .map _ => Option Nat → R
  | _ => Value → R
def tyLeaves (R : Type) : List Value → Type
  | [] => R
  | z :: zs => tyLeaf (tyLeaves R zs) z
def tyCp (R : Type) : Value → Type
  | .agg cs => tyLeaves R cs.toList
  | z => tyLeaf R z
def tyCps (R : Type) : List Value → Type
  | [] => R
  | z :: zs => tyCp (tyCps R zs) z

def appLeaf {R : Type} : (z : Value) → tyLeaf R z → Value → Option R
  | .bool _, f, v => match v with | .bool b => some (f b) | _ => none
  | .int k _, f, v => match v with | .int k' n => if k' = k then some (f n) else none | _ => none
  | .string _, f, v => match v with | .string b => some (f b) | _ => none
  | .pointer _, f, v => match v with | .pointer b => some (f b) | _ => none
  | .slice _ _ _, f, v => match v with | .slice a l c => some (f a l c) | _ => none
  | .map _, f, v => match v with | .map b => some (f b) | _ => none
  | .float _ _, f, v => some (f v)
  | .complex _ _ _, f, v => some (f v)
  | .chan _, f, v => some (f v)
  | .func _ _ _, f, v => some (f v)
  | .nilFunc, f, v => some (f v)
  | .iface _ _, f, v => some (f v)
  | .nilIface, f, v => some (f v)
  | .agg _, f, v => some (f v)
  | .tuple _, f, v => some (f v)
def appLeaves {R : Type} : (zs : List Value) → tyLeaves R zs → List Value → Option R
  | [], f, vs => match vs with | [] => some f | _ => none
  | z :: zs, f, vs => match vs with
    | [] => none
    | v :: vs => match appLeaf z f v with
      | some g => appLeaves zs g vs
      | none => none
def appCp {R : Type} : (z : Value) → tyCp R z → Value → Option R
  | .agg cs, f, v => match v with | .agg vs => appLeaves cs.toList f vs.toList | _ => none
  | .bool x, f, v => appLeaf (.bool x) f v
  | .int k x, f, v => appLeaf (.int k x) f v
  | .string x, f, v => appLeaf (.string x) f v
  | .pointer x, f, v => appLeaf (.pointer x) f v
  | .slice a l c, f, v => appLeaf (.slice a l c) f v
  | .map x, f, v => appLeaf (.map x) f v
  | .float k b, f, v => appLeaf (.float k b) f v
  | .complex a b c, f, v => appLeaf (.complex a b c) f v
  | .chan c, f, v => appLeaf (.chan c) f v
  | .func a b c, f, v => appLeaf (.func a b c) f v
  | .nilFunc, f, v => appLeaf .nilFunc f v
  | .iface a b, f, v => appLeaf (.iface a b) f v
  | .nilIface, f, v => appLeaf .nilIface f v
  | .tuple a, f, v => appLeaf (.tuple a) f v
def appCps {R : Type} : (zs : List Value) → tyCps R zs → List Value → Option R
  | [], f, vs => match vs with | [] => some f | _ => none
  | z :: zs, f, vs => match vs with
    | [] => none
    | v :: vs => match appCp z f v with
      | some g => appCps zs g vs
      | none => none

def holdsAt : Option (World → Prop) → World → Prop
  | some p, w => p w
  | none, _ => False
def natAt : Option (World → Nat) → World → Nat
  | some p, w => p w
  | none, _ => 0

theorem allLeaf_app {R : Type} {z : Value} {F : Value → Prop} (h : allLeaf z F) {f : tyLeaf R z} {v : Value} {g : R} (ha : appLeaf z f v = some g) : F v := by
  cases z <;> simp only [appLeaf] at ha <;> simp only [allLeaf] at h <;> first
    | exact h v
    | (cases v <;> first | exact h _ | exact h _ _ _ | (simp only [] at ha; split at ha <;> first | (rename_i e; subst e; exact h _) | cases ha) | cases ha)
theorem allLeaves_app {R : Type} : ∀ {zs : List Value} {F : List Value → Prop} (_ : allLeaves zs F) {f : tyLeaves R zs} {vs : List Value} {g : R} (_ : appLeaves zs f vs = some g), F vs
  | [], F, h, f, vs, g, ha => by
    cases vs with
    | nil => exact h
    | cons v vs => simp only [appLeaves] at ha; cases ha
  | z :: zs, F, h, f, vs, g, ha => by
    cases vs with
    | nil => simp only [appLeaves] at ha; cases ha
    | cons v vs =>
      simp only [appLeaves] at ha
      cases hv : appLeaf z f v with
      | none => simp only [hv] at ha; cases ha
      | some r => simp only [hv] at ha; exact allLeaves_app (allLeaf_app (F := fun v => allLeaves zs fun vs => F (v :: vs)) h hv) ha
theorem allCp_app {R : Type} {z : Value} {F : Value → Prop} (h : allCp z F) {f : tyCp R z} {v : Value} {g : R} (ha : appCp z f v = some g) : F v := by
  cases z with
  | agg cs =>
    simp only [appCp] at ha
    cases v <;> first | cases ha | (rename_i vs; have := allLeaves_app (R := R) (F := fun vs => F (.agg vs.toArray)) h ha; simpa using this)
  | _ => simp only [appCp] at ha; simp only [allCp] at h; exact allLeaf_app h ha
theorem allCps_app {R : Type} : ∀ {zs : List Value} {F : List Value → Prop} (_ : allCps zs F) {f : tyCps R zs} {vs : List Value} {g : R} (_ : appCps zs f vs = some g), F vs
  | [], F, h, f, vs, g, ha => by
    cases vs with
    | nil => exact h
    | cons v vs => simp only [appCps] at ha; cases ha
  | z :: zs, F, h, f, vs, g, ha => by
    cases vs with
    | nil => simp only [appCps] at ha; cases ha
    | cons v vs =>
      simp only [appCps] at ha
      cases hv : appCp z f v with
      | none => simp only [hv] at ha; cases ha
      | some r => simp only [hv] at ha; exact allCps_app (allCp_app (F := fun v => allCps zs fun vs => F (v :: vs)) h hv) ha

/-! ### The frame: what is known of the slots -/
abbrev Env := List (Nat × Value)
def Env.get : Env → Nat → Option Value
  | [], _ => none
  | (d, v) :: r, t => if d = t then some v else Env.get r t
def EnvOk (ε : Env) (a : Act) : Prop := a.defers = [] ∧ ∀ t v, ε.get t = some v → a.tmps[t]? = some v
def ev (ε : Env) : Operand → Option Value
  | .tmp t => ε.get t
  | .const v => some v
  | .global g => some (.pointer (some ⟨g, 0, none⟩))
  | .func f => some (.func (.func f) #[] #[])

theorem EnvOk.eval {ε : Env} {a : Act} (h : EnvOk ε a) {x : Operand} {v : Value} (hx : ev ε x = some v) : a.eval x = v := by
  cases x <;> simp only [ev] at hx
  case tmp t => have := h.2 t v hx; simp [Act.eval, this]
  all_goals (cases hx; rfl)

theorem EnvOk.put {ε : Env} {a : Act} (h : EnvOk ε a) {d : Nat} (hd : d < a.tmps.size) (v : Value) : EnvOk ((d, v) :: ε) (a.put (some d) v) := by
  refine ⟨h.1, fun t u hu => ?_⟩
  simp only [Env.get] at hu
  simp only [Act.put, Array.getElem?_setIfInBounds]
  split at hu
  · rename_i e; subst e; cases hu; simp [hd]
  · rename_i e; rw [if_neg e]; exact h.2 t u hu

def getL (ε : Env) : List Nat → Option (List Value)
  | [] => some []
  | t :: ts => match ε.get t with
    | some v => match getL ε ts with
      | some vs => some (v :: vs)
      | none => none
    | none => none
/-- of an environment what is known of some slots alone -/
def Env.keep (ε : Env) : List Nat → Env
  | [] => []
  | t :: ts => match ε.get t with
    | some v => (t, v) :: Env.keep ε ts
    | none => Env.keep ε ts
def Env.laid : List Nat → List Value → Env → Env
  | t :: ts, v :: vs, ε => (t, v) :: Env.laid ts vs ε
  | _, _, ε => ε

end Go.Den
