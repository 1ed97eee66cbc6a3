/- The plain model of layer 3 (nand): a chip whose power is cut. -/
import Derived.Test.YtljaocdmeoheaaaSSeal2
set_option linter.unusedVariables false
namespace Go.Den

structure Hit where
  after : Int
  fails : Bool
  mask : List UInt8
structure Chip where
  nb : Nat
  np : Nat
  sz : Nat
  sp : Nat
  blocks : List (List UInt8)
  bad : List Bool
  hits : List Hit
  since : Int
  dead : Bool
  deeds : Int
namespace Chip
/-- the chip's numbers fit -/
structure Ok (c : Chip) : Prop where
  nb1 : 8 ≤ c.nb
  nb2 : c.nb ≤ 64
  np1 : 4 ≤ c.np
  np2 : c.np ≤ 32
  sz1 : 128 ≤ c.sz
  sz2 : c.sz ≤ 256
  bl : c.blocks.length = c.nb
  bl2 : ∀ b ∈ c.blocks, b.length = c.np * c.sz
  bad : c.bad.length = c.nb
def blk (c : Chip) (i : Nat) : List UInt8 := c.blocks.getD i []
def isBad (c : Chip) (i : Nat) : Bool := c.bad.getD i false
def page (c : Chip) (i k : Nat) : List UInt8 := ((c.blk i).drop (k * c.sz)).take c.sz
def ask (c : Chip) (block page : Int) : Nat :=
  if c.dead then 10 else if block < 0 ∨ block ≥ c.nb ∨ page < 0 ∨ page ≥ c.np then 2 else 0
def strike (c : Chip) : Chip × Option Hit :=
  match c.hits with
  | [] => ({ c with deeds := IntKind.i64.wrap (c.deeds + 1) }, none)
  | h :: r => if c.since < h.after then ({ c with deeds := IntKind.i64.wrap (c.deeds + 1), since := IntKind.i64.wrap (c.since + 1) }, none)
    else ({ c with deeds := IntKind.i64.wrap (c.deeds + 1), since := 0, hits := r }, some h)
end Chip
def maskAt (h : Option Hit) (i : Nat) : UInt8 :=
  match h with
  | none => 255
  | some h => if h.mask.length = 0 then 0 else h.mask.getD (i % h.mask.length) 0
def mix (m old new : UInt8) : UInt8 := (old &&& ~~~ m) ||| (new &&& m)
/-- bytes become others, as far as a hit leaves them -/
def mixL (h : Option Hit) (old new : List UInt8) : List UInt8 := (List.range old.length).map fun i => mix (maskAt h i) (old.getD i 0) (new.getD i 0)
namespace Chip
def setBlk (c : Chip) (i : Nat) (b : List UInt8) : Chip := { c with blocks := c.blocks.set i b }
def finish (c : Chip) (block : Nat) (h : Option Hit) : Chip × Nat :=
  match h with
  | none => (c, 0)
  | some h => if h.fails then ({ c with bad := c.bad.set block true }, 9) else ({ c with dead := true }, 10)
/-- bytes of a block, from off on, become others -/
def done (c : Chip) (block off n : Nat) (new : List UInt8) : Chip × Nat :=
  (c.strike.1.setBlk block ((c.blk block).take off ++ mixL c.strike.2 (((c.blk block).drop off).take n) new ++ (c.blk block).drop (off + n))).finish block c.strike.2
def program (c : Chip) (block page : Int) (b : List UInt8) : Chip × Nat :=
  if c.ask block page ≠ 0 then (c, c.ask block page)
  else if b.length ≠ c.sz then (c, 2)
  else if c.isBad block.toNat then (c, 9)
  else if isBlank ((c.blk block.toNat).drop (page.toNat * c.sz)) = false then (c, 8)
  else c.done block.toNat (page.toNat * c.sz) c.sz b
def erase (c : Chip) (block : Int) : Chip × Nat :=
  if c.ask block 0 ≠ 0 then (c, c.ask block 0)
  else if c.isBad block.toNat then (c, 9)
  else c.done block.toNat 0 (c.np * c.sz) (List.replicate (c.np * c.sz) 255)
/-- another chip with the same bytes, alive -/
def power (c : Chip) : Chip := { c with hits := [], since := 0, dead := false, deeds := 0 }
end Chip

theorem mixL_length (h : Option Hit) (old new : List UInt8) : (mixL h old new).length = old.length := by simp [mixL]
theorem mixL_get (h : Option Hit) (old new : List UInt8) (i : Nat) (hi : i < old.length) : (mixL h old new)[i]? = some (mix (maskAt h i) (old.getD i 0) (new.getD i 0)) := by
  simp [mixL, hi]

/-- what the machine computes is mix -/
theorem mix_int (m old new : UInt8) :
    IntKind.u8.wrap (((BitVec.ofInt (IntKind.bits .u8) (IntKind.u8.wrap (((BitVec.ofInt (IntKind.bits .u8) (old.toNat : Int) &&& ~~~ (BitVec.ofInt (IntKind.bits .u8) (m.toNat : Int))).toNat : Nat) : Int)) |||
      BitVec.ofInt (IntKind.bits .u8) (IntKind.u8.wrap (((BitVec.ofInt (IntKind.bits .u8) (new.toNat : Int) &&& BitVec.ofInt (IntKind.bits .u8) (m.toNat : Int)).toNat : Nat) : Int))).toNat : Nat) : Int) = ((mix m old new).toNat : Int) := by
  show IntKind.u8.wrap (((BitVec.ofInt 8 (IntKind.u8.wrap (((BitVec.ofInt 8 (old.toNat : Int) &&& ~~~ (BitVec.ofInt 8 (m.toNat : Int))).toNat : Nat) : Int)) |||
      BitVec.ofInt 8 (IntKind.u8.wrap (((BitVec.ofInt 8 (new.toNat : Int) &&& BitVec.ofInt 8 (m.toNat : Int)).toNat : Nat) : Int))).toNat : Nat) : Int) = _
  simp only [ofInt_byte]
  have e1 : old.toBitVec &&& ~~~ m.toBitVec = (old &&& ~~~ m).toBitVec := by rw [UInt8.toBitVec_and, UInt8.toBitVec_not]
  have e2 : new.toBitVec &&& m.toBitVec = (new &&& m).toBitVec := by rw [UInt8.toBitVec_and]
  rw [e1, e2]
  have w : ∀ x : UInt8, IntKind.u8.wrap ((x.toBitVec.toNat : Nat) : Int) = (x.toNat : Int) := by
    intro x
    have hx := x.toNat_lt
    have e : x.toBitVec.toNat = x.toNat := rfl
    rw [e, wu8 (by omega) (by omega)]
  rw [w (old &&& ~~~ m), w (new &&& m), ofInt_byte, ofInt_byte, ← UInt8.toBitVec_or, w]
  rfl

end Go.Den
