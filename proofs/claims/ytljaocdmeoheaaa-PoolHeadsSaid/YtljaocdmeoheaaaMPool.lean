/- The plain model of layer 4 (pool). -/
import Derived.Test.YtljaocdmeoheaaaSHead2
import Derived.Test.YtljaocdmeoheaaaRep3
set_option linter.unusedVariables false
namespace Go.Den

structure Blk where
  what : Nat
  head : Head
namespace Blk
def vals (b : Blk) : List Value := [.int .i64 b.what, bv b.head.kind, .int .u32 b.head.era, .int .u64 b.head.seq]
def zero : Blk := ⟨0, Head.none⟩
end Blk
structure Pool where
  blocks : List Blk
  last : Nat
  turn : Nat
structure Taken where
  block : Nat
  head : Head
  bad : Bool
  deriving DecidableEq
namespace Taken
def vals (t : Taken) : List Value := [.int .i64 t.block, bv t.head.kind, .int .u32 t.head.era, .int .u64 t.head.seq, .bool t.bad]
end Taken

/-- what is read of a block -/
def lookAt (c : Chip) (i : Nat) (old : Blk) : Blk :=
  if c.dead then old
  else if (getHead (c.page i 0)).2 = 0 then ⟨2, (getHead (c.page i 0)).1⟩
  else if isBlank (c.blk i) then ⟨0, Head.none⟩ else ⟨1, Head.none⟩
namespace Pool
def blk (P : Pool) (i : Nat) : Blk := P.blocks.getD i Blk.zero
def setBlk (P : Pool) (i : Nat) (b : Blk) : Pool := { P with blocks := P.blocks.set i b }
/-- a block's own look -/
def relook (P : Pool) (c : Chip) (i : Nat) : Pool := P.setBlk i (lookAt c i (P.blk i))
def raise (P : Pool) : Pool := { P with last := (P.last + 1) % 18446744073709551616 }
end Pool
/-- the second half of try: a head is written -/
def writeHead (P : Pool) (c : Chip) (i : Nat) (kind : UInt8) (era : Nat) : Pool × Chip × Nat :=
  (P.raise.relook (c.program i 0 (putHead c.sz ⟨kind, era, P.raise.last⟩).1).1 i, (c.program i 0 (putHead c.sz ⟨kind, era, P.raise.last⟩).1).1, (c.program i 0 (putHead c.sz ⟨kind, era, P.raise.last⟩).1).2)
def tryBlk (P : Pool) (c : Chip) (i : Nat) (kind : UInt8) (era : Nat) : Pool × Chip × Nat :=
  if (P.blk i).what = 1 then
    if (c.erase i).2 ≠ 0 then (P.relook (c.erase i).1 i, (c.erase i).1, (c.erase i).2)
    else writeHead (P.relook (c.erase i).1 i) (c.erase i).1 i kind era
  else writeHead P c i kind era
structure TakeR where
  pool : Pool
  chip : Chip
  block : Nat
  err : Nat
def takeGo (kind : UInt8) (era : Nat) (P : Pool) (c : Chip) : List Nat → TakeR
  | [] => ⟨P, c, 0, 11⟩
  | k :: ks =>
    if c.isBad ((P.turn + k) % c.nb) = true ∨ (P.blk ((P.turn + k) % c.nb)).what = 2 then takeGo kind era P c ks
    else
      if (tryBlk P c ((P.turn + k) % c.nb) kind era).2.2 = 0 then ⟨{ (tryBlk P c ((P.turn + k) % c.nb) kind era).1 with turn := (P.turn + k) % c.nb + 1 }, (tryBlk P c ((P.turn + k) % c.nb) kind era).2.1, (P.turn + k) % c.nb, 0⟩
      else if (tryBlk P c ((P.turn + k) % c.nb) kind era).2.2 = 10 then ⟨(tryBlk P c ((P.turn + k) % c.nb) kind era).1, (tryBlk P c ((P.turn + k) % c.nb) kind era).2.1, 0, 10⟩
      else takeGo kind era (tryBlk P c ((P.turn + k) % c.nb) kind era).1 (tryBlk P c ((P.turn + k) % c.nb) kind era).2.1 ks
def takePool (P : Pool) (c : Chip) (kind : UInt8) (era : Nat) : TakeR :=
  if kind.toNat < 1 ∨ kind.toNat > 3 ∨ era < 1 then ⟨P, c, 0, 2⟩
  else if c.ask 0 0 ≠ 0 then ⟨P, c, 0, c.ask 0 0⟩
  else takeGo kind era P c (List.range c.nb)
def freePool (P : Pool) (c : Chip) (i : Int) : Pool × Chip × Nat :=
  if i < 0 ∨ i ≥ c.nb ∨ (P.blk i.toNat).what ≠ 2 ∨ c.isBad i.toNat = true then (P, c, 12)
  else (P.relook (c.erase i).1 i.toNat, (c.erase i).1, if (c.erase i).2 = 9 then 0 else (c.erase i).2)
/-- insertion from the right, in a row that is turned round -/
def sink {α : Type} (lt : α → α → Bool) (x : α) : List α → List α
  | [] => [x]
  | y :: ys => if lt x y then y :: sink lt x ys else x :: y :: ys
def takenLt (a b : Taken) : Bool := decide (a.head.seq < b.head.seq) || (decide (a.head.seq = b.head.seq) && decide (a.block < b.block))
def isort {α : Type} (lt : α → α → Bool) (l : List α) : List α := (l.foldl (fun acc x => sink lt x acc) []).reverse
/-- the taken blocks, in their own order -/
def takenRaw (P : Pool) (c : Chip) (n : Nat) : List Taken := (List.range n).filterMap fun i => if (P.blk i).what = 2 then some ⟨i, (P.blk i).head, c.isBad i⟩ else none
def takenPool (P : Pool) (c : Chip) : List Taken := isort takenLt (takenRaw P c c.nb)
def blanksPool (P : Pool) (c : Chip) : Nat := ((List.range c.nb).filter fun i => decide ((P.blk i).what ≠ 2) && !c.isBad i).length
/-- what Scan makes of block after block -/
def scanGo (c : Chip) : Nat → Pool
  | 0 => ⟨List.replicate c.nb Blk.zero, 0, 0⟩
  | i + 1 =>
    if (((scanGo c i).relook c i).blk i).head.seq > (scanGo c i).last ∨ ((((scanGo c i).relook c i).blk i).head.seq = (scanGo c i).last ∧ (((scanGo c i).relook c i).blk i).head.seq > 0) then
      { (scanGo c i).relook c i with last := (((scanGo c i).relook c i).blk i).head.seq, turn := i + 1 }
    else (scanGo c i).relook c i
def scanPool (c : Chip) : Pool := scanGo c c.nb

/-! ### Geometry stays -/
def Chip.SameGeo (c d : Chip) : Prop := d.nb = c.nb ∧ d.np = c.np ∧ d.sz = c.sz ∧ d.sp = c.sp
theorem Chip.SameGeo.refl (c : Chip) : c.SameGeo c := ⟨rfl, rfl, rfl, rfl⟩
theorem Chip.SameGeo.trans {a b c : Chip} (h : a.SameGeo b) (k : b.SameGeo c) : a.SameGeo c := ⟨k.1.trans h.1, k.2.1.trans h.2.1, k.2.2.1.trans h.2.2.1, k.2.2.2.trans h.2.2.2⟩
theorem Chip.strike_geo (c : Chip) : c.SameGeo c.strike.1 := by
  unfold Chip.strike
  split
  · exact ⟨rfl, rfl, rfl, rfl⟩
  · split <;> exact ⟨rfl, rfl, rfl, rfl⟩
theorem Chip.finish_geo (c : Chip) (b : Nat) (h : Option Hit) : c.SameGeo (c.finish b h).1 := by
  unfold Chip.finish
  split
  · exact ⟨rfl, rfl, rfl, rfl⟩
  · split <;> exact ⟨rfl, rfl, rfl, rfl⟩
theorem Chip.done_geo (c : Chip) (b off n : Nat) (new : List UInt8) : c.SameGeo (c.done b off n new).1 := by
  unfold Chip.done
  refine (c.strike_geo).trans (Chip.SameGeo.trans ?_ (Chip.finish_geo _ _ _))
  exact ⟨rfl, rfl, rfl, rfl⟩
theorem Chip.program_geo (c : Chip) (b p : Int) (x : List UInt8) : c.SameGeo (c.program b p x).1 := by
  unfold Chip.program
  split
  · exact .refl _
  · split
    · exact .refl _
    · split
      · exact .refl _
      · split
        · exact .refl _
        · exact c.done_geo _ _ _ _
theorem Chip.erase_geo (c : Chip) (b : Int) : c.SameGeo (c.erase b).1 := by
  unfold Chip.erase
  split
  · exact .refl _
  · split
    · exact .refl _
    · exact c.done_geo _ _ _ _

end Go.Den
