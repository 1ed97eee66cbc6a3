/-
  No cell of these rows narrows 'for every input' (looked for: loops, veiled, ifaces, maps, wideKeys, modest, calm, conditions, laid).
  DERIVED. THE GIVEN ROWS OF THIS SEAT. 6 by the template 'for every input the law returns true; each argument reads behind the call as it read before'; 0 by the template 'total and deterministic' (their statements: YthdkbladjfabfaaTotals.lean).
  GIVEN WITH THE SEED: the statements are not yours to turn. If you find one false, say at which input.
  Laid BY PROGRAM, IN A SANDBOX (cutbox-rows.mjs): the forced cells as the released guide's own fill.sh prints them over the translation 9eb3219332e2c991… (all of the seat's roots in one cut). By AI agents, Wed Nov 11 2026. No macro, syntax, notation, axiom, sorry.
-/
import Derived.Test.YthdkbladjfabfaaChecked
import GoSem.Claim
import GoSem.ClaimJoined
import GoSem.ClaimMapViews
import Derived.JoinedTies
import Derived.KernelRfl
namespace Go.Proofs.Ythdkbladjfabfaa
/- THE CELL 'sum', in the pinned program and in every row, IS THE sha256 OF THE DUMP (.gsa) THAT YthdkbladjfabfaaProg.lean LOADS. Nothing in Lean hashes anything: it is a label: what it is worth is what the hold of that sum in a sandbox is worth. -/
noncomputable def Try.pinned : Pinned := { name := "ythdkbladjfabfaa", sum := "9eb3219332e2c991b1a1a30d5a130f7f10c3437c587c54253db4a0b69c7d17f0", checked := Try.checked }
namespace Rows
def none {H : Type} : Left H := { results := [], args := [] }

/-- 'carracklaw22.JourPages': WHATEVER THE INPUT: true; the input reads as it did. -/
def jourPagesSpec : ChangeSpec := { name := "jourPages", fn := fun _ => fun
  | [d1, d2, d3] => { results := [.lit (.bool true)], args := [d1, d2, d3] }
  | _ => none }
def jourPagesRow : OpenClaim := { program := "ythdkbladjfabfaa", sum := "9eb3219332e2c991b1a1a30d5a130f7f10c3437c587c54253db4a0b69c7d17f0", func := "carrack/carracklaw22.JourPages", spec := "jourPages", unfollowed := true, recurses := true, apart := false }
def JourPagesSaid : Prop := jourPagesRow.holds Try.pinned (OpenSpec.ofChange jourPagesSpec)

/-- ITS FALSE NEIGHBOUR: 'it returns false'. Refute it at one input. -/
def jourPagesWrong : ChangeSpec := { name := "jourPages", fn := fun _ => fun
  | [d1, d2, d3] => { results := [.lit (.bool false)], args := [d1, d2, d3] }
  | _ => none }
def JourPagesWrongFalsely : Prop := jourPagesRow.holds Try.pinned (OpenSpec.ofChange jourPagesWrong)

/-- 'carracklaw22.JourNil': WHATEVER THE INPUT: true; the input reads as it did. -/
def jourNilSpec : ChangeSpec := { name := "jourNil", fn := fun _ => fun
  | [d1, d2, d3] => { results := [.lit (.bool true)], args := [d1, d2, d3] }
  | _ => none }
def jourNilRow : OpenClaim := { program := "ythdkbladjfabfaa", sum := "9eb3219332e2c991b1a1a30d5a130f7f10c3437c587c54253db4a0b69c7d17f0", func := "carrack/carracklaw22.JourNil", spec := "jourNil", unfollowed := true, recurses := true, apart := false }
def JourNilSaid : Prop := jourNilRow.holds Try.pinned (OpenSpec.ofChange jourNilSpec)

/-- ITS FALSE NEIGHBOUR: 'it returns false'. Refute it at one input. -/
def jourNilWrong : ChangeSpec := { name := "jourNil", fn := fun _ => fun
  | [d1, d2, d3] => { results := [.lit (.bool false)], args := [d1, d2, d3] }
  | _ => none }
def JourNilWrongFalsely : Prop := jourNilRow.holds Try.pinned (OpenSpec.ofChange jourNilWrong)

/-- 'carracklaw22.JourSays': WHATEVER THE INPUT: true; the input reads as it did. -/
def jourSaysSpec : ChangeSpec := { name := "jourSays", fn := fun _ => fun
  | [d1, d2, d3] => { results := [.lit (.bool true)], args := [d1, d2, d3] }
  | _ => none }
def jourSaysRow : OpenClaim := { program := "ythdkbladjfabfaa", sum := "9eb3219332e2c991b1a1a30d5a130f7f10c3437c587c54253db4a0b69c7d17f0", func := "carrack/carracklaw22.JourSays", spec := "jourSays", unfollowed := true, recurses := true, apart := false }
def JourSaysSaid : Prop := jourSaysRow.holds Try.pinned (OpenSpec.ofChange jourSaysSpec)

/-- ITS FALSE NEIGHBOUR: 'it returns false'. Refute it at one input. -/
def jourSaysWrong : ChangeSpec := { name := "jourSays", fn := fun _ => fun
  | [d1, d2, d3] => { results := [.lit (.bool false)], args := [d1, d2, d3] }
  | _ => none }
def JourSaysWrongFalsely : Prop := jourSaysRow.holds Try.pinned (OpenSpec.ofChange jourSaysWrong)

/-- 'carracklaw22.JourCuts': WHATEVER THE INPUT: true; the input reads as it did. -/
def jourCutsSpec : ChangeSpec := { name := "jourCuts", fn := fun _ => fun
  | [d1, d2, d3, d4, d5] => { results := [.lit (.bool true)], args := [d1, d2, d3, d4, d5] }
  | _ => none }
def jourCutsRow : OpenClaim := { program := "ythdkbladjfabfaa", sum := "9eb3219332e2c991b1a1a30d5a130f7f10c3437c587c54253db4a0b69c7d17f0", func := "carrack/carracklaw22.JourCuts", spec := "jourCuts", unfollowed := true, recurses := true, apart := false }
def JourCutsSaid : Prop := jourCutsRow.holds Try.pinned (OpenSpec.ofChange jourCutsSpec)

/-- ITS FALSE NEIGHBOUR: 'it returns false'. Refute it at one input. -/
def jourCutsWrong : ChangeSpec := { name := "jourCuts", fn := fun _ => fun
  | [d1, d2, d3, d4, d5] => { results := [.lit (.bool false)], args := [d1, d2, d3, d4, d5] }
  | _ => none }
def JourCutsWrongFalsely : Prop := jourCutsRow.holds Try.pinned (OpenSpec.ofChange jourCutsWrong)

/-- 'carracklaw22.JourAway': WHATEVER THE INPUT: true; the input reads as it did. -/
def jourAwaySpec : ChangeSpec := { name := "jourAway", fn := fun _ => fun
  | [d1, d2] => { results := [.lit (.bool true)], args := [d1, d2] }
  | _ => none }
def jourAwayRow : OpenClaim := { program := "ythdkbladjfabfaa", sum := "9eb3219332e2c991b1a1a30d5a130f7f10c3437c587c54253db4a0b69c7d17f0", func := "carrack/carracklaw22.JourAway", spec := "jourAway", unfollowed := true, recurses := true, apart := false }
def JourAwaySaid : Prop := jourAwayRow.holds Try.pinned (OpenSpec.ofChange jourAwaySpec)

/-- ITS FALSE NEIGHBOUR: 'it returns false'. Refute it at one input. -/
def jourAwayWrong : ChangeSpec := { name := "jourAway", fn := fun _ => fun
  | [d1, d2] => { results := [.lit (.bool false)], args := [d1, d2] }
  | _ => none }
def JourAwayWrongFalsely : Prop := jourAwayRow.holds Try.pinned (OpenSpec.ofChange jourAwayWrong)

/-- 'carracklaw22.JourWrites': WHATEVER THE INPUT: true; the input reads as it did. -/
def jourWritesSpec : ChangeSpec := { name := "jourWrites", fn := fun _ => fun
  | [d1, d2, d3, d4] => { results := [.lit (.bool true)], args := [d1, d2, d3, d4] }
  | _ => none }
def jourWritesRow : OpenClaim := { program := "ythdkbladjfabfaa", sum := "9eb3219332e2c991b1a1a30d5a130f7f10c3437c587c54253db4a0b69c7d17f0", func := "carrack/carracklaw22.JourWrites", spec := "jourWrites", unfollowed := true, recurses := true, apart := false }
def JourWritesSaid : Prop := jourWritesRow.holds Try.pinned (OpenSpec.ofChange jourWritesSpec)

/-- ITS FALSE NEIGHBOUR: 'it returns false'. Refute it at one input. -/
def jourWritesWrong : ChangeSpec := { name := "jourWrites", fn := fun _ => fun
  | [d1, d2, d3, d4] => { results := [.lit (.bool false)], args := [d1, d2, d3, d4] }
  | _ => none }
def JourWritesWrongFalsely : Prop := jourWritesRow.holds Try.pinned (OpenSpec.ofChange jourWritesWrong)

/- THE SECOND FORM. 'bulk': how many values and letters a reading holds, each counted each time it is reached (what is shared counts as often as it is met; a slice's spare places count too). A statement '..UptoSaid' is the law's where the arguments, and the package variables that the reading takes, are together of bulk at most 1048576: NARROWER than '..Said'. Prove '..Said' where nothing that the law and all that it calls make is longer than what came in: it says more and counts as full. Else prove '..UptoSaid'. A law counts once. -/
mutual
def uptoBulk {H : Type} : DataW H → Nat
  | .lit (.string bytes) => bytes.length + 1
  | .lit _ => 1
  | .nil => 1
  | .ptr d => uptoBulk d + 1
  | .slice elems spare => uptoBulkAll elems + uptoBulkAll spare + 1
  | .agg parts => uptoBulkAll parts + 1
  | .iface _ d => uptoBulk d + 1
  | .map entries => uptoBulkEntries entries + 1
  | .held _ => 1
def uptoBulkAll {H : Type} : List (DataW H) → Nat
  | [] => 0
  | d :: r => uptoBulk d + uptoBulkAll r
def uptoBulkEntries {H : Type} : List (Lit × DataW H) → Nat
  | [] => 0
  | x :: r => uptoBulkEntry x + uptoBulkEntries r
def uptoBulkEntry {H : Type} : Lit × DataW H → Nat
  | (.string bytes, d) => bytes.length + uptoBulk d + 1
  | (_, d) => uptoBulk d + 1
 end
def uptoSmall : (H : Type) → List (DataW H) → Bool := fun _ ds => decide (uptoBulkAll ds ≤ 1048576)
def OpenSpec.upto (s : _root_.Go.ChangeSpec) : _root_.Go.OpenSpec := { _root_.Go.OpenSpec.ofChange s with cond := some uptoSmall }

/-- 'carracklaw22.JourPages', WHERE WHAT IT READS IS OF BULK AT MOST 1048576: true; the input reads as it did. -/
def jourPagesUptoRow : OpenClaim := { program := "ythdkbladjfabfaa", sum := "9eb3219332e2c991b1a1a30d5a130f7f10c3437c587c54253db4a0b69c7d17f0", func := "carrack/carracklaw22.JourPages", spec := "jourPages", unfollowed := true, recurses := true, apart := false, narrowed := true }
def JourPagesUptoSaid : Prop := jourPagesUptoRow.holds Try.pinned (OpenSpec.upto jourPagesSpec)

/-- 'carracklaw22.JourNil', WHERE WHAT IT READS IS OF BULK AT MOST 1048576: true; the input reads as it did. -/
def jourNilUptoRow : OpenClaim := { program := "ythdkbladjfabfaa", sum := "9eb3219332e2c991b1a1a30d5a130f7f10c3437c587c54253db4a0b69c7d17f0", func := "carrack/carracklaw22.JourNil", spec := "jourNil", unfollowed := true, recurses := true, apart := false, narrowed := true }
def JourNilUptoSaid : Prop := jourNilUptoRow.holds Try.pinned (OpenSpec.upto jourNilSpec)

/-- 'carracklaw22.JourSays', WHERE WHAT IT READS IS OF BULK AT MOST 1048576: true; the input reads as it did. -/
def jourSaysUptoRow : OpenClaim := { program := "ythdkbladjfabfaa", sum := "9eb3219332e2c991b1a1a30d5a130f7f10c3437c587c54253db4a0b69c7d17f0", func := "carrack/carracklaw22.JourSays", spec := "jourSays", unfollowed := true, recurses := true, apart := false, narrowed := true }
def JourSaysUptoSaid : Prop := jourSaysUptoRow.holds Try.pinned (OpenSpec.upto jourSaysSpec)

/-- 'carracklaw22.JourCuts', WHERE WHAT IT READS IS OF BULK AT MOST 1048576: true; the input reads as it did. -/
def jourCutsUptoRow : OpenClaim := { program := "ythdkbladjfabfaa", sum := "9eb3219332e2c991b1a1a30d5a130f7f10c3437c587c54253db4a0b69c7d17f0", func := "carrack/carracklaw22.JourCuts", spec := "jourCuts", unfollowed := true, recurses := true, apart := false, narrowed := true }
def JourCutsUptoSaid : Prop := jourCutsUptoRow.holds Try.pinned (OpenSpec.upto jourCutsSpec)

/-- 'carracklaw22.JourAway', WHERE WHAT IT READS IS OF BULK AT MOST 1048576: true; the input reads as it did. -/
def jourAwayUptoRow : OpenClaim := { program := "ythdkbladjfabfaa", sum := "9eb3219332e2c991b1a1a30d5a130f7f10c3437c587c54253db4a0b69c7d17f0", func := "carrack/carracklaw22.JourAway", spec := "jourAway", unfollowed := true, recurses := true, apart := false, narrowed := true }
def JourAwayUptoSaid : Prop := jourAwayUptoRow.holds Try.pinned (OpenSpec.upto jourAwaySpec)

/-- 'carracklaw22.JourWrites', WHERE WHAT IT READS IS OF BULK AT MOST 1048576: true; the input reads as it did. -/
def jourWritesUptoRow : OpenClaim := { program := "ythdkbladjfabfaa", sum := "9eb3219332e2c991b1a1a30d5a130f7f10c3437c587c54253db4a0b69c7d17f0", func := "carrack/carracklaw22.JourWrites", spec := "jourWrites", unfollowed := true, recurses := true, apart := false, narrowed := true }
def JourWritesUptoSaid : Prop := jourWritesUptoRow.holds Try.pinned (OpenSpec.upto jourWritesSpec)

end Rows
end Go.Proofs.Ythdkbladjfabfaa
