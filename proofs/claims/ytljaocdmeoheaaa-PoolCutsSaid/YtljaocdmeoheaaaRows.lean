/-
  No cell of these rows narrows 'for every input' (looked for: loops, veiled, ifaces, maps, wideKeys, modest, calm, conditions, laid).
  DERIVED. THE GIVEN ROWS OF THIS SEAT. 7 by the template 'for every input the law returns true; each argument reads behind the call as it read before'; 0 by the template 'total and deterministic' (their statements: YtljaocdmeoheaaaTotals.lean).
  GIVEN WITH THE SEED: the statements are not yours to turn. If you find one false, say at which input.
  Laid BY PROGRAM, IN A SANDBOX (cutbox-rows.mjs): the forced cells as the released guide's own fill.sh prints them over the translation b576326f0fca69f1… (all of the seat's roots in one cut). By AI agents, Wed Nov 11 2026. No macro, syntax, notation, axiom, sorry.
-/
import Derived.Test.YtljaocdmeoheaaaChecked
import GoSem.Claim
import GoSem.ClaimJoined
import GoSem.ClaimMapViews
import Derived.JoinedTies
import Derived.KernelRfl
namespace Go.Proofs.Ytljaocdmeoheaaa
/- THE CELL 'sum', in the pinned program and in every row, IS THE sha256 OF THE DUMP (.gsa) THAT YtljaocdmeoheaaaProg.lean LOADS. Nothing in Lean hashes anything: it is a label: what it is worth is what the hold of that sum in a sandbox is worth. -/
noncomputable def Try.pinned : Pinned := { name := "ytljaocdmeoheaaa", sum := "b576326f0fca69f1805790fdca17be02d2c2867e109605568f7c28cc87cc3efb", checked := Try.checked }
namespace Rows
def none {H : Type} : Left H := { results := [], args := [] }

/-- 'carracklaw04.PoolHeads': WHATEVER THE INPUT: true; the input reads as it did. -/
def poolHeadsSpec : ChangeSpec := { name := "poolHeads", fn := fun _ => fun
  | [d1, d2, d3] => { results := [.lit (.bool true)], args := [d1, d2, d3] }
  | _ => none }
def poolHeadsRow : OpenClaim := { program := "ytljaocdmeoheaaa", sum := "b576326f0fca69f1805790fdca17be02d2c2867e109605568f7c28cc87cc3efb", func := "carrack/carracklaw04.PoolHeads", spec := "poolHeads", unfollowed := true, recurses := true, apart := false }
def PoolHeadsSaid : Prop := poolHeadsRow.holds Try.pinned (OpenSpec.ofChange poolHeadsSpec)

/-- ITS FALSE NEIGHBOUR: 'it returns false'. Refute it at one input. -/
def poolHeadsWrong : ChangeSpec := { name := "poolHeads", fn := fun _ => fun
  | [d1, d2, d3] => { results := [.lit (.bool false)], args := [d1, d2, d3] }
  | _ => none }
def PoolHeadsWrongFalsely : Prop := poolHeadsRow.holds Try.pinned (OpenSpec.ofChange poolHeadsWrong)

/-- 'carracklaw04.PoolNil': WHATEVER THE INPUT: true; the input reads as it did. -/
def poolNilSpec : ChangeSpec := { name := "poolNil", fn := fun _ => fun
  | [d1, d2, d3, d4] => { results := [.lit (.bool true)], args := [d1, d2, d3, d4] }
  | _ => none }
def poolNilRow : OpenClaim := { program := "ytljaocdmeoheaaa", sum := "b576326f0fca69f1805790fdca17be02d2c2867e109605568f7c28cc87cc3efb", func := "carrack/carracklaw04.PoolNil", spec := "poolNil", unfollowed := true, recurses := true, apart := false }
def PoolNilSaid : Prop := poolNilRow.holds Try.pinned (OpenSpec.ofChange poolNilSpec)

/-- ITS FALSE NEIGHBOUR: 'it returns false'. Refute it at one input. -/
def poolNilWrong : ChangeSpec := { name := "poolNil", fn := fun _ => fun
  | [d1, d2, d3, d4] => { results := [.lit (.bool false)], args := [d1, d2, d3, d4] }
  | _ => none }
def PoolNilWrongFalsely : Prop := poolNilRow.holds Try.pinned (OpenSpec.ofChange poolNilWrong)

/-- 'carracklaw04.PoolPlays': WHATEVER THE INPUT: true; the input reads as it did. -/
def poolPlaysSpec : ChangeSpec := { name := "poolPlays", fn := fun _ => fun
  | [d1, d2, d3] => { results := [.lit (.bool true)], args := [d1, d2, d3] }
  | _ => none }
def poolPlaysRow : OpenClaim := { program := "ytljaocdmeoheaaa", sum := "b576326f0fca69f1805790fdca17be02d2c2867e109605568f7c28cc87cc3efb", func := "carrack/carracklaw04.PoolPlays", spec := "poolPlays", unfollowed := true, recurses := true, apart := false }
def PoolPlaysSaid : Prop := poolPlaysRow.holds Try.pinned (OpenSpec.ofChange poolPlaysSpec)

/-- ITS FALSE NEIGHBOUR: 'it returns false'. Refute it at one input. -/
def poolPlaysWrong : ChangeSpec := { name := "poolPlays", fn := fun _ => fun
  | [d1, d2, d3] => { results := [.lit (.bool false)], args := [d1, d2, d3] }
  | _ => none }
def PoolPlaysWrongFalsely : Prop := poolPlaysRow.holds Try.pinned (OpenSpec.ofChange poolPlaysWrong)

/-- 'carracklaw04.PoolRises': WHATEVER THE INPUT: true; the input reads as it did. -/
def poolRisesSpec : ChangeSpec := { name := "poolRises", fn := fun _ => fun
  | [d1, d2, d3, d4] => { results := [.lit (.bool true)], args := [d1, d2, d3, d4] }
  | _ => none }
def poolRisesRow : OpenClaim := { program := "ytljaocdmeoheaaa", sum := "b576326f0fca69f1805790fdca17be02d2c2867e109605568f7c28cc87cc3efb", func := "carrack/carracklaw04.PoolRises", spec := "poolRises", unfollowed := true, recurses := true, apart := false }
def PoolRisesSaid : Prop := poolRisesRow.holds Try.pinned (OpenSpec.ofChange poolRisesSpec)

/-- ITS FALSE NEIGHBOUR: 'it returns false'. Refute it at one input. -/
def poolRisesWrong : ChangeSpec := { name := "poolRises", fn := fun _ => fun
  | [d1, d2, d3, d4] => { results := [.lit (.bool false)], args := [d1, d2, d3, d4] }
  | _ => none }
def PoolRisesWrongFalsely : Prop := poolRisesRow.holds Try.pinned (OpenSpec.ofChange poolRisesWrong)

/-- 'carracklaw04.PoolCuts': WHATEVER THE INPUT: true; the input reads as it did. -/
def poolCutsSpec : ChangeSpec := { name := "poolCuts", fn := fun _ => fun
  | [d1, d2, d3, d4, d5, d6] => { results := [.lit (.bool true)], args := [d1, d2, d3, d4, d5, d6] }
  | _ => none }
def poolCutsRow : OpenClaim := { program := "ytljaocdmeoheaaa", sum := "b576326f0fca69f1805790fdca17be02d2c2867e109605568f7c28cc87cc3efb", func := "carrack/carracklaw04.PoolCuts", spec := "poolCuts", unfollowed := true, recurses := true, apart := false }
def PoolCutsSaid : Prop := poolCutsRow.holds Try.pinned (OpenSpec.ofChange poolCutsSpec)

/-- ITS FALSE NEIGHBOUR: 'it returns false'. Refute it at one input. -/
def poolCutsWrong : ChangeSpec := { name := "poolCuts", fn := fun _ => fun
  | [d1, d2, d3, d4, d5, d6] => { results := [.lit (.bool false)], args := [d1, d2, d3, d4, d5, d6] }
  | _ => none }
def PoolCutsWrongFalsely : Prop := poolCutsRow.holds Try.pinned (OpenSpec.ofChange poolCutsWrong)

/-- 'carracklaw04.PoolUses': WHATEVER THE INPUT: true; the input reads as it did. -/
def poolUsesSpec : ChangeSpec := { name := "poolUses", fn := fun _ => fun
  | [d1, d2, d3] => { results := [.lit (.bool true)], args := [d1, d2, d3] }
  | _ => none }
def poolUsesRow : OpenClaim := { program := "ytljaocdmeoheaaa", sum := "b576326f0fca69f1805790fdca17be02d2c2867e109605568f7c28cc87cc3efb", func := "carrack/carracklaw04.PoolUses", spec := "poolUses", unfollowed := true, recurses := true, apart := false }
def PoolUsesSaid : Prop := poolUsesRow.holds Try.pinned (OpenSpec.ofChange poolUsesSpec)

/-- ITS FALSE NEIGHBOUR: 'it returns false'. Refute it at one input. -/
def poolUsesWrong : ChangeSpec := { name := "poolUses", fn := fun _ => fun
  | [d1, d2, d3] => { results := [.lit (.bool false)], args := [d1, d2, d3] }
  | _ => none }
def PoolUsesWrongFalsely : Prop := poolUsesRow.holds Try.pinned (OpenSpec.ofChange poolUsesWrong)

/-- 'carracklaw04.PoolFresh': WHATEVER THE INPUT: true; the input reads as it did. -/
def poolFreshSpec : ChangeSpec := { name := "poolFresh", fn := fun _ => fun
  | [d1, d2] => { results := [.lit (.bool true)], args := [d1, d2] }
  | _ => none }
def poolFreshRow : OpenClaim := { program := "ytljaocdmeoheaaa", sum := "b576326f0fca69f1805790fdca17be02d2c2867e109605568f7c28cc87cc3efb", func := "carrack/carracklaw04.PoolFresh", spec := "poolFresh", unfollowed := true, recurses := true, apart := false }
def PoolFreshSaid : Prop := poolFreshRow.holds Try.pinned (OpenSpec.ofChange poolFreshSpec)

/-- ITS FALSE NEIGHBOUR: 'it returns false'. Refute it at one input. -/
def poolFreshWrong : ChangeSpec := { name := "poolFresh", fn := fun _ => fun
  | [d1, d2] => { results := [.lit (.bool false)], args := [d1, d2] }
  | _ => none }
def PoolFreshWrongFalsely : Prop := poolFreshRow.holds Try.pinned (OpenSpec.ofChange poolFreshWrong)

/- THE SECOND FORM. 'bulk': how many values and letters a reading holds, each counted each time it is reached (what is shared counts as often as it is met; a slice's spare places count too). A statement '..UptoSaid' is the law's where the arguments, and the package variables that the reading takes, are together of bulk at most 1048576: NARROWER than '..Said'. Prove '..Said' where nothing that the law and all that it calls make is longer than what came in: it says more and counts as full. Else prove '..UptoSaid'. A law counts once. -/
mutual
def uptoBulk {H : Type} : DataW H → Nat
  | .lit (.string bytes) => bytes.length + 1
  | .lit _ => 1
  | .nil => 1
  | .ptr d => uptoBulk d + 1
  | .slice elems spare => uptoBulkAll elems + uptoBulkAll spare + 1
  | .agg parts => uptoBulkAll parts + 1
  | .iface _ d => uptoBulk d + 1
  | .map entries => uptoBulkEntries entries + 1
  | .held _ => 1
def uptoBulkAll {H : Type} : List (DataW H) → Nat
  | [] => 0
  | d :: r => uptoBulk d + uptoBulkAll r
def uptoBulkEntries {H : Type} : List (Lit × DataW H) → Nat
  | [] => 0
  | x :: r => uptoBulkEntry x + uptoBulkEntries r
def uptoBulkEntry {H : Type} : Lit × DataW H → Nat
  | (.string bytes, d) => bytes.length + uptoBulk d + 1
  | (_, d) => uptoBulk d + 1
 end
def uptoSmall : (H : Type) → List (DataW H) → Bool := fun _ ds => decide (uptoBulkAll ds ≤ 1048576)
def OpenSpec.upto (s : _root_.Go.ChangeSpec) : _root_.Go.OpenSpec := { _root_.Go.OpenSpec.ofChange s with cond := some uptoSmall }

/-- 'carracklaw04.PoolHeads', WHERE WHAT IT READS IS OF BULK AT MOST 1048576: true; the input reads as it did. -/
def poolHeadsUptoRow : OpenClaim := { program := "ytljaocdmeoheaaa", sum := "b576326f0fca69f1805790fdca17be02d2c2867e109605568f7c28cc87cc3efb", func := "carrack/carracklaw04.PoolHeads", spec := "poolHeads", unfollowed := true, recurses := true, apart := false, narrowed := true }
def PoolHeadsUptoSaid : Prop := poolHeadsUptoRow.holds Try.pinned (OpenSpec.upto poolHeadsSpec)

/-- 'carracklaw04.PoolNil', WHERE WHAT IT READS IS OF BULK AT MOST 1048576: true; the input reads as it did. -/
def poolNilUptoRow : OpenClaim := { program := "ytljaocdmeoheaaa", sum := "b576326f0fca69f1805790fdca17be02d2c2867e109605568f7c28cc87cc3efb", func := "carrack/carracklaw04.PoolNil", spec := "poolNil", unfollowed := true, recurses := true, apart := false, narrowed := true }
def PoolNilUptoSaid : Prop := poolNilUptoRow.holds Try.pinned (OpenSpec.upto poolNilSpec)

/-- 'carracklaw04.PoolPlays', WHERE WHAT IT READS IS OF BULK AT MOST 1048576: true; the input reads as it did. -/
def poolPlaysUptoRow : OpenClaim := { program := "ytljaocdmeoheaaa", sum := "b576326f0fca69f1805790fdca17be02d2c2867e109605568f7c28cc87cc3efb", func := "carrack/carracklaw04.PoolPlays", spec := "poolPlays", unfollowed := true, recurses := true, apart := false, narrowed := true }
def PoolPlaysUptoSaid : Prop := poolPlaysUptoRow.holds Try.pinned (OpenSpec.upto poolPlaysSpec)

/-- 'carracklaw04.PoolRises', WHERE WHAT IT READS IS OF BULK AT MOST 1048576: true; the input reads as it did. -/
def poolRisesUptoRow : OpenClaim := { program := "ytljaocdmeoheaaa", sum := "b576326f0fca69f1805790fdca17be02d2c2867e109605568f7c28cc87cc3efb", func := "carrack/carracklaw04.PoolRises", spec := "poolRises", unfollowed := true, recurses := true, apart := false, narrowed := true }
def PoolRisesUptoSaid : Prop := poolRisesUptoRow.holds Try.pinned (OpenSpec.upto poolRisesSpec)

/-- 'carracklaw04.PoolCuts', WHERE WHAT IT READS IS OF BULK AT MOST 1048576: true; the input reads as it did. -/
def poolCutsUptoRow : OpenClaim := { program := "ytljaocdmeoheaaa", sum := "b576326f0fca69f1805790fdca17be02d2c2867e109605568f7c28cc87cc3efb", func := "carrack/carracklaw04.PoolCuts", spec := "poolCuts", unfollowed := true, recurses := true, apart := false, narrowed := true }
def PoolCutsUptoSaid : Prop := poolCutsUptoRow.holds Try.pinned (OpenSpec.upto poolCutsSpec)

/-- 'carracklaw04.PoolUses', WHERE WHAT IT READS IS OF BULK AT MOST 1048576: true; the input reads as it did. -/
def poolUsesUptoRow : OpenClaim := { program := "ytljaocdmeoheaaa", sum := "b576326f0fca69f1805790fdca17be02d2c2867e109605568f7c28cc87cc3efb", func := "carrack/carracklaw04.PoolUses", spec := "poolUses", unfollowed := true, recurses := true, apart := false, narrowed := true }
def PoolUsesUptoSaid : Prop := poolUsesUptoRow.holds Try.pinned (OpenSpec.upto poolUsesSpec)

/-- 'carracklaw04.PoolFresh', WHERE WHAT IT READS IS OF BULK AT MOST 1048576: true; the input reads as it did. -/
def poolFreshUptoRow : OpenClaim := { program := "ytljaocdmeoheaaa", sum := "b576326f0fca69f1805790fdca17be02d2c2867e109605568f7c28cc87cc3efb", func := "carrack/carracklaw04.PoolFresh", spec := "poolFresh", unfollowed := true, recurses := true, apart := false, narrowed := true }
def PoolFreshUptoSaid : Prop := poolFreshUptoRow.holds Try.pinned (OpenSpec.upto poolFreshSpec)

end Rows
end Go.Proofs.Ytljaocdmeoheaaa
