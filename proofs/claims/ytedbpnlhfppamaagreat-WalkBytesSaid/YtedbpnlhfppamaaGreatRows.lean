/-
  No cell of these rows narrows 'for every input' (looked for: loops, veiled, ifaces, maps, wideKeys, modest, calm, conditions, laid).
  DERIVED. THE GIVEN ROWS OF THIS SEAT. 3 by the template 'for every input the law returns true; each argument reads behind the call as it read before'; 0 by the template 'total and deterministic' (their statements: YtedbpnlhfppamaaGreatTotals.lean).
  GIVEN WITH THE SEED: the statements are not yours to turn. If you find one false, say at which input.
  Laid BY PROGRAM, IN A SANDBOX (cutbox-rows.mjs): the forced cells as the released guide's own fill.sh prints them over the translation 62174b3276232f60… (all of the seat's roots in one cut). By AI agents, Wed Nov 11 2026. No macro, syntax, notation, axiom, sorry.
-/
import Derived.Test.YtedbpnlhfppamaaGreatChecked
import GoSem.Claim
import GoSem.ClaimJoined
import GoSem.ClaimMapViews
import Derived.JoinedTies
import Derived.KernelRfl
namespace Go.Proofs.YtedbpnlhfppamaaGreat
/- THE CELL 'sum', in the pinned program and in every row, IS THE sha256 OF THE DUMP (.gsa) THAT YtedbpnlhfppamaaGreatProg.lean LOADS. Nothing in Lean hashes anything: it is a label: what it is worth is what the hold of that sum in a sandbox is worth. -/
noncomputable def Tryz.pinned : Pinned := { name := "ytedbpnlhfppamaagreat", sum := "62174b3276232f60c0b8430613162b08a04a1e927fdecbdd1e803da4a518a5ac", checked := Tryz.checked }
namespace Rows
def none {H : Type} : Left H := { results := [], args := [] }

/-- 'carracklaw18.WalkTorn': WHATEVER THE INPUT: true; the input reads as it did. -/
def walkTornSpec : ChangeSpec := { name := "walkTorn", fn := fun _ => fun
  | [d1, d2, d3] => { results := [.lit (.bool true)], args := [d1, d2, d3] }
  | _ => none }
def walkTornRow : OpenClaim := { program := "ytedbpnlhfppamaagreat", sum := "62174b3276232f60c0b8430613162b08a04a1e927fdecbdd1e803da4a518a5ac", func := "carrack/carracklaw18.WalkTorn", spec := "walkTorn", unfollowed := true, recurses := true, plainKeys := false, apart := false }
def WalkTornSaid : Prop := walkTornRow.holds Tryz.pinned (OpenSpec.ofChange walkTornSpec)

/-- ITS FALSE NEIGHBOUR: 'it returns false'. Refute it at one input. -/
def walkTornWrong : ChangeSpec := { name := "walkTorn", fn := fun _ => fun
  | [d1, d2, d3] => { results := [.lit (.bool false)], args := [d1, d2, d3] }
  | _ => none }
def WalkTornWrongFalsely : Prop := walkTornRow.holds Tryz.pinned (OpenSpec.ofChange walkTornWrong)

/-- 'carracklaw18.WalkBytes': WHATEVER THE INPUT: true; the input reads as it did. -/
def walkBytesSpec : ChangeSpec := { name := "walkBytes", fn := fun _ => fun
  | [d1, d2] => { results := [.lit (.bool true)], args := [d1, d2] }
  | _ => none }
def walkBytesRow : OpenClaim := { program := "ytedbpnlhfppamaagreat", sum := "62174b3276232f60c0b8430613162b08a04a1e927fdecbdd1e803da4a518a5ac", func := "carrack/carracklaw18.WalkBytes", spec := "walkBytes", unfollowed := true, recurses := true, plainKeys := false, apart := false }
def WalkBytesSaid : Prop := walkBytesRow.holds Tryz.pinned (OpenSpec.ofChange walkBytesSpec)

/-- ITS FALSE NEIGHBOUR: 'it returns false'. Refute it at one input. -/
def walkBytesWrong : ChangeSpec := { name := "walkBytes", fn := fun _ => fun
  | [d1, d2] => { results := [.lit (.bool false)], args := [d1, d2] }
  | _ => none }
def WalkBytesWrongFalsely : Prop := walkBytesRow.holds Tryz.pinned (OpenSpec.ofChange walkBytesWrong)

/-- 'carracklaw18.WalkDead': WHATEVER THE INPUT: true; the input reads as it did. -/
def walkDeadSpec : ChangeSpec := { name := "walkDead", fn := fun _ => fun
  | [d1, d2] => { results := [.lit (.bool true)], args := [d1, d2] }
  | _ => none }
def walkDeadRow : OpenClaim := { program := "ytedbpnlhfppamaagreat", sum := "62174b3276232f60c0b8430613162b08a04a1e927fdecbdd1e803da4a518a5ac", func := "carrack/carracklaw18.WalkDead", spec := "walkDead", unfollowed := true, recurses := true, plainKeys := false, apart := false }
def WalkDeadSaid : Prop := walkDeadRow.holds Tryz.pinned (OpenSpec.ofChange walkDeadSpec)

/-- ITS FALSE NEIGHBOUR: 'it returns false'. Refute it at one input. -/
def walkDeadWrong : ChangeSpec := { name := "walkDead", fn := fun _ => fun
  | [d1, d2] => { results := [.lit (.bool false)], args := [d1, d2] }
  | _ => none }
def WalkDeadWrongFalsely : Prop := walkDeadRow.holds Tryz.pinned (OpenSpec.ofChange walkDeadWrong)

/- THE SECOND FORM. 'bulk': how many values and letters a reading holds, each counted each time it is reached (what is shared counts as often as it is met; a slice's spare places count too). A statement '..UptoSaid' is the law's where the arguments, and the package variables that the reading takes, are together of bulk at most 1048576: NARROWER than '..Said'. Prove '..Said' where nothing that the law and all that it calls make is longer than what came in: it says more and counts as full. Else prove '..UptoSaid'. A law counts once. -/
mutual
def uptoBulk {H : Type} : DataW H → Nat
  | .lit (.string bytes) => bytes.length + 1
  | .lit _ => 1
  | .nil => 1
  | .ptr d => uptoBulk d + 1
  | .slice elems spare => uptoBulkAll elems + uptoBulkAll spare + 1
  | .agg parts => uptoBulkAll parts + 1
  | .iface _ d => uptoBulk d + 1
  | .map entries => uptoBulkEntries entries + 1
  | .held _ => 1
def uptoBulkAll {H : Type} : List (DataW H) → Nat
  | [] => 0
  | d :: r => uptoBulk d + uptoBulkAll r
def uptoBulkEntries {H : Type} : List (Lit × DataW H) → Nat
  | [] => 0
  | x :: r => uptoBulkEntry x + uptoBulkEntries r
def uptoBulkEntry {H : Type} : Lit × DataW H → Nat
  | (.string bytes, d) => bytes.length + uptoBulk d + 1
  | (_, d) => uptoBulk d + 1
 end
def uptoSmall : (H : Type) → List (DataW H) → Bool := fun _ ds => decide (uptoBulkAll ds ≤ 1048576)
def OpenSpec.upto (s : _root_.Go.ChangeSpec) : _root_.Go.OpenSpec := { _root_.Go.OpenSpec.ofChange s with cond := some uptoSmall }

/-- 'carracklaw18.WalkTorn', WHERE WHAT IT READS IS OF BULK AT MOST 1048576: true; the input reads as it did. -/
def walkTornUptoRow : OpenClaim := { program := "ytedbpnlhfppamaagreat", sum := "62174b3276232f60c0b8430613162b08a04a1e927fdecbdd1e803da4a518a5ac", func := "carrack/carracklaw18.WalkTorn", spec := "walkTorn", unfollowed := true, recurses := true, plainKeys := false, apart := false, narrowed := true }
def WalkTornUptoSaid : Prop := walkTornUptoRow.holds Tryz.pinned (OpenSpec.upto walkTornSpec)

/-- 'carracklaw18.WalkBytes', WHERE WHAT IT READS IS OF BULK AT MOST 1048576: true; the input reads as it did. -/
def walkBytesUptoRow : OpenClaim := { program := "ytedbpnlhfppamaagreat", sum := "62174b3276232f60c0b8430613162b08a04a1e927fdecbdd1e803da4a518a5ac", func := "carrack/carracklaw18.WalkBytes", spec := "walkBytes", unfollowed := true, recurses := true, plainKeys := false, apart := false, narrowed := true }
def WalkBytesUptoSaid : Prop := walkBytesUptoRow.holds Tryz.pinned (OpenSpec.upto walkBytesSpec)

/-- 'carracklaw18.WalkDead', WHERE WHAT IT READS IS OF BULK AT MOST 1048576: true; the input reads as it did. -/
def walkDeadUptoRow : OpenClaim := { program := "ytedbpnlhfppamaagreat", sum := "62174b3276232f60c0b8430613162b08a04a1e927fdecbdd1e803da4a518a5ac", func := "carrack/carracklaw18.WalkDead", spec := "walkDead", unfollowed := true, recurses := true, plainKeys := false, apart := false, narrowed := true }
def WalkDeadUptoSaid : Prop := walkDeadUptoRow.holds Tryz.pinned (OpenSpec.upto walkDeadSpec)

end Rows
end Go.Proofs.YtedbpnlhfppamaaGreat
