/-
  No cell of these rows narrows 'for every input' (looked for: loops, veiled, ifaces, maps, wideKeys, modest, calm, conditions, laid).
  DERIVED. THE GIVEN ROWS OF THIS SEAT. 6 by the template 'for every input the law returns true; each argument reads behind the call as it read before'; 0 by the template 'total and deterministic' (their statements: YtnjiiijdgijahaaGreatTotals.lean).
  GIVEN WITH THE SEED: the statements are not yours to turn. If you find one false, say at which input.
  Laid BY PROGRAM, IN A SANDBOX (cutbox-rows.mjs): the forced cells as the released guide's own fill.sh prints them over the translation cdb43648d42a7ebd… (all of the seat's roots in one cut). By AI agents, Wed Nov 11 2026. No macro, syntax, notation, axiom, sorry.
-/
import Derived.Test.YtnjiiijdgijahaaGreatChecked
import GoSem.Claim
import GoSem.ClaimJoined
import GoSem.ClaimMapViews
import Derived.JoinedTies
import Derived.KernelRfl
namespace Go.Proofs.YtnjiiijdgijahaaGreat
/- THE CELL 'sum', in the pinned program and in every row, IS THE sha256 OF THE DUMP (.gsa) THAT YtnjiiijdgijahaaGreatProg.lean LOADS. Nothing in Lean hashes anything: it is a label: what it is worth is what the hold of that sum in a sandbox is worth. -/
noncomputable def Tryz.pinned : Pinned := { name := "ytnjiiijdgijahaagreat", sum := "cdb43648d42a7ebd3ffa31bd08e777d0efc347b54e27db7e364a12dde83ab4bf", checked := Tryz.checked }
namespace Rows
def none {H : Type} : Left H := { results := [], args := [] }

/-- 'carracklaw14.LogMakes': WHATEVER THE INPUT: true; the input reads as it did. -/
def logMakesSpec : ChangeSpec := { name := "logMakes", fn := fun _ => fun
  | [d1, d2, d3] => { results := [.lit (.bool true)], args := [d1, d2, d3] }
  | _ => none }
def logMakesRow : OpenClaim := { program := "ytnjiiijdgijahaagreat", sum := "cdb43648d42a7ebd3ffa31bd08e777d0efc347b54e27db7e364a12dde83ab4bf", func := "carrack/carracklaw14.LogMakes", spec := "logMakes", inPlace := ["slices.overlaps[carrack/api.Fact]"], unfollowed := true, recurses := true, apart := false }
def LogMakesSaid : Prop := logMakesRow.holds Tryz.pinned (OpenSpec.ofChange logMakesSpec)

/-- ITS FALSE NEIGHBOUR: 'it returns false'. Refute it at one input. -/
def logMakesWrong : ChangeSpec := { name := "logMakes", fn := fun _ => fun
  | [d1, d2, d3] => { results := [.lit (.bool false)], args := [d1, d2, d3] }
  | _ => none }
def LogMakesWrongFalsely : Prop := logMakesRow.holds Tryz.pinned (OpenSpec.ofChange logMakesWrong)

/-- 'carracklaw14.LogFresh': WHATEVER THE INPUT: true; the input reads as it did. -/
def logFreshSpec : ChangeSpec := { name := "logFresh", fn := fun _ => fun
  | [d1, d2] => { results := [.lit (.bool true)], args := [d1, d2] }
  | _ => none }
def logFreshRow : OpenClaim := { program := "ytnjiiijdgijahaagreat", sum := "cdb43648d42a7ebd3ffa31bd08e777d0efc347b54e27db7e364a12dde83ab4bf", func := "carrack/carracklaw14.LogFresh", spec := "logFresh", inPlace := ["slices.overlaps[carrack/api.Fact]"], unfollowed := true, recurses := true, apart := false }
def LogFreshSaid : Prop := logFreshRow.holds Tryz.pinned (OpenSpec.ofChange logFreshSpec)

/-- ITS FALSE NEIGHBOUR: 'it returns false'. Refute it at one input. -/
def logFreshWrong : ChangeSpec := { name := "logFresh", fn := fun _ => fun
  | [d1, d2] => { results := [.lit (.bool false)], args := [d1, d2] }
  | _ => none }
def LogFreshWrongFalsely : Prop := logFreshRow.holds Tryz.pinned (OpenSpec.ofChange logFreshWrong)

/-- 'carracklaw14.LogCuts': WHATEVER THE INPUT: true; the input reads as it did. -/
def logCutsSpec : ChangeSpec := { name := "logCuts", fn := fun _ => fun
  | [d1, d2, d3, d4, d5, d6] => { results := [.lit (.bool true)], args := [d1, d2, d3, d4, d5, d6] }
  | _ => none }
def logCutsRow : OpenClaim := { program := "ytnjiiijdgijahaagreat", sum := "cdb43648d42a7ebd3ffa31bd08e777d0efc347b54e27db7e364a12dde83ab4bf", func := "carrack/carracklaw14.LogCuts", spec := "logCuts", inPlace := ["slices.overlaps[carrack/api.Fact]"], unfollowed := true, recurses := true, apart := false }
def LogCutsSaid : Prop := logCutsRow.holds Tryz.pinned (OpenSpec.ofChange logCutsSpec)

/-- ITS FALSE NEIGHBOUR: 'it returns false'. Refute it at one input. -/
def logCutsWrong : ChangeSpec := { name := "logCuts", fn := fun _ => fun
  | [d1, d2, d3, d4, d5, d6] => { results := [.lit (.bool false)], args := [d1, d2, d3, d4, d5, d6] }
  | _ => none }
def LogCutsWrongFalsely : Prop := logCutsRow.holds Tryz.pinned (OpenSpec.ofChange logCutsWrong)

/-- 'carracklaw14.LogTidies': WHATEVER THE INPUT: true; the input reads as it did. -/
def logTidiesSpec : ChangeSpec := { name := "logTidies", fn := fun _ => fun
  | [d1, d2, d3, d4] => { results := [.lit (.bool true)], args := [d1, d2, d3, d4] }
  | _ => none }
def logTidiesRow : OpenClaim := { program := "ytnjiiijdgijahaagreat", sum := "cdb43648d42a7ebd3ffa31bd08e777d0efc347b54e27db7e364a12dde83ab4bf", func := "carrack/carracklaw14.LogTidies", spec := "logTidies", inPlace := ["slices.overlaps[carrack/api.Fact]"], unfollowed := true, recurses := true, apart := false }
def LogTidiesSaid : Prop := logTidiesRow.holds Tryz.pinned (OpenSpec.ofChange logTidiesSpec)

/-- ITS FALSE NEIGHBOUR: 'it returns false'. Refute it at one input. -/
def logTidiesWrong : ChangeSpec := { name := "logTidies", fn := fun _ => fun
  | [d1, d2, d3, d4] => { results := [.lit (.bool false)], args := [d1, d2, d3, d4] }
  | _ => none }
def LogTidiesWrongFalsely : Prop := logTidiesRow.holds Tryz.pinned (OpenSpec.ofChange logTidiesWrong)

/-- 'carracklaw14.LogNil': WHATEVER THE INPUT: true; the input reads as it did. -/
def logNilSpec : ChangeSpec := { name := "logNil", fn := fun _ => fun
  | [d1, d2, d3] => { results := [.lit (.bool true)], args := [d1, d2, d3] }
  | _ => none }
def logNilRow : OpenClaim := { program := "ytnjiiijdgijahaagreat", sum := "cdb43648d42a7ebd3ffa31bd08e777d0efc347b54e27db7e364a12dde83ab4bf", func := "carrack/carracklaw14.LogNil", spec := "logNil", inPlace := ["slices.overlaps[carrack/api.Fact]"], unfollowed := true, recurses := true, apart := false }
def LogNilSaid : Prop := logNilRow.holds Tryz.pinned (OpenSpec.ofChange logNilSpec)

/-- ITS FALSE NEIGHBOUR: 'it returns false'. Refute it at one input. -/
def logNilWrong : ChangeSpec := { name := "logNil", fn := fun _ => fun
  | [d1, d2, d3] => { results := [.lit (.bool false)], args := [d1, d2, d3] }
  | _ => none }
def LogNilWrongFalsely : Prop := logNilRow.holds Tryz.pinned (OpenSpec.ofChange logNilWrong)

/-- 'carracklaw14.LogPlays': WHATEVER THE INPUT: true; the input reads as it did. -/
def logPlaysSpec : ChangeSpec := { name := "logPlays", fn := fun _ => fun
  | [d1, d2, d3] => { results := [.lit (.bool true)], args := [d1, d2, d3] }
  | _ => none }
def logPlaysRow : OpenClaim := { program := "ytnjiiijdgijahaagreat", sum := "cdb43648d42a7ebd3ffa31bd08e777d0efc347b54e27db7e364a12dde83ab4bf", func := "carrack/carracklaw14.LogPlays", spec := "logPlays", inPlace := ["slices.overlaps[carrack/api.Fact]"], unfollowed := true, recurses := true, apart := false }
def LogPlaysSaid : Prop := logPlaysRow.holds Tryz.pinned (OpenSpec.ofChange logPlaysSpec)

/-- ITS FALSE NEIGHBOUR: 'it returns false'. Refute it at one input. -/
def logPlaysWrong : ChangeSpec := { name := "logPlays", fn := fun _ => fun
  | [d1, d2, d3] => { results := [.lit (.bool false)], args := [d1, d2, d3] }
  | _ => none }
def LogPlaysWrongFalsely : Prop := logPlaysRow.holds Tryz.pinned (OpenSpec.ofChange logPlaysWrong)

/- THE SECOND FORM. 'bulk': how many values and letters a reading holds, each counted each time it is reached (what is shared counts as often as it is met; a slice's spare places count too). A statement '..UptoSaid' is the law's where the arguments, and the package variables that the reading takes, are together of bulk at most 1048576: NARROWER than '..Said'. Prove '..Said' where nothing that the law and all that it calls make is longer than what came in: it says more and counts as full. Else prove '..UptoSaid'. A law counts once. -/
mutual
def uptoBulk {H : Type} : DataW H → Nat
  | .lit (.string bytes) => bytes.length + 1
  | .lit _ => 1
  | .nil => 1
  | .ptr d => uptoBulk d + 1
  | .slice elems spare => uptoBulkAll elems + uptoBulkAll spare + 1
  | .agg parts => uptoBulkAll parts + 1
  | .iface _ d => uptoBulk d + 1
  | .map entries => uptoBulkEntries entries + 1
  | .held _ => 1
def uptoBulkAll {H : Type} : List (DataW H) → Nat
  | [] => 0
  | d :: r => uptoBulk d + uptoBulkAll r
def uptoBulkEntries {H : Type} : List (Lit × DataW H) → Nat
  | [] => 0
  | x :: r => uptoBulkEntry x + uptoBulkEntries r
def uptoBulkEntry {H : Type} : Lit × DataW H → Nat
  | (.string bytes, d) => bytes.length + uptoBulk d + 1
  | (_, d) => uptoBulk d + 1
 end
def uptoSmall : (H : Type) → List (DataW H) → Bool := fun _ ds => decide (uptoBulkAll ds ≤ 1048576)
def OpenSpec.upto (s : _root_.Go.ChangeSpec) : _root_.Go.OpenSpec := { _root_.Go.OpenSpec.ofChange s with cond := some uptoSmall }

/-- 'carracklaw14.LogMakes', WHERE WHAT IT READS IS OF BULK AT MOST 1048576: true; the input reads as it did. -/
def logMakesUptoRow : OpenClaim := { program := "ytnjiiijdgijahaagreat", sum := "cdb43648d42a7ebd3ffa31bd08e777d0efc347b54e27db7e364a12dde83ab4bf", func := "carrack/carracklaw14.LogMakes", spec := "logMakes", inPlace := ["slices.overlaps[carrack/api.Fact]"], unfollowed := true, recurses := true, apart := false, narrowed := true }
def LogMakesUptoSaid : Prop := logMakesUptoRow.holds Tryz.pinned (OpenSpec.upto logMakesSpec)

/-- 'carracklaw14.LogFresh', WHERE WHAT IT READS IS OF BULK AT MOST 1048576: true; the input reads as it did. -/
def logFreshUptoRow : OpenClaim := { program := "ytnjiiijdgijahaagreat", sum := "cdb43648d42a7ebd3ffa31bd08e777d0efc347b54e27db7e364a12dde83ab4bf", func := "carrack/carracklaw14.LogFresh", spec := "logFresh", inPlace := ["slices.overlaps[carrack/api.Fact]"], unfollowed := true, recurses := true, apart := false, narrowed := true }
def LogFreshUptoSaid : Prop := logFreshUptoRow.holds Tryz.pinned (OpenSpec.upto logFreshSpec)

/-- 'carracklaw14.LogCuts', WHERE WHAT IT READS IS OF BULK AT MOST 1048576: true; the input reads as it did. -/
def logCutsUptoRow : OpenClaim := { program := "ytnjiiijdgijahaagreat", sum := "cdb43648d42a7ebd3ffa31bd08e777d0efc347b54e27db7e364a12dde83ab4bf", func := "carrack/carracklaw14.LogCuts", spec := "logCuts", inPlace := ["slices.overlaps[carrack/api.Fact]"], unfollowed := true, recurses := true, apart := false, narrowed := true }
def LogCutsUptoSaid : Prop := logCutsUptoRow.holds Tryz.pinned (OpenSpec.upto logCutsSpec)

/-- 'carracklaw14.LogTidies', WHERE WHAT IT READS IS OF BULK AT MOST 1048576: true; the input reads as it did. -/
def logTidiesUptoRow : OpenClaim := { program := "ytnjiiijdgijahaagreat", sum := "cdb43648d42a7ebd3ffa31bd08e777d0efc347b54e27db7e364a12dde83ab4bf", func := "carrack/carracklaw14.LogTidies", spec := "logTidies", inPlace := ["slices.overlaps[carrack/api.Fact]"], unfollowed := true, recurses := true, apart := false, narrowed := true }
def LogTidiesUptoSaid : Prop := logTidiesUptoRow.holds Tryz.pinned (OpenSpec.upto logTidiesSpec)

/-- 'carracklaw14.LogNil', WHERE WHAT IT READS IS OF BULK AT MOST 1048576: true; the input reads as it did. -/
def logNilUptoRow : OpenClaim := { program := "ytnjiiijdgijahaagreat", sum := "cdb43648d42a7ebd3ffa31bd08e777d0efc347b54e27db7e364a12dde83ab4bf", func := "carrack/carracklaw14.LogNil", spec := "logNil", inPlace := ["slices.overlaps[carrack/api.Fact]"], unfollowed := true, recurses := true, apart := false, narrowed := true }
def LogNilUptoSaid : Prop := logNilUptoRow.holds Tryz.pinned (OpenSpec.upto logNilSpec)

/-- 'carracklaw14.LogPlays', WHERE WHAT IT READS IS OF BULK AT MOST 1048576: true; the input reads as it did. -/
def logPlaysUptoRow : OpenClaim := { program := "ytnjiiijdgijahaagreat", sum := "cdb43648d42a7ebd3ffa31bd08e777d0efc347b54e27db7e364a12dde83ab4bf", func := "carrack/carracklaw14.LogPlays", spec := "logPlays", inPlace := ["slices.overlaps[carrack/api.Fact]"], unfollowed := true, recurses := true, apart := false, narrowed := true }
def LogPlaysUptoSaid : Prop := logPlaysUptoRow.holds Tryz.pinned (OpenSpec.upto logPlaysSpec)

end Rows
end Go.Proofs.YtnjiiijdgijahaaGreat
