/-
  NARROWER THAN 'FOR EVERY INPUT', by the rows' own cells (each row's printed sentence says how): StemMakes: laid · StemRests: laid · StemPlays: laid · StemNil: laid · StemFails: laid · StemCuts: laid.
  DERIVED. THE GIVEN ROWS OF THIS SEAT. 6 by the template 'for every input the law returns true; each argument reads behind the call as it read before'; 0 by the template 'total and deterministic' (their statements: YtmjlhddkhkgpfaaGreatDoorTotals.lean).
  GIVEN WITH THE SEED: the statements are not yours to turn. If you find one false, say at which input.
  Laid BY PROGRAM, IN A SANDBOX (cutbox-rows.mjs): the forced cells as the released guide's own fill.sh prints them over the translation 0021646720fc6920… (all of the seat's roots in one cut). By AI agents, Wed Nov 11 2026. No macro, syntax, notation, axiom, sorry.
-/
import Derived.Test.YtmjlhddkhkgpfaaGreatDoorChecked
import GoSem.Claim
import GoSem.ClaimJoined
import GoSem.ClaimMapViews
import Derived.JoinedTies
import Derived.KernelRfl
namespace Go.Proofs.YtmjlhddkhkgpfaaGreatDoor
/- THE CELL 'sum', in the pinned program and in every row, IS THE sha256 OF THE DUMP (.gsa) THAT YtmjlhddkhkgpfaaGreatDoorProg.lean LOADS. Nothing in Lean hashes anything: it is a label: what it is worth is what the hold of that sum in a sandbox is worth. -/
noncomputable def Tryz.pinned : Pinned := { name := "ytmjlhddkhkgpfaagreatdoor", sum := "0021646720fc6920d51193c1c94ae705fc4eda55b064d86a757ff73bfa3c825d", checked := Tryz.checked }
namespace Rows
def none {H : Type} : Left H := { results := [], args := [] }

/- WHAT THE LISTED PACKAGE-LEVEL VARIABLES READ AS WHEN THE CALL BEGINS. Each datum BY PROGRAM (the guide's laid-datum.mjs) off the statement by which the dump's own 'gosem.cut.vars' lays the variable. In a bare row this is a premise. The card (YtmjlhddkhkgpfaaGreatDoorCards.lean) ties it to the program's text. -/
def laid_carrack_room_bounds {H : Type} : DataW H := .agg [.agg [.lit (.int .i64 8), .lit (.int .i64 64)], .agg [.lit (.int .i64 4), .lit (.int .i64 32)], .agg [.lit (.int .i64 128), .lit (.int .i64 256)], .agg [.lit (.int .i64 0), .lit (.int .i64 4)]]

/-- 'carracklaw19.StemMakes': WHATEVER THE INPUT: true; the input reads as it did. -/
def stemMakesSpec : ChangeSpec := { name := "stemMakes", fn := fun _ => fun
  | [d1, d2, d3] => { results := [.lit (.bool true)], args := [d1, d2, d3] }
  | _ => none }
def stemMakesRow : OpenClaim := { program := "ytmjlhddkhkgpfaagreatdoor", sum := "0021646720fc6920d51193c1c94ae705fc4eda55b064d86a757ff73bfa3c825d", func := "carrack/carracklaw19.StemMakes", spec := "stemMakes", inPlace := ["slices.overlaps[carrack/api.Fact]"], unfollowed := true, recurses := true, named := ["carrack/room.bounds"], plainKeys := false, apart := false, laid := [("carrack/room.bounds", laid_carrack_room_bounds)] }
def StemMakesSaid : Prop := stemMakesRow.holds Tryz.pinned (OpenSpec.ofChange stemMakesSpec)

/-- ITS FALSE NEIGHBOUR: 'it returns false'. Refute it at one input. -/
def stemMakesWrong : ChangeSpec := { name := "stemMakes", fn := fun _ => fun
  | [d1, d2, d3] => { results := [.lit (.bool false)], args := [d1, d2, d3] }
  | _ => none }
def StemMakesWrongFalsely : Prop := stemMakesRow.holds Tryz.pinned (OpenSpec.ofChange stemMakesWrong)

/-- 'carracklaw19.StemRests': WHATEVER THE INPUT: true; the input reads as it did. -/
def stemRestsSpec : ChangeSpec := { name := "stemRests", fn := fun _ => fun
  | [d] => { results := [.lit (.bool true)], args := [d] }
  | _ => none }
def stemRestsRow : OpenClaim := { program := "ytmjlhddkhkgpfaagreatdoor", sum := "0021646720fc6920d51193c1c94ae705fc4eda55b064d86a757ff73bfa3c825d", func := "carrack/carracklaw19.StemRests", spec := "stemRests", inPlace := ["slices.overlaps[carrack/api.Fact]"], unfollowed := true, recurses := true, named := ["carrack/room.bounds"], plainKeys := false, apart := false, laid := [("carrack/room.bounds", laid_carrack_room_bounds)] }
def StemRestsSaid : Prop := stemRestsRow.holds Tryz.pinned (OpenSpec.ofChange stemRestsSpec)

/-- ITS FALSE NEIGHBOUR: 'it returns false'. Refute it at one input. -/
def stemRestsWrong : ChangeSpec := { name := "stemRests", fn := fun _ => fun
  | [d] => { results := [.lit (.bool false)], args := [d] }
  | _ => none }
def StemRestsWrongFalsely : Prop := stemRestsRow.holds Tryz.pinned (OpenSpec.ofChange stemRestsWrong)

/-- 'carracklaw19.StemPlays': WHATEVER THE INPUT: true; the input reads as it did. -/
def stemPlaysSpec : ChangeSpec := { name := "stemPlays", fn := fun _ => fun
  | [d1, d2] => { results := [.lit (.bool true)], args := [d1, d2] }
  | _ => none }
def stemPlaysRow : OpenClaim := { program := "ytmjlhddkhkgpfaagreatdoor", sum := "0021646720fc6920d51193c1c94ae705fc4eda55b064d86a757ff73bfa3c825d", func := "carrack/carracklaw19.StemPlays", spec := "stemPlays", inPlace := ["slices.overlaps[carrack/api.Fact]"], unfollowed := true, recurses := true, named := ["carrack/room.bounds"], plainKeys := false, apart := false, laid := [("carrack/room.bounds", laid_carrack_room_bounds)] }
def StemPlaysSaid : Prop := stemPlaysRow.holds Tryz.pinned (OpenSpec.ofChange stemPlaysSpec)

/-- ITS FALSE NEIGHBOUR: 'it returns false'. Refute it at one input. -/
def stemPlaysWrong : ChangeSpec := { name := "stemPlays", fn := fun _ => fun
  | [d1, d2] => { results := [.lit (.bool false)], args := [d1, d2] }
  | _ => none }
def StemPlaysWrongFalsely : Prop := stemPlaysRow.holds Tryz.pinned (OpenSpec.ofChange stemPlaysWrong)

/-- 'carracklaw19.StemNil': WHATEVER THE INPUT: true; the input reads as it did. -/
def stemNilSpec : ChangeSpec := { name := "stemNil", fn := fun _ => fun
  | [d1, d2] => { results := [.lit (.bool true)], args := [d1, d2] }
  | _ => none }
def stemNilRow : OpenClaim := { program := "ytmjlhddkhkgpfaagreatdoor", sum := "0021646720fc6920d51193c1c94ae705fc4eda55b064d86a757ff73bfa3c825d", func := "carrack/carracklaw19.StemNil", spec := "stemNil", inPlace := ["slices.overlaps[carrack/api.Fact]"], unfollowed := true, recurses := true, named := ["carrack/room.bounds"], plainKeys := false, apart := false, laid := [("carrack/room.bounds", laid_carrack_room_bounds)] }
def StemNilSaid : Prop := stemNilRow.holds Tryz.pinned (OpenSpec.ofChange stemNilSpec)

/-- ITS FALSE NEIGHBOUR: 'it returns false'. Refute it at one input. -/
def stemNilWrong : ChangeSpec := { name := "stemNil", fn := fun _ => fun
  | [d1, d2] => { results := [.lit (.bool false)], args := [d1, d2] }
  | _ => none }
def StemNilWrongFalsely : Prop := stemNilRow.holds Tryz.pinned (OpenSpec.ofChange stemNilWrong)

/-- 'carracklaw19.StemFails': WHATEVER THE INPUT: true; the input reads as it did. -/
def stemFailsSpec : ChangeSpec := { name := "stemFails", fn := fun _ => fun
  | [d1, d2] => { results := [.lit (.bool true)], args := [d1, d2] }
  | _ => none }
def stemFailsRow : OpenClaim := { program := "ytmjlhddkhkgpfaagreatdoor", sum := "0021646720fc6920d51193c1c94ae705fc4eda55b064d86a757ff73bfa3c825d", func := "carrack/carracklaw19.StemFails", spec := "stemFails", inPlace := ["slices.overlaps[carrack/api.Fact]"], unfollowed := true, recurses := true, named := ["carrack/room.bounds"], plainKeys := false, apart := false, laid := [("carrack/room.bounds", laid_carrack_room_bounds)] }
def StemFailsSaid : Prop := stemFailsRow.holds Tryz.pinned (OpenSpec.ofChange stemFailsSpec)

/-- ITS FALSE NEIGHBOUR: 'it returns false'. Refute it at one input. -/
def stemFailsWrong : ChangeSpec := { name := "stemFails", fn := fun _ => fun
  | [d1, d2] => { results := [.lit (.bool false)], args := [d1, d2] }
  | _ => none }
def StemFailsWrongFalsely : Prop := stemFailsRow.holds Tryz.pinned (OpenSpec.ofChange stemFailsWrong)

/-- 'carracklaw19.StemCuts': WHATEVER THE INPUT: true; the input reads as it did. -/
def stemCutsSpec : ChangeSpec := { name := "stemCuts", fn := fun _ => fun
  | [d1, d2, d3] => { results := [.lit (.bool true)], args := [d1, d2, d3] }
  | _ => none }
def stemCutsRow : OpenClaim := { program := "ytmjlhddkhkgpfaagreatdoor", sum := "0021646720fc6920d51193c1c94ae705fc4eda55b064d86a757ff73bfa3c825d", func := "carrack/carracklaw19.StemCuts", spec := "stemCuts", inPlace := ["slices.overlaps[carrack/api.Fact]"], unfollowed := true, recurses := true, named := ["carrack/room.bounds"], plainKeys := false, apart := false, laid := [("carrack/room.bounds", laid_carrack_room_bounds)] }
def StemCutsSaid : Prop := stemCutsRow.holds Tryz.pinned (OpenSpec.ofChange stemCutsSpec)

/-- ITS FALSE NEIGHBOUR: 'it returns false'. Refute it at one input. -/
def stemCutsWrong : ChangeSpec := { name := "stemCuts", fn := fun _ => fun
  | [d1, d2, d3] => { results := [.lit (.bool false)], args := [d1, d2, d3] }
  | _ => none }
def StemCutsWrongFalsely : Prop := stemCutsRow.holds Tryz.pinned (OpenSpec.ofChange stemCutsWrong)

/- THE SECOND FORM. 'bulk': how many values and letters a reading holds, each counted each time it is reached (what is shared counts as often as it is met; a slice's spare places count too). A statement '..UptoSaid' is the law's where the arguments, and the package variables that the reading takes, are together of bulk at most 1048576: NARROWER than '..Said'. Prove '..Said' where nothing that the law and all that it calls make is longer than what came in: it says more and counts as full. Else prove '..UptoSaid'. A law counts once. -/
mutual
def uptoBulk {H : Type} : DataW H → Nat
  | .lit (.string bytes) => bytes.length + 1
  | .lit _ => 1
  | .nil => 1
  | .ptr d => uptoBulk d + 1
  | .slice elems spare => uptoBulkAll elems + uptoBulkAll spare + 1
  | .agg parts => uptoBulkAll parts + 1
  | .iface _ d => uptoBulk d + 1
  | .map entries => uptoBulkEntries entries + 1
  | .held _ => 1
def uptoBulkAll {H : Type} : List (DataW H) → Nat
  | [] => 0
  | d :: r => uptoBulk d + uptoBulkAll r
def uptoBulkEntries {H : Type} : List (Lit × DataW H) → Nat
  | [] => 0
  | x :: r => uptoBulkEntry x + uptoBulkEntries r
def uptoBulkEntry {H : Type} : Lit × DataW H → Nat
  | (.string bytes, d) => bytes.length + uptoBulk d + 1
  | (_, d) => uptoBulk d + 1
 end
def uptoSmall : (H : Type) → List (DataW H) → Bool := fun _ ds => decide (uptoBulkAll ds ≤ 1048576)
def OpenSpec.upto (s : _root_.Go.ChangeSpec) : _root_.Go.OpenSpec := { _root_.Go.OpenSpec.ofChange s with cond := some uptoSmall }

/-- 'carracklaw19.StemMakes', WHERE WHAT IT READS IS OF BULK AT MOST 1048576: true; the input reads as it did. -/
def stemMakesUptoRow : OpenClaim := { program := "ytmjlhddkhkgpfaagreatdoor", sum := "0021646720fc6920d51193c1c94ae705fc4eda55b064d86a757ff73bfa3c825d", func := "carrack/carracklaw19.StemMakes", spec := "stemMakes", inPlace := ["slices.overlaps[carrack/api.Fact]"], unfollowed := true, recurses := true, named := ["carrack/room.bounds"], plainKeys := false, apart := false, laid := [("carrack/room.bounds", laid_carrack_room_bounds)], narrowed := true }
def StemMakesUptoSaid : Prop := stemMakesUptoRow.holds Tryz.pinned (OpenSpec.upto stemMakesSpec)

/-- 'carracklaw19.StemRests', WHERE WHAT IT READS IS OF BULK AT MOST 1048576: true; the input reads as it did. -/
def stemRestsUptoRow : OpenClaim := { program := "ytmjlhddkhkgpfaagreatdoor", sum := "0021646720fc6920d51193c1c94ae705fc4eda55b064d86a757ff73bfa3c825d", func := "carrack/carracklaw19.StemRests", spec := "stemRests", inPlace := ["slices.overlaps[carrack/api.Fact]"], unfollowed := true, recurses := true, named := ["carrack/room.bounds"], plainKeys := false, apart := false, laid := [("carrack/room.bounds", laid_carrack_room_bounds)], narrowed := true }
def StemRestsUptoSaid : Prop := stemRestsUptoRow.holds Tryz.pinned (OpenSpec.upto stemRestsSpec)

/-- 'carracklaw19.StemPlays', WHERE WHAT IT READS IS OF BULK AT MOST 1048576: true; the input reads as it did. -/
def stemPlaysUptoRow : OpenClaim := { program := "ytmjlhddkhkgpfaagreatdoor", sum := "0021646720fc6920d51193c1c94ae705fc4eda55b064d86a757ff73bfa3c825d", func := "carrack/carracklaw19.StemPlays", spec := "stemPlays", inPlace := ["slices.overlaps[carrack/api.Fact]"], unfollowed := true, recurses := true, named := ["carrack/room.bounds"], plainKeys := false, apart := false, laid := [("carrack/room.bounds", laid_carrack_room_bounds)], narrowed := true }
def StemPlaysUptoSaid : Prop := stemPlaysUptoRow.holds Tryz.pinned (OpenSpec.upto stemPlaysSpec)

/-- 'carracklaw19.StemNil', WHERE WHAT IT READS IS OF BULK AT MOST 1048576: true; the input reads as it did. -/
def stemNilUptoRow : OpenClaim := { program := "ytmjlhddkhkgpfaagreatdoor", sum := "0021646720fc6920d51193c1c94ae705fc4eda55b064d86a757ff73bfa3c825d", func := "carrack/carracklaw19.StemNil", spec := "stemNil", inPlace := ["slices.overlaps[carrack/api.Fact]"], unfollowed := true, recurses := true, named := ["carrack/room.bounds"], plainKeys := false, apart := false, laid := [("carrack/room.bounds", laid_carrack_room_bounds)], narrowed := true }
def StemNilUptoSaid : Prop := stemNilUptoRow.holds Tryz.pinned (OpenSpec.upto stemNilSpec)

/-- 'carracklaw19.StemFails', WHERE WHAT IT READS IS OF BULK AT MOST 1048576: true; the input reads as it did. -/
def stemFailsUptoRow : OpenClaim := { program := "ytmjlhddkhkgpfaagreatdoor", sum := "0021646720fc6920d51193c1c94ae705fc4eda55b064d86a757ff73bfa3c825d", func := "carrack/carracklaw19.StemFails", spec := "stemFails", inPlace := ["slices.overlaps[carrack/api.Fact]"], unfollowed := true, recurses := true, named := ["carrack/room.bounds"], plainKeys := false, apart := false, laid := [("carrack/room.bounds", laid_carrack_room_bounds)], narrowed := true }
def StemFailsUptoSaid : Prop := stemFailsUptoRow.holds Tryz.pinned (OpenSpec.upto stemFailsSpec)

/-- 'carracklaw19.StemCuts', WHERE WHAT IT READS IS OF BULK AT MOST 1048576: true; the input reads as it did. -/
def stemCutsUptoRow : OpenClaim := { program := "ytmjlhddkhkgpfaagreatdoor", sum := "0021646720fc6920d51193c1c94ae705fc4eda55b064d86a757ff73bfa3c825d", func := "carrack/carracklaw19.StemCuts", spec := "stemCuts", inPlace := ["slices.overlaps[carrack/api.Fact]"], unfollowed := true, recurses := true, named := ["carrack/room.bounds"], plainKeys := false, apart := false, laid := [("carrack/room.bounds", laid_carrack_room_bounds)], narrowed := true }
def StemCutsUptoSaid : Prop := stemCutsUptoRow.holds Tryz.pinned (OpenSpec.upto stemCutsSpec)

end Rows
end Go.Proofs.YtmjlhddkhkgpfaaGreatDoor
