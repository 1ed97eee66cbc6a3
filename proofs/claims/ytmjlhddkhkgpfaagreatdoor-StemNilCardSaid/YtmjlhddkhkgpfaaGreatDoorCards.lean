/-
  DERIVED. GIVEN WITH THE SEED: THE CARDS: each row of YtmjlhddkhkgpfaaGreatDoorRows.lean that lists a variable, with what it lists TIED to the program's text (the seventh form; the later family's looks); each row that meets fmt, with fmt's text TOLD by the authors' own Lean function (tested against real Go, not proved from fmt's source: count such statements apart). THE CARD IS WHAT COUNTS. Prove the row's statement (the work); the ties are given (YtmjlhddkhkgpfaaGreatDoorTie.lean); close each card by the builder's one call (the guide's Derived/Test/ToyasCard.lean, 'card_holds'). Laid BY PROGRAM, IN A SANDBOX (cutbox-door.mjs). By AI agents, Wed Nov 11 2026. No macro, syntax, notation, axiom, sorry.
-/
import Derived.Test.YtmjlhddkhkgpfaaGreatDoorRows
import GoSem.ClaimSeven
namespace Go.Proofs.YtmjlhddkhkgpfaaGreatDoor
namespace Rows

/-- THE TIED CARD OF 'carracklaw19.StemMakes'. -/
def stemMakesCard : Claim7 := { stood := { row := stemMakesRow, standIns := [], harness := (true, "fe73a7c50dc8ee759e43c673dd2e391e02dae7e760ee9004bf9e73ae75b4529e"), looks := true }, kinds := [], alts := [], laidByText := true, laidKinds := [.data], laidTests := true, laidLooks := .later }
def StemMakesCardSaid : Prop := Claim7.holds Tryz.pinned (.plain (OpenSpec.ofChange stemMakesSpec)) stemMakesCard

/-- THE TIED CARD OF 'carracklaw19.StemRests'. -/
def stemRestsCard : Claim7 := { stood := { row := stemRestsRow, standIns := [], harness := (true, "fe73a7c50dc8ee759e43c673dd2e391e02dae7e760ee9004bf9e73ae75b4529e"), looks := true }, kinds := [], alts := [], laidByText := true, laidKinds := [.data], laidTests := true, laidLooks := .later }
def StemRestsCardSaid : Prop := Claim7.holds Tryz.pinned (.plain (OpenSpec.ofChange stemRestsSpec)) stemRestsCard

/-- THE TIED CARD OF 'carracklaw19.StemPlays'. -/
def stemPlaysCard : Claim7 := { stood := { row := stemPlaysRow, standIns := [], harness := (true, "fe73a7c50dc8ee759e43c673dd2e391e02dae7e760ee9004bf9e73ae75b4529e"), looks := true }, kinds := [], alts := [], laidByText := true, laidKinds := [.data], laidTests := true, laidLooks := .later }
def StemPlaysCardSaid : Prop := Claim7.holds Tryz.pinned (.plain (OpenSpec.ofChange stemPlaysSpec)) stemPlaysCard

/-- THE TIED CARD OF 'carracklaw19.StemNil'. -/
def stemNilCard : Claim7 := { stood := { row := stemNilRow, standIns := [], harness := (true, "fe73a7c50dc8ee759e43c673dd2e391e02dae7e760ee9004bf9e73ae75b4529e"), looks := true }, kinds := [], alts := [], laidByText := true, laidKinds := [.data], laidTests := true, laidLooks := .later }
def StemNilCardSaid : Prop := Claim7.holds Tryz.pinned (.plain (OpenSpec.ofChange stemNilSpec)) stemNilCard

/-- THE TIED CARD OF 'carracklaw19.StemFails'. -/
def stemFailsCard : Claim7 := { stood := { row := stemFailsRow, standIns := [], harness := (true, "fe73a7c50dc8ee759e43c673dd2e391e02dae7e760ee9004bf9e73ae75b4529e"), looks := true }, kinds := [], alts := [], laidByText := true, laidKinds := [.data], laidTests := true, laidLooks := .later }
def StemFailsCardSaid : Prop := Claim7.holds Tryz.pinned (.plain (OpenSpec.ofChange stemFailsSpec)) stemFailsCard

/-- THE TIED CARD OF 'carracklaw19.StemCuts'. -/
def stemCutsCard : Claim7 := { stood := { row := stemCutsRow, standIns := [], harness := (true, "fe73a7c50dc8ee759e43c673dd2e391e02dae7e760ee9004bf9e73ae75b4529e"), looks := true }, kinds := [], alts := [], laidByText := true, laidKinds := [.data], laidTests := true, laidLooks := .later }
def StemCutsCardSaid : Prop := Claim7.holds Tryz.pinned (.plain (OpenSpec.ofChange stemCutsSpec)) stemCutsCard

/-- THE SECOND FORM's CARD OF 'carracklaw19.StemMakes'. -/
def stemMakesUptoCard : Claim7 := { stood := { row := stemMakesUptoRow, standIns := [], harness := (true, "fe73a7c50dc8ee759e43c673dd2e391e02dae7e760ee9004bf9e73ae75b4529e"), looks := true }, kinds := [], alts := [], laidByText := true, laidKinds := [.data], laidTests := true, laidLooks := .later }
def StemMakesUptoCardSaid : Prop := Claim7.holds Tryz.pinned (.plain (OpenSpec.upto stemMakesSpec)) stemMakesUptoCard

/-- THE SECOND FORM's CARD OF 'carracklaw19.StemRests'. -/
def stemRestsUptoCard : Claim7 := { stood := { row := stemRestsUptoRow, standIns := [], harness := (true, "fe73a7c50dc8ee759e43c673dd2e391e02dae7e760ee9004bf9e73ae75b4529e"), looks := true }, kinds := [], alts := [], laidByText := true, laidKinds := [.data], laidTests := true, laidLooks := .later }
def StemRestsUptoCardSaid : Prop := Claim7.holds Tryz.pinned (.plain (OpenSpec.upto stemRestsSpec)) stemRestsUptoCard

/-- THE SECOND FORM's CARD OF 'carracklaw19.StemPlays'. -/
def stemPlaysUptoCard : Claim7 := { stood := { row := stemPlaysUptoRow, standIns := [], harness := (true, "fe73a7c50dc8ee759e43c673dd2e391e02dae7e760ee9004bf9e73ae75b4529e"), looks := true }, kinds := [], alts := [], laidByText := true, laidKinds := [.data], laidTests := true, laidLooks := .later }
def StemPlaysUptoCardSaid : Prop := Claim7.holds Tryz.pinned (.plain (OpenSpec.upto stemPlaysSpec)) stemPlaysUptoCard

/-- THE SECOND FORM's CARD OF 'carracklaw19.StemNil'. -/
def stemNilUptoCard : Claim7 := { stood := { row := stemNilUptoRow, standIns := [], harness := (true, "fe73a7c50dc8ee759e43c673dd2e391e02dae7e760ee9004bf9e73ae75b4529e"), looks := true }, kinds := [], alts := [], laidByText := true, laidKinds := [.data], laidTests := true, laidLooks := .later }
def StemNilUptoCardSaid : Prop := Claim7.holds Tryz.pinned (.plain (OpenSpec.upto stemNilSpec)) stemNilUptoCard

/-- THE SECOND FORM's CARD OF 'carracklaw19.StemFails'. -/
def stemFailsUptoCard : Claim7 := { stood := { row := stemFailsUptoRow, standIns := [], harness := (true, "fe73a7c50dc8ee759e43c673dd2e391e02dae7e760ee9004bf9e73ae75b4529e"), looks := true }, kinds := [], alts := [], laidByText := true, laidKinds := [.data], laidTests := true, laidLooks := .later }
def StemFailsUptoCardSaid : Prop := Claim7.holds Tryz.pinned (.plain (OpenSpec.upto stemFailsSpec)) stemFailsUptoCard

/-- THE SECOND FORM's CARD OF 'carracklaw19.StemCuts'. -/
def stemCutsUptoCard : Claim7 := { stood := { row := stemCutsUptoRow, standIns := [], harness := (true, "fe73a7c50dc8ee759e43c673dd2e391e02dae7e760ee9004bf9e73ae75b4529e"), looks := true }, kinds := [], alts := [], laidByText := true, laidKinds := [.data], laidTests := true, laidLooks := .later }
def StemCutsUptoCardSaid : Prop := Claim7.holds Tryz.pinned (.plain (OpenSpec.upto stemCutsSpec)) stemCutsUptoCard
end Rows
end Go.Proofs.YtmjlhddkhkgpfaaGreatDoor
