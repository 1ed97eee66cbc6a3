/- Plain laws of layer 4: what works tells. -/
import Derived.Test.YtljaocdmeoheaaaSRef4
set_option linter.unusedVariables false
set_option maxRecDepth 100000
namespace Go.Den

def newChip (nb np sz sp : Nat) : Chip := ⟨nb, np, sz, sp, List.replicate nb (List.replicate (np * sz) 255), List.replicate nb false, [], 0, false, 0⟩
def wT1 : TakeR := takePool (scanPool (newChip 8 4 128 0)) (newChip 8 4 128 0) 1 1
def wT2 : TakeR := takePool wT1.pool wT1.chip 2 1
def wF1 : Pool × Chip × Nat := freePool wT2.pool wT2.chip 0
def wF2 : Pool × Chip × Nat := freePool wF1.1 wF1.2.1 0
def wL : List Taken := takenPool wF2.1 wF2.2.1
def wT3 : TakeR := takePool wF2.1 wF2.2.1 1 1
def worksM : Bool := (newChip 8 4 128 0).dead == false && blanksPool (scanPool (newChip 8 4 128 0)) (newChip 8 4 128 0) == 8 && wT1.block == 0 && wT1.err == 0 && wT2.block == 1 && wT2.err == 0 && wF1.2.2 == 0 && wF2.2.2 == 12 && decide (wL = [⟨1, ⟨2, 1, 2⟩, false⟩]) && wT3.block == 2 && wT3.err == 0
theorem worksM_true : worksM = true := by decide +kernel
end Go.Den
