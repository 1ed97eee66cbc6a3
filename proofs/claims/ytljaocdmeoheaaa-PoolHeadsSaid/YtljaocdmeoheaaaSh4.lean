/- PRINTED by den.py: what the bodies of the Go functions come to. -/
import Derived.Test.YtljaocdmeoheaaaNum
set_option linter.unusedVariables false
set_option maxRecDepth 100000
namespace Go.Den
open Go.Proofs

/-- slices.swapRangeCmpFunc[carrack/api.Taken] -/
def slices_swapRangeCmpFunc_api_Taken.body (data : Option Addr) (dataL dataC : Nat) (a : Int) (b : Int) (n : Int) (cmp : Value) (w : World) (R : Value → World → Prop) : Prop :=
  ∃ (J1 : Int → World → Prop) (μ1 : Int → World → Nat), J1 0 w ∧ ∀ x1 : Int, ∀ w1 : World, J1 x1 w1 → br (decide (x1 < n)) (∀ w2 : World, Drew w1 w2 → ∃ S1 : World → Prop, S1 w2 ∧ idxP data dataL (IntKind.i64.wrap (b + x1)) 5 fun q1 => ∃ x2 : Int, ∃ x3 : Int, ∃ x4 : Int, ∃ x5 : Int, ∃ b1 : Bool, (∀ u1, S1 u1 → cellsAt u1 q1 [Value.int .i64 x2, Value.int .u8 x3, Value.int .u32 x4, Value.int .u64 x5, Value.bool b1] 0) ∧ idxP data dataL (IntKind.i64.wrap (a + x1)) 5 fun q2 => ∃ x6 : Int, ∃ x7 : Int, ∃ x8 : Int, ∃ x9 : Int, ∃ b2 : Bool, (∀ u2, S1 u2 → cellsAt u2 q2 [Value.int .i64 x6, Value.int .u8 x7, Value.int .u32 x8, Value.int .u64 x9, Value.bool b2] 0) ∧ idxP data dataL (IntKind.i64.wrap (a + x1)) 5 fun q3 => storeP w2 q3 [Value.int .i64 x2, Value.int .u8 x3, Value.int .u32 x4, Value.int .u64 x5, Value.bool b1] fun w3 => idxP data dataL (IntKind.i64.wrap (b + x1)) 5 fun q4 => storeP w3 q4 [Value.int .i64 x6, Value.int .u8 x7, Value.int .u32 x8, Value.int .u64 x9, Value.bool b2] fun w4 => J1 (IntKind.i64.wrap (x1 + 1)) w4 ∧ μ1 (IntKind.i64.wrap (x1 + 1)) w4 < μ1 x1 w1) (R (Value.tuple #[]) w1)
theorem slices_swapRangeCmpFunc_api_Taken.sh {data : Option Addr} {dataL dataC : Nat} {a : Int} {b : Int} {n : Int} {cmp : Value} {w : World} {R : Value → World → Prop} (h : slices_swapRangeCmpFunc_api_Taken.body data dataL dataC a b n cmp w R) :
    CallsR prog K.slices_swapRangeCmpFunc_api_Taken #[Value.slice data dataL dataC, Value.int .i64 a, Value.int .i64 b, Value.int .i64 n, cmp] w R :=
  calls_body follows (f := K.slices_swapRangeCmpFunc_api_Taken) Try.func90 ([]) ([(1, [0, 1, 2, 3], [10], [Value.int .i64 0])])
    (Eq.mp (by kernel_rfl : slices_swapRangeCmpFunc_api_Taken.body data dataL dataC a b n cmp w R = bodyOf prog Try.f90 ([]) ([(1, [0, 1, 2, 3], [10], [Value.int .i64 0])]) [Value.slice data dataL dataC, Value.int .i64 a, Value.int .i64 b, Value.int .i64 n, cmp] w R) h)

end Go.Den
