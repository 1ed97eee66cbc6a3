/- Words for contracts: slices of the call's own, that are appended to, copied into, cut. (Merged by program: Sh1 Sh2 Sh3 Sh4 Rep SEnds SEnds2 Rep2.) -/
import Derived.Test.YthdkbladjfabfaaQ1
section
set_option linter.unusedVariables false
set_option maxRecDepth 100000
namespace Go.Den
open Go.Proofs
def carracklaw22_played.body (y0a : Option Addr) (y0aL y0aC : Nat) (y1a : Option Addr) (y1aL y1aC : Nat) (w : World) (R : Value → World → Prop) : Prop :=
  CallsR prog K.nand_New #[Value.agg #[Value.int .i64 16, Value.int .i64 4, Value.int .i64 128, Value.int .i64 2]] w fun v1 w1 => ∃ p1 : Option Addr, ∃ x1 : Int, v1 = Value.tuple #[Value.pointer p1, Value.int .i64 x1] ∧ br (x1 != 0) (R (Value.tuple #[Value.pointer none, Value.bool false]) w1) (∃ J1 : World → Prop, (br (decide (((y0aL : Nat) : Int) < 20)) (CallsR prog K.nand_Chip_Hits #[Value.pointer p1, Value.slice y0a y0aL y0aC] w1 fun v2 w2 => ∃ x2 : Int, v2 = Value.int .i64 x2 ∧ J1 w2) (J1 w1)) ∧ (∀ w3 : World, J1 w3 → ∃ (J2 : Option Addr → Int → World → Prop) (μ1 : Option Addr → Int → World → Nat), J2 p1 0 w3 ∧ ∀ p2 : Option Addr, ∀ x3 : Int, ∀ w4 : World, J2 p2 x3 w4 → br (decide (x3 < ((y1aL : Nat) : Int))) (br (decide (x3 < 12)) (CallsR prog K.nand_Chip_Read #[Value.pointer p2, Value.int .i64 0, Value.int .i64 0] w4 fun v3 w5 => ∃ (a1 : Option Addr) (l1 c1 : Nat), ∃ x4 : Int, v3 = Value.tuple #[Value.slice a1 l1 c1, Value.int .i64 x4] ∧ br (x4 != 0) (CallsR prog K.nand_Chip_Power #[Value.pointer p2] w5 fun v4 w6 => ∃ p3 : Option Addr, ∃ x5 : Int, v4 = Value.tuple #[Value.pointer p3, Value.int .i64 x5] ∧ CallsR prog K.pool_Scan #[Value.pointer p3] w6 fun v5 w7 => ∃ p4 : Option Addr, ∃ x6 : Int, v5 = Value.tuple #[Value.pointer p4, Value.int .i64 x6] ∧ br (x6 != 0) (R (Value.tuple #[Value.pointer p3, Value.bool false]) w7) (idxP y1a y1aL x3 6 fun q1 => ∃ x7 : Int, World.cell? w7 q1 = some (Value.int .i64 x7) ∧ br (x7 == 1) (∀ w8 : World, Drew w7 w8 → ∃ S1 : World → Prop, S1 w8 ∧ idxP y1a y1aL x3 6 fun q2 => ∃ x8 : Int, (∀ u1, S1 u1 → World.cell? u1 (Addr.add q2 1) = some (Value.int .u8 x8)) ∧ idxP y1a y1aL x3 6 fun q3 => ∃ x9 : Int, ∃ x10 : Int, ∃ x11 : Int, (∀ u2, S1 u2 → cellsAt u2 (Addr.add q3 2) [Value.int .u8 x9, Value.int .u8 x10, Value.int .u8 x11] 0) ∧ CallsR prog K.jour_Write #[Value.pointer p4, Value.int .u32 (IntKind.u32.wrap x8), Value.agg #[Value.int .u8 x9, Value.int .u8 x10, Value.int .u8 x11]] w8 fun v6 w9 => ∃ x12 : Int, v6 = Value.int .i64 x12 ∧ S1 w9 ∧ J2 p3 (IntKind.i64.wrap (x3 + 1)) w9 ∧ μ1 p3 (IntKind.i64.wrap (x3 + 1)) w9 < μ1 p2 x3 w4) (br (x7 == 2) (CallsR prog K.jour_Away #[Value.pointer p4] w7 fun v7 w10 => ∃ x13 : Int, v7 = Value.int .i64 x13 ∧ J2 p3 (IntKind.i64.wrap (x3 + 1)) w10 ∧ μ1 p3 (IntKind.i64.wrap (x3 + 1)) w10 < μ1 p2 x3 w4) (br (x7 == 3) (∀ w11 : World, Drew w7 w11 → ∃ S2 : World → Prop, S2 w11 ∧ idxP y1a y1aL x3 6 fun q4 => ∃ x14 : Int, (∀ u3, S2 u3 → World.cell? u3 (Addr.add q4 5) = some (Value.int .u8 x14)) ∧ idxP y1a y1aL x3 6 fun q5 => ∃ x15 : Int, (∀ u4, S2 u4 → World.cell? u4 (Addr.add q5 1) = some (Value.int .u8 x15)) ∧ CallsR prog K.pool_Pool_Take #[Value.pointer p4, Value.int .u8 x14, Value.int .u32 (IntKind.u32.wrap x15)] w11 fun v8 w12 => ∃ x16 : Int, ∃ x17 : Int, v8 = Value.tuple #[Value.int .i64 x16, Value.int .i64 x17] ∧ S2 w12 ∧ J2 p3 (IntKind.i64.wrap (x3 + 1)) w12 ∧ μ1 p3 (IntKind.i64.wrap (x3 + 1)) w12 < μ1 p2 x3 w4) (J2 p3 (IntKind.i64.wrap (x3 + 1)) w7 ∧ μ1 p3 (IntKind.i64.wrap (x3 + 1)) w7 < μ1 p2 x3 w4))))) (CallsR prog K.pool_Scan #[Value.pointer p2] w5 fun v9 w13 => ∃ p5 : Option Addr, ∃ x18 : Int, v9 = Value.tuple #[Value.pointer p5, Value.int .i64 x18] ∧ br (x18 != 0) (R (Value.tuple #[Value.pointer p2, Value.bool false]) w13) (idxP y1a y1aL x3 6 fun q6 => ∃ x19 : Int, World.cell? w13 q6 = some (Value.int .i64 x19) ∧ br (x19 == 1) (∀ w14 : World, Drew w13 w14 → ∃ S3 : World → Prop, S3 w14 ∧ idxP y1a y1aL x3 6 fun q7 => ∃ x20 : Int, (∀ u5, S3 u5 → World.cell? u5 (Addr.add q7 1) = some (Value.int .u8 x20)) ∧ idxP y1a y1aL x3 6 fun q8 => ∃ x21 : Int, ∃ x22 : Int, ∃ x23 : Int, (∀ u6, S3 u6 → cellsAt u6 (Addr.add q8 2) [Value.int .u8 x21, Value.int .u8 x22, Value.int .u8 x23] 0) ∧ CallsR prog K.jour_Write #[Value.pointer p5, Value.int .u32 (IntKind.u32.wrap x20), Value.agg #[Value.int .u8 x21, Value.int .u8 x22, Value.int .u8 x23]] w14 fun v10 w15 => ∃ x24 : Int, v10 = Value.int .i64 x24 ∧ S3 w15 ∧ J2 p2 (IntKind.i64.wrap (x3 + 1)) w15 ∧ μ1 p2 (IntKind.i64.wrap (x3 + 1)) w15 < μ1 p2 x3 w4) (br (x19 == 2) (CallsR prog K.jour_Away #[Value.pointer p5] w13 fun v11 w16 => ∃ x25 : Int, v11 = Value.int .i64 x25 ∧ J2 p2 (IntKind.i64.wrap (x3 + 1)) w16 ∧ μ1 p2 (IntKind.i64.wrap (x3 + 1)) w16 < μ1 p2 x3 w4) (br (x19 == 3) (∀ w17 : World, Drew w13 w17 → ∃ S4 : World → Prop, S4 w17 ∧ idxP y1a y1aL x3 6 fun q9 => ∃ x26 : Int, (∀ u7, S4 u7 → World.cell? u7 (Addr.add q9 5) = some (Value.int .u8 x26)) ∧ idxP y1a y1aL x3 6 fun q10 => ∃ x27 : Int, (∀ u8, S4 u8 → World.cell? u8 (Addr.add q10 1) = some (Value.int .u8 x27)) ∧ CallsR prog K.pool_Pool_Take #[Value.pointer p5, Value.int .u8 x26, Value.int .u32 (IntKind.u32.wrap x27)] w17 fun v12 w18 => ∃ x28 : Int, ∃ x29 : Int, v12 = Value.tuple #[Value.int .i64 x28, Value.int .i64 x29] ∧ S4 w18 ∧ J2 p2 (IntKind.i64.wrap (x3 + 1)) w18 ∧ μ1 p2 (IntKind.i64.wrap (x3 + 1)) w18 < μ1 p2 x3 w4) (J2 p2 (IntKind.i64.wrap (x3 + 1)) w13 ∧ μ1 p2 (IntKind.i64.wrap (x3 + 1)) w13 < μ1 p2 x3 w4)))))) (CallsR prog K.nand_Chip_Power #[Value.pointer p2] w4 fun v13 w19 => ∃ p6 : Option Addr, ∃ x30 : Int, v13 = Value.tuple #[Value.pointer p6, Value.int .i64 x30] ∧ R (Value.tuple #[Value.pointer p6, Value.bool (x30 == 0)]) w19)) (CallsR prog K.nand_Chip_Power #[Value.pointer p2] w4 fun v14 w20 => ∃ p7 : Option Addr, ∃ x31 : Int, v14 = Value.tuple #[Value.pointer p7, Value.int .i64 x31] ∧ R (Value.tuple #[Value.pointer p7, Value.bool (x31 == 0)]) w20)))
theorem carracklaw22_played.sh {y0a : Option Addr} {y0aL y0aC : Nat} {y1a : Option Addr} {y1aL y1aC : Nat} {w : World} {R : Value → World → Prop} (h : carracklaw22_played.body y0a y0aL y0aC y1a y1aL y1aC w R) :
    CallsR prog K.carracklaw22_played #[Value.slice y0a y0aL y0aC, Value.slice y1a y1aL y1aC] w R :=
  calls_body follows (f := K.carracklaw22_played) Try.func19 ([(6, [1, 6], [], [])]) ([(7, [1], [6, 8], [Value.pointer none, Value.int .i64 0])])
    (Eq.mp (by kernel_rfl : carracklaw22_played.body y0a y0aL y0aC y1a y1aL y1aC w R = bodyOf prog Try.f19 ([(6, [1, 6], [], [])]) ([(7, [1], [6, 8], [Value.pointer none, Value.int .i64 0])]) [Value.slice y0a y0aL y0aC, Value.slice y1a y1aL y1aC] w R) h)
def carrackref22_Says.body (y0a : Option Addr) (y1a : Int) (w : World) (R : Value → World → Prop) : Prop :=
  ∀ (B1 : Nat) (w1 : World), New w (.cells #[Value.int .u8 0, Value.int .u8 0, Value.int .u8 0] T.api_Turn) B1 w1 → ∀ (B2 : Nat) (w2 : World), New w1 (.cells #[Value.int .u8 0, Value.int .u8 0, Value.int .u8 0] T.api_Turn) B2 w2 → CallsR prog K.carrackref04_Of #[Value.pointer y0a, Value.int .u8 3, Value.int .u32 y1a] w2 fun v1 w3 => ∃ (a1 : Option Addr) (l1 c1 : Nat), v1 = Value.slice a1 l1 c1 ∧ ∃ (J1 : Bool → Bool → Int → World → Prop) (μ1 : Bool → Bool → Int → World → Nat), J1 false false 0 w3 ∧ ∀ b1 : Bool, ∀ b2 : Bool, ∀ x1 : Int, ∀ w4 : World, J1 b1 b2 x1 w4 → br (decide (x1 < ((l1 : Nat) : Int))) (∃ (J2 : Bool → Bool → Int → World → Prop) (μ2 : Bool → Bool → Int → World → Nat), J2 b1 b2 1 w4 ∧ ∀ b3 : Bool, ∀ b4 : Bool, ∀ x2 : Int, ∀ w5 : World, J2 b3 b4 x2 w5 → CallsR prog K.nand_Chip_Geo #[Value.pointer y0a] w5 fun v2 w6 => ∃ x3 : Int, ∃ x4 : Int, ∃ x5 : Int, ∃ x6 : Int, v2 = Value.agg #[Value.int .i64 x3, Value.int .i64 x4, Value.int .i64 x5, Value.int .i64 x6] ∧ br (decide (x2 < x4)) (idxP a1 l1 x1 5 fun q1 => ∃ x7 : Int, World.cell? w6 q1 = some (Value.int .i64 x7) ∧ CallsR prog K.nand_Chip_Read #[Value.pointer y0a, Value.int .i64 x7, Value.int .i64 x2] w6 fun v3 w7 => ∃ (a2 : Option Addr) (l2 c2 : Nat), ∃ x8 : Int, v3 = Value.tuple #[Value.slice a2 l2 c2, Value.int .i64 x8] ∧ CallsR prog K.carrackref02_Get #[Value.slice a2 l2 c2] w7 fun v4 w8 => ∃ x9 : Int, ∃ (a3 : Option Addr) (l3 c3 : Nat), ∃ x10 : Int, v4 = Value.tuple #[Value.int .u8 x9, Value.slice a3 l3 c3, Value.int .i64 x10] ∧ br (x10 != 0) (J2 b3 b4 (IntKind.i64.wrap (x2 + 1)) w8 ∧ μ2 b3 b4 (IntKind.i64.wrap (x2 + 1)) w8 < μ2 b3 b4 x2 w5) (br (x9 != 7) (J2 b3 b4 (IntKind.i64.wrap (x2 + 1)) w8 ∧ μ2 b3 b4 (IntKind.i64.wrap (x2 + 1)) w8 < μ2 b3 b4 x2 w5) (CallsR prog K.carrackref22_Get #[Value.slice a3 l3 c3] w8 fun v5 w9 => ∃ x11 : Int, ∃ x12 : Int, ∃ x13 : Int, ∃ x14 : Int, v5 = Value.tuple #[Value.agg #[Value.int .u8 x11, Value.int .u8 x12, Value.int .u8 x13], Value.int .i64 x14] ∧ ∀ (B3 : Nat) (w10 : World), New w9 (.cells #[Value.int .u8 0, Value.int .u8 0, Value.int .u8 0] T.api_Turn) B3 w10 → storeP w10 ⟨B3, 0, none⟩ [Value.int .u8 x11, Value.int .u8 x12, Value.int .u8 x13] fun w11 => br (x14 != 0) (J2 b3 b4 (IntKind.i64.wrap (x2 + 1)) w11 ∧ μ2 b3 b4 (IntKind.i64.wrap (x2 + 1)) w11 < μ2 b3 b4 x2 w5) (br (!b3) (∃ x15 : Int, ∃ x16 : Int, ∃ x17 : Int, cellsAt w11 ⟨B3, 0, none⟩ [Value.int .u8 x15, Value.int .u8 x16, Value.int .u8 x17] 0 ∧ storeP w11 ⟨B2, 0, none⟩ [Value.int .u8 x15, Value.int .u8 x16, Value.int .u8 x17] fun w12 => storeP w12 (Addr.add ⟨B2, 0, none⟩ 2) [Value.int .u8 0] fun w13 => br b4 (J2 true true (IntKind.i64.wrap (x2 + 1)) w13 ∧ μ2 true true (IntKind.i64.wrap (x2 + 1)) w13 < μ2 b3 b4 x2 w5) (∃ x18 : Int, World.cell? w13 (Addr.add ⟨B3, 0, none⟩ 2) = some (Value.int .u8 x18) ∧ J2 true (x18 == 2) (IntKind.i64.wrap (x2 + 1)) w13 ∧ μ2 true (x18 == 2) (IntKind.i64.wrap (x2 + 1)) w13 < μ2 b3 b4 x2 w5)) (br b4 (J2 true true (IntKind.i64.wrap (x2 + 1)) w11 ∧ μ2 true true (IntKind.i64.wrap (x2 + 1)) w11 < μ2 b3 b4 x2 w5) (∃ x19 : Int, World.cell? w11 (Addr.add ⟨B3, 0, none⟩ 2) = some (Value.int .u8 x19) ∧ J2 true (x19 == 2) (IntKind.i64.wrap (x2 + 1)) w11 ∧ μ2 true (x19 == 2) (IntKind.i64.wrap (x2 + 1)) w11 < μ2 b3 b4 x2 w5)))))) (J1 b3 b4 (IntKind.i64.wrap (x1 + 1)) w6 ∧ μ1 b3 b4 (IntKind.i64.wrap (x1 + 1)) w6 < μ1 b1 b2 x1 w4)) (∀ w14 : World, Drew w4 w14 → ∃ S1 : World → Prop, S1 w14 ∧ ∃ x20 : Int, ∃ x21 : Int, ∃ x22 : Int, (∀ u1, S1 u1 → cellsAt u1 ⟨B2, 0, none⟩ [Value.int .u8 x20, Value.int .u8 x21, Value.int .u8 x22] 0) ∧ storeP w14 ⟨B1, 0, none⟩ [Value.int .u8 x20, Value.int .u8 x21, Value.int .u8 x22] fun w15 => ∃ x23 : Int, ∃ x24 : Int, ∃ x25 : Int, cellsAt w15 ⟨B1, 0, none⟩ [Value.int .u8 x23, Value.int .u8 x24, Value.int .u8 x25] 0 ∧ R (Value.tuple #[Value.bool b1, Value.bool b2, Value.agg #[Value.int .u8 x23, Value.int .u8 x24, Value.int .u8 x25]]) w15)
theorem carrackref22_Says.sh {y0a : Option Addr} {y1a : Int} {w : World} {R : Value → World → Prop} (h : carrackref22_Says.body y0a y1a w R) :
    CallsR prog K.carrackref22_Says #[Value.pointer y0a, Value.int .u32 y1a] w R :=
  calls_body follows (f := K.carrackref22_Says) Try.func20 ([]) ([(5, [0, 6, 7, 10], [8, 9, 11], [Value.bool false, Value.bool false, Value.int .i64 0]), (8, [0, 6, 7, 10, 11], [8, 9, 12], [Value.bool false, Value.bool false, Value.int .i64 0])])
    (Eq.mp (by kernel_rfl : carrackref22_Says.body y0a y1a w R = bodyOf prog Try.f20 ([]) ([(5, [0, 6, 7, 10], [8, 9, 11], [Value.bool false, Value.bool false, Value.int .i64 0]), (8, [0, 6, 7, 10, 11], [8, 9, 12], [Value.bool false, Value.bool false, Value.int .i64 0])]) [Value.pointer y0a, Value.int .u32 y1a] w R) h)
def carrackref22_May.body (t_From : Int) (t_To : Int) (t_Phase : Int) (w : World) (R : Value → World → Prop) : Prop :=
  ∀ (B1 : Nat) (w1 : World), New w (.cells #[Value.int .u8 t_From, Value.int .u8 t_To, Value.int .u8 t_Phase] T.api_Turn) B1 w1 → ∃ x1 : Int, World.cell? w1 ⟨B1, 0, none⟩ = some (Value.int .u8 x1) ∧ br (x1 == 1) (∃ x2 : Int, World.cell? w1 (Addr.add ⟨B1, 0, none⟩ 1) = some (Value.int .u8 x2) ∧ br (x2 == 2) (∃ x3 : Int, World.cell? w1 (Addr.add ⟨B1, 0, none⟩ 2) = some (Value.int .u8 x3) ∧ br (x3 == 1) (R (Value.bool true) w1) (∃ x4 : Int, World.cell? w1 (Addr.add ⟨B1, 0, none⟩ 2) = some (Value.int .u8 x4) ∧ R (Value.bool (x4 == 2)) w1)) (∃ x5 : Int, World.cell? w1 ⟨B1, 0, none⟩ = some (Value.int .u8 x5) ∧ br (x5 == 2) (∃ x6 : Int, World.cell? w1 (Addr.add ⟨B1, 0, none⟩ 1) = some (Value.int .u8 x6) ∧ br (x6 == 1) (∃ x7 : Int, World.cell? w1 (Addr.add ⟨B1, 0, none⟩ 2) = some (Value.int .u8 x7) ∧ br (x7 == 1) (R (Value.bool true) w1) (∃ x8 : Int, World.cell? w1 (Addr.add ⟨B1, 0, none⟩ 2) = some (Value.int .u8 x8) ∧ R (Value.bool (x8 == 2)) w1)) (R (Value.bool false) w1)) (R (Value.bool false) w1))) (∃ x9 : Int, World.cell? w1 ⟨B1, 0, none⟩ = some (Value.int .u8 x9) ∧ br (x9 == 2) (∃ x10 : Int, World.cell? w1 (Addr.add ⟨B1, 0, none⟩ 1) = some (Value.int .u8 x10) ∧ br (x10 == 1) (∃ x11 : Int, World.cell? w1 (Addr.add ⟨B1, 0, none⟩ 2) = some (Value.int .u8 x11) ∧ br (x11 == 1) (R (Value.bool true) w1) (∃ x12 : Int, World.cell? w1 (Addr.add ⟨B1, 0, none⟩ 2) = some (Value.int .u8 x12) ∧ R (Value.bool (x12 == 2)) w1)) (R (Value.bool false) w1)) (R (Value.bool false) w1))
theorem carrackref22_May.sh {t_From : Int} {t_To : Int} {t_Phase : Int} {w : World} {R : Value → World → Prop} (h : carrackref22_May.body t_From t_To t_Phase w R) :
    CallsR prog K.carrackref22_May #[Value.agg #[Value.int .u8 t_From, Value.int .u8 t_To, Value.int .u8 t_Phase]] w R :=
  calls_body follows (f := K.carrackref22_May) Try.func21 ([]) ([])
    (Eq.mp (by kernel_rfl : carrackref22_May.body t_From t_To t_Phase w R = bodyOf prog Try.f21 ([]) ([]) [Value.agg #[Value.int .u8 t_From, Value.int .u8 t_To, Value.int .u8 t_Phase]] w R) h)
def pool_Scan.body (y0a : Option Addr) (w : World) (R : Value → World → Prop) : Prop :=
  ∃ J1 : World → Prop, (br (Option.isNone y0a) (R (Value.tuple #[Value.pointer none, Value.int .i64 1]) w) (CallsR prog K.nand_Chip_Geo #[Value.pointer y0a] w fun v1 w1 => ∃ x1 : Int, ∃ x2 : Int, ∃ x3 : Int, ∃ x4 : Int, v1 = Value.agg #[Value.int .i64 x1, Value.int .i64 x2, Value.int .i64 x3, Value.int .i64 x4] ∧ br (x1 == 0) (R (Value.tuple #[Value.pointer none, Value.int .i64 1]) w1) (J1 w1))) ∧ (∀ w2 : World, J1 w2 → CallsR prog K.nand_Chip_Read #[Value.pointer y0a, Value.int .i64 0, Value.int .i64 0] w2 fun v2 w3 => ∃ (a1 : Option Addr) (l1 c1 : Nat), ∃ x5 : Int, v2 = Value.tuple #[Value.slice a1 l1 c1, Value.int .i64 x5] ∧ br (x5 != 0) (R (Value.tuple #[Value.pointer none, Value.int .i64 x5]) w3) (CallsR prog K.nand_Chip_Geo #[Value.pointer y0a] w3 fun v3 w4 => ∃ x6 : Int, ∃ x7 : Int, ∃ x8 : Int, ∃ x9 : Int, v3 = Value.agg #[Value.int .i64 x6, Value.int .i64 x7, Value.int .i64 x8, Value.int .i64 x9] ∧ makeSliceP T.pool_block 4 24 [Value.int .i64 0, Value.int .u8 0, Value.int .u32 0, Value.int .u64 0] x6 x6 w4 fun a2 l2 c2 w5 => ∀ (B1 : Nat) (w6 : World), New w5 (.cells #[Value.pointer y0a, Value.slice a2 l2 c2, Value.int .u64 0, Value.int .i64 0] T.pool_Pool) B1 w6 → ∃ (a3 : Option Addr) (l3 c3 : Nat), World.cell? w6 (Addr.add ⟨B1, 0, none⟩ 1) = some (Value.slice a3 l3 c3) ∧ ∃ (J2 : Int → World → Prop) (μ1 : Int → World → Nat), J2 0 w6 ∧ ∀ x10 : Int, ∀ w7 : World, J2 x10 w7 → br (decide (x10 < ((l3 : Nat) : Int))) (CallsR prog K.pool_Pool_look #[Value.pointer (some ⟨B1, 0, none⟩), Value.int .i64 x10] w7 fun v4 w8 => v4 = Value.tuple #[] ∧ ∃ (a4 : Option Addr) (l4 c4 : Nat), World.cell? w8 (Addr.add ⟨B1, 0, none⟩ 1) = some (Value.slice a4 l4 c4) ∧ idxP a4 l4 x10 4 fun q1 => ∃ x11 : Int, ∃ x12 : Int, ∃ x13 : Int, cellsAt w8 (Addr.add q1 1) [Value.int .u8 x11, Value.int .u32 x12, Value.int .u64 x13] 0 ∧ ∀ (B2 : Nat) (w9 : World), New w8 (.cells #[Value.int .u8 0, Value.int .u32 0, Value.int .u64 0] T.api_Head) B2 w9 → storeP w9 ⟨B2, 0, none⟩ [Value.int .u8 x11, Value.int .u32 x12, Value.int .u64 x13] fun w10 => ∀ w11 : World, Drew w10 w11 → ∃ S1 : World → Prop, S1 w11 ∧ ∃ x14 : Int, (∀ u1, S1 u1 → World.cell? u1 (Addr.add ⟨B2, 0, none⟩ 2) = some (Value.int .u64 x14)) ∧ ∃ x15 : Int, (∀ u2, S1 u2 → World.cell? u2 (Addr.add ⟨B1, 0, none⟩ 2) = some (Value.int .u64 x15)) ∧ br (decide (x14 > x15)) (∃ x16 : Int, World.cell? w11 (Addr.add ⟨B2, 0, none⟩ 2) = some (Value.int .u64 x16) ∧ storeP w11 (Addr.add ⟨B1, 0, none⟩ 2) [Value.int .u64 x16] fun w12 => storeP w12 (Addr.add ⟨B1, 0, none⟩ 3) [Value.int .i64 (IntKind.i64.wrap (x10 + 1))] fun w13 => J2 (IntKind.i64.wrap (x10 + 1)) w13 ∧ μ1 (IntKind.i64.wrap (x10 + 1)) w13 < μ1 x10 w7) (∃ x17 : Int, (∀ u3, S1 u3 → World.cell? u3 (Addr.add ⟨B2, 0, none⟩ 2) = some (Value.int .u64 x17)) ∧ ∃ x18 : Int, (∀ u4, S1 u4 → World.cell? u4 (Addr.add ⟨B1, 0, none⟩ 2) = some (Value.int .u64 x18)) ∧ br (x17 == x18) (∃ x19 : Int, (∀ u5, S1 u5 → World.cell? u5 (Addr.add ⟨B2, 0, none⟩ 2) = some (Value.int .u64 x19)) ∧ br (decide (x19 > 0)) (∃ x20 : Int, World.cell? w11 (Addr.add ⟨B2, 0, none⟩ 2) = some (Value.int .u64 x20) ∧ storeP w11 (Addr.add ⟨B1, 0, none⟩ 2) [Value.int .u64 x20] fun w14 => storeP w14 (Addr.add ⟨B1, 0, none⟩ 3) [Value.int .i64 (IntKind.i64.wrap (x10 + 1))] fun w15 => J2 (IntKind.i64.wrap (x10 + 1)) w15 ∧ μ1 (IntKind.i64.wrap (x10 + 1)) w15 < μ1 x10 w7) (J2 (IntKind.i64.wrap (x10 + 1)) w11 ∧ μ1 (IntKind.i64.wrap (x10 + 1)) w11 < μ1 x10 w7)) (J2 (IntKind.i64.wrap (x10 + 1)) w11 ∧ μ1 (IntKind.i64.wrap (x10 + 1)) w11 < μ1 x10 w7))) (R (Value.tuple #[Value.pointer (some ⟨B1, 0, none⟩), Value.int .i64 0]) w7)))
theorem pool_Scan.sh {y0a : Option Addr} {w : World} {R : Value → World → Prop} (h : pool_Scan.body y0a w R) :
    CallsR prog K.pool_Scan #[Value.pointer y0a] w R :=
  calls_body follows (f := K.pool_Scan) Try.func22 ([(3, [0], [], [])]) ([(8, [6, 36], [37], [Value.int .i64 0])])
    (Eq.mp (by kernel_rfl : pool_Scan.body y0a w R = bodyOf prog Try.f22 ([(3, [0], [], [])]) ([(8, [6, 36], [37], [Value.int .i64 0])]) [Value.pointer y0a] w R) h)
/-- (*carrack/nand.Chip).Hits -/
def nand_Chip_Hits.body (c : Option Addr) (l : Option Addr) (lL lC : Nat) (w : World) (R : Value → World → Prop) : Prop :=
  CallsR prog K.nand_Chip_off #[Value.pointer c] w fun v1 w1 => ∃ b1 : Bool, v1 = Value.bool b1 ∧ br b1 (R (Value.int .i64 1) w1) (CallsR prog K.slices_ContainsFunc_api_Hit #[Value.slice l lL lC, Value.func (.func K.nand_Chip_Hits_1) #[] #[]] w1 fun v2 w2 => ∃ b2 : Bool, v2 = Value.bool b2 ∧ br b2 (R (Value.int .i64 2) w2) (nilC c fun q1 => storeP w2 (Addr.add q1 6) [Value.slice none 0 0] fun w3 => nilC c fun q2 => storeP w3 (Addr.add q2 7) [Value.int .i64 0] fun w4 => ∃ (J1 : Int → World → Prop) (μ1 : Int → World → Nat), J1 0 w4 ∧ ∀ x1 : Int, ∀ w5 : World, J1 x1 w5 → br (decide (x1 < ((lL : Nat) : Int))) (idxP l lL x1 3 fun q3 => ∃ x2 : Int, ∃ b3 : Bool, ∃ (a1 : Option Addr) (l1 c1 : Nat), cellsAt w5 q3 [Value.int .i64 x2, Value.bool b3, Value.slice a1 l1 c1] 0 ∧ ∀ (B1 : Nat) (w6 : World), New w5 (.cells #[Value.int .i64 0, Value.bool false, Value.slice none 0 0] T.api_Hit) B1 w6 → storeP w6 ⟨B1, 0, none⟩ [Value.int .i64 x2, Value.bool b3, Value.slice a1 l1 c1] fun w7 => ∃ (a2 : Option Addr) (l2 c2 : Nat), World.cell? w7 (Addr.add ⟨B1, 0, none⟩ 2) = some (Value.slice a2 l2 c2) ∧ CallsR prog K.slices_Clone_byte #[Value.slice a2 l2 c2] w7 fun v3 w8 => ∃ (a3 : Option Addr) (l3 c3 : Nat), v3 = Value.slice a3 l3 c3 ∧ storeP w8 (Addr.add ⟨B1, 0, none⟩ 2) [Value.slice a3 l3 c3] fun w9 => ∀ w10 : World, Drew w9 w10 → ∃ S1 : World → Prop, S1 w10 ∧ nilC c fun q4 => ∃ (a4 : Option Addr) (l4 c4 : Nat), (∀ u1, S1 u1 → World.cell? u1 (Addr.add q4 6) = some (Value.slice a4 l4 c4)) ∧ ∃ x3 : Int, ∃ b4 : Bool, ∃ (a5 : Option Addr) (l5 c5 : Nat), (∀ u2, S1 u2 → cellsAt u2 ⟨B1, 0, none⟩ [Value.int .i64 x3, Value.bool b4, Value.slice a5 l5 c5] 0) ∧ ∀ (B2 : Nat) (w11 : World), New w10 (.cells #[Value.int .i64 x3, Value.bool b4, Value.slice a5 l5 c5] T.api_Hit) B2 w11 → S1 w11 ∧ appendP T.api_Hit 3 40 [Value.int .i64 0, Value.bool false, Value.slice none 0 0] a4 l4 c4 (Value.slice (some ⟨B2, 0, none⟩) 1 1) w11 fun a6 l6 c6 w12 => S1 w12 ∧ nilC c fun q5 => storeP w12 (Addr.add q5 6) [Value.slice a6 l6 c6] fun w13 => J1 (IntKind.i64.wrap (x1 + 1)) w13 ∧ μ1 (IntKind.i64.wrap (x1 + 1)) w13 < μ1 x1 w5) (R (Value.int .i64 0) w5)))
theorem nand_Chip_Hits.sh {c : Option Addr} {l : Option Addr} {lL lC : Nat} {w : World} {R : Value → World → Prop} (h : nand_Chip_Hits.body c l lL lC w R) :
    CallsR prog K.nand_Chip_Hits #[Value.pointer c, Value.slice l lL lC] w R :=
  calls_body follows (f := K.nand_Chip_Hits) Try.func23 ([]) ([(7, [0, 19, 20], [21], [Value.int .i64 0])])
    (Eq.mp (by kernel_rfl : nand_Chip_Hits.body c l lL lC w R = bodyOf prog Try.f23 ([]) ([(7, [0, 19, 20], [21], [Value.int .i64 0])]) [Value.pointer c, Value.slice l lL lC] w R) h)
/-- (*carrack/nand.Chip).Power -/
def nand_Chip_Power.body (c : Option Addr) (w : World) (R : Value → World → Prop) : Prop :=
  CallsR prog K.nand_Chip_off #[Value.pointer c] w fun v1 w1 => ∃ b1 : Bool, v1 = Value.bool b1 ∧ br b1 (R (Value.tuple #[Value.pointer none, Value.int .i64 1]) w1) (∀ w2 : World, Drew w1 w2 → ∃ S1 : World → Prop, S1 w2 ∧ nilC c fun q1 => ∃ x1 : Int, ∃ x2 : Int, ∃ x3 : Int, ∃ x4 : Int, (∀ u1, S1 u1 → cellsAt u1 q1 [Value.int .i64 x1, Value.int .i64 x2, Value.int .i64 x3, Value.int .i64 x4] 0) ∧ nilC c fun q2 => ∃ (a1 : Option Addr) (l1 c1 : Nat), (∀ u2, S1 u2 → World.cell? u2 (Addr.add q2 5) = some (Value.slice a1 l1 c1)) ∧ CallsR prog K.slices_Clone_bool #[Value.slice a1 l1 c1] w2 fun v2 w3 => ∃ (a2 : Option Addr) (l2 c2 : Nat), v2 = Value.slice a2 l2 c2 ∧ S1 w3 ∧ ∀ (B1 : Nat) (w4 : World), New w3 (.cells #[Value.int .i64 x1, Value.int .i64 x2, Value.int .i64 x3, Value.int .i64 x4, Value.slice none 0 0, Value.slice a2 l2 c2, Value.slice none 0 0, Value.int .i64 0, Value.bool false, Value.int .i64 0] T.nand_Chip) B1 w4 → S1 w4 ∧ nilC c fun q3 => ∃ (a3 : Option Addr) (l3 c3 : Nat), World.cell? w4 (Addr.add q3 4) = some (Value.slice a3 l3 c3) ∧ ∃ (J1 : Int → World → Prop) (μ1 : Int → World → Nat), J1 0 w4 ∧ ∀ x5 : Int, ∀ w5 : World, J1 x5 w5 → br (decide (x5 < ((l3 : Nat) : Int))) (idxP a3 l3 x5 1 fun q4 => ∃ (a4 : Option Addr) (l4 c4 : Nat), World.cell? w5 q4 = some (Value.slice a4 l4 c4) ∧ ∀ w6 : World, Drew w5 w6 → ∃ S2 : World → Prop, S2 w6 ∧ ∃ (a5 : Option Addr) (l5 c5 : Nat), (∀ u3, S2 u3 → World.cell? u3 (Addr.add ⟨B1, 0, none⟩ 4) = some (Value.slice a5 l5 c5)) ∧ CallsR prog K.slices_Clone_byte #[Value.slice a4 l4 c4] w6 fun v3 w7 => ∃ (a6 : Option Addr) (l6 c6 : Nat), v3 = Value.slice a6 l6 c6 ∧ S2 w7 ∧ ∀ (B2 : Nat) (w8 : World), New w7 (.cells #[Value.slice a6 l6 c6] T.L_uint8) B2 w8 → S2 w8 ∧ appendP T.L_uint8 1 24 [Value.slice none 0 0] a5 l5 c5 (Value.slice (some ⟨B2, 0, none⟩) 1 1) w8 fun a7 l7 c7 w9 => storeP w9 (Addr.add ⟨B1, 0, none⟩ 4) [Value.slice a7 l7 c7] fun w10 => J1 (IntKind.i64.wrap (x5 + 1)) w10 ∧ μ1 (IntKind.i64.wrap (x5 + 1)) w10 < μ1 x5 w5) (R (Value.tuple #[Value.pointer (some ⟨B1, 0, none⟩), Value.int .i64 0]) w5))
theorem nand_Chip_Power.sh {c : Option Addr} {w : World} {R : Value → World → Prop} (h : nand_Chip_Power.body c w R) :
    CallsR prog K.nand_Chip_Power #[Value.pointer c] w R :=
  calls_body follows (f := K.nand_Chip_Power) Try.func24 ([]) ([(5, [4, 23, 24], [25], [Value.int .i64 0])])
    (Eq.mp (by kernel_rfl : nand_Chip_Power.body c w R = bodyOf prog Try.f24 ([]) ([(5, [4, 23, 24], [25], [Value.int .i64 0])]) [Value.pointer c] w R) h)
def carrackref04_Taken.body (c : Option Addr) (w : World) (R : Value → World → Prop) : Prop :=
  ∃ (J1 : Option Addr → Nat → Nat → Int → World → Prop) (μ1 : Option Addr → Nat → Nat → Int → World → Nat), J1 none 0 0 0 w ∧ ∀ (a1 : Option Addr) (l1 c1 : Nat), ∀ x1 : Int, ∀ w1 : World, J1 a1 l1 c1 x1 w1 → CallsR prog K.nand_Chip_Geo #[Value.pointer c] w1 fun v1 w2 => ∃ x2 : Int, ∃ x3 : Int, ∃ x4 : Int, ∃ x5 : Int, v1 = Value.agg #[Value.int .i64 x2, Value.int .i64 x3, Value.int .i64 x4, Value.int .i64 x5] ∧ br (decide (x1 < x2)) (CallsR prog K.carrackref04_Head #[Value.pointer c, Value.int .i64 x1] w2 fun v2 w3 => ∃ x6 : Int, ∃ x7 : Int, ∃ x8 : Int, ∃ b1 : Bool, v2 = Value.tuple #[Value.agg #[Value.int .u8 x6, Value.int .u32 x7, Value.int .u64 x8], Value.bool b1] ∧ ∀ (B1 : Nat) (w4 : World), New w3 (.cells #[Value.int .u8 0, Value.int .u32 0, Value.int .u64 0] T.api_Head) B1 w4 → storeP w4 ⟨B1, 0, none⟩ [Value.int .u8 x6, Value.int .u32 x7, Value.int .u64 x8] fun w5 => br (!b1) (J1 a1 l1 c1 (IntKind.i64.wrap (x1 + 1)) w5 ∧ μ1 a1 l1 c1 (IntKind.i64.wrap (x1 + 1)) w5 < μ1 a1 l1 c1 x1 w1) (∃ (J2 : Int → World → Prop) (μ2 : Int → World → Nat), J2 0 w5 ∧ ∀ x9 : Int, ∀ w6 : World, J2 x9 w6 → ∀ w7 : World, Drew w6 w7 → ∃ S1 : World → Prop, S1 w7 ∧ br (decide (x9 < ((l1 : Nat) : Int))) (idxP a1 l1 x9 5 fun q1 => ∃ x10 : Int, (∀ u1, S1 u1 → World.cell? u1 (Addr.add (Addr.add q1 1) 2) = some (Value.int .u64 x10)) ∧ ∃ x11 : Int, (∀ u2, S1 u2 → World.cell? u2 (Addr.add ⟨B1, 0, none⟩ 2) = some (Value.int .u64 x11)) ∧ br (decide (x10 ≤ x11)) (J2 (IntKind.i64.wrap (x9 + 1)) w7 ∧ μ2 (IntKind.i64.wrap (x9 + 1)) w7 < μ2 x9 w6) (sliceP 5 a1 l1 c1 none (some x9) none fun a2 l2 c2 => appendP T.api_Taken 5 32 [Value.int .i64 0, Value.int .u8 0, Value.int .u32 0, Value.int .u64 0, Value.bool false] none 0 0 (Value.slice a2 l2 c2) w7 fun a3 l3 c3 w8 => ∀ w9 : World, Drew w8 w9 → ∃ S2 : World → Prop, S2 w9 ∧ ∃ x12 : Int, ∃ x13 : Int, ∃ x14 : Int, (∀ u3, S2 u3 → cellsAt u3 ⟨B1, 0, none⟩ [Value.int .u8 x12, Value.int .u32 x13, Value.int .u64 x14] 0) ∧ CallsR prog K.nand_Chip_Bad #[Value.pointer c, Value.int .i64 x1] w9 fun v3 w10 => ∃ b2 : Bool, v3 = Value.bool b2 ∧ S2 w10 ∧ ∀ (B2 : Nat) (w11 : World), New w10 (.cells #[Value.int .i64 x1, Value.int .u8 x12, Value.int .u32 x13, Value.int .u64 x14, Value.bool b2] T.api_Taken) B2 w11 → S2 w11 ∧ appendP T.api_Taken 5 32 [Value.int .i64 0, Value.int .u8 0, Value.int .u32 0, Value.int .u64 0, Value.bool false] a3 l3 c3 (Value.slice (some ⟨B2, 0, none⟩) 1 1) w11 fun a4 l4 c4 w12 => S2 w12 ∧ sliceP 5 a1 l1 c1 (some x9) none none fun a5 l5 c5 => appendP T.api_Taken 5 32 [Value.int .i64 0, Value.int .u8 0, Value.int .u32 0, Value.int .u64 0, Value.bool false] a4 l4 c4 (Value.slice a5 l5 c5) w12 fun a6 l6 c6 w13 => J1 a6 l6 c6 (IntKind.i64.wrap (x1 + 1)) w13 ∧ μ1 a6 l6 c6 (IntKind.i64.wrap (x1 + 1)) w13 < μ1 a1 l1 c1 x1 w1)) (sliceP 5 a1 l1 c1 none (some x9) none fun a7 l7 c7 => appendP T.api_Taken 5 32 [Value.int .i64 0, Value.int .u8 0, Value.int .u32 0, Value.int .u64 0, Value.bool false] none 0 0 (Value.slice a7 l7 c7) w7 fun a8 l8 c8 w14 => ∀ w15 : World, Drew w14 w15 → ∃ S3 : World → Prop, S3 w15 ∧ ∃ x15 : Int, ∃ x16 : Int, ∃ x17 : Int, (∀ u4, S3 u4 → cellsAt u4 ⟨B1, 0, none⟩ [Value.int .u8 x15, Value.int .u32 x16, Value.int .u64 x17] 0) ∧ CallsR prog K.nand_Chip_Bad #[Value.pointer c, Value.int .i64 x1] w15 fun v4 w16 => ∃ b3 : Bool, v4 = Value.bool b3 ∧ S3 w16 ∧ ∀ (B3 : Nat) (w17 : World), New w16 (.cells #[Value.int .i64 x1, Value.int .u8 x15, Value.int .u32 x16, Value.int .u64 x17, Value.bool b3] T.api_Taken) B3 w17 → S3 w17 ∧ appendP T.api_Taken 5 32 [Value.int .i64 0, Value.int .u8 0, Value.int .u32 0, Value.int .u64 0, Value.bool false] a8 l8 c8 (Value.slice (some ⟨B3, 0, none⟩) 1 1) w17 fun a9 l9 c9 w18 => S3 w18 ∧ sliceP 5 a1 l1 c1 (some x9) none none fun a10 l10 c10 => appendP T.api_Taken 5 32 [Value.int .i64 0, Value.int .u8 0, Value.int .u32 0, Value.int .u64 0, Value.bool false] a9 l9 c9 (Value.slice a10 l10 c10) w18 fun a11 l11 c11 w19 => J1 a11 l11 c11 (IntKind.i64.wrap (x1 + 1)) w19 ∧ μ1 a11 l11 c11 (IntKind.i64.wrap (x1 + 1)) w19 < μ1 a1 l1 c1 x1 w1))) (R (Value.slice a1 l1 c1) w2)
theorem carrackref04_Taken.sh {c : Option Addr} {w : World} {R : Value → World → Prop} (h : carrackref04_Taken.body c w R) :
    CallsR prog K.carrackref04_Taken #[Value.pointer c] w R :=
  calls_body follows (f := K.carrackref04_Taken) Try.func25 ([]) ([(3, [0], [3, 4], [Value.slice none 0 0, Value.int .i64 0]), (8, [0, 3, 4, 5], [7], [Value.int .i64 0])])
    (Eq.mp (by kernel_rfl : carrackref04_Taken.body c w R = bodyOf prog Try.f25 ([]) ([(3, [0], [3, 4], [Value.slice none 0 0, Value.int .i64 0]), (8, [0, 3, 4, 5], [7], [Value.int .i64 0])]) [Value.pointer c] w R) h)
/-- (*carrack/pool.Pool).Blanks -/
def pool_Pool_Blanks.body (p : Option Addr) (w : World) (R : Value → World → Prop) : Prop :=
  CallsR prog K.pool_Pool_off #[Value.pointer p] w fun v1 w1 => ∃ b1 : Bool, v1 = Value.bool b1 ∧ br b1 (R (Value.int .i64 0) w1) (nilC p fun q1 => ∃ (a1 : Option Addr) (l1 c1 : Nat), World.cell? w1 (Addr.add q1 1) = some (Value.slice a1 l1 c1) ∧ ∃ (J1 : Int → Int → World → Prop) (μ1 : Int → Int → World → Nat), J1 0 0 w1 ∧ ∀ x1 : Int, ∀ x2 : Int, ∀ w2 : World, J1 x1 x2 w2 → br (decide (x2 < ((l1 : Nat) : Int))) (idxP a1 l1 x2 4 fun q2 => ∃ x3 : Int, ∃ x4 : Int, ∃ x5 : Int, ∃ x6 : Int, cellsAt w2 q2 [Value.int .i64 x3, Value.int .u8 x4, Value.int .u32 x5, Value.int .u64 x6] 0 ∧ ∀ (B1 : Nat) (w3 : World), New w2 (.cells #[Value.int .i64 0, Value.int .u8 0, Value.int .u32 0, Value.int .u64 0] T.pool_block) B1 w3 → storeP w3 ⟨B1, 0, none⟩ [Value.int .i64 x3, Value.int .u8 x4, Value.int .u32 x5, Value.int .u64 x6] fun w4 => ∃ x7 : Int, World.cell? w4 ⟨B1, 0, none⟩ = some (Value.int .i64 x7) ∧ br (x7 != 2) (nilC p fun q3 => ∃ p1 : Option Addr, World.cell? w4 q3 = some (Value.pointer p1) ∧ CallsR prog K.nand_Chip_Bad #[Value.pointer p1, Value.int .i64 x2] w4 fun v2 w5 => ∃ b2 : Bool, v2 = Value.bool b2 ∧ br (!b2) (J1 (IntKind.i64.wrap (x1 + 1)) (IntKind.i64.wrap (x2 + 1)) w5 ∧ μ1 (IntKind.i64.wrap (x1 + 1)) (IntKind.i64.wrap (x2 + 1)) w5 < μ1 x1 x2 w2) (J1 x1 (IntKind.i64.wrap (x2 + 1)) w5 ∧ μ1 x1 (IntKind.i64.wrap (x2 + 1)) w5 < μ1 x1 x2 w2)) (J1 x1 (IntKind.i64.wrap (x2 + 1)) w4 ∧ μ1 x1 (IntKind.i64.wrap (x2 + 1)) w4 < μ1 x1 x2 w2)) (R (Value.int .i64 x1) w2))
theorem pool_Pool_Blanks.sh {p : Option Addr} {w : World} {R : Value → World → Prop} (h : pool_Pool_Blanks.body p w R) :
    CallsR prog K.pool_Pool_Blanks #[Value.pointer p] w R :=
  calls_body follows (f := K.pool_Pool_Blanks) Try.func26 ([]) ([(5, [0, 11, 12], [3, 13], [Value.int .i64 0, Value.int .i64 0])])
    (Eq.mp (by kernel_rfl : pool_Pool_Blanks.body p w R = bodyOf prog Try.f26 ([]) ([(5, [0, 11, 12], [3, 13], [Value.int .i64 0, Value.int .i64 0])]) [Value.pointer p] w R) h)
def jour_may.body (t_From : Int) (t_To : Int) (t_Phase : Int) (w : World) (R : Value → World → Prop) : Prop :=
  ∀ (B1 : Nat) (w1 : World), New w (.cells #[Value.int .u8 t_From, Value.int .u8 t_To, Value.int .u8 t_Phase] T.api_Turn) B1 w1 → ∃ x1 : Int, World.cell? w1 (Addr.add ⟨B1, 0, none⟩ 2) = some (Value.int .u8 x1) ∧ ∀ (B2 : Nat) (w2 : World), New w1 (.cells #[Value.int .u8 0, Value.int .u8 0, Value.int .u8 0] T.api_Turn) B2 w2 → storeP w2 ⟨B2, 0, none⟩ [Value.int .u8 1, Value.int .u8 2, Value.int .u8 x1] fun w3 => ∃ x2 : Int, World.cell? w3 (Addr.add ⟨B1, 0, none⟩ 2) = some (Value.int .u8 x2) ∧ ∀ (B3 : Nat) (w4 : World), New w3 (.cells #[Value.int .u8 0, Value.int .u8 0, Value.int .u8 0] T.api_Turn) B3 w4 → storeP w4 ⟨B3, 0, none⟩ [Value.int .u8 2, Value.int .u8 1, Value.int .u8 x2] fun w5 => ∃ x3 : Int, ∃ x4 : Int, ∃ x5 : Int, cellsAt w5 ⟨B1, 0, none⟩ [Value.int .u8 x3, Value.int .u8 x4, Value.int .u8 x5] 0 ∧ ∃ x6 : Int, ∃ x7 : Int, ∃ x8 : Int, cellsAt w5 ⟨B2, 0, none⟩ [Value.int .u8 x6, Value.int .u8 x7, Value.int .u8 x8] 0 ∧ br ((x3 == x6) && ((x4 == x7) && ((x5 == x8) && true))) (∃ x9 : Int, World.cell? w5 (Addr.add ⟨B1, 0, none⟩ 2) = some (Value.int .u8 x9) ∧ br (x9 == 1) (R (Value.bool true) w5) (∃ x10 : Int, World.cell? w5 (Addr.add ⟨B1, 0, none⟩ 2) = some (Value.int .u8 x10) ∧ R (Value.bool (x10 == 2)) w5)) (∃ x11 : Int, ∃ x12 : Int, ∃ x13 : Int, cellsAt w5 ⟨B1, 0, none⟩ [Value.int .u8 x11, Value.int .u8 x12, Value.int .u8 x13] 0 ∧ ∃ x14 : Int, ∃ x15 : Int, ∃ x16 : Int, cellsAt w5 ⟨B3, 0, none⟩ [Value.int .u8 x14, Value.int .u8 x15, Value.int .u8 x16] 0 ∧ br ((x11 == x14) && ((x12 == x15) && ((x13 == x16) && true))) (∃ x17 : Int, World.cell? w5 (Addr.add ⟨B1, 0, none⟩ 2) = some (Value.int .u8 x17) ∧ br (x17 == 1) (R (Value.bool true) w5) (∃ x18 : Int, World.cell? w5 (Addr.add ⟨B1, 0, none⟩ 2) = some (Value.int .u8 x18) ∧ R (Value.bool (x18 == 2)) w5)) (R (Value.bool false) w5))
theorem jour_may.sh {t_From : Int} {t_To : Int} {t_Phase : Int} {w : World} {R : Value → World → Prop} (h : jour_may.body t_From t_To t_Phase w R) :
    CallsR prog K.jour_may #[Value.agg #[Value.int .u8 t_From, Value.int .u8 t_To, Value.int .u8 t_Phase]] w R :=
  calls_body follows (f := K.jour_may) Try.func27 ([]) ([])
    (Eq.mp (by kernel_rfl : jour_may.body t_From t_To t_Phase w R = bodyOf prog Try.f27 ([]) ([]) [Value.agg #[Value.int .u8 t_From, Value.int .u8 t_To, Value.int .u8 t_Phase]] w R) h)
def seal_Put.body (y0a : Int) (y1a : Int) (y2a : Option Addr) (y2aL y2aC : Nat) (w : World) (R : Value → World → Prop) : Prop :=
  ∃ J1 : World → Prop, (CallsR prog K.seal_isSize #[Value.int .i64 y0a] w fun v1 w1 => ∃ b1 : Bool, v1 = Value.bool b1 ∧ br (!b1) (R (Value.tuple #[Value.slice none 0 0, Value.int .i64 2]) w1) (br (decide (y1a < 1)) (R (Value.tuple #[Value.slice none 0 0, Value.int .i64 2]) w1) (br (decide (y1a > 7)) (R (Value.tuple #[Value.slice none 0 0, Value.int .i64 2]) w1) (CallsR prog K.seal_Body #[Value.int .i64 y0a] w1 fun v2 w2 => ∃ x1 : Int, v2 = Value.int .i64 x1 ∧ br (decide (((y2aL : Nat) : Int) > x1)) (R (Value.tuple #[Value.slice none 0 0, Value.int .i64 3]) w2) (J1 w2))))) ∧ (∀ w3 : World, J1 w3 → makeSliceP T.uint8 1 1 [Value.int .u8 0] y0a y0a w3 fun a1 l1 c1 w4 => ∃ (J2 : Int → World → Prop) (μ1 : Int → World → Nat), J2 0 w4 ∧ ∀ x2 : Int, ∀ w5 : World, J2 x2 w5 → br (decide (x2 < ((l1 : Nat) : Int))) (idxP a1 l1 x2 1 fun q1 => storeP w5 q1 [Value.int .u8 255] fun w6 => J2 (IntKind.i64.wrap (x2 + 1)) w6 ∧ μ1 (IntKind.i64.wrap (x2 + 1)) w6 < μ1 x2 w5) (CallsR prog K.ends_Put #[Value.int .u64 (IntKind.u64.wrap ((y2aL : Nat) : Int)), Value.int .i64 2] w5 fun v3 w7 => ∃ (a2 : Option Addr) (l2 c2 : Nat), ∃ x3 : Int, v3 = Value.tuple #[Value.slice a2 l2 c2, Value.int .i64 x3] ∧ idxP a1 l1 (2 : Int) 1 fun q2 => storeP w7 q2 [Value.int .u8 y1a] fun w8 => sliceP 1 a1 l1 c1 (some (3 : Int)) none none fun a3 l3 c3 => copyP 1 a3 l3 (Value.slice a2 l2 c2) w8 fun x4 w9 => sliceP 1 a1 l1 c1 (some (5 : Int)) none none fun a4 l4 c4 => copyP 1 a4 l4 (Value.slice y2a y2aL y2aC) w9 fun x5 w10 => sliceP 1 a1 l1 c1 (some (2 : Int)) none none fun a5 l5 c5 => CallsR prog K.seal_Noughts #[Value.slice a5 l5 c5] w10 fun v4 w11 => ∃ x6 : Int, v4 = Value.int .i64 x6 ∧ CallsR prog K.ends_Put #[Value.int .u64 (IntKind.u64.wrap x6), Value.int .i64 2] w11 fun v5 w12 => ∃ (a6 : Option Addr) (l6 c6 : Nat), ∃ x7 : Int, v5 = Value.tuple #[Value.slice a6 l6 c6, Value.int .i64 x7] ∧ copyP 1 a1 l1 (Value.slice a6 l6 c6) w12 fun x8 w13 => R (Value.tuple #[Value.slice a1 l1 c1, Value.int .i64 0]) w13))
theorem seal_Put.sh {y0a : Int} {y1a : Int} {y2a : Option Addr} {y2aL y2aC : Nat} {w : World} {R : Value → World → Prop} (h : seal_Put.body y0a y1a y2a y2aL y2aC w R) :
    CallsR prog K.seal_Put #[Value.int .i64 y0a, Value.int .u8 y1a, Value.slice y2a y2aL y2aC] w R :=
  calls_body follows (f := K.seal_Put) Try.func28 ([(5, [0, 1, 2], [], [])]) ([(7, [1, 2, 8, 35], [36], [Value.int .i64 0])])
    (Eq.mp (by kernel_rfl : seal_Put.body y0a y1a y2a y2aL y2aC w R = bodyOf prog Try.f28 ([(5, [0, 1, 2], [], [])]) ([(7, [1, 2, 8, 35], [36], [Value.int .i64 0])]) [Value.int .i64 y0a, Value.int .u8 y1a, Value.slice y2a y2aL y2aC] w R) h)
def carrackref02_Put.body (size : Int) (kind : Int) (body : Option Addr) (bodyL bodyC : Nat) (w : World) (R : Value → World → Prop) : Prop :=
  ∃ J1 : World → Prop, (CallsR prog K.carrackref02_Size #[Value.int .i64 size] w fun v1 w1 => ∃ b1 : Bool, v1 = Value.bool b1 ∧ br (!b1) (R (Value.tuple #[Value.slice none 0 0, Value.int .i64 2]) w1) (br (decide (kind < 1)) (R (Value.tuple #[Value.slice none 0 0, Value.int .i64 2]) w1) (br (decide (kind > 7)) (R (Value.tuple #[Value.slice none 0 0, Value.int .i64 2]) w1) (J1 w1)))) ∧ (∀ w2 : World, J1 w2 → br (decide (((bodyL : Nat) : Int) > (IntKind.i64.wrap (size - 5)))) (R (Value.tuple #[Value.slice none 0 0, Value.int .i64 3]) w2) ((256 : Int) ≠ 0 ∧ (256 : Int) ≠ 0 ∧ ∀ (B1 : Nat) (w3 : World), New w2 (.cells #[Value.int .u8 0, Value.int .u8 0, Value.int .u8 kind, Value.int .u8 (IntKind.u8.wrap (Int.tmod ((bodyL : Nat) : Int) 256)), Value.int .u8 (IntKind.u8.wrap (IntKind.i64.wrap (Int.tdiv ((bodyL : Nat) : Int) 256)))] T.uint8) B1 w3 → appendP T.uint8 1 1 [Value.int .u8 0] (some ⟨B1, 0, none⟩) 5 5 (Value.slice body bodyL bodyC) w3 fun a1 l1 c1 w4 => ∃ (J2 : Option Addr → Nat → Nat → World → Prop) (μ1 : Option Addr → Nat → Nat → World → Nat), J2 a1 l1 c1 w4 ∧ ∀ (a2 : Option Addr) (l2 c2 : Nat), ∀ w5 : World, J2 a2 l2 c2 w5 → br (decide (((l2 : Nat) : Int) < size)) (∀ (B2 : Nat) (w6 : World), New w5 (.cells #[Value.int .u8 255] T.uint8) B2 w6 → appendP T.uint8 1 1 [Value.int .u8 0] a2 l2 c2 (Value.slice (some ⟨B2, 0, none⟩) 1 1) w6 fun a3 l3 c3 w7 => J2 a3 l3 c3 w7 ∧ μ1 a3 l3 c3 w7 < μ1 a2 l2 c2 w5) (sliceP 1 a2 l2 c2 (some (2 : Int)) none none fun a4 l4 c4 => CallsR prog K.carrackref02_Noughts #[Value.slice a4 l4 c4] w5 fun v2 w8 => ∃ x1 : Int, v2 = Value.int .i64 x1 ∧ (256 : Int) ≠ 0 ∧ (256 : Int) ≠ 0 ∧ idxP a2 l2 (0 : Int) 1 fun q1 => storeP w8 q1 [Value.int .u8 (IntKind.u8.wrap (Int.tmod x1 256))] fun w9 => idxP a2 l2 (1 : Int) 1 fun q2 => storeP w9 q2 [Value.int .u8 (IntKind.u8.wrap (IntKind.i64.wrap (Int.tdiv x1 256)))] fun w10 => R (Value.tuple #[Value.slice a2 l2 c2, Value.int .i64 0]) w10)))
theorem carrackref02_Put.sh {size : Int} {kind : Int} {body : Option Addr} {bodyL bodyC : Nat} {w : World} {R : Value → World → Prop} (h : carrackref02_Put.body size kind body bodyL bodyC w R) :
    CallsR prog K.carrackref02_Put #[Value.int .i64 size, Value.int .u8 kind, Value.slice body bodyL bodyC] w R :=
  calls_body follows (f := K.carrackref02_Put) Try.func29 ([(3, [0, 1, 2], [], [])]) ([(7, [0], [8], [Value.slice none 0 0])])
    (Eq.mp (by kernel_rfl : carrackref02_Put.body size kind body bodyL bodyC w R = bodyOf prog Try.f29 ([(3, [0, 1, 2], [], [])]) ([(7, [0], [8], [Value.slice none 0 0])]) [Value.int .i64 size, Value.int .u8 kind, Value.slice body bodyL bodyC] w R) h)
def nand_New.body (g_Blocks : Int) (g_Pages : Int) (g_Size : Int) (g_Spares : Int) (w : World) (R : Value → World → Prop) : Prop :=
  ∀ (B1 : Nat) (w1 : World), New w (.cells #[Value.int .i64 g_Blocks, Value.int .i64 g_Pages, Value.int .i64 g_Size, Value.int .i64 g_Spares] T.api_Geo) B1 w1 → ∃ x1 : Int, World.cell? w1 ⟨B1, 0, none⟩ = some (Value.int .i64 x1) ∧ ∃ x2 : Int, World.cell? w1 (Addr.add ⟨B1, 0, none⟩ 1) = some (Value.int .i64 x2) ∧ ∃ x3 : Int, World.cell? w1 (Addr.add ⟨B1, 0, none⟩ 2) = some (Value.int .i64 x3) ∧ ∃ x4 : Int, World.cell? w1 (Addr.add ⟨B1, 0, none⟩ 3) = some (Value.int .i64 x4) ∧ ∃ (J1 : Int → World → Prop) (μ1 : Int → World → Nat), J1 0 w1 ∧ ∀ x5 : Int, ∀ w2 : World, J1 x5 w2 → br (decide (x5 < 4)) (0 ≤ x5 ∧ x5 < 4 ∧ ((((True) ∧ (x5 = ((0 : Nat) : Int) → ∀ (B2 : Nat) (w3 : World), New w2 (.cells #[Value.int .i64 0, Value.int .i64 0, Value.int .i64 0] T.A3int) B2 w3 → storeP w3 ⟨B2, 0, none⟩ [Value.int .i64 x1, Value.int .i64 8, Value.int .i64 64] fun w4 => 0 ≤ (0 : Int) ∧ (0 : Int) < 3 ∧ ∃ x6 : Int, World.cell? w4 (Addr.add ⟨B2, 0, none⟩ (Int.toNat (0 : Int) * 1)) = some (Value.int .i64 x6) ∧ 0 ≤ (1 : Int) ∧ (1 : Int) < 3 ∧ ∃ x7 : Int, World.cell? w4 (Addr.add ⟨B2, 0, none⟩ (Int.toNat (1 : Int) * 1)) = some (Value.int .i64 x7) ∧ br (decide (x6 < x7)) (R (Value.tuple #[Value.pointer none, Value.int .i64 2]) w4) (0 ≤ (0 : Int) ∧ (0 : Int) < 3 ∧ ∃ x8 : Int, World.cell? w4 (Addr.add ⟨B2, 0, none⟩ (Int.toNat (0 : Int) * 1)) = some (Value.int .i64 x8) ∧ 0 ≤ (2 : Int) ∧ (2 : Int) < 3 ∧ ∃ x9 : Int, World.cell? w4 (Addr.add ⟨B2, 0, none⟩ (Int.toNat (2 : Int) * 1)) = some (Value.int .i64 x9) ∧ br (decide (x8 > x9)) (R (Value.tuple #[Value.pointer none, Value.int .i64 2]) w4) (J1 (IntKind.i64.wrap (x5 + 1)) w4 ∧ μ1 (IntKind.i64.wrap (x5 + 1)) w4 < μ1 x5 w2)))) ∧ (x5 = ((1 : Nat) : Int) → ∀ (B3 : Nat) (w5 : World), New w2 (.cells #[Value.int .i64 0, Value.int .i64 0, Value.int .i64 0] T.A3int) B3 w5 → storeP w5 ⟨B3, 0, none⟩ [Value.int .i64 x2, Value.int .i64 4, Value.int .i64 32] fun w6 => 0 ≤ (0 : Int) ∧ (0 : Int) < 3 ∧ ∃ x10 : Int, World.cell? w6 (Addr.add ⟨B3, 0, none⟩ (Int.toNat (0 : Int) * 1)) = some (Value.int .i64 x10) ∧ 0 ≤ (1 : Int) ∧ (1 : Int) < 3 ∧ ∃ x11 : Int, World.cell? w6 (Addr.add ⟨B3, 0, none⟩ (Int.toNat (1 : Int) * 1)) = some (Value.int .i64 x11) ∧ br (decide (x10 < x11)) (R (Value.tuple #[Value.pointer none, Value.int .i64 2]) w6) (0 ≤ (0 : Int) ∧ (0 : Int) < 3 ∧ ∃ x12 : Int, World.cell? w6 (Addr.add ⟨B3, 0, none⟩ (Int.toNat (0 : Int) * 1)) = some (Value.int .i64 x12) ∧ 0 ≤ (2 : Int) ∧ (2 : Int) < 3 ∧ ∃ x13 : Int, World.cell? w6 (Addr.add ⟨B3, 0, none⟩ (Int.toNat (2 : Int) * 1)) = some (Value.int .i64 x13) ∧ br (decide (x12 > x13)) (R (Value.tuple #[Value.pointer none, Value.int .i64 2]) w6) (J1 (IntKind.i64.wrap (x5 + 1)) w6 ∧ μ1 (IntKind.i64.wrap (x5 + 1)) w6 < μ1 x5 w2)))) ∧ (x5 = ((2 : Nat) : Int) → ∀ (B4 : Nat) (w7 : World), New w2 (.cells #[Value.int .i64 0, Value.int .i64 0, Value.int .i64 0] T.A3int) B4 w7 → storeP w7 ⟨B4, 0, none⟩ [Value.int .i64 x3, Value.int .i64 128, Value.int .i64 256] fun w8 => 0 ≤ (0 : Int) ∧ (0 : Int) < 3 ∧ ∃ x14 : Int, World.cell? w8 (Addr.add ⟨B4, 0, none⟩ (Int.toNat (0 : Int) * 1)) = some (Value.int .i64 x14) ∧ 0 ≤ (1 : Int) ∧ (1 : Int) < 3 ∧ ∃ x15 : Int, World.cell? w8 (Addr.add ⟨B4, 0, none⟩ (Int.toNat (1 : Int) * 1)) = some (Value.int .i64 x15) ∧ br (decide (x14 < x15)) (R (Value.tuple #[Value.pointer none, Value.int .i64 2]) w8) (0 ≤ (0 : Int) ∧ (0 : Int) < 3 ∧ ∃ x16 : Int, World.cell? w8 (Addr.add ⟨B4, 0, none⟩ (Int.toNat (0 : Int) * 1)) = some (Value.int .i64 x16) ∧ 0 ≤ (2 : Int) ∧ (2 : Int) < 3 ∧ ∃ x17 : Int, World.cell? w8 (Addr.add ⟨B4, 0, none⟩ (Int.toNat (2 : Int) * 1)) = some (Value.int .i64 x17) ∧ br (decide (x16 > x17)) (R (Value.tuple #[Value.pointer none, Value.int .i64 2]) w8) (J1 (IntKind.i64.wrap (x5 + 1)) w8 ∧ μ1 (IntKind.i64.wrap (x5 + 1)) w8 < μ1 x5 w2)))) ∧ (x5 = ((3 : Nat) : Int) → ∀ (B5 : Nat) (w9 : World), New w2 (.cells #[Value.int .i64 0, Value.int .i64 0, Value.int .i64 0] T.A3int) B5 w9 → storeP w9 ⟨B5, 0, none⟩ [Value.int .i64 x4, Value.int .i64 0, Value.int .i64 4] fun w10 => 0 ≤ (0 : Int) ∧ (0 : Int) < 3 ∧ ∃ x18 : Int, World.cell? w10 (Addr.add ⟨B5, 0, none⟩ (Int.toNat (0 : Int) * 1)) = some (Value.int .i64 x18) ∧ 0 ≤ (1 : Int) ∧ (1 : Int) < 3 ∧ ∃ x19 : Int, World.cell? w10 (Addr.add ⟨B5, 0, none⟩ (Int.toNat (1 : Int) * 1)) = some (Value.int .i64 x19) ∧ br (decide (x18 < x19)) (R (Value.tuple #[Value.pointer none, Value.int .i64 2]) w10) (0 ≤ (0 : Int) ∧ (0 : Int) < 3 ∧ ∃ x20 : Int, World.cell? w10 (Addr.add ⟨B5, 0, none⟩ (Int.toNat (0 : Int) * 1)) = some (Value.int .i64 x20) ∧ 0 ≤ (2 : Int) ∧ (2 : Int) < 3 ∧ ∃ x21 : Int, World.cell? w10 (Addr.add ⟨B5, 0, none⟩ (Int.toNat (2 : Int) * 1)) = some (Value.int .i64 x21) ∧ br (decide (x20 > x21)) (R (Value.tuple #[Value.pointer none, Value.int .i64 2]) w10) (J1 (IntKind.i64.wrap (x5 + 1)) w10 ∧ μ1 (IntKind.i64.wrap (x5 + 1)) w10 < μ1 x5 w2)))) (∀ w11 : World, Drew w2 w11 → ∃ S1 : World → Prop, S1 w11 ∧ ∃ x22 : Int, ∃ x23 : Int, ∃ x24 : Int, ∃ x25 : Int, (∀ u1, S1 u1 → cellsAt u1 ⟨B1, 0, none⟩ [Value.int .i64 x22, Value.int .i64 x23, Value.int .i64 x24, Value.int .i64 x25] 0) ∧ ∃ x26 : Int, (∀ u2, S1 u2 → World.cell? u2 ⟨B1, 0, none⟩ = some (Value.int .i64 x26)) ∧ makeSliceP T.bool 1 1 [Value.bool false] x26 x26 w11 fun a1 l1 c1 w12 => S1 w12 ∧ ∀ (B6 : Nat) (w13 : World), New w12 (.cells #[Value.int .i64 x22, Value.int .i64 x23, Value.int .i64 x24, Value.int .i64 x25, Value.slice none 0 0, Value.slice a1 l1 c1, Value.slice none 0 0, Value.int .i64 0, Value.bool false, Value.int .i64 0] T.nand_Chip) B6 w13 → S1 w13 ∧ ∃ x27 : Int, World.cell? w13 ⟨B1, 0, none⟩ = some (Value.int .i64 x27) ∧ ∃ (J2 : Int → World → Prop) (μ2 : Int → World → Nat), J2 0 w13 ∧ ∀ x28 : Int, ∀ w14 : World, J2 x28 w14 → br (decide (x28 < x27)) (∀ w15 : World, Drew w14 w15 → ∃ S2 : World → Prop, S2 w15 ∧ ∃ (a2 : Option Addr) (l2 c2 : Nat), (∀ u3, S2 u3 → World.cell? u3 (Addr.add ⟨B6, 0, none⟩ 4) = some (Value.slice a2 l2 c2)) ∧ ∃ x29 : Int, (∀ u4, S2 u4 → World.cell? u4 (Addr.add ⟨B1, 0, none⟩ 1) = some (Value.int .i64 x29)) ∧ ∃ x30 : Int, (∀ u5, S2 u5 → World.cell? u5 (Addr.add ⟨B1, 0, none⟩ 2) = some (Value.int .i64 x30)) ∧ ∀ (B7 : Nat) (w16 : World), New w15 (.cells #[Value.int .u8 255] T.uint8) B7 w16 → S2 w16 ∧ CallsR prog K.slices_Repeat_byte #[Value.slice (some ⟨B7, 0, none⟩) 1 1, Value.int .i64 (IntKind.i64.wrap (x29 * x30))] w16 fun v1 w17 => ∃ (a3 : Option Addr) (l3 c3 : Nat), v1 = Value.slice a3 l3 c3 ∧ S2 w17 ∧ ∀ (B8 : Nat) (w18 : World), New w17 (.cells #[Value.slice a3 l3 c3] T.L_uint8) B8 w18 → S2 w18 ∧ appendP T.L_uint8 1 24 [Value.slice none 0 0] a2 l2 c2 (Value.slice (some ⟨B8, 0, none⟩) 1 1) w18 fun a4 l4 c4 w19 => S2 w19 ∧ storeP w19 (Addr.add ⟨B6, 0, none⟩ 4) [Value.slice a4 l4 c4] fun w20 => J2 (IntKind.i64.wrap (x28 + 1)) w20 ∧ μ2 (IntKind.i64.wrap (x28 + 1)) w20 < μ2 x28 w14) (R (Value.tuple #[Value.pointer (some ⟨B6, 0, none⟩), Value.int .i64 0]) w14))
theorem nand_New.sh {g_Blocks : Int} {g_Pages : Int} {g_Size : Int} {g_Spares : Int} {w : World} {R : Value → World → Prop} (h : nand_New.body g_Blocks g_Pages g_Size g_Spares w R) :
    CallsR prog K.nand_New #[Value.agg #[Value.int .i64 g_Blocks, Value.int .i64 g_Pages, Value.int .i64 g_Size, Value.int .i64 g_Spares]] w R :=
  calls_body follows (f := K.nand_New) Try.func30 ([]) ([(2, [1, 19], [20], [Value.int .i64 0]), (9, [1, 6, 43], [44], [Value.int .i64 0])])
    (Eq.mp (by kernel_rfl : nand_New.body g_Blocks g_Pages g_Size g_Spares w R = bodyOf prog Try.f30 ([]) ([(2, [1, 19], [20], [Value.int .i64 0]), (9, [1, 6, 43], [44], [Value.int .i64 0])]) [Value.agg #[Value.int .i64 g_Blocks, Value.int .i64 g_Pages, Value.int .i64 g_Size, Value.int .i64 g_Spares]] w R) h)
def seal_isSize.body (n : Int) (w : World) (R : Value → World → Prop) : Prop :=
  br (decide (n ≥ 128)) (R (Value.bool (decide (n ≤ 256))) w) (R (Value.bool false) w)
theorem seal_isSize.sh {n : Int} {w : World} {R : Value → World → Prop} (h : seal_isSize.body n w R) :
    CallsR prog K.seal_isSize #[Value.int .i64 n] w R :=
  calls_body follows (f := K.seal_isSize) Try.func31 ([]) ([])
    (Eq.mp (by kernel_rfl : seal_isSize.body n w R = bodyOf prog Try.f31 ([]) ([]) [Value.int .i64 n] w R) h)
def seal_Blank.body (b : Option Addr) (bL bC : Nat) (w : World) (R : Value → World → Prop) : Prop :=
  ∃ (J1 : Int → World → Prop) (μ1 : Int → World → Nat), J1 0 w ∧ ∀ x1 : Int, ∀ w1 : World, J1 x1 w1 → br (decide (x1 < ((bL : Nat) : Int))) (idxP b bL x1 1 fun q1 => ∃ x2 : Int, World.cell? w1 q1 = some (Value.int .u8 x2) ∧ br (x2 != 255) (R (Value.bool false) w1) (J1 (IntKind.i64.wrap (x1 + 1)) w1 ∧ μ1 (IntKind.i64.wrap (x1 + 1)) w1 < μ1 x1 w1)) (R (Value.bool true) w1)
theorem seal_Blank.sh {b : Option Addr} {bL bC : Nat} {w : World} {R : Value → World → Prop} (h : seal_Blank.body b bL bC w R) :
    CallsR prog K.seal_Blank #[Value.slice b bL bC] w R :=
  calls_body follows (f := K.seal_Blank) Try.func32 ([]) ([(2, [5, 6], [7], [Value.int .i64 0])])
    (Eq.mp (by kernel_rfl : seal_Blank.body b bL bC w R = bodyOf prog Try.f32 ([]) ([(2, [5, 6], [7], [Value.int .i64 0])]) [Value.slice b bL bC] w R) h)
def ends_New.body (b : Option Addr) (bL bC : Nat) (w : World) (R : Value → World → Prop) : Prop :=
  appendP T.uint8 1 1 [Value.int .u8 0] none 0 0 (Value.slice b bL bC) w fun a1 l1 c1 w1 => ∀ (B1 : Nat) (w2 : World), New w1 (.cells #[Value.bool true, Value.slice a1 l1 c1, Value.bool false] T.ends_Reader) B1 w2 → R (Value.pointer (some ⟨B1, 0, none⟩)) w2
theorem ends_New.sh {b : Option Addr} {bL bC : Nat} {w : World} {R : Value → World → Prop} (h : ends_New.body b bL bC w R) :
    CallsR prog K.ends_New #[Value.slice b bL bC] w R :=
  calls_body follows (f := K.ends_New) Try.func33 ([]) ([])
    (Eq.mp (by kernel_rfl : ends_New.body b bL bC w R = bodyOf prog Try.f33 ([]) ([]) [Value.slice b bL bC] w R) h)
/-- (*carrack/ends.Reader).Take -/
def ends_Reader_Take.body (r : Option Addr) (size : Int) (w : World) (R : Value → World → Prop) : Prop :=
  CallsR prog K.ends_Reader_off #[Value.pointer r] w fun v1 w1 => ∃ b1 : Bool, v1 = Value.bool b1 ∧ br b1 (R (Value.tuple #[Value.int .u64 0, Value.int .i64 1]) w1) (CallsR prog K.ends_isSize #[Value.int .i64 size] w1 fun v2 w2 => ∃ b2 : Bool, v2 = Value.bool b2 ∧ br (!b2) (R (Value.tuple #[Value.int .u64 0, Value.int .i64 2]) w2) (CallsR prog K.ends_Reader_cut #[Value.pointer r, Value.int .i64 size] w2 fun v3 w3 => ∃ (a1 : Option Addr) (l1 c1 : Nat), ∃ x1 : Int, v3 = Value.tuple #[Value.slice a1 l1 c1, Value.int .i64 x1] ∧ ∃ (J1 : Int → Int → World → Prop) (μ1 : Int → Int → World → Nat), J1 0 0 w3 ∧ ∀ x2 : Int, ∀ x3 : Int, ∀ w4 : World, J1 x2 x3 w4 → br (decide (x3 < ((l1 : Nat) : Int))) (idxP a1 l1 x3 1 fun q1 => ∃ x4 : Int, World.cell? w4 q1 = some (Value.int .u8 x4) ∧ 0 ≤ (IntKind.u64.wrap (IntKind.i64.wrap ((8 : Int) * x3))) ∧ J1 (IntKind.u64.wrap ((BitVec.ofInt (IntKind.bits .u64) x2 ||| BitVec.ofInt (IntKind.bits .u64) (IntKind.u64.wrap ((IntKind.u64.wrap x4) * 2 ^ (min (Int.toNat (IntKind.u64.wrap (IntKind.i64.wrap ((8 : Int) * x3)))) (IntKind.bits .u64))))).toNat)) (IntKind.i64.wrap (x3 + 1)) w4 ∧ μ1 (IntKind.u64.wrap ((BitVec.ofInt (IntKind.bits .u64) x2 ||| BitVec.ofInt (IntKind.bits .u64) (IntKind.u64.wrap ((IntKind.u64.wrap x4) * 2 ^ (min (Int.toNat (IntKind.u64.wrap (IntKind.i64.wrap ((8 : Int) * x3)))) (IntKind.bits .u64))))).toNat)) (IntKind.i64.wrap (x3 + 1)) w4 < μ1 x2 x3 w4) (R (Value.tuple #[Value.int .u64 x2, Value.int .i64 x1]) w4)))
theorem ends_Reader_Take.sh {r : Option Addr} {size : Int} {w : World} {R : Value → World → Prop} (h : ends_Reader_Take.body r size w R) :
    CallsR prog K.ends_Reader_Take #[Value.pointer r, Value.int .i64 size] w R :=
  calls_body follows (f := K.ends_Reader_Take) Try.func34 ([]) ([(8, [7, 24, 25], [8, 26], [Value.int .u64 0, Value.int .i64 0])])
    (Eq.mp (by kernel_rfl : ends_Reader_Take.body r size w R = bodyOf prog Try.f34 ([]) ([(8, [7, 24, 25], [8, 26], [Value.int .u64 0, Value.int .i64 0])]) [Value.pointer r, Value.int .i64 size] w R) h)
def seal_Noughts.body (b : Option Addr) (bL bC : Nat) (w : World) (R : Value → World → Prop) : Prop :=
  ∃ (J1 : Int → Int → World → Prop) (μ1 : Int → Int → World → Nat), J1 0 0 w ∧ ∀ x1 : Int, ∀ x2 : Int, ∀ w1 : World, J1 x1 x2 w1 → br (decide (x2 < ((bL : Nat) : Int))) (idxP b bL x2 1 fun q1 => ∃ x3 : Int, World.cell? w1 q1 = some (Value.int .u8 x3) ∧ CallsR prog K.bits_OnesCount8 #[Value.int .u8 (IntKind.u8.wrap ((BitVec.ofInt (IntKind.bits .u8) (if IntKind.signed .u8 then -1 else IntKind.max .u8) ^^^ BitVec.ofInt (IntKind.bits .u8) x3).toNat))] w1 fun v1 w2 => ∃ x4 : Int, v1 = Value.int .i64 x4 ∧ J1 (IntKind.i64.wrap (x1 + x4)) (IntKind.i64.wrap (x2 + 1)) w2 ∧ μ1 (IntKind.i64.wrap (x1 + x4)) (IntKind.i64.wrap (x2 + 1)) w2 < μ1 x1 x2 w1) (R (Value.int .i64 x1) w1)
theorem seal_Noughts.sh {b : Option Addr} {bL bC : Nat} {w : World} {R : Value → World → Prop} (h : seal_Noughts.body b bL bC w R) :
    CallsR prog K.seal_Noughts #[Value.slice b bL bC] w R :=
  calls_body follows (f := K.seal_Noughts) Try.func35 ([]) ([(3, [6, 7], [3, 8], [Value.int .i64 0, Value.int .i64 0])])
    (Eq.mp (by kernel_rfl : seal_Noughts.body b bL bC w R = bodyOf prog Try.f35 ([]) ([(3, [6, 7], [3, 8], [Value.int .i64 0, Value.int .i64 0])]) [Value.slice b bL bC] w R) h)
def seal_Body.body (size : Int) (w : World) (R : Value → World → Prop) : Prop :=
  CallsR prog K.seal_isSize #[Value.int .i64 size] w fun v1 w1 => ∃ b1 : Bool, v1 = Value.bool b1 ∧ br (!b1) (R (Value.int .i64 0) w1) (R (Value.int .i64 (IntKind.i64.wrap (size - 5))) w1)
theorem seal_Body.sh {size : Int} {w : World} {R : Value → World → Prop} (h : seal_Body.body size w R) :
    CallsR prog K.seal_Body #[Value.int .i64 size] w R :=
  calls_body follows (f := K.seal_Body) Try.func36 ([]) ([])
    (Eq.mp (by kernel_rfl : seal_Body.body size w R = bodyOf prog Try.f36 ([]) ([]) [Value.int .i64 size] w R) h)
/-- (*carrack/pool.Pool).Taken -/
def pool_Pool_Taken.body (p : Option Addr) (w : World) (R : Value → World → Prop) : Prop :=
  CallsR prog K.pool_Pool_off #[Value.pointer p] w fun v1 w1 => ∃ b1 : Bool, v1 = Value.bool b1 ∧ br b1 (R (Value.slice none 0 0) w1) (nilC p fun q1 => ∃ (a1 : Option Addr) (l1 c1 : Nat), World.cell? w1 (Addr.add q1 1) = some (Value.slice a1 l1 c1) ∧ ∃ (J1 : Option Addr → Nat → Nat → Int → World → Prop) (μ1 : Option Addr → Nat → Nat → Int → World → Nat), J1 none 0 0 0 w1 ∧ ∀ (a2 : Option Addr) (l2 c2 : Nat), ∀ x1 : Int, ∀ w2 : World, J1 a2 l2 c2 x1 w2 → br (decide (x1 < ((l1 : Nat) : Int))) (idxP a1 l1 x1 4 fun q2 => ∃ x2 : Int, ∃ x3 : Int, ∃ x4 : Int, ∃ x5 : Int, cellsAt w2 q2 [Value.int .i64 x2, Value.int .u8 x3, Value.int .u32 x4, Value.int .u64 x5] 0 ∧ ∀ (B1 : Nat) (w3 : World), New w2 (.cells #[Value.int .i64 0, Value.int .u8 0, Value.int .u32 0, Value.int .u64 0] T.pool_block) B1 w3 → storeP w3 ⟨B1, 0, none⟩ [Value.int .i64 x2, Value.int .u8 x3, Value.int .u32 x4, Value.int .u64 x5] fun w4 => ∃ x6 : Int, World.cell? w4 ⟨B1, 0, none⟩ = some (Value.int .i64 x6) ∧ br (x6 == 2) (∀ w5 : World, Drew w4 w5 → ∃ S1 : World → Prop, S1 w5 ∧ ∃ x7 : Int, ∃ x8 : Int, ∃ x9 : Int, (∀ u1, S1 u1 → cellsAt u1 (Addr.add ⟨B1, 0, none⟩ 1) [Value.int .u8 x7, Value.int .u32 x8, Value.int .u64 x9] 0) ∧ nilC p fun q3 => ∃ p1 : Option Addr, (∀ u2, S1 u2 → World.cell? u2 q3 = some (Value.pointer p1)) ∧ CallsR prog K.nand_Chip_Bad #[Value.pointer p1, Value.int .i64 x1] w5 fun v2 w6 => ∃ b2 : Bool, v2 = Value.bool b2 ∧ S1 w6 ∧ ∀ (B2 : Nat) (w7 : World), New w6 (.cells #[Value.int .i64 x1, Value.int .u8 x7, Value.int .u32 x8, Value.int .u64 x9, Value.bool b2] T.api_Taken) B2 w7 → S1 w7 ∧ appendP T.api_Taken 5 32 [Value.int .i64 0, Value.int .u8 0, Value.int .u32 0, Value.int .u64 0, Value.bool false] a2 l2 c2 (Value.slice (some ⟨B2, 0, none⟩) 1 1) w7 fun a3 l3 c3 w8 => S1 w8 ∧ J1 a3 l3 c3 (IntKind.i64.wrap (x1 + 1)) w8 ∧ μ1 a3 l3 c3 (IntKind.i64.wrap (x1 + 1)) w8 < μ1 a2 l2 c2 x1 w2) (J1 a2 l2 c2 (IntKind.i64.wrap (x1 + 1)) w4 ∧ μ1 a2 l2 c2 (IntKind.i64.wrap (x1 + 1)) w4 < μ1 a2 l2 c2 x1 w2)) (CallsR prog K.slices_SortStableFunc_api_Taken #[Value.slice a2 l2 c2, Value.func (.func K.pool_Pool_Taken_1) #[] #[]] w2 fun v3 w9 => v3 = Value.tuple #[] ∧ R (Value.slice a2 l2 c2) w9))
theorem pool_Pool_Taken.sh {p : Option Addr} {w : World} {R : Value → World → Prop} (h : pool_Pool_Taken.body p w R) :
    CallsR prog K.pool_Pool_Taken #[Value.pointer p] w R :=
  calls_body follows (f := K.pool_Pool_Taken) Try.func37 ([]) ([(5, [0, 11, 12], [3, 13], [Value.slice none 0 0, Value.int .i64 0])])
    (Eq.mp (by kernel_rfl : pool_Pool_Taken.body p w R = bodyOf prog Try.f37 ([]) ([(5, [0, 11, 12], [3, 13], [Value.slice none 0 0, Value.int .i64 0])]) [Value.pointer p] w R) h)
/-- (*carrack/nand.Chip).Geo -/
def nand_Chip_Geo.body (c : Option Addr) (w : World) (R : Value → World → Prop) : Prop :=
  ∀ (B1 : Nat) (w1 : World), New w (.cells #[Value.int .i64 0, Value.int .i64 0, Value.int .i64 0, Value.int .i64 0] T.api_Geo) B1 w1 → CallsR prog K.nand_Chip_off #[Value.pointer c] w1 fun v1 w2 => ∃ b1 : Bool, v1 = Value.bool b1 ∧ br b1 (storeP w2 ⟨B1, 0, none⟩ [Value.int .i64 0, Value.int .i64 0, Value.int .i64 0, Value.int .i64 0] fun w3 => ∃ x1 : Int, ∃ x2 : Int, ∃ x3 : Int, ∃ x4 : Int, cellsAt w3 ⟨B1, 0, none⟩ [Value.int .i64 x1, Value.int .i64 x2, Value.int .i64 x3, Value.int .i64 x4] 0 ∧ R (Value.agg #[Value.int .i64 x1, Value.int .i64 x2, Value.int .i64 x3, Value.int .i64 x4]) w3) (nilC c fun q1 => ∃ x5 : Int, ∃ x6 : Int, ∃ x7 : Int, ∃ x8 : Int, cellsAt w2 q1 [Value.int .i64 x5, Value.int .i64 x6, Value.int .i64 x7, Value.int .i64 x8] 0 ∧ storeP w2 ⟨B1, 0, none⟩ [Value.int .i64 x5, Value.int .i64 x6, Value.int .i64 x7, Value.int .i64 x8] fun w4 => ∃ x9 : Int, ∃ x10 : Int, ∃ x11 : Int, ∃ x12 : Int, cellsAt w4 ⟨B1, 0, none⟩ [Value.int .i64 x9, Value.int .i64 x10, Value.int .i64 x11, Value.int .i64 x12] 0 ∧ R (Value.agg #[Value.int .i64 x9, Value.int .i64 x10, Value.int .i64 x11, Value.int .i64 x12]) w4)
theorem nand_Chip_Geo.sh {c : Option Addr} {w : World} {R : Value → World → Prop} (h : nand_Chip_Geo.body c w R) :
    CallsR prog K.nand_Chip_Geo #[Value.pointer c] w R :=
  calls_body follows (f := K.nand_Chip_Geo) Try.func38 ([]) ([])
    (Eq.mp (by kernel_rfl : nand_Chip_Geo.body c w R = bodyOf prog Try.f38 ([]) ([]) [Value.pointer c] w R) h)
end Go.Den
end
section
set_option linter.unusedVariables false
set_option maxRecDepth 100000
namespace Go.Den
open Go.Proofs
/-- (*carrack/nand.Chip).Read -/
def nand_Chip_Read.body (c : Option Addr) (block : Int) (page : Int) (w : World) (R : Value → World → Prop) : Prop :=
  CallsR prog K.nand_Chip_ask #[Value.pointer c, Value.int .i64 block, Value.int .i64 page] w fun v1 w1 => ∃ x1 : Int, v1 = Value.int .i64 x1 ∧ br (x1 != 0) (R (Value.tuple #[Value.slice none 0 0, Value.int .i64 x1]) w1) (CallsR prog K.nand_Chip_page #[Value.pointer c, Value.int .i64 block, Value.int .i64 page] w1 fun v2 w2 => ∃ (a1 : Option Addr) (l1 c1 : Nat), v2 = Value.slice a1 l1 c1 ∧ CallsR prog K.slices_Clone_byte #[Value.slice a1 l1 c1] w2 fun v3 w3 => ∃ (a2 : Option Addr) (l2 c2 : Nat), v3 = Value.slice a2 l2 c2 ∧ R (Value.tuple #[Value.slice a2 l2 c2, Value.int .i64 0]) w3)
theorem nand_Chip_Read.sh {c : Option Addr} {block : Int} {page : Int} {w : World} {R : Value → World → Prop} (h : nand_Chip_Read.body c block page w R) :
    CallsR prog K.nand_Chip_Read #[Value.pointer c, Value.int .i64 block, Value.int .i64 page] w R :=
  calls_body follows (f := K.nand_Chip_Read) Try.func39 ([]) ([])
    (Eq.mp (by kernel_rfl : nand_Chip_Read.body c block page w R = bodyOf prog Try.f39 ([]) ([]) [Value.pointer c, Value.int .i64 block, Value.int .i64 page] w R) h)
def jour_alive.body (p : Option Addr) (w : World) (R : Value → World → Prop) : Prop :=
  CallsR prog K.pool_Pool_Chip #[Value.pointer p] w fun v1 w1 => ∃ p1 : Option Addr, v1 = Value.pointer p1 ∧ br (Option.isNone p1) (R (Value.int .i64 1) w1) (CallsR prog K.pool_Pool_Chip #[Value.pointer p] w1 fun v2 w2 => ∃ p2 : Option Addr, v2 = Value.pointer p2 ∧ CallsR prog K.nand_Chip_Read #[Value.pointer p2, Value.int .i64 0, Value.int .i64 0] w2 fun v3 w3 => ∃ (a1 : Option Addr) (l1 c1 : Nat), ∃ x1 : Int, v3 = Value.tuple #[Value.slice a1 l1 c1, Value.int .i64 x1] ∧ R (Value.int .i64 x1) w3)
theorem jour_alive.sh {p : Option Addr} {w : World} {R : Value → World → Prop} (h : jour_alive.body p w R) :
    CallsR prog K.jour_alive #[Value.pointer p] w R :=
  calls_body follows (f := K.jour_alive) Try.func40 ([]) ([])
    (Eq.mp (by kernel_rfl : jour_alive.body p w R = bodyOf prog Try.f40 ([]) ([]) [Value.pointer p] w R) h)
/-- (*carrack/pool.Pool).Chip -/
def pool_Pool_Chip.body (p : Option Addr) (w : World) (R : Value → World → Prop) : Prop :=
  CallsR prog K.pool_Pool_off #[Value.pointer p] w fun v1 w1 => ∃ b1 : Bool, v1 = Value.bool b1 ∧ br b1 (R (Value.pointer none) w1) (nilC p fun q1 => ∃ p1 : Option Addr, World.cell? w1 q1 = some (Value.pointer p1) ∧ R (Value.pointer p1) w1)
theorem pool_Pool_Chip.sh {p : Option Addr} {w : World} {R : Value → World → Prop} (h : pool_Pool_Chip.body p w R) :
    CallsR prog K.pool_Pool_Chip #[Value.pointer p] w R :=
  calls_body follows (f := K.pool_Pool_Chip) Try.func41 ([]) ([])
    (Eq.mp (by kernel_rfl : pool_Pool_Chip.body p w R = bodyOf prog Try.f41 ([]) ([]) [Value.pointer p] w R) h)
/-- (*carrack/pool.Pool).Take -/
def pool_Pool_Take.body (y0a : Option Addr) (y1a : Int) (y2a : Int) (w : World) (R : Value → World → Prop) : Prop :=
  CallsR prog K.pool_Pool_off #[Value.pointer y0a] w fun v1 w1 => ∃ b1 : Bool, v1 = Value.bool b1 ∧ br b1 (R (Value.tuple #[Value.int .i64 0, Value.int .i64 1]) w1) (∃ J1 : World → Prop, (br (decide (y1a < 1)) (R (Value.tuple #[Value.int .i64 0, Value.int .i64 2]) w1) (br (decide (y1a > 3)) (R (Value.tuple #[Value.int .i64 0, Value.int .i64 2]) w1) (br (decide (y2a < 1)) (R (Value.tuple #[Value.int .i64 0, Value.int .i64 2]) w1) (J1 w1)))) ∧ (∀ w2 : World, J1 w2 → CallsR prog K.pool_Pool_alive #[Value.pointer y0a] w2 fun v2 w3 => ∃ x1 : Int, v2 = Value.int .i64 x1 ∧ br (x1 != 0) (R (Value.tuple #[Value.int .i64 0, Value.int .i64 x1]) w3) (nilC y0a fun q1 => ∃ (a1 : Option Addr) (l1 c1 : Nat), World.cell? w3 (Addr.add q1 1) = some (Value.slice a1 l1 c1) ∧ ∃ (J2 : Int → World → Prop) (μ1 : Int → World → Nat), J2 0 w3 ∧ ∀ x2 : Int, ∀ w4 : World, J2 x2 w4 → br (decide (x2 < ((l1 : Nat) : Int))) (nilC y0a fun q2 => ∃ x3 : Int, World.cell? w4 (Addr.add q2 3) = some (Value.int .i64 x3) ∧ ((l1 : Nat) : Int) ≠ 0 ∧ nilC y0a fun q3 => ∃ p1 : Option Addr, World.cell? w4 q3 = some (Value.pointer p1) ∧ CallsR prog K.nand_Chip_Bad #[Value.pointer p1, Value.int .i64 (Int.tmod (IntKind.i64.wrap (x3 + x2)) ((l1 : Nat) : Int))] w4 fun v3 w5 => ∃ b2 : Bool, v3 = Value.bool b2 ∧ br b2 (J2 (IntKind.i64.wrap (x2 + 1)) w5 ∧ μ1 (IntKind.i64.wrap (x2 + 1)) w5 < μ1 x2 w4) (nilC y0a fun q4 => ∃ (a2 : Option Addr) (l2 c2 : Nat), World.cell? w5 (Addr.add q4 1) = some (Value.slice a2 l2 c2) ∧ idxP a2 l2 (Int.tmod (IntKind.i64.wrap (x3 + x2)) ((l1 : Nat) : Int)) 4 fun q5 => ∃ x4 : Int, World.cell? w5 q5 = some (Value.int .i64 x4) ∧ br (x4 == 2) (J2 (IntKind.i64.wrap (x2 + 1)) w5 ∧ μ1 (IntKind.i64.wrap (x2 + 1)) w5 < μ1 x2 w4) (CallsR prog K.pool_Pool_try #[Value.pointer y0a, Value.int .i64 (Int.tmod (IntKind.i64.wrap (x3 + x2)) ((l1 : Nat) : Int)), Value.int .u8 y1a, Value.int .u32 y2a] w5 fun v4 w6 => ∃ x5 : Int, v4 = Value.int .i64 x5 ∧ br (x5 == 0) (nilC y0a fun q6 => storeP w6 (Addr.add q6 3) [Value.int .i64 (IntKind.i64.wrap ((Int.tmod (IntKind.i64.wrap (x3 + x2)) ((l1 : Nat) : Int)) + 1))] fun w7 => R (Value.tuple #[Value.int .i64 (Int.tmod (IntKind.i64.wrap (x3 + x2)) ((l1 : Nat) : Int)), Value.int .i64 0]) w7) (br (x5 == 10) (R (Value.tuple #[Value.int .i64 0, Value.int .i64 x5]) w6) (J2 (IntKind.i64.wrap (x2 + 1)) w6 ∧ μ1 (IntKind.i64.wrap (x2 + 1)) w6 < μ1 x2 w4))))) (R (Value.tuple #[Value.int .i64 0, Value.int .i64 11]) w4))))
theorem pool_Pool_Take.sh {y0a : Option Addr} {y1a : Int} {y2a : Int} {w : World} {R : Value → World → Prop} (h : pool_Pool_Take.body y0a y1a y2a w R) :
    CallsR prog K.pool_Pool_Take #[Value.pointer y0a, Value.int .u8 y1a, Value.int .u32 y2a] w R :=
  calls_body follows (f := K.pool_Pool_Take) Try.func42 ([(5, [0, 1, 2], [], [])]) ([(10, [0, 1, 2, 9, 35], [36], [Value.int .i64 0])])
    (Eq.mp (by kernel_rfl : pool_Pool_Take.body y0a y1a y2a w R = bodyOf prog Try.f42 ([(5, [0, 1, 2], [], [])]) ([(10, [0, 1, 2, 9, 35], [36], [Value.int .i64 0])]) [Value.pointer y0a, Value.int .u8 y1a, Value.int .u32 y2a] w R) h)
/-- (*carrack/nand.Chip).Program -/
def nand_Chip_Program.body (c : Option Addr) (block : Int) (page : Int) (b : Option Addr) (bL bC : Nat) (w : World) (R : Value → World → Prop) : Prop :=
  ∀ (B1 : Nat) (w1 : World), New w (.cells #[Value.slice b bL bC] T.L_uint8) B1 w1 → CallsR prog K.nand_Chip_ask #[Value.pointer c, Value.int .i64 block, Value.int .i64 page] w1 fun v1 w2 => ∃ x1 : Int, v1 = Value.int .i64 x1 ∧ br (x1 != 0) (R (Value.int .i64 x1) w2) (∀ w3 : World, Drew w2 w3 → ∃ S1 : World → Prop, S1 w3 ∧ ∃ (a1 : Option Addr) (l1 c1 : Nat), (∀ u1, S1 u1 → World.cell? u1 ⟨B1, 0, none⟩ = some (Value.slice a1 l1 c1)) ∧ nilC c fun q1 => ∃ x2 : Int, (∀ u2, S1 u2 → World.cell? u2 (Addr.add q1 2) = some (Value.int .i64 x2)) ∧ br (((l1 : Nat) : Int) != x2) (R (Value.int .i64 2) w3) (nilC c fun q2 => ∃ (a2 : Option Addr) (l2 c2 : Nat), World.cell? w3 (Addr.add q2 5) = some (Value.slice a2 l2 c2) ∧ idxP a2 l2 block 1 fun q3 => ∃ b1 : Bool, World.cell? w3 q3 = some (Value.bool b1) ∧ br b1 (R (Value.int .i64 9) w3) (∀ w4 : World, Drew w3 w4 → ∃ S2 : World → Prop, S2 w4 ∧ nilC c fun q4 => ∃ (a3 : Option Addr) (l3 c3 : Nat), (∀ u3, S2 u3 → World.cell? u3 (Addr.add q4 4) = some (Value.slice a3 l3 c3)) ∧ idxP a3 l3 block 1 fun q5 => ∃ (a4 : Option Addr) (l4 c4 : Nat), (∀ u4, S2 u4 → World.cell? u4 q5 = some (Value.slice a4 l4 c4)) ∧ nilC c fun q6 => ∃ x3 : Int, (∀ u5, S2 u5 → World.cell? u5 (Addr.add q6 2) = some (Value.int .i64 x3)) ∧ sliceP 1 a4 l4 c4 (some (IntKind.i64.wrap (page * x3))) none none fun a5 l5 c5 => CallsR prog K.seal_Blank #[Value.slice a5 l5 c5] w4 fun v2 w5 => ∃ b2 : Bool, v2 = Value.bool b2 ∧ S2 w5 ∧ br (!b2) (R (Value.int .i64 8) w5) (CallsR prog K.nand_Chip_page #[Value.pointer c, Value.int .i64 block, Value.int .i64 page] w5 fun v3 w6 => ∃ (a6 : Option Addr) (l6 c6 : Nat), v3 = Value.slice a6 l6 c6 ∧ CallsR prog K.nand_Chip_done #[Value.pointer c, Value.int .i64 block, Value.slice a6 l6 c6, Value.func (.func K.nand_Chip_Program_1) #[] #[Value.pointer (some ⟨B1, 0, none⟩)]] w6 fun v4 w7 => ∃ x4 : Int, v4 = Value.int .i64 x4 ∧ R (Value.int .i64 x4) w7))))
theorem nand_Chip_Program.sh {c : Option Addr} {block : Int} {page : Int} {b : Option Addr} {bL bC : Nat} {w : World} {R : Value → World → Prop} (h : nand_Chip_Program.body c block page b bL bC w R) :
    CallsR prog K.nand_Chip_Program #[Value.pointer c, Value.int .i64 block, Value.int .i64 page, Value.slice b bL bC] w R :=
  calls_body follows (f := K.nand_Chip_Program) Try.func43 ([]) ([])
    (Eq.mp (by kernel_rfl : nand_Chip_Program.body c block page b bL bC w R = bodyOf prog Try.f43 ([]) ([]) [Value.pointer c, Value.int .i64 block, Value.int .i64 page, Value.slice b bL bC] w R) h)
/-- (*carrack/pool.Pool).Free -/
def pool_Pool_Free.body (p : Option Addr) (i : Int) (w : World) (R : Value → World → Prop) : Prop :=
  CallsR prog K.pool_Pool_off #[Value.pointer p] w fun v1 w1 => ∃ b1 : Bool, v1 = Value.bool b1 ∧ br b1 (R (Value.int .i64 1) w1) (br (decide (i < 0)) (R (Value.int .i64 12) w1) (nilC p fun q1 => ∃ (a1 : Option Addr) (l1 c1 : Nat), World.cell? w1 (Addr.add q1 1) = some (Value.slice a1 l1 c1) ∧ br (decide (i ≥ ((l1 : Nat) : Int))) (R (Value.int .i64 12) w1) (nilC p fun q2 => ∃ (a2 : Option Addr) (l2 c2 : Nat), World.cell? w1 (Addr.add q2 1) = some (Value.slice a2 l2 c2) ∧ idxP a2 l2 i 4 fun q3 => ∃ x1 : Int, World.cell? w1 q3 = some (Value.int .i64 x1) ∧ br (x1 != 2) (R (Value.int .i64 12) w1) (nilC p fun q4 => ∃ p1 : Option Addr, World.cell? w1 q4 = some (Value.pointer p1) ∧ CallsR prog K.nand_Chip_Bad #[Value.pointer p1, Value.int .i64 i] w1 fun v2 w2 => ∃ b2 : Bool, v2 = Value.bool b2 ∧ br b2 (R (Value.int .i64 12) w2) (nilC p fun q5 => ∃ p2 : Option Addr, World.cell? w2 q5 = some (Value.pointer p2) ∧ CallsR prog K.nand_Chip_Erase #[Value.pointer p2, Value.int .i64 i] w2 fun v3 w3 => ∃ x2 : Int, v3 = Value.int .i64 x2 ∧ CallsR prog K.pool_Pool_look #[Value.pointer p, Value.int .i64 i] w3 fun v4 w4 => v4 = Value.tuple #[] ∧ br (x2 == 9) (R (Value.int .i64 0) w4) (R (Value.int .i64 x2) w4))))))
theorem pool_Pool_Free.sh {p : Option Addr} {i : Int} {w : World} {R : Value → World → Prop} (h : pool_Pool_Free.body p i w R) :
    CallsR prog K.pool_Pool_Free #[Value.pointer p, Value.int .i64 i] w R :=
  calls_body follows (f := K.pool_Pool_Free) Try.func44 ([]) ([])
    (Eq.mp (by kernel_rfl : pool_Pool_Free.body p i w R = bodyOf prog Try.f44 ([]) ([]) [Value.pointer p, Value.int .i64 i] w R) h)
def carrackref04_Of.body (c : Option Addr) (kind : Int) (era : Int) (w : World) (R : Value → World → Prop) : Prop :=
  CallsR prog K.carrackref04_Taken #[Value.pointer c] w fun v1 w1 => ∃ (a1 : Option Addr) (l1 c1 : Nat), v1 = Value.slice a1 l1 c1 ∧ ∃ (J1 : Option Addr → Nat → Nat → Int → World → Prop) (μ1 : Option Addr → Nat → Nat → Int → World → Nat), J1 none 0 0 0 w1 ∧ ∀ (a2 : Option Addr) (l2 c2 : Nat), ∀ x1 : Int, ∀ w2 : World, J1 a2 l2 c2 x1 w2 → br (decide (x1 < ((l1 : Nat) : Int))) (idxP a1 l1 x1 5 fun q1 => ∃ x2 : Int, World.cell? w2 (Addr.add q1 1) = some (Value.int .u8 x2) ∧ br (x2 == kind) (idxP a1 l1 x1 5 fun q2 => ∃ x3 : Int, World.cell? w2 (Addr.add (Addr.add q2 1) 1) = some (Value.int .u32 x3) ∧ br (x3 == era) (idxP a1 l1 x1 5 fun q3 => ∃ x4 : Int, ∃ x5 : Int, ∃ x6 : Int, ∃ x7 : Int, ∃ b1 : Bool, cellsAt w2 q3 [Value.int .i64 x4, Value.int .u8 x5, Value.int .u32 x6, Value.int .u64 x7, Value.bool b1] 0 ∧ ∀ (B1 : Nat) (w3 : World), New w2 (.cells #[Value.int .i64 x4, Value.int .u8 x5, Value.int .u32 x6, Value.int .u64 x7, Value.bool b1] T.api_Taken) B1 w3 → appendP T.api_Taken 5 32 [Value.int .i64 0, Value.int .u8 0, Value.int .u32 0, Value.int .u64 0, Value.bool false] a2 l2 c2 (Value.slice (some ⟨B1, 0, none⟩) 1 1) w3 fun a3 l3 c3 w4 => J1 a3 l3 c3 (IntKind.i64.wrap (x1 + 1)) w4 ∧ μ1 a3 l3 c3 (IntKind.i64.wrap (x1 + 1)) w4 < μ1 a2 l2 c2 x1 w2) (J1 a2 l2 c2 (IntKind.i64.wrap (x1 + 1)) w2 ∧ μ1 a2 l2 c2 (IntKind.i64.wrap (x1 + 1)) w2 < μ1 a2 l2 c2 x1 w2)) (J1 a2 l2 c2 (IntKind.i64.wrap (x1 + 1)) w2 ∧ μ1 a2 l2 c2 (IntKind.i64.wrap (x1 + 1)) w2 < μ1 a2 l2 c2 x1 w2)) (R (Value.slice a2 l2 c2) w2)
theorem carrackref04_Of.sh {c : Option Addr} {kind : Int} {era : Int} {w : World} {R : Value → World → Prop} (h : carrackref04_Of.body c kind era w R) :
    CallsR prog K.carrackref04_Of #[Value.pointer c, Value.int .u8 kind, Value.int .u32 era] w R :=
  calls_body follows (f := K.carrackref04_Of) Try.func45 ([]) ([(4, [1, 2, 8], [7, 9], [Value.slice none 0 0, Value.int .i64 0])])
    (Eq.mp (by kernel_rfl : carrackref04_Of.body c kind era w R = bodyOf prog Try.f45 ([]) ([(4, [1, 2, 8], [7, 9], [Value.slice none 0 0, Value.int .i64 0])]) [Value.pointer c, Value.int .u8 kind, Value.int .u32 era] w R) h)
def carrackref02_Get.body (y0a : Option Addr) (y0aL y0aC : Nat) (w : World) (R : Value → World → Prop) : Prop :=
  CallsR prog K.carrackref02_Size #[Value.int .i64 ((y0aL : Nat) : Int)] w fun v1 w1 => ∃ b1 : Bool, v1 = Value.bool b1 ∧ br (!b1) (R (Value.tuple #[Value.int .u8 0, Value.slice none 0 0, Value.int .i64 2]) w1) (CallsR prog K.carrackref02_Blank #[Value.slice y0a y0aL y0aC] w1 fun v2 w2 => ∃ b2 : Bool, v2 = Value.bool b2 ∧ br b2 (R (Value.tuple #[Value.int .u8 0, Value.slice none 0 0, Value.int .i64 6]) w2) (∀ w3 : World, Drew w2 w3 → ∃ S1 : World → Prop, S1 w3 ∧ idxP y0a y0aL (0 : Int) 1 fun q1 => ∃ x1 : Int, (∀ u1, S1 u1 → World.cell? u1 q1 = some (Value.int .u8 x1)) ∧ idxP y0a y0aL (1 : Int) 1 fun q2 => ∃ x2 : Int, (∀ u2, S1 u2 → World.cell? u2 q2 = some (Value.int .u8 x2)) ∧ sliceP 1 y0a y0aL y0aC (some (2 : Int)) none none fun a1 l1 c1 => CallsR prog K.carrackref02_Noughts #[Value.slice a1 l1 c1] w3 fun v3 w4 => ∃ x3 : Int, v3 = Value.int .i64 x3 ∧ S1 w4 ∧ br ((IntKind.i64.wrap ((IntKind.i64.wrap x1) + (IntKind.i64.wrap ((256 : Int) * (IntKind.i64.wrap x2))))) != x3) (R (Value.tuple #[Value.int .u8 0, Value.slice none 0 0, Value.int .i64 7]) w4) (∀ w5 : World, Drew w4 w5 → ∃ S2 : World → Prop, S2 w5 ∧ idxP y0a y0aL (3 : Int) 1 fun q3 => ∃ x4 : Int, (∀ u3, S2 u3 → World.cell? u3 q3 = some (Value.int .u8 x4)) ∧ idxP y0a y0aL (4 : Int) 1 fun q4 => ∃ x5 : Int, (∀ u4, S2 u4 → World.cell? u4 q4 = some (Value.int .u8 x5)) ∧ idxP y0a y0aL (2 : Int) 1 fun q5 => ∃ x6 : Int, World.cell? w5 q5 = some (Value.int .u8 x6) ∧ br (decide (x6 < 1)) (R (Value.tuple #[Value.int .u8 0, Value.slice none 0 0, Value.int .i64 5]) w5) (idxP y0a y0aL (2 : Int) 1 fun q6 => ∃ x7 : Int, World.cell? w5 q6 = some (Value.int .u8 x7) ∧ br (decide (x7 > 7)) (R (Value.tuple #[Value.int .u8 0, Value.slice none 0 0, Value.int .i64 5]) w5) (br (decide ((IntKind.i64.wrap ((IntKind.i64.wrap x4) + (IntKind.i64.wrap ((256 : Int) * (IntKind.i64.wrap x5))))) > (IntKind.i64.wrap (((y0aL : Nat) : Int) - 5)))) (R (Value.tuple #[Value.int .u8 0, Value.slice none 0 0, Value.int .i64 5]) w5) (sliceP 1 y0a y0aL y0aC (some (IntKind.i64.wrap ((5 : Int) + (IntKind.i64.wrap ((IntKind.i64.wrap x4) + (IntKind.i64.wrap ((256 : Int) * (IntKind.i64.wrap x5)))))))) none none fun a2 l2 c2 => CallsR prog K.carrackref02_Blank #[Value.slice a2 l2 c2] w5 fun v4 w6 => ∃ b3 : Bool, v4 = Value.bool b3 ∧ br (!b3) (R (Value.tuple #[Value.int .u8 0, Value.slice none 0 0, Value.int .i64 5]) w6) (∀ w7 : World, Drew w6 w7 → ∃ S3 : World → Prop, S3 w7 ∧ idxP y0a y0aL (2 : Int) 1 fun q7 => ∃ x8 : Int, (∀ u5, S3 u5 → World.cell? u5 q7 = some (Value.int .u8 x8)) ∧ sliceP 1 y0a y0aL y0aC (some (5 : Int)) (some (IntKind.i64.wrap ((5 : Int) + (IntKind.i64.wrap ((IntKind.i64.wrap x4) + (IntKind.i64.wrap ((256 : Int) * (IntKind.i64.wrap x5)))))))) none fun a3 l3 c3 => appendP T.uint8 1 1 [Value.int .u8 0] none 0 0 (Value.slice a3 l3 c3) w7 fun a4 l4 c4 w8 => S3 w8 ∧ R (Value.tuple #[Value.int .u8 x8, Value.slice a4 l4 c4, Value.int .i64 0]) w8)))))))
theorem carrackref02_Get.sh {y0a : Option Addr} {y0aL y0aC : Nat} {w : World} {R : Value → World → Prop} (h : carrackref02_Get.body y0a y0aL y0aC w R) :
    CallsR prog K.carrackref02_Get #[Value.slice y0a y0aL y0aC] w R :=
  calls_body follows (f := K.carrackref02_Get) Try.func46 ([]) ([])
    (Eq.mp (by kernel_rfl : carrackref02_Get.body y0a y0aL y0aC w R = bodyOf prog Try.f46 ([]) ([]) [Value.slice y0a y0aL y0aC] w R) h)
/-- (*carrack/pool.Pool).look -/
def pool_Pool_look.body (p : Option Addr) (i : Int) (w : World) (R : Value → World → Prop) : Prop :=
  ∀ (B1 : Nat) (w1 : World), New w (.cells #[Value.int .i64 0, Value.int .u8 0, Value.int .u32 0, Value.int .u64 0] T.pool_block) B1 w1 → storeP w1 ⟨B1, 0, none⟩ [Value.int .i64 0, Value.int .u8 0, Value.int .u32 0, Value.int .u64 0] fun w2 => nilC p fun q1 => ∃ p1 : Option Addr, World.cell? w2 q1 = some (Value.pointer p1) ∧ CallsR prog K.nand_Chip_Geo #[Value.pointer p1] w2 fun v1 w3 => ∃ x1 : Int, ∃ x2 : Int, ∃ x3 : Int, ∃ x4 : Int, v1 = Value.agg #[Value.int .i64 x1, Value.int .i64 x2, Value.int .i64 x3, Value.int .i64 x4] ∧ ∃ (J1 : Int → World → Prop) (μ1 : Int → World → Nat), J1 0 w3 ∧ ∀ x5 : Int, ∀ w4 : World, J1 x5 w4 → br (decide (x5 < x2)) (nilC p fun q2 => ∃ p2 : Option Addr, World.cell? w4 q2 = some (Value.pointer p2) ∧ CallsR prog K.nand_Chip_Read #[Value.pointer p2, Value.int .i64 i, Value.int .i64 x5] w4 fun v2 w5 => ∃ (a1 : Option Addr) (l1 c1 : Nat), ∃ x6 : Int, v2 = Value.tuple #[Value.slice a1 l1 c1, Value.int .i64 x6] ∧ br (x6 != 0) (R (Value.tuple #[]) w5) (CallsR prog K.pool_GetHead #[Value.slice a1 l1 c1] w5 fun v3 w6 => ∃ x7 : Int, ∃ x8 : Int, ∃ x9 : Int, ∃ x10 : Int, v3 = Value.tuple #[Value.agg #[Value.int .u8 x7, Value.int .u32 x8, Value.int .u64 x9], Value.int .i64 x10] ∧ ∀ (B2 : Nat) (w7 : World), New w6 (.cells #[Value.int .u8 0, Value.int .u32 0, Value.int .u64 0] T.api_Head) B2 w7 → storeP w7 ⟨B2, 0, none⟩ [Value.int .u8 x7, Value.int .u32 x8, Value.int .u64 x9] fun w8 => br (x5 == 0) (br (x10 == 0) (∀ w9 : World, Drew w8 w9 → ∃ S1 : World → Prop, S1 w9 ∧ nilC p fun q3 => ∃ (a2 : Option Addr) (l2 c2 : Nat), (∀ u1, S1 u1 → World.cell? u1 (Addr.add q3 1) = some (Value.slice a2 l2 c2)) ∧ ∃ x11 : Int, ∃ x12 : Int, ∃ x13 : Int, (∀ u2, S1 u2 → cellsAt u2 ⟨B2, 0, none⟩ [Value.int .u8 x11, Value.int .u32 x12, Value.int .u64 x13] 0) ∧ idxP a2 l2 i 4 fun q4 => storeP w9 q4 [Value.int .i64 2, Value.int .u8 x11, Value.int .u32 x12, Value.int .u64 x13] fun w10 => R (Value.tuple #[]) w10) (CallsR prog K.seal_Blank #[Value.slice a1 l1 c1] w8 fun v4 w11 => ∃ b1 : Bool, v4 = Value.bool b1 ∧ br (!b1) (storeP w11 ⟨B1, 0, none⟩ [Value.int .i64 1] fun w12 => J1 (IntKind.i64.wrap (x5 + 1)) w12 ∧ μ1 (IntKind.i64.wrap (x5 + 1)) w12 < μ1 x5 w4) (J1 (IntKind.i64.wrap (x5 + 1)) w11 ∧ μ1 (IntKind.i64.wrap (x5 + 1)) w11 < μ1 x5 w4))) (CallsR prog K.seal_Blank #[Value.slice a1 l1 c1] w8 fun v5 w13 => ∃ b2 : Bool, v5 = Value.bool b2 ∧ br (!b2) (storeP w13 ⟨B1, 0, none⟩ [Value.int .i64 1] fun w14 => J1 (IntKind.i64.wrap (x5 + 1)) w14 ∧ μ1 (IntKind.i64.wrap (x5 + 1)) w14 < μ1 x5 w4) (J1 (IntKind.i64.wrap (x5 + 1)) w13 ∧ μ1 (IntKind.i64.wrap (x5 + 1)) w13 < μ1 x5 w4)))) (∀ w15 : World, Drew w4 w15 → ∃ S2 : World → Prop, S2 w15 ∧ nilC p fun q5 => ∃ (a3 : Option Addr) (l3 c3 : Nat), (∀ u3, S2 u3 → World.cell? u3 (Addr.add q5 1) = some (Value.slice a3 l3 c3)) ∧ ∃ x14 : Int, ∃ x15 : Int, ∃ x16 : Int, ∃ x17 : Int, (∀ u4, S2 u4 → cellsAt u4 ⟨B1, 0, none⟩ [Value.int .i64 x14, Value.int .u8 x15, Value.int .u32 x16, Value.int .u64 x17] 0) ∧ idxP a3 l3 i 4 fun q6 => storeP w15 q6 [Value.int .i64 x14, Value.int .u8 x15, Value.int .u32 x16, Value.int .u64 x17] fun w16 => R (Value.tuple #[]) w16)
theorem pool_Pool_look.sh {p : Option Addr} {i : Int} {w : World} {R : Value → World → Prop} (h : pool_Pool_look.body p i w R) :
    CallsR prog K.pool_Pool_look #[Value.pointer p, Value.int .i64 i] w R :=
  calls_body follows (f := K.pool_Pool_look) Try.func47 ([]) ([(2, [0, 1, 4, 16], [17], [Value.int .i64 0])])
    (Eq.mp (by kernel_rfl : pool_Pool_look.body p i w R = bodyOf prog Try.f47 ([]) ([(2, [0, 1, 4, 16], [17], [Value.int .i64 0])]) [Value.pointer p, Value.int .i64 i] w R) h)
/-- (*carrack/nand.Chip).off -/
def nand_Chip_off.body (c : Option Addr) (w : World) (R : Value → World → Prop) : Prop :=
  br (Option.isNone c) (R (Value.bool true) w) (nilC c fun q1 => ∃ (a1 : Option Addr) (l1 c1 : Nat), World.cell? w (Addr.add q1 4) = some (Value.slice a1 l1 c1) ∧ R (Value.bool (Option.isNone a1)) w)
theorem nand_Chip_off.sh {c : Option Addr} {w : World} {R : Value → World → Prop} (h : nand_Chip_off.body c w R) :
    CallsR prog K.nand_Chip_off #[Value.pointer c] w R :=
  calls_body follows (f := K.nand_Chip_off) Try.func48 ([]) ([])
    (Eq.mp (by kernel_rfl : nand_Chip_off.body c w R = bodyOf prog Try.f48 ([]) ([]) [Value.pointer c] w R) h)
/-- slices.ContainsFunc[[]carrack/api.Hit,carrack/api.Hit] -/
def slices_ContainsFunc_api_Hit.body (s : Option Addr) (sL sC : Nat) (f : Value) (w : World) (R : Value → World → Prop) : Prop :=
  CallsR prog K.slices_IndexFunc_api_Hit #[Value.slice s sL sC, f] w fun v1 w1 => ∃ x1 : Int, v1 = Value.int .i64 x1 ∧ R (Value.bool (decide (x1 ≥ 0))) w1
theorem slices_ContainsFunc_api_Hit.sh {s : Option Addr} {sL sC : Nat} {f : Value} {w : World} {R : Value → World → Prop} (h : slices_ContainsFunc_api_Hit.body s sL sC f w R) :
    CallsR prog K.slices_ContainsFunc_api_Hit #[Value.slice s sL sC, f] w R :=
  calls_body follows (f := K.slices_ContainsFunc_api_Hit) Try.func49 ([]) ([])
    (Eq.mp (by kernel_rfl : slices_ContainsFunc_api_Hit.body s sL sC f w R = bodyOf prog Try.f49 ([]) ([]) [Value.slice s sL sC, f] w R) h)
/-- (*carrack/nand.Chip).Hits$1 -/
def nand_Chip_Hits_1.body (h_After : Int) (h_Fails : Bool) (h_Mask : Option Addr) (h_MaskL h_MaskC : Nat) (w : World) (R : Value → World → Prop) : Prop :=
  ∀ (B1 : Nat) (w1 : World), New w (.cells #[Value.int .i64 h_After, Value.bool h_Fails, Value.slice h_Mask h_MaskL h_MaskC] T.api_Hit) B1 w1 → ∃ x1 : Int, World.cell? w1 ⟨B1, 0, none⟩ = some (Value.int .i64 x1) ∧ R (Value.bool (decide (x1 < 0))) w1
theorem nand_Chip_Hits_1.sh {h_After : Int} {h_Fails : Bool} {h_Mask : Option Addr} {h_MaskL h_MaskC : Nat} {w : World} {R : Value → World → Prop} (h : nand_Chip_Hits_1.body h_After h_Fails h_Mask h_MaskL h_MaskC w R) :
    CallsR prog K.nand_Chip_Hits_1 #[Value.agg #[Value.int .i64 h_After, Value.bool h_Fails, Value.slice h_Mask h_MaskL h_MaskC]] w R :=
  calls_body follows (f := K.nand_Chip_Hits_1) Try.func50 ([]) ([])
    (Eq.mp (by kernel_rfl : nand_Chip_Hits_1.body h_After h_Fails h_Mask h_MaskL h_MaskC w R = bodyOf prog Try.f50 ([]) ([]) [Value.agg #[Value.int .i64 h_After, Value.bool h_Fails, Value.slice h_Mask h_MaskL h_MaskC]] w R) h)
/-- slices.Clone[[]byte,byte] -/
def slices_Clone_byte.body (s : Option Addr) (sL sC : Nat) (w : World) (R : Value → World → Prop) : Prop :=
  br (Option.isNone s) (R (Value.slice none 0 0) w) (∀ (B1 : Nat) (w1 : World), New w (.cells #[] T.uint8) B1 w1 → appendP T.uint8 1 1 [Value.int .u8 0] (some ⟨B1, 0, none⟩) 0 0 (Value.slice s sL sC) w1 fun a1 l1 c1 w2 => R (Value.slice a1 l1 c1) w2)
theorem slices_Clone_byte.sh {s : Option Addr} {sL sC : Nat} {w : World} {R : Value → World → Prop} (h : slices_Clone_byte.body s sL sC w R) :
    CallsR prog K.slices_Clone_byte #[Value.slice s sL sC] w R :=
  calls_body follows (f := K.slices_Clone_byte) Try.func51 ([]) ([])
    (Eq.mp (by kernel_rfl : slices_Clone_byte.body s sL sC w R = bodyOf prog Try.f51 ([]) ([]) [Value.slice s sL sC] w R) h)
/-- slices.Clone[[]bool,bool] -/
def slices_Clone_bool.body (s : Option Addr) (sL sC : Nat) (w : World) (R : Value → World → Prop) : Prop :=
  br (Option.isNone s) (R (Value.slice none 0 0) w) (∀ (B1 : Nat) (w1 : World), New w (.cells #[] T.bool) B1 w1 → appendP T.bool 1 1 [Value.bool false] (some ⟨B1, 0, none⟩) 0 0 (Value.slice s sL sC) w1 fun a1 l1 c1 w2 => R (Value.slice a1 l1 c1) w2)
theorem slices_Clone_bool.sh {s : Option Addr} {sL sC : Nat} {w : World} {R : Value → World → Prop} (h : slices_Clone_bool.body s sL sC w R) :
    CallsR prog K.slices_Clone_bool #[Value.slice s sL sC] w R :=
  calls_body follows (f := K.slices_Clone_bool) Try.func52 ([]) ([])
    (Eq.mp (by kernel_rfl : slices_Clone_bool.body s sL sC w R = bodyOf prog Try.f52 ([]) ([]) [Value.slice s sL sC] w R) h)
def carrackref04_Head.body (c : Option Addr) (block : Int) (w : World) (R : Value → World → Prop) : Prop :=
  ∀ (B1 : Nat) (w1 : World), New w (.cells #[Value.int .u8 0, Value.int .u32 0, Value.int .u64 0] T.api_Head) B1 w1 → CallsR prog K.nand_Chip_Read #[Value.pointer c, Value.int .i64 block, Value.int .i64 0] w1 fun v1 w2 => ∃ (a1 : Option Addr) (l1 c1 : Nat), ∃ x1 : Int, v1 = Value.tuple #[Value.slice a1 l1 c1, Value.int .i64 x1] ∧ br (x1 != 0) (storeP w2 ⟨B1, 0, none⟩ [Value.int .u8 0, Value.int .u32 0, Value.int .u64 0] fun w3 => ∃ x2 : Int, ∃ x3 : Int, ∃ x4 : Int, cellsAt w3 ⟨B1, 0, none⟩ [Value.int .u8 x2, Value.int .u32 x3, Value.int .u64 x4] 0 ∧ R (Value.tuple #[Value.agg #[Value.int .u8 x2, Value.int .u32 x3, Value.int .u64 x4], Value.bool false]) w3) (CallsR prog K.carrackref04_GetHead #[Value.slice a1 l1 c1] w2 fun v2 w4 => ∃ x5 : Int, ∃ x6 : Int, ∃ x7 : Int, ∃ x8 : Int, v2 = Value.tuple #[Value.agg #[Value.int .u8 x5, Value.int .u32 x6, Value.int .u64 x7], Value.int .i64 x8] ∧ ∀ (B2 : Nat) (w5 : World), New w4 (.cells #[Value.int .u8 0, Value.int .u32 0, Value.int .u64 0] T.api_Head) B2 w5 → storeP w5 ⟨B2, 0, none⟩ [Value.int .u8 x5, Value.int .u32 x6, Value.int .u64 x7] fun w6 => ∃ x9 : Int, ∃ x10 : Int, ∃ x11 : Int, cellsAt w6 ⟨B2, 0, none⟩ [Value.int .u8 x9, Value.int .u32 x10, Value.int .u64 x11] 0 ∧ storeP w6 ⟨B1, 0, none⟩ [Value.int .u8 x9, Value.int .u32 x10, Value.int .u64 x11] fun w7 => ∃ x12 : Int, ∃ x13 : Int, ∃ x14 : Int, cellsAt w7 ⟨B1, 0, none⟩ [Value.int .u8 x12, Value.int .u32 x13, Value.int .u64 x14] 0 ∧ R (Value.tuple #[Value.agg #[Value.int .u8 x12, Value.int .u32 x13, Value.int .u64 x14], Value.bool (x8 == 0)]) w7)
theorem carrackref04_Head.sh {c : Option Addr} {block : Int} {w : World} {R : Value → World → Prop} (h : carrackref04_Head.body c block w R) :
    CallsR prog K.carrackref04_Head #[Value.pointer c, Value.int .i64 block] w R :=
  calls_body follows (f := K.carrackref04_Head) Try.func53 ([]) ([])
    (Eq.mp (by kernel_rfl : carrackref04_Head.body c block w R = bodyOf prog Try.f53 ([]) ([]) [Value.pointer c, Value.int .i64 block] w R) h)
/-- (*carrack/nand.Chip).Bad -/
def nand_Chip_Bad.body (c : Option Addr) (block : Int) (w : World) (R : Value → World → Prop) : Prop :=
  CallsR prog K.nand_Chip_off #[Value.pointer c] w fun v1 w1 => ∃ b1 : Bool, v1 = Value.bool b1 ∧ br (!b1) (br (decide (block ≥ 0)) (nilC c fun q1 => ∃ x1 : Int, World.cell? w1 q1 = some (Value.int .i64 x1) ∧ br (decide (block < x1)) (nilC c fun q2 => ∃ (a1 : Option Addr) (l1 c1 : Nat), World.cell? w1 (Addr.add q2 5) = some (Value.slice a1 l1 c1) ∧ idxP a1 l1 block 1 fun q3 => ∃ b2 : Bool, World.cell? w1 q3 = some (Value.bool b2) ∧ R (Value.bool b2) w1) (R (Value.bool false) w1)) (R (Value.bool false) w1)) (R (Value.bool false) w1)
theorem nand_Chip_Bad.sh {c : Option Addr} {block : Int} {w : World} {R : Value → World → Prop} (h : nand_Chip_Bad.body c block w R) :
    CallsR prog K.nand_Chip_Bad #[Value.pointer c, Value.int .i64 block] w R :=
  calls_body follows (f := K.nand_Chip_Bad) Try.func54 ([]) ([])
    (Eq.mp (by kernel_rfl : nand_Chip_Bad.body c block w R = bodyOf prog Try.f54 ([]) ([]) [Value.pointer c, Value.int .i64 block] w R) h)
/-- (*carrack/pool.Pool).off -/
def pool_Pool_off.body (p : Option Addr) (w : World) (R : Value → World → Prop) : Prop :=
  br (Option.isNone p) (R (Value.bool true) w) (nilC p fun q1 => ∃ (a1 : Option Addr) (l1 c1 : Nat), World.cell? w (Addr.add q1 1) = some (Value.slice a1 l1 c1) ∧ R (Value.bool (Option.isNone a1)) w)
theorem pool_Pool_off.sh {p : Option Addr} {w : World} {R : Value → World → Prop} (h : pool_Pool_off.body p w R) :
    CallsR prog K.pool_Pool_off #[Value.pointer p] w R :=
  calls_body follows (f := K.pool_Pool_off) Try.func55 ([]) ([])
    (Eq.mp (by kernel_rfl : pool_Pool_off.body p w R = bodyOf prog Try.f55 ([]) ([]) [Value.pointer p] w R) h)
def ends_Put.body (n : Int) (size : Int) (w : World) (R : Value → World → Prop) : Prop :=
  ∃ J1 : World → Prop, (CallsR prog K.ends_isSize #[Value.int .i64 size] w fun v1 w1 => ∃ b1 : Bool, v1 = Value.bool b1 ∧ br (!b1) (R (Value.tuple #[Value.slice none 0 0, Value.int .i64 2]) w1) (br (decide (size < 8)) (0 ≤ (IntKind.u64.wrap (IntKind.i64.wrap ((8 : Int) * size))) ∧ br ((Int.fdiv n (2 ^ (min (Int.toNat (IntKind.u64.wrap (IntKind.i64.wrap ((8 : Int) * size)))) (IntKind.bits .u64)))) != 0) (R (Value.tuple #[Value.slice none 0 0, Value.int .i64 2]) w1) (J1 w1)) (J1 w1))) ∧ (∀ w2 : World, J1 w2 → makeSliceP T.uint8 1 1 [Value.int .u8 0] size size w2 fun a1 l1 c1 w3 => ∃ (J2 : Int → World → Prop) (μ1 : Int → World → Nat), J2 0 w3 ∧ ∀ x1 : Int, ∀ w4 : World, J2 x1 w4 → br (decide (x1 < ((l1 : Nat) : Int))) (0 ≤ (IntKind.u64.wrap (IntKind.i64.wrap ((8 : Int) * x1))) ∧ idxP a1 l1 x1 1 fun q1 => storeP w4 q1 [Value.int .u8 (IntKind.u8.wrap (Int.fdiv n (2 ^ (min (Int.toNat (IntKind.u64.wrap (IntKind.i64.wrap ((8 : Int) * x1)))) (IntKind.bits .u64)))))] fun w5 => J2 (IntKind.i64.wrap (x1 + 1)) w5 ∧ μ1 (IntKind.i64.wrap (x1 + 1)) w5 < μ1 x1 w4) (R (Value.tuple #[Value.slice a1 l1 c1, Value.int .i64 0]) w4))
theorem ends_Put.sh {n : Int} {size : Int} {w : World} {R : Value → World → Prop} (h : ends_Put.body n size w R) :
    CallsR prog K.ends_Put #[Value.int .u64 n, Value.int .i64 size] w R :=
  calls_body follows (f := K.ends_Put) Try.func56 ([(3, [0, 1], [], [])]) ([(5, [0, 6, 26], [27], [Value.int .i64 0])])
    (Eq.mp (by kernel_rfl : ends_Put.body n size w R = bodyOf prog Try.f56 ([(3, [0, 1], [], [])]) ([(5, [0, 6, 26], [27], [Value.int .i64 0])]) [Value.int .u64 n, Value.int .i64 size] w R) h)
def carrackref02_Size.body (n : Int) (w : World) (R : Value → World → Prop) : Prop :=
  br (decide (n ≥ 128)) (R (Value.bool (decide (n ≤ 256))) w) (R (Value.bool false) w)
theorem carrackref02_Size.sh {n : Int} {w : World} {R : Value → World → Prop} (h : carrackref02_Size.body n w R) :
    CallsR prog K.carrackref02_Size #[Value.int .i64 n] w R :=
  calls_body follows (f := K.carrackref02_Size) Try.func57 ([]) ([])
    (Eq.mp (by kernel_rfl : carrackref02_Size.body n w R = bodyOf prog Try.f57 ([]) ([]) [Value.int .i64 n] w R) h)
def carrackref02_Noughts.body (b : Option Addr) (bL bC : Nat) (w : World) (R : Value → World → Prop) : Prop :=
  ∃ (J1 : Int → Int → World → Prop) (μ1 : Int → Int → World → Nat), J1 0 0 w ∧ ∀ x1 : Int, ∀ x2 : Int, ∀ w1 : World, J1 x1 x2 w1 → br (decide (x2 < ((bL : Nat) : Int))) (∃ (J2 : Int → Int → World → Prop) (μ2 : Int → Int → World → Nat), J2 x1 1 w1 ∧ ∀ x3 : Int, ∀ x4 : Int, ∀ w2 : World, J2 x3 x4 w2 → br (decide (x4 ≤ 128)) (idxP b bL x2 1 fun q1 => ∃ x5 : Int, World.cell? w2 q1 = some (Value.int .u8 x5) ∧ x4 ≠ 0 ∧ (2 : Int) ≠ 0 ∧ br ((Int.tmod (IntKind.i64.wrap (Int.tdiv (IntKind.i64.wrap x5) x4)) 2) == 0) (J2 (IntKind.i64.wrap (x3 + 1)) (IntKind.i64.wrap ((2 : Int) * x4)) w2 ∧ μ2 (IntKind.i64.wrap (x3 + 1)) (IntKind.i64.wrap ((2 : Int) * x4)) w2 < μ2 x3 x4 w2) (J2 x3 (IntKind.i64.wrap ((2 : Int) * x4)) w2 ∧ μ2 x3 (IntKind.i64.wrap ((2 : Int) * x4)) w2 < μ2 x3 x4 w2)) (J1 x3 (IntKind.i64.wrap (x2 + 1)) w2 ∧ μ1 x3 (IntKind.i64.wrap (x2 + 1)) w2 < μ1 x1 x2 w1)) (R (Value.int .i64 x1) w1)
theorem carrackref02_Noughts.sh {b : Option Addr} {bL bC : Nat} {w : World} {R : Value → World → Prop} (h : carrackref02_Noughts.body b bL bC w R) :
    CallsR prog K.carrackref02_Noughts #[Value.slice b bL bC] w R :=
  calls_body follows (f := K.carrackref02_Noughts) Try.func58 ([]) ([(3, [0], [3, 4], [Value.int .i64 0, Value.int .i64 0]), (6, [0, 4], [3, 5], [Value.int .i64 0, Value.int .i64 0])])
    (Eq.mp (by kernel_rfl : carrackref02_Noughts.body b bL bC w R = bodyOf prog Try.f58 ([]) ([(3, [0], [3, 4], [Value.int .i64 0, Value.int .i64 0]), (6, [0, 4], [3, 5], [Value.int .i64 0, Value.int .i64 0])]) [Value.slice b bL bC] w R) h)
/-- slices.Repeat[[]byte,byte] -/
def slices_Repeat_byte.body (x : Option Addr) (xL xC : Nat) (count : Int) (w : World) (R : Value → World → Prop) : Prop :=
  br (decide (count < 0)) (False) (CallsR prog K.bits_Mul #[Value.int .u64 (IntKind.u64.wrap ((xL : Nat) : Int)), Value.int .u64 (IntKind.u64.wrap count)] w fun v1 w1 => ∃ x1 : Int, ∃ x2 : Int, v1 = Value.tuple #[Value.int .u64 x1, Value.int .u64 x2] ∧ ∃ J1 : World → Prop, (br (decide (x1 > 0)) (False) (br (decide (x2 > 9223372036854775807)) (False) (J1 w1))) ∧ (∀ w2 : World, J1 w2 → makeSliceP T.uint8 1 1 [Value.int .u8 0] (IntKind.i64.wrap x2) (IntKind.i64.wrap x2) w2 fun a1 l1 c1 w3 => copyP 1 a1 l1 (Value.slice x xL xC) w3 fun x3 w4 => ∃ (J2 : Int → World → Prop) (μ1 : Int → World → Nat), J2 x3 w4 ∧ ∀ x4 : Int, ∀ w5 : World, J2 x4 w5 → br (decide (x4 < ((l1 : Nat) : Int))) (∀ w6 : World, Drew w5 w6 → ∃ S1 : World → Prop, S1 w6 ∧ sliceP 1 a1 l1 c1 (some x4) none none fun a2 l2 c2 => sliceP 1 a1 l1 c1 none (some x4) none fun a3 l3 c3 => copyP 1 a2 l2 (Value.slice a3 l3 c3) w6 fun x5 w7 => J2 (IntKind.i64.wrap (x4 + x5)) w7 ∧ μ1 (IntKind.i64.wrap (x4 + x5)) w7 < μ1 x4 w5) (R (Value.slice a1 l1 c1) w5)))
theorem slices_Repeat_byte.sh {x : Option Addr} {xL xC : Nat} {count : Int} {w : World} {R : Value → World → Prop} (h : slices_Repeat_byte.body x xL xC count w R) :
    CallsR prog K.slices_Repeat_byte #[Value.slice x xL xC, Value.int .i64 count] w R :=
  calls_body follows (f := K.slices_Repeat_byte) Try.func59 ([(6, [0, 6], [], [])]) ([(8, [7], [8], [Value.int .i64 0])])
    (Eq.mp (by kernel_rfl : slices_Repeat_byte.body x xL xC count w R = bodyOf prog Try.f59 ([(6, [0, 6], [], [])]) ([(8, [7], [8], [Value.int .i64 0])]) [Value.slice x xL xC, Value.int .i64 count] w R) h)
/-- (*carrack/ends.Reader).off -/
def ends_Reader_off.body (r : Option Addr) (w : World) (R : Value → World → Prop) : Prop :=
  br (Option.isNone r) (R (Value.bool true) w) (nilC r fun q1 => ∃ b1 : Bool, World.cell? w q1 = some (Value.bool b1) ∧ R (Value.bool (!b1)) w)
theorem ends_Reader_off.sh {r : Option Addr} {w : World} {R : Value → World → Prop} (h : ends_Reader_off.body r w R) :
    CallsR prog K.ends_Reader_off #[Value.pointer r] w R :=
  calls_body follows (f := K.ends_Reader_off) Try.func60 ([]) ([])
    (Eq.mp (by kernel_rfl : ends_Reader_off.body r w R = bodyOf prog Try.f60 ([]) ([]) [Value.pointer r] w R) h)
def ends_isSize.body (n : Int) (w : World) (R : Value → World → Prop) : Prop :=
  br (n == 1) (R (Value.bool true) w) (br (n == 2) (R (Value.bool true) w) (br (n == 4) (R (Value.bool true) w) (R (Value.bool (n == 8)) w)))
theorem ends_isSize.sh {n : Int} {w : World} {R : Value → World → Prop} (h : ends_isSize.body n w R) :
    CallsR prog K.ends_isSize #[Value.int .i64 n] w R :=
  calls_body follows (f := K.ends_isSize) Try.func61 ([]) ([])
    (Eq.mp (by kernel_rfl : ends_isSize.body n w R = bodyOf prog Try.f61 ([]) ([]) [Value.int .i64 n] w R) h)
/-- (*carrack/ends.Reader).cut -/
def ends_Reader_cut.body (r : Option Addr) (n : Int) (w : World) (R : Value → World → Prop) : Prop :=
  nilC r fun q1 => ∃ b1 : Bool, World.cell? w (Addr.add q1 2) = some (Value.bool b1) ∧ br b1 (nilC r fun q2 => storeP w (Addr.add q2 2) [Value.bool true] fun w1 => R (Value.tuple #[Value.slice none 0 0, Value.int .i64 4]) w1) (nilC r fun q3 => ∃ (a1 : Option Addr) (l1 c1 : Nat), World.cell? w (Addr.add q3 1) = some (Value.slice a1 l1 c1) ∧ br (decide (((l1 : Nat) : Int) < n)) (nilC r fun q4 => storeP w (Addr.add q4 2) [Value.bool true] fun w2 => R (Value.tuple #[Value.slice none 0 0, Value.int .i64 4]) w2) (nilC r fun q5 => ∃ (a2 : Option Addr) (l2 c2 : Nat), World.cell? w (Addr.add q5 1) = some (Value.slice a2 l2 c2) ∧ sliceP 1 a2 l2 c2 none (some n) (some n) fun a3 l3 c3 => nilC r fun q6 => ∃ (a4 : Option Addr) (l4 c4 : Nat), World.cell? w (Addr.add q6 1) = some (Value.slice a4 l4 c4) ∧ sliceP 1 a4 l4 c4 (some n) none none fun a5 l5 c5 => nilC r fun q7 => storeP w (Addr.add q7 1) [Value.slice a5 l5 c5] fun w3 => R (Value.tuple #[Value.slice a3 l3 c3, Value.int .i64 0]) w3))
theorem ends_Reader_cut.sh {r : Option Addr} {n : Int} {w : World} {R : Value → World → Prop} (h : ends_Reader_cut.body r n w R) :
    CallsR prog K.ends_Reader_cut #[Value.pointer r, Value.int .i64 n] w R :=
  calls_body follows (f := K.ends_Reader_cut) Try.func62 ([]) ([])
    (Eq.mp (by kernel_rfl : ends_Reader_cut.body r n w R = bodyOf prog Try.f62 ([]) ([]) [Value.pointer r, Value.int .i64 n] w R) h)
/-- math/bits.OnesCount8 -/
def bits_OnesCount8.body (x : Int) (w : World) (R : Value → World → Prop) : Prop :=
  0 ≤ x ∧ ∃ y1 : UInt8, (⟨(List.toArray (List.append (List.append [0, 1, 1, 2, 1, 2, 2, 3, 1, 2, 2, 3, 2, 3, 3, 4, 1, 2, 2, 3, 2, 3, 3, 4, 2, 3, 3, 4, 3, 4, 4, 5, 1, 2, 2, 3, 2, 3, 3, 4, 2, 3, 3, 4, 3, 4, 4, 5, 2, 3, 3, 4, 3, 4, 4, 5, 3, 4, 4, 5, 4, 5, 5, 6] [1, 2, 2, 3, 2, 3, 3, 4, 2, 3, 3, 4, 3, 4, 4, 5, 2, 3, 3, 4, 3, 4, 4, 5, 3, 4, 4, 5, 4, 5, 5, 6, 2, 3, 3, 4, 3, 4, 4, 5, 3, 4, 4, 5, 4, 5, 5, 6, 3, 4, 4, 5, 4, 5, 5, 6, 4, 5, 5, 6, 5, 6, 6, 7]) (List.append [1, 2, 2, 3, 2, 3, 3, 4, 2, 3, 3, 4, 3, 4, 4, 5, 2, 3, 3, 4, 3, 4, 4, 5, 3, 4, 4, 5, 4, 5, 5, 6, 2, 3, 3, 4, 3, 4, 4, 5, 3, 4, 4, 5, 4, 5, 5, 6, 3, 4, 4, 5, 4, 5, 5, 6, 4, 5, 5, 6, 5, 6, 6, 7] [2, 3, 3, 4, 3, 4, 4, 5, 3, 4, 4, 5, 4, 5, 5, 6, 3, 4, 4, 5, 4, 5, 5, 6, 4, 5, 5, 6, 5, 6, 6, 7, 3, 4, 4, 5, 4, 5, 5, 6, 4, 5, 5, 6, 5, 6, 6, 7, 4, 5, 5, 6, 5, 6, 6, 7, 5, 6, 6, 7, 6, 7, 7, 8])))⟩ : ByteArray).data.toList[Int.toNat x]? = some y1 ∧ R (Value.int .i64 (IntKind.i64.wrap ((UInt8.toNat y1 : Nat) : Int))) w
theorem bits_OnesCount8.sh {x : Int} {w : World} {R : Value → World → Prop} (h : bits_OnesCount8.body x w R) :
    CallsR prog K.bits_OnesCount8 #[Value.int .u8 x] w R :=
  calls_body follows (f := K.bits_OnesCount8) Try.func63 ([]) ([])
    (Eq.mp (by kernel_rfl : bits_OnesCount8.body x w R = bodyOf prog Try.f63 ([]) ([]) [Value.int .u8 x] w R) h)
/-- slices.SortStableFunc[[]carrack/api.Taken,carrack/api.Taken] -/
def slices_SortStableFunc_api_Taken.body (x : Option Addr) (xL xC : Nat) (cmp : Value) (w : World) (R : Value → World → Prop) : Prop :=
  CallsR prog K.slices_stableCmpFunc_api_Taken #[Value.slice x xL xC, Value.int .i64 ((xL : Nat) : Int), cmp] w fun v1 w1 => v1 = Value.tuple #[] ∧ R (Value.tuple #[]) w1
theorem slices_SortStableFunc_api_Taken.sh {x : Option Addr} {xL xC : Nat} {cmp : Value} {w : World} {R : Value → World → Prop} (h : slices_SortStableFunc_api_Taken.body x xL xC cmp w R) :
    CallsR prog K.slices_SortStableFunc_api_Taken #[Value.slice x xL xC, cmp] w R :=
  calls_body follows (f := K.slices_SortStableFunc_api_Taken) Try.func64 ([]) ([])
    (Eq.mp (by kernel_rfl : slices_SortStableFunc_api_Taken.body x xL xC cmp w R = bodyOf prog Try.f64 ([]) ([]) [Value.slice x xL xC, cmp] w R) h)
/-- (*carrack/pool.Pool).Taken$1 -/
def pool_Pool_Taken_1.body (a_Block : Int) (a_Head_Kind : Int) (a_Head_Era : Int) (a_Head_Seq : Int) (a_Bad : Bool) (b_Block : Int) (b_Head_Kind : Int) (b_Head_Era : Int) (b_Head_Seq : Int) (b_Bad : Bool) (w : World) (R : Value → World → Prop) : Prop :=
  ∀ (B1 : Nat) (w1 : World), New w (.cells #[Value.int .i64 a_Block, Value.int .u8 a_Head_Kind, Value.int .u32 a_Head_Era, Value.int .u64 a_Head_Seq, Value.bool a_Bad] T.api_Taken) B1 w1 → ∀ (B2 : Nat) (w2 : World), New w1 (.cells #[Value.int .i64 b_Block, Value.int .u8 b_Head_Kind, Value.int .u32 b_Head_Era, Value.int .u64 b_Head_Seq, Value.bool b_Bad] T.api_Taken) B2 w2 → ∃ x1 : Int, World.cell? w2 (Addr.add (Addr.add ⟨B1, 0, none⟩ 1) 2) = some (Value.int .u64 x1) ∧ ∃ x2 : Int, World.cell? w2 (Addr.add (Addr.add ⟨B2, 0, none⟩ 1) 2) = some (Value.int .u64 x2) ∧ br (decide (x1 < x2)) (R (Value.int .i64 (-1)) w2) (∃ x3 : Int, World.cell? w2 (Addr.add (Addr.add ⟨B1, 0, none⟩ 1) 2) = some (Value.int .u64 x3) ∧ ∃ x4 : Int, World.cell? w2 (Addr.add (Addr.add ⟨B2, 0, none⟩ 1) 2) = some (Value.int .u64 x4) ∧ br (decide (x3 > x4)) (R (Value.int .i64 1) w2) (∃ x5 : Int, World.cell? w2 ⟨B1, 0, none⟩ = some (Value.int .i64 x5) ∧ ∃ x6 : Int, World.cell? w2 ⟨B2, 0, none⟩ = some (Value.int .i64 x6) ∧ R (Value.int .i64 (IntKind.i64.wrap (x5 - x6))) w2))
theorem pool_Pool_Taken_1.sh {a_Block : Int} {a_Head_Kind : Int} {a_Head_Era : Int} {a_Head_Seq : Int} {a_Bad : Bool} {b_Block : Int} {b_Head_Kind : Int} {b_Head_Era : Int} {b_Head_Seq : Int} {b_Bad : Bool} {w : World} {R : Value → World → Prop} (h : pool_Pool_Taken_1.body a_Block a_Head_Kind a_Head_Era a_Head_Seq a_Bad b_Block b_Head_Kind b_Head_Era b_Head_Seq b_Bad w R) :
    CallsR prog K.pool_Pool_Taken_1 #[Value.agg #[Value.int .i64 a_Block, Value.int .u8 a_Head_Kind, Value.int .u32 a_Head_Era, Value.int .u64 a_Head_Seq, Value.bool a_Bad], Value.agg #[Value.int .i64 b_Block, Value.int .u8 b_Head_Kind, Value.int .u32 b_Head_Era, Value.int .u64 b_Head_Seq, Value.bool b_Bad]] w R :=
  calls_body follows (f := K.pool_Pool_Taken_1) Try.func65 ([]) ([])
    (Eq.mp (by kernel_rfl : pool_Pool_Taken_1.body a_Block a_Head_Kind a_Head_Era a_Head_Seq a_Bad b_Block b_Head_Kind b_Head_Era b_Head_Seq b_Bad w R = bodyOf prog Try.f65 ([]) ([]) [Value.agg #[Value.int .i64 a_Block, Value.int .u8 a_Head_Kind, Value.int .u32 a_Head_Era, Value.int .u64 a_Head_Seq, Value.bool a_Bad], Value.agg #[Value.int .i64 b_Block, Value.int .u8 b_Head_Kind, Value.int .u32 b_Head_Era, Value.int .u64 b_Head_Seq, Value.bool b_Bad]] w R) h)
/-- (*carrack/nand.Chip).ask -/
def nand_Chip_ask.body (c : Option Addr) (block : Int) (page : Int) (w : World) (R : Value → World → Prop) : Prop :=
  CallsR prog K.nand_Chip_off #[Value.pointer c] w fun v1 w1 => ∃ b1 : Bool, v1 = Value.bool b1 ∧ br b1 (R (Value.int .i64 1) w1) (nilC c fun q1 => ∃ b2 : Bool, World.cell? w1 (Addr.add q1 8) = some (Value.bool b2) ∧ br b2 (R (Value.int .i64 10) w1) (br (decide (block < 0)) (R (Value.int .i64 2) w1) (nilC c fun q2 => ∃ x1 : Int, World.cell? w1 q2 = some (Value.int .i64 x1) ∧ br (decide (block ≥ x1)) (R (Value.int .i64 2) w1) (br (decide (page < 0)) (R (Value.int .i64 2) w1) (nilC c fun q3 => ∃ x2 : Int, World.cell? w1 (Addr.add q3 1) = some (Value.int .i64 x2) ∧ br (decide (page ≥ x2)) (R (Value.int .i64 2) w1) (R (Value.int .i64 0) w1))))))
theorem nand_Chip_ask.sh {c : Option Addr} {block : Int} {page : Int} {w : World} {R : Value → World → Prop} (h : nand_Chip_ask.body c block page w R) :
    CallsR prog K.nand_Chip_ask #[Value.pointer c, Value.int .i64 block, Value.int .i64 page] w R :=
  calls_body follows (f := K.nand_Chip_ask) Try.func66 ([]) ([])
    (Eq.mp (by kernel_rfl : nand_Chip_ask.body c block page w R = bodyOf prog Try.f66 ([]) ([]) [Value.pointer c, Value.int .i64 block, Value.int .i64 page] w R) h)
/-- (*carrack/nand.Chip).page -/
def nand_Chip_page.body (c : Option Addr) (block : Int) (page : Int) (w : World) (R : Value → World → Prop) : Prop :=
  ∀ w1 : World, Drew w w1 → ∃ S1 : World → Prop, S1 w1 ∧ nilC c fun q1 => ∃ x1 : Int, (∀ u1, S1 u1 → World.cell? u1 (Addr.add q1 2) = some (Value.int .i64 x1)) ∧ nilC c fun q2 => ∃ x2 : Int, (∀ u2, S1 u2 → World.cell? u2 (Addr.add q2 2) = some (Value.int .i64 x2)) ∧ nilC c fun q3 => ∃ (a1 : Option Addr) (l1 c1 : Nat), World.cell? w1 (Addr.add q3 4) = some (Value.slice a1 l1 c1) ∧ idxP a1 l1 block 1 fun q4 => ∃ (a2 : Option Addr) (l2 c2 : Nat), World.cell? w1 q4 = some (Value.slice a2 l2 c2) ∧ sliceP 1 a2 l2 c2 (some (IntKind.i64.wrap (page * x1))) (some (IntKind.i64.wrap ((IntKind.i64.wrap (page + 1)) * x2))) (some (IntKind.i64.wrap ((IntKind.i64.wrap (page + 1)) * x2))) fun a3 l3 c3 => R (Value.slice a3 l3 c3) w1
theorem nand_Chip_page.sh {c : Option Addr} {block : Int} {page : Int} {w : World} {R : Value → World → Prop} (h : nand_Chip_page.body c block page w R) :
    CallsR prog K.nand_Chip_page #[Value.pointer c, Value.int .i64 block, Value.int .i64 page] w R :=
  calls_body follows (f := K.nand_Chip_page) Try.func67 ([]) ([])
    (Eq.mp (by kernel_rfl : nand_Chip_page.body c block page w R = bodyOf prog Try.f67 ([]) ([]) [Value.pointer c, Value.int .i64 block, Value.int .i64 page] w R) h)
/-- (*carrack/pool.Pool).alive -/
def pool_Pool_alive.body (p : Option Addr) (w : World) (R : Value → World → Prop) : Prop :=
  CallsR prog K.pool_Pool_off #[Value.pointer p] w fun v1 w1 => ∃ b1 : Bool, v1 = Value.bool b1 ∧ br b1 (R (Value.int .i64 1) w1) (nilC p fun q1 => ∃ p1 : Option Addr, World.cell? w1 q1 = some (Value.pointer p1) ∧ CallsR prog K.nand_Chip_Read #[Value.pointer p1, Value.int .i64 0, Value.int .i64 0] w1 fun v2 w2 => ∃ (a1 : Option Addr) (l1 c1 : Nat), ∃ x1 : Int, v2 = Value.tuple #[Value.slice a1 l1 c1, Value.int .i64 x1] ∧ R (Value.int .i64 x1) w2)
theorem pool_Pool_alive.sh {p : Option Addr} {w : World} {R : Value → World → Prop} (h : pool_Pool_alive.body p w R) :
    CallsR prog K.pool_Pool_alive #[Value.pointer p] w R :=
  calls_body follows (f := K.pool_Pool_alive) Try.func68 ([]) ([])
    (Eq.mp (by kernel_rfl : pool_Pool_alive.body p w R = bodyOf prog Try.f68 ([]) ([]) [Value.pointer p] w R) h)
/-- (*carrack/pool.Pool).try -/
def pool_Pool_try.body (y0a : Option Addr) (y1a : Int) (y2a : Int) (y3a : Int) (w : World) (R : Value → World → Prop) : Prop :=
  nilC y0a fun q1 => ∃ (a1 : Option Addr) (l1 c1 : Nat), World.cell? w (Addr.add q1 1) = some (Value.slice a1 l1 c1) ∧ idxP a1 l1 y1a 4 fun q2 => ∃ x1 : Int, World.cell? w q2 = some (Value.int .i64 x1) ∧ br (x1 == 1) (nilC y0a fun q3 => ∃ p1 : Option Addr, World.cell? w q3 = some (Value.pointer p1) ∧ CallsR prog K.nand_Chip_Erase #[Value.pointer p1, Value.int .i64 y1a] w fun v1 w1 => ∃ x2 : Int, v1 = Value.int .i64 x2 ∧ CallsR prog K.pool_Pool_look #[Value.pointer y0a, Value.int .i64 y1a] w1 fun v2 w2 => v2 = Value.tuple #[] ∧ br (x2 != 0) (R (Value.int .i64 x2) w2) (nilC y0a fun q4 => ∃ x3 : Int, World.cell? w2 (Addr.add q4 2) = some (Value.int .u64 x3) ∧ nilC y0a fun q5 => storeP w2 (Addr.add q5 2) [Value.int .u64 (IntKind.u64.wrap (x3 + 1))] fun w3 => ∀ w4 : World, Drew w3 w4 → ∃ S1 : World → Prop, S1 w4 ∧ nilC y0a fun q6 => ∃ p2 : Option Addr, (∀ u1, S1 u1 → World.cell? u1 q6 = some (Value.pointer p2)) ∧ nilC y0a fun q7 => ∃ x4 : Int, (∀ u2, S1 u2 → World.cell? u2 (Addr.add q7 2) = some (Value.int .u64 x4)) ∧ CallsR prog K.nand_Chip_Geo #[Value.pointer p2] w4 fun v3 w5 => ∃ x5 : Int, ∃ x6 : Int, ∃ x7 : Int, ∃ x8 : Int, v3 = Value.agg #[Value.int .i64 x5, Value.int .i64 x6, Value.int .i64 x7, Value.int .i64 x8] ∧ S1 w5 ∧ CallsR prog K.pool_PutHead #[Value.int .i64 x7, Value.agg #[Value.int .u8 y2a, Value.int .u32 y3a, Value.int .u64 x4]] w5 fun v4 w6 => ∃ (a2 : Option Addr) (l2 c2 : Nat), ∃ x9 : Int, v4 = Value.tuple #[Value.slice a2 l2 c2, Value.int .i64 x9] ∧ S1 w6 ∧ nilC y0a fun q8 => ∃ p3 : Option Addr, World.cell? w6 q8 = some (Value.pointer p3) ∧ CallsR prog K.nand_Chip_Program #[Value.pointer p3, Value.int .i64 y1a, Value.int .i64 0, Value.slice a2 l2 c2] w6 fun v5 w7 => ∃ x10 : Int, v5 = Value.int .i64 x10 ∧ CallsR prog K.pool_Pool_look #[Value.pointer y0a, Value.int .i64 y1a] w7 fun v6 w8 => v6 = Value.tuple #[] ∧ R (Value.int .i64 x10) w8)) (nilC y0a fun q9 => ∃ x11 : Int, World.cell? w (Addr.add q9 2) = some (Value.int .u64 x11) ∧ nilC y0a fun q10 => storeP w (Addr.add q10 2) [Value.int .u64 (IntKind.u64.wrap (x11 + 1))] fun w9 => ∀ w10 : World, Drew w9 w10 → ∃ S2 : World → Prop, S2 w10 ∧ nilC y0a fun q11 => ∃ p4 : Option Addr, (∀ u3, S2 u3 → World.cell? u3 q11 = some (Value.pointer p4)) ∧ nilC y0a fun q12 => ∃ x12 : Int, (∀ u4, S2 u4 → World.cell? u4 (Addr.add q12 2) = some (Value.int .u64 x12)) ∧ CallsR prog K.nand_Chip_Geo #[Value.pointer p4] w10 fun v7 w11 => ∃ x13 : Int, ∃ x14 : Int, ∃ x15 : Int, ∃ x16 : Int, v7 = Value.agg #[Value.int .i64 x13, Value.int .i64 x14, Value.int .i64 x15, Value.int .i64 x16] ∧ S2 w11 ∧ CallsR prog K.pool_PutHead #[Value.int .i64 x15, Value.agg #[Value.int .u8 y2a, Value.int .u32 y3a, Value.int .u64 x12]] w11 fun v8 w12 => ∃ (a3 : Option Addr) (l3 c3 : Nat), ∃ x17 : Int, v8 = Value.tuple #[Value.slice a3 l3 c3, Value.int .i64 x17] ∧ S2 w12 ∧ nilC y0a fun q13 => ∃ p5 : Option Addr, World.cell? w12 q13 = some (Value.pointer p5) ∧ CallsR prog K.nand_Chip_Program #[Value.pointer p5, Value.int .i64 y1a, Value.int .i64 0, Value.slice a3 l3 c3] w12 fun v9 w13 => ∃ x18 : Int, v9 = Value.int .i64 x18 ∧ CallsR prog K.pool_Pool_look #[Value.pointer y0a, Value.int .i64 y1a] w13 fun v10 w14 => v10 = Value.tuple #[] ∧ R (Value.int .i64 x18) w14)
theorem pool_Pool_try.sh {y0a : Option Addr} {y1a : Int} {y2a : Int} {y3a : Int} {w : World} {R : Value → World → Prop} (h : pool_Pool_try.body y0a y1a y2a y3a w R) :
    CallsR prog K.pool_Pool_try #[Value.pointer y0a, Value.int .i64 y1a, Value.int .u8 y2a, Value.int .u32 y3a] w R :=
  calls_body follows (f := K.pool_Pool_try) Try.func69 ([]) ([])
    (Eq.mp (by kernel_rfl : pool_Pool_try.body y0a y1a y2a y3a w R = bodyOf prog Try.f69 ([]) ([]) [Value.pointer y0a, Value.int .i64 y1a, Value.int .u8 y2a, Value.int .u32 y3a] w R) h)
/-- (*carrack/nand.Chip).done -/
def nand_Chip_done.body (y0a : Option Addr) (y1a : Int) (y2a : Option Addr) (y2aL y2aC : Nat) (y3a : Value) (w : World) (R : Value → World → Prop) : Prop :=
  CallsR prog K.nand_Chip_strike #[Value.pointer y0a] w fun v1 w1 => ∃ p1 : Option Addr, v1 = Value.pointer p1 ∧ ∃ (J1 : Int → World → Prop) (μ1 : Int → World → Nat), J1 0 w1 ∧ ∀ x1 : Int, ∀ w2 : World, J1 x1 w2 → br (decide (x1 < ((y2aL : Nat) : Int))) (∃ J2 : World → Prop, (br (!(Option.isNone p1)) (nilC p1 fun q1 => ∃ (a1 : Option Addr) (l1 c1 : Nat), World.cell? w2 (Addr.add q1 2) = some (Value.slice a1 l1 c1) ∧ br (decide (((l1 : Nat) : Int) > 0)) (∀ w3 : World, Drew w2 w3 → ∃ S1 : World → Prop, S1 w3 ∧ nilC p1 fun q2 => ∃ (a2 : Option Addr) (l2 c2 : Nat), (∀ u1, S1 u1 → World.cell? u1 (Addr.add q2 2) = some (Value.slice a2 l2 c2)) ∧ ((l1 : Nat) : Int) ≠ 0 ∧ idxP a2 l2 (Int.tmod x1 ((l1 : Nat) : Int)) 1 fun q3 => ∃ x2 : Int, (∀ u2, S1 u2 → World.cell? u2 q3 = some (Value.int .u8 x2)) ∧ ∀ w4 : World, Drew w3 w4 → ∃ S2 : World → Prop, S2 w4 ∧ idxP y2a y2aL x1 1 fun q4 => ∃ x3 : Int, (∀ u3, S2 u3 → World.cell? u3 q4 = some (Value.int .u8 x3)) ∧ callT y3a [Value.int .i64 x1] w4 fun v2 w5 => ∃ x4 : Int, v2 = Value.int .u8 x4 ∧ S2 w5 ∧ idxP y2a y2aL x1 1 fun q5 => storeP w5 q5 [Value.int .u8 (IntKind.u8.wrap ((BitVec.ofInt (IntKind.bits .u8) (IntKind.u8.wrap ((BitVec.ofInt (IntKind.bits .u8) x3 &&& ~~~ (BitVec.ofInt (IntKind.bits .u8) x2)).toNat)) ||| BitVec.ofInt (IntKind.bits .u8) (IntKind.u8.wrap ((BitVec.ofInt (IntKind.bits .u8) x4 &&& BitVec.ofInt (IntKind.bits .u8) x2).toNat))).toNat))] fun w6 => J2 w6) (∀ w7 : World, Drew w2 w7 → ∃ S3 : World → Prop, S3 w7 ∧ idxP y2a y2aL x1 1 fun q6 => ∃ x5 : Int, (∀ u4, S3 u4 → World.cell? u4 q6 = some (Value.int .u8 x5)) ∧ callT y3a [Value.int .i64 x1] w7 fun v3 w8 => ∃ x6 : Int, v3 = Value.int .u8 x6 ∧ S3 w8 ∧ idxP y2a y2aL x1 1 fun q7 => storeP w8 q7 [Value.int .u8 (IntKind.u8.wrap ((BitVec.ofInt (IntKind.bits .u8) (IntKind.u8.wrap ((BitVec.ofInt (IntKind.bits .u8) x5 &&& ~~~ (BitVec.ofInt (IntKind.bits .u8) 0)).toNat)) ||| BitVec.ofInt (IntKind.bits .u8) (IntKind.u8.wrap ((BitVec.ofInt (IntKind.bits .u8) x6 &&& BitVec.ofInt (IntKind.bits .u8) 0).toNat))).toNat))] fun w9 => J2 w9)) (∀ w10 : World, Drew w2 w10 → ∃ S4 : World → Prop, S4 w10 ∧ idxP y2a y2aL x1 1 fun q8 => ∃ x7 : Int, (∀ u5, S4 u5 → World.cell? u5 q8 = some (Value.int .u8 x7)) ∧ callT y3a [Value.int .i64 x1] w10 fun v4 w11 => ∃ x8 : Int, v4 = Value.int .u8 x8 ∧ S4 w11 ∧ idxP y2a y2aL x1 1 fun q9 => storeP w11 q9 [Value.int .u8 (IntKind.u8.wrap ((BitVec.ofInt (IntKind.bits .u8) (IntKind.u8.wrap ((BitVec.ofInt (IntKind.bits .u8) x7 &&& ~~~ (BitVec.ofInt (IntKind.bits .u8) 255)).toNat)) ||| BitVec.ofInt (IntKind.bits .u8) (IntKind.u8.wrap ((BitVec.ofInt (IntKind.bits .u8) x8 &&& BitVec.ofInt (IntKind.bits .u8) 255).toNat))).toNat))] fun w12 => J2 w12)) ∧ (∀ w13 : World, J2 w13 → J1 (IntKind.i64.wrap (x1 + 1)) w13 ∧ μ1 (IntKind.i64.wrap (x1 + 1)) w13 < μ1 x1 w2)) (br (Option.isNone p1) (R (Value.int .i64 0) w2) (nilC p1 fun q10 => ∃ b1 : Bool, World.cell? w2 (Addr.add q10 1) = some (Value.bool b1) ∧ br b1 (nilC y0a fun q11 => ∃ (a3 : Option Addr) (l3 c3 : Nat), World.cell? w2 (Addr.add q11 5) = some (Value.slice a3 l3 c3) ∧ idxP a3 l3 y1a 1 fun q12 => storeP w2 q12 [Value.bool true] fun w14 => R (Value.int .i64 9) w14) (nilC y0a fun q13 => storeP w2 (Addr.add q13 8) [Value.bool true] fun w15 => R (Value.int .i64 10) w15)))
theorem nand_Chip_done.sh {y0a : Option Addr} {y1a : Int} {y2a : Option Addr} {y2aL y2aC : Nat} {y3a : Value} {w : World} {R : Value → World → Prop} (h : nand_Chip_done.body y0a y1a y2a y2aL y2aC y3a w R) :
    CallsR prog K.nand_Chip_done #[Value.pointer y0a, Value.int .i64 y1a, Value.slice y2a y2aL y2aC, y3a] w R :=
  calls_body follows (f := K.nand_Chip_done) Try.func70 ([(12, [0, 1, 2, 3, 9, 16, 17], [], [])]) ([(3, [0, 1, 2, 3, 9, 16], [17], [Value.int .i64 0])])
    (Eq.mp (by kernel_rfl : nand_Chip_done.body y0a y1a y2a y2aL y2aC y3a w R = bodyOf prog Try.f70 ([(12, [0, 1, 2, 3, 9, 16, 17], [], [])]) ([(3, [0, 1, 2, 3, 9, 16], [17], [Value.int .i64 0])]) [Value.pointer y0a, Value.int .i64 y1a, Value.slice y2a y2aL y2aC, y3a] w R) h)
/-- (*carrack/nand.Chip).Program$1 -/
def nand_Chip_Program_1.body (i : Int) (y1a : Addr) (w : World) (R : Value → World → Prop) : Prop :=
  ∃ (a1 : Option Addr) (l1 c1 : Nat), World.cell? w y1a = some (Value.slice a1 l1 c1) ∧ idxP a1 l1 i 1 fun q1 => ∃ x1 : Int, World.cell? w q1 = some (Value.int .u8 x1) ∧ R (Value.int .u8 x1) w
theorem nand_Chip_Program_1.sh {i : Int} {y1a : Addr} {w : World} {R : Value → World → Prop} (h : nand_Chip_Program_1.body i y1a w R) :
    CallsR prog K.nand_Chip_Program_1 #[Value.int .i64 i, Value.pointer (some y1a)] w R :=
  calls_body follows (f := K.nand_Chip_Program_1) Try.func71 ([]) ([])
    (Eq.mp (by kernel_rfl : nand_Chip_Program_1.body i y1a w R = bodyOf prog Try.f71 ([]) ([]) [Value.int .i64 i, Value.pointer (some y1a)] w R) h)
/-- (*carrack/nand.Chip).Erase -/
def nand_Chip_Erase.body (c : Option Addr) (block : Int) (w : World) (R : Value → World → Prop) : Prop :=
  CallsR prog K.nand_Chip_ask #[Value.pointer c, Value.int .i64 block, Value.int .i64 0] w fun v1 w1 => ∃ x1 : Int, v1 = Value.int .i64 x1 ∧ br (x1 != 0) (R (Value.int .i64 x1) w1) (nilC c fun q1 => ∃ (a1 : Option Addr) (l1 c1 : Nat), World.cell? w1 (Addr.add q1 5) = some (Value.slice a1 l1 c1) ∧ idxP a1 l1 block 1 fun q2 => ∃ b1 : Bool, World.cell? w1 q2 = some (Value.bool b1) ∧ br b1 (R (Value.int .i64 9) w1) (nilC c fun q3 => ∃ (a2 : Option Addr) (l2 c2 : Nat), World.cell? w1 (Addr.add q3 4) = some (Value.slice a2 l2 c2) ∧ idxP a2 l2 block 1 fun q4 => ∃ (a3 : Option Addr) (l3 c3 : Nat), World.cell? w1 q4 = some (Value.slice a3 l3 c3) ∧ CallsR prog K.nand_Chip_done #[Value.pointer c, Value.int .i64 block, Value.slice a3 l3 c3, Value.func (.func K.nand_Chip_Erase_1) #[] #[]] w1 fun v2 w2 => ∃ x2 : Int, v2 = Value.int .i64 x2 ∧ R (Value.int .i64 x2) w2))
theorem nand_Chip_Erase.sh {c : Option Addr} {block : Int} {w : World} {R : Value → World → Prop} (h : nand_Chip_Erase.body c block w R) :
    CallsR prog K.nand_Chip_Erase #[Value.pointer c, Value.int .i64 block] w R :=
  calls_body follows (f := K.nand_Chip_Erase) Try.func72 ([]) ([])
    (Eq.mp (by kernel_rfl : nand_Chip_Erase.body c block w R = bodyOf prog Try.f72 ([]) ([]) [Value.pointer c, Value.int .i64 block] w R) h)
def carrackref02_Blank.body (b : Option Addr) (bL bC : Nat) (w : World) (R : Value → World → Prop) : Prop :=
  CallsR prog K.carrackref02_Noughts #[Value.slice b bL bC] w fun v1 w1 => ∃ x1 : Int, v1 = Value.int .i64 x1 ∧ R (Value.bool (x1 == 0)) w1
theorem carrackref02_Blank.sh {b : Option Addr} {bL bC : Nat} {w : World} {R : Value → World → Prop} (h : carrackref02_Blank.body b bL bC w R) :
    CallsR prog K.carrackref02_Blank #[Value.slice b bL bC] w R :=
  calls_body follows (f := K.carrackref02_Blank) Try.func73 ([]) ([])
    (Eq.mp (by kernel_rfl : carrackref02_Blank.body b bL bC w R = bodyOf prog Try.f73 ([]) ([]) [Value.slice b bL bC] w R) h)
end Go.Den
end
section
set_option linter.unusedVariables false
set_option maxRecDepth 100000
namespace Go.Den
open Go.Proofs
def pool_GetHead.body (y0a : Option Addr) (y0aL y0aC : Nat) (w : World) (R : Value → World → Prop) : Prop :=
  ∀ (B1 : Nat) (w1 : World), New w (.cells #[Value.int .u8 0, Value.int .u32 0, Value.int .u64 0] T.api_Head) B1 w1 → CallsR prog K.seal_Get #[Value.slice y0a y0aL y0aC] w1 fun v1 w2 => ∃ x1 : Int, ∃ (a1 : Option Addr) (l1 c1 : Nat), ∃ x2 : Int, v1 = Value.tuple #[Value.int .u8 x1, Value.slice a1 l1 c1, Value.int .i64 x2] ∧ br (x2 != 0) (storeP w2 ⟨B1, 0, none⟩ [Value.int .u8 0, Value.int .u32 0, Value.int .u64 0] fun w3 => ∃ x3 : Int, ∃ x4 : Int, ∃ x5 : Int, cellsAt w3 ⟨B1, 0, none⟩ [Value.int .u8 x3, Value.int .u32 x4, Value.int .u64 x5] 0 ∧ R (Value.tuple #[Value.agg #[Value.int .u8 x3, Value.int .u32 x4, Value.int .u64 x5], Value.int .i64 x2]) w3) (CallsR prog K.ends_New #[Value.slice a1 l1 c1] w2 fun v2 w4 => ∃ p1 : Option Addr, v2 = Value.pointer p1 ∧ CallsR prog K.ends_Reader_Take #[Value.pointer p1, Value.int .i64 1] w4 fun v3 w5 => ∃ x6 : Int, ∃ x7 : Int, v3 = Value.tuple #[Value.int .u64 x6, Value.int .i64 x7] ∧ CallsR prog K.ends_Reader_Take #[Value.pointer p1, Value.int .i64 4] w5 fun v4 w6 => ∃ x8 : Int, ∃ x9 : Int, v4 = Value.tuple #[Value.int .u64 x8, Value.int .i64 x9] ∧ CallsR prog K.ends_Reader_Take #[Value.pointer p1, Value.int .i64 8] w6 fun v5 w7 => ∃ x10 : Int, ∃ x11 : Int, v5 = Value.tuple #[Value.int .u64 x10, Value.int .i64 x11] ∧ ∀ (B2 : Nat) (w8 : World), New w7 (.cells #[Value.int .u8 0, Value.int .u32 0, Value.int .u64 0] T.api_Head) B2 w8 → storeP w8 ⟨B2, 0, none⟩ [Value.int .u8 (IntKind.u8.wrap x6), Value.int .u32 (IntKind.u32.wrap x8), Value.int .u64 x10] fun w9 => ∃ x12 : Int, ∃ x13 : Int, ∃ x14 : Int, cellsAt w9 ⟨B2, 0, none⟩ [Value.int .u8 x12, Value.int .u32 x13, Value.int .u64 x14] 0 ∧ CallsR prog K.pool_PutHead #[Value.int .i64 ((y0aL : Nat) : Int), Value.agg #[Value.int .u8 x12, Value.int .u32 x13, Value.int .u64 x14]] w9 fun v6 w10 => ∃ (a2 : Option Addr) (l2 c2 : Nat), ∃ x15 : Int, v6 = Value.tuple #[Value.slice a2 l2 c2, Value.int .i64 x15] ∧ br (x15 != 0) (storeP w10 ⟨B1, 0, none⟩ [Value.int .u8 0, Value.int .u32 0, Value.int .u64 0] fun w11 => ∃ x16 : Int, ∃ x17 : Int, ∃ x18 : Int, cellsAt w11 ⟨B1, 0, none⟩ [Value.int .u8 x16, Value.int .u32 x17, Value.int .u64 x18] 0 ∧ R (Value.tuple #[Value.agg #[Value.int .u8 x16, Value.int .u32 x17, Value.int .u64 x18], Value.int .i64 5]) w11) (br (x1 != 1) (storeP w10 ⟨B1, 0, none⟩ [Value.int .u8 0, Value.int .u32 0, Value.int .u64 0] fun w12 => ∃ x19 : Int, ∃ x20 : Int, ∃ x21 : Int, cellsAt w12 ⟨B1, 0, none⟩ [Value.int .u8 x19, Value.int .u32 x20, Value.int .u64 x21] 0 ∧ R (Value.tuple #[Value.agg #[Value.int .u8 x19, Value.int .u32 x20, Value.int .u64 x21], Value.int .i64 5]) w12) (br (((l1 : Nat) : Int) != 13) (storeP w10 ⟨B1, 0, none⟩ [Value.int .u8 0, Value.int .u32 0, Value.int .u64 0] fun w13 => ∃ x22 : Int, ∃ x23 : Int, ∃ x24 : Int, cellsAt w13 ⟨B1, 0, none⟩ [Value.int .u8 x22, Value.int .u32 x23, Value.int .u64 x24] 0 ∧ R (Value.tuple #[Value.agg #[Value.int .u8 x22, Value.int .u32 x23, Value.int .u64 x24], Value.int .i64 5]) w13) (∃ x25 : Int, ∃ x26 : Int, ∃ x27 : Int, cellsAt w10 ⟨B2, 0, none⟩ [Value.int .u8 x25, Value.int .u32 x26, Value.int .u64 x27] 0 ∧ storeP w10 ⟨B1, 0, none⟩ [Value.int .u8 x25, Value.int .u32 x26, Value.int .u64 x27] fun w14 => ∃ x28 : Int, ∃ x29 : Int, ∃ x30 : Int, cellsAt w14 ⟨B1, 0, none⟩ [Value.int .u8 x28, Value.int .u32 x29, Value.int .u64 x30] 0 ∧ R (Value.tuple #[Value.agg #[Value.int .u8 x28, Value.int .u32 x29, Value.int .u64 x30], Value.int .i64 0]) w14))))
theorem pool_GetHead.sh {y0a : Option Addr} {y0aL y0aC : Nat} {w : World} {R : Value → World → Prop} (h : pool_GetHead.body y0a y0aL y0aC w R) :
    CallsR prog K.pool_GetHead #[Value.slice y0a y0aL y0aC] w R :=
  calls_body follows (f := K.pool_GetHead) Try.func74 ([]) ([])
    (Eq.mp (by kernel_rfl : pool_GetHead.body y0a y0aL y0aC w R = bodyOf prog Try.f74 ([]) ([]) [Value.slice y0a y0aL y0aC] w R) h)
/-- slices.IndexFunc[[]carrack/api.Hit,carrack/api.Hit] -/
def slices_IndexFunc_api_Hit.body (s : Option Addr) (sL sC : Nat) (f : Value) (w : World) (R : Value → World → Prop) : Prop :=
  ∃ (J1 : Int → World → Prop) (μ1 : Int → World → Nat), J1 0 w ∧ ∀ x1 : Int, ∀ w1 : World, J1 x1 w1 → br (decide (x1 < ((sL : Nat) : Int))) (idxP s sL x1 3 fun q1 => ∃ x2 : Int, ∃ b1 : Bool, ∃ (a1 : Option Addr) (l1 c1 : Nat), cellsAt w1 q1 [Value.int .i64 x2, Value.bool b1, Value.slice a1 l1 c1] 0 ∧ callT f [Value.agg #[Value.int .i64 x2, Value.bool b1, Value.slice a1 l1 c1]] w1 fun v1 w2 => ∃ b2 : Bool, v1 = Value.bool b2 ∧ br b2 (R (Value.int .i64 x1) w2) (J1 (IntKind.i64.wrap (x1 + 1)) w2 ∧ μ1 (IntKind.i64.wrap (x1 + 1)) w2 < μ1 x1 w1)) (R (Value.int .i64 (-1)) w1)
theorem slices_IndexFunc_api_Hit.sh {s : Option Addr} {sL sC : Nat} {f : Value} {w : World} {R : Value → World → Prop} (h : slices_IndexFunc_api_Hit.body s sL sC f w R) :
    CallsR prog K.slices_IndexFunc_api_Hit #[Value.slice s sL sC, f] w R :=
  calls_body follows (f := K.slices_IndexFunc_api_Hit) Try.func75 ([]) ([(2, [0, 1, 7], [8], [Value.int .i64 0])])
    (Eq.mp (by kernel_rfl : slices_IndexFunc_api_Hit.body s sL sC f w R = bodyOf prog Try.f75 ([]) ([(2, [0, 1, 7], [8], [Value.int .i64 0])]) [Value.slice s sL sC, f] w R) h)
def carrackref04_GetHead.body (b : Option Addr) (bL bC : Nat) (w : World) (R : Value → World → Prop) : Prop :=
  ∀ (B1 : Nat) (w1 : World), New w (.cells #[Value.int .u8 0, Value.int .u32 0, Value.int .u64 0] T.api_Head) B1 w1 → CallsR prog K.carrackref02_Get #[Value.slice b bL bC] w1 fun v1 w2 => ∃ x1 : Int, ∃ (a1 : Option Addr) (l1 c1 : Nat), ∃ x2 : Int, v1 = Value.tuple #[Value.int .u8 x1, Value.slice a1 l1 c1, Value.int .i64 x2] ∧ br (x2 != 0) (storeP w2 ⟨B1, 0, none⟩ [Value.int .u8 0, Value.int .u32 0, Value.int .u64 0] fun w3 => ∃ x3 : Int, ∃ x4 : Int, ∃ x5 : Int, cellsAt w3 ⟨B1, 0, none⟩ [Value.int .u8 x3, Value.int .u32 x4, Value.int .u64 x5] 0 ∧ R (Value.tuple #[Value.agg #[Value.int .u8 x3, Value.int .u32 x4, Value.int .u64 x5], Value.int .i64 x2]) w3) (br (x1 != 1) (storeP w2 ⟨B1, 0, none⟩ [Value.int .u8 0, Value.int .u32 0, Value.int .u64 0] fun w4 => ∃ x6 : Int, ∃ x7 : Int, ∃ x8 : Int, cellsAt w4 ⟨B1, 0, none⟩ [Value.int .u8 x6, Value.int .u32 x7, Value.int .u64 x8] 0 ∧ R (Value.tuple #[Value.agg #[Value.int .u8 x6, Value.int .u32 x7, Value.int .u64 x8], Value.int .i64 5]) w4) (br (((l1 : Nat) : Int) != 13) (storeP w2 ⟨B1, 0, none⟩ [Value.int .u8 0, Value.int .u32 0, Value.int .u64 0] fun w5 => ∃ x9 : Int, ∃ x10 : Int, ∃ x11 : Int, cellsAt w5 ⟨B1, 0, none⟩ [Value.int .u8 x9, Value.int .u32 x10, Value.int .u64 x11] 0 ∧ R (Value.tuple #[Value.agg #[Value.int .u8 x9, Value.int .u32 x10, Value.int .u64 x11], Value.int .i64 5]) w5) (∀ (B2 : Nat) (w6 : World), New w2 (.cells #[Value.slice a1 l1 c1, Value.bool false] T.carrackref01_Reader) B2 w6 → CallsR prog K.carrackref01_Reader_Take #[Value.pointer (some ⟨B2, 0, none⟩), Value.int .i64 1] w6 fun v2 w7 => ∃ x12 : Int, ∃ x13 : Int, v2 = Value.tuple #[Value.int .u64 x12, Value.int .i64 x13] ∧ CallsR prog K.carrackref01_Reader_Take #[Value.pointer (some ⟨B2, 0, none⟩), Value.int .i64 4] w7 fun v3 w8 => ∃ x14 : Int, ∃ x15 : Int, v3 = Value.tuple #[Value.int .u64 x14, Value.int .i64 x15] ∧ CallsR prog K.carrackref01_Reader_Take #[Value.pointer (some ⟨B2, 0, none⟩), Value.int .i64 8] w8 fun v4 w9 => ∃ x16 : Int, ∃ x17 : Int, v4 = Value.tuple #[Value.int .u64 x16, Value.int .i64 x17] ∧ ∀ (B3 : Nat) (w10 : World), New w9 (.cells #[Value.int .u8 0, Value.int .u32 0, Value.int .u64 0] T.api_Head) B3 w10 → storeP w10 ⟨B3, 0, none⟩ [Value.int .u8 (IntKind.u8.wrap x12), Value.int .u32 (IntKind.u32.wrap x14), Value.int .u64 x16] fun w11 => ∃ x18 : Int, ∃ x19 : Int, ∃ x20 : Int, cellsAt w11 ⟨B3, 0, none⟩ [Value.int .u8 x18, Value.int .u32 x19, Value.int .u64 x20] 0 ∧ CallsR prog K.carrackref04_MayHead #[Value.agg #[Value.int .u8 x18, Value.int .u32 x19, Value.int .u64 x20]] w11 fun v5 w12 => ∃ b1 : Bool, v5 = Value.bool b1 ∧ br (!b1) (storeP w12 ⟨B1, 0, none⟩ [Value.int .u8 0, Value.int .u32 0, Value.int .u64 0] fun w13 => ∃ x21 : Int, ∃ x22 : Int, ∃ x23 : Int, cellsAt w13 ⟨B1, 0, none⟩ [Value.int .u8 x21, Value.int .u32 x22, Value.int .u64 x23] 0 ∧ R (Value.tuple #[Value.agg #[Value.int .u8 x21, Value.int .u32 x22, Value.int .u64 x23], Value.int .i64 5]) w13) (∃ x24 : Int, ∃ x25 : Int, ∃ x26 : Int, cellsAt w12 ⟨B3, 0, none⟩ [Value.int .u8 x24, Value.int .u32 x25, Value.int .u64 x26] 0 ∧ storeP w12 ⟨B1, 0, none⟩ [Value.int .u8 x24, Value.int .u32 x25, Value.int .u64 x26] fun w14 => ∃ x27 : Int, ∃ x28 : Int, ∃ x29 : Int, cellsAt w14 ⟨B1, 0, none⟩ [Value.int .u8 x27, Value.int .u32 x28, Value.int .u64 x29] 0 ∧ R (Value.tuple #[Value.agg #[Value.int .u8 x27, Value.int .u32 x28, Value.int .u64 x29], Value.int .i64 0]) w14))))
theorem carrackref04_GetHead.sh {b : Option Addr} {bL bC : Nat} {w : World} {R : Value → World → Prop} (h : carrackref04_GetHead.body b bL bC w R) :
    CallsR prog K.carrackref04_GetHead #[Value.slice b bL bC] w R :=
  calls_body follows (f := K.carrackref04_GetHead) Try.func76 ([]) ([])
    (Eq.mp (by kernel_rfl : carrackref04_GetHead.body b bL bC w R = bodyOf prog Try.f76 ([]) ([]) [Value.slice b bL bC] w R) h)
/-- math/bits.Mul -/
def bits_Mul.body (x : Int) (y : Int) (w : World) (R : Value → World → Prop) : Prop :=
  CallsR prog K.bits_Mul64 #[Value.int .u64 x, Value.int .u64 y] w fun v1 w1 => ∃ x1 : Int, ∃ x2 : Int, v1 = Value.tuple #[Value.int .u64 x1, Value.int .u64 x2] ∧ R (Value.tuple #[Value.int .u64 x1, Value.int .u64 x2]) w1
theorem bits_Mul.sh {x : Int} {y : Int} {w : World} {R : Value → World → Prop} (h : bits_Mul.body x y w R) :
    CallsR prog K.bits_Mul #[Value.int .u64 x, Value.int .u64 y] w R :=
  calls_body follows (f := K.bits_Mul) Try.func77 ([]) ([])
    (Eq.mp (by kernel_rfl : bits_Mul.body x y w R = bodyOf prog Try.f77 ([]) ([]) [Value.int .u64 x, Value.int .u64 y] w R) h)
/-- slices.stableCmpFunc[carrack/api.Taken] -/
def slices_stableCmpFunc_api_Taken.body (data : Option Addr) (dataL dataC : Nat) (n : Int) (cmp : Value) (w : World) (R : Value → World → Prop) : Prop :=
  ∃ (J1 : Int → Int → World → Prop) (μ1 : Int → Int → World → Nat), J1 0 20 w ∧ ∀ x1 : Int, ∀ x2 : Int, ∀ w1 : World, J1 x1 x2 w1 → br (decide (x2 ≤ n)) (CallsR prog K.slices_insertionSortCmpFunc_api_Taken #[Value.slice data dataL dataC, Value.int .i64 x1, Value.int .i64 x2, cmp] w1 fun v1 w2 => v1 = Value.tuple #[] ∧ J1 x2 (IntKind.i64.wrap (x2 + 20)) w2 ∧ μ1 x2 (IntKind.i64.wrap (x2 + 20)) w2 < μ1 x1 x2 w1) (CallsR prog K.slices_insertionSortCmpFunc_api_Taken #[Value.slice data dataL dataC, Value.int .i64 x1, Value.int .i64 n, cmp] w1 fun v2 w3 => v2 = Value.tuple #[] ∧ ∃ (J2 : Int → World → Prop) (μ2 : Int → World → Nat), J2 20 w3 ∧ ∀ x3 : Int, ∀ w4 : World, J2 x3 w4 → br (decide (x3 < n)) (∃ (J3 : Int → Int → World → Prop) (μ3 : Int → Int → World → Nat), J3 0 (IntKind.i64.wrap ((2 : Int) * x3)) w4 ∧ ∀ x4 : Int, ∀ x5 : Int, ∀ w5 : World, J3 x4 x5 w5 → br (decide (x5 ≤ n)) (CallsR prog K.slices_symMergeCmpFunc_api_Taken #[Value.slice data dataL dataC, Value.int .i64 x4, Value.int .i64 (IntKind.i64.wrap (x4 + x3)), Value.int .i64 x5, cmp] w5 fun v3 w6 => v3 = Value.tuple #[] ∧ J3 x5 (IntKind.i64.wrap (x5 + (IntKind.i64.wrap ((2 : Int) * x3)))) w6 ∧ μ3 x5 (IntKind.i64.wrap (x5 + (IntKind.i64.wrap ((2 : Int) * x3)))) w6 < μ3 x4 x5 w5) (br (decide ((IntKind.i64.wrap (x4 + x3)) < n)) (CallsR prog K.slices_symMergeCmpFunc_api_Taken #[Value.slice data dataL dataC, Value.int .i64 x4, Value.int .i64 (IntKind.i64.wrap (x4 + x3)), Value.int .i64 n, cmp] w5 fun v4 w7 => v4 = Value.tuple #[] ∧ J2 (IntKind.i64.wrap (x3 * 2)) w7 ∧ μ2 (IntKind.i64.wrap (x3 * 2)) w7 < μ2 x3 w4) (J2 (IntKind.i64.wrap (x3 * 2)) w5 ∧ μ2 (IntKind.i64.wrap (x3 * 2)) w5 < μ2 x3 w4))) (R (Value.tuple #[]) w4))
theorem slices_stableCmpFunc_api_Taken.sh {data : Option Addr} {dataL dataC : Nat} {n : Int} {cmp : Value} {w : World} {R : Value → World → Prop} (h : slices_stableCmpFunc_api_Taken.body data dataL dataC n cmp w R) :
    CallsR prog K.slices_stableCmpFunc_api_Taken #[Value.slice data dataL dataC, Value.int .i64 n, cmp] w R :=
  calls_body follows (f := K.slices_stableCmpFunc_api_Taken) Try.func78 ([]) ([(2, [0, 1, 2, 6], [7, 8], [Value.int .i64 0, Value.int .i64 0]), (7, [0, 1, 2], [6], [Value.int .i64 0]), (9, [0, 1, 2, 6], [7, 8], [Value.int .i64 0, Value.int .i64 0])])
    (Eq.mp (by kernel_rfl : slices_stableCmpFunc_api_Taken.body data dataL dataC n cmp w R = bodyOf prog Try.f78 ([]) ([(2, [0, 1, 2, 6], [7, 8], [Value.int .i64 0, Value.int .i64 0]), (7, [0, 1, 2], [6], [Value.int .i64 0]), (9, [0, 1, 2, 6], [7, 8], [Value.int .i64 0, Value.int .i64 0])]) [Value.slice data dataL dataC, Value.int .i64 n, cmp] w R) h)
def pool_PutHead.body (size : Int) (h_Kind : Int) (h_Era : Int) (h_Seq : Int) (w : World) (R : Value → World → Prop) : Prop :=
  ∀ (B1 : Nat) (w1 : World), New w (.cells #[Value.int .u8 h_Kind, Value.int .u32 h_Era, Value.int .u64 h_Seq] T.api_Head) B1 w1 → ∃ J1 : World → Prop, (∃ x1 : Int, World.cell? w1 ⟨B1, 0, none⟩ = some (Value.int .u8 x1) ∧ br (decide (x1 < 1)) (R (Value.tuple #[Value.slice none 0 0, Value.int .i64 2]) w1) (∃ x2 : Int, World.cell? w1 ⟨B1, 0, none⟩ = some (Value.int .u8 x2) ∧ br (decide (x2 > 3)) (R (Value.tuple #[Value.slice none 0 0, Value.int .i64 2]) w1) (∃ x3 : Int, World.cell? w1 (Addr.add ⟨B1, 0, none⟩ 1) = some (Value.int .u32 x3) ∧ br (decide (x3 < 1)) (R (Value.tuple #[Value.slice none 0 0, Value.int .i64 2]) w1) (∃ x4 : Int, World.cell? w1 (Addr.add ⟨B1, 0, none⟩ 2) = some (Value.int .u64 x4) ∧ br (decide (x4 < 1)) (R (Value.tuple #[Value.slice none 0 0, Value.int .i64 2]) w1) (J1 w1))))) ∧ (∀ w2 : World, J1 w2 → ∃ x5 : Int, World.cell? w2 (Addr.add ⟨B1, 0, none⟩ 1) = some (Value.int .u32 x5) ∧ CallsR prog K.ends_Put #[Value.int .u64 (IntKind.u64.wrap x5), Value.int .i64 4] w2 fun v1 w3 => ∃ (a1 : Option Addr) (l1 c1 : Nat), ∃ x6 : Int, v1 = Value.tuple #[Value.slice a1 l1 c1, Value.int .i64 x6] ∧ ∃ x7 : Int, World.cell? w3 (Addr.add ⟨B1, 0, none⟩ 2) = some (Value.int .u64 x7) ∧ CallsR prog K.ends_Put #[Value.int .u64 x7, Value.int .i64 8] w3 fun v2 w4 => ∃ (a2 : Option Addr) (l2 c2 : Nat), ∃ x8 : Int, v2 = Value.tuple #[Value.slice a2 l2 c2, Value.int .i64 x8] ∧ ∃ x9 : Int, World.cell? w4 ⟨B1, 0, none⟩ = some (Value.int .u8 x9) ∧ ∀ (B2 : Nat) (w5 : World), New w4 (.cells #[Value.int .u8 x9] T.uint8) B2 w5 → ∀ (B3 : Nat) (w6 : World), New w5 (.cells #[Value.slice (some ⟨B2, 0, none⟩) 1 1, Value.slice a1 l1 c1, Value.slice a2 l2 c2] T.L_uint8) B3 w6 → CallsR prog K.slices_Concat_byte #[Value.slice (some ⟨B3, 0, none⟩) 3 3] w6 fun v3 w7 => ∃ (a3 : Option Addr) (l3 c3 : Nat), v3 = Value.slice a3 l3 c3 ∧ CallsR prog K.seal_Put #[Value.int .i64 size, Value.int .u8 1, Value.slice a3 l3 c3] w7 fun v4 w8 => ∃ (a4 : Option Addr) (l4 c4 : Nat), ∃ x10 : Int, v4 = Value.tuple #[Value.slice a4 l4 c4, Value.int .i64 x10] ∧ R (Value.tuple #[Value.slice a4 l4 c4, Value.int .i64 x10]) w8)
theorem pool_PutHead.sh {size : Int} {h_Kind : Int} {h_Era : Int} {h_Seq : Int} {w : World} {R : Value → World → Prop} (h : pool_PutHead.body size h_Kind h_Era h_Seq w R) :
    CallsR prog K.pool_PutHead #[Value.int .i64 size, Value.agg #[Value.int .u8 h_Kind, Value.int .u32 h_Era, Value.int .u64 h_Seq]] w R :=
  calls_body follows (f := K.pool_PutHead) Try.func79 ([(3, [0, 3], [], [])]) ([])
    (Eq.mp (by kernel_rfl : pool_PutHead.body size h_Kind h_Era h_Seq w R = bodyOf prog Try.f79 ([(3, [0, 3], [], [])]) ([]) [Value.int .i64 size, Value.agg #[Value.int .u8 h_Kind, Value.int .u32 h_Era, Value.int .u64 h_Seq]] w R) h)
/-- (*carrack/nand.Chip).strike -/
def nand_Chip_strike.body (c : Option Addr) (w : World) (R : Value → World → Prop) : Prop :=
  nilC c fun q1 => ∃ x1 : Int, World.cell? w (Addr.add q1 9) = some (Value.int .i64 x1) ∧ nilC c fun q2 => storeP w (Addr.add q2 9) [Value.int .i64 (IntKind.i64.wrap (x1 + 1))] fun w1 => nilC c fun q3 => ∃ (a1 : Option Addr) (l1 c1 : Nat), World.cell? w1 (Addr.add q3 6) = some (Value.slice a1 l1 c1) ∧ br (((l1 : Nat) : Int) == 0) (R (Value.pointer none) w1) (∀ w2 : World, Drew w1 w2 → ∃ S1 : World → Prop, S1 w2 ∧ nilC c fun q4 => ∃ x2 : Int, (∀ u1, S1 u1 → World.cell? u1 (Addr.add q4 7) = some (Value.int .i64 x2)) ∧ nilC c fun q5 => ∃ (a2 : Option Addr) (l2 c2 : Nat), (∀ u2, S1 u2 → World.cell? u2 (Addr.add q5 6) = some (Value.slice a2 l2 c2)) ∧ idxP a2 l2 (0 : Int) 3 fun q6 => ∃ x3 : Int, (∀ u3, S1 u3 → World.cell? u3 q6 = some (Value.int .i64 x3)) ∧ br (decide (x2 < x3)) (nilC c fun q7 => ∃ x4 : Int, World.cell? w2 (Addr.add q7 7) = some (Value.int .i64 x4) ∧ nilC c fun q8 => storeP w2 (Addr.add q8 7) [Value.int .i64 (IntKind.i64.wrap (x4 + 1))] fun w3 => R (Value.pointer none) w3) (nilC c fun q9 => ∃ (a3 : Option Addr) (l3 c3 : Nat), World.cell? w2 (Addr.add q9 6) = some (Value.slice a3 l3 c3) ∧ idxP a3 l3 (0 : Int) 3 fun q10 => ∃ x5 : Int, ∃ b1 : Bool, ∃ (a4 : Option Addr) (l4 c4 : Nat), cellsAt w2 q10 [Value.int .i64 x5, Value.bool b1, Value.slice a4 l4 c4] 0 ∧ ∀ (B1 : Nat) (w4 : World), New w2 (.cells #[Value.int .i64 0, Value.bool false, Value.slice none 0 0] T.api_Hit) B1 w4 → storeP w4 ⟨B1, 0, none⟩ [Value.int .i64 x5, Value.bool b1, Value.slice a4 l4 c4] fun w5 => nilC c fun q11 => ∃ (a5 : Option Addr) (l5 c5 : Nat), World.cell? w5 (Addr.add q11 6) = some (Value.slice a5 l5 c5) ∧ sliceP 3 a5 l5 c5 (some (1 : Int)) none none fun a6 l6 c6 => nilC c fun q12 => storeP w5 (Addr.add q12 6) [Value.slice a6 l6 c6] fun w6 => nilC c fun q13 => storeP w6 (Addr.add q13 7) [Value.int .i64 0] fun w7 => R (Value.pointer (some ⟨B1, 0, none⟩)) w7))
theorem nand_Chip_strike.sh {c : Option Addr} {w : World} {R : Value → World → Prop} (h : nand_Chip_strike.body c w R) :
    CallsR prog K.nand_Chip_strike #[Value.pointer c] w R :=
  calls_body follows (f := K.nand_Chip_strike) Try.func80 ([]) ([])
    (Eq.mp (by kernel_rfl : nand_Chip_strike.body c w R = bodyOf prog Try.f80 ([]) ([]) [Value.pointer c] w R) h)
/-- (*carrack/nand.Chip).Erase$1 -/
def nand_Chip_Erase_1.body (y0a : Int) (w : World) (R : Value → World → Prop) : Prop :=
  R (Value.int .u8 255) w
theorem nand_Chip_Erase_1.sh {y0a : Int} {w : World} {R : Value → World → Prop} (h : nand_Chip_Erase_1.body y0a w R) :
    CallsR prog K.nand_Chip_Erase_1 #[Value.int .i64 y0a] w R :=
  calls_body follows (f := K.nand_Chip_Erase_1) Try.func81 ([]) ([])
    (Eq.mp (by kernel_rfl : nand_Chip_Erase_1.body y0a w R = bodyOf prog Try.f81 ([]) ([]) [Value.int .i64 y0a] w R) h)
/-- (*carrack/carrackref01.Reader).Take -/
def carrackref01_Reader_Take.body (r : Option Addr) (size : Int) (w : World) (R : Value → World → Prop) : Prop :=
  CallsR prog K.carrackref01_Size #[Value.int .i64 size] w fun v1 w1 => ∃ b1 : Bool, v1 = Value.bool b1 ∧ br (!b1) (R (Value.tuple #[Value.int .u64 0, Value.int .i64 2]) w1) (nilC r fun q1 => ∃ b2 : Bool, World.cell? w1 (Addr.add q1 1) = some (Value.bool b2) ∧ br b2 (nilC r fun q2 => storeP w1 (Addr.add q2 1) [Value.bool true] fun w2 => R (Value.tuple #[Value.int .u64 0, Value.int .i64 4]) w2) (nilC r fun q3 => ∃ (a1 : Option Addr) (l1 c1 : Nat), World.cell? w1 q3 = some (Value.slice a1 l1 c1) ∧ br (decide (((l1 : Nat) : Int) < size)) (nilC r fun q4 => storeP w1 (Addr.add q4 1) [Value.bool true] fun w3 => R (Value.tuple #[Value.int .u64 0, Value.int .i64 4]) w3) (∃ (J1 : Int → Int → World → Prop) (μ1 : Int → Int → World → Nat), J1 0 (IntKind.i64.wrap (size - 1)) w1 ∧ ∀ x1 : Int, ∀ x2 : Int, ∀ w4 : World, J1 x1 x2 w4 → br (decide (x2 ≥ 0)) (nilC r fun q5 => ∃ (a2 : Option Addr) (l2 c2 : Nat), World.cell? w4 q5 = some (Value.slice a2 l2 c2) ∧ idxP a2 l2 x2 1 fun q6 => ∃ x3 : Int, World.cell? w4 q6 = some (Value.int .u8 x3) ∧ J1 (IntKind.u64.wrap ((IntKind.u64.wrap ((256 : Int) * x1)) + (IntKind.u64.wrap x3))) (IntKind.i64.wrap (x2 - 1)) w4 ∧ μ1 (IntKind.u64.wrap ((IntKind.u64.wrap ((256 : Int) * x1)) + (IntKind.u64.wrap x3))) (IntKind.i64.wrap (x2 - 1)) w4 < μ1 x1 x2 w4) (nilC r fun q7 => ∃ (a3 : Option Addr) (l3 c3 : Nat), World.cell? w4 q7 = some (Value.slice a3 l3 c3) ∧ sliceP 1 a3 l3 c3 (some size) none none fun a4 l4 c4 => nilC r fun q8 => storeP w4 q8 [Value.slice a4 l4 c4] fun w5 => R (Value.tuple #[Value.int .u64 x1, Value.int .i64 0]) w5))))
theorem carrackref01_Reader_Take.sh {r : Option Addr} {size : Int} {w : World} {R : Value → World → Prop} (h : carrackref01_Reader_Take.body r size w R) :
    CallsR prog K.carrackref01_Reader_Take #[Value.pointer r, Value.int .i64 size] w R :=
  calls_body follows (f := K.carrackref01_Reader_Take) Try.func82 ([]) ([(8, [0, 1], [6, 7], [Value.int .u64 0, Value.int .i64 0])])
    (Eq.mp (by kernel_rfl : carrackref01_Reader_Take.body r size w R = bodyOf prog Try.f82 ([]) ([(8, [0, 1], [6, 7], [Value.int .u64 0, Value.int .i64 0])]) [Value.pointer r, Value.int .i64 size] w R) h)
def carrackref04_MayHead.body (h_Kind : Int) (h_Era : Int) (h_Seq : Int) (w : World) (R : Value → World → Prop) : Prop :=
  ∀ (B1 : Nat) (w1 : World), New w (.cells #[Value.int .u8 h_Kind, Value.int .u32 h_Era, Value.int .u64 h_Seq] T.api_Head) B1 w1 → ∃ x1 : Int, World.cell? w1 ⟨B1, 0, none⟩ = some (Value.int .u8 x1) ∧ br (decide (x1 ≥ 1)) (∃ x2 : Int, World.cell? w1 ⟨B1, 0, none⟩ = some (Value.int .u8 x2) ∧ br (decide (x2 ≤ 3)) (∃ x3 : Int, World.cell? w1 (Addr.add ⟨B1, 0, none⟩ 1) = some (Value.int .u32 x3) ∧ br (decide (x3 ≥ 1)) (∃ x4 : Int, World.cell? w1 (Addr.add ⟨B1, 0, none⟩ 2) = some (Value.int .u64 x4) ∧ R (Value.bool (decide (x4 ≥ 1))) w1) (R (Value.bool false) w1)) (R (Value.bool false) w1)) (R (Value.bool false) w1)
theorem carrackref04_MayHead.sh {h_Kind : Int} {h_Era : Int} {h_Seq : Int} {w : World} {R : Value → World → Prop} (h : carrackref04_MayHead.body h_Kind h_Era h_Seq w R) :
    CallsR prog K.carrackref04_MayHead #[Value.agg #[Value.int .u8 h_Kind, Value.int .u32 h_Era, Value.int .u64 h_Seq]] w R :=
  calls_body follows (f := K.carrackref04_MayHead) Try.func83 ([]) ([])
    (Eq.mp (by kernel_rfl : carrackref04_MayHead.body h_Kind h_Era h_Seq w R = bodyOf prog Try.f83 ([]) ([]) [Value.agg #[Value.int .u8 h_Kind, Value.int .u32 h_Era, Value.int .u64 h_Seq]] w R) h)
/-- math/bits.Mul32 -/
def bits_Mul32.body (x : Int) (y : Int) (w : World) (R : Value → World → Prop) : Prop :=
  0 ≤ (32 : Int) ∧ R (Value.tuple #[Value.int .u32 (IntKind.u32.wrap (Int.fdiv (IntKind.u64.wrap ((IntKind.u64.wrap x) * (IntKind.u64.wrap y))) (2 ^ (min (Int.toNat (32 : Int)) (IntKind.bits .u64))))), Value.int .u32 (IntKind.u32.wrap (IntKind.u64.wrap ((IntKind.u64.wrap x) * (IntKind.u64.wrap y))))]) w
theorem bits_Mul32.sh {x : Int} {y : Int} {w : World} {R : Value → World → Prop} (h : bits_Mul32.body x y w R) :
    CallsR prog K.bits_Mul32 #[Value.int .u32 x, Value.int .u32 y] w R :=
  calls_body follows (f := K.bits_Mul32) Try.func84 ([]) ([])
    (Eq.mp (by kernel_rfl : bits_Mul32.body x y w R = bodyOf prog Try.f84 ([]) ([]) [Value.int .u32 x, Value.int .u32 y] w R) h)
/-- math/bits.Mul64 -/
def bits_Mul64.body (x : Int) (y : Int) (w : World) (R : Value → World → Prop) : Prop :=
  0 ≤ (32 : Int) ∧ 0 ≤ (32 : Int) ∧ 0 ≤ (32 : Int) ∧ 0 ≤ (32 : Int) ∧ 0 ≤ (32 : Int) ∧ R (Value.tuple #[Value.int .u64 (IntKind.u64.wrap ((IntKind.u64.wrap ((IntKind.u64.wrap ((Int.fdiv x (2 ^ (min (Int.toNat (32 : Int)) (IntKind.bits .u64)))) * (Int.fdiv y (2 ^ (min (Int.toNat (32 : Int)) (IntKind.bits .u64)))))) + (Int.fdiv (IntKind.u64.wrap ((IntKind.u64.wrap ((Int.fdiv x (2 ^ (min (Int.toNat (32 : Int)) (IntKind.bits .u64)))) * (IntKind.u64.wrap ((BitVec.ofInt (IntKind.bits .u64) y &&& BitVec.ofInt (IntKind.bits .u64) 4294967295).toNat)))) + (Int.fdiv (IntKind.u64.wrap ((IntKind.u64.wrap ((BitVec.ofInt (IntKind.bits .u64) x &&& BitVec.ofInt (IntKind.bits .u64) 4294967295).toNat)) * (IntKind.u64.wrap ((BitVec.ofInt (IntKind.bits .u64) y &&& BitVec.ofInt (IntKind.bits .u64) 4294967295).toNat)))) (2 ^ (min (Int.toNat (32 : Int)) (IntKind.bits .u64)))))) (2 ^ (min (Int.toNat (32 : Int)) (IntKind.bits .u64)))))) + (Int.fdiv (IntKind.u64.wrap ((IntKind.u64.wrap ((BitVec.ofInt (IntKind.bits .u64) (IntKind.u64.wrap ((IntKind.u64.wrap ((Int.fdiv x (2 ^ (min (Int.toNat (32 : Int)) (IntKind.bits .u64)))) * (IntKind.u64.wrap ((BitVec.ofInt (IntKind.bits .u64) y &&& BitVec.ofInt (IntKind.bits .u64) 4294967295).toNat)))) + (Int.fdiv (IntKind.u64.wrap ((IntKind.u64.wrap ((BitVec.ofInt (IntKind.bits .u64) x &&& BitVec.ofInt (IntKind.bits .u64) 4294967295).toNat)) * (IntKind.u64.wrap ((BitVec.ofInt (IntKind.bits .u64) y &&& BitVec.ofInt (IntKind.bits .u64) 4294967295).toNat)))) (2 ^ (min (Int.toNat (32 : Int)) (IntKind.bits .u64)))))) &&& BitVec.ofInt (IntKind.bits .u64) 4294967295).toNat)) + (IntKind.u64.wrap ((IntKind.u64.wrap ((BitVec.ofInt (IntKind.bits .u64) x &&& BitVec.ofInt (IntKind.bits .u64) 4294967295).toNat)) * (Int.fdiv y (2 ^ (min (Int.toNat (32 : Int)) (IntKind.bits .u64)))))))) (2 ^ (min (Int.toNat (32 : Int)) (IntKind.bits .u64)))))), Value.int .u64 (IntKind.u64.wrap (x * y))]) w
theorem bits_Mul64.sh {x : Int} {y : Int} {w : World} {R : Value → World → Prop} (h : bits_Mul64.body x y w R) :
    CallsR prog K.bits_Mul64 #[Value.int .u64 x, Value.int .u64 y] w R :=
  calls_body follows (f := K.bits_Mul64) Try.func85 ([]) ([])
    (Eq.mp (by kernel_rfl : bits_Mul64.body x y w R = bodyOf prog Try.f85 ([]) ([]) [Value.int .u64 x, Value.int .u64 y] w R) h)
/-- slices.insertionSortCmpFunc[carrack/api.Taken] -/
def slices_insertionSortCmpFunc_api_Taken.body (data : Option Addr) (dataL dataC : Nat) (a : Int) (b : Int) (cmp : Value) (w : World) (R : Value → World → Prop) : Prop :=
  ∃ (J1 : Int → World → Prop) (μ1 : Int → World → Nat), J1 (IntKind.i64.wrap (a + 1)) w ∧ ∀ x1 : Int, ∀ w1 : World, J1 x1 w1 → br (decide (x1 < b)) (∃ (J2 : Int → World → Prop) (μ2 : Int → World → Nat), J2 x1 w1 ∧ ∀ x2 : Int, ∀ w2 : World, J2 x2 w2 → ∀ w3 : World, Drew w2 w3 → ∃ S1 : World → Prop, S1 w3 ∧ br (decide (x2 > a)) (idxP data dataL x2 5 fun q1 => ∃ x3 : Int, ∃ x4 : Int, ∃ x5 : Int, ∃ x6 : Int, ∃ b1 : Bool, (∀ u1, S1 u1 → cellsAt u1 q1 [Value.int .i64 x3, Value.int .u8 x4, Value.int .u32 x5, Value.int .u64 x6, Value.bool b1] 0) ∧ idxP data dataL (IntKind.i64.wrap (x2 - 1)) 5 fun q2 => ∃ x7 : Int, ∃ x8 : Int, ∃ x9 : Int, ∃ x10 : Int, ∃ b2 : Bool, (∀ u2, S1 u2 → cellsAt u2 q2 [Value.int .i64 x7, Value.int .u8 x8, Value.int .u32 x9, Value.int .u64 x10, Value.bool b2] 0) ∧ callT cmp [Value.agg #[Value.int .i64 x3, Value.int .u8 x4, Value.int .u32 x5, Value.int .u64 x6, Value.bool b1], Value.agg #[Value.int .i64 x7, Value.int .u8 x8, Value.int .u32 x9, Value.int .u64 x10, Value.bool b2]] w3 fun v1 w4 => ∃ x11 : Int, v1 = Value.int .i64 x11 ∧ br (decide (x11 < 0)) (∀ w5 : World, Drew w4 w5 → ∃ S2 : World → Prop, S2 w5 ∧ idxP data dataL (IntKind.i64.wrap (x2 - 1)) 5 fun q3 => ∃ x12 : Int, ∃ x13 : Int, ∃ x14 : Int, ∃ x15 : Int, ∃ b3 : Bool, (∀ u3, S2 u3 → cellsAt u3 q3 [Value.int .i64 x12, Value.int .u8 x13, Value.int .u32 x14, Value.int .u64 x15, Value.bool b3] 0) ∧ idxP data dataL x2 5 fun q4 => ∃ x16 : Int, ∃ x17 : Int, ∃ x18 : Int, ∃ x19 : Int, ∃ b4 : Bool, (∀ u4, S2 u4 → cellsAt u4 q4 [Value.int .i64 x16, Value.int .u8 x17, Value.int .u32 x18, Value.int .u64 x19, Value.bool b4] 0) ∧ idxP data dataL x2 5 fun q5 => storeP w5 q5 [Value.int .i64 x12, Value.int .u8 x13, Value.int .u32 x14, Value.int .u64 x15, Value.bool b3] fun w6 => idxP data dataL (IntKind.i64.wrap (x2 - 1)) 5 fun q6 => storeP w6 q6 [Value.int .i64 x16, Value.int .u8 x17, Value.int .u32 x18, Value.int .u64 x19, Value.bool b4] fun w7 => J2 (IntKind.i64.wrap (x2 - 1)) w7 ∧ μ2 (IntKind.i64.wrap (x2 - 1)) w7 < μ2 x2 w2) (J1 (IntKind.i64.wrap (x1 + 1)) w4 ∧ μ1 (IntKind.i64.wrap (x1 + 1)) w4 < μ1 x1 w1)) (J1 (IntKind.i64.wrap (x1 + 1)) w3 ∧ μ1 (IntKind.i64.wrap (x1 + 1)) w3 < μ1 x1 w1)) (R (Value.tuple #[]) w1)
theorem slices_insertionSortCmpFunc_api_Taken.sh {data : Option Addr} {dataL dataC : Nat} {a : Int} {b : Int} {cmp : Value} {w : World} {R : Value → World → Prop} (h : slices_insertionSortCmpFunc_api_Taken.body data dataL dataC a b cmp w R) :
    CallsR prog K.slices_insertionSortCmpFunc_api_Taken #[Value.slice data dataL dataC, Value.int .i64 a, Value.int .i64 b, cmp] w R :=
  calls_body follows (f := K.slices_insertionSortCmpFunc_api_Taken) Try.func86 ([]) ([(1, [0, 1, 2, 3], [8], [Value.int .i64 0]), (4, [0, 1, 2, 3, 8], [9], [Value.int .i64 0])])
    (Eq.mp (by kernel_rfl : slices_insertionSortCmpFunc_api_Taken.body data dataL dataC a b cmp w R = bodyOf prog Try.f86 ([]) ([(1, [0, 1, 2, 3], [8], [Value.int .i64 0]), (4, [0, 1, 2, 3, 8], [9], [Value.int .i64 0])]) [Value.slice data dataL dataC, Value.int .i64 a, Value.int .i64 b, cmp] w R) h)
end Go.Den
end
section
set_option linter.unusedVariables false
set_option maxRecDepth 100000
namespace Go.Den
open Go.Proofs
/-- slices.symMergeCmpFunc[carrack/api.Taken] -/
def slices_symMergeCmpFunc_api_Taken.body (y0a : Option Addr) (y0aL y0aC : Nat) (y1a : Int) (y2a : Int) (y3a : Int) (y4a : Value) (w : World) (R : Value → World → Prop) : Prop :=
  br ((IntKind.i64.wrap (y2a - y1a)) == 1) (∃ (J1 : Int → Int → World → Prop) (μ1 : Int → Int → World → Nat), J1 y2a y3a w ∧ ∀ x1 : Int, ∀ x2 : Int, ∀ w1 : World, J1 x1 x2 w1 → br (decide (x1 < x2)) (0 ≤ (1 : Int) ∧ ∀ w2 : World, Drew w1 w2 → ∃ S1 : World → Prop, S1 w2 ∧ idxP y0a y0aL (IntKind.i64.wrap (Int.fdiv (IntKind.u64.wrap (IntKind.i64.wrap (x1 + x2))) (2 ^ (min (Int.toNat (1 : Int)) (IntKind.bits .u64))))) 5 fun q1 => ∃ x3 : Int, ∃ x4 : Int, ∃ x5 : Int, ∃ x6 : Int, ∃ b1 : Bool, (∀ u1, S1 u1 → cellsAt u1 q1 [Value.int .i64 x3, Value.int .u8 x4, Value.int .u32 x5, Value.int .u64 x6, Value.bool b1] 0) ∧ idxP y0a y0aL y1a 5 fun q2 => ∃ x7 : Int, ∃ x8 : Int, ∃ x9 : Int, ∃ x10 : Int, ∃ b2 : Bool, (∀ u2, S1 u2 → cellsAt u2 q2 [Value.int .i64 x7, Value.int .u8 x8, Value.int .u32 x9, Value.int .u64 x10, Value.bool b2] 0) ∧ callT y4a [Value.agg #[Value.int .i64 x3, Value.int .u8 x4, Value.int .u32 x5, Value.int .u64 x6, Value.bool b1], Value.agg #[Value.int .i64 x7, Value.int .u8 x8, Value.int .u32 x9, Value.int .u64 x10, Value.bool b2]] w2 fun v1 w3 => ∃ x11 : Int, v1 = Value.int .i64 x11 ∧ br (decide (x11 < 0)) (J1 (IntKind.i64.wrap ((IntKind.i64.wrap (Int.fdiv (IntKind.u64.wrap (IntKind.i64.wrap (x1 + x2))) (2 ^ (min (Int.toNat (1 : Int)) (IntKind.bits .u64))))) + 1)) x2 w3 ∧ μ1 (IntKind.i64.wrap ((IntKind.i64.wrap (Int.fdiv (IntKind.u64.wrap (IntKind.i64.wrap (x1 + x2))) (2 ^ (min (Int.toNat (1 : Int)) (IntKind.bits .u64))))) + 1)) x2 w3 < μ1 x1 x2 w1) (J1 x1 (IntKind.i64.wrap (Int.fdiv (IntKind.u64.wrap (IntKind.i64.wrap (x1 + x2))) (2 ^ (min (Int.toNat (1 : Int)) (IntKind.bits .u64))))) w3 ∧ μ1 x1 (IntKind.i64.wrap (Int.fdiv (IntKind.u64.wrap (IntKind.i64.wrap (x1 + x2))) (2 ^ (min (Int.toNat (1 : Int)) (IntKind.bits .u64))))) w3 < μ1 x1 x2 w1)) (∃ (J2 : Int → World → Prop) (μ2 : Int → World → Nat), J2 y1a w1 ∧ ∀ x12 : Int, ∀ w4 : World, J2 x12 w4 → br (decide (x12 < (IntKind.i64.wrap (x1 - 1)))) (∀ w5 : World, Drew w4 w5 → ∃ S2 : World → Prop, S2 w5 ∧ idxP y0a y0aL (IntKind.i64.wrap (x12 + 1)) 5 fun q3 => ∃ x13 : Int, ∃ x14 : Int, ∃ x15 : Int, ∃ x16 : Int, ∃ b3 : Bool, (∀ u3, S2 u3 → cellsAt u3 q3 [Value.int .i64 x13, Value.int .u8 x14, Value.int .u32 x15, Value.int .u64 x16, Value.bool b3] 0) ∧ idxP y0a y0aL x12 5 fun q4 => ∃ x17 : Int, ∃ x18 : Int, ∃ x19 : Int, ∃ x20 : Int, ∃ b4 : Bool, (∀ u4, S2 u4 → cellsAt u4 q4 [Value.int .i64 x17, Value.int .u8 x18, Value.int .u32 x19, Value.int .u64 x20, Value.bool b4] 0) ∧ idxP y0a y0aL x12 5 fun q5 => storeP w5 q5 [Value.int .i64 x13, Value.int .u8 x14, Value.int .u32 x15, Value.int .u64 x16, Value.bool b3] fun w6 => idxP y0a y0aL (IntKind.i64.wrap (x12 + 1)) 5 fun q6 => storeP w6 q6 [Value.int .i64 x17, Value.int .u8 x18, Value.int .u32 x19, Value.int .u64 x20, Value.bool b4] fun w7 => J2 (IntKind.i64.wrap (x12 + 1)) w7 ∧ μ2 (IntKind.i64.wrap (x12 + 1)) w7 < μ2 x12 w4) (R (Value.tuple #[]) w4))) (br ((IntKind.i64.wrap (y3a - y2a)) == 1) (∃ (J3 : Int → Int → World → Prop) (μ3 : Int → Int → World → Nat), J3 y1a y2a w ∧ ∀ x21 : Int, ∀ x22 : Int, ∀ w8 : World, J3 x21 x22 w8 → br (decide (x21 < x22)) (0 ≤ (1 : Int) ∧ ∀ w9 : World, Drew w8 w9 → ∃ S3 : World → Prop, S3 w9 ∧ idxP y0a y0aL y2a 5 fun q7 => ∃ x23 : Int, ∃ x24 : Int, ∃ x25 : Int, ∃ x26 : Int, ∃ b5 : Bool, (∀ u5, S3 u5 → cellsAt u5 q7 [Value.int .i64 x23, Value.int .u8 x24, Value.int .u32 x25, Value.int .u64 x26, Value.bool b5] 0) ∧ idxP y0a y0aL (IntKind.i64.wrap (Int.fdiv (IntKind.u64.wrap (IntKind.i64.wrap (x21 + x22))) (2 ^ (min (Int.toNat (1 : Int)) (IntKind.bits .u64))))) 5 fun q8 => ∃ x27 : Int, ∃ x28 : Int, ∃ x29 : Int, ∃ x30 : Int, ∃ b6 : Bool, (∀ u6, S3 u6 → cellsAt u6 q8 [Value.int .i64 x27, Value.int .u8 x28, Value.int .u32 x29, Value.int .u64 x30, Value.bool b6] 0) ∧ callT y4a [Value.agg #[Value.int .i64 x23, Value.int .u8 x24, Value.int .u32 x25, Value.int .u64 x26, Value.bool b5], Value.agg #[Value.int .i64 x27, Value.int .u8 x28, Value.int .u32 x29, Value.int .u64 x30, Value.bool b6]] w9 fun v2 w10 => ∃ x31 : Int, v2 = Value.int .i64 x31 ∧ br (!decide (x31 < 0)) (J3 (IntKind.i64.wrap ((IntKind.i64.wrap (Int.fdiv (IntKind.u64.wrap (IntKind.i64.wrap (x21 + x22))) (2 ^ (min (Int.toNat (1 : Int)) (IntKind.bits .u64))))) + 1)) x22 w10 ∧ μ3 (IntKind.i64.wrap ((IntKind.i64.wrap (Int.fdiv (IntKind.u64.wrap (IntKind.i64.wrap (x21 + x22))) (2 ^ (min (Int.toNat (1 : Int)) (IntKind.bits .u64))))) + 1)) x22 w10 < μ3 x21 x22 w8) (J3 x21 (IntKind.i64.wrap (Int.fdiv (IntKind.u64.wrap (IntKind.i64.wrap (x21 + x22))) (2 ^ (min (Int.toNat (1 : Int)) (IntKind.bits .u64))))) w10 ∧ μ3 x21 (IntKind.i64.wrap (Int.fdiv (IntKind.u64.wrap (IntKind.i64.wrap (x21 + x22))) (2 ^ (min (Int.toNat (1 : Int)) (IntKind.bits .u64))))) w10 < μ3 x21 x22 w8)) (∃ (J4 : Int → World → Prop) (μ4 : Int → World → Nat), J4 y2a w8 ∧ ∀ x32 : Int, ∀ w11 : World, J4 x32 w11 → br (decide (x32 > x21)) (∀ w12 : World, Drew w11 w12 → ∃ S4 : World → Prop, S4 w12 ∧ idxP y0a y0aL (IntKind.i64.wrap (x32 - 1)) 5 fun q9 => ∃ x33 : Int, ∃ x34 : Int, ∃ x35 : Int, ∃ x36 : Int, ∃ b7 : Bool, (∀ u7, S4 u7 → cellsAt u7 q9 [Value.int .i64 x33, Value.int .u8 x34, Value.int .u32 x35, Value.int .u64 x36, Value.bool b7] 0) ∧ idxP y0a y0aL x32 5 fun q10 => ∃ x37 : Int, ∃ x38 : Int, ∃ x39 : Int, ∃ x40 : Int, ∃ b8 : Bool, (∀ u8, S4 u8 → cellsAt u8 q10 [Value.int .i64 x37, Value.int .u8 x38, Value.int .u32 x39, Value.int .u64 x40, Value.bool b8] 0) ∧ idxP y0a y0aL x32 5 fun q11 => storeP w12 q11 [Value.int .i64 x33, Value.int .u8 x34, Value.int .u32 x35, Value.int .u64 x36, Value.bool b7] fun w13 => idxP y0a y0aL (IntKind.i64.wrap (x32 - 1)) 5 fun q12 => storeP w13 q12 [Value.int .i64 x37, Value.int .u8 x38, Value.int .u32 x39, Value.int .u64 x40, Value.bool b8] fun w14 => J4 (IntKind.i64.wrap (x32 - 1)) w14 ∧ μ4 (IntKind.i64.wrap (x32 - 1)) w14 < μ4 x32 w11) (R (Value.tuple #[]) w11))) (0 ≤ (1 : Int) ∧ br (decide (y2a > (IntKind.i64.wrap (Int.fdiv (IntKind.u64.wrap (IntKind.i64.wrap (y1a + y3a))) (2 ^ (min (Int.toNat (1 : Int)) (IntKind.bits .u64))))))) (∃ (J5 : Int → Int → World → Prop) (μ5 : Int → Int → World → Nat), J5 (IntKind.i64.wrap ((IntKind.i64.wrap ((IntKind.i64.wrap (Int.fdiv (IntKind.u64.wrap (IntKind.i64.wrap (y1a + y3a))) (2 ^ (min (Int.toNat (1 : Int)) (IntKind.bits .u64))))) + y2a)) - y3a)) (IntKind.i64.wrap (Int.fdiv (IntKind.u64.wrap (IntKind.i64.wrap (y1a + y3a))) (2 ^ (min (Int.toNat (1 : Int)) (IntKind.bits .u64))))) w ∧ ∀ x41 : Int, ∀ x42 : Int, ∀ w15 : World, J5 x41 x42 w15 → br (decide (x41 < x42)) (0 ≤ (1 : Int) ∧ ∀ w16 : World, Drew w15 w16 → ∃ S5 : World → Prop, S5 w16 ∧ idxP y0a y0aL (IntKind.i64.wrap ((IntKind.i64.wrap ((IntKind.i64.wrap ((IntKind.i64.wrap (Int.fdiv (IntKind.u64.wrap (IntKind.i64.wrap (y1a + y3a))) (2 ^ (min (Int.toNat (1 : Int)) (IntKind.bits .u64))))) + y2a)) - 1)) - (IntKind.i64.wrap (Int.fdiv (IntKind.u64.wrap (IntKind.i64.wrap (x41 + x42))) (2 ^ (min (Int.toNat (1 : Int)) (IntKind.bits .u64))))))) 5 fun q13 => ∃ x43 : Int, ∃ x44 : Int, ∃ x45 : Int, ∃ x46 : Int, ∃ b9 : Bool, (∀ u9, S5 u9 → cellsAt u9 q13 [Value.int .i64 x43, Value.int .u8 x44, Value.int .u32 x45, Value.int .u64 x46, Value.bool b9] 0) ∧ idxP y0a y0aL (IntKind.i64.wrap (Int.fdiv (IntKind.u64.wrap (IntKind.i64.wrap (x41 + x42))) (2 ^ (min (Int.toNat (1 : Int)) (IntKind.bits .u64))))) 5 fun q14 => ∃ x47 : Int, ∃ x48 : Int, ∃ x49 : Int, ∃ x50 : Int, ∃ b10 : Bool, (∀ u10, S5 u10 → cellsAt u10 q14 [Value.int .i64 x47, Value.int .u8 x48, Value.int .u32 x49, Value.int .u64 x50, Value.bool b10] 0) ∧ callT y4a [Value.agg #[Value.int .i64 x43, Value.int .u8 x44, Value.int .u32 x45, Value.int .u64 x46, Value.bool b9], Value.agg #[Value.int .i64 x47, Value.int .u8 x48, Value.int .u32 x49, Value.int .u64 x50, Value.bool b10]] w16 fun v3 w17 => ∃ x51 : Int, v3 = Value.int .i64 x51 ∧ br (!decide (x51 < 0)) (J5 (IntKind.i64.wrap ((IntKind.i64.wrap (Int.fdiv (IntKind.u64.wrap (IntKind.i64.wrap (x41 + x42))) (2 ^ (min (Int.toNat (1 : Int)) (IntKind.bits .u64))))) + 1)) x42 w17 ∧ μ5 (IntKind.i64.wrap ((IntKind.i64.wrap (Int.fdiv (IntKind.u64.wrap (IntKind.i64.wrap (x41 + x42))) (2 ^ (min (Int.toNat (1 : Int)) (IntKind.bits .u64))))) + 1)) x42 w17 < μ5 x41 x42 w15) (J5 x41 (IntKind.i64.wrap (Int.fdiv (IntKind.u64.wrap (IntKind.i64.wrap (x41 + x42))) (2 ^ (min (Int.toNat (1 : Int)) (IntKind.bits .u64))))) w17 ∧ μ5 x41 (IntKind.i64.wrap (Int.fdiv (IntKind.u64.wrap (IntKind.i64.wrap (x41 + x42))) (2 ^ (min (Int.toNat (1 : Int)) (IntKind.bits .u64))))) w17 < μ5 x41 x42 w15)) (br (decide (x41 < y2a)) (br (decide (y2a < (IntKind.i64.wrap ((IntKind.i64.wrap ((IntKind.i64.wrap (Int.fdiv (IntKind.u64.wrap (IntKind.i64.wrap (y1a + y3a))) (2 ^ (min (Int.toNat (1 : Int)) (IntKind.bits .u64))))) + y2a)) - x41)))) (CallsR prog K.slices_rotateCmpFunc_api_Taken #[Value.slice y0a y0aL y0aC, Value.int .i64 x41, Value.int .i64 y2a, Value.int .i64 (IntKind.i64.wrap ((IntKind.i64.wrap ((IntKind.i64.wrap (Int.fdiv (IntKind.u64.wrap (IntKind.i64.wrap (y1a + y3a))) (2 ^ (min (Int.toNat (1 : Int)) (IntKind.bits .u64))))) + y2a)) - x41)), y4a] w15 fun v4 w18 => v4 = Value.tuple #[] ∧ br (decide (y1a < x41)) (br (decide (x41 < (IntKind.i64.wrap (Int.fdiv (IntKind.u64.wrap (IntKind.i64.wrap (y1a + y3a))) (2 ^ (min (Int.toNat (1 : Int)) (IntKind.bits .u64))))))) (CallsR prog K.slices_symMergeCmpFunc_api_Taken #[Value.slice y0a y0aL y0aC, Value.int .i64 y1a, Value.int .i64 x41, Value.int .i64 (IntKind.i64.wrap (Int.fdiv (IntKind.u64.wrap (IntKind.i64.wrap (y1a + y3a))) (2 ^ (min (Int.toNat (1 : Int)) (IntKind.bits .u64))))), y4a] w18 fun v5 w19 => v5 = Value.tuple #[] ∧ br (decide ((IntKind.i64.wrap (Int.fdiv (IntKind.u64.wrap (IntKind.i64.wrap (y1a + y3a))) (2 ^ (min (Int.toNat (1 : Int)) (IntKind.bits .u64))))) < (IntKind.i64.wrap ((IntKind.i64.wrap ((IntKind.i64.wrap (Int.fdiv (IntKind.u64.wrap (IntKind.i64.wrap (y1a + y3a))) (2 ^ (min (Int.toNat (1 : Int)) (IntKind.bits .u64))))) + y2a)) - x41)))) (br (decide ((IntKind.i64.wrap ((IntKind.i64.wrap ((IntKind.i64.wrap (Int.fdiv (IntKind.u64.wrap (IntKind.i64.wrap (y1a + y3a))) (2 ^ (min (Int.toNat (1 : Int)) (IntKind.bits .u64))))) + y2a)) - x41)) < y3a)) (CallsR prog K.slices_symMergeCmpFunc_api_Taken #[Value.slice y0a y0aL y0aC, Value.int .i64 (IntKind.i64.wrap (Int.fdiv (IntKind.u64.wrap (IntKind.i64.wrap (y1a + y3a))) (2 ^ (min (Int.toNat (1 : Int)) (IntKind.bits .u64))))), Value.int .i64 (IntKind.i64.wrap ((IntKind.i64.wrap ((IntKind.i64.wrap (Int.fdiv (IntKind.u64.wrap (IntKind.i64.wrap (y1a + y3a))) (2 ^ (min (Int.toNat (1 : Int)) (IntKind.bits .u64))))) + y2a)) - x41)), Value.int .i64 y3a, y4a] w19 fun v6 w20 => v6 = Value.tuple #[] ∧ R (Value.tuple #[]) w20) (R (Value.tuple #[]) w19)) (R (Value.tuple #[]) w19)) (br (decide ((IntKind.i64.wrap (Int.fdiv (IntKind.u64.wrap (IntKind.i64.wrap (y1a + y3a))) (2 ^ (min (Int.toNat (1 : Int)) (IntKind.bits .u64))))) < (IntKind.i64.wrap ((IntKind.i64.wrap ((IntKind.i64.wrap (Int.fdiv (IntKind.u64.wrap (IntKind.i64.wrap (y1a + y3a))) (2 ^ (min (Int.toNat (1 : Int)) (IntKind.bits .u64))))) + y2a)) - x41)))) (br (decide ((IntKind.i64.wrap ((IntKind.i64.wrap ((IntKind.i64.wrap (Int.fdiv (IntKind.u64.wrap (IntKind.i64.wrap (y1a + y3a))) (2 ^ (min (Int.toNat (1 : Int)) (IntKind.bits .u64))))) + y2a)) - x41)) < y3a)) (CallsR prog K.slices_symMergeCmpFunc_api_Taken #[Value.slice y0a y0aL y0aC, Value.int .i64 (IntKind.i64.wrap (Int.fdiv (IntKind.u64.wrap (IntKind.i64.wrap (y1a + y3a))) (2 ^ (min (Int.toNat (1 : Int)) (IntKind.bits .u64))))), Value.int .i64 (IntKind.i64.wrap ((IntKind.i64.wrap ((IntKind.i64.wrap (Int.fdiv (IntKind.u64.wrap (IntKind.i64.wrap (y1a + y3a))) (2 ^ (min (Int.toNat (1 : Int)) (IntKind.bits .u64))))) + y2a)) - x41)), Value.int .i64 y3a, y4a] w18 fun v7 w21 => v7 = Value.tuple #[] ∧ R (Value.tuple #[]) w21) (R (Value.tuple #[]) w18)) (R (Value.tuple #[]) w18))) (br (decide ((IntKind.i64.wrap (Int.fdiv (IntKind.u64.wrap (IntKind.i64.wrap (y1a + y3a))) (2 ^ (min (Int.toNat (1 : Int)) (IntKind.bits .u64))))) < (IntKind.i64.wrap ((IntKind.i64.wrap ((IntKind.i64.wrap (Int.fdiv (IntKind.u64.wrap (IntKind.i64.wrap (y1a + y3a))) (2 ^ (min (Int.toNat (1 : Int)) (IntKind.bits .u64))))) + y2a)) - x41)))) (br (decide ((IntKind.i64.wrap ((IntKind.i64.wrap ((IntKind.i64.wrap (Int.fdiv (IntKind.u64.wrap (IntKind.i64.wrap (y1a + y3a))) (2 ^ (min (Int.toNat (1 : Int)) (IntKind.bits .u64))))) + y2a)) - x41)) < y3a)) (CallsR prog K.slices_symMergeCmpFunc_api_Taken #[Value.slice y0a y0aL y0aC, Value.int .i64 (IntKind.i64.wrap (Int.fdiv (IntKind.u64.wrap (IntKind.i64.wrap (y1a + y3a))) (2 ^ (min (Int.toNat (1 : Int)) (IntKind.bits .u64))))), Value.int .i64 (IntKind.i64.wrap ((IntKind.i64.wrap ((IntKind.i64.wrap (Int.fdiv (IntKind.u64.wrap (IntKind.i64.wrap (y1a + y3a))) (2 ^ (min (Int.toNat (1 : Int)) (IntKind.bits .u64))))) + y2a)) - x41)), Value.int .i64 y3a, y4a] w18 fun v8 w22 => v8 = Value.tuple #[] ∧ R (Value.tuple #[]) w22) (R (Value.tuple #[]) w18)) (R (Value.tuple #[]) w18))) (br (decide (y1a < x41)) (br (decide (x41 < (IntKind.i64.wrap (Int.fdiv (IntKind.u64.wrap (IntKind.i64.wrap (y1a + y3a))) (2 ^ (min (Int.toNat (1 : Int)) (IntKind.bits .u64))))))) (CallsR prog K.slices_symMergeCmpFunc_api_Taken #[Value.slice y0a y0aL y0aC, Value.int .i64 y1a, Value.int .i64 x41, Value.int .i64 (IntKind.i64.wrap (Int.fdiv (IntKind.u64.wrap (IntKind.i64.wrap (y1a + y3a))) (2 ^ (min (Int.toNat (1 : Int)) (IntKind.bits .u64))))), y4a] w15 fun v9 w23 => v9 = Value.tuple #[] ∧ br (decide ((IntKind.i64.wrap (Int.fdiv (IntKind.u64.wrap (IntKind.i64.wrap (y1a + y3a))) (2 ^ (min (Int.toNat (1 : Int)) (IntKind.bits .u64))))) < (IntKind.i64.wrap ((IntKind.i64.wrap ((IntKind.i64.wrap (Int.fdiv (IntKind.u64.wrap (IntKind.i64.wrap (y1a + y3a))) (2 ^ (min (Int.toNat (1 : Int)) (IntKind.bits .u64))))) + y2a)) - x41)))) (br (decide ((IntKind.i64.wrap ((IntKind.i64.wrap ((IntKind.i64.wrap (Int.fdiv (IntKind.u64.wrap (IntKind.i64.wrap (y1a + y3a))) (2 ^ (min (Int.toNat (1 : Int)) (IntKind.bits .u64))))) + y2a)) - x41)) < y3a)) (CallsR prog K.slices_symMergeCmpFunc_api_Taken #[Value.slice y0a y0aL y0aC, Value.int .i64 (IntKind.i64.wrap (Int.fdiv (IntKind.u64.wrap (IntKind.i64.wrap (y1a + y3a))) (2 ^ (min (Int.toNat (1 : Int)) (IntKind.bits .u64))))), Value.int .i64 (IntKind.i64.wrap ((IntKind.i64.wrap ((IntKind.i64.wrap (Int.fdiv (IntKind.u64.wrap (IntKind.i64.wrap (y1a + y3a))) (2 ^ (min (Int.toNat (1 : Int)) (IntKind.bits .u64))))) + y2a)) - x41)), Value.int .i64 y3a, y4a] w23 fun v10 w24 => v10 = Value.tuple #[] ∧ R (Value.tuple #[]) w24) (R (Value.tuple #[]) w23)) (R (Value.tuple #[]) w23)) (br (decide ((IntKind.i64.wrap (Int.fdiv (IntKind.u64.wrap (IntKind.i64.wrap (y1a + y3a))) (2 ^ (min (Int.toNat (1 : Int)) (IntKind.bits .u64))))) < (IntKind.i64.wrap ((IntKind.i64.wrap ((IntKind.i64.wrap (Int.fdiv (IntKind.u64.wrap (IntKind.i64.wrap (y1a + y3a))) (2 ^ (min (Int.toNat (1 : Int)) (IntKind.bits .u64))))) + y2a)) - x41)))) (br (decide ((IntKind.i64.wrap ((IntKind.i64.wrap ((IntKind.i64.wrap (Int.fdiv (IntKind.u64.wrap (IntKind.i64.wrap (y1a + y3a))) (2 ^ (min (Int.toNat (1 : Int)) (IntKind.bits .u64))))) + y2a)) - x41)) < y3a)) (CallsR prog K.slices_symMergeCmpFunc_api_Taken #[Value.slice y0a y0aL y0aC, Value.int .i64 (IntKind.i64.wrap (Int.fdiv (IntKind.u64.wrap (IntKind.i64.wrap (y1a + y3a))) (2 ^ (min (Int.toNat (1 : Int)) (IntKind.bits .u64))))), Value.int .i64 (IntKind.i64.wrap ((IntKind.i64.wrap ((IntKind.i64.wrap (Int.fdiv (IntKind.u64.wrap (IntKind.i64.wrap (y1a + y3a))) (2 ^ (min (Int.toNat (1 : Int)) (IntKind.bits .u64))))) + y2a)) - x41)), Value.int .i64 y3a, y4a] w15 fun v11 w25 => v11 = Value.tuple #[] ∧ R (Value.tuple #[]) w25) (R (Value.tuple #[]) w15)) (R (Value.tuple #[]) w15))) (br (decide ((IntKind.i64.wrap (Int.fdiv (IntKind.u64.wrap (IntKind.i64.wrap (y1a + y3a))) (2 ^ (min (Int.toNat (1 : Int)) (IntKind.bits .u64))))) < (IntKind.i64.wrap ((IntKind.i64.wrap ((IntKind.i64.wrap (Int.fdiv (IntKind.u64.wrap (IntKind.i64.wrap (y1a + y3a))) (2 ^ (min (Int.toNat (1 : Int)) (IntKind.bits .u64))))) + y2a)) - x41)))) (br (decide ((IntKind.i64.wrap ((IntKind.i64.wrap ((IntKind.i64.wrap (Int.fdiv (IntKind.u64.wrap (IntKind.i64.wrap (y1a + y3a))) (2 ^ (min (Int.toNat (1 : Int)) (IntKind.bits .u64))))) + y2a)) - x41)) < y3a)) (CallsR prog K.slices_symMergeCmpFunc_api_Taken #[Value.slice y0a y0aL y0aC, Value.int .i64 (IntKind.i64.wrap (Int.fdiv (IntKind.u64.wrap (IntKind.i64.wrap (y1a + y3a))) (2 ^ (min (Int.toNat (1 : Int)) (IntKind.bits .u64))))), Value.int .i64 (IntKind.i64.wrap ((IntKind.i64.wrap ((IntKind.i64.wrap (Int.fdiv (IntKind.u64.wrap (IntKind.i64.wrap (y1a + y3a))) (2 ^ (min (Int.toNat (1 : Int)) (IntKind.bits .u64))))) + y2a)) - x41)), Value.int .i64 y3a, y4a] w15 fun v12 w26 => v12 = Value.tuple #[] ∧ R (Value.tuple #[]) w26) (R (Value.tuple #[]) w15)) (R (Value.tuple #[]) w15)))) (br (decide (y1a < x41)) (br (decide (x41 < (IntKind.i64.wrap (Int.fdiv (IntKind.u64.wrap (IntKind.i64.wrap (y1a + y3a))) (2 ^ (min (Int.toNat (1 : Int)) (IntKind.bits .u64))))))) (CallsR prog K.slices_symMergeCmpFunc_api_Taken #[Value.slice y0a y0aL y0aC, Value.int .i64 y1a, Value.int .i64 x41, Value.int .i64 (IntKind.i64.wrap (Int.fdiv (IntKind.u64.wrap (IntKind.i64.wrap (y1a + y3a))) (2 ^ (min (Int.toNat (1 : Int)) (IntKind.bits .u64))))), y4a] w15 fun v13 w27 => v13 = Value.tuple #[] ∧ br (decide ((IntKind.i64.wrap (Int.fdiv (IntKind.u64.wrap (IntKind.i64.wrap (y1a + y3a))) (2 ^ (min (Int.toNat (1 : Int)) (IntKind.bits .u64))))) < (IntKind.i64.wrap ((IntKind.i64.wrap ((IntKind.i64.wrap (Int.fdiv (IntKind.u64.wrap (IntKind.i64.wrap (y1a + y3a))) (2 ^ (min (Int.toNat (1 : Int)) (IntKind.bits .u64))))) + y2a)) - x41)))) (br (decide ((IntKind.i64.wrap ((IntKind.i64.wrap ((IntKind.i64.wrap (Int.fdiv (IntKind.u64.wrap (IntKind.i64.wrap (y1a + y3a))) (2 ^ (min (Int.toNat (1 : Int)) (IntKind.bits .u64))))) + y2a)) - x41)) < y3a)) (CallsR prog K.slices_symMergeCmpFunc_api_Taken #[Value.slice y0a y0aL y0aC, Value.int .i64 (IntKind.i64.wrap (Int.fdiv (IntKind.u64.wrap (IntKind.i64.wrap (y1a + y3a))) (2 ^ (min (Int.toNat (1 : Int)) (IntKind.bits .u64))))), Value.int .i64 (IntKind.i64.wrap ((IntKind.i64.wrap ((IntKind.i64.wrap (Int.fdiv (IntKind.u64.wrap (IntKind.i64.wrap (y1a + y3a))) (2 ^ (min (Int.toNat (1 : Int)) (IntKind.bits .u64))))) + y2a)) - x41)), Value.int .i64 y3a, y4a] w27 fun v14 w28 => v14 = Value.tuple #[] ∧ R (Value.tuple #[]) w28) (R (Value.tuple #[]) w27)) (R (Value.tuple #[]) w27)) (br (decide ((IntKind.i64.wrap (Int.fdiv (IntKind.u64.wrap (IntKind.i64.wrap (y1a + y3a))) (2 ^ (min (Int.toNat (1 : Int)) (IntKind.bits .u64))))) < (IntKind.i64.wrap ((IntKind.i64.wrap ((IntKind.i64.wrap (Int.fdiv (IntKind.u64.wrap (IntKind.i64.wrap (y1a + y3a))) (2 ^ (min (Int.toNat (1 : Int)) (IntKind.bits .u64))))) + y2a)) - x41)))) (br (decide ((IntKind.i64.wrap ((IntKind.i64.wrap ((IntKind.i64.wrap (Int.fdiv (IntKind.u64.wrap (IntKind.i64.wrap (y1a + y3a))) (2 ^ (min (Int.toNat (1 : Int)) (IntKind.bits .u64))))) + y2a)) - x41)) < y3a)) (CallsR prog K.slices_symMergeCmpFunc_api_Taken #[Value.slice y0a y0aL y0aC, Value.int .i64 (IntKind.i64.wrap (Int.fdiv (IntKind.u64.wrap (IntKind.i64.wrap (y1a + y3a))) (2 ^ (min (Int.toNat (1 : Int)) (IntKind.bits .u64))))), Value.int .i64 (IntKind.i64.wrap ((IntKind.i64.wrap ((IntKind.i64.wrap (Int.fdiv (IntKind.u64.wrap (IntKind.i64.wrap (y1a + y3a))) (2 ^ (min (Int.toNat (1 : Int)) (IntKind.bits .u64))))) + y2a)) - x41)), Value.int .i64 y3a, y4a] w15 fun v15 w29 => v15 = Value.tuple #[] ∧ R (Value.tuple #[]) w29) (R (Value.tuple #[]) w15)) (R (Value.tuple #[]) w15))) (br (decide ((IntKind.i64.wrap (Int.fdiv (IntKind.u64.wrap (IntKind.i64.wrap (y1a + y3a))) (2 ^ (min (Int.toNat (1 : Int)) (IntKind.bits .u64))))) < (IntKind.i64.wrap ((IntKind.i64.wrap ((IntKind.i64.wrap (Int.fdiv (IntKind.u64.wrap (IntKind.i64.wrap (y1a + y3a))) (2 ^ (min (Int.toNat (1 : Int)) (IntKind.bits .u64))))) + y2a)) - x41)))) (br (decide ((IntKind.i64.wrap ((IntKind.i64.wrap ((IntKind.i64.wrap (Int.fdiv (IntKind.u64.wrap (IntKind.i64.wrap (y1a + y3a))) (2 ^ (min (Int.toNat (1 : Int)) (IntKind.bits .u64))))) + y2a)) - x41)) < y3a)) (CallsR prog K.slices_symMergeCmpFunc_api_Taken #[Value.slice y0a y0aL y0aC, Value.int .i64 (IntKind.i64.wrap (Int.fdiv (IntKind.u64.wrap (IntKind.i64.wrap (y1a + y3a))) (2 ^ (min (Int.toNat (1 : Int)) (IntKind.bits .u64))))), Value.int .i64 (IntKind.i64.wrap ((IntKind.i64.wrap ((IntKind.i64.wrap (Int.fdiv (IntKind.u64.wrap (IntKind.i64.wrap (y1a + y3a))) (2 ^ (min (Int.toNat (1 : Int)) (IntKind.bits .u64))))) + y2a)) - x41)), Value.int .i64 y3a, y4a] w15 fun v16 w30 => v16 = Value.tuple #[] ∧ R (Value.tuple #[]) w30) (R (Value.tuple #[]) w15)) (R (Value.tuple #[]) w15))))) (∃ (J6 : Int → Int → World → Prop) (μ6 : Int → Int → World → Nat), J6 y1a y2a w ∧ ∀ x52 : Int, ∀ x53 : Int, ∀ w31 : World, J6 x52 x53 w31 → br (decide (x52 < x53)) (0 ≤ (1 : Int) ∧ ∀ w32 : World, Drew w31 w32 → ∃ S6 : World → Prop, S6 w32 ∧ idxP y0a y0aL (IntKind.i64.wrap ((IntKind.i64.wrap ((IntKind.i64.wrap ((IntKind.i64.wrap (Int.fdiv (IntKind.u64.wrap (IntKind.i64.wrap (y1a + y3a))) (2 ^ (min (Int.toNat (1 : Int)) (IntKind.bits .u64))))) + y2a)) - 1)) - (IntKind.i64.wrap (Int.fdiv (IntKind.u64.wrap (IntKind.i64.wrap (x52 + x53))) (2 ^ (min (Int.toNat (1 : Int)) (IntKind.bits .u64))))))) 5 fun q15 => ∃ x54 : Int, ∃ x55 : Int, ∃ x56 : Int, ∃ x57 : Int, ∃ b11 : Bool, (∀ u11, S6 u11 → cellsAt u11 q15 [Value.int .i64 x54, Value.int .u8 x55, Value.int .u32 x56, Value.int .u64 x57, Value.bool b11] 0) ∧ idxP y0a y0aL (IntKind.i64.wrap (Int.fdiv (IntKind.u64.wrap (IntKind.i64.wrap (x52 + x53))) (2 ^ (min (Int.toNat (1 : Int)) (IntKind.bits .u64))))) 5 fun q16 => ∃ x58 : Int, ∃ x59 : Int, ∃ x60 : Int, ∃ x61 : Int, ∃ b12 : Bool, (∀ u12, S6 u12 → cellsAt u12 q16 [Value.int .i64 x58, Value.int .u8 x59, Value.int .u32 x60, Value.int .u64 x61, Value.bool b12] 0) ∧ callT y4a [Value.agg #[Value.int .i64 x54, Value.int .u8 x55, Value.int .u32 x56, Value.int .u64 x57, Value.bool b11], Value.agg #[Value.int .i64 x58, Value.int .u8 x59, Value.int .u32 x60, Value.int .u64 x61, Value.bool b12]] w32 fun v17 w33 => ∃ x62 : Int, v17 = Value.int .i64 x62 ∧ br (!decide (x62 < 0)) (J6 (IntKind.i64.wrap ((IntKind.i64.wrap (Int.fdiv (IntKind.u64.wrap (IntKind.i64.wrap (x52 + x53))) (2 ^ (min (Int.toNat (1 : Int)) (IntKind.bits .u64))))) + 1)) x53 w33 ∧ μ6 (IntKind.i64.wrap ((IntKind.i64.wrap (Int.fdiv (IntKind.u64.wrap (IntKind.i64.wrap (x52 + x53))) (2 ^ (min (Int.toNat (1 : Int)) (IntKind.bits .u64))))) + 1)) x53 w33 < μ6 x52 x53 w31) (J6 x52 (IntKind.i64.wrap (Int.fdiv (IntKind.u64.wrap (IntKind.i64.wrap (x52 + x53))) (2 ^ (min (Int.toNat (1 : Int)) (IntKind.bits .u64))))) w33 ∧ μ6 x52 (IntKind.i64.wrap (Int.fdiv (IntKind.u64.wrap (IntKind.i64.wrap (x52 + x53))) (2 ^ (min (Int.toNat (1 : Int)) (IntKind.bits .u64))))) w33 < μ6 x52 x53 w31)) (br (decide (x52 < y2a)) (br (decide (y2a < (IntKind.i64.wrap ((IntKind.i64.wrap ((IntKind.i64.wrap (Int.fdiv (IntKind.u64.wrap (IntKind.i64.wrap (y1a + y3a))) (2 ^ (min (Int.toNat (1 : Int)) (IntKind.bits .u64))))) + y2a)) - x52)))) (CallsR prog K.slices_rotateCmpFunc_api_Taken #[Value.slice y0a y0aL y0aC, Value.int .i64 x52, Value.int .i64 y2a, Value.int .i64 (IntKind.i64.wrap ((IntKind.i64.wrap ((IntKind.i64.wrap (Int.fdiv (IntKind.u64.wrap (IntKind.i64.wrap (y1a + y3a))) (2 ^ (min (Int.toNat (1 : Int)) (IntKind.bits .u64))))) + y2a)) - x52)), y4a] w31 fun v18 w34 => v18 = Value.tuple #[] ∧ br (decide (y1a < x52)) (br (decide (x52 < (IntKind.i64.wrap (Int.fdiv (IntKind.u64.wrap (IntKind.i64.wrap (y1a + y3a))) (2 ^ (min (Int.toNat (1 : Int)) (IntKind.bits .u64))))))) (CallsR prog K.slices_symMergeCmpFunc_api_Taken #[Value.slice y0a y0aL y0aC, Value.int .i64 y1a, Value.int .i64 x52, Value.int .i64 (IntKind.i64.wrap (Int.fdiv (IntKind.u64.wrap (IntKind.i64.wrap (y1a + y3a))) (2 ^ (min (Int.toNat (1 : Int)) (IntKind.bits .u64))))), y4a] w34 fun v19 w35 => v19 = Value.tuple #[] ∧ br (decide ((IntKind.i64.wrap (Int.fdiv (IntKind.u64.wrap (IntKind.i64.wrap (y1a + y3a))) (2 ^ (min (Int.toNat (1 : Int)) (IntKind.bits .u64))))) < (IntKind.i64.wrap ((IntKind.i64.wrap ((IntKind.i64.wrap (Int.fdiv (IntKind.u64.wrap (IntKind.i64.wrap (y1a + y3a))) (2 ^ (min (Int.toNat (1 : Int)) (IntKind.bits .u64))))) + y2a)) - x52)))) (br (decide ((IntKind.i64.wrap ((IntKind.i64.wrap ((IntKind.i64.wrap (Int.fdiv (IntKind.u64.wrap (IntKind.i64.wrap (y1a + y3a))) (2 ^ (min (Int.toNat (1 : Int)) (IntKind.bits .u64))))) + y2a)) - x52)) < y3a)) (CallsR prog K.slices_symMergeCmpFunc_api_Taken #[Value.slice y0a y0aL y0aC, Value.int .i64 (IntKind.i64.wrap (Int.fdiv (IntKind.u64.wrap (IntKind.i64.wrap (y1a + y3a))) (2 ^ (min (Int.toNat (1 : Int)) (IntKind.bits .u64))))), Value.int .i64 (IntKind.i64.wrap ((IntKind.i64.wrap ((IntKind.i64.wrap (Int.fdiv (IntKind.u64.wrap (IntKind.i64.wrap (y1a + y3a))) (2 ^ (min (Int.toNat (1 : Int)) (IntKind.bits .u64))))) + y2a)) - x52)), Value.int .i64 y3a, y4a] w35 fun v20 w36 => v20 = Value.tuple #[] ∧ R (Value.tuple #[]) w36) (R (Value.tuple #[]) w35)) (R (Value.tuple #[]) w35)) (br (decide ((IntKind.i64.wrap (Int.fdiv (IntKind.u64.wrap (IntKind.i64.wrap (y1a + y3a))) (2 ^ (min (Int.toNat (1 : Int)) (IntKind.bits .u64))))) < (IntKind.i64.wrap ((IntKind.i64.wrap ((IntKind.i64.wrap (Int.fdiv (IntKind.u64.wrap (IntKind.i64.wrap (y1a + y3a))) (2 ^ (min (Int.toNat (1 : Int)) (IntKind.bits .u64))))) + y2a)) - x52)))) (br (decide ((IntKind.i64.wrap ((IntKind.i64.wrap ((IntKind.i64.wrap (Int.fdiv (IntKind.u64.wrap (IntKind.i64.wrap (y1a + y3a))) (2 ^ (min (Int.toNat (1 : Int)) (IntKind.bits .u64))))) + y2a)) - x52)) < y3a)) (CallsR prog K.slices_symMergeCmpFunc_api_Taken #[Value.slice y0a y0aL y0aC, Value.int .i64 (IntKind.i64.wrap (Int.fdiv (IntKind.u64.wrap (IntKind.i64.wrap (y1a + y3a))) (2 ^ (min (Int.toNat (1 : Int)) (IntKind.bits .u64))))), Value.int .i64 (IntKind.i64.wrap ((IntKind.i64.wrap ((IntKind.i64.wrap (Int.fdiv (IntKind.u64.wrap (IntKind.i64.wrap (y1a + y3a))) (2 ^ (min (Int.toNat (1 : Int)) (IntKind.bits .u64))))) + y2a)) - x52)), Value.int .i64 y3a, y4a] w34 fun v21 w37 => v21 = Value.tuple #[] ∧ R (Value.tuple #[]) w37) (R (Value.tuple #[]) w34)) (R (Value.tuple #[]) w34))) (br (decide ((IntKind.i64.wrap (Int.fdiv (IntKind.u64.wrap (IntKind.i64.wrap (y1a + y3a))) (2 ^ (min (Int.toNat (1 : Int)) (IntKind.bits .u64))))) < (IntKind.i64.wrap ((IntKind.i64.wrap ((IntKind.i64.wrap (Int.fdiv (IntKind.u64.wrap (IntKind.i64.wrap (y1a + y3a))) (2 ^ (min (Int.toNat (1 : Int)) (IntKind.bits .u64))))) + y2a)) - x52)))) (br (decide ((IntKind.i64.wrap ((IntKind.i64.wrap ((IntKind.i64.wrap (Int.fdiv (IntKind.u64.wrap (IntKind.i64.wrap (y1a + y3a))) (2 ^ (min (Int.toNat (1 : Int)) (IntKind.bits .u64))))) + y2a)) - x52)) < y3a)) (CallsR prog K.slices_symMergeCmpFunc_api_Taken #[Value.slice y0a y0aL y0aC, Value.int .i64 (IntKind.i64.wrap (Int.fdiv (IntKind.u64.wrap (IntKind.i64.wrap (y1a + y3a))) (2 ^ (min (Int.toNat (1 : Int)) (IntKind.bits .u64))))), Value.int .i64 (IntKind.i64.wrap ((IntKind.i64.wrap ((IntKind.i64.wrap (Int.fdiv (IntKind.u64.wrap (IntKind.i64.wrap (y1a + y3a))) (2 ^ (min (Int.toNat (1 : Int)) (IntKind.bits .u64))))) + y2a)) - x52)), Value.int .i64 y3a, y4a] w34 fun v22 w38 => v22 = Value.tuple #[] ∧ R (Value.tuple #[]) w38) (R (Value.tuple #[]) w34)) (R (Value.tuple #[]) w34))) (br (decide (y1a < x52)) (br (decide (x52 < (IntKind.i64.wrap (Int.fdiv (IntKind.u64.wrap (IntKind.i64.wrap (y1a + y3a))) (2 ^ (min (Int.toNat (1 : Int)) (IntKind.bits .u64))))))) (CallsR prog K.slices_symMergeCmpFunc_api_Taken #[Value.slice y0a y0aL y0aC, Value.int .i64 y1a, Value.int .i64 x52, Value.int .i64 (IntKind.i64.wrap (Int.fdiv (IntKind.u64.wrap (IntKind.i64.wrap (y1a + y3a))) (2 ^ (min (Int.toNat (1 : Int)) (IntKind.bits .u64))))), y4a] w31 fun v23 w39 => v23 = Value.tuple #[] ∧ br (decide ((IntKind.i64.wrap (Int.fdiv (IntKind.u64.wrap (IntKind.i64.wrap (y1a + y3a))) (2 ^ (min (Int.toNat (1 : Int)) (IntKind.bits .u64))))) < (IntKind.i64.wrap ((IntKind.i64.wrap ((IntKind.i64.wrap (Int.fdiv (IntKind.u64.wrap (IntKind.i64.wrap (y1a + y3a))) (2 ^ (min (Int.toNat (1 : Int)) (IntKind.bits .u64))))) + y2a)) - x52)))) (br (decide ((IntKind.i64.wrap ((IntKind.i64.wrap ((IntKind.i64.wrap (Int.fdiv (IntKind.u64.wrap (IntKind.i64.wrap (y1a + y3a))) (2 ^ (min (Int.toNat (1 : Int)) (IntKind.bits .u64))))) + y2a)) - x52)) < y3a)) (CallsR prog K.slices_symMergeCmpFunc_api_Taken #[Value.slice y0a y0aL y0aC, Value.int .i64 (IntKind.i64.wrap (Int.fdiv (IntKind.u64.wrap (IntKind.i64.wrap (y1a + y3a))) (2 ^ (min (Int.toNat (1 : Int)) (IntKind.bits .u64))))), Value.int .i64 (IntKind.i64.wrap ((IntKind.i64.wrap ((IntKind.i64.wrap (Int.fdiv (IntKind.u64.wrap (IntKind.i64.wrap (y1a + y3a))) (2 ^ (min (Int.toNat (1 : Int)) (IntKind.bits .u64))))) + y2a)) - x52)), Value.int .i64 y3a, y4a] w39 fun v24 w40 => v24 = Value.tuple #[] ∧ R (Value.tuple #[]) w40) (R (Value.tuple #[]) w39)) (R (Value.tuple #[]) w39)) (br (decide ((IntKind.i64.wrap (Int.fdiv (IntKind.u64.wrap (IntKind.i64.wrap (y1a + y3a))) (2 ^ (min (Int.toNat (1 : Int)) (IntKind.bits .u64))))) < (IntKind.i64.wrap ((IntKind.i64.wrap ((IntKind.i64.wrap (Int.fdiv (IntKind.u64.wrap (IntKind.i64.wrap (y1a + y3a))) (2 ^ (min (Int.toNat (1 : Int)) (IntKind.bits .u64))))) + y2a)) - x52)))) (br (decide ((IntKind.i64.wrap ((IntKind.i64.wrap ((IntKind.i64.wrap (Int.fdiv (IntKind.u64.wrap (IntKind.i64.wrap (y1a + y3a))) (2 ^ (min (Int.toNat (1 : Int)) (IntKind.bits .u64))))) + y2a)) - x52)) < y3a)) (CallsR prog K.slices_symMergeCmpFunc_api_Taken #[Value.slice y0a y0aL y0aC, Value.int .i64 (IntKind.i64.wrap (Int.fdiv (IntKind.u64.wrap (IntKind.i64.wrap (y1a + y3a))) (2 ^ (min (Int.toNat (1 : Int)) (IntKind.bits .u64))))), Value.int .i64 (IntKind.i64.wrap ((IntKind.i64.wrap ((IntKind.i64.wrap (Int.fdiv (IntKind.u64.wrap (IntKind.i64.wrap (y1a + y3a))) (2 ^ (min (Int.toNat (1 : Int)) (IntKind.bits .u64))))) + y2a)) - x52)), Value.int .i64 y3a, y4a] w31 fun v25 w41 => v25 = Value.tuple #[] ∧ R (Value.tuple #[]) w41) (R (Value.tuple #[]) w31)) (R (Value.tuple #[]) w31))) (br (decide ((IntKind.i64.wrap (Int.fdiv (IntKind.u64.wrap (IntKind.i64.wrap (y1a + y3a))) (2 ^ (min (Int.toNat (1 : Int)) (IntKind.bits .u64))))) < (IntKind.i64.wrap ((IntKind.i64.wrap ((IntKind.i64.wrap (Int.fdiv (IntKind.u64.wrap (IntKind.i64.wrap (y1a + y3a))) (2 ^ (min (Int.toNat (1 : Int)) (IntKind.bits .u64))))) + y2a)) - x52)))) (br (decide ((IntKind.i64.wrap ((IntKind.i64.wrap ((IntKind.i64.wrap (Int.fdiv (IntKind.u64.wrap (IntKind.i64.wrap (y1a + y3a))) (2 ^ (min (Int.toNat (1 : Int)) (IntKind.bits .u64))))) + y2a)) - x52)) < y3a)) (CallsR prog K.slices_symMergeCmpFunc_api_Taken #[Value.slice y0a y0aL y0aC, Value.int .i64 (IntKind.i64.wrap (Int.fdiv (IntKind.u64.wrap (IntKind.i64.wrap (y1a + y3a))) (2 ^ (min (Int.toNat (1 : Int)) (IntKind.bits .u64))))), Value.int .i64 (IntKind.i64.wrap ((IntKind.i64.wrap ((IntKind.i64.wrap (Int.fdiv (IntKind.u64.wrap (IntKind.i64.wrap (y1a + y3a))) (2 ^ (min (Int.toNat (1 : Int)) (IntKind.bits .u64))))) + y2a)) - x52)), Value.int .i64 y3a, y4a] w31 fun v26 w42 => v26 = Value.tuple #[] ∧ R (Value.tuple #[]) w42) (R (Value.tuple #[]) w31)) (R (Value.tuple #[]) w31)))) (br (decide (y1a < x52)) (br (decide (x52 < (IntKind.i64.wrap (Int.fdiv (IntKind.u64.wrap (IntKind.i64.wrap (y1a + y3a))) (2 ^ (min (Int.toNat (1 : Int)) (IntKind.bits .u64))))))) (CallsR prog K.slices_symMergeCmpFunc_api_Taken #[Value.slice y0a y0aL y0aC, Value.int .i64 y1a, Value.int .i64 x52, Value.int .i64 (IntKind.i64.wrap (Int.fdiv (IntKind.u64.wrap (IntKind.i64.wrap (y1a + y3a))) (2 ^ (min (Int.toNat (1 : Int)) (IntKind.bits .u64))))), y4a] w31 fun v27 w43 => v27 = Value.tuple #[] ∧ br (decide ((IntKind.i64.wrap (Int.fdiv (IntKind.u64.wrap (IntKind.i64.wrap (y1a + y3a))) (2 ^ (min (Int.toNat (1 : Int)) (IntKind.bits .u64))))) < (IntKind.i64.wrap ((IntKind.i64.wrap ((IntKind.i64.wrap (Int.fdiv (IntKind.u64.wrap (IntKind.i64.wrap (y1a + y3a))) (2 ^ (min (Int.toNat (1 : Int)) (IntKind.bits .u64))))) + y2a)) - x52)))) (br (decide ((IntKind.i64.wrap ((IntKind.i64.wrap ((IntKind.i64.wrap (Int.fdiv (IntKind.u64.wrap (IntKind.i64.wrap (y1a + y3a))) (2 ^ (min (Int.toNat (1 : Int)) (IntKind.bits .u64))))) + y2a)) - x52)) < y3a)) (CallsR prog K.slices_symMergeCmpFunc_api_Taken #[Value.slice y0a y0aL y0aC, Value.int .i64 (IntKind.i64.wrap (Int.fdiv (IntKind.u64.wrap (IntKind.i64.wrap (y1a + y3a))) (2 ^ (min (Int.toNat (1 : Int)) (IntKind.bits .u64))))), Value.int .i64 (IntKind.i64.wrap ((IntKind.i64.wrap ((IntKind.i64.wrap (Int.fdiv (IntKind.u64.wrap (IntKind.i64.wrap (y1a + y3a))) (2 ^ (min (Int.toNat (1 : Int)) (IntKind.bits .u64))))) + y2a)) - x52)), Value.int .i64 y3a, y4a] w43 fun v28 w44 => v28 = Value.tuple #[] ∧ R (Value.tuple #[]) w44) (R (Value.tuple #[]) w43)) (R (Value.tuple #[]) w43)) (br (decide ((IntKind.i64.wrap (Int.fdiv (IntKind.u64.wrap (IntKind.i64.wrap (y1a + y3a))) (2 ^ (min (Int.toNat (1 : Int)) (IntKind.bits .u64))))) < (IntKind.i64.wrap ((IntKind.i64.wrap ((IntKind.i64.wrap (Int.fdiv (IntKind.u64.wrap (IntKind.i64.wrap (y1a + y3a))) (2 ^ (min (Int.toNat (1 : Int)) (IntKind.bits .u64))))) + y2a)) - x52)))) (br (decide ((IntKind.i64.wrap ((IntKind.i64.wrap ((IntKind.i64.wrap (Int.fdiv (IntKind.u64.wrap (IntKind.i64.wrap (y1a + y3a))) (2 ^ (min (Int.toNat (1 : Int)) (IntKind.bits .u64))))) + y2a)) - x52)) < y3a)) (CallsR prog K.slices_symMergeCmpFunc_api_Taken #[Value.slice y0a y0aL y0aC, Value.int .i64 (IntKind.i64.wrap (Int.fdiv (IntKind.u64.wrap (IntKind.i64.wrap (y1a + y3a))) (2 ^ (min (Int.toNat (1 : Int)) (IntKind.bits .u64))))), Value.int .i64 (IntKind.i64.wrap ((IntKind.i64.wrap ((IntKind.i64.wrap (Int.fdiv (IntKind.u64.wrap (IntKind.i64.wrap (y1a + y3a))) (2 ^ (min (Int.toNat (1 : Int)) (IntKind.bits .u64))))) + y2a)) - x52)), Value.int .i64 y3a, y4a] w31 fun v29 w45 => v29 = Value.tuple #[] ∧ R (Value.tuple #[]) w45) (R (Value.tuple #[]) w31)) (R (Value.tuple #[]) w31))) (br (decide ((IntKind.i64.wrap (Int.fdiv (IntKind.u64.wrap (IntKind.i64.wrap (y1a + y3a))) (2 ^ (min (Int.toNat (1 : Int)) (IntKind.bits .u64))))) < (IntKind.i64.wrap ((IntKind.i64.wrap ((IntKind.i64.wrap (Int.fdiv (IntKind.u64.wrap (IntKind.i64.wrap (y1a + y3a))) (2 ^ (min (Int.toNat (1 : Int)) (IntKind.bits .u64))))) + y2a)) - x52)))) (br (decide ((IntKind.i64.wrap ((IntKind.i64.wrap ((IntKind.i64.wrap (Int.fdiv (IntKind.u64.wrap (IntKind.i64.wrap (y1a + y3a))) (2 ^ (min (Int.toNat (1 : Int)) (IntKind.bits .u64))))) + y2a)) - x52)) < y3a)) (CallsR prog K.slices_symMergeCmpFunc_api_Taken #[Value.slice y0a y0aL y0aC, Value.int .i64 (IntKind.i64.wrap (Int.fdiv (IntKind.u64.wrap (IntKind.i64.wrap (y1a + y3a))) (2 ^ (min (Int.toNat (1 : Int)) (IntKind.bits .u64))))), Value.int .i64 (IntKind.i64.wrap ((IntKind.i64.wrap ((IntKind.i64.wrap (Int.fdiv (IntKind.u64.wrap (IntKind.i64.wrap (y1a + y3a))) (2 ^ (min (Int.toNat (1 : Int)) (IntKind.bits .u64))))) + y2a)) - x52)), Value.int .i64 y3a, y4a] w31 fun v30 w46 => v30 = Value.tuple #[] ∧ R (Value.tuple #[]) w46) (R (Value.tuple #[]) w31)) (R (Value.tuple #[]) w31)))))))
theorem slices_symMergeCmpFunc_api_Taken.sh {y0a : Option Addr} {y0aL y0aC : Nat} {y1a : Int} {y2a : Int} {y3a : Int} {y4a : Value} {w : World} {R : Value → World → Prop} (h : slices_symMergeCmpFunc_api_Taken.body y0a y0aL y0aC y1a y2a y3a y4a w R) :
    CallsR prog K.slices_symMergeCmpFunc_api_Taken #[Value.slice y0a y0aL y0aC, Value.int .i64 y1a, Value.int .i64 y2a, Value.int .i64 y3a, y4a] w R :=
  calls_body follows (f := K.slices_symMergeCmpFunc_api_Taken) Try.func87 ([]) ([(3, [0, 1, 4], [10, 11], [Value.int .i64 0, Value.int .i64 0]), (9, [0, 10], [13], [Value.int .i64 0]), (15, [0, 2, 4], [14, 15], [Value.int .i64 0, Value.int .i64 0]), (21, [0, 14], [17], [Value.int .i64 0]), (33, [0, 1, 2, 3, 4, 18, 19, 22], [20, 21], [Value.int .i64 0, Value.int .i64 0])])
    (Eq.mp (by kernel_rfl : slices_symMergeCmpFunc_api_Taken.body y0a y0aL y0aC y1a y2a y3a y4a w R = bodyOf prog Try.f87 ([]) ([(3, [0, 1, 4], [10, 11], [Value.int .i64 0, Value.int .i64 0]), (9, [0, 10], [13], [Value.int .i64 0]), (15, [0, 2, 4], [14, 15], [Value.int .i64 0, Value.int .i64 0]), (21, [0, 14], [17], [Value.int .i64 0]), (33, [0, 1, 2, 3, 4, 18, 19, 22], [20, 21], [Value.int .i64 0, Value.int .i64 0])]) [Value.slice y0a y0aL y0aC, Value.int .i64 y1a, Value.int .i64 y2a, Value.int .i64 y3a, y4a] w R) h)
/-- slices.Concat[[]byte,byte] -/
def slices_Concat_byte.body (slices : Option Addr) (slicesL slicesC : Nat) (w : World) (R : Value → World → Prop) : Prop :=
  ∃ (J1 : Int → Int → World → Prop) (μ1 : Int → Int → World → Nat), J1 0 0 w ∧ ∀ x1 : Int, ∀ x2 : Int, ∀ w1 : World, J1 x1 x2 w1 → br (decide (x2 < ((slicesL : Nat) : Int))) (idxP slices slicesL x2 1 fun q1 => ∃ (a1 : Option Addr) (l1 c1 : Nat), World.cell? w1 q1 = some (Value.slice a1 l1 c1) ∧ br (decide ((IntKind.i64.wrap (x1 + ((l1 : Nat) : Int))) < 0)) (False) (J1 (IntKind.i64.wrap (x1 + ((l1 : Nat) : Int))) (IntKind.i64.wrap (x2 + 1)) w1 ∧ μ1 (IntKind.i64.wrap (x1 + ((l1 : Nat) : Int))) (IntKind.i64.wrap (x2 + 1)) w1 < μ1 x1 x2 w1)) (CallsR prog K.slices_Grow_byte #[Value.slice none 0 0, Value.int .i64 x1] w1 fun v1 w2 => ∃ (a2 : Option Addr) (l2 c2 : Nat), v1 = Value.slice a2 l2 c2 ∧ ∃ (J2 : Option Addr → Nat → Nat → Int → World → Prop) (μ2 : Option Addr → Nat → Nat → Int → World → Nat), J2 a2 l2 c2 0 w2 ∧ ∀ (a3 : Option Addr) (l3 c3 : Nat), ∀ x3 : Int, ∀ w3 : World, J2 a3 l3 c3 x3 w3 → br (decide (x3 < ((slicesL : Nat) : Int))) (idxP slices slicesL x3 1 fun q2 => ∃ (a4 : Option Addr) (l4 c4 : Nat), World.cell? w3 q2 = some (Value.slice a4 l4 c4) ∧ appendP T.uint8 1 1 [Value.int .u8 0] a3 l3 c3 (Value.slice a4 l4 c4) w3 fun a5 l5 c5 w4 => J2 a5 l5 c5 (IntKind.i64.wrap (x3 + 1)) w4 ∧ μ2 a5 l5 c5 (IntKind.i64.wrap (x3 + 1)) w4 < μ2 a3 l3 c3 x3 w3) (R (Value.slice a3 l3 c3) w3))
theorem slices_Concat_byte.sh {slices : Option Addr} {slicesL slicesC : Nat} {w : World} {R : Value → World → Prop} (h : slices_Concat_byte.body slices slicesL slicesC w R) :
    CallsR prog K.slices_Concat_byte #[Value.slice slices slicesL slicesC] w R :=
  calls_body follows (f := K.slices_Concat_byte) Try.func88 ([]) ([(3, [0, 9, 10], [3, 11], [Value.int .i64 0, Value.int .i64 0]), (11, [25, 26], [6, 27], [Value.slice none 0 0, Value.int .i64 0])])
    (Eq.mp (by kernel_rfl : slices_Concat_byte.body slices slicesL slicesC w R = bodyOf prog Try.f88 ([]) ([(3, [0, 9, 10], [3, 11], [Value.int .i64 0, Value.int .i64 0]), (11, [25, 26], [6, 27], [Value.slice none 0 0, Value.int .i64 0])]) [Value.slice slices slicesL slicesC] w R) h)
def carrackref01_Size.body (n : Int) (w : World) (R : Value → World → Prop) : Prop :=
  br (n == 1) (R (Value.bool true) w) (br (n == 2) (R (Value.bool true) w) (br (n == 4) (R (Value.bool true) w) (R (Value.bool (n == 8)) w)))
theorem carrackref01_Size.sh {n : Int} {w : World} {R : Value → World → Prop} (h : carrackref01_Size.body n w R) :
    CallsR prog K.carrackref01_Size #[Value.int .i64 n] w R :=
  calls_body follows (f := K.carrackref01_Size) Try.func89 ([]) ([])
    (Eq.mp (by kernel_rfl : carrackref01_Size.body n w R = bodyOf prog Try.f89 ([]) ([]) [Value.int .i64 n] w R) h)
/-- slices.rotateCmpFunc[carrack/api.Taken] -/
def slices_rotateCmpFunc_api_Taken.body (data : Option Addr) (dataL dataC : Nat) (a : Int) (m : Int) (b : Int) (cmp : Value) (w : World) (R : Value → World → Prop) : Prop :=
  ∃ (J1 : Int → Int → World → Prop) (μ1 : Int → Int → World → Nat), J1 (IntKind.i64.wrap (m - a)) (IntKind.i64.wrap (b - m)) w ∧ ∀ x1 : Int, ∀ x2 : Int, ∀ w1 : World, J1 x1 x2 w1 → br (x1 != x2) (br (decide (x1 > x2)) (CallsR prog K.slices_swapRangeCmpFunc_api_Taken #[Value.slice data dataL dataC, Value.int .i64 (IntKind.i64.wrap (m - x1)), Value.int .i64 m, Value.int .i64 x2, cmp] w1 fun v1 w2 => v1 = Value.tuple #[] ∧ J1 (IntKind.i64.wrap (x1 - x2)) x2 w2 ∧ μ1 (IntKind.i64.wrap (x1 - x2)) x2 w2 < μ1 x1 x2 w1) (CallsR prog K.slices_swapRangeCmpFunc_api_Taken #[Value.slice data dataL dataC, Value.int .i64 (IntKind.i64.wrap (m - x1)), Value.int .i64 (IntKind.i64.wrap ((IntKind.i64.wrap (m + x2)) - x1)), Value.int .i64 x1, cmp] w1 fun v2 w3 => v2 = Value.tuple #[] ∧ J1 x1 (IntKind.i64.wrap (x2 - x1)) w3 ∧ μ1 x1 (IntKind.i64.wrap (x2 - x1)) w3 < μ1 x1 x2 w1)) (CallsR prog K.slices_swapRangeCmpFunc_api_Taken #[Value.slice data dataL dataC, Value.int .i64 (IntKind.i64.wrap (m - x1)), Value.int .i64 m, Value.int .i64 x1, cmp] w1 fun v3 w4 => v3 = Value.tuple #[] ∧ R (Value.tuple #[]) w4)
theorem slices_rotateCmpFunc_api_Taken.sh {data : Option Addr} {dataL dataC : Nat} {a : Int} {m : Int} {b : Int} {cmp : Value} {w : World} {R : Value → World → Prop} (h : slices_rotateCmpFunc_api_Taken.body data dataL dataC a m b cmp w R) :
    CallsR prog K.slices_rotateCmpFunc_api_Taken #[Value.slice data dataL dataC, Value.int .i64 a, Value.int .i64 m, Value.int .i64 b, cmp] w R :=
  calls_body follows (f := K.slices_rotateCmpFunc_api_Taken) Try.func90 ([]) ([(2, [0, 2, 4], [10, 11], [Value.int .i64 0, Value.int .i64 0])])
    (Eq.mp (by kernel_rfl : slices_rotateCmpFunc_api_Taken.body data dataL dataC a m b cmp w R = bodyOf prog Try.f90 ([]) ([(2, [0, 2, 4], [10, 11], [Value.int .i64 0, Value.int .i64 0])]) [Value.slice data dataL dataC, Value.int .i64 a, Value.int .i64 m, Value.int .i64 b, cmp] w R) h)
/-- slices.Grow[[]byte,byte] -/
def slices_Grow_byte.body (s : Option Addr) (sL sC : Nat) (n : Int) (w : World) (R : Value → World → Prop) : Prop :=
  br (decide (n < 0)) (False) (br (decide ((IntKind.i64.wrap (n - (IntKind.i64.wrap (((sC : Nat) : Int) - ((sL : Nat) : Int))))) > 0)) (sliceP 1 s sL sC none (some ((sC : Nat) : Int)) none fun a1 l1 c1 => appendZ T.uint8 1 1 [Value.int .u8 0] a1 l1 c1 (IntKind.i64.wrap (n - (IntKind.i64.wrap (((sC : Nat) : Int) - ((sL : Nat) : Int))))) w fun a2 l2 c2 w1 => sliceP 1 a2 l2 c2 none (some ((sL : Nat) : Int)) none fun a3 l3 c3 => R (Value.slice a3 l3 c3) w1) (R (Value.slice s sL sC) w))
theorem slices_Grow_byte.sh {s : Option Addr} {sL sC : Nat} {n : Int} {w : World} {R : Value → World → Prop} (h : slices_Grow_byte.body s sL sC n w R) :
    CallsR prog K.slices_Grow_byte #[Value.slice s sL sC, Value.int .i64 n] w R :=
  calls_body follows (f := K.slices_Grow_byte) Try.func91 ([]) ([])
    (Eq.mp (by kernel_rfl : slices_Grow_byte.body s sL sC n w R = bodyOf prog Try.f91 ([]) ([]) [Value.slice s sL sC, Value.int .i64 n] w R) h)
/-- slices.swapRangeCmpFunc[carrack/api.Taken] -/
def slices_swapRangeCmpFunc_api_Taken.body (data : Option Addr) (dataL dataC : Nat) (a : Int) (b : Int) (n : Int) (cmp : Value) (w : World) (R : Value → World → Prop) : Prop :=
  ∃ (J1 : Int → World → Prop) (μ1 : Int → World → Nat), J1 0 w ∧ ∀ x1 : Int, ∀ w1 : World, J1 x1 w1 → br (decide (x1 < n)) (∀ w2 : World, Drew w1 w2 → ∃ S1 : World → Prop, S1 w2 ∧ idxP data dataL (IntKind.i64.wrap (b + x1)) 5 fun q1 => ∃ x2 : Int, ∃ x3 : Int, ∃ x4 : Int, ∃ x5 : Int, ∃ b1 : Bool, (∀ u1, S1 u1 → cellsAt u1 q1 [Value.int .i64 x2, Value.int .u8 x3, Value.int .u32 x4, Value.int .u64 x5, Value.bool b1] 0) ∧ idxP data dataL (IntKind.i64.wrap (a + x1)) 5 fun q2 => ∃ x6 : Int, ∃ x7 : Int, ∃ x8 : Int, ∃ x9 : Int, ∃ b2 : Bool, (∀ u2, S1 u2 → cellsAt u2 q2 [Value.int .i64 x6, Value.int .u8 x7, Value.int .u32 x8, Value.int .u64 x9, Value.bool b2] 0) ∧ idxP data dataL (IntKind.i64.wrap (a + x1)) 5 fun q3 => storeP w2 q3 [Value.int .i64 x2, Value.int .u8 x3, Value.int .u32 x4, Value.int .u64 x5, Value.bool b1] fun w3 => idxP data dataL (IntKind.i64.wrap (b + x1)) 5 fun q4 => storeP w3 q4 [Value.int .i64 x6, Value.int .u8 x7, Value.int .u32 x8, Value.int .u64 x9, Value.bool b2] fun w4 => J1 (IntKind.i64.wrap (x1 + 1)) w4 ∧ μ1 (IntKind.i64.wrap (x1 + 1)) w4 < μ1 x1 w1) (R (Value.tuple #[]) w1)
theorem slices_swapRangeCmpFunc_api_Taken.sh {data : Option Addr} {dataL dataC : Nat} {a : Int} {b : Int} {n : Int} {cmp : Value} {w : World} {R : Value → World → Prop} (h : slices_swapRangeCmpFunc_api_Taken.body data dataL dataC a b n cmp w R) :
    CallsR prog K.slices_swapRangeCmpFunc_api_Taken #[Value.slice data dataL dataC, Value.int .i64 a, Value.int .i64 b, Value.int .i64 n, cmp] w R :=
  calls_body follows (f := K.slices_swapRangeCmpFunc_api_Taken) Try.func92 ([]) ([(1, [0, 1, 2, 3], [10], [Value.int .i64 0])])
    (Eq.mp (by kernel_rfl : slices_swapRangeCmpFunc_api_Taken.body data dataL dataC a b n cmp w R = bodyOf prog Try.f92 ([]) ([(1, [0, 1, 2, 3], [10], [Value.int .i64 0])]) [Value.slice data dataL dataC, Value.int .i64 a, Value.int .i64 b, Value.int .i64 n, cmp] w R) h)
end Go.Den
end
section
set_option linter.unusedSimpArgs false
namespace Go.Den
/-! ### Numbers -/
theorem w64 {x : Int} (h : -9223372036854775808 ≤ x) (h' : x < 9223372036854775808) : IntKind.i64.wrap x = x := by
  simp only [IntKind.wrap, IntKind.bits, IntKind.signed]; simp; omega
theorem wu64 {x : Int} (h : 0 ≤ x) (h' : x < 18446744073709551616) : IntKind.u64.wrap x = x := by
  simp only [IntKind.wrap, IntKind.bits, IntKind.signed]; simp; omega
theorem wu32 {x : Int} (h : 0 ≤ x) (h' : x < 4294967296) : IntKind.u32.wrap x = x := by
  simp only [IntKind.wrap, IntKind.bits, IntKind.signed]; simp; omega
theorem wu8 {x : Int} (h : 0 ≤ x) (h' : x < 256) : IntKind.u8.wrap x = x := by
  simp only [IntKind.wrap, IntKind.bits, IntKind.signed]; simp; omega
theorem wu8_mod (x : Int) : IntKind.u8.wrap x = x % 256 := by
  simp only [IntKind.wrap, IntKind.bits, IntKind.signed]; simp
theorem wu64_mod (x : Int) : IntKind.u64.wrap x = x % 18446744073709551616 := by
  simp only [IntKind.wrap, IntKind.bits, IntKind.signed]; simp
@[simp] theorem bits_u8 : IntKind.bits .u8 = 8 := rfl
@[simp] theorem bits_u32 : IntKind.bits .u32 = 32 := rfl
@[simp] theorem bits_u64 : IntKind.bits .u64 = 64 := rfl
@[simp] theorem bits_i64 : IntKind.bits .i64 = 64 := rfl
theorem tn0 : Int.toNat 0 = 0 := rfl
theorem tn1 : Int.toNat 1 = 1 := rfl
theorem tn2 : Int.toNat 2 = 2 := rfl
theorem tn3 : Int.toNat 3 = 3 := rfl
theorem tn5 : Int.toNat 5 = 5 := rfl
/-! ### Branches -/
@[simp] theorem br_true (X Y : Prop) : br true X Y = X := rfl
@[simp] theorem br_false (X Y : Prop) : br false X Y = Y := rfl
theorem br_intro {b : Bool} {X Y : Prop} (h1 : b = true → X) (h2 : b = false → Y) : br b X Y := by
  cases b
  · exact h2 rfl
  · exact h1 rfl
theorem br_dec {p : Prop} [Decidable p] {X Y : Prop} (h1 : p → X) (h2 : ¬ p → Y) : br (decide p) X Y := br_intro (fun h => h1 (of_decide_eq_true h)) (fun h => h2 (of_decide_eq_false h))
theorem br_eq {a b : Int} {X Y : Prop} (h1 : a = b → X) (h2 : a ≠ b → Y) : br (a == b) X Y := br_intro (fun h => h1 (by simpa using h)) (fun h => h2 (by simpa using h))
theorem br_ne {a b : Int} {X Y : Prop} (h1 : a ≠ b → X) (h2 : a = b → Y) : br (a != b) X Y := br_intro (fun h => h1 (by simpa using h)) (fun h => h2 (by simpa using h))
@[simp] theorem nilC_some' (a : Addr) (K : Addr → Prop) : nilC (some a) K = K a := rfl
/-! ### Calls -/
theorem CallsR.mono {P : Program} {f : FuncId} {args : Array Value} {w : World} {R R' : Value → World → Prop} (h : CallsR P f args w R) (hr : ∀ v w', R v w' → R' v w') : CallsR P f args w R' :=
  Calls.mono h fun _ _ ⟨v, he, hR⟩ => ⟨v, he, hr v _ hR⟩
/-! ### Worlds -/
/-- w' is w but for blocks of F, and new ones -/
structure Upd (F : Nat → Prop) (w w' : World) : Prop where
  size : w.heap.size ≤ w'.heap.size
  blk : ∀ b, b < w.heap.size → ¬ F b → w'.heap[b]? = w.heap[b]?
  os : w'.os = w.os
  tape : w'.tape = w.tape
  output : w'.output = w.output
abbrev NoB : Nat → Prop := fun _ => False
abbrev Ext (w w' : World) : Prop := Upd NoB w w'
theorem Upd.refl (F : Nat → Prop) (w : World) : Upd F w w := ⟨Nat.le_refl _, fun _ _ _ => rfl, rfl, rfl, rfl⟩
theorem Upd.trans {F : Nat → Prop} {a b c : World} (h : Upd F a b) (k : Upd F b c) : Upd F a c :=
  ⟨Nat.le_trans h.size k.size, fun i hi hf => (k.blk i (Nat.lt_of_lt_of_le hi h.size) hf).trans (h.blk i hi hf), k.os.trans h.os, k.tape.trans h.tape, k.output.trans h.output⟩
theorem Upd.mono {F G : Nat → Prop} {a b : World} (h : Upd F a b) (hs : ∀ x, x < a.heap.size → F x → G x) : Upd G a b := ⟨h.size, fun i hi hf => h.blk i hi fun hF => hf (hs i hi hF), h.os, h.tape, h.output⟩
theorem Upd.ext {F : Nat → Prop} {a b : World} (h : Ext a b) : Upd F a b := h.mono fun _ _ hf => hf.elim
theorem Upd.then {F : Nat → Prop} {a b c : World} (h : Upd F a b) (k : Ext b c) : Upd F a c := h.trans (Upd.ext k)
/-- what was changed lay beyond a -/
theorem Upd.beyond {F : Nat → Prop} {a b c : World} (h : Ext a b) (k : Upd F b c) (hf : ∀ x, F x → a.heap.size ≤ x) : Ext a c :=
  ⟨Nat.le_trans h.size k.size, fun i hi hn => (k.blk i (Nat.lt_of_lt_of_le hi h.size) fun hF => absurd (hf i hF) (by omega)).trans (h.blk i hi hn), k.os.trans h.os, k.tape.trans h.tape, k.output.trans h.output⟩
theorem Upd.get {F : Nat → Prop} {w w' : World} (h : Upd F w w') {b : Nat} {o : Obj} (hb : w.heap[b]? = some o) (hf : ¬ F b) : w'.heap[b]? = some o := by
  rw [h.blk b (Array.getElem?_eq_some_iff.1 hb).1 hf]; exact hb
theorem Ext.get {w w' : World} (h : Ext w w') {b : Nat} {o : Obj} (hb : w.heap[b]? = some o) : w'.heap[b]? = some o := Upd.get h hb (fun hf => hf)
theorem New.upd {w : World} {o : Obj} {b : Nat} {w' : World} (h : New w o b w') : Ext w w' := by
  obtain ⟨rfl, rfl⟩ := h
  refine ⟨by rw [World.size_alloc]; omega, fun i hi _ => ?_, rfl, rfl, rfl⟩
  show (w.heap.push o)[i]? = _
  rw [Array.getElem?_push, if_neg (by omega)]
theorem New.get {w : World} {o : Obj} {b : Nat} {w' : World} (h : New w o b w') : w'.heap[b]? = some o := by
  obtain ⟨rfl, rfl⟩ := h
  show (w.heap.push o)[w.heap.size]? = _
  simp
theorem New.size {w : World} {o : Obj} {b : Nat} {w' : World} (h : New w o b w') : w'.heap.size = w.heap.size + 1 := by
  obtain ⟨rfl, rfl⟩ := h
  exact World.size_alloc _ _
theorem Drew.upd {w w' : World} (h : Drew w w') : Ext w w' := by
  obtain ⟨rfl⟩ := h
  exact ⟨Nat.le_refl _, fun _ _ _ => rfl, rfl, rfl, rfl⟩
theorem Drew.heap {w w' : World} (h : Drew w w') : w'.heap = w.heap := by
  obtain ⟨rfl⟩ := h
  rfl
theorem drew_upd (w : World) : Ext w w.drew := Drew.upd ⟨rfl⟩
theorem Put.upd {F : Nat → Prop} {w₀ w : World} {b : Nat} {o : Obj} {w' : World} (h : Upd F w₀ w) (k : Put w b o w') (hb : w₀.heap.size ≤ b ∨ F b) : Upd F w₀ w' := by
  obtain ⟨hlt, rfl⟩ := k
  refine ⟨by have := h.size; simpa [putBlk] using this, fun i hi hf => ?_, h.os, h.tape, h.output⟩
  have hne : b ≠ i := by
    rintro rfl
    rcases hb with hb | hb
    · omega
    · exact hf hb
  rw [putBlk_get_other hne]
  exact h.blk i hi hf
theorem Put.get {w : World} {b : Nat} {o : Obj} {w' : World} (k : Put w b o w') : w'.heap[b]? = some o := by
  obtain ⟨hlt, rfl⟩ := k
  exact putBlk_get_same hlt
theorem Put.other {w : World} {b c : Nat} {o : Obj} {w' : World} (k : Put w b o w') (h : b ≠ c) : w'.heap[c]? = w.heap[c]? := by
  obtain ⟨hlt, rfl⟩ := k
  exact putBlk_get_other h
theorem Put.size {w : World} {b : Nat} {o : Obj} {w' : World} (k : Put w b o w') : w'.heap.size = w.heap.size := by
  obtain ⟨hlt, rfl⟩ := k
  simp [putBlk]
theorem Put.upd1 {w : World} {b : Nat} {o : Obj} {w' : World} (k : Put w b o w') : Upd (· = b) w w' := Put.upd (Upd.refl _ _) k (.inr rfl)
/-! ### Cells -/
@[simp] theorem add_lit (b o n : Nat) : Addr.add ⟨b, o, none⟩ n = ⟨b, o + n, none⟩ := by
  unfold Addr.add
  split
  · rename_i h; subst h; rfl
  · rfl
theorem add_zero (a : Addr) : Addr.add a 0 = a := by simp [Addr.add]
theorem cell_of {w : World} {b : Nat} {cs : Array Value} {T : TypeId} {fr : Nat × Nat} (h : w.heap[b]? = some (.cells cs T fr)) {i : Nat} {v : Value} (hi : cs[i]? = some v) : w.cell? ⟨b, i, none⟩ = some v := by
  simp [World.cell?, h, hi]
theorem cellsAt_of {w : World} {b : Nat} {cs : Array Value} {T : TypeId} {fr : Nat × Nat} (h : w.heap[b]? = some (.cells cs T fr)) {o : Nat} : ∀ {vs : List Value} {i : Nat}, (∀ j v, vs[j]? = some v → cs[o + (i + j)]? = some v) → cellsAt w ⟨b, o, none⟩ vs i
  | [], _, _ => trivial
  | v :: vs, i, hv => by
    refine ⟨?_, cellsAt_of h fun j u hj => ?_⟩
    · rw [add_lit]
      exact cell_of h (by simpa using hv 0 v rfl)
    · have := hv (j + 1) u (by simpa using hj)
      rwa [show o + (i + (j + 1)) = o + (i + 1 + j) by omega] at this
theorem store_of {w : World} {b : Nat} {cur : Array Value} {T : TypeId} (h : w.heap[b]? = some (.cells cur T (0, 0))) {o : Nat} {vs : List Value} (hl : o + vs.length ≤ cur.size) {K : World → Prop}
    (hk : ∀ w', Put w b (.cells (splice cur o vs) T (0, 0)) w' → K w') : storeP w ⟨b, o, none⟩ vs K :=
  ⟨rfl, cur, T, (0, 0), h, hl, .inl (by simp), hk⟩
theorem splice_one (cur : Array Value) (o : Nat) (v : Value) (h : o < cur.size) : splice cur o [v] = cur.setIfInBounds o v := by
  apply Array.ext'
  rw [Array.toList_setIfInBounds]
  simp only [splice, List.length_singleton]
  rw [List.set_eq_take_append_cons_drop]
  simp [h]
theorem splice_all (cur : Array Value) (vs : List Value) (h : cur.size = vs.length) : splice cur 0 vs = vs.toArray := by
  simp [splice, ← h]
theorem splice_size (cur : Array Value) (o : Nat) (vs : List Value) (h : o + vs.length ≤ cur.size) : (splice cur o vs).size = cur.size := by
  simp [splice]; omega
theorem fill_step (l z : List Value) (i : Nat) (hi : i < l.length) (hl : z.length = l.length) : splice (l.take i ++ z.drop i).toArray i [l[i]] = (l.take (i + 1) ++ z.drop (i + 1)).toArray := by
  rw [splice_one _ _ _ (by simp; omega)]
  apply Array.ext'
  simp only [Array.toList_setIfInBounds]
  rw [List.set_append_right _ _ (by simp; omega)]
  have hz : i < z.length := by omega
  rw [List.drop_eq_getElem_cons hz]
  have : i - (l.take i).length = 0 := by simp; omega
  rw [this, List.set_cons_zero]
  rw [List.take_succ_eq_append_getElem hi]
  simp only [List.append_assoc, List.singleton_append]
/-! ### Rows: what a slice reads as -/
abbrev bv (x : UInt8) : Value := .int .u8 (x.toNat : Int)
/-- the cells at a are vs -/
def RowAt (w : World) (a : Option Addr) (vs : List Value) : Prop :=
  vs = [] ∨ ∃ b o cur T fr, a = some ⟨b, o, none⟩ ∧ w.heap[b]? = some (.cells cur T fr) ∧ ∀ (j : Nat) v, vs[j]? = some v → cur[o + j]? = some v
theorem RowAt.nil (w : World) (a : Option Addr) : RowAt w a [] := .inl rfl
theorem RowAt.upd {F : Nat → Prop} {w w' : World} {a : Option Addr} {vs : List Value} (h : RowAt w a vs) (k : Upd F w w') (hf : ∀ p, a = some p → ¬ F p.block) : RowAt w' a vs := by
  rcases h with h | ⟨b, o, cur, T, fr, rfl, hb, hv⟩
  · exact .inl h
  · exact .inr ⟨b, o, cur, T, fr, rfl, k.get hb (hf _ rfl), hv⟩
theorem RowAt.ext {w w' : World} {a : Option Addr} {vs : List Value} (h : RowAt w a vs) (k : Ext w w') : RowAt w' a vs := RowAt.upd h k fun _ _ hf => hf
theorem RowAt.cell {w : World} {a : Option Addr} {vs : List Value} (h : RowAt w a vs) {i : Nat} {v : Value} (hi : vs[i]? = some v) : ∃ b o, a = some ⟨b, o, none⟩ ∧ w.cell? ⟨b, o + i, none⟩ = some v := by
  rcases h with h | ⟨b, o, cur, T, fr, rfl, hb, hv⟩
  · subst h; simp at hi
  · exact ⟨b, o, rfl, cell_of hb (hv i v hi)⟩
theorem RowAt.cells {w : World} {b o : Nat} {vs : List Value} (h : RowAt w (some ⟨b, o, none⟩) vs) : cellsAt w ⟨b, o, none⟩ vs 0 := by
  rcases h with h | ⟨b, o, cur, T, fr, ha, hb, hv⟩
  · subst h; trivial
  · cases ha; exact cellsAt_of hb fun j v hj => by simpa using hv j v hj
theorem RowAt.drop {w : World} {b o : Nat} {vs : List Value} (h : RowAt w (some ⟨b, o, none⟩) vs) (k : Nat) : RowAt w (some ⟨b, o + k, none⟩) (vs.drop k) := by
  rcases h with h | ⟨b, o, cur, T, fr, ha, hb, hv⟩
  · subst h; exact .inl (by simp)
  · cases ha; exact .inr ⟨b, o + k, cur, T, fr, rfl, hb, fun j v hj => by
      rw [List.getElem?_drop] at hj
      rw [Nat.add_assoc]; exact hv _ v hj⟩
theorem RowAt.take {w : World} {a : Option Addr} {vs : List Value} (h : RowAt w a vs) (k : Nat) : RowAt w a (vs.take k) := by
  rcases h with h | ⟨b, o, cur, T, fr, rfl, hb, hv⟩
  · subst h; exact .inl (by simp)
  · exact .inr ⟨b, o, cur, T, fr, rfl, hb, fun j v hj => hv j v (by
      rw [List.getElem?_take] at hj
      split at hj
      · exact hj
      · cases hj)⟩
theorem RowAt.blk {w : World} {a : Option Addr} {vs : List Value} (h : RowAt w a vs) (hn : vs ≠ []) : ∃ b o, a = some ⟨b, o, none⟩ ∧ b < w.heap.size := by
  rcases h with h | ⟨b, o, cur, T, fr, rfl, hb, hv⟩
  · exact absurd h hn
  · exact ⟨b, o, rfl, (Array.getElem?_eq_some_iff.1 hb).1⟩
theorem RowAt.of {w : World} {b : Nat} {cur : Array Value} {T : TypeId} {fr : Nat × Nat} (h : w.heap[b]? = some (.cells cur T fr)) {o : Nat} {vs : List Value} (hv : ∀ (j : Nat) v, vs[j]? = some v → cur[o + j]? = some v) : RowAt w (some ⟨b, o, none⟩) vs :=
  .inr ⟨b, o, cur, T, fr, rfl, h, hv⟩
/-- new memory -/
def Fresh (w : World) (a : Option Addr) : Prop := ∀ p, a = some p → w.heap.size ≤ p.block
theorem Fresh.none (w : World) : Fresh w none := fun _ h => by cases h
theorem Fresh.some {w : World} {b o : Nat} (h : w.heap.size ≤ b) : Fresh w (some ⟨b, o, .none⟩) := fun _ hp => by cases hp; exact h
theorem Fresh.mono {w w' : World} {a : Option Addr} (h : Fresh w' a) (hs : w.heap.size ≤ w'.heap.size) : Fresh w a := fun p hp => Nat.le_trans hs (h p hp)
/-- bytes -/
abbrev BytesAt (w : World) (a : Option Addr) (l : List UInt8) : Prop := RowAt w a (l.map bv)
theorem BytesAt.take {w : World} {a : Option Addr} {l : List UInt8} (h : BytesAt w a l) (k : Nat) : BytesAt w a (l.take k) := by
  show RowAt w a ((l.take k).map bv)
  rw [List.map_take]; exact RowAt.take h k
theorem BytesAt.drop {w : World} {b o : Nat} {l : List UInt8} (h : BytesAt w (some ⟨b, o, none⟩) l) (k : Nat) : BytesAt w (some ⟨b, o + k, none⟩) (l.drop k) := by
  show RowAt w _ ((l.drop k).map bv)
  rw [List.map_drop]; exact RowAt.drop h k
theorem BytesAt.nil (w : World) (a : Option Addr) : BytesAt w a [] := .inl rfl
/-- l[k:] -/
theorem BytesAt.from {w : World} {a : Option Addr} {l : List UInt8} (h : BytesAt w a l) (k : Nat) : BytesAt w (a.map (·.add k)) (l.drop k) := by
  cases l with
  | nil => simpa using BytesAt.nil w _
  | cons x l =>
    obtain ⟨b, o, rfl, _⟩ := RowAt.blk h (by simp)
    simp only [Option.map_some, add_lit]
    exact h.drop k
theorem bytes_get {l : List UInt8} {i : Nat} (h : i < l.length) : (l.map bv)[i]? = some (bv l[i]) := by simp [h]
/-- a byte is read -/
theorem idx_byte {w : World} {a : Option Addr} {l : List UInt8} {i : Int} {K : Int → Prop} (h : BytesAt w a l) (h0 : 0 ≤ i) (h1 : i < l.length) (hk : K ((l.getD i.toNat 0).toNat : Int)) :
    idxP a l.length i 1 fun q => ∃ x : Int, World.cell? w q = some (Value.int .u8 x) ∧ K x := by
  refine ⟨h0, h1, ?_⟩
  have hi : i.toNat < l.length := by omega
  obtain ⟨b, o, rfl, hc⟩ := RowAt.cell h (bytes_get hi)
  simp only [nilC_some', add_lit, Nat.mul_one]
  refine ⟨_, hc, ?_⟩
  simpa [List.getD, hi] using hk
/-- likewise where it is asked of every world of S -/
theorem idx_byteS {S : World → Prop} {a : Option Addr} {l : List UInt8} {i : Int} {K : Int → Prop} (h : ∀ u, S u → BytesAt u a l) (hs : ∃ u, S u) (h0 : 0 ≤ i) (h1 : i < l.length) (hk : K ((l.getD i.toNat 0).toNat : Int)) :
    idxP a l.length i 1 fun q => ∃ x : Int, (∀ u, S u → World.cell? u q = some (Value.int .u8 x)) ∧ K x := by
  refine ⟨h0, h1, ?_⟩
  have hi : i.toNat < l.length := by omega
  obtain ⟨u, hu⟩ := hs
  obtain ⟨b, o, rfl, hc⟩ := RowAt.cell (h u hu) (bytes_get hi)
  simp only [nilC_some', add_lit, Nat.mul_one]
  refine ⟨(l[i.toNat].toNat : Int), fun u hu => ?_, by simpa [List.getD, hi] using hk⟩
  obtain ⟨b', o', hb', hc'⟩ := RowAt.cell (h u hu) (bytes_get hi)
  cases hb'
  exact hc'
end Go.Den
end
section
set_option linter.unusedVariables false
set_option linter.unusedSimpArgs false
namespace Go.Den
/-- a number's bytes, the lowest first -/
def leB (n : Nat) : Nat → List UInt8
  | 0 => []
  | k + 1 => UInt8.ofNat (n % 256) :: leB (n / 256) k
/-- the number of such bytes -/
def fromLE : List UInt8 → Nat
  | [] => 0
  | b :: l => b.toNat + 256 * fromLE l
theorem leB_length (k : Nat) : ∀ n, (leB n k).length = k := by
  induction k with
  | zero => intro n; rfl
  | succ k ih => intro n; simp [leB, ih]
theorem leB_getD (k : Nat) : ∀ n i, i < k → (leB n k)[i]? = some (UInt8.ofNat (n / 256 ^ i % 256)) := by
  induction k with
  | zero => intro n i h; omega
  | succ k ih =>
    intro n i h
    cases i with
    | zero => simp [leB]
    | succ i => simp [leB]; rw [ih _ _ (by omega), Nat.div_div_eq_div_mul, Nat.pow_succ, Nat.mul_comm]
theorem fromLE_lt (l : List UInt8) : fromLE l < 256 ^ l.length := by
  induction l with
  | nil => simp [fromLE]
  | cons b l ih => have := b.toNat_lt; simp only [fromLE, List.length_cons, Nat.pow_succ]; omega
theorem fromLE_leB (k : Nat) : ∀ n, n < 256 ^ k → fromLE (leB n k) = n := by
  induction k with
  | zero => intro n h; simp at h; simp [leB, fromLE, h]
  | succ k ih =>
    intro n h
    rw [Nat.pow_succ] at h
    simp only [leB, fromLE]
    rw [ih (n / 256) (by omega)]
    simp
    omega
theorem leB_fromLE (l : List UInt8) : leB (fromLE l) l.length = l := by
  induction l with
  | nil => rfl
  | cons b l ih =>
    have := b.toNat_lt
    simp only [fromLE, List.length_cons, leB]
    rw [show (b.toNat + 256 * fromLE l) / 256 = fromLE l by omega, show (b.toNat + 256 * fromLE l) % 256 = b.toNat by omega, ih]
    simp
theorem fromLE_append (l m : List UInt8) : fromLE (l ++ m) = fromLE l + 256 ^ l.length * fromLE m := by
  induction l with
  | nil => simp [fromLE]
  | cons b l ih => simp only [List.cons_append, fromLE, ih, List.length_cons, Nat.pow_succ]; rw [Nat.mul_add, Nat.add_assoc, ← Nat.mul_assoc, Nat.mul_comm 256 (256 ^ _)]
def isSz (n : Int) : Bool := n == 1 || n == 2 || n == 4 || n == 8
theorem ends_isSize_spec (n : Int) (w : World) : CallsR prog K.ends_isSize #[.int .i64 n] w fun v w' => v = .bool (isSz n) ∧ w' = w := by
  apply ends_isSize.sh
  unfold ends_isSize.body isSz
  refine br_eq (fun h => ?_) fun h => br_eq (fun h => ?_) fun h => br_eq (fun h => ?_) fun h => ?_ <;> simp [*]
theorem carrackref01_Size_spec (n : Int) (w : World) : CallsR prog K.carrackref01_Size #[.int .i64 n] w fun v w' => v = .bool (isSz n) ∧ w' = w := by
  apply carrackref01_Size.sh
  unfold carrackref01_Size.body isSz
  refine br_eq (fun h => ?_) fun h => br_eq (fun h => ?_) fun h => br_eq (fun h => ?_) fun h => ?_ <;> simp [*]
theorem isSz_cases {k : Nat} (h : isSz k = true) : k = 1 ∨ k = 2 ∨ k = 4 ∨ k = 8 := by
  simp [isSz] at h; omega
theorem pow256 {k : Nat} (h : isSz k = true) : (256 : Nat) ^ k ≤ 18446744073709551616 := by
  rcases isSz_cases h with rfl | rfl | rfl | rfl <;> decide
theorem pow_shift (i : Nat) : (2 : Int) ^ (8 * i) = ((256 ^ i : Nat) : Int) := by
  rw [Int.pow_mul]; norm_cast
theorem shr_byte (n i : Nat) (hi : i < 8) : Int.fdiv n (2 ^ (min (Int.toNat (8 * (i : Int))) 64)) = ((n / 256 ^ i : Nat) : Int) := by
  have e1 : (8 * (i : Int)).toNat = 8 * i := by omega
  have e2 : min (8 * i) 64 = 8 * i := by omega
  rw [e1, e2, pow_shift, Int.fdiv_eq_ediv_of_nonneg _ (by exact Int.natCast_nonneg _)]
  exact (Int.natCast_ediv _ _).symm
theorem zeros_bytes (k : Nat) : zerosL [Value.int .u8 0] k = List.replicate k (Value.int .u8 0) := by
  induction k with
  | zero => rfl
  | succ m ih => simp [zerosL, ih, List.replicate_succ]
theorem bv_mod (m : Nat) : Value.int .u8 (IntKind.u8.wrap (m : Int)) = bv (UInt8.ofNat (m % 256)) := by
  rw [wu8_mod]
  simp
/-- ends.Put, of a number of the size -/
theorem ends_Put_spec (n k : Nat) (w : World) (hk : isSz k = true) (hn : n < 256 ^ k) :
    CallsR prog K.ends_Put #[.int .u64 n, .int .i64 k] w fun v w' => ∃ a c, v = .tuple #[.slice a k c, .int .i64 0] ∧ BytesAt w' a (leB n k) ∧ Fresh w a ∧ Ext w w' := by
  have hk8 : k ≤ 8 := by rcases isSz_cases hk with rfl | rfl | rfl | rfl <;> omega
  have hn64 := Nat.lt_of_lt_of_le hn (pow256 hk)
  apply ends_Put.sh
  refine ⟨fun u => u = w, ?_, ?_⟩
  · refine (ends_isSize_spec _ w).mono ?_
    rintro _ _ ⟨rfl, rfl⟩
    refine ⟨_, rfl, ?_⟩
    rw [hk]
    simp only [Bool.not_true, br_false]
    refine br_dec (fun h8 => ?_) fun h8 => trivial
    have h8' : k < 8 := by omega
    rw [w64 (by omega) (by omega), wu64 (by omega) (by omega)]
    refine ⟨by omega, br_ne (fun hne => ?_) fun _ => trivial⟩
    exfalso
    apply hne
    simp only [bits_u64]
    rw [shr_byte n k h8', Nat.div_eq_of_lt hn]
    rfl
  · rintro w' rfl
    refine ⟨by omega, by omega, by omega, by omega, rfl, fun b w₁ hnew => ?_⟩
    rw [zeros_bytes, Int.toNat_natCast] at hnew
    refine ⟨fun x w₂ => ∃ i : Nat, x = i ∧ i ≤ k ∧ Ext w' w₂ ∧ w₂.heap[b]? = some (.cells (((leB n k).map bv).take i ++ (List.replicate k (Value.int .u8 0)).drop i).toArray T.uint8 (0, 0)), fun x _ => ((k : Int) - x).toNat,
      ⟨0, rfl, by omega, hnew.upd, by simpa using hnew.get⟩, ?_⟩
    rintro x w₂ ⟨i, rfl, hi, hext, hb⟩
    refine br_dec (fun hlt => ?_) fun hge => ?_
    · simp only [Int.toNat_natCast] at hlt
      have hlt' : i < k := by omega
      have hl : i < ((leB n k).map bv).length := by simp [leB_length]; exact hlt'
      rw [w64 (by omega) (by omega), wu64 (by omega) (by omega)]
      refine ⟨by omega, by omega, by simp; omega, ?_⟩
      simp only [nilC_some', add_lit, Nat.mul_one, Nat.zero_add, Int.toNat_natCast, bits_u64]
      refine store_of hb (by simp [leB_length]; omega) fun w₃ hput => ?_
      have hval : Value.int .u8 (IntKind.u8.wrap (Int.fdiv n (2 ^ (min (Int.toNat (8 * (i : Int))) 64)))) = ((leB n k).map bv)[i] := by
        rw [shr_byte n i (by omega), bv_mod]
        have := leB_getD k n i hlt'
        have e := (List.getElem?_eq_some_iff.1 this).2
        simp only [List.getElem_map]
        rw [e]
      rw [hval, fill_step _ _ _ hl (by simp [leB_length])] at hput
      rw [w64 (by omega) (by omega)]
      refine ⟨⟨i + 1, by omega, by omega, Put.upd hext hput (.inl (by rw [hnew.num]; exact Nat.le_refl _)), hput.get⟩, by omega⟩
    · simp only [Int.toNat_natCast] at hge
      have : i = k := by omega
      subst this
      refine ⟨_, _, rfl, ?_, Fresh.some (by rw [hnew.num]; exact Nat.le_refl _), hext⟩
      refine RowAt.of hb fun j v hj => ?_
      rw [List.take_of_length_le (by simp [leB_length])]
      have hlt := (List.getElem?_eq_some_iff.1 hj).1
      simp only [Nat.zero_add]
      rw [List.getElem?_toArray, List.getElem?_append_left hlt]
      exact hj
/-! ### Readers -/
/-- a reader at r: what is left, and whether it refused -/
structure ReaderAt (w : World) (r : Nat) (l : List UInt8) (no : Bool) : Prop where
  at_ : ∃ a c, w.heap[r]? = some (.cells #[.bool true, .slice a l.length c, .bool no] T.ends_Reader (0, 0)) ∧ BytesAt w a l ∧ l.length ≤ c ∧ ∀ p, a = some p → p.block ≠ r
theorem clone_le (n : Nat) : Builtin.nextslicecap n 0 = n ∨ n = 0 := by
  unfold Builtin.nextslicecap
  by_cases h : n > 2 * 0
  · left; rw [if_pos h]
  · right; omega
/-- append(nil, s...) : a copy -/
theorem append_copy {a : Option Addr} {l : List UInt8} {c : Nat} {w : World} (hl : BytesAt w a l) (hn : l.length ≤ 281474976710656) {K : Option Addr → Nat → Nat → World → Prop}
    (hk : ∀ a' c' w', Ext w w' → BytesAt w' a' l → l.length ≤ c' → (∀ p, a' = some p → w.heap.size ≤ p.block) → (l = [] → a' = none) → K a' l.length c' w') :
    appendP T.uint8 1 1 [Value.int .u8 0] none 0 0 (Value.slice a l.length c) w K := by
  refine ⟨l.length, rfl, l.map bv, ?_, ?_, ?_, ?_⟩
  · unfold readP
    cases l with
    | nil => cases a <;> simp [cellsAt]
    | cons b l =>
      obtain ⟨b', o, rfl, _⟩ := RowAt.blk hl (by simp)
      exact ⟨by simp, hl.cells⟩
  · intro v hv
    simp at hv
    obtain ⟨x, _, rfl⟩ := hv
    rfl
  · intro h
    have : l = [] := List.eq_nil_of_length_eq_zero (by omega)
    subst this
    exact hk none 0 w (Upd.refl _ _) (RowAt.nil _ _) (by simp) (by simp) (by simp)
  · intro h
    refine ⟨by omega, ?_, [], rfl, ?_⟩
    · rcases clone_le l.length with h' | h'
      · simp only [Nat.zero_add]; rw [h']; omega
      · omega
    · intro cap b w' hcap hnew
      have e : Ext w w' := (drew_upd w).trans hnew.upd
      simp only [Nat.zero_add] at hcap ⊢
      refine hk (some ⟨b, 0, none⟩) cap w' e (RowAt.of hnew.get fun j v hj => ?_) hcap ?_ ?_
      · have hlt := (List.getElem?_eq_some_iff.1 hj).1
        simp only [List.nil_append, Nat.zero_add, List.getElem?_toArray]
        rw [List.getElem?_append_left hlt]
        exact hj
      · rintro p hp
        cases hp
        rw [hnew.num]
        exact Nat.le_refl _
      · rintro rfl
        simp at h
theorem ends_New_spec (a : Option Addr) (l : List UInt8) (c : Nat) (w : World) (hl : BytesAt w a l) (hn : l.length ≤ 281474976710656) :
    CallsR prog K.ends_New #[.slice a l.length c] w fun v w' => ∃ r, v = .pointer (some ⟨r, 0, none⟩) ∧ w.heap.size ≤ r ∧ ReaderAt w' r l false ∧ Ext w w' := by
  apply ends_New.sh
  unfold ends_New.body
  refine append_copy hl hn fun a' c' w₁ e hb hc hfr _ r w₂ hnew => ?_
  refine ⟨r, rfl, ?_, ⟨a', c', hnew.get, hb.ext hnew.upd, hc, ?_⟩, e.trans hnew.upd⟩
  · rw [hnew.num]; exact e.size
  · rintro p rfl heq
    have h1 := hnew.num
    by_cases hl0 : l = []
    · rename_i h0; exact absurd (h0 hl0) (by simp)
    · obtain ⟨b, o, hab, hlt⟩ := RowAt.blk hb (by simpa using hl0)
      cases hab
      simp at heq
      omega
theorem ends_Reader_off_spec (r : Nat) (l : List UInt8) (no : Bool) (w : World) (h : ReaderAt w r l no) :
    CallsR prog K.ends_Reader_off #[.pointer (some ⟨r, 0, none⟩)] w fun v w' => v = .bool false ∧ w' = w := by
  obtain ⟨a, c, hr, _⟩ := h.at_
  apply ends_Reader_off.sh
  simp only [ends_Reader_off.body, Option.isNone_some, br_false, nilC_some']
  exact ⟨true, cell_of hr rfl, rfl, trivial⟩
theorem ends_Reader_cut_spec (r k : Nat) (l : List UInt8) (no : Bool) (w : World) (h : ReaderAt w r l no) :
    CallsR prog K.ends_Reader_cut #[.pointer (some ⟨r, 0, none⟩), .int .i64 k] w fun v w' => Upd (· = r) w w' ∧
      if no = true ∨ l.length < k then v = .tuple #[.slice none 0 0, .int .i64 4] ∧ ReaderAt w' r l true
      else ∃ a c, v = .tuple #[.slice a k c, .int .i64 0] ∧ BytesAt w' a (l.take k) ∧ ReaderAt w' r (l.drop k) false := by
  obtain ⟨a, c, hr, hb, hlc, hne⟩ := h.at_
  apply ends_Reader_cut.sh
  simp only [ends_Reader_cut.body, nilC_some', add_lit, Nat.zero_add]
  refine ⟨no, cell_of hr rfl, ?_⟩
  have hno : ∀ w', Put w r (.cells (splice #[Value.bool true, Value.slice a l.length c, Value.bool no] 2 [Value.bool true]) T.ends_Reader (0, 0)) w' → ReaderAt w' r l true := by
    intro w' hput
    refine ⟨a, c, hput.get, RowAt.upd hb hput.upd1 fun p hp => hne p hp, hlc, hne⟩
  cases no with
  | true =>
    simp only [br_true]
    refine store_of hr (by simp) fun w' hput => ⟨hput.upd1, ?_⟩
    simp only [true_or, if_true]
    exact ⟨trivial, hno w' hput⟩
  | false =>
    simp only [br_false]
    refine ⟨a, l.length, c, cell_of hr rfl, br_dec (fun hlt => ?_) fun hge => ?_⟩
    · refine store_of hr (by simp) fun w' hput => ⟨hput.upd1, ?_⟩
      have : l.length < k := by omega
      simp only [this, or_true, if_true]
      exact ⟨trivial, hno w' hput⟩
    · have hk : k ≤ l.length := by omega
      refine ⟨a, l.length, c, cell_of hr rfl, ?_⟩
      refine ⟨by simp, by simp; omega, by simp, by simp, by simp, by simp, by simp, a, l.length, c, cell_of hr rfl, ?_⟩
      refine ⟨by simp, by simp, by simp, by simp; omega, by simp, by simp; omega, by simp, ?_⟩
      refine store_of hr (by simp) fun w' hput => ⟨hput.upd1, ?_⟩
      have hnk : ¬ (false = true ∨ l.length < k) := by simp; omega
      rw [if_neg hnk]
      have hb' : BytesAt w' a l := RowAt.upd hb hput.upd1 fun p hp => hne p hp
      refine ⟨_, _, rfl, ?_, ?_⟩
      · simp only [Option.getD_some, Option.getD_none, Int.toNat_natCast, Int.toNat_zero, Nat.zero_mul]
        have e : (if k = 0 then a else Option.map (fun x => Addr.add x 0) a) = a := by
          cases a <;> simp [add_zero]
        rw [e]
        exact BytesAt.take hb' k
      · simp only [Option.getD_some, Option.getD_none, Int.toNat_natCast, Nat.mul_one] at hput ⊢
        by_cases hck : c = k
        · have hlk : l.length = k := by omega
          rw [if_pos hck] at hput
          have hd : l.drop k = [] := List.drop_of_length_le (by omega)
          refine ⟨a, c - k, ?_, by rw [hd]; exact RowAt.nil _ _, by simp; omega, hne⟩
          rw [hput.get]
          simp [splice]
        · rw [if_neg hck] at hput
          refine ⟨a.map (·.add k), c - k, ?_, ?_, by simp; omega, ?_⟩
          · rw [hput.get]
            simp [splice]
          · exact BytesAt.from hb' k
          · intro p hp
            cases ha : a with
            | none => simp [ha] at hp
            | some q =>
              simp [ha] at hp
              subst hp
              have := hne q ha
              simp only [Addr.add]
              split <;> exact this
end Go.Den
end
section
set_option linter.unusedVariables false
set_option linter.unusedSimpArgs false
namespace Go.Den
theorem fromLE_take_succ (l : List UInt8) (i : Nat) (h : i < l.length) : fromLE (l.take (i + 1)) = fromLE (l.take i) + 256 ^ i * (l.getD i 0).toNat := by
  rw [List.take_succ_eq_append_getElem h, fromLE_append, List.length_take, Nat.min_eq_left (by omega)]
  simp [fromLE, List.getD, h]
theorem or_add (a b i : Nat) (ha : a < 256 ^ i) (hb : b < 256) (hi : i < 8) :
    IntKind.u64.wrap (((BitVec.ofInt (IntKind.bits .u64) (a : Int) ||| BitVec.ofInt (IntKind.bits .u64) (IntKind.u64.wrap ((IntKind.u64.wrap (b : Int)) * 2 ^ (min (Int.toNat (IntKind.u64.wrap (IntKind.i64.wrap (8 * (i : Int))))) (IntKind.bits .u64))))).toNat : Nat) : Int) = ((a + 256 ^ i * b : Nat) : Int) := by
  show IntKind.u64.wrap (((BitVec.ofInt 64 (a : Int) ||| BitVec.ofInt 64 (IntKind.u64.wrap ((IntKind.u64.wrap (b : Int)) * 2 ^ (min (Int.toNat (IntKind.u64.wrap (IntKind.i64.wrap (8 * (i : Int))))) 64)))).toNat : Nat) : Int) = ((a + 256 ^ i * b : Nat) : Int)
  have e0 : (256 : Nat) ^ i = 2 ^ (8 * i) := by rw [Nat.pow_mul]
  have h8 : (256 : Nat) ^ (i + 1) ≤ 256 ^ 8 := Nat.pow_le_pow_right (by omega) (by omega)
  rw [Nat.pow_succ] at h8
  have h88 : (256 : Nat) ^ 8 = 18446744073709551616 := by decide
  have hab : 256 ^ i * b < 18446744073709551616 := by
    have : 256 ^ i * b < 256 ^ i * 256 := Nat.mul_lt_mul_of_pos_left hb (Nat.pow_pos (by omega))
    omega
  have hsum : a + 256 ^ i * b < 18446744073709551616 := by
    have : 256 ^ i * b + 256 ^ i ≤ 256 ^ i * 256 := by
      rw [← Nat.mul_succ]; exact Nat.mul_le_mul_left _ (by omega)
    omega
  have q1 : IntKind.i64.wrap (8 * (i : Int)) = 8 * i := w64 (by omega) (by omega)
  have q2 : IntKind.u64.wrap (8 * (i : Int)) = 8 * i := wu64 (by omega) (by omega)
  have q3 : IntKind.u64.wrap (b : Int) = b := wu64 (by omega) (by omega)
  rw [q1, q2, q3]
  have e1 : (8 * (i : Int)).toNat = 8 * i := by omega
  have e2 : min (8 * i) 64 = 8 * i := by omega
  rw [e1, e2, pow_shift]
  have e3 : (b : Int) * ((256 ^ i : Nat) : Int) = ((256 ^ i * b : Nat) : Int) := by rw [Nat.mul_comm]; exact (Int.natCast_mul _ _).symm
  have q4 : IntKind.u64.wrap ((256 ^ i * b : Nat) : Int) = ((256 ^ i * b : Nat) : Int) := wu64 (Int.natCast_nonneg _) (by omega)
  rw [e3, q4]
  have e4 : ∀ n : Nat, n < 18446744073709551616 → (BitVec.ofInt 64 (n : Int)).toNat = n := by
    intro n hn
    rw [BitVec.ofInt_natCast, BitVec.toNat_ofNat]
    exact Nat.mod_eq_of_lt hn
  rw [BitVec.toNat_or, e4 a (by omega), e4 _ hab]
  have e5 : a ||| 256 ^ i * b = a + 256 ^ i * b := by
    rw [e0, Nat.or_comm, Nat.add_comm, Nat.two_pow_add_eq_or_of_lt (by rw [← e0]; exact ha)]
  rw [e5, wu64 (Int.natCast_nonneg _) (by omega)]
theorem ends_Reader_Take_spec (r k : Nat) (l : List UInt8) (no : Bool) (w : World) (hk : isSz k = true) (h : ReaderAt w r l no) :
    CallsR prog K.ends_Reader_Take #[.pointer (some ⟨r, 0, none⟩), .int .i64 k] w fun v w' => Upd (· = r) w w' ∧
      if no = true ∨ l.length < k then v = .tuple #[.int .u64 0, .int .i64 4] ∧ ReaderAt w' r l true
      else v = .tuple #[.int .u64 (fromLE (l.take k)), .int .i64 0] ∧ ReaderAt w' r (l.drop k) false := by
  have hk8 : k ≤ 8 := by rcases isSz_cases hk with rfl | rfl | rfl | rfl <;> omega
  apply ends_Reader_Take.sh
  unfold ends_Reader_Take.body
  refine (ends_Reader_off_spec r l no w h).mono ?_
  rintro _ _ ⟨rfl, rfl⟩
  refine ⟨_, rfl, ?_⟩
  rw [br_false]
  refine (ends_isSize_spec _ _).mono ?_
  rintro _ w ⟨rfl, rfl⟩
  refine ⟨_, rfl, ?_⟩
  rw [hk]
  simp only [Bool.not_true, br_false]
  refine (ends_Reader_cut_spec r k l no w h).mono ?_
  rintro v w₁ ⟨hupd, hv⟩
  split at hv
  · rename_i hc
    obtain ⟨rfl, hr⟩ := hv
    refine ⟨_, _, _, _, rfl, fun x y u => x = 0 ∧ y = 0 ∧ u = w₁, fun _ _ _ => 0, ⟨rfl, rfl, rfl⟩, ?_⟩
    rintro x y u ⟨rfl, rfl, rfl⟩
    simp only [Int.natCast_zero, Int.lt_irrefl, decide_false, br_false]
    rw [if_pos hc]
    exact ⟨hupd, trivial, hr⟩
  · rename_i hc
    obtain ⟨a, c, rfl, hb, hr⟩ := hv
    have hkl : k ≤ l.length := by
      rcases Nat.lt_or_ge l.length k with h' | h'
      · exact absurd (.inr h') hc
      · exact h'
    have hlen : (l.take k).length = k := by simp; omega
    refine ⟨_, _, _, _, rfl, fun x y u => ∃ i : Nat, y = i ∧ i ≤ k ∧ x = (fromLE ((l.take k).take i) : Nat) ∧ u = w₁, fun _ y _ => ((k : Int) - y).toNat, ⟨0, rfl, by omega, rfl, rfl⟩, ?_⟩
    rintro x y u ⟨i, rfl, hi, rfl, rfl⟩
    refine br_dec (fun hlt => ?_) fun hge => ?_
    · have hlt' : i < k := by omega
      have hb' := hb
      rw [show k = (l.take k).length from hlen.symm]
      refine idx_byte hb (by omega) (by omega) ?_
      rw [hlen]
      simp only [Int.toNat_natCast]
      have hlt2 := fromLE_lt ((l.take k).take i)
      have hi2 : ((l.take k).take i).length = i := by simp; omega
      rw [hi2] at hlt2
      rw [or_add _ _ i hlt2 (UInt8.toNat_lt _) (by omega), ← fromLE_take_succ _ i (by omega)]
      refine ⟨by rw [w64 (by omega) (by omega), wu64 (by omega) (by omega)]; omega, ?_, ?_⟩
      · rw [w64 (by omega) (by omega)]
        exact ⟨i + 1, by omega, by omega, rfl, by trivial⟩
      · rw [w64 (by omega) (by omega)]; omega
    · have : i = k := by omega
      subst this
      rw [if_neg hc, List.take_of_length_le (by omega)]
      exact ⟨hupd, rfl, hr⟩
end Go.Den
end
section
set_option linter.unusedSimpArgs false
set_option linter.unusedVariables false
namespace Go.Den
theorem growBy_le (n : Nat) : ∀ k c, c ≤ 2 * n + 192 → Builtin.growBy n k c ≤ 2 * n + 192
  | 0, c, h => h
  | k + 1, c, h => by
    unfold Builtin.growBy
    split
    · exact h
    · exact growBy_le n k _ (by omega)
theorem nextcap_le {n c : Nat} (h : c < n) : Builtin.nextslicecap n c ≤ 2 * n + 192 := by
  unfold Builtin.nextslicecap
  split
  · omega
  · split
    · omega
    · exact growBy_le n 4 c (by omega)
/-- a slice of the call's own: its elements' cells, its block from the begin -/
def OwnAt (w : World) (a : Option Addr) (len cap : Nat) (e : TypeId) (size : Nat) (cells : List Value) : Prop :=
  cells.length = len * size ∧ len ≤ cap ∧ ((a = none ∧ len = 0 ∧ cap = 0) ∨
    ∃ b cur, a = some ⟨b, 0, none⟩ ∧ w.heap[b]? = some (.cells cur e (0, 0)) ∧ cur.size = cap * size ∧ cur.toList.take (len * size) = cells)
theorem OwnAt.nil (w : World) (e : TypeId) (size : Nat) : OwnAt w none 0 0 e size [] := ⟨by simp, Nat.le_refl _, .inl ⟨rfl, rfl, rfl⟩⟩
theorem OwnAt.row {w : World} {a : Option Addr} {len cap : Nat} {e : TypeId} {size : Nat} {cells : List Value} (h : OwnAt w a len cap e size cells) : RowAt w a cells := by
  obtain ⟨hl, _, h⟩ := h
  rcases h with ⟨rfl, rfl, rfl⟩ | ⟨b, cur, rfl, hb, hs, ht⟩
  · exact .inl (List.eq_nil_of_length_eq_zero (by simpa using hl))
  · refine RowAt.of hb fun j v hj => ?_
    rw [← ht] at hj
    rw [List.getElem?_take] at hj
    split at hj
    · simpa using hj
    · cases hj
theorem OwnAt.upd {F : Nat → Prop} {w w' : World} {a : Option Addr} {len cap : Nat} {e : TypeId} {size : Nat} {cells : List Value} (h : OwnAt w a len cap e size cells) (k : Upd F w w') (hf : ∀ b, a = some ⟨b, 0, none⟩ → ¬ F b) : OwnAt w' a len cap e size cells := by
  obtain ⟨hl, hc, h⟩ := h
  refine ⟨hl, hc, ?_⟩
  rcases h with h | ⟨b, cur, rfl, hb, hs, ht⟩
  · exact .inl h
  · exact .inr ⟨b, cur, rfl, k.get hb (hf b rfl), hs, ht⟩
theorem OwnAt.ext {w w' : World} {a : Option Addr} {len cap : Nat} {e : TypeId} {size : Nat} {cells : List Value} (h : OwnAt w a len cap e size cells) (k : Ext w w') : OwnAt w' a len cap e size cells := OwnAt.upd h k fun _ _ hf => hf
theorem OwnAt.blk {w : World} {a : Option Addr} {len cap : Nat} {e : TypeId} {size : Nat} {cells : List Value} (h : OwnAt w a len cap e size cells) {b : Nat} (ha : a = some ⟨b, 0, none⟩) : b < w.heap.size := by
  obtain ⟨_, _, h⟩ := h
  rcases h with ⟨h, _⟩ | ⟨b', cur, h, hb, _⟩
  · rw [h] at ha; cases ha
  · rw [h] at ha; cases ha; exact (Array.getElem?_eq_some_iff.1 hb).1
/-- of a new block -/
theorem OwnAt.new {w w' : World} {b : Nat} {cs : Array Value} {e : TypeId} (h : New w (.cells cs e) b w') {n size : Nat} (hs : cs.size = n * size) : OwnAt w' (some ⟨b, 0, none⟩) n n e size cs.toList :=
  ⟨by simpa using hs, Nat.le_refl _, .inr ⟨b, cs, rfl, h.get, hs, by rw [List.take_of_length_le (by simp [hs])]⟩⟩
/-- what is read of a row, as append and copy read it -/
theorem read_row {w : World} {a : Option Addr} {len cap size : Nat} {vs : List Value} (h : RowAt w a vs) (hl : vs.length = len * size) : readP w size (.slice a len cap) len vs := by
  unfold readP
  cases vs with
  | nil => cases a <;> simp at hl ⊢ <;> simp [cellsAt, ← hl]
  | cons v vs =>
    obtain ⟨b, o, rfl, _⟩ := RowAt.blk h (by simp)
    exact ⟨hl, RowAt.cells h⟩
/-- append onto a slice of the call's own -/
theorem append_own {w : World} {a : Option Addr} {len cap : Nat} {e : TypeId} {size bytes : Nat} {z : List Value} {cells : List Value} (h : OwnAt w a len cap e size cells) {x : Value} {m : Nat} {new : List Value}
    (hx : lenV x = some m) (hr : readP w size x m new) (hm : new.length = m * size) (h1 : ∀ v ∈ new, v.oneCell' = true) (hz : z.length = size) (hbig : (2 * (len + m) + 192) * bytes ≤ 2 ^ 48) (hb : len + m < 9223372036854775808)
    {K : Option Addr → Nat → Nat → World → Prop}
    (hk : ∀ a' c' w', Upd (fun b => a = some ⟨b, 0, none⟩) w w' → OwnAt w' a' (len + m) c' e size (cells ++ new) → (a' = a ∨ ∃ b, a' = some ⟨b, 0, none⟩ ∧ w.heap.size ≤ b) → K a' (len + m) c' w') :
    appendP e size bytes z a len cap x w K := by
  obtain ⟨hl, hc, h⟩ := h
  refine ⟨m, hx, new, hr, h1, fun hroom => ?_, fun hgrow => ⟨hb, ?_, cells, ?_, ?_⟩⟩
  · rcases h with ⟨rfl, rfl, rfl⟩ | ⟨b, cur, rfl, hbk, hs, ht⟩
    · have hm0 : m = 0 := by omega
      subst hm0
      have hn : new = [] := List.eq_nil_of_length_eq_zero (by simpa using hm)
      have hc0 : cells = [] := List.eq_nil_of_length_eq_zero (by simpa using hl)
      subst hn; subst hc0
      exact hk none 0 w (Upd.refl _ _) (OwnAt.nil _ _ _) (.inl rfl)
    · simp only [add_lit, Nat.zero_add]
      have hfit : len * size + new.length ≤ cur.size := by rw [hm, hs, ← Nat.add_mul]; exact Nat.mul_le_mul_right _ hroom
      refine store_of hbk hfit fun w' hput => hk _ _ w' (Put.upd (Upd.refl _ _) hput (.inr rfl)) ?_ (.inl rfl)
      refine ⟨by simp [hl, hm, Nat.add_mul], hroom, .inr ⟨b, _, rfl, hput.get, by rw [splice_size _ _ _ hfit, hs], ?_⟩⟩
      simp only [splice]
      rw [← ht, Nat.add_mul, ← hm]
      have : (cur.toList.take (len * size) ++ new).length = len * size + new.length := by simp; omega
      rw [← this, List.take_append_of_le_length (Nat.le_refl _), List.take_length]
  · have := nextcap_le hgrow
    exact Nat.le_trans (Nat.mul_le_mul_right _ this) hbig
  · exact read_row (by
      rcases h with ⟨rfl, rfl, rfl⟩ | ⟨b, cur, rfl, hbk, hs, ht⟩
      · exact .inl (List.eq_nil_of_length_eq_zero (by simpa using hl))
      · exact OwnAt.row ⟨hl, hc, .inr ⟨b, cur, rfl, hbk, hs, ht⟩⟩) hl
  · intro cap' b w' hcap hnew
    have e1 : Ext w w' := (drew_upd w).trans hnew.upd
    refine hk _ _ w' (Upd.ext e1) ?_ (.inr ⟨b, rfl, by rw [hnew.num]; exact Nat.le_refl _⟩)
    refine ⟨by simp [hl, hm, Nat.add_mul], hcap, .inr ⟨b, _, rfl, hnew.get, ?_, ?_⟩⟩
    · simp [hl, hm, zerosL_length, hz]
      rw [← Nat.add_mul, ← Nat.add_mul]
      congr 1
      omega
    · have : (cells ++ new).length = (len + m) * size := by simp [hl, hm, Nat.add_mul]
      simp only []
      rw [← this, List.take_append_of_le_length (Nat.le_refl _), List.take_length]
theorem oneCell_bytes {l : List UInt8} : ∀ v ∈ l.map bv, v.oneCell' = true := by
  intro v hv
  simp at hv
  obtain ⟨x, _, rfl⟩ := hv
  rfl
/-- append of bytes onto bytes of the call's own -/
theorem append_bytes {w : World} {a : Option Addr} {l : List UInt8} {cap : Nat} (h : OwnAt w a l.length cap T.uint8 1 (l.map bv)) {ax : Option Addr} {xs : List UInt8} {cx : Nat} (hx : BytesAt w ax xs)
    (hb : l.length + xs.length ≤ 140737488355232) {K : Option Addr → Nat → Nat → World → Prop}
    (hk : ∀ a' c' w', Upd (fun b => a = some ⟨b, 0, none⟩) w w' → OwnAt w' a' (l ++ xs).length c' T.uint8 1 ((l ++ xs).map bv) → (a' = a ∨ ∃ b, a' = some ⟨b, 0, none⟩ ∧ w.heap.size ≤ b) → K a' (l ++ xs).length c' w') :
    appendP T.uint8 1 1 [Value.int .u8 0] a l.length cap (.slice ax xs.length cx) w K := by
  refine append_own h rfl (read_row hx (by simp)) (by simp) oneCell_bytes rfl (by omega) (by omega) fun a' c' w' hu ho hf => ?_
  have := hk a' c' w' hu (by simpa [List.length_append] using ho) hf
  simpa [List.length_append] using this
/-- append of one byte, out of a block of its own -/
theorem append_byte {w w₁ : World} {a : Option Addr} {l : List UInt8} {cap : Nat} (h : OwnAt w a l.length cap T.uint8 1 (l.map bv)) {B : Nat} {x : UInt8} (hn : New w (.cells #[bv x] T.uint8) B w₁)
    (hb : l.length + 1 ≤ 140737488355232) {K : Option Addr → Nat → Nat → World → Prop}
    (hk : ∀ a' c' w', Upd (fun b => a = some ⟨b, 0, none⟩) w w' → OwnAt w' a' (l ++ [x]).length c' T.uint8 1 ((l ++ [x]).map bv) → (a' = a ∨ ∃ b, a' = some ⟨b, 0, none⟩ ∧ w.heap.size ≤ b) → K a' (l ++ [x]).length c' w') :
    appendP T.uint8 1 1 [Value.int .u8 0] a l.length cap (.slice (some ⟨B, 0, none⟩) 1 1) w₁ K := by
  refine append_bytes (xs := [x]) (cx := 1) (h.ext hn.upd) (RowAt.of hn.get fun j v hj => by simpa using hj) (by simpa using hb) fun a' c' w' hu ho hf => ?_
  refine hk a' c' w' ((Upd.ext hn.upd).trans hu) ho ?_
  rcases hf with hf | ⟨b, hb', hs⟩
  · exact .inl hf
  · exact .inr ⟨b, hb', Nat.le_trans hn.upd.size hs⟩
/-- s[k:] -/
theorem slice_from {size : Nat} {a : Option Addr} {len cap : Nat} {k : Int} {K : Option Addr → Nat → Nat → Prop} (h0 : 0 ≤ k) (h1 : k ≤ len) (h2 : len ≤ cap)
    (hk : K (if cap = k.toNat then a else a.map (·.add (k.toNat * size))) (len - k.toNat) (cap - k.toNat)) : sliceP size a len cap (some k) none none K := by
  refine ⟨by simp, by simp, by simp, by simp; omega, by simpa using h0, by simpa using h1, by simp, ?_⟩
  simpa using hk
/-- b[k:] of bytes -/
theorem slice_bytes_from {w : World} {a : Option Addr} {l : List UInt8} {cap : Nat} (h : BytesAt w a l) {k : Int} {K : Option Addr → Nat → Nat → Prop} (h0 : 0 ≤ k) (h1 : k ≤ l.length) (h2 : l.length ≤ cap)
    (hk : ∀ a' c', BytesAt w a' (l.drop k.toNat) → (l.drop k.toNat).length ≤ c' → (a' = a ∨ a' = a.map (·.add k.toNat)) → (cap = k.toNat → a' = a) → (cap ≠ k.toNat → a' = a.map (·.add k.toNat)) → K a' (l.drop k.toNat).length c') : sliceP 1 a l.length cap (some k) none none K := by
  refine slice_from h0 h1 h2 ?_
  rw [show l.length - k.toNat = (l.drop k.toNat).length by simp]
  refine hk _ _ ?_ (by simp; omega) ?_ ?_ ?_
  · split
    · rename_i hc
      have : l.drop k.toNat = [] := List.drop_of_length_le (by omega)
      rw [this]; exact BytesAt.nil _ _
    · simpa using BytesAt.from h k.toNat
  · split
    · exact .inl rfl
    · exact .inr (by simp)
  · intro h; rw [if_pos h]
  · intro h; rw [if_neg h]; simp
/-- b[:k:k], b[:k] -/
theorem slice_bytes_to {w : World} {a : Option Addr} {l : List UInt8} {cap : Nat} (h : BytesAt w a l) {k : Int} {mx : Option Int} {K : Option Addr → Nat → Nat → Prop} (h0 : 0 ≤ k) (h1 : k ≤ l.length) (h2 : l.length ≤ cap) (hm : mx = none ∨ mx = some k)
    (hk : ∀ c', BytesAt w a (l.take k.toNat) → (l.take k.toNat).length ≤ c' → K a (l.take k.toNat).length c') : sliceP 1 a l.length cap none (some k) mx K := by
  have e : (l.take k.toNat).length = k.toNat := by simp; omega
  rcases hm with rfl | rfl
  · refine ⟨by simp, by simp, by simpa using h0, by simp; omega, by simp, by simpa using h0, by simp, ?_⟩
    have := hk cap (BytesAt.take h _) (by omega)
    rw [e] at this
    have e2 : (if (Option.getD none (cap : Int)).toNat = (Option.getD none (0 : Int)).toNat then a else Option.map (fun x => Addr.add x ((Option.getD none (0 : Int)).toNat * 1)) a) = a := by
      cases a <;> simp [add_zero]
    rw [e2]
    simpa using this
  · refine ⟨by simpa using h0, by simp; omega, by simpa using h0, by simp, by simp, by simpa using h0, by simp, ?_⟩
    have := hk k.toNat (BytesAt.take h _) (by omega)
    rw [e] at this
    have e2 : (if (Option.getD (some k) (cap : Int)).toNat = (Option.getD none (0 : Int)).toNat then a else Option.map (fun x => Addr.add x ((Option.getD none (0 : Int)).toNat * 1)) a) = a := by
      cases a <;> simp [add_zero]
    rw [e2]
    simpa using this
/-- b[k:m] -/
theorem slice_bytes_mid {w : World} {a : Option Addr} {l : List UInt8} {cap : Nat} (h : BytesAt w a l) {k m : Int} {mx : Option Int} {K : Option Addr → Nat → Nat → Prop} (h0 : 0 ≤ k) (h1 : k ≤ m) (hml : m ≤ l.length) (h2 : l.length ≤ cap) (hm : mx = none ∨ mx = some m)
    (hk : ∀ a' c', BytesAt w a' ((l.take m.toNat).drop k.toNat) → ((l.take m.toNat).drop k.toNat).length ≤ c' → K a' ((l.take m.toNat).drop k.toNat).length c') : sliceP 1 a l.length cap (some k) (some m) mx K := by
  have e : ((l.take m.toNat).drop k.toNat).length = m.toNat - k.toNat := by simp; omega
  have key : ∀ M : Nat, m.toNat ≤ M → BytesAt w (if M = k.toNat then a else a.map (·.add (k.toNat * 1))) ((l.take m.toNat).drop k.toNat) := by
    intro M hM
    split
    · rename_i hc
      have : (l.take m.toNat).drop k.toNat = [] := List.drop_of_length_le (by simp; omega)
      rw [this]; exact BytesAt.nil _ _
    · simpa using BytesAt.from (BytesAt.take h m.toNat) k.toNat
  rcases hm with rfl | rfl
  · refine ⟨by simp, by simp, by simp; omega, by simp; omega, by simpa using h0, by simpa using h1, by simp, ?_⟩
    have := hk _ (cap - k.toNat) (key cap (by omega)) (by omega)
    rw [e] at this
    simpa using this
  · refine ⟨by simp; omega, by simp; omega, by simp; omega, by simp, by simpa using h0, by simpa using h1, by simp, ?_⟩
    have := hk _ (m.toNat - k.toNat) (key m.toNat (Nat.le_refl _)) (by omega)
    rw [e] at this
    simpa using this
end Go.Den
end
