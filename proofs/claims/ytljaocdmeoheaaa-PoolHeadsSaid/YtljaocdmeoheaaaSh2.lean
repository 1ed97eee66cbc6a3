/- PRINTED by den.py: what the bodies of the Go functions come to. -/
import Derived.Test.YtljaocdmeoheaaaNum
set_option linter.unusedVariables false
set_option maxRecDepth 100000
namespace Go.Den
open Go.Proofs

/-- (*carrack/pool.Pool).look -/
def pool_Pool_look.body (p : Option Addr) (i : Int) (w : World) (R : Value → World → Prop) : Prop :=
  ∀ (B1 : Nat) (w1 : World), New w (.cells #[Value.int .i64 0, Value.int .u8 0, Value.int .u32 0, Value.int .u64 0] T.pool_block) B1 w1 → storeP w1 ⟨B1, 0, none⟩ [Value.int .i64 0, Value.int .u8 0, Value.int .u32 0, Value.int .u64 0] fun w2 => nilC p fun q1 => ∃ p1 : Option Addr, World.cell? w2 q1 = some (Value.pointer p1) ∧ CallsR prog K.nand_Chip_Geo #[Value.pointer p1] w2 fun v1 w3 => ∃ x1 : Int, ∃ x2 : Int, ∃ x3 : Int, ∃ x4 : Int, v1 = Value.agg #[Value.int .i64 x1, Value.int .i64 x2, Value.int .i64 x3, Value.int .i64 x4] ∧ ∃ (J1 : Int → World → Prop) (μ1 : Int → World → Nat), J1 0 w3 ∧ ∀ x5 : Int, ∀ w4 : World, J1 x5 w4 → br (decide (x5 < x2)) (nilC p fun q2 => ∃ p2 : Option Addr, World.cell? w4 q2 = some (Value.pointer p2) ∧ CallsR prog K.nand_Chip_Read #[Value.pointer p2, Value.int .i64 i, Value.int .i64 x5] w4 fun v2 w5 => ∃ (a1 : Option Addr) (l1 c1 : Nat), ∃ x6 : Int, v2 = Value.tuple #[Value.slice a1 l1 c1, Value.int .i64 x6] ∧ br (x6 != 0) (R (Value.tuple #[]) w5) (CallsR prog K.pool_GetHead #[Value.slice a1 l1 c1] w5 fun v3 w6 => ∃ x7 : Int, ∃ x8 : Int, ∃ x9 : Int, ∃ x10 : Int, v3 = Value.tuple #[Value.agg #[Value.int .u8 x7, Value.int .u32 x8, Value.int .u64 x9], Value.int .i64 x10] ∧ ∀ (B2 : Nat) (w7 : World), New w6 (.cells #[Value.int .u8 0, Value.int .u32 0, Value.int .u64 0] T.api_Head) B2 w7 → storeP w7 ⟨B2, 0, none⟩ [Value.int .u8 x7, Value.int .u32 x8, Value.int .u64 x9] fun w8 => br (x5 == 0) (br (x10 == 0) (∀ w9 : World, Drew w8 w9 → ∃ S1 : World → Prop, S1 w9 ∧ nilC p fun q3 => ∃ (a2 : Option Addr) (l2 c2 : Nat), (∀ u1, S1 u1 → World.cell? u1 (Addr.add q3 1) = some (Value.slice a2 l2 c2)) ∧ ∃ x11 : Int, ∃ x12 : Int, ∃ x13 : Int, (∀ u2, S1 u2 → cellsAt u2 ⟨B2, 0, none⟩ [Value.int .u8 x11, Value.int .u32 x12, Value.int .u64 x13] 0) ∧ idxP a2 l2 i 4 fun q4 => storeP w9 q4 [Value.int .i64 2, Value.int .u8 x11, Value.int .u32 x12, Value.int .u64 x13] fun w10 => R (Value.tuple #[]) w10) (CallsR prog K.seal_Blank #[Value.slice a1 l1 c1] w8 fun v4 w11 => ∃ b1 : Bool, v4 = Value.bool b1 ∧ br (!b1) (storeP w11 ⟨B1, 0, none⟩ [Value.int .i64 1] fun w12 => J1 (IntKind.i64.wrap (x5 + 1)) w12 ∧ μ1 (IntKind.i64.wrap (x5 + 1)) w12 < μ1 x5 w4) (J1 (IntKind.i64.wrap (x5 + 1)) w11 ∧ μ1 (IntKind.i64.wrap (x5 + 1)) w11 < μ1 x5 w4))) (CallsR prog K.seal_Blank #[Value.slice a1 l1 c1] w8 fun v5 w13 => ∃ b2 : Bool, v5 = Value.bool b2 ∧ br (!b2) (storeP w13 ⟨B1, 0, none⟩ [Value.int .i64 1] fun w14 => J1 (IntKind.i64.wrap (x5 + 1)) w14 ∧ μ1 (IntKind.i64.wrap (x5 + 1)) w14 < μ1 x5 w4) (J1 (IntKind.i64.wrap (x5 + 1)) w13 ∧ μ1 (IntKind.i64.wrap (x5 + 1)) w13 < μ1 x5 w4)))) (∀ w15 : World, Drew w4 w15 → ∃ S2 : World → Prop, S2 w15 ∧ nilC p fun q5 => ∃ (a3 : Option Addr) (l3 c3 : Nat), (∀ u3, S2 u3 → World.cell? u3 (Addr.add q5 1) = some (Value.slice a3 l3 c3)) ∧ ∃ x14 : Int, ∃ x15 : Int, ∃ x16 : Int, ∃ x17 : Int, (∀ u4, S2 u4 → cellsAt u4 ⟨B1, 0, none⟩ [Value.int .i64 x14, Value.int .u8 x15, Value.int .u32 x16, Value.int .u64 x17] 0) ∧ idxP a3 l3 i 4 fun q6 => storeP w15 q6 [Value.int .i64 x14, Value.int .u8 x15, Value.int .u32 x16, Value.int .u64 x17] fun w16 => R (Value.tuple #[]) w16)
theorem pool_Pool_look.sh {p : Option Addr} {i : Int} {w : World} {R : Value → World → Prop} (h : pool_Pool_look.body p i w R) :
    CallsR prog K.pool_Pool_look #[Value.pointer p, Value.int .i64 i] w R :=
  calls_body follows (f := K.pool_Pool_look) Try.func43 ([]) ([(2, [0, 1, 4, 16], [17], [Value.int .i64 0])])
    (Eq.mp (by kernel_rfl : pool_Pool_look.body p i w R = bodyOf prog Try.f43 ([]) ([(2, [0, 1, 4, 16], [17], [Value.int .i64 0])]) [Value.pointer p, Value.int .i64 i] w R) h)

/-- (*carrack/pool.Pool).off -/
def pool_Pool_off.body (p : Option Addr) (w : World) (R : Value → World → Prop) : Prop :=
  br (Option.isNone p) (R (Value.bool true) w) (nilC p fun q1 => ∃ (a1 : Option Addr) (l1 c1 : Nat), World.cell? w (Addr.add q1 1) = some (Value.slice a1 l1 c1) ∧ R (Value.bool (Option.isNone a1)) w)
theorem pool_Pool_off.sh {p : Option Addr} {w : World} {R : Value → World → Prop} (h : pool_Pool_off.body p w R) :
    CallsR prog K.pool_Pool_off #[Value.pointer p] w R :=
  calls_body follows (f := K.pool_Pool_off) Try.func44 ([]) ([])
    (Eq.mp (by kernel_rfl : pool_Pool_off.body p w R = bodyOf prog Try.f44 ([]) ([]) [Value.pointer p] w R) h)

/-- (*carrack/pool.Pool).alive -/
def pool_Pool_alive.body (p : Option Addr) (w : World) (R : Value → World → Prop) : Prop :=
  CallsR prog K.pool_Pool_off #[Value.pointer p] w fun v1 w1 => ∃ b1 : Bool, v1 = Value.bool b1 ∧ br b1 (R (Value.int .i64 1) w1) (nilC p fun q1 => ∃ p1 : Option Addr, World.cell? w1 q1 = some (Value.pointer p1) ∧ CallsR prog K.nand_Chip_Read #[Value.pointer p1, Value.int .i64 0, Value.int .i64 0] w1 fun v2 w2 => ∃ (a1 : Option Addr) (l1 c1 : Nat), ∃ x1 : Int, v2 = Value.tuple #[Value.slice a1 l1 c1, Value.int .i64 x1] ∧ R (Value.int .i64 x1) w2)
theorem pool_Pool_alive.sh {p : Option Addr} {w : World} {R : Value → World → Prop} (h : pool_Pool_alive.body p w R) :
    CallsR prog K.pool_Pool_alive #[Value.pointer p] w R :=
  calls_body follows (f := K.pool_Pool_alive) Try.func45 ([]) ([])
    (Eq.mp (by kernel_rfl : pool_Pool_alive.body p w R = bodyOf prog Try.f45 ([]) ([]) [Value.pointer p] w R) h)

/-- (*carrack/pool.Pool).try -/
def pool_Pool_try.body (y0a : Option Addr) (y1a : Int) (y2a : Int) (y3a : Int) (w : World) (R : Value → World → Prop) : Prop :=
  nilC y0a fun q1 => ∃ (a1 : Option Addr) (l1 c1 : Nat), World.cell? w (Addr.add q1 1) = some (Value.slice a1 l1 c1) ∧ idxP a1 l1 y1a 4 fun q2 => ∃ x1 : Int, World.cell? w q2 = some (Value.int .i64 x1) ∧ br (x1 == 1) (nilC y0a fun q3 => ∃ p1 : Option Addr, World.cell? w q3 = some (Value.pointer p1) ∧ CallsR prog K.nand_Chip_Erase #[Value.pointer p1, Value.int .i64 y1a] w fun v1 w1 => ∃ x2 : Int, v1 = Value.int .i64 x2 ∧ CallsR prog K.pool_Pool_look #[Value.pointer y0a, Value.int .i64 y1a] w1 fun v2 w2 => v2 = Value.tuple #[] ∧ br (x2 != 0) (R (Value.int .i64 x2) w2) (nilC y0a fun q4 => ∃ x3 : Int, World.cell? w2 (Addr.add q4 2) = some (Value.int .u64 x3) ∧ nilC y0a fun q5 => storeP w2 (Addr.add q5 2) [Value.int .u64 (IntKind.u64.wrap (x3 + 1))] fun w3 => ∀ w4 : World, Drew w3 w4 → ∃ S1 : World → Prop, S1 w4 ∧ nilC y0a fun q6 => ∃ p2 : Option Addr, (∀ u1, S1 u1 → World.cell? u1 q6 = some (Value.pointer p2)) ∧ nilC y0a fun q7 => ∃ x4 : Int, (∀ u2, S1 u2 → World.cell? u2 (Addr.add q7 2) = some (Value.int .u64 x4)) ∧ CallsR prog K.nand_Chip_Geo #[Value.pointer p2] w4 fun v3 w5 => ∃ x5 : Int, ∃ x6 : Int, ∃ x7 : Int, ∃ x8 : Int, v3 = Value.agg #[Value.int .i64 x5, Value.int .i64 x6, Value.int .i64 x7, Value.int .i64 x8] ∧ S1 w5 ∧ CallsR prog K.pool_PutHead #[Value.int .i64 x7, Value.agg #[Value.int .u8 y2a, Value.int .u32 y3a, Value.int .u64 x4]] w5 fun v4 w6 => ∃ (a2 : Option Addr) (l2 c2 : Nat), ∃ x9 : Int, v4 = Value.tuple #[Value.slice a2 l2 c2, Value.int .i64 x9] ∧ S1 w6 ∧ nilC y0a fun q8 => ∃ p3 : Option Addr, World.cell? w6 q8 = some (Value.pointer p3) ∧ CallsR prog K.nand_Chip_Program #[Value.pointer p3, Value.int .i64 y1a, Value.int .i64 0, Value.slice a2 l2 c2] w6 fun v5 w7 => ∃ x10 : Int, v5 = Value.int .i64 x10 ∧ CallsR prog K.pool_Pool_look #[Value.pointer y0a, Value.int .i64 y1a] w7 fun v6 w8 => v6 = Value.tuple #[] ∧ R (Value.int .i64 x10) w8)) (nilC y0a fun q9 => ∃ x11 : Int, World.cell? w (Addr.add q9 2) = some (Value.int .u64 x11) ∧ nilC y0a fun q10 => storeP w (Addr.add q10 2) [Value.int .u64 (IntKind.u64.wrap (x11 + 1))] fun w9 => ∀ w10 : World, Drew w9 w10 → ∃ S2 : World → Prop, S2 w10 ∧ nilC y0a fun q11 => ∃ p4 : Option Addr, (∀ u3, S2 u3 → World.cell? u3 q11 = some (Value.pointer p4)) ∧ nilC y0a fun q12 => ∃ x12 : Int, (∀ u4, S2 u4 → World.cell? u4 (Addr.add q12 2) = some (Value.int .u64 x12)) ∧ CallsR prog K.nand_Chip_Geo #[Value.pointer p4] w10 fun v7 w11 => ∃ x13 : Int, ∃ x14 : Int, ∃ x15 : Int, ∃ x16 : Int, v7 = Value.agg #[Value.int .i64 x13, Value.int .i64 x14, Value.int .i64 x15, Value.int .i64 x16] ∧ S2 w11 ∧ CallsR prog K.pool_PutHead #[Value.int .i64 x15, Value.agg #[Value.int .u8 y2a, Value.int .u32 y3a, Value.int .u64 x12]] w11 fun v8 w12 => ∃ (a3 : Option Addr) (l3 c3 : Nat), ∃ x17 : Int, v8 = Value.tuple #[Value.slice a3 l3 c3, Value.int .i64 x17] ∧ S2 w12 ∧ nilC y0a fun q13 => ∃ p5 : Option Addr, World.cell? w12 q13 = some (Value.pointer p5) ∧ CallsR prog K.nand_Chip_Program #[Value.pointer p5, Value.int .i64 y1a, Value.int .i64 0, Value.slice a3 l3 c3] w12 fun v9 w13 => ∃ x18 : Int, v9 = Value.int .i64 x18 ∧ CallsR prog K.pool_Pool_look #[Value.pointer y0a, Value.int .i64 y1a] w13 fun v10 w14 => v10 = Value.tuple #[] ∧ R (Value.int .i64 x18) w14)
theorem pool_Pool_try.sh {y0a : Option Addr} {y1a : Int} {y2a : Int} {y3a : Int} {w : World} {R : Value → World → Prop} (h : pool_Pool_try.body y0a y1a y2a y3a w R) :
    CallsR prog K.pool_Pool_try #[Value.pointer y0a, Value.int .i64 y1a, Value.int .u8 y2a, Value.int .u32 y3a] w R :=
  calls_body follows (f := K.pool_Pool_try) Try.func46 ([]) ([])
    (Eq.mp (by kernel_rfl : pool_Pool_try.body y0a y1a y2a y3a w R = bodyOf prog Try.f46 ([]) ([]) [Value.pointer y0a, Value.int .i64 y1a, Value.int .u8 y2a, Value.int .u32 y3a] w R) h)

/-- (*carrack/nand.Chip).Erase -/
def nand_Chip_Erase.body (c : Option Addr) (block : Int) (w : World) (R : Value → World → Prop) : Prop :=
  CallsR prog K.nand_Chip_ask #[Value.pointer c, Value.int .i64 block, Value.int .i64 0] w fun v1 w1 => ∃ x1 : Int, v1 = Value.int .i64 x1 ∧ br (x1 != 0) (R (Value.int .i64 x1) w1) (nilC c fun q1 => ∃ (a1 : Option Addr) (l1 c1 : Nat), World.cell? w1 (Addr.add q1 5) = some (Value.slice a1 l1 c1) ∧ idxP a1 l1 block 1 fun q2 => ∃ b1 : Bool, World.cell? w1 q2 = some (Value.bool b1) ∧ br b1 (R (Value.int .i64 9) w1) (nilC c fun q3 => ∃ (a2 : Option Addr) (l2 c2 : Nat), World.cell? w1 (Addr.add q3 4) = some (Value.slice a2 l2 c2) ∧ idxP a2 l2 block 1 fun q4 => ∃ (a3 : Option Addr) (l3 c3 : Nat), World.cell? w1 q4 = some (Value.slice a3 l3 c3) ∧ CallsR prog K.nand_Chip_done #[Value.pointer c, Value.int .i64 block, Value.slice a3 l3 c3, Value.func (.func K.nand_Chip_Erase_1) #[] #[]] w1 fun v2 w2 => ∃ x2 : Int, v2 = Value.int .i64 x2 ∧ R (Value.int .i64 x2) w2))
theorem nand_Chip_Erase.sh {c : Option Addr} {block : Int} {w : World} {R : Value → World → Prop} (h : nand_Chip_Erase.body c block w R) :
    CallsR prog K.nand_Chip_Erase #[Value.pointer c, Value.int .i64 block] w R :=
  calls_body follows (f := K.nand_Chip_Erase) Try.func47 ([]) ([])
    (Eq.mp (by kernel_rfl : nand_Chip_Erase.body c block w R = bodyOf prog Try.f47 ([]) ([]) [Value.pointer c, Value.int .i64 block] w R) h)

/-- slices.SortStableFunc[[]carrack/api.Taken,carrack/api.Taken] -/
def slices_SortStableFunc_api_Taken.body (x : Option Addr) (xL xC : Nat) (cmp : Value) (w : World) (R : Value → World → Prop) : Prop :=
  CallsR prog K.slices_stableCmpFunc_api_Taken #[Value.slice x xL xC, Value.int .i64 ((xL : Nat) : Int), cmp] w fun v1 w1 => v1 = Value.tuple #[] ∧ R (Value.tuple #[]) w1
theorem slices_SortStableFunc_api_Taken.sh {x : Option Addr} {xL xC : Nat} {cmp : Value} {w : World} {R : Value → World → Prop} (h : slices_SortStableFunc_api_Taken.body x xL xC cmp w R) :
    CallsR prog K.slices_SortStableFunc_api_Taken #[Value.slice x xL xC, cmp] w R :=
  calls_body follows (f := K.slices_SortStableFunc_api_Taken) Try.func48 ([]) ([])
    (Eq.mp (by kernel_rfl : slices_SortStableFunc_api_Taken.body x xL xC cmp w R = bodyOf prog Try.f48 ([]) ([]) [Value.slice x xL xC, cmp] w R) h)

/-- (*carrack/pool.Pool).Taken$1 -/
def pool_Pool_Taken_1.body (a_Block : Int) (a_Head_Kind : Int) (a_Head_Era : Int) (a_Head_Seq : Int) (a_Bad : Bool) (b_Block : Int) (b_Head_Kind : Int) (b_Head_Era : Int) (b_Head_Seq : Int) (b_Bad : Bool) (w : World) (R : Value → World → Prop) : Prop :=
  ∀ (B1 : Nat) (w1 : World), New w (.cells #[Value.int .i64 a_Block, Value.int .u8 a_Head_Kind, Value.int .u32 a_Head_Era, Value.int .u64 a_Head_Seq, Value.bool a_Bad] T.api_Taken) B1 w1 → ∀ (B2 : Nat) (w2 : World), New w1 (.cells #[Value.int .i64 b_Block, Value.int .u8 b_Head_Kind, Value.int .u32 b_Head_Era, Value.int .u64 b_Head_Seq, Value.bool b_Bad] T.api_Taken) B2 w2 → ∃ x1 : Int, World.cell? w2 (Addr.add (Addr.add ⟨B1, 0, none⟩ 1) 2) = some (Value.int .u64 x1) ∧ ∃ x2 : Int, World.cell? w2 (Addr.add (Addr.add ⟨B2, 0, none⟩ 1) 2) = some (Value.int .u64 x2) ∧ br (decide (x1 < x2)) (R (Value.int .i64 (-1)) w2) (∃ x3 : Int, World.cell? w2 (Addr.add (Addr.add ⟨B1, 0, none⟩ 1) 2) = some (Value.int .u64 x3) ∧ ∃ x4 : Int, World.cell? w2 (Addr.add (Addr.add ⟨B2, 0, none⟩ 1) 2) = some (Value.int .u64 x4) ∧ br (decide (x3 > x4)) (R (Value.int .i64 1) w2) (∃ x5 : Int, World.cell? w2 ⟨B1, 0, none⟩ = some (Value.int .i64 x5) ∧ ∃ x6 : Int, World.cell? w2 ⟨B2, 0, none⟩ = some (Value.int .i64 x6) ∧ R (Value.int .i64 (IntKind.i64.wrap (x5 - x6))) w2))
theorem pool_Pool_Taken_1.sh {a_Block : Int} {a_Head_Kind : Int} {a_Head_Era : Int} {a_Head_Seq : Int} {a_Bad : Bool} {b_Block : Int} {b_Head_Kind : Int} {b_Head_Era : Int} {b_Head_Seq : Int} {b_Bad : Bool} {w : World} {R : Value → World → Prop} (h : pool_Pool_Taken_1.body a_Block a_Head_Kind a_Head_Era a_Head_Seq a_Bad b_Block b_Head_Kind b_Head_Era b_Head_Seq b_Bad w R) :
    CallsR prog K.pool_Pool_Taken_1 #[Value.agg #[Value.int .i64 a_Block, Value.int .u8 a_Head_Kind, Value.int .u32 a_Head_Era, Value.int .u64 a_Head_Seq, Value.bool a_Bad], Value.agg #[Value.int .i64 b_Block, Value.int .u8 b_Head_Kind, Value.int .u32 b_Head_Era, Value.int .u64 b_Head_Seq, Value.bool b_Bad]] w R :=
  calls_body follows (f := K.pool_Pool_Taken_1) Try.func49 ([]) ([])
    (Eq.mp (by kernel_rfl : pool_Pool_Taken_1.body a_Block a_Head_Kind a_Head_Era a_Head_Seq a_Bad b_Block b_Head_Kind b_Head_Era b_Head_Seq b_Bad w R = bodyOf prog Try.f49 ([]) ([]) [Value.agg #[Value.int .i64 a_Block, Value.int .u8 a_Head_Kind, Value.int .u32 a_Head_Era, Value.int .u64 a_Head_Seq, Value.bool a_Bad], Value.agg #[Value.int .i64 b_Block, Value.int .u8 b_Head_Kind, Value.int .u32 b_Head_Era, Value.int .u64 b_Head_Seq, Value.bool b_Bad]] w R) h)

/-- (*carrack/nand.Chip).Program -/
def nand_Chip_Program.body (c : Option Addr) (block : Int) (page : Int) (b : Option Addr) (bL bC : Nat) (w : World) (R : Value → World → Prop) : Prop :=
  ∀ (B1 : Nat) (w1 : World), New w (.cells #[Value.slice b bL bC] T.L_uint8) B1 w1 → CallsR prog K.nand_Chip_ask #[Value.pointer c, Value.int .i64 block, Value.int .i64 page] w1 fun v1 w2 => ∃ x1 : Int, v1 = Value.int .i64 x1 ∧ br (x1 != 0) (R (Value.int .i64 x1) w2) (∀ w3 : World, Drew w2 w3 → ∃ S1 : World → Prop, S1 w3 ∧ ∃ (a1 : Option Addr) (l1 c1 : Nat), (∀ u1, S1 u1 → World.cell? u1 ⟨B1, 0, none⟩ = some (Value.slice a1 l1 c1)) ∧ nilC c fun q1 => ∃ x2 : Int, (∀ u2, S1 u2 → World.cell? u2 (Addr.add q1 2) = some (Value.int .i64 x2)) ∧ br (((l1 : Nat) : Int) != x2) (R (Value.int .i64 2) w3) (nilC c fun q2 => ∃ (a2 : Option Addr) (l2 c2 : Nat), World.cell? w3 (Addr.add q2 5) = some (Value.slice a2 l2 c2) ∧ idxP a2 l2 block 1 fun q3 => ∃ b1 : Bool, World.cell? w3 q3 = some (Value.bool b1) ∧ br b1 (R (Value.int .i64 9) w3) (∀ w4 : World, Drew w3 w4 → ∃ S2 : World → Prop, S2 w4 ∧ nilC c fun q4 => ∃ (a3 : Option Addr) (l3 c3 : Nat), (∀ u3, S2 u3 → World.cell? u3 (Addr.add q4 4) = some (Value.slice a3 l3 c3)) ∧ idxP a3 l3 block 1 fun q5 => ∃ (a4 : Option Addr) (l4 c4 : Nat), (∀ u4, S2 u4 → World.cell? u4 q5 = some (Value.slice a4 l4 c4)) ∧ nilC c fun q6 => ∃ x3 : Int, (∀ u5, S2 u5 → World.cell? u5 (Addr.add q6 2) = some (Value.int .i64 x3)) ∧ sliceP 1 a4 l4 c4 (some (IntKind.i64.wrap (page * x3))) none none fun a5 l5 c5 => CallsR prog K.seal_Blank #[Value.slice a5 l5 c5] w4 fun v2 w5 => ∃ b2 : Bool, v2 = Value.bool b2 ∧ S2 w5 ∧ br (!b2) (R (Value.int .i64 8) w5) (CallsR prog K.nand_Chip_page #[Value.pointer c, Value.int .i64 block, Value.int .i64 page] w5 fun v3 w6 => ∃ (a6 : Option Addr) (l6 c6 : Nat), v3 = Value.slice a6 l6 c6 ∧ CallsR prog K.nand_Chip_done #[Value.pointer c, Value.int .i64 block, Value.slice a6 l6 c6, Value.func (.func K.nand_Chip_Program_1) #[] #[Value.pointer (some ⟨B1, 0, none⟩)]] w6 fun v4 w7 => ∃ x4 : Int, v4 = Value.int .i64 x4 ∧ R (Value.int .i64 x4) w7))))
theorem nand_Chip_Program.sh {c : Option Addr} {block : Int} {page : Int} {b : Option Addr} {bL bC : Nat} {w : World} {R : Value → World → Prop} (h : nand_Chip_Program.body c block page b bL bC w R) :
    CallsR prog K.nand_Chip_Program #[Value.pointer c, Value.int .i64 block, Value.int .i64 page, Value.slice b bL bC] w R :=
  calls_body follows (f := K.nand_Chip_Program) Try.func50 ([]) ([])
    (Eq.mp (by kernel_rfl : nand_Chip_Program.body c block page b bL bC w R = bodyOf prog Try.f50 ([]) ([]) [Value.pointer c, Value.int .i64 block, Value.int .i64 page, Value.slice b bL bC] w R) h)

/-- carrack/carracklaw04.alive -/
def carracklaw04_alive.body (c : Option Addr) (w : World) (R : Value → World → Prop) : Prop :=
  CallsR prog K.nand_Chip_Read #[Value.pointer c, Value.int .i64 0, Value.int .i64 0] w fun v1 w1 => ∃ (a1 : Option Addr) (l1 c1 : Nat), ∃ x1 : Int, v1 = Value.tuple #[Value.slice a1 l1 c1, Value.int .i64 x1] ∧ R (Value.bool (x1 == 0)) w1
theorem carracklaw04_alive.sh {c : Option Addr} {w : World} {R : Value → World → Prop} (h : carracklaw04_alive.body c w R) :
    CallsR prog K.carracklaw04_alive #[Value.pointer c] w R :=
  calls_body follows (f := K.carracklaw04_alive) Try.func51 ([]) ([])
    (Eq.mp (by kernel_rfl : carracklaw04_alive.body c w R = bodyOf prog Try.f51 ([]) ([]) [Value.pointer c] w R) h)

/-- carrack/carracklaw04.step -/
def carracklaw04_step.body (y0a : Option Addr) (y1a : Option Addr) (y2a_Do : Int) (y2a_Kind : Int) (y2a_Era : Int) (y2a_Block : Int) (y2a_Page : Int) (y2a_Fill : Int) (w : World) (R : Value → World → Prop) : Prop :=
  ∀ (B1 : Nat) (w1 : World), New w (.cells #[Value.int .i64 y2a_Do, Value.int .u8 y2a_Kind, Value.int .u32 y2a_Era, Value.int .i64 y2a_Block, Value.int .i64 y2a_Page, Value.int .u8 y2a_Fill] T.carracklaw04_Act) B1 w1 → CallsR prog K.carrackref04_Taken #[Value.pointer y1a] w1 fun v1 w2 => ∃ (a1 : Option Addr) (l1 c1 : Nat), v1 = Value.slice a1 l1 c1 ∧ CallsR prog K.pool_Pool_Last #[Value.pointer y0a] w2 fun v2 w3 => ∃ x1 : Int, v2 = Value.int .u64 x1 ∧ ∃ x2 : Int, World.cell? w3 ⟨B1, 0, none⟩ = some (Value.int .i64 x2) ∧ br (x2 == 1) (∃ x3 : Int, World.cell? w3 (Addr.add ⟨B1, 0, none⟩ 1) = some (Value.int .u8 x3) ∧ ∃ x4 : Int, World.cell? w3 (Addr.add ⟨B1, 0, none⟩ 2) = some (Value.int .u32 x4) ∧ CallsR prog K.pool_Pool_Take #[Value.pointer y0a, Value.int .u8 x3, Value.int .u32 x4] w3 fun v3 w4 => ∃ x5 : Int, ∃ x6 : Int, v3 = Value.tuple #[Value.int .i64 x5, Value.int .i64 x6] ∧ br (x6 == 10) (R (Value.bool true) w4) (∃ J1 : World → Prop, (∃ x7 : Int, World.cell? w4 (Addr.add ⟨B1, 0, none⟩ 1) = some (Value.int .u8 x7) ∧ br (decide (x7 < 1)) (R (Value.bool (x6 == 2)) w4) (∃ x8 : Int, World.cell? w4 (Addr.add ⟨B1, 0, none⟩ 1) = some (Value.int .u8 x8) ∧ br (decide (x8 > 3)) (R (Value.bool (x6 == 2)) w4) (∃ x9 : Int, World.cell? w4 (Addr.add ⟨B1, 0, none⟩ 2) = some (Value.int .u32 x9) ∧ br (x9 == 0) (R (Value.bool (x6 == 2)) w4) (J1 w4)))) ∧ (∀ w5 : World, J1 w5 → br (x6 == 11) (CallsR prog K.carrackref04_Blanks #[Value.pointer y1a] w5 fun v4 w6 => ∃ x10 : Int, v4 = Value.int .i64 x10 ∧ R (Value.bool (x10 == 0)) w6) (CallsR prog K.carrackref04_Head #[Value.pointer y1a, Value.int .i64 x5] w5 fun v5 w7 => ∃ x11 : Int, ∃ x12 : Int, ∃ x13 : Int, ∃ b1 : Bool, v5 = Value.tuple #[Value.agg #[Value.int .u8 x11, Value.int .u32 x12, Value.int .u64 x13], Value.bool b1] ∧ ∀ (B2 : Nat) (w8 : World), New w7 (.cells #[Value.int .u8 0, Value.int .u32 0, Value.int .u64 0] T.api_Head) B2 w8 → storeP w8 ⟨B2, 0, none⟩ [Value.int .u8 x11, Value.int .u32 x12, Value.int .u64 x13] fun w9 => ∃ (J2 : Int → World → Prop) (μ1 : Int → World → Nat), J2 0 w9 ∧ ∀ x14 : Int, ∀ w10 : World, J2 x14 w10 → br (decide (x14 < ((l1 : Nat) : Int))) (idxP a1 l1 x14 5 fun q1 => ∃ x15 : Int, World.cell? w10 q1 = some (Value.int .i64 x15) ∧ br (x15 == x5) (R (Value.bool false) w10) (J2 (IntKind.i64.wrap (x14 + 1)) w10 ∧ μ1 (IntKind.i64.wrap (x14 + 1)) w10 < μ1 x14 w10)) (∀ w11 : World, Drew w10 w11 → ∃ S1 : World → Prop, S1 w11 ∧ br (x6 == 0) (br b1 (CallsR prog K.nand_Chip_Bad #[Value.pointer y1a, Value.int .i64 x5] w11 fun v6 w12 => ∃ b2 : Bool, v6 = Value.bool b2 ∧ S1 w12 ∧ br (!b2) (∃ x16 : Int, (∀ u1, S1 u1 → World.cell? u1 ⟨B2, 0, none⟩ = some (Value.int .u8 x16)) ∧ ∃ x17 : Int, (∀ u2, S1 u2 → World.cell? u2 (Addr.add ⟨B1, 0, none⟩ 1) = some (Value.int .u8 x17)) ∧ br (x16 == x17) (∃ x18 : Int, (∀ u3, S1 u3 → World.cell? u3 (Addr.add ⟨B2, 0, none⟩ 1) = some (Value.int .u32 x18)) ∧ ∃ x19 : Int, (∀ u4, S1 u4 → World.cell? u4 (Addr.add ⟨B1, 0, none⟩ 2) = some (Value.int .u32 x19)) ∧ br (x18 == x19) (∃ x20 : Int, (∀ u5, S1 u5 → World.cell? u5 (Addr.add ⟨B2, 0, none⟩ 2) = some (Value.int .u64 x20)) ∧ CallsR prog K.pool_Pool_Last #[Value.pointer y0a] w12 fun v7 w13 => ∃ x21 : Int, v7 = Value.int .u64 x21 ∧ S1 w13 ∧ br (x20 == x21) (∃ x22 : Int, (∀ u6, S1 u6 → World.cell? u6 (Addr.add ⟨B2, 0, none⟩ 2) = some (Value.int .u64 x22)) ∧ R (Value.bool (decide (x22 > x1))) w13) (R (Value.bool false) w13)) (S1 w12 ∧ R (Value.bool false) w12)) (S1 w12 ∧ R (Value.bool false) w12)) (S1 w12 ∧ R (Value.bool false) w12)) (S1 w11 ∧ S1 w11 ∧ R (Value.bool false) w11)) (S1 w11 ∧ S1 w11 ∧ R (Value.bool false) w11)))))) (br (x2 == 2) (∃ (J3 : Bool → Int → World → Prop) (μ2 : Bool → Int → World → Nat), J3 false 0 w3 ∧ ∀ b3 : Bool, ∀ x23 : Int, ∀ w14 : World, J3 b3 x23 w14 → br (decide (x23 < ((l1 : Nat) : Int))) (∃ J4 : Bool → World → Prop, (∀ w15 : World, Drew w14 w15 → ∃ S2 : World → Prop, S2 w15 ∧ br b3 (J4 true w15) (idxP a1 l1 x23 5 fun q2 => ∃ x24 : Int, (∀ u7, S2 u7 → World.cell? u7 q2 = some (Value.int .i64 x24)) ∧ ∃ x25 : Int, (∀ u8, S2 u8 → World.cell? u8 (Addr.add ⟨B1, 0, none⟩ 3) = some (Value.int .i64 x25)) ∧ br (x24 == x25) (idxP a1 l1 x23 5 fun q3 => ∃ b4 : Bool, (∀ u9, S2 u9 → World.cell? u9 (Addr.add q3 4) = some (Value.bool b4)) ∧ J4 (!b4) w15) (J4 false w15))) ∧ (∀ b5 : Bool, ∀ w16 : World, J4 b5 w16 → J3 b5 (IntKind.i64.wrap (x23 + 1)) w16 ∧ μ2 b5 (IntKind.i64.wrap (x23 + 1)) w16 < μ2 b3 x23 w14)) (∃ x26 : Int, World.cell? w14 (Addr.add ⟨B1, 0, none⟩ 3) = some (Value.int .i64 x26) ∧ CallsR prog K.pool_Pool_Free #[Value.pointer y0a, Value.int .i64 x26] w14 fun v8 w17 => ∃ x27 : Int, v8 = Value.int .i64 x27 ∧ br (x27 == 10) (R (Value.bool b3) w17) (br (!b3) (R (Value.bool (x27 == 12)) w17) (∃ x28 : Int, World.cell? w17 (Addr.add ⟨B1, 0, none⟩ 3) = some (Value.int .i64 x28) ∧ CallsR prog K.carrackref04_Head #[Value.pointer y1a, Value.int .i64 x28] w17 fun v9 w18 => ∃ x29 : Int, ∃ x30 : Int, ∃ x31 : Int, ∃ b6 : Bool, v9 = Value.tuple #[Value.agg #[Value.int .u8 x29, Value.int .u32 x30, Value.int .u64 x31], Value.bool b6] ∧ ∀ (B3 : Nat) (w19 : World), New w18 (.cells #[Value.int .u8 0, Value.int .u32 0, Value.int .u64 0] T.api_Head) B3 w19 → storeP w19 ⟨B3, 0, none⟩ [Value.int .u8 x29, Value.int .u32 x30, Value.int .u64 x31] fun w20 => br (x27 == 0) (br (!b6) (R (Value.bool true) w20) (∃ x32 : Int, World.cell? w20 (Addr.add ⟨B1, 0, none⟩ 3) = some (Value.int .i64 x32) ∧ CallsR prog K.nand_Chip_Bad #[Value.pointer y1a, Value.int .i64 x32] w20 fun v10 w21 => ∃ b7 : Bool, v10 = Value.bool b7 ∧ R (Value.bool b7) w21)) (R (Value.bool false) w20))))) (R (Value.bool true) w3))
theorem carracklaw04_step.sh {y0a : Option Addr} {y1a : Option Addr} {y2a_Do : Int} {y2a_Kind : Int} {y2a_Era : Int} {y2a_Block : Int} {y2a_Page : Int} {y2a_Fill : Int} {w : World} {R : Value → World → Prop} (h : carracklaw04_step.body y0a y1a y2a_Do y2a_Kind y2a_Era y2a_Block y2a_Page y2a_Fill w R) :
    CallsR prog K.carracklaw04_step #[Value.pointer y0a, Value.pointer y1a, Value.agg #[Value.int .i64 y2a_Do, Value.int .u8 y2a_Kind, Value.int .u32 y2a_Era, Value.int .i64 y2a_Block, Value.int .i64 y2a_Page, Value.int .u8 y2a_Fill]] w R :=
  calls_body follows (f := K.carracklaw04_step) Try.func52 ([(10, [0, 1, 5, 7, 8, 9, 10], [], []), (23, [0, 1, 5, 7, 15], [14], [Value.bool false])]) ([(14, [0, 1, 5, 7, 8, 9, 10, 11, 12], [13], [Value.int .i64 0]), (22, [0, 1, 5, 7], [14, 15], [Value.bool false, Value.int .i64 0])])
    (Eq.mp (by kernel_rfl : carracklaw04_step.body y0a y1a y2a_Do y2a_Kind y2a_Era y2a_Block y2a_Page y2a_Fill w R = bodyOf prog Try.f52 ([(10, [0, 1, 5, 7, 8, 9, 10], [], []), (23, [0, 1, 5, 7, 15], [14], [Value.bool false])]) ([(14, [0, 1, 5, 7, 8, 9, 10, 11, 12], [13], [Value.int .i64 0]), (22, [0, 1, 5, 7], [14, 15], [Value.bool false, Value.int .i64 0])]) [Value.pointer y0a, Value.pointer y1a, Value.agg #[Value.int .i64 y2a_Do, Value.int .u8 y2a_Kind, Value.int .u32 y2a_Era, Value.int .i64 y2a_Block, Value.int .i64 y2a_Page, Value.int .u8 y2a_Fill]] w R) h)

/-- (*carrack/nand.Chip).off -/
def nand_Chip_off.body (c : Option Addr) (w : World) (R : Value → World → Prop) : Prop :=
  br (Option.isNone c) (R (Value.bool true) w) (nilC c fun q1 => ∃ (a1 : Option Addr) (l1 c1 : Nat), World.cell? w (Addr.add q1 4) = some (Value.slice a1 l1 c1) ∧ R (Value.bool (Option.isNone a1)) w)
theorem nand_Chip_off.sh {c : Option Addr} {w : World} {R : Value → World → Prop} (h : nand_Chip_off.body c w R) :
    CallsR prog K.nand_Chip_off #[Value.pointer c] w R :=
  calls_body follows (f := K.nand_Chip_off) Try.func53 ([]) ([])
    (Eq.mp (by kernel_rfl : nand_Chip_off.body c w R = bodyOf prog Try.f53 ([]) ([]) [Value.pointer c] w R) h)

/-- slices.Clone[[]bool,bool] -/
def slices_Clone_bool.body (s : Option Addr) (sL sC : Nat) (w : World) (R : Value → World → Prop) : Prop :=
  br (Option.isNone s) (R (Value.slice none 0 0) w) (∀ (B1 : Nat) (w1 : World), New w (.cells #[] T.bool) B1 w1 → appendP T.bool 1 1 [Value.bool false] (some ⟨B1, 0, none⟩) 0 0 (Value.slice s sL sC) w1 fun a1 l1 c1 w2 => R (Value.slice a1 l1 c1) w2)
theorem slices_Clone_bool.sh {s : Option Addr} {sL sC : Nat} {w : World} {R : Value → World → Prop} (h : slices_Clone_bool.body s sL sC w R) :
    CallsR prog K.slices_Clone_bool #[Value.slice s sL sC] w R :=
  calls_body follows (f := K.slices_Clone_bool) Try.func54 ([]) ([])
    (Eq.mp (by kernel_rfl : slices_Clone_bool.body s sL sC w R = bodyOf prog Try.f54 ([]) ([]) [Value.slice s sL sC] w R) h)

/-- slices.Clone[[]byte,byte] -/
def slices_Clone_byte.body (s : Option Addr) (sL sC : Nat) (w : World) (R : Value → World → Prop) : Prop :=
  br (Option.isNone s) (R (Value.slice none 0 0) w) (∀ (B1 : Nat) (w1 : World), New w (.cells #[] T.uint8) B1 w1 → appendP T.uint8 1 1 [Value.int .u8 0] (some ⟨B1, 0, none⟩) 0 0 (Value.slice s sL sC) w1 fun a1 l1 c1 w2 => R (Value.slice a1 l1 c1) w2)
theorem slices_Clone_byte.sh {s : Option Addr} {sL sC : Nat} {w : World} {R : Value → World → Prop} (h : slices_Clone_byte.body s sL sC w R) :
    CallsR prog K.slices_Clone_byte #[Value.slice s sL sC] w R :=
  calls_body follows (f := K.slices_Clone_byte) Try.func55 ([]) ([])
    (Eq.mp (by kernel_rfl : slices_Clone_byte.body s sL sC w R = bodyOf prog Try.f55 ([]) ([]) [Value.slice s sL sC] w R) h)

/-- slices.ContainsFunc[[]carrack/api.Hit,carrack/api.Hit] -/
def slices_ContainsFunc_api_Hit.body (s : Option Addr) (sL sC : Nat) (f : Value) (w : World) (R : Value → World → Prop) : Prop :=
  CallsR prog K.slices_IndexFunc_api_Hit #[Value.slice s sL sC, f] w fun v1 w1 => ∃ x1 : Int, v1 = Value.int .i64 x1 ∧ R (Value.bool (decide (x1 ≥ 0))) w1
theorem slices_ContainsFunc_api_Hit.sh {s : Option Addr} {sL sC : Nat} {f : Value} {w : World} {R : Value → World → Prop} (h : slices_ContainsFunc_api_Hit.body s sL sC f w R) :
    CallsR prog K.slices_ContainsFunc_api_Hit #[Value.slice s sL sC, f] w R :=
  calls_body follows (f := K.slices_ContainsFunc_api_Hit) Try.func56 ([]) ([])
    (Eq.mp (by kernel_rfl : slices_ContainsFunc_api_Hit.body s sL sC f w R = bodyOf prog Try.f56 ([]) ([]) [Value.slice s sL sC, f] w R) h)

/-- (*carrack/nand.Chip).Hits$1 -/
def nand_Chip_Hits_1.body (h_After : Int) (h_Fails : Bool) (h_Mask : Option Addr) (h_MaskL h_MaskC : Nat) (w : World) (R : Value → World → Prop) : Prop :=
  ∀ (B1 : Nat) (w1 : World), New w (.cells #[Value.int .i64 h_After, Value.bool h_Fails, Value.slice h_Mask h_MaskL h_MaskC] T.api_Hit) B1 w1 → ∃ x1 : Int, World.cell? w1 ⟨B1, 0, none⟩ = some (Value.int .i64 x1) ∧ R (Value.bool (decide (x1 < 0))) w1
theorem nand_Chip_Hits_1.sh {h_After : Int} {h_Fails : Bool} {h_Mask : Option Addr} {h_MaskL h_MaskC : Nat} {w : World} {R : Value → World → Prop} (h : nand_Chip_Hits_1.body h_After h_Fails h_Mask h_MaskL h_MaskC w R) :
    CallsR prog K.nand_Chip_Hits_1 #[Value.agg #[Value.int .i64 h_After, Value.bool h_Fails, Value.slice h_Mask h_MaskL h_MaskC]] w R :=
  calls_body follows (f := K.nand_Chip_Hits_1) Try.func57 ([]) ([])
    (Eq.mp (by kernel_rfl : nand_Chip_Hits_1.body h_After h_Fails h_Mask h_MaskL h_MaskC w R = bodyOf prog Try.f57 ([]) ([]) [Value.agg #[Value.int .i64 h_After, Value.bool h_Fails, Value.slice h_Mask h_MaskL h_MaskC]] w R) h)

/-- carrack/carrackref04.Taken -/
def carrackref04_Taken.body (c : Option Addr) (w : World) (R : Value → World → Prop) : Prop :=
  ∃ (J1 : Option Addr → Nat → Nat → Int → World → Prop) (μ1 : Option Addr → Nat → Nat → Int → World → Nat), J1 none 0 0 0 w ∧ ∀ (a1 : Option Addr) (l1 c1 : Nat), ∀ x1 : Int, ∀ w1 : World, J1 a1 l1 c1 x1 w1 → CallsR prog K.nand_Chip_Geo #[Value.pointer c] w1 fun v1 w2 => ∃ x2 : Int, ∃ x3 : Int, ∃ x4 : Int, ∃ x5 : Int, v1 = Value.agg #[Value.int .i64 x2, Value.int .i64 x3, Value.int .i64 x4, Value.int .i64 x5] ∧ br (decide (x1 < x2)) (CallsR prog K.carrackref04_Head #[Value.pointer c, Value.int .i64 x1] w2 fun v2 w3 => ∃ x6 : Int, ∃ x7 : Int, ∃ x8 : Int, ∃ b1 : Bool, v2 = Value.tuple #[Value.agg #[Value.int .u8 x6, Value.int .u32 x7, Value.int .u64 x8], Value.bool b1] ∧ ∀ (B1 : Nat) (w4 : World), New w3 (.cells #[Value.int .u8 0, Value.int .u32 0, Value.int .u64 0] T.api_Head) B1 w4 → storeP w4 ⟨B1, 0, none⟩ [Value.int .u8 x6, Value.int .u32 x7, Value.int .u64 x8] fun w5 => br (!b1) (J1 a1 l1 c1 (IntKind.i64.wrap (x1 + 1)) w5 ∧ μ1 a1 l1 c1 (IntKind.i64.wrap (x1 + 1)) w5 < μ1 a1 l1 c1 x1 w1) (∃ (J2 : Int → World → Prop) (μ2 : Int → World → Nat), J2 0 w5 ∧ ∀ x9 : Int, ∀ w6 : World, J2 x9 w6 → ∀ w7 : World, Drew w6 w7 → ∃ S1 : World → Prop, S1 w7 ∧ br (decide (x9 < ((l1 : Nat) : Int))) (idxP a1 l1 x9 5 fun q1 => ∃ x10 : Int, (∀ u1, S1 u1 → World.cell? u1 (Addr.add (Addr.add q1 1) 2) = some (Value.int .u64 x10)) ∧ ∃ x11 : Int, (∀ u2, S1 u2 → World.cell? u2 (Addr.add ⟨B1, 0, none⟩ 2) = some (Value.int .u64 x11)) ∧ br (decide (x10 ≤ x11)) (J2 (IntKind.i64.wrap (x9 + 1)) w7 ∧ μ2 (IntKind.i64.wrap (x9 + 1)) w7 < μ2 x9 w6) (sliceP 5 a1 l1 c1 none (some x9) none fun a2 l2 c2 => appendP T.api_Taken 5 32 [Value.int .i64 0, Value.int .u8 0, Value.int .u32 0, Value.int .u64 0, Value.bool false] none 0 0 (Value.slice a2 l2 c2) w7 fun a3 l3 c3 w8 => ∀ w9 : World, Drew w8 w9 → ∃ S2 : World → Prop, S2 w9 ∧ ∃ x12 : Int, ∃ x13 : Int, ∃ x14 : Int, (∀ u3, S2 u3 → cellsAt u3 ⟨B1, 0, none⟩ [Value.int .u8 x12, Value.int .u32 x13, Value.int .u64 x14] 0) ∧ CallsR prog K.nand_Chip_Bad #[Value.pointer c, Value.int .i64 x1] w9 fun v3 w10 => ∃ b2 : Bool, v3 = Value.bool b2 ∧ S2 w10 ∧ ∀ (B2 : Nat) (w11 : World), New w10 (.cells #[Value.int .i64 x1, Value.int .u8 x12, Value.int .u32 x13, Value.int .u64 x14, Value.bool b2] T.api_Taken) B2 w11 → S2 w11 ∧ appendP T.api_Taken 5 32 [Value.int .i64 0, Value.int .u8 0, Value.int .u32 0, Value.int .u64 0, Value.bool false] a3 l3 c3 (Value.slice (some ⟨B2, 0, none⟩) 1 1) w11 fun a4 l4 c4 w12 => S2 w12 ∧ sliceP 5 a1 l1 c1 (some x9) none none fun a5 l5 c5 => appendP T.api_Taken 5 32 [Value.int .i64 0, Value.int .u8 0, Value.int .u32 0, Value.int .u64 0, Value.bool false] a4 l4 c4 (Value.slice a5 l5 c5) w12 fun a6 l6 c6 w13 => J1 a6 l6 c6 (IntKind.i64.wrap (x1 + 1)) w13 ∧ μ1 a6 l6 c6 (IntKind.i64.wrap (x1 + 1)) w13 < μ1 a1 l1 c1 x1 w1)) (sliceP 5 a1 l1 c1 none (some x9) none fun a7 l7 c7 => appendP T.api_Taken 5 32 [Value.int .i64 0, Value.int .u8 0, Value.int .u32 0, Value.int .u64 0, Value.bool false] none 0 0 (Value.slice a7 l7 c7) w7 fun a8 l8 c8 w14 => ∀ w15 : World, Drew w14 w15 → ∃ S3 : World → Prop, S3 w15 ∧ ∃ x15 : Int, ∃ x16 : Int, ∃ x17 : Int, (∀ u4, S3 u4 → cellsAt u4 ⟨B1, 0, none⟩ [Value.int .u8 x15, Value.int .u32 x16, Value.int .u64 x17] 0) ∧ CallsR prog K.nand_Chip_Bad #[Value.pointer c, Value.int .i64 x1] w15 fun v4 w16 => ∃ b3 : Bool, v4 = Value.bool b3 ∧ S3 w16 ∧ ∀ (B3 : Nat) (w17 : World), New w16 (.cells #[Value.int .i64 x1, Value.int .u8 x15, Value.int .u32 x16, Value.int .u64 x17, Value.bool b3] T.api_Taken) B3 w17 → S3 w17 ∧ appendP T.api_Taken 5 32 [Value.int .i64 0, Value.int .u8 0, Value.int .u32 0, Value.int .u64 0, Value.bool false] a8 l8 c8 (Value.slice (some ⟨B3, 0, none⟩) 1 1) w17 fun a9 l9 c9 w18 => S3 w18 ∧ sliceP 5 a1 l1 c1 (some x9) none none fun a10 l10 c10 => appendP T.api_Taken 5 32 [Value.int .i64 0, Value.int .u8 0, Value.int .u32 0, Value.int .u64 0, Value.bool false] a9 l9 c9 (Value.slice a10 l10 c10) w18 fun a11 l11 c11 w19 => J1 a11 l11 c11 (IntKind.i64.wrap (x1 + 1)) w19 ∧ μ1 a11 l11 c11 (IntKind.i64.wrap (x1 + 1)) w19 < μ1 a1 l1 c1 x1 w1))) (R (Value.slice a1 l1 c1) w2)
theorem carrackref04_Taken.sh {c : Option Addr} {w : World} {R : Value → World → Prop} (h : carrackref04_Taken.body c w R) :
    CallsR prog K.carrackref04_Taken #[Value.pointer c] w R :=
  calls_body follows (f := K.carrackref04_Taken) Try.func58 ([]) ([(3, [0], [3, 4], [Value.slice none 0 0, Value.int .i64 0]), (8, [0, 3, 4, 5], [7], [Value.int .i64 0])])
    (Eq.mp (by kernel_rfl : carrackref04_Taken.body c w R = bodyOf prog Try.f58 ([]) ([(3, [0], [3, 4], [Value.slice none 0 0, Value.int .i64 0]), (8, [0, 3, 4, 5], [7], [Value.int .i64 0])]) [Value.pointer c] w R) h)

/-- carrack/carrackref04.Blanks -/
def carrackref04_Blanks.body (c : Option Addr) (w : World) (R : Value → World → Prop) : Prop :=
  ∃ (J1 : Int → Int → World → Prop) (μ1 : Int → Int → World → Nat), J1 0 0 w ∧ ∀ x1 : Int, ∀ x2 : Int, ∀ w1 : World, J1 x1 x2 w1 → CallsR prog K.nand_Chip_Geo #[Value.pointer c] w1 fun v1 w2 => ∃ x3 : Int, ∃ x4 : Int, ∃ x5 : Int, ∃ x6 : Int, v1 = Value.agg #[Value.int .i64 x3, Value.int .i64 x4, Value.int .i64 x5, Value.int .i64 x6] ∧ br (decide (x2 < x3)) (CallsR prog K.carrackref04_Head #[Value.pointer c, Value.int .i64 x2] w2 fun v2 w3 => ∃ x7 : Int, ∃ x8 : Int, ∃ x9 : Int, ∃ b1 : Bool, v2 = Value.tuple #[Value.agg #[Value.int .u8 x7, Value.int .u32 x8, Value.int .u64 x9], Value.bool b1] ∧ ∀ (B1 : Nat) (w4 : World), New w3 (.cells #[Value.int .u8 0, Value.int .u32 0, Value.int .u64 0] T.api_Head) B1 w4 → storeP w4 ⟨B1, 0, none⟩ [Value.int .u8 x7, Value.int .u32 x8, Value.int .u64 x9] fun w5 => br (!b1) (CallsR prog K.nand_Chip_Bad #[Value.pointer c, Value.int .i64 x2] w5 fun v3 w6 => ∃ b2 : Bool, v3 = Value.bool b2 ∧ br (!b2) (J1 (IntKind.i64.wrap (x1 + 1)) (IntKind.i64.wrap (x2 + 1)) w6 ∧ μ1 (IntKind.i64.wrap (x1 + 1)) (IntKind.i64.wrap (x2 + 1)) w6 < μ1 x1 x2 w1) (J1 x1 (IntKind.i64.wrap (x2 + 1)) w6 ∧ μ1 x1 (IntKind.i64.wrap (x2 + 1)) w6 < μ1 x1 x2 w1)) (J1 x1 (IntKind.i64.wrap (x2 + 1)) w5 ∧ μ1 x1 (IntKind.i64.wrap (x2 + 1)) w5 < μ1 x1 x2 w1)) (R (Value.int .i64 x1) w2)
theorem carrackref04_Blanks.sh {c : Option Addr} {w : World} {R : Value → World → Prop} (h : carrackref04_Blanks.body c w R) :
    CallsR prog K.carrackref04_Blanks #[Value.pointer c] w R :=
  calls_body follows (f := K.carrackref04_Blanks) Try.func59 ([]) ([(3, [0], [3, 4], [Value.int .i64 0, Value.int .i64 0])])
    (Eq.mp (by kernel_rfl : carrackref04_Blanks.body c w R = bodyOf prog Try.f59 ([]) ([(3, [0], [3, 4], [Value.int .i64 0, Value.int .i64 0])]) [Value.pointer c] w R) h)

/-- carrack/carrackref04.Last -/
def carrackref04_Last.body (c : Option Addr) (w : World) (R : Value → World → Prop) : Prop :=
  CallsR prog K.carrackref04_Taken #[Value.pointer c] w fun v1 w1 => ∃ (a1 : Option Addr) (l1 c1 : Nat), v1 = Value.slice a1 l1 c1 ∧ ∃ (J1 : Int → Int → World → Prop) (μ1 : Int → Int → World → Nat), J1 0 0 w1 ∧ ∀ x1 : Int, ∀ x2 : Int, ∀ w2 : World, J1 x1 x2 w2 → br (decide (x2 < ((l1 : Nat) : Int))) (idxP a1 l1 x2 5 fun q1 => ∃ x3 : Int, World.cell? w2 (Addr.add (Addr.add q1 1) 2) = some (Value.int .u64 x3) ∧ J1 (if x3 > x1 then x3 else x1) (IntKind.i64.wrap (x2 + 1)) w2 ∧ μ1 (if x3 > x1 then x3 else x1) (IntKind.i64.wrap (x2 + 1)) w2 < μ1 x1 x2 w2) (R (Value.int .u64 x1) w2)
theorem carrackref04_Last.sh {c : Option Addr} {w : World} {R : Value → World → Prop} (h : carrackref04_Last.body c w R) :
    CallsR prog K.carrackref04_Last #[Value.pointer c] w R :=
  calls_body follows (f := K.carrackref04_Last) Try.func60 ([]) ([(4, [4], [3, 5], [Value.int .u64 0, Value.int .i64 0])])
    (Eq.mp (by kernel_rfl : carrackref04_Last.body c w R = bodyOf prog Try.f60 ([]) ([(4, [4], [3, 5], [Value.int .u64 0, Value.int .i64 0])]) [Value.pointer c] w R) h)

/-- carrack/ends.isSize -/
def ends_isSize.body (n : Int) (w : World) (R : Value → World → Prop) : Prop :=
  br (n == 1) (R (Value.bool true) w) (br (n == 2) (R (Value.bool true) w) (br (n == 4) (R (Value.bool true) w) (R (Value.bool (n == 8)) w)))
theorem ends_isSize.sh {n : Int} {w : World} {R : Value → World → Prop} (h : ends_isSize.body n w R) :
    CallsR prog K.ends_isSize #[Value.int .i64 n] w R :=
  calls_body follows (f := K.ends_isSize) Try.func61 ([]) ([])
    (Eq.mp (by kernel_rfl : ends_isSize.body n w R = bodyOf prog Try.f61 ([]) ([]) [Value.int .i64 n] w R) h)

/-- carrack/seal.isSize -/
def seal_isSize.body (n : Int) (w : World) (R : Value → World → Prop) : Prop :=
  br (decide (n ≥ 128)) (R (Value.bool (decide (n ≤ 256))) w) (R (Value.bool false) w)
theorem seal_isSize.sh {n : Int} {w : World} {R : Value → World → Prop} (h : seal_isSize.body n w R) :
    CallsR prog K.seal_isSize #[Value.int .i64 n] w R :=
  calls_body follows (f := K.seal_isSize) Try.func62 ([]) ([])
    (Eq.mp (by kernel_rfl : seal_isSize.body n w R = bodyOf prog Try.f62 ([]) ([]) [Value.int .i64 n] w R) h)

/-- carrack/seal.Body -/
def seal_Body.body (size : Int) (w : World) (R : Value → World → Prop) : Prop :=
  CallsR prog K.seal_isSize #[Value.int .i64 size] w fun v1 w1 => ∃ b1 : Bool, v1 = Value.bool b1 ∧ br (!b1) (R (Value.int .i64 0) w1) (R (Value.int .i64 (IntKind.i64.wrap (size - 5))) w1)
theorem seal_Body.sh {size : Int} {w : World} {R : Value → World → Prop} (h : seal_Body.body size w R) :
    CallsR prog K.seal_Body #[Value.int .i64 size] w R :=
  calls_body follows (f := K.seal_Body) Try.func63 ([]) ([])
    (Eq.mp (by kernel_rfl : seal_Body.body size w R = bodyOf prog Try.f63 ([]) ([]) [Value.int .i64 size] w R) h)

/-- carrack/seal.Noughts -/
def seal_Noughts.body (b : Option Addr) (bL bC : Nat) (w : World) (R : Value → World → Prop) : Prop :=
  ∃ (J1 : Int → Int → World → Prop) (μ1 : Int → Int → World → Nat), J1 0 0 w ∧ ∀ x1 : Int, ∀ x2 : Int, ∀ w1 : World, J1 x1 x2 w1 → br (decide (x2 < ((bL : Nat) : Int))) (idxP b bL x2 1 fun q1 => ∃ x3 : Int, World.cell? w1 q1 = some (Value.int .u8 x3) ∧ CallsR prog K.bits_OnesCount8 #[Value.int .u8 (IntKind.u8.wrap ((BitVec.ofInt (IntKind.bits .u8) (if IntKind.signed .u8 then -1 else IntKind.max .u8) ^^^ BitVec.ofInt (IntKind.bits .u8) x3).toNat))] w1 fun v1 w2 => ∃ x4 : Int, v1 = Value.int .i64 x4 ∧ J1 (IntKind.i64.wrap (x1 + x4)) (IntKind.i64.wrap (x2 + 1)) w2 ∧ μ1 (IntKind.i64.wrap (x1 + x4)) (IntKind.i64.wrap (x2 + 1)) w2 < μ1 x1 x2 w1) (R (Value.int .i64 x1) w1)
theorem seal_Noughts.sh {b : Option Addr} {bL bC : Nat} {w : World} {R : Value → World → Prop} (h : seal_Noughts.body b bL bC w R) :
    CallsR prog K.seal_Noughts #[Value.slice b bL bC] w R :=
  calls_body follows (f := K.seal_Noughts) Try.func64 ([]) ([(3, [6, 7], [3, 8], [Value.int .i64 0, Value.int .i64 0])])
    (Eq.mp (by kernel_rfl : seal_Noughts.body b bL bC w R = bodyOf prog Try.f64 ([]) ([(3, [6, 7], [3, 8], [Value.int .i64 0, Value.int .i64 0])]) [Value.slice b bL bC] w R) h)

/-- slices.Grow[[]byte,byte] -/
def slices_Grow_byte.body (s : Option Addr) (sL sC : Nat) (n : Int) (w : World) (R : Value → World → Prop) : Prop :=
  br (decide (n < 0)) (False) (br (decide ((IntKind.i64.wrap (n - (IntKind.i64.wrap (((sC : Nat) : Int) - ((sL : Nat) : Int))))) > 0)) (sliceP 1 s sL sC none (some ((sC : Nat) : Int)) none fun a1 l1 c1 => appendZ T.uint8 1 1 [Value.int .u8 0] a1 l1 c1 (IntKind.i64.wrap (n - (IntKind.i64.wrap (((sC : Nat) : Int) - ((sL : Nat) : Int))))) w fun a2 l2 c2 w1 => sliceP 1 a2 l2 c2 none (some ((sL : Nat) : Int)) none fun a3 l3 c3 => R (Value.slice a3 l3 c3) w1) (R (Value.slice s sL sC) w))
theorem slices_Grow_byte.sh {s : Option Addr} {sL sC : Nat} {n : Int} {w : World} {R : Value → World → Prop} (h : slices_Grow_byte.body s sL sC n w R) :
    CallsR prog K.slices_Grow_byte #[Value.slice s sL sC, Value.int .i64 n] w R :=
  calls_body follows (f := K.slices_Grow_byte) Try.func65 ([]) ([])
    (Eq.mp (by kernel_rfl : slices_Grow_byte.body s sL sC n w R = bodyOf prog Try.f65 ([]) ([]) [Value.slice s sL sC, Value.int .i64 n] w R) h)

/-- carrack/carrackref01.Size -/
def carrackref01_Size.body (n : Int) (w : World) (R : Value → World → Prop) : Prop :=
  br (n == 1) (R (Value.bool true) w) (br (n == 2) (R (Value.bool true) w) (br (n == 4) (R (Value.bool true) w) (R (Value.bool (n == 8)) w)))
theorem carrackref01_Size.sh {n : Int} {w : World} {R : Value → World → Prop} (h : carrackref01_Size.body n w R) :
    CallsR prog K.carrackref01_Size #[Value.int .i64 n] w R :=
  calls_body follows (f := K.carrackref01_Size) Try.func66 ([]) ([])
    (Eq.mp (by kernel_rfl : carrackref01_Size.body n w R = bodyOf prog Try.f66 ([]) ([]) [Value.int .i64 n] w R) h)

/-- carrack/carrackref02.Size -/
def carrackref02_Size.body (n : Int) (w : World) (R : Value → World → Prop) : Prop :=
  br (decide (n ≥ 128)) (R (Value.bool (decide (n ≤ 256))) w) (R (Value.bool false) w)
theorem carrackref02_Size.sh {n : Int} {w : World} {R : Value → World → Prop} (h : carrackref02_Size.body n w R) :
    CallsR prog K.carrackref02_Size #[Value.int .i64 n] w R :=
  calls_body follows (f := K.carrackref02_Size) Try.func67 ([]) ([])
    (Eq.mp (by kernel_rfl : carrackref02_Size.body n w R = bodyOf prog Try.f67 ([]) ([]) [Value.int .i64 n] w R) h)

/-- carrack/carrackref02.Noughts -/
def carrackref02_Noughts.body (b : Option Addr) (bL bC : Nat) (w : World) (R : Value → World → Prop) : Prop :=
  ∃ (J1 : Int → Int → World → Prop) (μ1 : Int → Int → World → Nat), J1 0 0 w ∧ ∀ x1 : Int, ∀ x2 : Int, ∀ w1 : World, J1 x1 x2 w1 → br (decide (x2 < ((bL : Nat) : Int))) (∃ (J2 : Int → Int → World → Prop) (μ2 : Int → Int → World → Nat), J2 x1 1 w1 ∧ ∀ x3 : Int, ∀ x4 : Int, ∀ w2 : World, J2 x3 x4 w2 → br (decide (x4 ≤ 128)) (idxP b bL x2 1 fun q1 => ∃ x5 : Int, World.cell? w2 q1 = some (Value.int .u8 x5) ∧ x4 ≠ 0 ∧ (2 : Int) ≠ 0 ∧ br ((Int.tmod (IntKind.i64.wrap (Int.tdiv (IntKind.i64.wrap x5) x4)) 2) == 0) (J2 (IntKind.i64.wrap (x3 + 1)) (IntKind.i64.wrap ((2 : Int) * x4)) w2 ∧ μ2 (IntKind.i64.wrap (x3 + 1)) (IntKind.i64.wrap ((2 : Int) * x4)) w2 < μ2 x3 x4 w2) (J2 x3 (IntKind.i64.wrap ((2 : Int) * x4)) w2 ∧ μ2 x3 (IntKind.i64.wrap ((2 : Int) * x4)) w2 < μ2 x3 x4 w2)) (J1 x3 (IntKind.i64.wrap (x2 + 1)) w2 ∧ μ1 x3 (IntKind.i64.wrap (x2 + 1)) w2 < μ1 x1 x2 w1)) (R (Value.int .i64 x1) w1)
theorem carrackref02_Noughts.sh {b : Option Addr} {bL bC : Nat} {w : World} {R : Value → World → Prop} (h : carrackref02_Noughts.body b bL bC w R) :
    CallsR prog K.carrackref02_Noughts #[Value.slice b bL bC] w R :=
  calls_body follows (f := K.carrackref02_Noughts) Try.func68 ([]) ([(3, [0], [3, 4], [Value.int .i64 0, Value.int .i64 0]), (6, [0, 4], [3, 5], [Value.int .i64 0, Value.int .i64 0])])
    (Eq.mp (by kernel_rfl : carrackref02_Noughts.body b bL bC w R = bodyOf prog Try.f68 ([]) ([(3, [0], [3, 4], [Value.int .i64 0, Value.int .i64 0]), (6, [0, 4], [3, 5], [Value.int .i64 0, Value.int .i64 0])]) [Value.slice b bL bC] w R) h)

/-- carrack/seal.Blank -/
def seal_Blank.body (b : Option Addr) (bL bC : Nat) (w : World) (R : Value → World → Prop) : Prop :=
  ∃ (J1 : Int → World → Prop) (μ1 : Int → World → Nat), J1 0 w ∧ ∀ x1 : Int, ∀ w1 : World, J1 x1 w1 → br (decide (x1 < ((bL : Nat) : Int))) (idxP b bL x1 1 fun q1 => ∃ x2 : Int, World.cell? w1 q1 = some (Value.int .u8 x2) ∧ br (x2 != 255) (R (Value.bool false) w1) (J1 (IntKind.i64.wrap (x1 + 1)) w1 ∧ μ1 (IntKind.i64.wrap (x1 + 1)) w1 < μ1 x1 w1)) (R (Value.bool true) w1)
theorem seal_Blank.sh {b : Option Addr} {bL bC : Nat} {w : World} {R : Value → World → Prop} (h : seal_Blank.body b bL bC w R) :
    CallsR prog K.seal_Blank #[Value.slice b bL bC] w R :=
  calls_body follows (f := K.seal_Blank) Try.func69 ([]) ([(2, [5, 6], [7], [Value.int .i64 0])])
    (Eq.mp (by kernel_rfl : seal_Blank.body b bL bC w R = bodyOf prog Try.f69 ([]) ([(2, [5, 6], [7], [Value.int .i64 0])]) [Value.slice b bL bC] w R) h)

/-- (*carrack/ends.Reader).off -/
def ends_Reader_off.body (r : Option Addr) (w : World) (R : Value → World → Prop) : Prop :=
  br (Option.isNone r) (R (Value.bool true) w) (nilC r fun q1 => ∃ b1 : Bool, World.cell? w q1 = some (Value.bool b1) ∧ R (Value.bool (!b1)) w)
theorem ends_Reader_off.sh {r : Option Addr} {w : World} {R : Value → World → Prop} (h : ends_Reader_off.body r w R) :
    CallsR prog K.ends_Reader_off #[Value.pointer r] w R :=
  calls_body follows (f := K.ends_Reader_off) Try.func70 ([]) ([])
    (Eq.mp (by kernel_rfl : ends_Reader_off.body r w R = bodyOf prog Try.f70 ([]) ([]) [Value.pointer r] w R) h)

/-- (*carrack/ends.Reader).cut -/
def ends_Reader_cut.body (r : Option Addr) (n : Int) (w : World) (R : Value → World → Prop) : Prop :=
  nilC r fun q1 => ∃ b1 : Bool, World.cell? w (Addr.add q1 2) = some (Value.bool b1) ∧ br b1 (nilC r fun q2 => storeP w (Addr.add q2 2) [Value.bool true] fun w1 => R (Value.tuple #[Value.slice none 0 0, Value.int .i64 4]) w1) (nilC r fun q3 => ∃ (a1 : Option Addr) (l1 c1 : Nat), World.cell? w (Addr.add q3 1) = some (Value.slice a1 l1 c1) ∧ br (decide (((l1 : Nat) : Int) < n)) (nilC r fun q4 => storeP w (Addr.add q4 2) [Value.bool true] fun w2 => R (Value.tuple #[Value.slice none 0 0, Value.int .i64 4]) w2) (nilC r fun q5 => ∃ (a2 : Option Addr) (l2 c2 : Nat), World.cell? w (Addr.add q5 1) = some (Value.slice a2 l2 c2) ∧ sliceP 1 a2 l2 c2 none (some n) (some n) fun a3 l3 c3 => nilC r fun q6 => ∃ (a4 : Option Addr) (l4 c4 : Nat), World.cell? w (Addr.add q6 1) = some (Value.slice a4 l4 c4) ∧ sliceP 1 a4 l4 c4 (some n) none none fun a5 l5 c5 => nilC r fun q7 => storeP w (Addr.add q7 1) [Value.slice a5 l5 c5] fun w3 => R (Value.tuple #[Value.slice a3 l3 c3, Value.int .i64 0]) w3))
theorem ends_Reader_cut.sh {r : Option Addr} {n : Int} {w : World} {R : Value → World → Prop} (h : ends_Reader_cut.body r n w R) :
    CallsR prog K.ends_Reader_cut #[Value.pointer r, Value.int .i64 n] w R :=
  calls_body follows (f := K.ends_Reader_cut) Try.func71 ([]) ([])
    (Eq.mp (by kernel_rfl : ends_Reader_cut.body r n w R = bodyOf prog Try.f71 ([]) ([]) [Value.pointer r, Value.int .i64 n] w R) h)

/-- carrack/carrackref02.Blank -/
def carrackref02_Blank.body (b : Option Addr) (bL bC : Nat) (w : World) (R : Value → World → Prop) : Prop :=
  CallsR prog K.carrackref02_Noughts #[Value.slice b bL bC] w fun v1 w1 => ∃ x1 : Int, v1 = Value.int .i64 x1 ∧ R (Value.bool (x1 == 0)) w1
theorem carrackref02_Blank.sh {b : Option Addr} {bL bC : Nat} {w : World} {R : Value → World → Prop} (h : carrackref02_Blank.body b bL bC w R) :
    CallsR prog K.carrackref02_Blank #[Value.slice b bL bC] w R :=
  calls_body follows (f := K.carrackref02_Blank) Try.func72 ([]) ([])
    (Eq.mp (by kernel_rfl : carrackref02_Blank.body b bL bC w R = bodyOf prog Try.f72 ([]) ([]) [Value.slice b bL bC] w R) h)

/-- slices.Repeat[[]byte,byte] -/
def slices_Repeat_byte.body (x : Option Addr) (xL xC : Nat) (count : Int) (w : World) (R : Value → World → Prop) : Prop :=
  br (decide (count < 0)) (False) (CallsR prog K.bits_Mul #[Value.int .u64 (IntKind.u64.wrap ((xL : Nat) : Int)), Value.int .u64 (IntKind.u64.wrap count)] w fun v1 w1 => ∃ x1 : Int, ∃ x2 : Int, v1 = Value.tuple #[Value.int .u64 x1, Value.int .u64 x2] ∧ ∃ J1 : World → Prop, (br (decide (x1 > 0)) (False) (br (decide (x2 > 9223372036854775807)) (False) (J1 w1))) ∧ (∀ w2 : World, J1 w2 → makeSliceP T.uint8 1 1 [Value.int .u8 0] (IntKind.i64.wrap x2) (IntKind.i64.wrap x2) w2 fun a1 l1 c1 w3 => copyP 1 a1 l1 (Value.slice x xL xC) w3 fun x3 w4 => ∃ (J2 : Int → World → Prop) (μ1 : Int → World → Nat), J2 x3 w4 ∧ ∀ x4 : Int, ∀ w5 : World, J2 x4 w5 → br (decide (x4 < ((l1 : Nat) : Int))) (∀ w6 : World, Drew w5 w6 → ∃ S1 : World → Prop, S1 w6 ∧ sliceP 1 a1 l1 c1 (some x4) none none fun a2 l2 c2 => sliceP 1 a1 l1 c1 none (some x4) none fun a3 l3 c3 => copyP 1 a2 l2 (Value.slice a3 l3 c3) w6 fun x5 w7 => J2 (IntKind.i64.wrap (x4 + x5)) w7 ∧ μ1 (IntKind.i64.wrap (x4 + x5)) w7 < μ1 x4 w5) (R (Value.slice a1 l1 c1) w5)))
theorem slices_Repeat_byte.sh {x : Option Addr} {xL xC : Nat} {count : Int} {w : World} {R : Value → World → Prop} (h : slices_Repeat_byte.body x xL xC count w R) :
    CallsR prog K.slices_Repeat_byte #[Value.slice x xL xC, Value.int .i64 count] w R :=
  calls_body follows (f := K.slices_Repeat_byte) Try.func73 ([(6, [0, 6], [], [])]) ([(8, [7], [8], [Value.int .i64 0])])
    (Eq.mp (by kernel_rfl : slices_Repeat_byte.body x xL xC count w R = bodyOf prog Try.f73 ([(6, [0, 6], [], [])]) ([(8, [7], [8], [Value.int .i64 0])]) [Value.slice x xL xC, Value.int .i64 count] w R) h)

/-- (*carrack/nand.Chip).ask -/
def nand_Chip_ask.body (c : Option Addr) (block : Int) (page : Int) (w : World) (R : Value → World → Prop) : Prop :=
  CallsR prog K.nand_Chip_off #[Value.pointer c] w fun v1 w1 => ∃ b1 : Bool, v1 = Value.bool b1 ∧ br b1 (R (Value.int .i64 1) w1) (nilC c fun q1 => ∃ b2 : Bool, World.cell? w1 (Addr.add q1 8) = some (Value.bool b2) ∧ br b2 (R (Value.int .i64 10) w1) (br (decide (block < 0)) (R (Value.int .i64 2) w1) (nilC c fun q2 => ∃ x1 : Int, World.cell? w1 q2 = some (Value.int .i64 x1) ∧ br (decide (block ≥ x1)) (R (Value.int .i64 2) w1) (br (decide (page < 0)) (R (Value.int .i64 2) w1) (nilC c fun q3 => ∃ x2 : Int, World.cell? w1 (Addr.add q3 1) = some (Value.int .i64 x2) ∧ br (decide (page ≥ x2)) (R (Value.int .i64 2) w1) (R (Value.int .i64 0) w1))))))
theorem nand_Chip_ask.sh {c : Option Addr} {block : Int} {page : Int} {w : World} {R : Value → World → Prop} (h : nand_Chip_ask.body c block page w R) :
    CallsR prog K.nand_Chip_ask #[Value.pointer c, Value.int .i64 block, Value.int .i64 page] w R :=
  calls_body follows (f := K.nand_Chip_ask) Try.func74 ([]) ([])
    (Eq.mp (by kernel_rfl : nand_Chip_ask.body c block page w R = bodyOf prog Try.f74 ([]) ([]) [Value.pointer c, Value.int .i64 block, Value.int .i64 page] w R) h)

/-- (*carrack/nand.Chip).page -/
def nand_Chip_page.body (c : Option Addr) (block : Int) (page : Int) (w : World) (R : Value → World → Prop) : Prop :=
  ∀ w1 : World, Drew w w1 → ∃ S1 : World → Prop, S1 w1 ∧ nilC c fun q1 => ∃ x1 : Int, (∀ u1, S1 u1 → World.cell? u1 (Addr.add q1 2) = some (Value.int .i64 x1)) ∧ nilC c fun q2 => ∃ x2 : Int, (∀ u2, S1 u2 → World.cell? u2 (Addr.add q2 2) = some (Value.int .i64 x2)) ∧ nilC c fun q3 => ∃ (a1 : Option Addr) (l1 c1 : Nat), World.cell? w1 (Addr.add q3 4) = some (Value.slice a1 l1 c1) ∧ idxP a1 l1 block 1 fun q4 => ∃ (a2 : Option Addr) (l2 c2 : Nat), World.cell? w1 q4 = some (Value.slice a2 l2 c2) ∧ sliceP 1 a2 l2 c2 (some (IntKind.i64.wrap (page * x1))) (some (IntKind.i64.wrap ((IntKind.i64.wrap (page + 1)) * x2))) (some (IntKind.i64.wrap ((IntKind.i64.wrap (page + 1)) * x2))) fun a3 l3 c3 => R (Value.slice a3 l3 c3) w1
theorem nand_Chip_page.sh {c : Option Addr} {block : Int} {page : Int} {w : World} {R : Value → World → Prop} (h : nand_Chip_page.body c block page w R) :
    CallsR prog K.nand_Chip_page #[Value.pointer c, Value.int .i64 block, Value.int .i64 page] w R :=
  calls_body follows (f := K.nand_Chip_page) Try.func75 ([]) ([])
    (Eq.mp (by kernel_rfl : nand_Chip_page.body c block page w R = bodyOf prog Try.f75 ([]) ([]) [Value.pointer c, Value.int .i64 block, Value.int .i64 page] w R) h)

/-- (*carrack/nand.Chip).done -/
def nand_Chip_done.body (y0a : Option Addr) (y1a : Int) (y2a : Option Addr) (y2aL y2aC : Nat) (y3a : Value) (w : World) (R : Value → World → Prop) : Prop :=
  CallsR prog K.nand_Chip_strike #[Value.pointer y0a] w fun v1 w1 => ∃ p1 : Option Addr, v1 = Value.pointer p1 ∧ ∃ (J1 : Int → World → Prop) (μ1 : Int → World → Nat), J1 0 w1 ∧ ∀ x1 : Int, ∀ w2 : World, J1 x1 w2 → br (decide (x1 < ((y2aL : Nat) : Int))) (∃ J2 : World → Prop, (br (!(Option.isNone p1)) (nilC p1 fun q1 => ∃ (a1 : Option Addr) (l1 c1 : Nat), World.cell? w2 (Addr.add q1 2) = some (Value.slice a1 l1 c1) ∧ br (decide (((l1 : Nat) : Int) > 0)) (∀ w3 : World, Drew w2 w3 → ∃ S1 : World → Prop, S1 w3 ∧ nilC p1 fun q2 => ∃ (a2 : Option Addr) (l2 c2 : Nat), (∀ u1, S1 u1 → World.cell? u1 (Addr.add q2 2) = some (Value.slice a2 l2 c2)) ∧ ((l1 : Nat) : Int) ≠ 0 ∧ idxP a2 l2 (Int.tmod x1 ((l1 : Nat) : Int)) 1 fun q3 => ∃ x2 : Int, (∀ u2, S1 u2 → World.cell? u2 q3 = some (Value.int .u8 x2)) ∧ ∀ w4 : World, Drew w3 w4 → ∃ S2 : World → Prop, S2 w4 ∧ idxP y2a y2aL x1 1 fun q4 => ∃ x3 : Int, (∀ u3, S2 u3 → World.cell? u3 q4 = some (Value.int .u8 x3)) ∧ callT y3a [Value.int .i64 x1] w4 fun v2 w5 => ∃ x4 : Int, v2 = Value.int .u8 x4 ∧ S2 w5 ∧ idxP y2a y2aL x1 1 fun q5 => storeP w5 q5 [Value.int .u8 (IntKind.u8.wrap ((BitVec.ofInt (IntKind.bits .u8) (IntKind.u8.wrap ((BitVec.ofInt (IntKind.bits .u8) x3 &&& ~~~ (BitVec.ofInt (IntKind.bits .u8) x2)).toNat)) ||| BitVec.ofInt (IntKind.bits .u8) (IntKind.u8.wrap ((BitVec.ofInt (IntKind.bits .u8) x4 &&& BitVec.ofInt (IntKind.bits .u8) x2).toNat))).toNat))] fun w6 => J2 w6) (∀ w7 : World, Drew w2 w7 → ∃ S3 : World → Prop, S3 w7 ∧ idxP y2a y2aL x1 1 fun q6 => ∃ x5 : Int, (∀ u4, S3 u4 → World.cell? u4 q6 = some (Value.int .u8 x5)) ∧ callT y3a [Value.int .i64 x1] w7 fun v3 w8 => ∃ x6 : Int, v3 = Value.int .u8 x6 ∧ S3 w8 ∧ idxP y2a y2aL x1 1 fun q7 => storeP w8 q7 [Value.int .u8 (IntKind.u8.wrap ((BitVec.ofInt (IntKind.bits .u8) (IntKind.u8.wrap ((BitVec.ofInt (IntKind.bits .u8) x5 &&& ~~~ (BitVec.ofInt (IntKind.bits .u8) 0)).toNat)) ||| BitVec.ofInt (IntKind.bits .u8) (IntKind.u8.wrap ((BitVec.ofInt (IntKind.bits .u8) x6 &&& BitVec.ofInt (IntKind.bits .u8) 0).toNat))).toNat))] fun w9 => J2 w9)) (∀ w10 : World, Drew w2 w10 → ∃ S4 : World → Prop, S4 w10 ∧ idxP y2a y2aL x1 1 fun q8 => ∃ x7 : Int, (∀ u5, S4 u5 → World.cell? u5 q8 = some (Value.int .u8 x7)) ∧ callT y3a [Value.int .i64 x1] w10 fun v4 w11 => ∃ x8 : Int, v4 = Value.int .u8 x8 ∧ S4 w11 ∧ idxP y2a y2aL x1 1 fun q9 => storeP w11 q9 [Value.int .u8 (IntKind.u8.wrap ((BitVec.ofInt (IntKind.bits .u8) (IntKind.u8.wrap ((BitVec.ofInt (IntKind.bits .u8) x7 &&& ~~~ (BitVec.ofInt (IntKind.bits .u8) 255)).toNat)) ||| BitVec.ofInt (IntKind.bits .u8) (IntKind.u8.wrap ((BitVec.ofInt (IntKind.bits .u8) x8 &&& BitVec.ofInt (IntKind.bits .u8) 255).toNat))).toNat))] fun w12 => J2 w12)) ∧ (∀ w13 : World, J2 w13 → J1 (IntKind.i64.wrap (x1 + 1)) w13 ∧ μ1 (IntKind.i64.wrap (x1 + 1)) w13 < μ1 x1 w2)) (br (Option.isNone p1) (R (Value.int .i64 0) w2) (nilC p1 fun q10 => ∃ b1 : Bool, World.cell? w2 (Addr.add q10 1) = some (Value.bool b1) ∧ br b1 (nilC y0a fun q11 => ∃ (a3 : Option Addr) (l3 c3 : Nat), World.cell? w2 (Addr.add q11 5) = some (Value.slice a3 l3 c3) ∧ idxP a3 l3 y1a 1 fun q12 => storeP w2 q12 [Value.bool true] fun w14 => R (Value.int .i64 9) w14) (nilC y0a fun q13 => storeP w2 (Addr.add q13 8) [Value.bool true] fun w15 => R (Value.int .i64 10) w15)))
theorem nand_Chip_done.sh {y0a : Option Addr} {y1a : Int} {y2a : Option Addr} {y2aL y2aC : Nat} {y3a : Value} {w : World} {R : Value → World → Prop} (h : nand_Chip_done.body y0a y1a y2a y2aL y2aC y3a w R) :
    CallsR prog K.nand_Chip_done #[Value.pointer y0a, Value.int .i64 y1a, Value.slice y2a y2aL y2aC, y3a] w R :=
  calls_body follows (f := K.nand_Chip_done) Try.func76 ([(12, [0, 1, 2, 3, 9, 16, 17], [], [])]) ([(3, [0, 1, 2, 3, 9, 16], [17], [Value.int .i64 0])])
    (Eq.mp (by kernel_rfl : nand_Chip_done.body y0a y1a y2a y2aL y2aC y3a w R = bodyOf prog Try.f76 ([(12, [0, 1, 2, 3, 9, 16, 17], [], [])]) ([(3, [0, 1, 2, 3, 9, 16], [17], [Value.int .i64 0])]) [Value.pointer y0a, Value.int .i64 y1a, Value.slice y2a y2aL y2aC, y3a] w R) h)

/-- (*carrack/nand.Chip).Erase$1 -/
def nand_Chip_Erase_1.body (y0a : Int) (w : World) (R : Value → World → Prop) : Prop :=
  R (Value.int .u8 255) w
theorem nand_Chip_Erase_1.sh {y0a : Int} {w : World} {R : Value → World → Prop} (h : nand_Chip_Erase_1.body y0a w R) :
    CallsR prog K.nand_Chip_Erase_1 #[Value.int .i64 y0a] w R :=
  calls_body follows (f := K.nand_Chip_Erase_1) Try.func77 ([]) ([])
    (Eq.mp (by kernel_rfl : nand_Chip_Erase_1.body y0a w R = bodyOf prog Try.f77 ([]) ([]) [Value.int .i64 y0a] w R) h)

end Go.Den
