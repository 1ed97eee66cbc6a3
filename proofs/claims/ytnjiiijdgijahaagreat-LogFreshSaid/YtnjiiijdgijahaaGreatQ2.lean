/- Contracts of layer 1 (ends) and of its reference: numbers taken off; the reference. (Merged and shortened by program: Sh2 Sh3 Sh4 Sh5 Sh6 Sh7 Sh8 ShAll Rep Rep2 SEnds SEnds2.) -/
import Derived.Test.YtnjiiijdgijahaaGreatQ1
set_option linter.unusedVariables false
set_option linter.unusedSimpArgs false
set_option maxRecDepth 20000
namespace Go.Den
section
set_option maxRecDepth 100000
open Go.Proofs
def log_Log_anew.body (y0a:Option Addr) (w:World) (R:Value→World→Prop):Prop :=
 ∀ B1 w1,New w (.cells #[.pointer y0a] T.p_log_Log) B1 w1→∃ p1,w1.cell? ⟨B1,0,none⟩= some (.pointer p1)∧nilC p1 fun q1=>∃ p2,w1.cell? q1=some (.pointer p2)∧CallsR prog K.pool_Pool_Chip #[.pointer p2] w1 fun v1 w2=>∃ p3,v1= .pointer p3∧CallsR prog K.nand_Chip_Geo #[.pointer p3] w2 fun v2 w3=>∃ x1 x2 x3 x4,v2= .agg #[.int .i64 x1,.int .i64 x2,.int .i64 x3,.int .i64 x4]∧∀ B2 w4,New w3 (.cells #[.int .i64 0] T.int) B2 w4→storeP w4 ⟨B2,0,none⟩ [.int .i64 x3] fun w5=>∀ w6:World,Drew w5 w6→∃ S1:World→Prop,S1 w6∧∃ x5,(∀ u1,S1 u1→u1.cell? ⟨B2,0,none⟩= some (.int .i64 x5))∧∃ p4,(∀ u2,S1 u2→u2.cell? ⟨B1,0,none⟩= some (.pointer p4))∧nilC p4 fun q2=>∃ a1 l1 c1,(∀ u3,S1 u3→u3.cell? (q2.add 2)=some (.slice a1 l1 c1))∧CallsR prog K.pack_Pages #[.int .i64 x5,.slice a1 l1 c1] w6 fun v3 w7=>∃ a2 l2 c2 x6,v3= .tuple #[.slice a2 l2 c2,.int .i64 x6]∧S1 w7∧br (x6 != 0) (R (.int .i64 x6) w7) (∀ B3 w8,New w7 (.cells #[.int .u64 0] T.uint64) B3 w8→storeP w8 ⟨B3,0,none⟩ [.int .u64 0] fun w9=>∀ B4 w10,New w9 (.cells #[.func (.func K.log_Log_anew_1) #[] #[.pointer (some ⟨B1,0,none⟩),.pointer (some ⟨B3,0,none⟩)]] T.func_api_Errno) B4 w10→∃ (J1:Option Addr→Nat→Nat→Int→World→Prop) (μ1:Option Addr→Nat→Nat→Int→World→Nat),J1 (some ⟨B4,0,none⟩) 1 1 0 w10∧∀ (a3:Option Addr) (l3 c3:Nat),∀ x7:Int,∀ w11:World,J1 a3 l3 c3 x7 w11→br (decide (x7<((l2:Nat):Int))) (idxP a2 l2 x7 1 fun q3=>∃ a4 l4 c4,w11.cell? q3=some (.slice a4 l4 c4)∧∀ B5 w12,New w11 (.cells #[.slice none 0 0] T.L_uint8) B5 w12→storeP w12 ⟨B5,0,none⟩ [.slice a4 l4 c4] fun w13=>∀ B6 w14,New w13 (.cells #[.func (.func K.log_Log_anew_2) #[] #[.pointer (some ⟨B1,0,none⟩),.pointer (some ⟨B5,0,none⟩)]] T.func_api_Errno) B6 w14→appendP T.func_api_Errno 1 8 [Value.nilFunc] a3 l3 c3 (.slice (some ⟨B6,0,none⟩) 1 1) w14 fun a5 l5 c5 w15=>J1 a5 l5 c5 (IntKind.i64.wrap (x7+1)) w15∧μ1 a5 l5 c5 (IntKind.i64.wrap (x7+1)) w15 < μ1 a3 l3 c3 x7 w11) (∀ B7 w16,New w11 (.cells #[.func (.func K.log_Log_anew_3) #[] #[.pointer (some ⟨B2,0,none⟩),.pointer (some ⟨B3,0,none⟩),.pointer (some ⟨B1,0,none⟩)]] T.func_api_Errno) B7 w16→appendP T.func_api_Errno 1 8 [Value.nilFunc] a3 l3 c3 (.slice (some ⟨B7,0,none⟩) 1 1) w16 fun a6 l6 c6 w17=>∃ (J2:Int→World→Prop) (μ2:Int→World→Nat),J2 0 w17∧∀ x8:Int,∀ w18:World,J2 x8 w18→br (decide (x8<((l6:Nat):Int))) (idxP a6 l6 x8 1 fun q4=>∃ v4,w18.cell? q4=some (v4)∧callT v4 [] w18 fun v5 w19=>∃ x9,v5= .int .i64 x9∧br (x9 != 0) (R (.int .i64 x9) w19) (J2 (IntKind.i64.wrap (x8+1)) w19∧μ2 (IntKind.i64.wrap (x8+1)) w19 < μ2 x8 w18)) (∀ w20:World,Drew w18 w20→∃ S2:World→Prop,S2 w20∧∃ p5,(∀ u4,S2 u4→u4.cell? ⟨B1,0,none⟩= some (.pointer p5))∧nilC p5 fun q5=>∃ p6,(∀ u5,S2 u5→u5.cell? q5=some (.pointer p6))∧∃ p7,(∀ u6,S2 u6→u6.cell? ⟨B1,0,none⟩= some (.pointer p7))∧nilC p7 fun q6=>∃ x10,(∀ u7,S2 u7→u7.cell? (q6.add 1)=some (.int .u32 x10))∧CallsR prog K.log_own #[.pointer p6,.int .u32 x10] w20 fun v6 w21=>∃ a7 l7 c7,v6= .slice a7 l7 c7∧S2 w21∧∃ (J3:Int→World→Prop) (μ3:Int→World→Nat),J3 0 w21∧∀ x11:Int,∀ w22:World,J3 x11 w22→br (decide (x11<((l7:Nat):Int))) (idxP a7 l7 x11 5 fun q7=>∃ x12 x13 x14 x15 b1,cellsAt w22 q7 [.int .i64 x12,.int .u8 x13,.int .u32 x14,.int .u64 x15,.bool b1] 0∧∀ B8 w23,New w22 (.cells #[.int .i64 0,.int .u8 0,.int .u32 0,.int .u64 0,.bool false] T.api_Taken) B8 w23→storeP w23 ⟨B8,0,none⟩ [.int .i64 x12,.int .u8 x13,.int .u32 x14,.int .u64 x15,.bool b1] fun w24=>∃ x16,w24.cell? (Addr.add (Addr.add ⟨B8,0,none⟩ 1) 2)=some (.int .u64 x16)∧∃ x17,w24.cell? ⟨B3,0,none⟩= some (.int .u64 x17)∧br (decide (x16≥x17)) (J3 (IntKind.i64.wrap (x11+1)) w24∧μ3 (IntKind.i64.wrap (x11+1)) w24 < μ3 x11 w22) (∃ b2,w24.cell? (Addr.add ⟨B8,0,none⟩ 4)=some (.bool b2)∧br b2 (J3 (IntKind.i64.wrap (x11+1)) w24∧μ3 (IntKind.i64.wrap (x11+1)) w24 < μ3 x11 w22) (∀ w25:World,Drew w24 w25→∃ S3:World→Prop,S3 w25∧∃ p8,(∀ u8,S3 u8→u8.cell? ⟨B1,0,none⟩= some (.pointer p8))∧nilC p8 fun q8=>∃ p9,(∀ u9,S3 u9→u9.cell? q8=some (.pointer p9))∧∃ x18,(∀ u10,S3 u10→u10.cell? ⟨B8,0,none⟩= some (.int .i64 x18))∧CallsR prog K.pool_Pool_Free #[.pointer p9,.int .i64 x18] w25 fun v7 w26=>∃ x19,v7= .int .i64 x19∧S3 w26∧br (x19 != 0) (R (.int .i64 x19) w26) (J3 (IntKind.i64.wrap (x11+1)) w26∧μ3 (IntKind.i64.wrap (x11+1)) w26 < μ3 x11 w22)))) (R (.int .i64 0) w22))))
theorem log_Log_anew.sh {y0a:Option Addr} {w:World} {R:Value→World→Prop} (h:log_Log_anew.body y0a w R) :
  CallsR prog K.log_Log_anew #[.pointer y0a] w R :=
 calls_body follows (f:=K.log_Log_anew) Tryz.func43 ([]) ([(8,[1,3,6,37,38],[7,39],[.slice none 0 0,.int .i64 0]),(14,[1,6,52,53],[54],[.int .i64 0]),(21,[1,6,72,73],[74],[.int .i64 0])])
  (Eq.mp (by kernel_rfl) h)
def log_Log_alive.body (l:Option Addr) (w:World) (R:Value→World→Prop):Prop :=
 CallsR prog K.log_Log_off #[.pointer l] w fun v1 w1=>∃ b1,v1= .bool b1∧br b1 (R (.int .i64 1) w1) (nilC l fun q1=>∃ p1,w1.cell? q1=some (.pointer p1)∧CallsR prog K.pool_Pool_Chip #[.pointer p1] w1 fun v2 w2=>∃ p2,v2= .pointer p2∧CallsR prog K.nand_Chip_Read #[.pointer p2,.int .i64 0,.int .i64 0] w2 fun v3 w3=>∃ a1 l1 c1 x1,v3= .tuple #[.slice a1 l1 c1,.int .i64 x1]∧R (.int .i64 x1) w3)
theorem log_Log_alive.sh {l:Option Addr} {w:World} {R:Value→World→Prop} (h:log_Log_alive.body l w R) :
  CallsR prog K.log_Log_alive #[.pointer l] w R :=
 calls_body follows (f:=K.log_Log_alive) Tryz.func44 ([]) ([])
  (Eq.mp (by kernel_rfl) h)
def rec_Put.body (size:Int) (l:Option Addr) (lL lC:Nat) (w:World) (R:Value→World→Prop):Prop :=
 CallsR prog K.rec_body #[.slice l lL lC] w fun v1 w1=>∃ a1 l1 c1 b1,v1= .tuple #[.slice a1 l1 c1,.bool b1]∧br (!b1) (R (.tuple #[.slice none 0 0,.int .i64 2]) w1) (CallsR prog K.seal_Put #[.int .i64 size,.int .u8 2,.slice a1 l1 c1] w1 fun v2 w2=>∃ a2 l2 c2 x1,v2= .tuple #[.slice a2 l2 c2,.int .i64 x1]∧R (.tuple #[.slice a2 l2 c2,.int .i64 x1]) w2)
theorem rec_Put.sh {size:Int} {l:Option Addr} {lL lC:Nat} {w:World} {R:Value→World→Prop} (h:rec_Put.body size l lL lC w R) :
  CallsR prog K.rec_Put #[.int .i64 size,.slice l lL lC] w R :=
 calls_body follows (f:=K.rec_Put) Tryz.func45 ([]) ([])
  (Eq.mp (by kernel_rfl) h)
def pool_Pool_Chip.body (p:Option Addr) (w:World) (R:Value→World→Prop):Prop :=
 CallsR prog K.pool_Pool_off #[.pointer p] w fun v1 w1=>∃ b1,v1= .bool b1∧br b1 (R (.pointer none) w1) (nilC p fun q1=>∃ p1,w1.cell? q1=some (.pointer p1)∧R (.pointer p1) w1)
theorem pool_Pool_Chip.sh {p:Option Addr} {w:World} {R:Value→World→Prop} (h:pool_Pool_Chip.body p w R) :
  CallsR prog K.pool_Pool_Chip #[.pointer p] w R :=
 calls_body follows (f:=K.pool_Pool_Chip) Tryz.func46 ([]) ([])
  (Eq.mp (by kernel_rfl) h)
def nand_Chip_Geo.body (c:Option Addr) (w:World) (R:Value→World→Prop):Prop :=
 ∀ B1 w1,New w (.cells #[.int .i64 0,.int .i64 0,.int .i64 0,.int .i64 0] T.api_Geo) B1 w1→CallsR prog K.nand_Chip_off #[.pointer c] w1 fun v1 w2=>∃ b1,v1= .bool b1∧br b1 (storeP w2 ⟨B1,0,none⟩ [.int .i64 0,.int .i64 0,.int .i64 0,.int .i64 0] fun w3=>∃ x1 x2 x3 x4,cellsAt w3 ⟨B1,0,none⟩ [.int .i64 x1,.int .i64 x2,.int .i64 x3,.int .i64 x4] 0∧R (.agg #[.int .i64 x1,.int .i64 x2,.int .i64 x3,.int .i64 x4]) w3) (nilC c fun q1=>∃ x5 x6 x7 x8,cellsAt w2 q1 [.int .i64 x5,.int .i64 x6,.int .i64 x7,.int .i64 x8] 0∧storeP w2 ⟨B1,0,none⟩ [.int .i64 x5,.int .i64 x6,.int .i64 x7,.int .i64 x8] fun w4=>∃ x9 x10 x11 x12,cellsAt w4 ⟨B1,0,none⟩ [.int .i64 x9,.int .i64 x10,.int .i64 x11,.int .i64 x12] 0∧R (.agg #[.int .i64 x9,.int .i64 x10,.int .i64 x11,.int .i64 x12]) w4)
theorem nand_Chip_Geo.sh {c:Option Addr} {w:World} {R:Value→World→Prop} (h:nand_Chip_Geo.body c w R) :
  CallsR prog K.nand_Chip_Geo #[.pointer c] w R :=
 calls_body follows (f:=K.nand_Chip_Geo) Tryz.func47 ([]) ([])
  (Eq.mp (by kernel_rfl) h)
def fact_Apply.body (y0a:Option Addr) (y0aL y0aC:Nat) (y1a:Option Addr) (y1aL y1aC:Nat) (w:World) (R:Value→World→Prop):Prop :=
 CallsR prog K.fact_isOrdered #[.slice y0a y0aL y0aC] w fun v1 w1=>∃ b1,v1= .bool b1∧br (!b1) (R (.slice none 0 0) w1) (∀ B1 w2,New w1 (.cells #[.slice none 0 0] T.L_api_Fact) B1 w2→CallsR prog K.fact_own #[.slice y0a y0aL y0aC] w2 fun v2 w3=>∃ v3,v2=v3∧rangeP prog v3 w3 (fun l1r r1r as1 w4 RR1=>∃ x1 x2 s1 x3 a1 l1 c1,as1=[.agg #[.int .i64 x1,.int .u8 x2,.string s1,.int .i64 x3,.slice a1 l1 c1]]∧∀ B2 w6,New w4 (.cells #[.int .i64 0,.int .u8 0,.string (⟨#[]⟩: ByteArray),.int .i64 0,.slice none 0 0] T.api_Fact) B2 w6→storeP w6 ⟨B2,0,none⟩ [.int .i64 x1,.int .u8 x2,.string s1,.int .i64 x3,.slice a1 l1 c1] fun w7=>busyP l1r r1r w7 fun w8=>∃ a2 l2 c2,w8.cell? ⟨B1,0,none⟩= some (.slice a2 l2 c2)∧∃ x4 x5 s2 x6 a3 l3 c3,cellsAt w8 ⟨B2,0,none⟩ [.int .i64 x4,.int .u8 x5,.string s2,.int .i64 x6,.slice a3 l3 c3] 0∧∀ B3 w9,New w8 (.cells #[.int .i64 x4,.int .u8 x5,.string s2,.int .i64 x6,.slice a3 l3 c3] T.api_Fact) B3 w9→appendP T.api_Fact 5 64 [.int .i64 0,.int .u8 0,.string (⟨#[]⟩: ByteArray),.int .i64 0,.slice none 0 0] a2 l2 c2 (.slice (some ⟨B3,0,none⟩) 1 1) w9 fun a4 l4 c4 w10=>storeP w10 ⟨B1,0,none⟩ [.slice a4 l4 c4] fun w11=>readyP l1r r1r w11 RR1) fun D1 w5=>∃ (J1:Int→World→Prop) (μ1:Int→World→Nat),J1 0 w5∧∀ x7:Int,∀ w12:World,J1 x7 w12→br (decide (x7<((y1aL:Nat):Int))) (idxP y1a y1aL x7 6 fun q1=>∃ x8 x9 s3 x10 a5 l5 c5 b2,cellsAt w12 q1 [.int .i64 x8,.int .u8 x9,.string s3,.int .i64 x10,.slice a5 l5 c5,.bool b2] 0∧∀ B4 w13,New w12 (.cells #[.int .i64 0,.int .u8 0,.string (⟨#[]⟩: ByteArray),.int .i64 0,.slice none 0 0,.bool false] T.api_Change) B4 w13→storeP w13 ⟨B4,0,none⟩ [.int .i64 x8,.int .u8 x9,.string s3,.int .i64 x10,.slice a5 l5 c5,.bool b2] fun w14=>∃ a6 l6 c6,w14.cell? ⟨B1,0,none⟩= some (.slice a6 l6 c6)∧∃ x11 x12 s4 x13,cellsAt w14 ⟨B4,0,none⟩ [.int .i64 x11,.int .u8 x12,.string s4,.int .i64 x13] 0∧CallsR prog K.fact_place #[.slice a6 l6 c6,.agg #[.int .i64 x11,.int .u8 x12,.string s4,.int .i64 x13]] w14 fun v4 w15=>∃ x14 b3,v4= .tuple #[.int .i64 x14,.bool b3]∧∃ J2:Addr→World→Prop,(∀ w16:World,Drew w15 w16→∃ S1:World→Prop,S1 w16∧∃ x15 x16 s5 x17,(∀ u1,S1 u1→cellsAt u1 ⟨B4,0,none⟩ [.int .i64 x15,.int .u8 x16,.string s5,.int .i64 x17] 0)∧∃ a7 l7 c7,(∀ u2,S1 u2→u2.cell? (Addr.add ⟨B4,0,none⟩ 4)=some (.slice a7 l7 c7))∧(CallsR prog K.slices_Clone_byte #[.slice a7 l7 c7] w16 fun v5 w17=>∃ a8 l8 c8,v5= .slice a8 l8 c8∧S1 w17∧∀ B5 w18,New w17 (.cells #[.int .i64 0,.int .u8 0,.string (⟨#[]⟩: ByteArray),.int .i64 0,.slice none 0 0] T.api_Fact) B5 w18→S1 w18∧storeP w18 ⟨B5,0,none⟩ [.int .i64 x15,.int .u8 x16,.string s5,.int .i64 x17,.slice a8 l8 c8] fun w19=>J2 ⟨B5,0,none⟩ w19)∧(∀ B6 w20,New w16 (.cells #[.int .i64 0,.int .u8 0,.string (⟨#[]⟩: ByteArray),.int .i64 0,.slice none 0 0] T.api_Fact) B6 w20→S1 w20∧CallsR prog K.slices_Clone_byte #[.slice a7 l7 c7] w20 fun v6 w21=>∃ a9 l9 c9,v6= .slice a9 l9 c9∧S1 w21∧storeP w21 ⟨B6,0,none⟩ [.int .i64 x15,.int .u8 x16,.string s5,.int .i64 x17,.slice a9 l9 c9] fun w22=>J2 ⟨B6,0,none⟩ w22))∧(∀ p1:Addr,∀ w23:World,J2 p1 w23→br b3 (∃ b4,w23.cell? (Addr.add ⟨B4,0,none⟩ 5)=some (.bool b4)∧br b4 (∃ a10 l10 c10,w23.cell? ⟨B1,0,none⟩= some (.slice a10 l10 c10)∧CallsR prog K.slices_Delete_api_Fact #[.slice a10 l10 c10,.int .i64 x14,.int .i64 (IntKind.i64.wrap (x14+1))] w23 fun v7 w24=>∃ a11 l11 c11,v7= .slice a11 l11 c11∧storeP w24 ⟨B1,0,none⟩ [.slice a11 l11 c11] fun w25=>J1 (IntKind.i64.wrap (x7+1)) w25∧μ1 (IntKind.i64.wrap (x7+1)) w25 < μ1 x7 w12) (br b3 (∃ a12 l12 c12,w23.cell? ⟨B1,0,none⟩= some (.slice a12 l12 c12)∧∃ x18 x19 s6 x20 a13 l13 c13,cellsAt w23 p1 [.int .i64 x18,.int .u8 x19,.string s6,.int .i64 x20,.slice a13 l13 c13] 0∧idxP a12 l12 x14 5 fun q2=>storeP w23 q2 [.int .i64 x18,.int .u8 x19,.string s6,.int .i64 x20,.slice a13 l13 c13] fun w26=>J1 (IntKind.i64.wrap (x7+1)) w26∧μ1 (IntKind.i64.wrap (x7+1)) w26 < μ1 x7 w12) (∃ b5,w23.cell? (Addr.add ⟨B4,0,none⟩ 5)=some (.bool b5)∧br (!b5) (∃ a14 l14 c14,w23.cell? ⟨B1,0,none⟩= some (.slice a14 l14 c14)∧∃ x21 x22 s7 x23 a15 l15 c15,cellsAt w23 p1 [.int .i64 x21,.int .u8 x22,.string s7,.int .i64 x23,.slice a15 l15 c15] 0∧∀ B7 w27,New w23 (.cells #[.int .i64 x21,.int .u8 x22,.string s7,.int .i64 x23,.slice a15 l15 c15] T.api_Fact) B7 w27→CallsR prog K.slices_Insert_api_Fact #[.slice a14 l14 c14,.int .i64 x14,.slice (some ⟨B7,0,none⟩) 1 1] w27 fun v8 w28=>∃ a16 l16 c16,v8= .slice a16 l16 c16∧storeP w28 ⟨B1,0,none⟩ [.slice a16 l16 c16] fun w29=>J1 (IntKind.i64.wrap (x7+1)) w29∧μ1 (IntKind.i64.wrap (x7+1)) w29 < μ1 x7 w12) (J1 (IntKind.i64.wrap (x7+1)) w23∧μ1 (IntKind.i64.wrap (x7+1)) w23 < μ1 x7 w12)))) (br b3 (∃ a17 l17 c17,w23.cell? ⟨B1,0,none⟩= some (.slice a17 l17 c17)∧∃ x24 x25 s8 x26 a18 l18 c18,cellsAt w23 p1 [.int .i64 x24,.int .u8 x25,.string s8,.int .i64 x26,.slice a18 l18 c18] 0∧idxP a17 l17 x14 5 fun q3=>storeP w23 q3 [.int .i64 x24,.int .u8 x25,.string s8,.int .i64 x26,.slice a18 l18 c18] fun w30=>J1 (IntKind.i64.wrap (x7+1)) w30∧μ1 (IntKind.i64.wrap (x7+1)) w30 < μ1 x7 w12) (∃ b6,w23.cell? (Addr.add ⟨B4,0,none⟩ 5)=some (.bool b6)∧br (!b6) (∃ a19 l19 c19,w23.cell? ⟨B1,0,none⟩= some (.slice a19 l19 c19)∧∃ x27 x28 s9 x29 a20 l20 c20,cellsAt w23 p1 [.int .i64 x27,.int .u8 x28,.string s9,.int .i64 x29,.slice a20 l20 c20] 0∧∀ B8 w31,New w23 (.cells #[.int .i64 x27,.int .u8 x28,.string s9,.int .i64 x29,.slice a20 l20 c20] T.api_Fact) B8 w31→CallsR prog K.slices_Insert_api_Fact #[.slice a19 l19 c19,.int .i64 x14,.slice (some ⟨B8,0,none⟩) 1 1] w31 fun v9 w32=>∃ a21 l21 c21,v9= .slice a21 l21 c21∧storeP w32 ⟨B1,0,none⟩ [.slice a21 l21 c21] fun w33=>J1 (IntKind.i64.wrap (x7+1)) w33∧μ1 (IntKind.i64.wrap (x7+1)) w33 < μ1 x7 w12) (J1 (IntKind.i64.wrap (x7+1)) w23∧μ1 (IntKind.i64.wrap (x7+1)) w23 < μ1 x7 w12))))) (∃ a22 l22 c22,w12.cell? ⟨B1,0,none⟩= some (.slice a22 l22 c22)∧w12.heap[D1]?=some (.deferred (some []))∧R (.slice a22 l22 c22) (World.putObj w12 D1 (.deferred none))))
theorem fact_Apply.sh {y0a:Option Addr} {y0aL y0aC:Nat} {y1a:Option Addr} {y1aL y1aC:Nat} {w:World} {R:Value→World→Prop} (h:fact_Apply.body y0a y0aL y0aC y1a y1aL y1aC w R) :
  CallsR prog K.fact_Apply #[.slice y0a y0aL y0aC,.slice y1a y1aL y1aC] w R :=
 calls_body follows (f:=K.fact_Apply) Tryz.func48 ([(12,[5,8,9,10,22,23,24],[11],[.pointer (some ⟨0,0,none⟩)])]) ([(5,[5],[17],[.agg #[.int .i64 0,.int .u8 0,.string .empty,.int .i64 0,.slice none 0 0]]),(8,[5,22,23],[24],[.int .i64 0])])
  (Eq.mp (by kernel_rfl) h)
def log_Log_low.body (l:Option Addr) (facts:Int) (w:World) (R:Value→World→Prop):Prop :=
 nilC l fun q1=>∃ p1,w.cell? q1=some (.pointer p1)∧CallsR prog K.pool_Pool_Chip #[.pointer p1] w fun v1 w1=>∃ p2,v1= .pointer p2∧CallsR prog K.nand_Chip_Geo #[.pointer p2] w1 fun v2 w2=>∃ x1 x2 x3 x4,v2= .agg #[.int .i64 x1,.int .i64 x2,.int .i64 x3,.int .i64 x4]∧∀ B1 w3,New w2 (.cells #[.int .i64 0,.int .i64 0,.int .i64 0,.int .i64 0] T.api_Geo) B1 w3→storeP w3 ⟨B1,0,none⟩ [.int .i64 x1,.int .i64 x2,.int .i64 x3,.int .i64 x4] fun w4=>∃ x5,w4.cell? (Addr.add ⟨B1,0,none⟩ 1)=some (.int .i64 x5)∧∀ w5:World,Drew w4 w5→∃ S1:World→Prop,S1 w5∧nilC l fun q2=>∃ p3,(∀ u1,S1 u1→u1.cell? q2=some (.pointer p3))∧(IntKind.i64.wrap (x5 - 1))≠0∧∃ x6,(∀ u2,S1 u2→u2.cell? (Addr.add ⟨B1,0,none⟩ 3)=some (.int .i64 x6))∧CallsR prog K.pool_Pool_Blanks #[.pointer p3] w5 fun v3 w6=>∃ x7,v3= .int .i64 x7∧S1 w6∧R (.bool (decide (x7<(IntKind.i64.wrap ((IntKind.i64.wrap ((IntKind.i64.wrap (Int.tdiv (IntKind.i64.wrap ((IntKind.i64.wrap ((IntKind.i64.wrap (facts+2))+(IntKind.i64.wrap (x5 - 1)))) - 1)) (IntKind.i64.wrap (x5 - 1))))+2))+x6))))) w6
theorem log_Log_low.sh {l:Option Addr} {facts:Int} {w:World} {R:Value→World→Prop} (h:log_Log_low.body l facts w R) :
  CallsR prog K.log_Log_low #[.pointer l,.int .i64 facts] w R :=
 calls_body follows (f:=K.log_Log_low) Tryz.func49 ([]) ([])
  (Eq.mp (by kernel_rfl) h)
def log_Log_write.body (l:Option Addr) (b:Option Addr) (bL bC:Nat) (w:World) (R:Value→World→Prop):Prop :=
 nilC l fun q1=>∃ p1,w.cell? q1=some (.pointer p1)∧CallsR prog K.pool_Pool_Chip #[.pointer p1] w fun v1 w1=>∃ p2,v1= .pointer p2∧∃ (J1:World→Prop) (μ1:World→Nat),J1 w1∧∀ w2:World,J1 w2→∃ J2:World→Prop,(∀ w3:World,Drew w2 w3→∃ S1:World→Prop,S1 w3∧nilC l fun q2=>∃ x1,(∀ u1,S1 u1→u1.cell? (q2.add 3)=some (.int .i64 x1))∧br (x1 == (-1)) (S1 w3∧CallsR prog K.log_Log_take #[.pointer l] w3 fun v2 w4=>∃ x2,v2= .int .i64 x2∧br (x2 != 0) (R (.int .i64 x2) w4) (J2 w4)) (nilC l fun q3=>∃ x3,(∀ u2,S1 u2→u2.cell? (q3.add 4)=some (.int .i64 x3))∧CallsR prog K.nand_Chip_Geo #[.pointer p2] w3 fun v3 w5=>∃ x4 x5 x6 x7,v3= .agg #[.int .i64 x4,.int .i64 x5,.int .i64 x6,.int .i64 x7]∧S1 w5∧br (decide (x3≥x5)) (CallsR prog K.log_Log_take #[.pointer l] w5 fun v4 w6=>∃ x8,v4= .int .i64 x8∧br (x8 != 0) (R (.int .i64 x8) w6) (J2 w6)) (J2 w5)))∧(∀ w7:World,J2 w7→∀ w8:World,Drew w7 w8→∃ S2:World→Prop,S2 w8∧nilC l fun q4=>∃ x9,(∀ u3,S2 u3→u3.cell? (q4.add 3)=some (.int .i64 x9))∧nilC l fun q5=>∃ x10,(∀ u4,S2 u4→u4.cell? (q5.add 4)=some (.int .i64 x10))∧CallsR prog K.nand_Chip_Program #[.pointer p2,.int .i64 x9,.int .i64 x10,.slice b bL bC] w8 fun v5 w9=>∃ x11,v5= .int .i64 x11∧nilC l fun q6=>∃ x12,w9.cell? (q6.add 4)=some (.int .i64 x12)∧nilC l fun q7=>storeP w9 (q7.add 4) [.int .i64 (IntKind.i64.wrap (x12+1))] fun w10=>br (x11 != 9) (R (.int .i64 x11) w10) (nilC l fun q8=>storeP w10 (q8.add 3) [.int .i64 (-1)] fun w11=>J1 w11∧μ1 w11 < μ1 w2))
theorem log_Log_write.sh {l:Option Addr} {b:Option Addr} {bL bC:Nat} {w:World} {R:Value→World→Prop} (h:log_Log_write.body l b bL bC w R) :
  CallsR prog K.log_Log_write #[.pointer l,.slice b bL bC] w R :=
 calls_body follows (f:=K.log_Log_write) Tryz.func50 ([(6,[0,1,5],[],[])]) ([(2,[0,1,5],[],[])])
  (Eq.mp (by kernel_rfl) h)
def nand_Chip_off.body (c:Option Addr) (w:World) (R:Value→World→Prop):Prop :=
 br (Option.isNone c) (R (.bool true) w) (nilC c fun q1=>∃ a1 l1 c1,w.cell? (q1.add 4)=some (.slice a1 l1 c1)∧R (.bool (Option.isNone a1)) w)
theorem nand_Chip_off.sh {c:Option Addr} {w:World} {R:Value→World→Prop} (h:nand_Chip_off.body c w R) :
  CallsR prog K.nand_Chip_off #[.pointer c] w R :=
 calls_body follows (f:=K.nand_Chip_off) Tryz.func51 ([]) ([])
  (Eq.mp (by kernel_rfl) h)
def slices_Clone_byte.body (s:Option Addr) (sL sC:Nat) (w:World) (R:Value→World→Prop):Prop :=
 br (Option.isNone s) (R (.slice none 0 0) w) (∀ B1 w1,New w (.cells #[] T.uint8) B1 w1→appendP T.uint8 1 1 [.int .u8 0] (some ⟨B1,0,none⟩) 0 0 (.slice s sL sC) w1 fun a1 l1 c1 w2=>R (.slice a1 l1 c1) w2)
theorem slices_Clone_byte.sh {s:Option Addr} {sL sC:Nat} {w:World} {R:Value→World→Prop} (h:slices_Clone_byte.body s sL sC w R) :
  CallsR prog K.slices_Clone_byte #[.slice s sL sC] w R :=
 calls_body follows (f:=K.slices_Clone_byte) Tryz.func54 ([]) ([])
  (Eq.mp (by kernel_rfl) h)
def nand_Chip_ask.body (c:Option Addr) (block:Int) (page:Int) (w:World) (R:Value→World→Prop):Prop :=
 CallsR prog K.nand_Chip_off #[.pointer c] w fun v1 w1=>∃ b1,v1= .bool b1∧br b1 (R (.int .i64 1) w1) (nilC c fun q1=>∃ b2,w1.cell? (q1.add 8)=some (.bool b2)∧br b2 (R (.int .i64 10) w1) (br (decide (block<0)) (R (.int .i64 2) w1) (nilC c fun q2=>∃ x1,w1.cell? q2=some (.int .i64 x1)∧br (decide (block≥x1)) (R (.int .i64 2) w1) (br (decide (page<0)) (R (.int .i64 2) w1) (nilC c fun q3=>∃ x2,w1.cell? (q3.add 1)=some (.int .i64 x2)∧br (decide (page≥x2)) (R (.int .i64 2) w1) (R (.int .i64 0) w1))))))
theorem nand_Chip_ask.sh {c:Option Addr} {block:Int} {page:Int} {w:World} {R:Value→World→Prop} (h:nand_Chip_ask.body c block page w R) :
  CallsR prog K.nand_Chip_ask #[.pointer c,.int .i64 block,.int .i64 page] w R :=
 calls_body follows (f:=K.nand_Chip_ask) Tryz.func56 ([]) ([])
  (Eq.mp (by kernel_rfl) h)
def nand_Chip_done.body (y0a:Option Addr) (y1a:Int) (y2a:Option Addr) (y2aL y2aC:Nat) (y3a:Value) (w:World) (R:Value→World→Prop):Prop :=
 CallsR prog K.nand_Chip_strike #[.pointer y0a] w fun v1 w1=>∃ p1,v1= .pointer p1∧∃ (J1:Int→World→Prop) (μ1:Int→World→Nat),J1 0 w1∧∀ x1:Int,∀ w2:World,J1 x1 w2→br (decide (x1<((y2aL:Nat):Int))) (∃ J2:World→Prop,(br (!(Option.isNone p1)) (nilC p1 fun q1=>∃ a1 l1 c1,w2.cell? (q1.add 2)=some (.slice a1 l1 c1)∧br (decide (((l1:Nat):Int) > 0)) (∀ w3:World,Drew w2 w3→∃ S1:World→Prop,S1 w3∧nilC p1 fun q2=>∃ a2 l2 c2,(∀ u1,S1 u1→u1.cell? (q2.add 2)=some (.slice a2 l2 c2))∧((l1:Nat):Int)≠0∧idxP a2 l2 (Int.tmod x1 ((l1:Nat):Int)) 1 fun q3=>∃ x2,(∀ u2,S1 u2→u2.cell? q3=some (.int .u8 x2))∧∀ w4:World,Drew w3 w4→∃ S2:World→Prop,S2 w4∧idxP y2a y2aL x1 1 fun q4=>∃ x3,(∀ u3,S2 u3→u3.cell? q4=some (.int .u8 x3))∧callT y3a [.int .i64 x1] w4 fun v2 w5=>∃ x4,v2= .int .u8 x4∧S2 w5∧idxP y2a y2aL x1 1 fun q5=>storeP w5 q5 [.int .u8 (IntKind.u8.wrap ((BitVec.ofInt (IntKind.bits .u8) (IntKind.u8.wrap ((BitVec.ofInt (IntKind.bits .u8) x3 &&& ~~~ (BitVec.ofInt (IntKind.bits .u8) x2)).toNat)) ||| BitVec.ofInt (IntKind.bits .u8) (IntKind.u8.wrap ((BitVec.ofInt (IntKind.bits .u8) x4 &&& BitVec.ofInt (IntKind.bits .u8) x2).toNat))).toNat))] fun w6=>J2 w6) (∀ w7:World,Drew w2 w7→∃ S3:World→Prop,S3 w7∧idxP y2a y2aL x1 1 fun q6=>∃ x5,(∀ u4,S3 u4→u4.cell? q6=some (.int .u8 x5))∧callT y3a [.int .i64 x1] w7 fun v3 w8=>∃ x6,v3= .int .u8 x6∧S3 w8∧idxP y2a y2aL x1 1 fun q7=>storeP w8 q7 [.int .u8 (IntKind.u8.wrap ((BitVec.ofInt (IntKind.bits .u8) (IntKind.u8.wrap ((BitVec.ofInt (IntKind.bits .u8) x5 &&& ~~~ (BitVec.ofInt (IntKind.bits .u8) 0)).toNat)) ||| BitVec.ofInt (IntKind.bits .u8) (IntKind.u8.wrap ((BitVec.ofInt (IntKind.bits .u8) x6 &&& BitVec.ofInt (IntKind.bits .u8) 0).toNat))).toNat))] fun w9=>J2 w9)) (∀ w10:World,Drew w2 w10→∃ S4:World→Prop,S4 w10∧idxP y2a y2aL x1 1 fun q8=>∃ x7,(∀ u5,S4 u5→u5.cell? q8=some (.int .u8 x7))∧callT y3a [.int .i64 x1] w10 fun v4 w11=>∃ x8,v4= .int .u8 x8∧S4 w11∧idxP y2a y2aL x1 1 fun q9=>storeP w11 q9 [.int .u8 (IntKind.u8.wrap ((BitVec.ofInt (IntKind.bits .u8) (IntKind.u8.wrap ((BitVec.ofInt (IntKind.bits .u8) x7 &&& ~~~ (BitVec.ofInt (IntKind.bits .u8) 255)).toNat)) ||| BitVec.ofInt (IntKind.bits .u8) (IntKind.u8.wrap ((BitVec.ofInt (IntKind.bits .u8) x8 &&& BitVec.ofInt (IntKind.bits .u8) 255).toNat))).toNat))] fun w12=>J2 w12))∧(∀ w13:World,J2 w13→J1 (IntKind.i64.wrap (x1+1)) w13∧μ1 (IntKind.i64.wrap (x1+1)) w13 < μ1 x1 w2)) (br (Option.isNone p1) (R (.int .i64 0) w2) (nilC p1 fun q10=>∃ b1,w2.cell? (q10.add 1)=some (.bool b1)∧br b1 (nilC y0a fun q11=>∃ a3 l3 c3,w2.cell? (q11.add 5)=some (.slice a3 l3 c3)∧idxP a3 l3 y1a 1 fun q12=>storeP w2 q12 [.bool true] fun w14=>R (.int .i64 9) w14) (nilC y0a fun q13=>storeP w2 (q13.add 8) [.bool true] fun w15=>R (.int .i64 10) w15)))
theorem nand_Chip_done.sh {y0a:Option Addr} {y1a:Int} {y2a:Option Addr} {y2aL y2aC:Nat} {y3a:Value} {w:World} {R:Value→World→Prop} (h:nand_Chip_done.body y0a y1a y2a y2aL y2aC y3a w R) :
  CallsR prog K.nand_Chip_done #[.pointer y0a,.int .i64 y1a,.slice y2a y2aL y2aC,y3a] w R :=
 calls_body follows (f:=K.nand_Chip_done) Tryz.func57 ([(12,[0,1,2,3,9,16,17],[],[])]) ([(3,[0,1,2,3,9,16],[17],[.int .i64 0])])
  (Eq.mp (by kernel_rfl) h)
def nand_Chip_Erase_1.body (y0a:Int) (w:World) (R:Value→World→Prop):Prop :=
 R (.int .u8 255) w
theorem nand_Chip_Erase_1.sh {y0a:Int} {w:World} {R:Value→World→Prop} (h:nand_Chip_Erase_1.body y0a w R) :
  CallsR prog K.nand_Chip_Erase_1 #[.int .i64 y0a] w R :=
 calls_body follows (f:=K.nand_Chip_Erase_1) Tryz.func58 ([]) ([])
  (Eq.mp (by kernel_rfl) h)
def log_Log_off.body (l:Option Addr) (w:World) (R:Value→World→Prop):Prop :=
 br (Option.isNone l) (R (.bool true) w) (nilC l fun q1=>∃ p1,w.cell? q1=some (.pointer p1)∧R (.bool (Option.isNone p1)) w)
theorem log_Log_off.sh {l:Option Addr} {w:World} {R:Value→World→Prop} (h:log_Log_off.body l w R) :
  CallsR prog K.log_Log_off #[.pointer l] w R :=
 calls_body follows (f:=K.log_Log_off) Tryz.func59 ([]) ([])
  (Eq.mp (by kernel_rfl) h)
def carrackref00_Same.body (a:Option Addr) (aL aC:Nat) (b:Option Addr) (bL bC:Nat) (w:World) (R:Value→World→Prop):Prop :=
 br (((aL:Nat):Int) != ((bL:Nat):Int)) (R (.bool false) w) (∃ (J1:Int→World→Prop) (μ1:Int→World→Nat),J1 0 w∧∀ x1:Int,∀ w1:World,J1 x1 w1→br (decide (x1<((aL:Nat):Int))) (∀ w2:World,Drew w1 w2→∃ S1:World→Prop,S1 w2∧idxP a aL x1 1 fun q1=>∃ x2,(∀ u1,S1 u1→u1.cell? q1=some (.int .u8 x2))∧idxP b bL x1 1 fun q2=>∃ x3,(∀ u2,S1 u2→u2.cell? q2=some (.int .u8 x3))∧br (x2 != x3) (R (.bool false) w2) (J1 (IntKind.i64.wrap (x1+1)) w2∧μ1 (IntKind.i64.wrap (x1+1)) w2 < μ1 x1 w1)) (R (.bool true) w1))
theorem carrackref00_Same.sh {a:Option Addr} {aL aC:Nat} {b:Option Addr} {bL bC:Nat} {w:World} {R:Value→World→Prop} (h:carrackref00_Same.body a aL aC b bL bC w R) :
  CallsR prog K.carrackref00_Same #[.slice a aL aC,.slice b bL bC] w R :=
 calls_body follows (f:=K.carrackref00_Same) Tryz.func62 ([]) ([(4,[0,1],[5],[.int .i64 0])])
  (Eq.mp (by kernel_rfl) h)
def carrackref06_Ordered.body (l:Option Addr) (lL lC:Nat) (w:World) (R:Value→World→Prop):Prop :=
 ∃ (J1:Int→World→Prop) (μ1:Int→World→Nat),J1 1 w∧∀ x1:Int,∀ w1:World,J1 x1 w1→br (decide (x1<((lL:Nat):Int))) (∀ w2:World,Drew w1 w2→∃ S1:World→Prop,S1 w2∧idxP l lL (IntKind.i64.wrap (x1 - 1)) 5 fun q1=>∃ x2 x3 s1 x4,(∀ u1,S1 u1→cellsAt u1 q1 [.int .i64 x2,.int .u8 x3,.string s1,.int .i64 x4] 0)∧idxP l lL x1 5 fun q2=>∃ x5 x6 s2 x7,(∀ u2,S1 u2→cellsAt u2 q2 [.int .i64 x5,.int .u8 x6,.string s2,.int .i64 x7] 0)∧CallsR prog K.carrackref06_Before #[.agg #[.int .i64 x2,.int .u8 x3,.string s1,.int .i64 x4],.agg #[.int .i64 x5,.int .u8 x6,.string s2,.int .i64 x7]] w2 fun v1 w3=>∃ b1,v1= .bool b1∧br (!b1) (R (.bool false) w3) (J1 (IntKind.i64.wrap (x1+1)) w3∧μ1 (IntKind.i64.wrap (x1+1)) w3 < μ1 x1 w1)) (R (.bool true) w1)
theorem carrackref06_Ordered.sh {l:Option Addr} {lL lC:Nat} {w:World} {R:Value→World→Prop} (h:carrackref06_Ordered.body l lL lC w R) :
  CallsR prog K.carrackref06_Ordered #[.slice l lL lC] w R :=
 calls_body follows (f:=K.carrackref06_Ordered) Tryz.func63 ([]) ([(2,[0],[3],[.int .i64 0])])
  (Eq.mp (by kernel_rfl) h)
end
section
set_option maxRecDepth 100000
open Go.Proofs
def carrackref06_one.body (y0a:Option Addr) (y0aL y0aC:Nat) (y1a_Key_Ino:Int) (y1a_Key_What:Int) (y1a_Key_Name:ByteArray) (y1a_Key_Chunk:Int) (y1a_Value:Option Addr) (y1a_ValueL y1a_ValueC:Nat) (y1a_Gone:Bool) (w:World) (R:Value→World→Prop):Prop :=
 ∀ B1 w1,New w (.cells #[.int .i64 y1a_Key_Ino,.int .u8 y1a_Key_What,.string y1a_Key_Name,.int .i64 y1a_Key_Chunk,.slice y1a_Value y1a_ValueL y1a_ValueC,.bool y1a_Gone] T.api_Change) B1 w1→∃ b1,w1.cell? (Addr.add ⟨B1,0,none⟩ 5)=some (.bool b1)∧∃ a1 l1 c1,w1.cell? (Addr.add ⟨B1,0,none⟩ 4)=some (.slice a1 l1 c1)∧appendP T.uint8 1 1 [.int .u8 0] none 0 0 (.slice a1 l1 c1) w1 fun a2 l2 c2 w2=>∃ (J1:Option Addr→Nat→Nat→Bool→Int→World→Prop) (μ1:Option Addr→Nat→Nat→Bool→Int→World→Nat),J1 none 0 0 b1 0 w2∧∀ (a3:Option Addr) (l3 c3:Nat),∀ b2:Bool,∀ x1:Int,∀ w3:World,J1 a3 l3 c3 b2 x1 w3→br (decide (x1<((y0aL:Nat):Int))) (∀ w4:World,Drew w3 w4→∃ S1:World→Prop,S1 w4∧idxP y0a y0aL x1 5 fun q1=>∃ x2 x3 s1 x4,(∀ u1,S1 u1→cellsAt u1 q1 [.int .i64 x2,.int .u8 x3,.string s1,.int .i64 x4] 0)∧∃ x5 x6 s2 x7,(∀ u2,S1 u2→cellsAt u2 ⟨B1,0,none⟩ [.int .i64 x5,.int .u8 x6,.string s2,.int .i64 x7] 0)∧br ((x2 == x5) && ((x3 == x6) && ((s1.toList == s2.toList) && ((x4 == x7) && true)))) (br (!b2) (∃ x8 x9 s3 x10,cellsAt w4 ⟨B1,0,none⟩ [.int .i64 x8,.int .u8 x9,.string s3,.int .i64 x10] 0∧∀ B2 w5,New w4 (.cells #[.int .i64 x8,.int .u8 x9,.string s3,.int .i64 x10,.slice a2 l2 c2] T.api_Fact) B2 w5→appendP T.api_Fact 5 64 [.int .i64 0,.int .u8 0,.string (⟨#[]⟩: ByteArray),.int .i64 0,.slice none 0 0] a3 l3 c3 (.slice (some ⟨B2,0,none⟩) 1 1) w5 fun a4 l4 c4 w6=>J1 a4 l4 c4 true (IntKind.i64.wrap (x1+1)) w6∧μ1 a4 l4 c4 true (IntKind.i64.wrap (x1+1)) w6 < μ1 a3 l3 c3 b2 x1 w3) (J1 a3 l3 c3 b2 (IntKind.i64.wrap (x1+1)) w4∧μ1 a3 l3 c3 b2 (IntKind.i64.wrap (x1+1)) w4 < μ1 a3 l3 c3 b2 x1 w3)) (∀ w7:World,Drew w4 w7→∃ S2:World→Prop,S2 w7∧br (!b2) (∃ x11 x12 s4 x13,(∀ u3,S2 u3→cellsAt u3 ⟨B1,0,none⟩ [.int .i64 x11,.int .u8 x12,.string s4,.int .i64 x13] 0)∧idxP y0a y0aL x1 5 fun q2=>∃ x14 x15 s5 x16,(∀ u4,S2 u4→cellsAt u4 q2 [.int .i64 x14,.int .u8 x15,.string s5,.int .i64 x16] 0)∧CallsR prog K.carrackref06_Before #[.agg #[.int .i64 x11,.int .u8 x12,.string s4,.int .i64 x13],.agg #[.int .i64 x14,.int .u8 x15,.string s5,.int .i64 x16]] w7 fun v1 w8=>∃ b3,v1= .bool b3∧br b3 (∃ x17 x18 s6 x19,cellsAt w8 ⟨B1,0,none⟩ [.int .i64 x17,.int .u8 x18,.string s6,.int .i64 x19] 0∧∀ B3 w9,New w8 (.cells #[.int .i64 x17,.int .u8 x18,.string s6,.int .i64 x19,.slice a2 l2 c2] T.api_Fact) B3 w9→appendP T.api_Fact 5 64 [.int .i64 0,.int .u8 0,.string (⟨#[]⟩: ByteArray),.int .i64 0,.slice none 0 0] a3 l3 c3 (.slice (some ⟨B3,0,none⟩) 1 1) w9 fun a5 l5 c5 w10=>idxP y0a y0aL x1 5 fun q3=>∃ x20 x21 s7 x22 a6 l6 c6,cellsAt w10 q3 [.int .i64 x20,.int .u8 x21,.string s7,.int .i64 x22,.slice a6 l6 c6] 0∧∀ B4 w11,New w10 (.cells #[.int .i64 x20,.int .u8 x21,.string s7,.int .i64 x22,.slice a6 l6 c6] T.api_Fact) B4 w11→appendP T.api_Fact 5 64 [.int .i64 0,.int .u8 0,.string (⟨#[]⟩: ByteArray),.int .i64 0,.slice none 0 0] a5 l5 c5 (.slice (some ⟨B4,0,none⟩) 1 1) w11 fun a7 l7 c7 w12=>J1 a7 l7 c7 true (IntKind.i64.wrap (x1+1)) w12∧μ1 a7 l7 c7 true (IntKind.i64.wrap (x1+1)) w12 < μ1 a3 l3 c3 b2 x1 w3) (idxP y0a y0aL x1 5 fun q4=>∃ x23 x24 s8 x25 a8 l8 c8,cellsAt w8 q4 [.int .i64 x23,.int .u8 x24,.string s8,.int .i64 x25,.slice a8 l8 c8] 0∧∀ B5 w13,New w8 (.cells #[.int .i64 x23,.int .u8 x24,.string s8,.int .i64 x25,.slice a8 l8 c8] T.api_Fact) B5 w13→appendP T.api_Fact 5 64 [.int .i64 0,.int .u8 0,.string (⟨#[]⟩: ByteArray),.int .i64 0,.slice none 0 0] a3 l3 c3 (.slice (some ⟨B5,0,none⟩) 1 1) w13 fun a9 l9 c9 w14=>J1 a9 l9 c9 b2 (IntKind.i64.wrap (x1+1)) w14∧μ1 a9 l9 c9 b2 (IntKind.i64.wrap (x1+1)) w14 < μ1 a3 l3 c3 b2 x1 w3)) (idxP y0a y0aL x1 5 fun q5=>∃ x26 x27 s9 x28 a10 l10 c10,cellsAt w7 q5 [.int .i64 x26,.int .u8 x27,.string s9,.int .i64 x28,.slice a10 l10 c10] 0∧∀ B6 w15,New w7 (.cells #[.int .i64 x26,.int .u8 x27,.string s9,.int .i64 x28,.slice a10 l10 c10] T.api_Fact) B6 w15→appendP T.api_Fact 5 64 [.int .i64 0,.int .u8 0,.string (⟨#[]⟩: ByteArray),.int .i64 0,.slice none 0 0] a3 l3 c3 (.slice (some ⟨B6,0,none⟩) 1 1) w15 fun a11 l11 c11 w16=>J1 a11 l11 c11 b2 (IntKind.i64.wrap (x1+1)) w16∧μ1 a11 l11 c11 b2 (IntKind.i64.wrap (x1+1)) w16 < μ1 a3 l3 c3 b2 x1 w3))) (br (!b2) (∃ x29 x30 s10 x31,cellsAt w3 ⟨B1,0,none⟩ [.int .i64 x29,.int .u8 x30,.string s10,.int .i64 x31] 0∧∀ B7 w17,New w3 (.cells #[.int .i64 x29,.int .u8 x30,.string s10,.int .i64 x31,.slice a2 l2 c2] T.api_Fact) B7 w17→appendP T.api_Fact 5 64 [.int .i64 0,.int .u8 0,.string (⟨#[]⟩: ByteArray),.int .i64 0,.slice none 0 0] a3 l3 c3 (.slice (some ⟨B7,0,none⟩) 1 1) w17 fun a12 l12 c12 w18=>R (.slice a12 l12 c12) w18) (R (.slice a3 l3 c3) w3))
theorem carrackref06_one.sh {y0a:Option Addr} {y0aL y0aC:Nat} {y1a_Key_Ino:Int} {y1a_Key_What:Int} {y1a_Key_Name:ByteArray} {y1a_Key_Chunk:Int} {y1a_Value:Option Addr} {y1a_ValueL y1a_ValueC:Nat} {y1a_Gone:Bool} {w:World} {R:Value→World→Prop} (h:carrackref06_one.body y0a y0aL y0aC y1a_Key_Ino y1a_Key_What y1a_Key_Name y1a_Key_Chunk y1a_Value y1a_ValueL y1a_ValueC y1a_Gone w R) :
  CallsR prog K.carrackref06_one #[.slice y0a y0aL y0aC,.agg #[.int .i64 y1a_Key_Ino,.int .u8 y1a_Key_What,.string y1a_Key_Name,.int .i64 y1a_Key_Chunk,.slice y1a_Value y1a_ValueL y1a_ValueC,.bool y1a_Gone]] w R :=
 calls_body follows (f:=K.carrackref06_one) Tryz.func64 ([]) ([(6,[0,3,7],[5,6,8],[.slice none 0 0,.bool false,.int .i64 0])])
  (Eq.mp (by kernel_rfl) h)
def carrackref11_Put.body (size:Int) (l:Option Addr) (lL lC:Nat) (w:World) (R:Value→World→Prop):Prop :=
 CallsR prog K.carrackref11_May #[.slice l lL lC] w fun v1 w1=>∃ b1,v1= .bool b1∧br (!b1) (R (.tuple #[.slice none 0 0,.int .i64 2]) w1) (CallsR prog K.carrackref11_body #[.slice l lL lC] w1 fun v2 w2=>∃ a1 l1 c1,v2= .slice a1 l1 c1∧CallsR prog K.carrackref02_Put #[.int .i64 size,.int .u8 2,.slice a1 l1 c1] w2 fun v3 w3=>∃ a2 l2 c2 x1,v3= .tuple #[.slice a2 l2 c2,.int .i64 x1]∧R (.tuple #[.slice a2 l2 c2,.int .i64 x1]) w3)
theorem carrackref11_Put.sh {size:Int} {l:Option Addr} {lL lC:Nat} {w:World} {R:Value→World→Prop} (h:carrackref11_Put.body size l lL lC w R) :
  CallsR prog K.carrackref11_Put #[.int .i64 size,.slice l lL lC] w R :=
 calls_body follows (f:=K.carrackref11_Put) Tryz.func65 ([]) ([])
  (Eq.mp (by kernel_rfl) h)
def nand_Chip_Bytes.body (c:Option Addr) (w:World) (R:Value→World→Prop):Prop :=
 CallsR prog K.nand_Chip_off #[.pointer c] w fun v1 w1=>∃ b1,v1= .bool b1∧br b1 (R (.slice none 0 0) w1) (nilC c fun q1=>∃ a1 l1 c1,w1.cell? (q1.add 4)=some (.slice a1 l1 c1)∧CallsR prog K.slices_Concat_byte #[.slice a1 l1 c1] w1 fun v2 w2=>∃ a2 l2 c2,v2= .slice a2 l2 c2∧R (.slice a2 l2 c2) w2)
theorem nand_Chip_Bytes.sh {c:Option Addr} {w:World} {R:Value→World→Prop} (h:nand_Chip_Bytes.body c w R) :
  CallsR prog K.nand_Chip_Bytes #[.pointer c] w R :=
 calls_body follows (f:=K.nand_Chip_Bytes) Tryz.func68 ([]) ([])
  (Eq.mp (by kernel_rfl) h)
def carrackref00_Copy.body (b:Option Addr) (bL bC:Nat) (w:World) (R:Value→World→Prop):Prop :=
 appendP T.uint8 1 1 [.int .u8 0] none 0 0 (.slice b bL bC) w fun a1 l1 c1 w1=>R (.slice a1 l1 c1) w1
theorem carrackref00_Copy.sh {b:Option Addr} {bL bC:Nat} {w:World} {R:Value→World→Prop} (h:carrackref00_Copy.body b bL bC w R) :
  CallsR prog K.carrackref00_Copy #[.slice b bL bC] w R :=
 calls_body follows (f:=K.carrackref00_Copy) Tryz.func69 ([]) ([])
  (Eq.mp (by kernel_rfl) h)
def slices_Clone_bool.body (s:Option Addr) (sL sC:Nat) (w:World) (R:Value→World→Prop):Prop :=
 br (Option.isNone s) (R (.slice none 0 0) w) (∀ B1 w1,New w (.cells #[] T.bool) B1 w1→appendP T.bool 1 1 [.bool false] (some ⟨B1,0,none⟩) 0 0 (.slice s sL sC) w1 fun a1 l1 c1 w2=>R (.slice a1 l1 c1) w2)
theorem slices_Clone_bool.sh {s:Option Addr} {sL sC:Nat} {w:World} {R:Value→World→Prop} (h:slices_Clone_bool.body s sL sC w R) :
  CallsR prog K.slices_Clone_bool #[.slice s sL sC] w R :=
 calls_body follows (f:=K.slices_Clone_bool) Tryz.func70 ([]) ([])
  (Eq.mp (by kernel_rfl) h)
def carrackref11_may.body (c_Key_Ino:Int) (c_Key_What:Int) (c_Key_Name:ByteArray) (c_Key_Chunk:Int) (c_Value:Option Addr) (c_ValueL c_ValueC:Nat) (c_Gone:Bool) (w:World) (R:Value→World→Prop):Prop :=
 ∀ B1 w1,New w (.cells #[.int .i64 c_Key_Ino,.int .u8 c_Key_What,.string c_Key_Name,.int .i64 c_Key_Chunk,.slice c_Value c_ValueL c_ValueC,.bool c_Gone] T.api_Change) B1 w1→∃ x1 x2 s1 x3,cellsAt w1 ⟨B1,0,none⟩ [.int .i64 x1,.int .u8 x2,.string s1,.int .i64 x3] 0∧CallsR prog K.carrackref06_MayKey #[.agg #[.int .i64 x1,.int .u8 x2,.string s1,.int .i64 x3]] w1 fun v1 w2=>∃ b1,v1= .bool b1∧br (!b1) (R (.bool false) w2) (∃ b2,w2.cell? (Addr.add ⟨B1,0,none⟩ 5)=some (.bool b2)∧br b2 (∃ a1 l1 c1,w2.cell? (Addr.add ⟨B1,0,none⟩ 4)=some (.slice a1 l1 c1)∧R (.bool (((l1:Nat):Int) == 0)) w2) (∃ a2 l2 c2,w2.cell? (Addr.add ⟨B1,0,none⟩ 4)=some (.slice a2 l2 c2)∧br (decide (((l2:Nat):Int)≥1)) (∃ a3 l3 c3,w2.cell? (Addr.add ⟨B1,0,none⟩ 4)=some (.slice a3 l3 c3)∧R (.bool (decide (((l3:Nat):Int)≤255))) w2) (R (.bool false) w2)))
theorem carrackref11_may.sh {c_Key_Ino:Int} {c_Key_What:Int} {c_Key_Name:ByteArray} {c_Key_Chunk:Int} {c_Value:Option Addr} {c_ValueL c_ValueC:Nat} {c_Gone:Bool} {w:World} {R:Value→World→Prop} (h:carrackref11_may.body c_Key_Ino c_Key_What c_Key_Name c_Key_Chunk c_Value c_ValueL c_ValueC c_Gone w R) :
  CallsR prog K.carrackref11_may #[.agg #[.int .i64 c_Key_Ino,.int .u8 c_Key_What,.string c_Key_Name,.int .i64 c_Key_Chunk,.slice c_Value c_ValueL c_ValueC,.bool c_Gone]] w R :=
 calls_body follows (f:=K.carrackref11_may) Tryz.func71 ([]) ([])
  (Eq.mp (by kernel_rfl) h)
def scan_Facts.body (c:Option Addr) (era:Int) (w:World) (R:Value→World→Prop):Prop :=
 CallsR prog K.scan_read #[.pointer c,.int .u32 era] w fun v1 w1=>∃ a1 l1 c1 x1 x2,v1= .tuple #[.slice a1 l1 c1,.int .u64 x1,.int .i64 x2]∧∃ (J1:Option Addr→Nat→Nat→Int→World→Prop) (μ1:Option Addr→Nat→Nat→Int→World→Nat),J1 none 0 0 0 w1∧∀ (a2:Option Addr) (l2 c2:Nat),∀ x3:Int,∀ w2:World,J1 a2 l2 c2 x3 w2→br (decide (x3<((l1:Nat):Int))) (idxP a1 l1 x3 3 fun q1=>∃ x4 x5 a3 l3 c3,cellsAt w2 q1 [.int .i64 x4,.int .u64 x5,.slice a3 l3 c3] 0∧∀ B1 w3,New w2 (.cells #[.int .i64 0,.int .u64 0,.slice none 0 0] T.scan_part) B1 w3→storeP w3 ⟨B1,0,none⟩ [.int .i64 x4,.int .u64 x5,.slice a3 l3 c3] fun w4=>∃ x6,w4.cell? (Addr.add ⟨B1,0,none⟩ 1)=some (.int .u64 x6)∧br (decide (x6<x1)) (J1 a2 l2 c2 (IntKind.i64.wrap (x3+1)) w4∧μ1 a2 l2 c2 (IntKind.i64.wrap (x3+1)) w4 < μ1 a2 l2 c2 x3 w2) (∃ a4 l4 c4,w4.cell? (Addr.add ⟨B1,0,none⟩ 2)=some (.slice a4 l4 c4)∧∃ (J2:Option Addr→Nat→Nat→Int→World→Prop) (μ2:Option Addr→Nat→Nat→Int→World→Nat),J2 a2 l2 c2 0 w4∧∀ (a5:Option Addr) (l5 c5:Nat),∀ x7:Int,∀ w5:World,J2 a5 l5 c5 x7 w5→br (decide (x7<((l4:Nat):Int))) (idxP a4 l4 x7 3 fun q2=>∃ x8 a6 l6 c6 x9,cellsAt w5 q2 [.int .i64 x8,.slice a6 l6 c6,.int .u64 x9] 0∧∀ B2 w6,New w5 (.cells #[.int .i64 0,.slice none 0 0,.int .u64 0] T.api_Page) B2 w6→storeP w6 ⟨B2,0,none⟩ [.int .i64 x8,.slice a6 l6 c6,.int .u64 x9] fun w7=>∃ a7 l7 c7,w7.cell? (Addr.add ⟨B2,0,none⟩ 1)=some (.slice a7 l7 c7)∧CallsR prog K.fact_Apply #[.slice a5 l5 c5,.slice a7 l7 c7] w7 fun v2 w8=>∃ a8 l8 c8,v2= .slice a8 l8 c8∧J2 a8 l8 c8 (IntKind.i64.wrap (x7+1)) w8∧μ2 a8 l8 c8 (IntKind.i64.wrap (x7+1)) w8 < μ2 a5 l5 c5 x7 w5) (J1 a5 l5 c5 (IntKind.i64.wrap (x3+1)) w5∧μ1 a5 l5 c5 (IntKind.i64.wrap (x3+1)) w5 < μ1 a2 l2 c2 x3 w2))) (R (.tuple #[.slice a2 l2 c2,.int .i64 x2]) w2)
theorem scan_Facts.sh {c:Option Addr} {era:Int} {w:World} {R:Value→World→Prop} (h:scan_Facts.body c era w R) :
  CallsR prog K.scan_Facts #[.pointer c,.int .u32 era] w R :=
 calls_body follows (f:=K.scan_Facts) Tryz.func72 ([]) ([(4,[7,8,21,22],[9,23],[.slice none 0 0,.int .i64 0]),(8,[7,8,21,22,23,32,33],[9,34],[.slice none 0 0,.int .i64 0])])
  (Eq.mp (by kernel_rfl) h)
def nand_Chip_Read.body (c:Option Addr) (block:Int) (page:Int) (w:World) (R:Value→World→Prop):Prop :=
 CallsR prog K.nand_Chip_ask #[.pointer c,.int .i64 block,.int .i64 page] w fun v1 w1=>∃ x1,v1= .int .i64 x1∧br (x1 != 0) (R (.tuple #[.slice none 0 0,.int .i64 x1]) w1) (CallsR prog K.nand_Chip_page #[.pointer c,.int .i64 block,.int .i64 page] w1 fun v2 w2=>∃ a1 l1 c1,v2= .slice a1 l1 c1∧CallsR prog K.slices_Clone_byte #[.slice a1 l1 c1] w2 fun v3 w3=>∃ a2 l2 c2,v3= .slice a2 l2 c2∧R (.tuple #[.slice a2 l2 c2,.int .i64 0]) w3)
theorem nand_Chip_Read.sh {c:Option Addr} {block:Int} {page:Int} {w:World} {R:Value→World→Prop} (h:nand_Chip_Read.body c block page w R) :
  CallsR prog K.nand_Chip_Read #[.pointer c,.int .i64 block,.int .i64 page] w R :=
 calls_body follows (f:=K.nand_Chip_Read) Tryz.func73 ([]) ([])
  (Eq.mp (by kernel_rfl) h)
def seal_Blank.body (b:Option Addr) (bL bC:Nat) (w:World) (R:Value→World→Prop):Prop :=
 ∃ (J1:Int→World→Prop) (μ1:Int→World→Nat),J1 0 w∧∀ x1:Int,∀ w1:World,J1 x1 w1→br (decide (x1<((bL:Nat):Int))) (idxP b bL x1 1 fun q1=>∃ x2,w1.cell? q1=some (.int .u8 x2)∧br (x2 != 255) (R (.bool false) w1) (J1 (IntKind.i64.wrap (x1+1)) w1∧μ1 (IntKind.i64.wrap (x1+1)) w1 < μ1 x1 w1)) (R (.bool true) w1)
theorem seal_Blank.sh {b:Option Addr} {bL bC:Nat} {w:World} {R:Value→World→Prop} (h:seal_Blank.body b bL bC w R) :
  CallsR prog K.seal_Blank #[.slice b bL bC] w R :=
 calls_body follows (f:=K.seal_Blank) Tryz.func74 ([]) ([(2,[5,6],[7],[.int .i64 0])])
  (Eq.mp (by kernel_rfl) h)
def pool_Pool_Blanks.body (p:Option Addr) (w:World) (R:Value→World→Prop):Prop :=
 CallsR prog K.pool_Pool_off #[.pointer p] w fun v1 w1=>∃ b1,v1= .bool b1∧br b1 (R (.int .i64 0) w1) (nilC p fun q1=>∃ a1 l1 c1,w1.cell? (q1.add 1)=some (.slice a1 l1 c1)∧∃ (J1:Int→Int→World→Prop) (μ1:Int→Int→World→Nat),J1 0 0 w1∧∀ x1:Int,∀ x2:Int,∀ w2:World,J1 x1 x2 w2→br (decide (x2<((l1:Nat):Int))) (idxP a1 l1 x2 4 fun q2=>∃ x3 x4 x5 x6,cellsAt w2 q2 [.int .i64 x3,.int .u8 x4,.int .u32 x5,.int .u64 x6] 0∧∀ B1 w3,New w2 (.cells #[.int .i64 0,.int .u8 0,.int .u32 0,.int .u64 0] T.pool_block) B1 w3→storeP w3 ⟨B1,0,none⟩ [.int .i64 x3,.int .u8 x4,.int .u32 x5,.int .u64 x6] fun w4=>∃ x7,w4.cell? ⟨B1,0,none⟩= some (.int .i64 x7)∧br (x7 != 2) (nilC p fun q3=>∃ p1,w4.cell? q3=some (.pointer p1)∧CallsR prog K.nand_Chip_Bad #[.pointer p1,.int .i64 x2] w4 fun v2 w5=>∃ b2,v2= .bool b2∧br (!b2) (J1 (IntKind.i64.wrap (x1+1)) (IntKind.i64.wrap (x2+1)) w5∧μ1 (IntKind.i64.wrap (x1+1)) (IntKind.i64.wrap (x2+1)) w5 < μ1 x1 x2 w2) (J1 x1 (IntKind.i64.wrap (x2+1)) w5∧μ1 x1 (IntKind.i64.wrap (x2+1)) w5 < μ1 x1 x2 w2)) (J1 x1 (IntKind.i64.wrap (x2+1)) w4∧μ1 x1 (IntKind.i64.wrap (x2+1)) w4 < μ1 x1 x2 w2)) (R (.int .i64 x1) w2))
theorem pool_Pool_Blanks.sh {p:Option Addr} {w:World} {R:Value→World→Prop} (h:pool_Pool_Blanks.body p w R) :
  CallsR prog K.pool_Pool_Blanks #[.pointer p] w R :=
 calls_body follows (f:=K.pool_Pool_Blanks) Tryz.func75 ([]) ([(5,[0,11,12],[3,13],[.int .i64 0,.int .i64 0])])
  (Eq.mp (by kernel_rfl) h)
def bits_Mul.body (x:Int) (y:Int) (w:World) (R:Value→World→Prop):Prop :=
 CallsR prog K.bits_Mul64 #[.int .u64 x,.int .u64 y] w fun v1 w1=>∃ x1 x2,v1= .tuple #[.int .u64 x1,.int .u64 x2]∧R (.tuple #[.int .u64 x1,.int .u64 x2]) w1
theorem bits_Mul.sh {x:Int} {y:Int} {w:World} {R:Value→World→Prop} (h:bits_Mul.body x y w R) :
  CallsR prog K.bits_Mul #[.int .u64 x,.int .u64 y] w R :=
 calls_body follows (f:=K.bits_Mul) Tryz.func77 ([]) ([])
  (Eq.mp (by kernel_rfl) h)
def pool_Scan.body (y0a:Option Addr) (w:World) (R:Value→World→Prop):Prop :=
 ∃ J1:World→Prop,(br (Option.isNone y0a) (R (.tuple #[.pointer none,.int .i64 1]) w) (CallsR prog K.nand_Chip_Geo #[.pointer y0a] w fun v1 w1=>∃ x1 x2 x3 x4,v1= .agg #[.int .i64 x1,.int .i64 x2,.int .i64 x3,.int .i64 x4]∧br (x1 == 0) (R (.tuple #[.pointer none,.int .i64 1]) w1) (J1 w1)))∧(∀ w2:World,J1 w2→CallsR prog K.nand_Chip_Read #[.pointer y0a,.int .i64 0,.int .i64 0] w2 fun v2 w3=>∃ a1 l1 c1 x5,v2= .tuple #[.slice a1 l1 c1,.int .i64 x5]∧br (x5 != 0) (R (.tuple #[.pointer none,.int .i64 x5]) w3) (CallsR prog K.nand_Chip_Geo #[.pointer y0a] w3 fun v3 w4=>∃ x6 x7 x8 x9,v3= .agg #[.int .i64 x6,.int .i64 x7,.int .i64 x8,.int .i64 x9]∧makeSliceP T.pool_block 4 24 [.int .i64 0,.int .u8 0,.int .u32 0,.int .u64 0] x6 x6 w4 fun a2 l2 c2 w5=>∀ B1 w6,New w5 (.cells #[.pointer y0a,.slice a2 l2 c2,.int .u64 0,.int .i64 0] T.pool_Pool) B1 w6→∃ a3 l3 c3,w6.cell? (Addr.add ⟨B1,0,none⟩ 1)=some (.slice a3 l3 c3)∧∃ (J2:Int→World→Prop) (μ1:Int→World→Nat),J2 0 w6∧∀ x10:Int,∀ w7:World,J2 x10 w7→br (decide (x10<((l3:Nat):Int))) (CallsR prog K.pool_Pool_look #[.pointer (some ⟨B1,0,none⟩),.int .i64 x10] w7 fun v4 w8=>v4= .tuple #[]∧∃ a4 l4 c4,w8.cell? (Addr.add ⟨B1,0,none⟩ 1)=some (.slice a4 l4 c4)∧idxP a4 l4 x10 4 fun q1=>∃ x11 x12 x13,cellsAt w8 (q1.add 1) [.int .u8 x11,.int .u32 x12,.int .u64 x13] 0∧∀ B2 w9,New w8 (.cells #[.int .u8 0,.int .u32 0,.int .u64 0] T.api_Head) B2 w9→storeP w9 ⟨B2,0,none⟩ [.int .u8 x11,.int .u32 x12,.int .u64 x13] fun w10=>∀ w11:World,Drew w10 w11→∃ S1:World→Prop,S1 w11∧∃ x14,(∀ u1,S1 u1→u1.cell? (Addr.add ⟨B2,0,none⟩ 2)=some (.int .u64 x14))∧∃ x15,(∀ u2,S1 u2→u2.cell? (Addr.add ⟨B1,0,none⟩ 2)=some (.int .u64 x15))∧br (decide (x14 > x15)) (∃ x16,w11.cell? (Addr.add ⟨B2,0,none⟩ 2)=some (.int .u64 x16)∧storeP w11 (Addr.add ⟨B1,0,none⟩ 2) [.int .u64 x16] fun w12=>storeP w12 (Addr.add ⟨B1,0,none⟩ 3) [.int .i64 (IntKind.i64.wrap (x10+1))] fun w13=>J2 (IntKind.i64.wrap (x10+1)) w13∧μ1 (IntKind.i64.wrap (x10+1)) w13 < μ1 x10 w7) (∃ x17,(∀ u3,S1 u3→u3.cell? (Addr.add ⟨B2,0,none⟩ 2)=some (.int .u64 x17))∧∃ x18,(∀ u4,S1 u4→u4.cell? (Addr.add ⟨B1,0,none⟩ 2)=some (.int .u64 x18))∧br (x17 == x18) (∃ x19,(∀ u5,S1 u5→u5.cell? (Addr.add ⟨B2,0,none⟩ 2)=some (.int .u64 x19))∧br (decide (x19 > 0)) (∃ x20,w11.cell? (Addr.add ⟨B2,0,none⟩ 2)=some (.int .u64 x20)∧storeP w11 (Addr.add ⟨B1,0,none⟩ 2) [.int .u64 x20] fun w14=>storeP w14 (Addr.add ⟨B1,0,none⟩ 3) [.int .i64 (IntKind.i64.wrap (x10+1))] fun w15=>J2 (IntKind.i64.wrap (x10+1)) w15∧μ1 (IntKind.i64.wrap (x10+1)) w15 < μ1 x10 w7) (J2 (IntKind.i64.wrap (x10+1)) w11∧μ1 (IntKind.i64.wrap (x10+1)) w11 < μ1 x10 w7)) (J2 (IntKind.i64.wrap (x10+1)) w11∧μ1 (IntKind.i64.wrap (x10+1)) w11 < μ1 x10 w7))) (R (.tuple #[.pointer (some ⟨B1,0,none⟩),.int .i64 0]) w7)))
theorem pool_Scan.sh {y0a:Option Addr} {w:World} {R:Value→World→Prop} (h:pool_Scan.body y0a w R) :
  CallsR prog K.pool_Scan #[.pointer y0a] w R :=
 calls_body follows (f:=K.pool_Scan) Tryz.func78 ([(3,[0],[],[])]) ([(8,[6,36],[37],[.int .i64 0])])
  (Eq.mp (by kernel_rfl) h)
def log_own.body (p:Option Addr) (era:Int) (w:World) (R:Value→World→Prop):Prop :=
 ∀ B1 w1,New w (.cells #[.int .u32 era] T.uint32) B1 w1→CallsR prog K.pool_Pool_Taken #[.pointer p] w1 fun v1 w2=>∃ a1 l1 c1,v1= .slice a1 l1 c1∧CallsR prog K.slices_DeleteFunc_api_Taken #[.slice a1 l1 c1,.func (.func K.log_own_1) #[] #[.pointer (some ⟨B1,0,none⟩)]] w2 fun v2 w3=>∃ a2 l2 c2,v2= .slice a2 l2 c2∧R (.slice a2 l2 c2) w3
theorem log_own.sh {p:Option Addr} {era:Int} {w:World} {R:Value→World→Prop} (h:log_own.body p era w R) :
  CallsR prog K.log_own #[.pointer p,.int .u32 era] w R :=
 calls_body follows (f:=K.log_own) Tryz.func79 ([]) ([])
  (Eq.mp (by kernel_rfl) h)
def slices_IndexFunc_api_Taken.body (s:Option Addr) (sL sC:Nat) (f:Value) (w:World) (R:Value→World→Prop):Prop :=
 ∃ (J1:Int→World→Prop) (μ1:Int→World→Nat),J1 0 w∧∀ x1:Int,∀ w1:World,J1 x1 w1→br (decide (x1<((sL:Nat):Int))) (idxP s sL x1 5 fun q1=>∃ x2 x3 x4 x5 b1,cellsAt w1 q1 [.int .i64 x2,.int .u8 x3,.int .u32 x4,.int .u64 x5,.bool b1] 0∧callT f [.agg #[.int .i64 x2,.int .u8 x3,.int .u32 x4,.int .u64 x5,.bool b1]] w1 fun v1 w2=>∃ b2,v1= .bool b2∧br b2 (R (.int .i64 x1) w2) (J1 (IntKind.i64.wrap (x1+1)) w2∧μ1 (IntKind.i64.wrap (x1+1)) w2 < μ1 x1 w1)) (R (.int .i64 (-1)) w1)
theorem slices_IndexFunc_api_Taken.sh {s:Option Addr} {sL sC:Nat} {f:Value} {w:World} {R:Value→World→Prop} (h:slices_IndexFunc_api_Taken.body s sL sC f w R) :
  CallsR prog K.slices_IndexFunc_api_Taken #[.slice s sL sC,f] w R :=
 calls_body follows (f:=K.slices_IndexFunc_api_Taken) Tryz.func80 ([]) ([(2,[0,1,7],[8],[.int .i64 0])])
  (Eq.mp (by kernel_rfl) h)
def pack_Pages.body (y0a:Int) (y1a:Option Addr) (y1aL y1aC:Nat) (w:World) (R:Value→World→Prop):Prop :=
 CallsR prog K.pack_cuts #[.int .i64 y0a,.slice y1a y1aL y1aC] w fun v1 w1=>∃ a1 l1 c1 x1,v1= .tuple #[.slice a1 l1 c1,.int .i64 x1]∧br (x1 != 0) (R (.tuple #[.slice none 0 0,.int .i64 x1]) w1) (∃ (J1:Option Addr→Nat→Nat→Int→World→Prop) (μ1:Option Addr→Nat→Nat→Int→World→Nat),J1 none 0 0 0 w1∧∀ (a2:Option Addr) (l2 c2:Nat),∀ x2:Int,∀ w2:World,J1 a2 l2 c2 x2 w2→br (decide (x2<((y1aL:Nat):Int))) (idxP y1a y1aL x2 5 fun q1=>∃ x3 x4 s1 x5 a3 l3 c3,cellsAt w2 q1 [.int .i64 x3,.int .u8 x4,.string s1,.int .i64 x5,.slice a3 l3 c3] 0∧∀ B1 w3,New w2 (.cells #[.int .i64 0,.int .u8 0,.string (⟨#[]⟩: ByteArray),.int .i64 0,.slice none 0 0] T.api_Fact) B1 w3→storeP w3 ⟨B1,0,none⟩ [.int .i64 x3,.int .u8 x4,.string s1,.int .i64 x5,.slice a3 l3 c3] fun w4=>∃ x6 x7 s2 x8,cellsAt w4 ⟨B1,0,none⟩ [.int .i64 x6,.int .u8 x7,.string s2,.int .i64 x8] 0∧∃ a4 l4 c4,w4.cell? (Addr.add ⟨B1,0,none⟩ 4)=some (.slice a4 l4 c4)∧∀ B2 w5,New w4 (.cells #[.int .i64 x6,.int .u8 x7,.string s2,.int .i64 x8,.slice a4 l4 c4,.bool false] T.api_Change) B2 w5→appendP T.api_Change 6 72 [.int .i64 0,.int .u8 0,.string (⟨#[]⟩: ByteArray),.int .i64 0,.slice none 0 0,.bool false] a2 l2 c2 (.slice (some ⟨B2,0,none⟩) 1 1) w5 fun a5 l5 c5 w6=>J1 a5 l5 c5 (IntKind.i64.wrap (x2+1)) w6∧μ1 a5 l5 c5 (IntKind.i64.wrap (x2+1)) w6 < μ1 a2 l2 c2 x2 w2) (∃ (J2:Option Addr→Nat→Nat→Int→World→Prop) (μ2:Option Addr→Nat→Nat→Int→World→Nat),J2 none 0 0 0 w2∧∀ (a6:Option Addr) (l6 c6:Nat),∀ x9:Int,∀ w7:World,J2 a6 l6 c6 x9 w7→br (decide (x9<((l1:Nat):Int))) (idxP a1 l1 x9 1 fun q2=>∃ x10,w7.cell? q2=some (.int .i64 x10)∧br (decide ((IntKind.i64.wrap (x9+1))<((l1:Nat):Int))) (idxP a1 l1 (IntKind.i64.wrap (x9+1)) 1 fun q3=>∃ x11,w7.cell? q3=some (.int .i64 x11)∧sliceP 6 a2 l2 c2 (some x10) (some x11) (some x11) fun a7 l7 c7=>CallsR prog K.rec_Put #[.int .i64 y0a,.slice a7 l7 c7] w7 fun v2 w8=>∃ a8 l8 c8 x12,v2= .tuple #[.slice a8 l8 c8,.int .i64 x12]∧br (x12 != 0) (R (.tuple #[.slice none 0 0,.int .i64 x12]) w8) (∀ B3 w9,New w8 (.cells #[.slice a8 l8 c8] T.L_uint8) B3 w9→appendP T.L_uint8 1 24 [.slice none 0 0] a6 l6 c6 (.slice (some ⟨B3,0,none⟩) 1 1) w9 fun a9 l9 c9 w10=>J2 a9 l9 c9 (IntKind.i64.wrap (x9+1)) w10∧μ2 a9 l9 c9 (IntKind.i64.wrap (x9+1)) w10 < μ2 a6 l6 c6 x9 w7)) (sliceP 6 a2 l2 c2 (some x10) (some ((y1aL:Nat):Int)) (some ((y1aL:Nat):Int)) fun a10 l10 c10=>CallsR prog K.rec_Put #[.int .i64 y0a,.slice a10 l10 c10] w7 fun v3 w11=>∃ a11 l11 c11 x13,v3= .tuple #[.slice a11 l11 c11,.int .i64 x13]∧br (x13 != 0) (R (.tuple #[.slice none 0 0,.int .i64 x13]) w11) (∀ B4 w12,New w11 (.cells #[.slice a11 l11 c11] T.L_uint8) B4 w12→appendP T.L_uint8 1 24 [.slice none 0 0] a6 l6 c6 (.slice (some ⟨B4,0,none⟩) 1 1) w12 fun a12 l12 c12 w13=>J2 a12 l12 c12 (IntKind.i64.wrap (x9+1)) w13∧μ2 a12 l12 c12 (IntKind.i64.wrap (x9+1)) w13 < μ2 a6 l6 c6 x9 w7))) (R (.tuple #[.slice a6 l6 c6,.int .i64 0]) w7)))
theorem pack_Pages.sh {y0a:Int} {y1a:Option Addr} {y1aL y1aC:Nat} {w:World} {R:Value→World→Prop} (h:pack_Pages.body y0a y1a y1aL y1aC w R) :
  CallsR prog K.pack_Pages #[.int .i64 y0a,.slice y1a y1aL y1aC] w R :=
 calls_body follows (f:=K.pack_Pages) Tryz.func81 ([]) ([(6,[0,1,6,26,27],[8,28],[.slice none 0 0,.int .i64 0]),(12,[0,1,6,8,41,42],[11,43],[.slice none 0 0,.int .i64 0])])
  (Eq.mp (by kernel_rfl) h)
def log_Log_anew_1.body (y0a:Addr) (y1a:Addr) (w:World) (R:Value→World→Prop):Prop :=
 ∃ p1,w.cell? y0a=some (.pointer p1)∧CallsR prog K.log_Log_take #[.pointer p1] w fun v1 w1=>∃ x1,v1= .int .i64 x1∧∃ p2,w1.cell? y0a=some (.pointer p2)∧nilC p2 fun q1=>∃ p3,w1.cell? q1=some (.pointer p3)∧CallsR prog K.pool_Pool_Last #[.pointer p3] w1 fun v2 w2=>∃ x2,v2= .int .u64 x2∧storeP w2 y1a [.int .u64 x2] fun w3=>R (.int .i64 x1) w3
theorem log_Log_anew_1.sh {y0a:Addr} {y1a:Addr} {w:World} {R:Value→World→Prop} (h:log_Log_anew_1.body y0a y1a w R) :
  CallsR prog K.log_Log_anew_1 #[.pointer (some y0a),.pointer (some y1a)] w R :=
 calls_body follows (f:=K.log_Log_anew_1) Tryz.func82 ([]) ([])
  (Eq.mp (by kernel_rfl) h)
def log_Log_take.body (l:Option Addr) (w:World) (R:Value→World→Prop):Prop :=
 ∀ w1:World,Drew w w1→∃ S1:World→Prop,S1 w1∧nilC l fun q1=>∃ p1,(∀ u1,S1 u1→u1.cell? q1=some (.pointer p1))∧nilC l fun q2=>∃ x1,(∀ u2,S1 u2→u2.cell? (q2.add 1)=some (.int .u32 x1))∧CallsR prog K.pool_Pool_Take #[.pointer p1,.int .u8 1,.int .u32 x1] w1 fun v1 w2=>∃ x2 x3,v1= .tuple #[.int .i64 x2,.int .i64 x3]∧br (x3 == 0) (nilC l fun q3=>storeP w2 (q3.add 3) [.int .i64 x2] fun w3=>nilC l fun q4=>storeP w3 (q4.add 4) [.int .i64 1] fun w4=>R (.int .i64 x3) w4) (R (.int .i64 x3) w2)
theorem log_Log_take.sh {l:Option Addr} {w:World} {R:Value→World→Prop} (h:log_Log_take.body l w R) :
  CallsR prog K.log_Log_take #[.pointer l] w R :=
 calls_body follows (f:=K.log_Log_take) Tryz.func83 ([]) ([])
  (Eq.mp (by kernel_rfl) h)
def pool_Pool_Last.body (p:Option Addr) (w:World) (R:Value→World→Prop):Prop :=
 CallsR prog K.pool_Pool_off #[.pointer p] w fun v1 w1=>∃ b1,v1= .bool b1∧br b1 (R (.int .u64 0) w1) (nilC p fun q1=>∃ x1,w1.cell? (q1.add 2)=some (.int .u64 x1)∧R (.int .u64 x1) w1)
theorem pool_Pool_Last.sh {p:Option Addr} {w:World} {R:Value→World→Prop} (h:pool_Pool_Last.body p w R) :
  CallsR prog K.pool_Pool_Last #[.pointer p] w R :=
 calls_body follows (f:=K.pool_Pool_Last) Tryz.func84 ([]) ([])
  (Eq.mp (by kernel_rfl) h)
def log_Log_anew_2.body (y0a:Addr) (y1a:Addr) (w:World) (R:Value→World→Prop):Prop :=
 ∃ p1,w.cell? y0a=some (.pointer p1)∧∃ a1 l1 c1,w.cell? y1a=some (.slice a1 l1 c1)∧CallsR prog K.log_Log_write #[.pointer p1,.slice a1 l1 c1] w fun v1 w1=>∃ x1,v1= .int .i64 x1∧R (.int .i64 x1) w1
theorem log_Log_anew_2.sh {y0a:Addr} {y1a:Addr} {w:World} {R:Value→World→Prop} (h:log_Log_anew_2.body y0a y1a w R) :
  CallsR prog K.log_Log_anew_2 #[.pointer (some y0a),.pointer (some y1a)] w R :=
 calls_body follows (f:=K.log_Log_anew_2) Tryz.func85 ([]) ([])
  (Eq.mp (by kernel_rfl) h)
def log_Log_anew_3.body (y0a:Addr) (y1a:Addr) (y2a:Addr) (w:World) (R:Value→World→Prop):Prop :=
 ∃ x1,w.cell? y0a=some (.int .i64 x1)∧∃ x2,w.cell? y1a=some (.int .u64 x2)∧CallsR prog K.rec_PutDrop #[.int .i64 x1,.int .u64 x2] w fun v1 w1=>∃ a1 l1 c1 x3,v1= .tuple #[.slice a1 l1 c1,.int .i64 x3]∧∃ p1,w1.cell? y2a=some (.pointer p1)∧CallsR prog K.log_Log_write #[.pointer p1,.slice a1 l1 c1] w1 fun v2 w2=>∃ x4,v2= .int .i64 x4∧R (.int .i64 x4) w2
theorem log_Log_anew_3.sh {y0a:Addr} {y1a:Addr} {y2a:Addr} {w:World} {R:Value→World→Prop} (h:log_Log_anew_3.body y0a y1a y2a w R) :
  CallsR prog K.log_Log_anew_3 #[.pointer (some y0a),.pointer (some y1a),.pointer (some y2a)] w R :=
 calls_body follows (f:=K.log_Log_anew_3) Tryz.func86 ([]) ([])
  (Eq.mp (by kernel_rfl) h)
def rec_PutDrop.body (size:Int) (seq:Int) (w:World) (R:Value→World→Prop):Prop :=
 br (seq == 0) (R (.tuple #[.slice none 0 0,.int .i64 2]) w) (CallsR prog K.ends_Put #[.int .u64 seq,.int .i64 8] w fun v1 w1=>∃ a1 l1 c1 x1,v1= .tuple #[.slice a1 l1 c1,.int .i64 x1]∧CallsR prog K.seal_Put #[.int .i64 size,.int .u8 3,.slice a1 l1 c1] w1 fun v2 w2=>∃ a2 l2 c2 x2,v2= .tuple #[.slice a2 l2 c2,.int .i64 x2]∧R (.tuple #[.slice a2 l2 c2,.int .i64 x2]) w2)
theorem rec_PutDrop.sh {size:Int} {seq:Int} {w:World} {R:Value→World→Prop} (h:rec_PutDrop.body size seq w R) :
  CallsR prog K.rec_PutDrop #[.int .i64 size,.int .u64 seq] w R :=
 calls_body follows (f:=K.rec_PutDrop) Tryz.func87 ([]) ([])
  (Eq.mp (by kernel_rfl) h)
def pool_Pool_Free.body (p:Option Addr) (i:Int) (w:World) (R:Value→World→Prop):Prop :=
 CallsR prog K.pool_Pool_off #[.pointer p] w fun v1 w1=>∃ b1,v1= .bool b1∧br b1 (R (.int .i64 1) w1) (br (decide (i<0)) (R (.int .i64 12) w1) (nilC p fun q1=>∃ a1 l1 c1,w1.cell? (q1.add 1)=some (.slice a1 l1 c1)∧br (decide (i≥((l1:Nat):Int))) (R (.int .i64 12) w1) (nilC p fun q2=>∃ a2 l2 c2,w1.cell? (q2.add 1)=some (.slice a2 l2 c2)∧idxP a2 l2 i 4 fun q3=>∃ x1,w1.cell? q3=some (.int .i64 x1)∧br (x1 != 2) (R (.int .i64 12) w1) (nilC p fun q4=>∃ p1,w1.cell? q4=some (.pointer p1)∧CallsR prog K.nand_Chip_Bad #[.pointer p1,.int .i64 i] w1 fun v2 w2=>∃ b2,v2= .bool b2∧br b2 (R (.int .i64 12) w2) (nilC p fun q5=>∃ p2,w2.cell? q5=some (.pointer p2)∧CallsR prog K.nand_Chip_Erase #[.pointer p2,.int .i64 i] w2 fun v3 w3=>∃ x2,v3= .int .i64 x2∧CallsR prog K.pool_Pool_look #[.pointer p,.int .i64 i] w3 fun v4 w4=>v4= .tuple #[]∧br (x2 == 9) (R (.int .i64 0) w4) (R (.int .i64 x2) w4))))))
theorem pool_Pool_Free.sh {p:Option Addr} {i:Int} {w:World} {R:Value→World→Prop} (h:pool_Pool_Free.body p i w R) :
  CallsR prog K.pool_Pool_Free #[.pointer p,.int .i64 i] w R :=
 calls_body follows (f:=K.pool_Pool_Free) Tryz.func88 ([]) ([])
  (Eq.mp (by kernel_rfl) h)
def rec_body.body (l:Option Addr) (lL lC:Nat) (w:World) (R:Value→World→Prop):Prop :=
 br (decide (((lL:Nat):Int)<1)) (R (.tuple #[.slice none 0 0,.bool false]) w) (br (decide (((lL:Nat):Int) > 255)) (R (.tuple #[.slice none 0 0,.bool false]) w) (∀ B1 w1,New w (.cells #[.int .u8 (IntKind.u8.wrap ((lL:Nat):Int))] T.uint8) B1 w1→∃ (J1:Option Addr→Nat→Nat→Int→World→Prop) (μ1:Option Addr→Nat→Nat→Int→World→Nat),J1 (some ⟨B1,0,none⟩) 1 1 0 w1∧∀ (a1:Option Addr) (l1 c1:Nat),∀ x1:Int,∀ w2:World,J1 a1 l1 c1 x1 w2→br (decide (x1<((lL:Nat):Int))) (idxP l lL x1 6 fun q1=>∃ x2 x3 s1 x4 a2 l2 c2 b1,cellsAt w2 q1 [.int .i64 x2,.int .u8 x3,.string s1,.int .i64 x4,.slice a2 l2 c2,.bool b1] 0∧∀ B2 w3,New w2 (.cells #[.int .i64 0,.int .u8 0,.string (⟨#[]⟩: ByteArray),.int .i64 0,.slice none 0 0,.bool false] T.api_Change) B2 w3→storeP w3 ⟨B2,0,none⟩ [.int .i64 x2,.int .u8 x3,.string s1,.int .i64 x4,.slice a2 l2 c2,.bool b1] fun w4=>∃ x5 x6 s2 x7 a3 l3 c3 b2,cellsAt w4 ⟨B2,0,none⟩ [.int .i64 x5,.int .u8 x6,.string s2,.int .i64 x7,.slice a3 l3 c3,.bool b2] 0∧CallsR prog K.rec_change #[.agg #[.int .i64 x5,.int .u8 x6,.string s2,.int .i64 x7,.slice a3 l3 c3,.bool b2]] w4 fun v1 w5=>∃ a4 l4 c4 b3,v1= .tuple #[.slice a4 l4 c4,.bool b3]∧br (!b3) (R (.tuple #[.slice none 0 0,.bool false]) w5) (appendP T.uint8 1 1 [.int .u8 0] a1 l1 c1 (.slice a4 l4 c4) w5 fun a5 l5 c5 w6=>J1 a5 l5 c5 (IntKind.i64.wrap (x1+1)) w6∧μ1 a5 l5 c5 (IntKind.i64.wrap (x1+1)) w6 < μ1 a1 l1 c1 x1 w2)) (R (.tuple #[.slice a1 l1 c1,.bool true]) w2)))
theorem rec_body.sh {l:Option Addr} {lL lC:Nat} {w:World} {R:Value→World→Prop} (h:rec_body.body l lL lC w R) :
  CallsR prog K.rec_body #[.slice l lL lC] w R :=
 calls_body follows (f:=K.rec_body) Tryz.func89 ([]) ([(5,[21,22],[4,23],[.slice none 0 0,.int .i64 0])])
  (Eq.mp (by kernel_rfl) h)
def seal_Put.body (y0a:Int) (y1a:Int) (y2a:Option Addr) (y2aL y2aC:Nat) (w:World) (R:Value→World→Prop):Prop :=
 ∃ J1:World→Prop,(CallsR prog K.seal_isSize #[.int .i64 y0a] w fun v1 w1=>∃ b1,v1= .bool b1∧br (!b1) (R (.tuple #[.slice none 0 0,.int .i64 2]) w1) (br (decide (y1a<1)) (R (.tuple #[.slice none 0 0,.int .i64 2]) w1) (br (decide (y1a > 7)) (R (.tuple #[.slice none 0 0,.int .i64 2]) w1) (CallsR prog K.seal_Body #[.int .i64 y0a] w1 fun v2 w2=>∃ x1,v2= .int .i64 x1∧br (decide (((y2aL:Nat):Int) > x1)) (R (.tuple #[.slice none 0 0,.int .i64 3]) w2) (J1 w2)))))∧(∀ w3:World,J1 w3→makeSliceP T.uint8 1 1 [.int .u8 0] y0a y0a w3 fun a1 l1 c1 w4=>∃ (J2:Int→World→Prop) (μ1:Int→World→Nat),J2 0 w4∧∀ x2:Int,∀ w5:World,J2 x2 w5→br (decide (x2<((l1:Nat):Int))) (idxP a1 l1 x2 1 fun q1=>storeP w5 q1 [.int .u8 255] fun w6=>J2 (IntKind.i64.wrap (x2+1)) w6∧μ1 (IntKind.i64.wrap (x2+1)) w6 < μ1 x2 w5) (CallsR prog K.ends_Put #[.int .u64 (IntKind.u64.wrap ((y2aL:Nat):Int)),.int .i64 2] w5 fun v3 w7=>∃ a2 l2 c2 x3,v3= .tuple #[.slice a2 l2 c2,.int .i64 x3]∧idxP a1 l1 (2:Int) 1 fun q2=>storeP w7 q2 [.int .u8 y1a] fun w8=>sliceP 1 a1 l1 c1 (some (3:Int)) none none fun a3 l3 c3=>copyP 1 a3 l3 (.slice a2 l2 c2) w8 fun x4 w9=>sliceP 1 a1 l1 c1 (some (5:Int)) none none fun a4 l4 c4=>copyP 1 a4 l4 (.slice y2a y2aL y2aC) w9 fun x5 w10=>sliceP 1 a1 l1 c1 (some (2:Int)) none none fun a5 l5 c5=>CallsR prog K.seal_Noughts #[.slice a5 l5 c5] w10 fun v4 w11=>∃ x6,v4= .int .i64 x6∧CallsR prog K.ends_Put #[.int .u64 (IntKind.u64.wrap x6),.int .i64 2] w11 fun v5 w12=>∃ a6 l6 c6 x7,v5= .tuple #[.slice a6 l6 c6,.int .i64 x7]∧copyP 1 a1 l1 (.slice a6 l6 c6) w12 fun x8 w13=>R (.tuple #[.slice a1 l1 c1,.int .i64 0]) w13))
theorem seal_Put.sh {y0a:Int} {y1a:Int} {y2a:Option Addr} {y2aL y2aC:Nat} {w:World} {R:Value→World→Prop} (h:seal_Put.body y0a y1a y2a y2aL y2aC w R) :
  CallsR prog K.seal_Put #[.int .i64 y0a,.int .u8 y1a,.slice y2a y2aL y2aC] w R :=
 calls_body follows (f:=K.seal_Put) Tryz.func90 ([(5,[0,1,2],[],[])]) ([(7,[1,2,8,35],[36],[.int .i64 0])])
  (Eq.mp (by kernel_rfl) h)
def pool_Pool_off.body (p:Option Addr) (w:World) (R:Value→World→Prop):Prop :=
 br (Option.isNone p) (R (.bool true) w) (nilC p fun q1=>∃ a1 l1 c1,w.cell? (q1.add 1)=some (.slice a1 l1 c1)∧R (.bool (Option.isNone a1)) w)
theorem pool_Pool_off.sh {p:Option Addr} {w:World} {R:Value→World→Prop} (h:pool_Pool_off.body p w R) :
  CallsR prog K.pool_Pool_off #[.pointer p] w R :=
 calls_body follows (f:=K.pool_Pool_off) Tryz.func91 ([]) ([])
  (Eq.mp (by kernel_rfl) h)
def fact_isOrdered.body (l:Option Addr) (lL lC:Nat) (w:World) (R:Value→World→Prop):Prop :=
 ∃ (J1:Int→World→Prop) (μ1:Int→World→Nat),J1 1 w∧∀ x1:Int,∀ w1:World,J1 x1 w1→br (decide (x1<((lL:Nat):Int))) (∀ w2:World,Drew w1 w2→∃ S1:World→Prop,S1 w2∧idxP l lL (IntKind.i64.wrap (x1 - 1)) 5 fun q1=>∃ x2 x3 s1 x4,(∀ u1,S1 u1→cellsAt u1 q1 [.int .i64 x2,.int .u8 x3,.string s1,.int .i64 x4] 0)∧idxP l lL x1 5 fun q2=>∃ x5 x6 s2 x7,(∀ u2,S1 u2→cellsAt u2 q2 [.int .i64 x5,.int .u8 x6,.string s2,.int .i64 x7] 0)∧CallsR prog K.fact_Before #[.agg #[.int .i64 x2,.int .u8 x3,.string s1,.int .i64 x4],.agg #[.int .i64 x5,.int .u8 x6,.string s2,.int .i64 x7]] w2 fun v1 w3=>∃ b1,v1= .bool b1∧br (!b1) (R (.bool false) w3) (J1 (IntKind.i64.wrap (x1+1)) w3∧μ1 (IntKind.i64.wrap (x1+1)) w3 < μ1 x1 w1)) (R (.bool true) w1)
theorem fact_isOrdered.sh {l:Option Addr} {lL lC:Nat} {w:World} {R:Value→World→Prop} (h:fact_isOrdered.body l lL lC w R) :
  CallsR prog K.fact_isOrdered #[.slice l lL lC] w R :=
 calls_body follows (f:=K.fact_isOrdered) Tryz.func92 ([]) ([(2,[0],[3],[.int .i64 0])])
  (Eq.mp (by kernel_rfl) h)
def fact_own.body (l:Option Addr) (lL lC:Nat) (w:World) (R:Value→World→Prop):Prop :=
 ∀ B1 w1,New w (.cells #[.slice l lL lC] T.L_api_Fact) B1 w1→R (.func (.func K.fact_own_1) #[] #[.pointer (some ⟨B1,0,none⟩)]) w1
theorem fact_own.sh {l:Option Addr} {lL lC:Nat} {w:World} {R:Value→World→Prop} (h:fact_own.body l lL lC w R) :
  CallsR prog K.fact_own #[.slice l lL lC] w R :=
 calls_body follows (f:=K.fact_own) Tryz.func93 ([]) ([])
  (Eq.mp (by kernel_rfl) h)
end
section
set_option maxRecDepth 100000
open Go.Proofs
def fact_place.body (l:Option Addr) (lL lC:Nat) (k_Ino:Int) (k_What:Int) (k_Name:ByteArray) (k_Chunk:Int) (w:World) (R:Value→World→Prop):Prop :=
 ∀ B1 w1,New w (.cells #[.slice l lL lC] T.L_api_Fact) B1 w1→∀ B2 w2,New w1 (.cells #[.int .i64 k_Ino,.int .u8 k_What,.string k_Name,.int .i64 k_Chunk] T.api_Key) B2 w2→∃ a1 l1 c1,w2.cell? ⟨B1,0,none⟩= some (.slice a1 l1 c1)∧CallsR prog K.sort_Search #[.int .i64 ((l1:Nat):Int),.func (.func K.fact_place_1) #[] #[.pointer (some ⟨B1,0,none⟩),.pointer (some ⟨B2,0,none⟩)]] w2 fun v1 w3=>∃ x1,v1= .int .i64 x1∧∀ w4:World,Drew w3 w4→∃ S1:World→Prop,S1 w4∧∃ a2 l2 c2,(∀ u1,S1 u1→u1.cell? ⟨B1,0,none⟩= some (.slice a2 l2 c2))∧br (decide (x1<((l2:Nat):Int))) (∃ a3 l3 c3,(∀ u2,S1 u2→u2.cell? ⟨B1,0,none⟩= some (.slice a3 l3 c3))∧idxP a3 l3 x1 5 fun q1=>∃ x2 x3 s1 x4,(∀ u3,S1 u3→cellsAt u3 q1 [.int .i64 x2,.int .u8 x3,.string s1,.int .i64 x4] 0)∧∃ x5 x6 s2 x7,(∀ u4,S1 u4→cellsAt u4 ⟨B2,0,none⟩ [.int .i64 x5,.int .u8 x6,.string s2,.int .i64 x7] 0)∧R (.tuple #[.int .i64 x1,.bool ((x2 == x5) && ((x3 == x6) && ((s1.toList == s2.toList) && ((x4 == x7) && true))))]) w4) (R (.tuple #[.int .i64 x1,.bool false]) w4)
theorem fact_place.sh {l:Option Addr} {lL lC:Nat} {k_Ino:Int} {k_What:Int} {k_Name:ByteArray} {k_Chunk:Int} {w:World} {R:Value→World→Prop} (h:fact_place.body l lL lC k_Ino k_What k_Name k_Chunk w R) :
  CallsR prog K.fact_place #[.slice l lL lC,.agg #[.int .i64 k_Ino,.int .u8 k_What,.string k_Name,.int .i64 k_Chunk]] w R :=
 calls_body follows (f:=K.fact_place) Tryz.func94 ([]) ([])
  (Eq.mp (by kernel_rfl) h)
def slices_Delete_api_Fact.body (s:Option Addr) (sL sC:Nat) (i:Int) (j:Int) (w:World) (R:Value→World→Prop):Prop :=
 sliceP 5 s sL sC (some i) (some j) (some ((sL:Nat):Int)) fun a1 l1 c1=>br (i == j) (R (.slice s sL sC) w) (∀ w1:World,Drew w w1→∃ S1:World→Prop,S1 w1∧sliceP 5 s sL sC none (some i) none fun a2 l2 c2=>sliceP 5 s sL sC (some j) none none fun a3 l3 c3=>appendP T.api_Fact 5 64 [.int .i64 0,.int .u8 0,.string (⟨#[]⟩: ByteArray),.int .i64 0,.slice none 0 0] a2 l2 c2 (.slice a3 l3 c3) w1 fun a4 l4 c4 w2=>sliceP 5 a4 l4 c4 (some ((l4:Nat):Int)) (some ((sL:Nat):Int)) none fun a5 l5 c5=>clearP [.int .i64 0,.int .u8 0,.string (⟨#[]⟩: ByteArray),.int .i64 0,.slice none 0 0] a5 l5 w2 fun w3=>R (.slice a4 l4 c4) w3)
theorem slices_Delete_api_Fact.sh {s:Option Addr} {sL sC:Nat} {i:Int} {j:Int} {w:World} {R:Value→World→Prop} (h:slices_Delete_api_Fact.body s sL sC i j w R) :
  CallsR prog K.slices_Delete_api_Fact #[.slice s sL sC,.int .i64 i,.int .i64 j] w R :=
 calls_body follows (f:=K.slices_Delete_api_Fact) Tryz.func95 ([]) ([])
  (Eq.mp (by kernel_rfl) h)
def slices_Insert_api_Fact.body (y0a:Option Addr) (y0aL y0aC:Nat) (y1a:Int) (y2a:Option Addr) (y2aL y2aC:Nat) (w:World) (R:Value→World→Prop):Prop :=
 sliceP 5 y0a y0aL y0aC (some y1a) none none fun a1 l1 c1=>br (((y2aL:Nat):Int) == 0) (R (.slice y0a y0aL y0aC) w) (br (y1a == ((y0aL:Nat):Int)) (appendP T.api_Fact 5 64 [.int .i64 0,.int .u8 0,.string (⟨#[]⟩: ByteArray),.int .i64 0,.slice none 0 0] y0a y0aL y0aC (.slice y2a y2aL y2aC) w fun a2 l2 c2 w1=>R (.slice a2 l2 c2) w1) (br (decide ((IntKind.i64.wrap (((y0aL:Nat):Int)+((y2aL:Nat):Int))) > ((y0aC:Nat):Int))) (sliceP 5 y0a y0aL y0aC none (some y1a) none fun a3 l3 c3=>appendZ T.api_Fact 5 64 [.int .i64 0,.int .u8 0,.string (⟨#[]⟩: ByteArray),.int .i64 0,.slice none 0 0] a3 l3 c3 (IntKind.i64.wrap ((IntKind.i64.wrap (((y0aL:Nat):Int)+((y2aL:Nat):Int))) - y1a)) w fun a4 l4 c4 w2=>sliceP 5 a4 l4 c4 (some y1a) none none fun a5 l5 c5=>copyP 5 a5 l5 (.slice y2a y2aL y2aC) w2 fun x1 w3=>∀ w4:World,Drew w3 w4→∃ S1:World→Prop,S1 w4∧sliceP 5 a4 l4 c4 (some (IntKind.i64.wrap (y1a+((y2aL:Nat):Int)))) none none fun a6 l6 c6=>sliceP 5 y0a y0aL y0aC (some y1a) none none fun a7 l7 c7=>copyP 5 a6 l6 (.slice a7 l7 c7) w4 fun x2 w5=>R (.slice a4 l4 c4) w5) (sliceP 5 y0a y0aL y0aC none (some (IntKind.i64.wrap (((y0aL:Nat):Int)+((y2aL:Nat):Int)))) none fun a8 l8 c8=>sliceP 5 a8 l8 c8 (some (IntKind.i64.wrap (y1a+((y2aL:Nat):Int)))) none none fun a9 l9 c9=>∃ b1,extV prog K.slices_overlaps_api_Fact [.slice y2a y2aL y2aC,.slice a9 l9 c9] w (.bool b1)∧br (!b1) (∀ w6:World,Drew w w6→∃ S2:World→Prop,S2 w6∧sliceP 5 a8 l8 c8 (some (IntKind.i64.wrap (y1a+((y2aL:Nat):Int)))) none none fun a10 l10 c10=>sliceP 5 a8 l8 c8 (some y1a) none none fun a11 l11 c11=>copyP 5 a10 l10 (.slice a11 l11 c11) w6 fun x3 w7=>sliceP 5 a8 l8 c8 (some y1a) none none fun a12 l12 c12=>copyP 5 a12 l12 (.slice y2a y2aL y2aC) w7 fun x4 w8=>R (.slice a8 l8 c8) w8) (sliceP 5 a8 l8 c8 (some ((y0aL:Nat):Int)) none none fun a13 l13 c13=>copyP 5 a13 l13 (.slice y2a y2aL y2aC) w fun x5 w9=>sliceP 5 a8 l8 c8 (some y1a) none none fun a14 l14 c14=>CallsR prog K.slices_rotateRight_api_Fact #[.slice a14 l14 c14,.int .i64 ((y2aL:Nat):Int)] w9 fun v1 w10=>v1= .tuple #[]∧R (.slice a8 l8 c8) w10))))
theorem slices_Insert_api_Fact.sh {y0a:Option Addr} {y0aL y0aC:Nat} {y1a:Int} {y2a:Option Addr} {y2aL y2aC:Nat} {w:World} {R:Value→World→Prop} (h:slices_Insert_api_Fact.body y0a y0aL y0aC y1a y2a y2aL y2aC w R) :
  CallsR prog K.slices_Insert_api_Fact #[.slice y0a y0aL y0aC,.int .i64 y1a,.slice y2a y2aL y2aC] w R :=
 calls_body follows (f:=K.slices_Insert_api_Fact) Tryz.func96 ([]) ([])
  (Eq.mp (by kernel_rfl) h)
def nand_Chip_Program.body (c:Option Addr) (block:Int) (page:Int) (b:Option Addr) (bL bC:Nat) (w:World) (R:Value→World→Prop):Prop :=
 ∀ B1 w1,New w (.cells #[.slice b bL bC] T.L_uint8) B1 w1→CallsR prog K.nand_Chip_ask #[.pointer c,.int .i64 block,.int .i64 page] w1 fun v1 w2=>∃ x1,v1= .int .i64 x1∧br (x1 != 0) (R (.int .i64 x1) w2) (∀ w3:World,Drew w2 w3→∃ S1:World→Prop,S1 w3∧∃ a1 l1 c1,(∀ u1,S1 u1→u1.cell? ⟨B1,0,none⟩= some (.slice a1 l1 c1))∧nilC c fun q1=>∃ x2,(∀ u2,S1 u2→u2.cell? (q1.add 2)=some (.int .i64 x2))∧br (((l1:Nat):Int) != x2) (R (.int .i64 2) w3) (nilC c fun q2=>∃ a2 l2 c2,w3.cell? (q2.add 5)=some (.slice a2 l2 c2)∧idxP a2 l2 block 1 fun q3=>∃ b1,w3.cell? q3=some (.bool b1)∧br b1 (R (.int .i64 9) w3) (∀ w4:World,Drew w3 w4→∃ S2:World→Prop,S2 w4∧nilC c fun q4=>∃ a3 l3 c3,(∀ u3,S2 u3→u3.cell? (q4.add 4)=some (.slice a3 l3 c3))∧idxP a3 l3 block 1 fun q5=>∃ a4 l4 c4,(∀ u4,S2 u4→u4.cell? q5=some (.slice a4 l4 c4))∧nilC c fun q6=>∃ x3,(∀ u5,S2 u5→u5.cell? (q6.add 2)=some (.int .i64 x3))∧sliceP 1 a4 l4 c4 (some (IntKind.i64.wrap (page * x3))) none none fun a5 l5 c5=>CallsR prog K.seal_Blank #[.slice a5 l5 c5] w4 fun v2 w5=>∃ b2,v2= .bool b2∧S2 w5∧br (!b2) (R (.int .i64 8) w5) (CallsR prog K.nand_Chip_page #[.pointer c,.int .i64 block,.int .i64 page] w5 fun v3 w6=>∃ a6 l6 c6,v3= .slice a6 l6 c6∧CallsR prog K.nand_Chip_done #[.pointer c,.int .i64 block,.slice a6 l6 c6,.func (.func K.nand_Chip_Program_1) #[] #[.pointer (some ⟨B1,0,none⟩)]] w6 fun v4 w7=>∃ x4,v4= .int .i64 x4∧R (.int .i64 x4) w7))))
theorem nand_Chip_Program.sh {c:Option Addr} {block:Int} {page:Int} {b:Option Addr} {bL bC:Nat} {w:World} {R:Value→World→Prop} (h:nand_Chip_Program.body c block page b bL bC w R) :
  CallsR prog K.nand_Chip_Program #[.pointer c,.int .i64 block,.int .i64 page,.slice b bL bC] w R :=
 calls_body follows (f:=K.nand_Chip_Program) Tryz.func97 ([]) ([])
  (Eq.mp (by kernel_rfl) h)
def nand_Chip_strike.body (c:Option Addr) (w:World) (R:Value→World→Prop):Prop :=
 nilC c fun q1=>∃ x1,w.cell? (q1.add 9)=some (.int .i64 x1)∧nilC c fun q2=>storeP w (q2.add 9) [.int .i64 (IntKind.i64.wrap (x1+1))] fun w1=>nilC c fun q3=>∃ a1 l1 c1,w1.cell? (q3.add 6)=some (.slice a1 l1 c1)∧br (((l1:Nat):Int) == 0) (R (.pointer none) w1) (∀ w2:World,Drew w1 w2→∃ S1:World→Prop,S1 w2∧nilC c fun q4=>∃ x2,(∀ u1,S1 u1→u1.cell? (q4.add 7)=some (.int .i64 x2))∧nilC c fun q5=>∃ a2 l2 c2,(∀ u2,S1 u2→u2.cell? (q5.add 6)=some (.slice a2 l2 c2))∧idxP a2 l2 (0:Int) 3 fun q6=>∃ x3,(∀ u3,S1 u3→u3.cell? q6=some (.int .i64 x3))∧br (decide (x2<x3)) (nilC c fun q7=>∃ x4,w2.cell? (q7.add 7)=some (.int .i64 x4)∧nilC c fun q8=>storeP w2 (q8.add 7) [.int .i64 (IntKind.i64.wrap (x4+1))] fun w3=>R (.pointer none) w3) (nilC c fun q9=>∃ a3 l3 c3,w2.cell? (q9.add 6)=some (.slice a3 l3 c3)∧idxP a3 l3 (0:Int) 3 fun q10=>∃ x5 b1 a4 l4 c4,cellsAt w2 q10 [.int .i64 x5,.bool b1,.slice a4 l4 c4] 0∧∀ B1 w4,New w2 (.cells #[.int .i64 0,.bool false,.slice none 0 0] T.api_Hit) B1 w4→storeP w4 ⟨B1,0,none⟩ [.int .i64 x5,.bool b1,.slice a4 l4 c4] fun w5=>nilC c fun q11=>∃ a5 l5 c5,w5.cell? (q11.add 6)=some (.slice a5 l5 c5)∧sliceP 3 a5 l5 c5 (some (1:Int)) none none fun a6 l6 c6=>nilC c fun q12=>storeP w5 (q12.add 6) [.slice a6 l6 c6] fun w6=>nilC c fun q13=>storeP w6 (q13.add 7) [.int .i64 0] fun w7=>R (.pointer (some ⟨B1,0,none⟩)) w7))
theorem nand_Chip_strike.sh {c:Option Addr} {w:World} {R:Value→World→Prop} (h:nand_Chip_strike.body c w R) :
  CallsR prog K.nand_Chip_strike #[.pointer c] w R :=
 calls_body follows (f:=K.nand_Chip_strike) Tryz.func100 ([]) ([])
  (Eq.mp (by kernel_rfl) h)
def carrackref06_Before.body (a_Ino:Int) (a_What:Int) (a_Name:ByteArray) (a_Chunk:Int) (b_Ino:Int) (b_What:Int) (b_Name:ByteArray) (b_Chunk:Int) (w:World) (R:Value→World→Prop):Prop :=
 ∀ B1 w1,New w (.cells #[.int .i64 a_Ino,.int .u8 a_What,.string a_Name,.int .i64 a_Chunk] T.api_Key) B1 w1→∀ B2 w2,New w1 (.cells #[.int .i64 b_Ino,.int .u8 b_What,.string b_Name,.int .i64 b_Chunk] T.api_Key) B2 w2→∃ x1,w2.cell? ⟨B1,0,none⟩= some (.int .i64 x1)∧∃ x2,w2.cell? ⟨B2,0,none⟩= some (.int .i64 x2)∧br (x1 != x2) (∃ x3,w2.cell? ⟨B1,0,none⟩= some (.int .i64 x3)∧∃ x4,w2.cell? ⟨B2,0,none⟩= some (.int .i64 x4)∧R (.bool (decide (x3<x4))) w2) (∃ x5,w2.cell? (Addr.add ⟨B1,0,none⟩ 1)=some (.int .u8 x5)∧∃ x6,w2.cell? (Addr.add ⟨B2,0,none⟩ 1)=some (.int .u8 x6)∧br (x5 != x6) (∃ x7,w2.cell? (Addr.add ⟨B1,0,none⟩ 1)=some (.int .u8 x7)∧∃ x8,w2.cell? (Addr.add ⟨B2,0,none⟩ 1)=some (.int .u8 x8)∧R (.bool (decide (x7<x8))) w2) (∃ s1,w2.cell? (Addr.add ⟨B1,0,none⟩ 2)=some (.string s1)∧∃ s2,w2.cell? (Addr.add ⟨B2,0,none⟩ 2)=some (.string s2)∧CallsR prog K.carrackref06_order #[.string s1,.string s2] w2 fun v1 w3=>∃ x9,v1= .int .i64 x9∧br (x9 != 0) (R (.bool (decide (x9<0))) w3) (∃ x10,w3.cell? (Addr.add ⟨B1,0,none⟩ 3)=some (.int .i64 x10)∧∃ x11,w3.cell? (Addr.add ⟨B2,0,none⟩ 3)=some (.int .i64 x11)∧R (.bool (decide (x10<x11))) w3)))
theorem carrackref06_Before.sh {a_Ino:Int} {a_What:Int} {a_Name:ByteArray} {a_Chunk:Int} {b_Ino:Int} {b_What:Int} {b_Name:ByteArray} {b_Chunk:Int} {w:World} {R:Value→World→Prop} (h:carrackref06_Before.body a_Ino a_What a_Name a_Chunk b_Ino b_What b_Name b_Chunk w R) :
  CallsR prog K.carrackref06_Before #[.agg #[.int .i64 a_Ino,.int .u8 a_What,.string a_Name,.int .i64 a_Chunk],.agg #[.int .i64 b_Ino,.int .u8 b_What,.string b_Name,.int .i64 b_Chunk]] w R :=
 calls_body follows (f:=K.carrackref06_Before) Tryz.func105 ([]) ([])
  (Eq.mp (by kernel_rfl) h)
def carrackref02_Put.body (size:Int) (kind:Int) (body:Option Addr) (bodyL bodyC:Nat) (w:World) (R:Value→World→Prop):Prop :=
 ∃ J1:World→Prop,(CallsR prog K.carrackref02_Size #[.int .i64 size] w fun v1 w1=>∃ b1,v1= .bool b1∧br (!b1) (R (.tuple #[.slice none 0 0,.int .i64 2]) w1) (br (decide (kind<1)) (R (.tuple #[.slice none 0 0,.int .i64 2]) w1) (br (decide (kind > 7)) (R (.tuple #[.slice none 0 0,.int .i64 2]) w1) (J1 w1))))∧(∀ w2:World,J1 w2→br (decide (((bodyL:Nat):Int) > (IntKind.i64.wrap (size - 5)))) (R (.tuple #[.slice none 0 0,.int .i64 3]) w2) ((256:Int)≠0∧(256:Int)≠0∧∀ B1 w3,New w2 (.cells #[.int .u8 0,.int .u8 0,.int .u8 kind,.int .u8 (IntKind.u8.wrap (Int.tmod ((bodyL:Nat):Int) 256)),.int .u8 (IntKind.u8.wrap (IntKind.i64.wrap (Int.tdiv ((bodyL:Nat):Int) 256)))] T.uint8) B1 w3→appendP T.uint8 1 1 [.int .u8 0] (some ⟨B1,0,none⟩) 5 5 (.slice body bodyL bodyC) w3 fun a1 l1 c1 w4=>∃ (J2:Option Addr→Nat→Nat→World→Prop) (μ1:Option Addr→Nat→Nat→World→Nat),J2 a1 l1 c1 w4∧∀ (a2:Option Addr) (l2 c2:Nat),∀ w5:World,J2 a2 l2 c2 w5→br (decide (((l2:Nat):Int)<size)) (∀ B2 w6,New w5 (.cells #[.int .u8 255] T.uint8) B2 w6→appendP T.uint8 1 1 [.int .u8 0] a2 l2 c2 (.slice (some ⟨B2,0,none⟩) 1 1) w6 fun a3 l3 c3 w7=>J2 a3 l3 c3 w7∧μ1 a3 l3 c3 w7 < μ1 a2 l2 c2 w5) (sliceP 1 a2 l2 c2 (some (2:Int)) none none fun a4 l4 c4=>CallsR prog K.carrackref02_Noughts #[.slice a4 l4 c4] w5 fun v2 w8=>∃ x1,v2= .int .i64 x1∧(256:Int)≠0∧(256:Int)≠0∧idxP a2 l2 (0:Int) 1 fun q1=>storeP w8 q1 [.int .u8 (IntKind.u8.wrap (Int.tmod x1 256))] fun w9=>idxP a2 l2 (1:Int) 1 fun q2=>storeP w9 q2 [.int .u8 (IntKind.u8.wrap (IntKind.i64.wrap (Int.tdiv x1 256)))] fun w10=>R (.tuple #[.slice a2 l2 c2,.int .i64 0]) w10)))
theorem carrackref02_Put.sh {size:Int} {kind:Int} {body:Option Addr} {bodyL bodyC:Nat} {w:World} {R:Value→World→Prop} (h:carrackref02_Put.body size kind body bodyL bodyC w R) :
  CallsR prog K.carrackref02_Put #[.int .i64 size,.int .u8 kind,.slice body bodyL bodyC] w R :=
 calls_body follows (f:=K.carrackref02_Put) Tryz.func106 ([(3,[0,1,2],[],[])]) ([(7,[0],[8],[.slice none 0 0])])
  (Eq.mp (by kernel_rfl) h)
def carrackref11_body.body (l:Option Addr) (lL lC:Nat) (w:World) (R:Value→World→Prop):Prop :=
 ∀ B1 w1,New w (.cells #[.int .u8 (IntKind.u8.wrap ((lL:Nat):Int))] T.uint8) B1 w1→∃ (J1:Option Addr→Nat→Nat→Int→World→Prop) (μ1:Option Addr→Nat→Nat→Int→World→Nat),J1 (some ⟨B1,0,none⟩) 1 1 0 w1∧∀ (a1:Option Addr) (l1 c1:Nat),∀ x1:Int,∀ w2:World,J1 a1 l1 c1 x1 w2→br (decide (x1<((lL:Nat):Int))) (idxP l lL x1 6 fun q1=>∃ x2 x3 s1 x4,cellsAt w2 q1 [.int .i64 x2,.int .u8 x3,.string s1,.int .i64 x4] 0∧CallsR prog K.carrackref06_PutKey #[.agg #[.int .i64 x2,.int .u8 x3,.string s1,.int .i64 x4]] w2 fun v1 w3=>∃ a2 l2 c2 x5,v1= .tuple #[.slice a2 l2 c2,.int .i64 x5]∧idxP l lL x1 6 fun q2=>∃ b1,w3.cell? (q2.add 5)=some (.bool b1)∧br b1 (∀ B2 w4,New w3 (.cells #[.int .u8 0] T.uint8) B2 w4→appendP T.uint8 1 1 [.int .u8 0] a1 l1 c1 (.slice (some ⟨B2,0,none⟩) 1 1) w4 fun a3 l3 c3 w5=>appendP T.uint8 1 1 [.int .u8 0] a3 l3 c3 (.slice a2 l2 c2) w5 fun a4 l4 c4 w6=>J1 a4 l4 c4 (IntKind.i64.wrap (x1+1)) w6∧μ1 a4 l4 c4 (IntKind.i64.wrap (x1+1)) w6 < μ1 a1 l1 c1 x1 w2) (idxP l lL x1 6 fun q3=>∃ a5 l5 c5,w3.cell? (q3.add 4)=some (.slice a5 l5 c5)∧CallsR prog K.carrackref01_Row #[.slice a5 l5 c5] w3 fun v2 w7=>∃ a6 l6 c6 x6,v2= .tuple #[.slice a6 l6 c6,.int .i64 x6]∧∀ B3 w8,New w7 (.cells #[.int .u8 1] T.uint8) B3 w8→appendP T.uint8 1 1 [.int .u8 0] a1 l1 c1 (.slice (some ⟨B3,0,none⟩) 1 1) w8 fun a7 l7 c7 w9=>appendP T.uint8 1 1 [.int .u8 0] a7 l7 c7 (.slice a2 l2 c2) w9 fun a8 l8 c8 w10=>appendP T.uint8 1 1 [.int .u8 0] a8 l8 c8 (.slice a6 l6 c6) w10 fun a9 l9 c9 w11=>J1 a9 l9 c9 (IntKind.i64.wrap (x1+1)) w11∧μ1 a9 l9 c9 (IntKind.i64.wrap (x1+1)) w11 < μ1 a1 l1 c1 x1 w2)) (R (.slice a1 l1 c1) w2)
theorem carrackref11_body.sh {l:Option Addr} {lL lC:Nat} {w:World} {R:Value→World→Prop} (h:carrackref11_body.body l lL lC w R) :
  CallsR prog K.carrackref11_body #[.slice l lL lC] w R :=
 calls_body follows (f:=K.carrackref11_body) Tryz.func107 ([]) ([(3,[0],[3,4],[.slice none 0 0,.int .i64 0])])
  (Eq.mp (by kernel_rfl) h)
def slices_Concat_byte.body (slices:Option Addr) (slicesL slicesC:Nat) (w:World) (R:Value→World→Prop):Prop :=
 ∃ (J1:Int→Int→World→Prop) (μ1:Int→Int→World→Nat),J1 0 0 w∧∀ x1:Int,∀ x2:Int,∀ w1:World,J1 x1 x2 w1→br (decide (x2<((slicesL:Nat):Int))) (idxP slices slicesL x2 1 fun q1=>∃ a1 l1 c1,w1.cell? q1=some (.slice a1 l1 c1)∧br (decide ((IntKind.i64.wrap (x1+((l1:Nat):Int)))<0)) (False) (J1 (IntKind.i64.wrap (x1+((l1:Nat):Int))) (IntKind.i64.wrap (x2+1)) w1∧μ1 (IntKind.i64.wrap (x1+((l1:Nat):Int))) (IntKind.i64.wrap (x2+1)) w1 < μ1 x1 x2 w1)) (CallsR prog K.slices_Grow_byte #[.slice none 0 0,.int .i64 x1] w1 fun v1 w2=>∃ a2 l2 c2,v1= .slice a2 l2 c2∧∃ (J2:Option Addr→Nat→Nat→Int→World→Prop) (μ2:Option Addr→Nat→Nat→Int→World→Nat),J2 a2 l2 c2 0 w2∧∀ (a3:Option Addr) (l3 c3:Nat),∀ x3:Int,∀ w3:World,J2 a3 l3 c3 x3 w3→br (decide (x3<((slicesL:Nat):Int))) (idxP slices slicesL x3 1 fun q2=>∃ a4 l4 c4,w3.cell? q2=some (.slice a4 l4 c4)∧appendP T.uint8 1 1 [.int .u8 0] a3 l3 c3 (.slice a4 l4 c4) w3 fun a5 l5 c5 w4=>J2 a5 l5 c5 (IntKind.i64.wrap (x3+1)) w4∧μ2 a5 l5 c5 (IntKind.i64.wrap (x3+1)) w4 < μ2 a3 l3 c3 x3 w3) (R (.slice a3 l3 c3) w3))
theorem slices_Concat_byte.sh {slices:Option Addr} {slicesL slicesC:Nat} {w:World} {R:Value→World→Prop} (h:slices_Concat_byte.body slices slicesL slicesC w R) :
  CallsR prog K.slices_Concat_byte #[.slice slices slicesL slicesC] w R :=
 calls_body follows (f:=K.slices_Concat_byte) Tryz.func111 ([]) ([(3,[0,9,10],[3,11],[.int .i64 0,.int .i64 0]),(11,[25,26],[6,27],[.slice none 0 0,.int .i64 0])])
  (Eq.mp (by kernel_rfl) h)
def carrackref06_MayKey.body (k_Ino:Int) (k_What:Int) (k_Name:ByteArray) (k_Chunk:Int) (w:World) (R:Value→World→Prop):Prop :=
 ∀ B1 w1,New w (.cells #[.int .i64 k_Ino,.int .u8 k_What,.string k_Name,.int .i64 k_Chunk] T.api_Key) B1 w1→∃ x1,w1.cell? ⟨B1,0,none⟩= some (.int .i64 x1)∧br (decide (x1<1)) (R (.bool false) w1) (∃ x2,w1.cell? ⟨B1,0,none⟩= some (.int .i64 x2)∧br (decide (x2 > 65535)) (R (.bool false) w1) (∃ x3,w1.cell? (Addr.add ⟨B1,0,none⟩ 1)=some (.int .u8 x3)∧br (x3 == 1) (∃ s1,w1.cell? (Addr.add ⟨B1,0,none⟩ 2)=some (.string s1)∧br (s1.toList == (⟨#[]⟩: ByteArray).toList) (∃ x4,w1.cell? (Addr.add ⟨B1,0,none⟩ 3)=some (.int .i64 x4)∧R (.bool (x4 == 0)) w1) (R (.bool false) w1)) (br (x3 == 2) (∃ s2,w1.cell? (Addr.add ⟨B1,0,none⟩ 2)=some (.string s2)∧CallsR prog K.carrackref05_Name #[.string s2] w1 fun v1 w2=>∃ b1,v1= .bool b1∧br b1 (∃ x5,w2.cell? (Addr.add ⟨B1,0,none⟩ 3)=some (.int .i64 x5)∧R (.bool (x5 == 0)) w2) (R (.bool false) w2)) (br (x3 == 3) (∃ s3,w1.cell? (Addr.add ⟨B1,0,none⟩ 2)=some (.string s3)∧br (s3.toList == (⟨#[]⟩: ByteArray).toList) (∃ x6,w1.cell? (Addr.add ⟨B1,0,none⟩ 3)=some (.int .i64 x6)∧br (decide (x6≥0)) (∃ x7,w1.cell? (Addr.add ⟨B1,0,none⟩ 3)=some (.int .i64 x7)∧R (.bool (decide (x7<8))) w1) (R (.bool false) w1)) (R (.bool false) w1)) (R (.bool false) w1)))))
theorem carrackref06_MayKey.sh {k_Ino:Int} {k_What:Int} {k_Name:ByteArray} {k_Chunk:Int} {w:World} {R:Value→World→Prop} (h:carrackref06_MayKey.body k_Ino k_What k_Name k_Chunk w R) :
  CallsR prog K.carrackref06_MayKey #[.agg #[.int .i64 k_Ino,.int .u8 k_What,.string k_Name,.int .i64 k_Chunk]] w R :=
 calls_body follows (f:=K.carrackref06_MayKey) Tryz.func112 ([]) ([])
  (Eq.mp (by kernel_rfl) h)
def scan_read.body (y0a:Option Addr) (y1a:Int) (w:World) (R:Value→World→Prop):Prop :=
 CallsR prog K.pool_Scan #[.pointer y0a] w fun v1 w1=>∃ p1 x1,v1= .tuple #[.pointer p1,.int .i64 x1]∧br (x1 != 0) (R (.tuple #[.slice none 0 0,.int .u64 0,.int .i64 x1]) w1) (br (y1a == 0) (R (.tuple #[.slice none 0 0,.int .u64 0,.int .i64 2]) w1) (CallsR prog K.pool_Pool_Taken #[.pointer p1] w1 fun v2 w2=>∃ a1 l1 c1,v2= .slice a1 l1 c1∧∃ (J1:Option Addr→Nat→Nat→Int→Int→World→Prop) (μ1:Option Addr→Nat→Nat→Int→Int→World→Nat),J1 none 0 0 0 0 w2∧∀ (a2:Option Addr) (l2 c2:Nat),∀ x2:Int,∀ x3:Int,∀ w3:World,J1 a2 l2 c2 x2 x3 w3→br (decide (x3<((l1:Nat):Int))) (idxP a1 l1 x3 5 fun q1=>∃ x4 x5 x6 x7 b1,cellsAt w3 q1 [.int .i64 x4,.int .u8 x5,.int .u32 x6,.int .u64 x7,.bool b1] 0∧∀ B1 w4,New w3 (.cells #[.int .i64 0,.int .u8 0,.int .u32 0,.int .u64 0,.bool false] T.api_Taken) B1 w4→storeP w4 ⟨B1,0,none⟩ [.int .i64 x4,.int .u8 x5,.int .u32 x6,.int .u64 x7,.bool b1] fun w5=>∃ x8,w5.cell? (Addr.add ⟨B1,0,none⟩ 1)=some (.int .u8 x8)∧br (x8 != 1) (J1 a2 l2 c2 x2 (IntKind.i64.wrap (x3+1)) w5∧μ1 a2 l2 c2 x2 (IntKind.i64.wrap (x3+1)) w5 < μ1 a2 l2 c2 x2 x3 w3) (∃ x9,w5.cell? (Addr.add (Addr.add ⟨B1,0,none⟩ 1) 1)=some (.int .u32 x9)∧br (x9 != y1a) (J1 a2 l2 c2 x2 (IntKind.i64.wrap (x3+1)) w5∧μ1 a2 l2 c2 x2 (IntKind.i64.wrap (x3+1)) w5 < μ1 a2 l2 c2 x2 x3 w3) (∃ x10,w5.cell? ⟨B1,0,none⟩= some (.int .i64 x10)∧∃ x11,w5.cell? (Addr.add (Addr.add ⟨B1,0,none⟩ 1) 2)=some (.int .u64 x11)∧∀ B2 w6,New w5 (.cells #[.int .i64 0,.int .u64 0,.slice none 0 0] T.scan_part) B2 w6→storeP w6 ⟨B2,0,none⟩ [.int .i64 x10,.int .u64 x11,.slice none 0 0] fun w7=>∃ x12,w7.cell? ⟨B1,0,none⟩= some (.int .i64 x12)∧CallsR prog K.scan_Pages #[.pointer y0a,.int .i64 x12] w7 fun v3 w8=>∃ a3 l3 c3 x13,v3= .tuple #[.slice a3 l3 c3,.int .i64 x13]∧storeP w8 (Addr.add ⟨B2,0,none⟩ 2) [.slice a3 l3 c3] fun w9=>∃ a4 l4 c4,w9.cell? (Addr.add ⟨B2,0,none⟩ 2)=some (.slice a4 l4 c4)∧∃ (J2:Int→Int→World→Prop) (μ2:Int→Int→World→Nat),J2 x2 0 w9∧∀ x14:Int,∀ x15:Int,∀ w10:World,J2 x14 x15 w10→br (decide (x15<((l4:Nat):Int))) (idxP a4 l4 x15 3 fun q2=>∃ x16 a5 l5 c5 x17,cellsAt w10 q2 [.int .i64 x16,.slice a5 l5 c5,.int .u64 x17] 0∧∀ B3 w11,New w10 (.cells #[.int .i64 0,.slice none 0 0,.int .u64 0] T.api_Page) B3 w11→storeP w11 ⟨B3,0,none⟩ [.int .i64 x16,.slice a5 l5 c5,.int .u64 x17] fun w12=>∃ x18,w12.cell? (Addr.add ⟨B3,0,none⟩ 2)=some (.int .u64 x18)∧J2 (if x18 > x14 then x18 else x14) (IntKind.i64.wrap (x15+1)) w12∧μ2 (if x18 > x14 then x18 else x14) (IntKind.i64.wrap (x15+1)) w12 < μ2 x14 x15 w10) (∃ x19 x20 a6 l6 c6,cellsAt w10 ⟨B2,0,none⟩ [.int .i64 x19,.int .u64 x20,.slice a6 l6 c6] 0∧∀ B4 w13,New w10 (.cells #[.int .i64 x19,.int .u64 x20,.slice a6 l6 c6] T.scan_part) B4 w13→appendP T.scan_part 3 40 [.int .i64 0,.int .u64 0,.slice none 0 0] a2 l2 c2 (.slice (some ⟨B4,0,none⟩) 1 1) w13 fun a7 l7 c7 w14=>J1 a7 l7 c7 x14 (IntKind.i64.wrap (x3+1)) w14∧μ1 a7 l7 c7 x14 (IntKind.i64.wrap (x3+1)) w14 < μ1 a2 l2 c2 x2 x3 w3)))) (R (.tuple #[.slice a2 l2 c2,.int .u64 x2,.int .i64 0]) w3)))
theorem scan_read.sh {y0a:Option Addr} {y1a:Int} {w:World} {R:Value→World→Prop} (h:scan_read.body y0a y1a w R) :
  CallsR prog K.scan_read #[.pointer y0a,.int .u32 y1a] w R :=
 calls_body follows (f:=K.scan_read) Tryz.func113 ([]) ([(7,[0,1,26,27],[4,5,28],[.slice none 0 0,.int .u64 0,.int .i64 0]),(13,[0,1,4,10,26,27,28,58,59],[5,60],[.int .u64 0,.int .i64 0])])
  (Eq.mp (by kernel_rfl) h)
def nand_Chip_page.body (c:Option Addr) (block:Int) (page:Int) (w:World) (R:Value→World→Prop):Prop :=
 ∀ w1:World,Drew w w1→∃ S1:World→Prop,S1 w1∧nilC c fun q1=>∃ x1,(∀ u1,S1 u1→u1.cell? (q1.add 2)=some (.int .i64 x1))∧nilC c fun q2=>∃ x2,(∀ u2,S1 u2→u2.cell? (q2.add 2)=some (.int .i64 x2))∧nilC c fun q3=>∃ a1 l1 c1,w1.cell? (q3.add 4)=some (.slice a1 l1 c1)∧idxP a1 l1 block 1 fun q4=>∃ a2 l2 c2,w1.cell? q4=some (.slice a2 l2 c2)∧sliceP 1 a2 l2 c2 (some (IntKind.i64.wrap (page * x1))) (some (IntKind.i64.wrap ((IntKind.i64.wrap (page+1)) * x2))) (some (IntKind.i64.wrap ((IntKind.i64.wrap (page+1)) * x2))) fun a3 l3 c3=>R (.slice a3 l3 c3) w1
theorem nand_Chip_page.sh {c:Option Addr} {block:Int} {page:Int} {w:World} {R:Value→World→Prop} (h:nand_Chip_page.body c block page w R) :
  CallsR prog K.nand_Chip_page #[.pointer c,.int .i64 block,.int .i64 page] w R :=
 calls_body follows (f:=K.nand_Chip_page) Tryz.func114 ([]) ([])
  (Eq.mp (by kernel_rfl) h)
def bits_Mul64.body (x:Int) (y:Int) (w:World) (R:Value→World→Prop):Prop :=
 0≤(32:Int)∧0≤(32:Int)∧0≤(32:Int)∧0≤(32:Int)∧0≤(32:Int)∧R (.tuple #[.int .u64 (IntKind.u64.wrap ((IntKind.u64.wrap ((IntKind.u64.wrap ((Int.fdiv x (2 ^ (min (Int.toNat (32:Int)) (IntKind.bits .u64)))) * (Int.fdiv y (2 ^ (min (Int.toNat (32:Int)) (IntKind.bits .u64))))))+(Int.fdiv (IntKind.u64.wrap ((IntKind.u64.wrap ((Int.fdiv x (2 ^ (min (Int.toNat (32:Int)) (IntKind.bits .u64)))) * (IntKind.u64.wrap ((BitVec.ofInt (IntKind.bits .u64) y &&& BitVec.ofInt (IntKind.bits .u64) 4294967295).toNat))))+(Int.fdiv (IntKind.u64.wrap ((IntKind.u64.wrap ((BitVec.ofInt (IntKind.bits .u64) x &&& BitVec.ofInt (IntKind.bits .u64) 4294967295).toNat)) * (IntKind.u64.wrap ((BitVec.ofInt (IntKind.bits .u64) y &&& BitVec.ofInt (IntKind.bits .u64) 4294967295).toNat)))) (2 ^ (min (Int.toNat (32:Int)) (IntKind.bits .u64)))))) (2 ^ (min (Int.toNat (32:Int)) (IntKind.bits .u64))))))+(Int.fdiv (IntKind.u64.wrap ((IntKind.u64.wrap ((BitVec.ofInt (IntKind.bits .u64) (IntKind.u64.wrap ((IntKind.u64.wrap ((Int.fdiv x (2 ^ (min (Int.toNat (32:Int)) (IntKind.bits .u64)))) * (IntKind.u64.wrap ((BitVec.ofInt (IntKind.bits .u64) y &&& BitVec.ofInt (IntKind.bits .u64) 4294967295).toNat))))+(Int.fdiv (IntKind.u64.wrap ((IntKind.u64.wrap ((BitVec.ofInt (IntKind.bits .u64) x &&& BitVec.ofInt (IntKind.bits .u64) 4294967295).toNat)) * (IntKind.u64.wrap ((BitVec.ofInt (IntKind.bits .u64) y &&& BitVec.ofInt (IntKind.bits .u64) 4294967295).toNat)))) (2 ^ (min (Int.toNat (32:Int)) (IntKind.bits .u64)))))) &&& BitVec.ofInt (IntKind.bits .u64) 4294967295).toNat))+(IntKind.u64.wrap ((IntKind.u64.wrap ((BitVec.ofInt (IntKind.bits .u64) x &&& BitVec.ofInt (IntKind.bits .u64) 4294967295).toNat)) * (Int.fdiv y (2 ^ (min (Int.toNat (32:Int)) (IntKind.bits .u64)))))))) (2 ^ (min (Int.toNat (32:Int)) (IntKind.bits .u64)))))),.int .u64 (IntKind.u64.wrap (x * y))]) w
theorem bits_Mul64.sh {x:Int} {y:Int} {w:World} {R:Value→World→Prop} (h:bits_Mul64.body x y w R) :
  CallsR prog K.bits_Mul64 #[.int .u64 x,.int .u64 y] w R :=
 calls_body follows (f:=K.bits_Mul64) Tryz.func116 ([]) ([])
  (Eq.mp (by kernel_rfl) h)
end
section
set_option maxRecDepth 100000
open Go.Proofs
def pool_Pool_look.body (p:Option Addr) (i:Int) (w:World) (R:Value→World→Prop):Prop :=
 ∀ B1 w1,New w (.cells #[.int .i64 0,.int .u8 0,.int .u32 0,.int .u64 0] T.pool_block) B1 w1→storeP w1 ⟨B1,0,none⟩ [.int .i64 0,.int .u8 0,.int .u32 0,.int .u64 0] fun w2=>nilC p fun q1=>∃ p1,w2.cell? q1=some (.pointer p1)∧CallsR prog K.nand_Chip_Geo #[.pointer p1] w2 fun v1 w3=>∃ x1 x2 x3 x4,v1= .agg #[.int .i64 x1,.int .i64 x2,.int .i64 x3,.int .i64 x4]∧∃ (J1:Int→World→Prop) (μ1:Int→World→Nat),J1 0 w3∧∀ x5:Int,∀ w4:World,J1 x5 w4→br (decide (x5<x2)) (nilC p fun q2=>∃ p2,w4.cell? q2=some (.pointer p2)∧CallsR prog K.nand_Chip_Read #[.pointer p2,.int .i64 i,.int .i64 x5] w4 fun v2 w5=>∃ a1 l1 c1 x6,v2= .tuple #[.slice a1 l1 c1,.int .i64 x6]∧br (x6 != 0) (R (.tuple #[]) w5) (CallsR prog K.pool_GetHead #[.slice a1 l1 c1] w5 fun v3 w6=>∃ x7 x8 x9 x10,v3= .tuple #[.agg #[.int .u8 x7,.int .u32 x8,.int .u64 x9],.int .i64 x10]∧∀ B2 w7,New w6 (.cells #[.int .u8 0,.int .u32 0,.int .u64 0] T.api_Head) B2 w7→storeP w7 ⟨B2,0,none⟩ [.int .u8 x7,.int .u32 x8,.int .u64 x9] fun w8=>br (x5 == 0) (br (x10 == 0) (∀ w9:World,Drew w8 w9→∃ S1:World→Prop,S1 w9∧nilC p fun q3=>∃ a2 l2 c2,(∀ u1,S1 u1→u1.cell? (q3.add 1)=some (.slice a2 l2 c2))∧∃ x11 x12 x13,(∀ u2,S1 u2→cellsAt u2 ⟨B2,0,none⟩ [.int .u8 x11,.int .u32 x12,.int .u64 x13] 0)∧idxP a2 l2 i 4 fun q4=>storeP w9 q4 [.int .i64 2,.int .u8 x11,.int .u32 x12,.int .u64 x13] fun w10=>R (.tuple #[]) w10) (CallsR prog K.seal_Blank #[.slice a1 l1 c1] w8 fun v4 w11=>∃ b1,v4= .bool b1∧br (!b1) (storeP w11 ⟨B1,0,none⟩ [.int .i64 1] fun w12=>J1 (IntKind.i64.wrap (x5+1)) w12∧μ1 (IntKind.i64.wrap (x5+1)) w12 < μ1 x5 w4) (J1 (IntKind.i64.wrap (x5+1)) w11∧μ1 (IntKind.i64.wrap (x5+1)) w11 < μ1 x5 w4))) (CallsR prog K.seal_Blank #[.slice a1 l1 c1] w8 fun v5 w13=>∃ b2,v5= .bool b2∧br (!b2) (storeP w13 ⟨B1,0,none⟩ [.int .i64 1] fun w14=>J1 (IntKind.i64.wrap (x5+1)) w14∧μ1 (IntKind.i64.wrap (x5+1)) w14 < μ1 x5 w4) (J1 (IntKind.i64.wrap (x5+1)) w13∧μ1 (IntKind.i64.wrap (x5+1)) w13 < μ1 x5 w4)))) (∀ w15:World,Drew w4 w15→∃ S2:World→Prop,S2 w15∧nilC p fun q5=>∃ a3 l3 c3,(∀ u3,S2 u3→u3.cell? (q5.add 1)=some (.slice a3 l3 c3))∧∃ x14 x15 x16 x17,(∀ u4,S2 u4→cellsAt u4 ⟨B1,0,none⟩ [.int .i64 x14,.int .u8 x15,.int .u32 x16,.int .u64 x17] 0)∧idxP a3 l3 i 4 fun q6=>storeP w15 q6 [.int .i64 x14,.int .u8 x15,.int .u32 x16,.int .u64 x17] fun w16=>R (.tuple #[]) w16)
theorem pool_Pool_look.sh {p:Option Addr} {i:Int} {w:World} {R:Value→World→Prop} (h:pool_Pool_look.body p i w R) :
  CallsR prog K.pool_Pool_look #[.pointer p,.int .i64 i] w R :=
 calls_body follows (f:=K.pool_Pool_look) Tryz.func117 ([]) ([(2,[0,1,4,16],[17],[.int .i64 0])])
  (Eq.mp (by kernel_rfl) h)
def slices_DeleteFunc_api_Taken.body (s:Option Addr) (sL sC:Nat) (del:Value) (w:World) (R:Value→World→Prop):Prop :=
 CallsR prog K.slices_IndexFunc_api_Taken #[.slice s sL sC,del] w fun v1 w1=>∃ x1,v1= .int .i64 x1∧br (x1 == (-1)) (R (.slice s sL sC) w1) (∃ (J1:Int→Int→World→Prop) (μ1:Int→Int→World→Nat),J1 x1 (IntKind.i64.wrap (x1+1)) w1∧∀ x2:Int,∀ x3:Int,∀ w2:World,J1 x2 x3 w2→br (decide (x3<((sL:Nat):Int))) (idxP s sL x3 5 fun q1=>∃ x4 x5 x6 x7 b1,cellsAt w2 q1 [.int .i64 x4,.int .u8 x5,.int .u32 x6,.int .u64 x7,.bool b1] 0∧∀ B1 w3,New w2 (.cells #[.int .i64 0,.int .u8 0,.int .u32 0,.int .u64 0,.bool false] T.api_Taken) B1 w3→storeP w3 ⟨B1,0,none⟩ [.int .i64 x4,.int .u8 x5,.int .u32 x6,.int .u64 x7,.bool b1] fun w4=>∃ x8 x9 x10 x11 b2,cellsAt w4 ⟨B1,0,none⟩ [.int .i64 x8,.int .u8 x9,.int .u32 x10,.int .u64 x11,.bool b2] 0∧callT del [.agg #[.int .i64 x8,.int .u8 x9,.int .u32 x10,.int .u64 x11,.bool b2]] w4 fun v2 w5=>∃ b3,v2= .bool b3∧br (!b3) (∃ x12 x13 x14 x15 b4,cellsAt w5 ⟨B1,0,none⟩ [.int .i64 x12,.int .u8 x13,.int .u32 x14,.int .u64 x15,.bool b4] 0∧idxP s sL x2 5 fun q2=>storeP w5 q2 [.int .i64 x12,.int .u8 x13,.int .u32 x14,.int .u64 x15,.bool b4] fun w6=>J1 (IntKind.i64.wrap (x2+1)) (IntKind.i64.wrap (x3+1)) w6∧μ1 (IntKind.i64.wrap (x2+1)) (IntKind.i64.wrap (x3+1)) w6 < μ1 x2 x3 w2) (J1 x2 (IntKind.i64.wrap (x3+1)) w5∧μ1 x2 (IntKind.i64.wrap (x3+1)) w5 < μ1 x2 x3 w2)) (sliceP 5 s sL sC (some x2) none none fun a1 l1 c1=>clearP [.int .i64 0,.int .u8 0,.int .u32 0,.int .u64 0,.bool false] a1 l1 w2 fun w7=>sliceP 5 s sL sC none (some x2) none fun a2 l2 c2=>R (.slice a2 l2 c2) w7))
theorem slices_DeleteFunc_api_Taken.sh {s:Option Addr} {sL sC:Nat} {del:Value} {w:World} {R:Value→World→Prop} (h:slices_DeleteFunc_api_Taken.body s sL sC del w R) :
  CallsR prog K.slices_DeleteFunc_api_Taken #[.slice s sL sC,del] w R :=
 calls_body follows (f:=K.slices_DeleteFunc_api_Taken) Tryz.func118 ([]) ([(5,[0,1],[5,6],[.int .i64 0,.int .i64 0])])
  (Eq.mp (by kernel_rfl) h)
def pool_Pool_Taken.body (p:Option Addr) (w:World) (R:Value→World→Prop):Prop :=
 CallsR prog K.pool_Pool_off #[.pointer p] w fun v1 w1=>∃ b1,v1= .bool b1∧br b1 (R (.slice none 0 0) w1) (nilC p fun q1=>∃ a1 l1 c1,w1.cell? (q1.add 1)=some (.slice a1 l1 c1)∧∃ (J1:Option Addr→Nat→Nat→Int→World→Prop) (μ1:Option Addr→Nat→Nat→Int→World→Nat),J1 none 0 0 0 w1∧∀ (a2:Option Addr) (l2 c2:Nat),∀ x1:Int,∀ w2:World,J1 a2 l2 c2 x1 w2→br (decide (x1<((l1:Nat):Int))) (idxP a1 l1 x1 4 fun q2=>∃ x2 x3 x4 x5,cellsAt w2 q2 [.int .i64 x2,.int .u8 x3,.int .u32 x4,.int .u64 x5] 0∧∀ B1 w3,New w2 (.cells #[.int .i64 0,.int .u8 0,.int .u32 0,.int .u64 0] T.pool_block) B1 w3→storeP w3 ⟨B1,0,none⟩ [.int .i64 x2,.int .u8 x3,.int .u32 x4,.int .u64 x5] fun w4=>∃ x6,w4.cell? ⟨B1,0,none⟩= some (.int .i64 x6)∧br (x6 == 2) (∀ w5:World,Drew w4 w5→∃ S1:World→Prop,S1 w5∧∃ x7 x8 x9,(∀ u1,S1 u1→cellsAt u1 (Addr.add ⟨B1,0,none⟩ 1) [.int .u8 x7,.int .u32 x8,.int .u64 x9] 0)∧nilC p fun q3=>∃ p1,(∀ u2,S1 u2→u2.cell? q3=some (.pointer p1))∧CallsR prog K.nand_Chip_Bad #[.pointer p1,.int .i64 x1] w5 fun v2 w6=>∃ b2,v2= .bool b2∧S1 w6∧∀ B2 w7,New w6 (.cells #[.int .i64 x1,.int .u8 x7,.int .u32 x8,.int .u64 x9,.bool b2] T.api_Taken) B2 w7→S1 w7∧appendP T.api_Taken 5 32 [.int .i64 0,.int .u8 0,.int .u32 0,.int .u64 0,.bool false] a2 l2 c2 (.slice (some ⟨B2,0,none⟩) 1 1) w7 fun a3 l3 c3 w8=>S1 w8∧J1 a3 l3 c3 (IntKind.i64.wrap (x1+1)) w8∧μ1 a3 l3 c3 (IntKind.i64.wrap (x1+1)) w8 < μ1 a2 l2 c2 x1 w2) (J1 a2 l2 c2 (IntKind.i64.wrap (x1+1)) w4∧μ1 a2 l2 c2 (IntKind.i64.wrap (x1+1)) w4 < μ1 a2 l2 c2 x1 w2)) (CallsR prog K.slices_SortStableFunc_api_Taken #[.slice a2 l2 c2,.func (.func K.pool_Pool_Taken_1) #[] #[]] w2 fun v3 w9=>v3= .tuple #[]∧R (.slice a2 l2 c2) w9))
theorem pool_Pool_Taken.sh {p:Option Addr} {w:World} {R:Value→World→Prop} (h:pool_Pool_Taken.body p w R) :
  CallsR prog K.pool_Pool_Taken #[.pointer p] w R :=
 calls_body follows (f:=K.pool_Pool_Taken) Tryz.func119 ([]) ([(5,[0,11,12],[3,13],[.slice none 0 0,.int .i64 0])])
  (Eq.mp (by kernel_rfl) h)
def log_own_1.body (t_Block:Int) (t_Head_Kind:Int) (t_Head_Era:Int) (t_Head_Seq:Int) (t_Bad:Bool) (y1a:Addr) (w:World) (R:Value→World→Prop):Prop :=
 ∀ B1 w1,New w (.cells #[.int .i64 t_Block,.int .u8 t_Head_Kind,.int .u32 t_Head_Era,.int .u64 t_Head_Seq,.bool t_Bad] T.api_Taken) B1 w1→∃ x1,w1.cell? (Addr.add ⟨B1,0,none⟩ 1)=some (.int .u8 x1)∧br (x1 != 1) (R (.bool true) w1) (∃ x2,w1.cell? (Addr.add (Addr.add ⟨B1,0,none⟩ 1) 1)=some (.int .u32 x2)∧∃ x3,w1.cell? y1a=some (.int .u32 x3)∧R (.bool (x2 != x3)) w1)
theorem log_own_1.sh {t_Block:Int} {t_Head_Kind:Int} {t_Head_Era:Int} {t_Head_Seq:Int} {t_Bad:Bool} {y1a:Addr} {w:World} {R:Value→World→Prop} (h:log_own_1.body t_Block t_Head_Kind t_Head_Era t_Head_Seq t_Bad y1a w R) :
  CallsR prog K.log_own_1 #[.agg #[.int .i64 t_Block,.int .u8 t_Head_Kind,.int .u32 t_Head_Era,.int .u64 t_Head_Seq,.bool t_Bad],.pointer (some y1a)] w R :=
 calls_body follows (f:=K.log_own_1) Tryz.func120 ([]) ([])
  (Eq.mp (by kernel_rfl) h)
def pack_cuts.body (y0a:Int) (y1a:Option Addr) (y1aL y1aC:Nat) (w:World) (R:Value→World→Prop):Prop :=
 CallsR prog K.seal_Body #[.int .i64 y0a] w fun v1 w1=>∃ x1,v1= .int .i64 x1∧br (decide ((IntKind.i64.wrap (x1 - 1))<0)) (R (.tuple #[.slice none 0 0,.int .i64 2]) w1) (∃ (J1:Bool→Int→World→Prop) (μ1:Bool→Int→World→Nat),J1 false 0 w1∧∀ b1:Bool,∀ x2:Int,∀ w2:World,J1 b1 x2 w2→br (decide (x2<((y1aL:Nat):Int))) (∃ J2:Bool→World→Prop,(idxP y1a y1aL x2 5 fun q1=>∃ x3 x4 s1 x5 a1 l1 c1,cellsAt w2 q1 [.int .i64 x3,.int .u8 x4,.string s1,.int .i64 x5,.slice a1 l1 c1] 0∧∀ B1 w3,New w2 (.cells #[.int .i64 0,.int .u8 0,.string (⟨#[]⟩: ByteArray),.int .i64 0,.slice none 0 0] T.api_Fact) B1 w3→storeP w3 ⟨B1,0,none⟩ [.int .i64 x3,.int .u8 x4,.string s1,.int .i64 x5,.slice a1 l1 c1] fun w4=>∃ x6 x7 s2 x8 a2 l2 c2,cellsAt w4 ⟨B1,0,none⟩ [.int .i64 x6,.int .u8 x7,.string s2,.int .i64 x8,.slice a2 l2 c2] 0∧CallsR prog K.pack_Cost #[.agg #[.int .i64 x6,.int .u8 x7,.string s2,.int .i64 x8,.slice a2 l2 c2]] w4 fun v2 w5=>∃ x9,v2= .int .i64 x9∧∀ w6:World,Drew w5 w6→∃ S1:World→Prop,S1 w6∧br (x9 == 0) (S1 w6∧R (.tuple #[.slice none 0 0,.int .i64 2]) w6) (∃ a3 l3 c3,(∀ u1,S1 u1→u1.cell? (Addr.add ⟨B1,0,none⟩ 4)=some (.slice a3 l3 c3))∧br (decide (((l3:Nat):Int)<1)) (S1 w6∧R (.tuple #[.slice none 0 0,.int .i64 2]) w6) (∃ a4 l4 c4,(∀ u2,S1 u2→u2.cell? (Addr.add ⟨B1,0,none⟩ 4)=some (.slice a4 l4 c4))∧br (decide (((l4:Nat):Int) > 255)) (S1 w6∧R (.tuple #[.slice none 0 0,.int .i64 2]) w6) (br (decide (x2 > 0)) (idxP y1a y1aL (IntKind.i64.wrap (x2 - 1)) 5 fun q2=>∃ x10 x11 s3 x12,(∀ u3,S1 u3→cellsAt u3 q2 [.int .i64 x10,.int .u8 x11,.string s3,.int .i64 x12] 0)∧∃ x13 x14 s4 x15,(∀ u4,S1 u4→cellsAt u4 ⟨B1,0,none⟩ [.int .i64 x13,.int .u8 x14,.string s4,.int .i64 x15] 0)∧CallsR prog K.fact_Before #[.agg #[.int .i64 x10,.int .u8 x11,.string s3,.int .i64 x12],.agg #[.int .i64 x13,.int .u8 x14,.string s4,.int .i64 x15]] w6 fun v3 w7=>∃ b2,v3= .bool b2∧S1 w7∧br (!b2) (R (.tuple #[.slice none 0 0,.int .i64 2]) w7) (br b1 (J2 true w7) (J2 (decide (x9 > (IntKind.i64.wrap (x1 - 1)))) w7))) (S1 w6∧br b1 (J2 true w6) (J2 (decide (x9 > (IntKind.i64.wrap (x1 - 1)))) w6))))))∧(∀ b3:Bool,∀ w8:World,J2 b3 w8→J1 b3 (IntKind.i64.wrap (x2+1)) w8∧μ1 b3 (IntKind.i64.wrap (x2+1)) w8 < μ1 b1 x2 w2)) (br b1 (R (.tuple #[.slice none 0 0,.int .i64 3]) w2) (∃ (J3:Option Addr→Nat→Nat→Int→Int→Int→World→Prop) (μ2:Option Addr→Nat→Nat→Int→Int→Int→World→Nat),J3 none 0 0 0 0 0 w2∧∀ (a5:Option Addr) (l5 c5:Nat),∀ x16:Int,∀ x17:Int,∀ x18:Int,∀ w9:World,J3 a5 l5 c5 x16 x17 x18 w9→br (decide (x18<((y1aL:Nat):Int))) (idxP y1a y1aL x18 5 fun q3=>∃ x19 x20 s5 x21 a6 l6 c6,cellsAt w9 q3 [.int .i64 x19,.int .u8 x20,.string s5,.int .i64 x21,.slice a6 l6 c6] 0∧∀ B2 w10,New w9 (.cells #[.int .i64 0,.int .u8 0,.string (⟨#[]⟩: ByteArray),.int .i64 0,.slice none 0 0] T.api_Fact) B2 w10→storeP w10 ⟨B2,0,none⟩ [.int .i64 x19,.int .u8 x20,.string s5,.int .i64 x21,.slice a6 l6 c6] fun w11=>∃ x22 x23 s6 x24 a7 l7 c7,cellsAt w11 ⟨B2,0,none⟩ [.int .i64 x22,.int .u8 x23,.string s6,.int .i64 x24,.slice a7 l7 c7] 0∧CallsR prog K.pack_Cost #[.agg #[.int .i64 x22,.int .u8 x23,.string s6,.int .i64 x24,.slice a7 l7 c7]] w11 fun v4 w12=>∃ x25,v4= .int .i64 x25∧br (x18 == 0) (∀ B3 w13,New w12 (.cells #[.int .i64 x18] T.int) B3 w13→appendP T.int 1 8 [.int .i64 0] a5 l5 c5 (.slice (some ⟨B3,0,none⟩) 1 1) w13 fun a8 l8 c8 w14=>J3 a8 l8 c8 x18 (IntKind.i64.wrap ((0:Int)+x25)) (IntKind.i64.wrap (x18+1)) w14∧μ2 a8 l8 c8 x18 (IntKind.i64.wrap ((0:Int)+x25)) (IntKind.i64.wrap (x18+1)) w14 < μ2 a5 l5 c5 x16 x17 x18 w9) (br (decide ((IntKind.i64.wrap (x17+x25)) > (IntKind.i64.wrap (x1 - 1)))) (∀ B4 w15,New w12 (.cells #[.int .i64 x18] T.int) B4 w15→appendP T.int 1 8 [.int .i64 0] a5 l5 c5 (.slice (some ⟨B4,0,none⟩) 1 1) w15 fun a9 l9 c9 w16=>J3 a9 l9 c9 x18 (IntKind.i64.wrap ((0:Int)+x25)) (IntKind.i64.wrap (x18+1)) w16∧μ2 a9 l9 c9 x18 (IntKind.i64.wrap ((0:Int)+x25)) (IntKind.i64.wrap (x18+1)) w16 < μ2 a5 l5 c5 x16 x17 x18 w9) (br ((IntKind.i64.wrap (x18 - x16)) == 255) (∀ B5 w17,New w12 (.cells #[.int .i64 x18] T.int) B5 w17→appendP T.int 1 8 [.int .i64 0] a5 l5 c5 (.slice (some ⟨B5,0,none⟩) 1 1) w17 fun a10 l10 c10 w18=>J3 a10 l10 c10 x18 (IntKind.i64.wrap ((0:Int)+x25)) (IntKind.i64.wrap (x18+1)) w18∧μ2 a10 l10 c10 x18 (IntKind.i64.wrap ((0:Int)+x25)) (IntKind.i64.wrap (x18+1)) w18 < μ2 a5 l5 c5 x16 x17 x18 w9) (J3 a5 l5 c5 x16 (IntKind.i64.wrap (x17+x25)) (IntKind.i64.wrap (x18+1)) w12∧μ2 a5 l5 c5 x16 (IntKind.i64.wrap (x17+x25)) (IntKind.i64.wrap (x18+1)) w12 < μ2 a5 l5 c5 x16 x17 x18 w9)))) (R (.tuple #[.slice a5 l5 c5,.int .i64 0]) w9))))
theorem pack_cuts.sh {y0a:Int} {y1a:Option Addr} {y1aL y1aC:Nat} {w:World} {R:Value→World→Prop} (h:pack_cuts.body y0a y1a y1aL y1aC w R) :
  CallsR prog K.pack_cuts #[.int .i64 y0a,.slice y1a y1aL y1aC] w R :=
 calls_body follows (f:=K.pack_cuts) Tryz.func121 ([(12,[1,6,22,23,24],[7],[.bool false])]) ([(6,[1,6,22,23],[7,24],[.bool false,.int .i64 0]),(18,[6,69,70],[11,12,13,71],[.slice none 0 0,.int .i64 0,.int .i64 0,.int .i64 0])])
  (Eq.mp (by kernel_rfl) h)
def pool_Pool_Take.body (y0a:Option Addr) (y1a:Int) (y2a:Int) (w:World) (R:Value→World→Prop):Prop :=
 CallsR prog K.pool_Pool_off #[.pointer y0a] w fun v1 w1=>∃ b1,v1= .bool b1∧br b1 (R (.tuple #[.int .i64 0,.int .i64 1]) w1) (∃ J1:World→Prop,(br (decide (y1a<1)) (R (.tuple #[.int .i64 0,.int .i64 2]) w1) (br (decide (y1a > 3)) (R (.tuple #[.int .i64 0,.int .i64 2]) w1) (br (decide (y2a<1)) (R (.tuple #[.int .i64 0,.int .i64 2]) w1) (J1 w1))))∧(∀ w2:World,J1 w2→CallsR prog K.pool_Pool_alive #[.pointer y0a] w2 fun v2 w3=>∃ x1,v2= .int .i64 x1∧br (x1 != 0) (R (.tuple #[.int .i64 0,.int .i64 x1]) w3) (nilC y0a fun q1=>∃ a1 l1 c1,w3.cell? (q1.add 1)=some (.slice a1 l1 c1)∧∃ (J2:Int→World→Prop) (μ1:Int→World→Nat),J2 0 w3∧∀ x2:Int,∀ w4:World,J2 x2 w4→br (decide (x2<((l1:Nat):Int))) (nilC y0a fun q2=>∃ x3,w4.cell? (q2.add 3)=some (.int .i64 x3)∧((l1:Nat):Int)≠0∧nilC y0a fun q3=>∃ p1,w4.cell? q3=some (.pointer p1)∧CallsR prog K.nand_Chip_Bad #[.pointer p1,.int .i64 (Int.tmod (IntKind.i64.wrap (x3+x2)) ((l1:Nat):Int))] w4 fun v3 w5=>∃ b2,v3= .bool b2∧br b2 (J2 (IntKind.i64.wrap (x2+1)) w5∧μ1 (IntKind.i64.wrap (x2+1)) w5 < μ1 x2 w4) (nilC y0a fun q4=>∃ a2 l2 c2,w5.cell? (q4.add 1)=some (.slice a2 l2 c2)∧idxP a2 l2 (Int.tmod (IntKind.i64.wrap (x3+x2)) ((l1:Nat):Int)) 4 fun q5=>∃ x4,w5.cell? q5=some (.int .i64 x4)∧br (x4 == 2) (J2 (IntKind.i64.wrap (x2+1)) w5∧μ1 (IntKind.i64.wrap (x2+1)) w5 < μ1 x2 w4) (CallsR prog K.pool_Pool_try #[.pointer y0a,.int .i64 (Int.tmod (IntKind.i64.wrap (x3+x2)) ((l1:Nat):Int)),.int .u8 y1a,.int .u32 y2a] w5 fun v4 w6=>∃ x5,v4= .int .i64 x5∧br (x5 == 0) (nilC y0a fun q6=>storeP w6 (q6.add 3) [.int .i64 (IntKind.i64.wrap ((Int.tmod (IntKind.i64.wrap (x3+x2)) ((l1:Nat):Int))+1))] fun w7=>R (.tuple #[.int .i64 (Int.tmod (IntKind.i64.wrap (x3+x2)) ((l1:Nat):Int)),.int .i64 0]) w7) (br (x5 == 10) (R (.tuple #[.int .i64 0,.int .i64 x5]) w6) (J2 (IntKind.i64.wrap (x2+1)) w6∧μ1 (IntKind.i64.wrap (x2+1)) w6 < μ1 x2 w4))))) (R (.tuple #[.int .i64 0,.int .i64 11]) w4))))
theorem pool_Pool_Take.sh {y0a:Option Addr} {y1a:Int} {y2a:Int} {w:World} {R:Value→World→Prop} (h:pool_Pool_Take.body y0a y1a y2a w R) :
  CallsR prog K.pool_Pool_Take #[.pointer y0a,.int .u8 y1a,.int .u32 y2a] w R :=
 calls_body follows (f:=K.pool_Pool_Take) Tryz.func122 ([(5,[0,1,2],[],[])]) ([(10,[0,1,2,9,35],[36],[.int .i64 0])])
  (Eq.mp (by kernel_rfl) h)
def ends_Put.body (n:Int) (size:Int) (w:World) (R:Value→World→Prop):Prop :=
 ∃ J1:World→Prop,(CallsR prog K.ends_isSize #[.int .i64 size] w fun v1 w1=>∃ b1,v1= .bool b1∧br (!b1) (R (.tuple #[.slice none 0 0,.int .i64 2]) w1) (br (decide (size<8)) (0≤(IntKind.u64.wrap (IntKind.i64.wrap ((8:Int) * size)))∧br ((Int.fdiv n (2 ^ (min (Int.toNat (IntKind.u64.wrap (IntKind.i64.wrap ((8:Int) * size)))) (IntKind.bits .u64)))) != 0) (R (.tuple #[.slice none 0 0,.int .i64 2]) w1) (J1 w1)) (J1 w1)))∧(∀ w2:World,J1 w2→makeSliceP T.uint8 1 1 [.int .u8 0] size size w2 fun a1 l1 c1 w3=>∃ (J2:Int→World→Prop) (μ1:Int→World→Nat),J2 0 w3∧∀ x1:Int,∀ w4:World,J2 x1 w4→br (decide (x1<((l1:Nat):Int))) (0≤(IntKind.u64.wrap (IntKind.i64.wrap ((8:Int) * x1)))∧idxP a1 l1 x1 1 fun q1=>storeP w4 q1 [.int .u8 (IntKind.u8.wrap (Int.fdiv n (2 ^ (min (Int.toNat (IntKind.u64.wrap (IntKind.i64.wrap ((8:Int) * x1)))) (IntKind.bits .u64)))))] fun w5=>J2 (IntKind.i64.wrap (x1+1)) w5∧μ1 (IntKind.i64.wrap (x1+1)) w5 < μ1 x1 w4) (R (.tuple #[.slice a1 l1 c1,.int .i64 0]) w4))
theorem ends_Put.sh {n:Int} {size:Int} {w:World} {R:Value→World→Prop} (h:ends_Put.body n size w R) :
  CallsR prog K.ends_Put #[.int .u64 n,.int .i64 size] w R :=
 calls_body follows (f:=K.ends_Put) Tryz.func123 ([(3,[0,1],[],[])]) ([(5,[0,6,26],[27],[.int .i64 0])])
  (Eq.mp (by kernel_rfl) h)
def rec_change.body (c_Key_Ino:Int) (c_Key_What:Int) (c_Key_Name:ByteArray) (c_Key_Chunk:Int) (c_Value:Option Addr) (c_ValueL c_ValueC:Nat) (c_Gone:Bool) (w:World) (R:Value→World→Prop):Prop :=
 ∀ B1 w1,New w (.cells #[.int .i64 c_Key_Ino,.int .u8 c_Key_What,.string c_Key_Name,.int .i64 c_Key_Chunk,.slice c_Value c_ValueL c_ValueC,.bool c_Gone] T.api_Change) B1 w1→∃ x1 x2 s1 x3,cellsAt w1 ⟨B1,0,none⟩ [.int .i64 x1,.int .u8 x2,.string s1,.int .i64 x3] 0∧CallsR prog K.fact_PutKey #[.agg #[.int .i64 x1,.int .u8 x2,.string s1,.int .i64 x3]] w1 fun v1 w2=>∃ a1 l1 c1 x4,v1= .tuple #[.slice a1 l1 c1,.int .i64 x4]∧∃ J1:Bool→World→Prop,(br (x4 != 0) (J1 true w2) (∃ b1,w2.cell? (Addr.add ⟨B1,0,none⟩ 5)=some (.bool b1)∧br b1 (∃ a2 l2 c2,w2.cell? (Addr.add ⟨B1,0,none⟩ 4)=some (.slice a2 l2 c2)∧J1 (decide (((l2:Nat):Int) > 0)) w2) (J1 false w2)))∧(∀ b2:Bool,∀ w3:World,J1 b2 w3→br b2 (R (.tuple #[.slice none 0 0,.bool false]) w3) (∃ b3,w3.cell? (Addr.add ⟨B1,0,none⟩ 5)=some (.bool b3)∧br b3 (∀ B2 w4,New w3 (.cells #[.int .u8 0] T.uint8) B2 w4→∀ B3 w5,New w4 (.cells #[.slice (some ⟨B2,0,none⟩) 1 1,.slice a1 l1 c1] T.L_uint8) B3 w5→CallsR prog K.rec_join #[.slice (some ⟨B3,0,none⟩) 2 2] w5 fun v2 w6=>∃ a3 l3 c3,v2= .slice a3 l3 c3∧R (.tuple #[.slice a3 l3 c3,.bool true]) w6) (∃ a4 l4 c4,w3.cell? (Addr.add ⟨B1,0,none⟩ 4)=some (.slice a4 l4 c4)∧br (decide (((l4:Nat):Int)<1)) (R (.tuple #[.slice none 0 0,.bool false]) w3) (∃ a5 l5 c5,w3.cell? (Addr.add ⟨B1,0,none⟩ 4)=some (.slice a5 l5 c5)∧br (decide (((l5:Nat):Int) > 255)) (R (.tuple #[.slice none 0 0,.bool false]) w3) (∃ a6 l6 c6,w3.cell? (Addr.add ⟨B1,0,none⟩ 4)=some (.slice a6 l6 c6)∧CallsR prog K.ends_Row #[.slice a6 l6 c6] w3 fun v3 w7=>∃ a7 l7 c7 x5,v3= .tuple #[.slice a7 l7 c7,.int .i64 x5]∧∀ B4 w8,New w7 (.cells #[.int .u8 1] T.uint8) B4 w8→∀ B5 w9,New w8 (.cells #[.slice (some ⟨B4,0,none⟩) 1 1,.slice a1 l1 c1,.slice a7 l7 c7] T.L_uint8) B5 w9→CallsR prog K.rec_join #[.slice (some ⟨B5,0,none⟩) 3 3] w9 fun v4 w10=>∃ a8 l8 c8,v4= .slice a8 l8 c8∧R (.tuple #[.slice a8 l8 c8,.bool true]) w10)))))
theorem rec_change.sh {c_Key_Ino:Int} {c_Key_What:Int} {c_Key_Name:ByteArray} {c_Key_Chunk:Int} {c_Value:Option Addr} {c_ValueL c_ValueC:Nat} {c_Gone:Bool} {w:World} {R:Value→World→Prop} (h:rec_change.body c_Key_Ino c_Key_What c_Key_Name c_Key_Chunk c_Value c_ValueL c_ValueC c_Gone w R) :
  CallsR prog K.rec_change #[.agg #[.int .i64 c_Key_Ino,.int .u8 c_Key_What,.string c_Key_Name,.int .i64 c_Key_Chunk,.slice c_Value c_ValueL c_ValueC,.bool c_Gone]] w R :=
 calls_body follows (f:=K.rec_change) Tryz.func124 ([(3,[1,4],[14],[.bool false])]) ([])
  (Eq.mp (by kernel_rfl) h)
def seal_isSize.body (n:Int) (w:World) (R:Value→World→Prop):Prop :=
 br (decide (n≥128)) (R (.bool (decide (n≤256))) w) (R (.bool false) w)
theorem seal_isSize.sh {n:Int} {w:World} {R:Value→World→Prop} (h:seal_isSize.body n w R) :
  CallsR prog K.seal_isSize #[.int .i64 n] w R :=
 calls_body follows (f:=K.seal_isSize) Tryz.func125 ([]) ([])
  (Eq.mp (by kernel_rfl) h)
def seal_Body.body (size:Int) (w:World) (R:Value→World→Prop):Prop :=
 CallsR prog K.seal_isSize #[.int .i64 size] w fun v1 w1=>∃ b1,v1= .bool b1∧br (!b1) (R (.int .i64 0) w1) (R (.int .i64 (IntKind.i64.wrap (size - 5))) w1)
theorem seal_Body.sh {size:Int} {w:World} {R:Value→World→Prop} (h:seal_Body.body size w R) :
  CallsR prog K.seal_Body #[.int .i64 size] w R :=
 calls_body follows (f:=K.seal_Body) Tryz.func126 ([]) ([])
  (Eq.mp (by kernel_rfl) h)
def seal_Noughts.body (b:Option Addr) (bL bC:Nat) (w:World) (R:Value→World→Prop):Prop :=
 ∃ (J1:Int→Int→World→Prop) (μ1:Int→Int→World→Nat),J1 0 0 w∧∀ x1:Int,∀ x2:Int,∀ w1:World,J1 x1 x2 w1→br (decide (x2<((bL:Nat):Int))) (idxP b bL x2 1 fun q1=>∃ x3,w1.cell? q1=some (.int .u8 x3)∧CallsR prog K.bits_OnesCount8 #[.int .u8 (IntKind.u8.wrap ((BitVec.ofInt (IntKind.bits .u8) (if IntKind.signed .u8 then -1 else IntKind.max .u8) ^^^ BitVec.ofInt (IntKind.bits .u8) x3).toNat))] w1 fun v1 w2=>∃ x4,v1= .int .i64 x4∧J1 (IntKind.i64.wrap (x1+x4)) (IntKind.i64.wrap (x2+1)) w2∧μ1 (IntKind.i64.wrap (x1+x4)) (IntKind.i64.wrap (x2+1)) w2 < μ1 x1 x2 w1) (R (.int .i64 x1) w1)
theorem seal_Noughts.sh {b:Option Addr} {bL bC:Nat} {w:World} {R:Value→World→Prop} (h:seal_Noughts.body b bL bC w R) :
  CallsR prog K.seal_Noughts #[.slice b bL bC] w R :=
 calls_body follows (f:=K.seal_Noughts) Tryz.func127 ([]) ([(3,[6,7],[3,8],[.int .i64 0,.int .i64 0])])
  (Eq.mp (by kernel_rfl) h)
def fact_Before.body (a_Ino:Int) (a_What:Int) (a_Name:ByteArray) (a_Chunk:Int) (b_Ino:Int) (b_What:Int) (b_Name:ByteArray) (b_Chunk:Int) (w:World) (R:Value→World→Prop):Prop :=
 ∀ B1 w1,New w (.cells #[.int .i64 a_Ino,.int .u8 a_What,.string a_Name,.int .i64 a_Chunk] T.api_Key) B1 w1→∀ B2 w2,New w1 (.cells #[.int .i64 b_Ino,.int .u8 b_What,.string b_Name,.int .i64 b_Chunk] T.api_Key) B2 w2→∃ x1 x2 s1 x3,cellsAt w2 ⟨B1,0,none⟩ [.int .i64 x1,.int .u8 x2,.string s1,.int .i64 x3] 0∧∃ x4 x5 s2 x6,cellsAt w2 ⟨B2,0,none⟩ [.int .i64 x4,.int .u8 x5,.string s2,.int .i64 x6] 0∧CallsR prog K.fact_order #[.agg #[.int .i64 x1,.int .u8 x2,.string s1,.int .i64 x3],.agg #[.int .i64 x4,.int .u8 x5,.string s2,.int .i64 x6]] w2 fun v1 w3=>∃ x7,v1= .int .i64 x7∧R (.bool (decide (x7<0))) w3
theorem fact_Before.sh {a_Ino:Int} {a_What:Int} {a_Name:ByteArray} {a_Chunk:Int} {b_Ino:Int} {b_What:Int} {b_Name:ByteArray} {b_Chunk:Int} {w:World} {R:Value→World→Prop} (h:fact_Before.body a_Ino a_What a_Name a_Chunk b_Ino b_What b_Name b_Chunk w R) :
  CallsR prog K.fact_Before #[.agg #[.int .i64 a_Ino,.int .u8 a_What,.string a_Name,.int .i64 a_Chunk],.agg #[.int .i64 b_Ino,.int .u8 b_What,.string b_Name,.int .i64 b_Chunk]] w R :=
 calls_body follows (f:=K.fact_Before) Tryz.func128 ([]) ([])
  (Eq.mp (by kernel_rfl) h)
def fact_own_1.body (yield:Value) (y1a:Addr) (w:World) (R:Value→World→Prop):Prop :=
 ∃ a1 l1 c1,w.cell? y1a=some (.slice a1 l1 c1)∧∃ (J1:Int→World→Prop) (μ1:Int→World→Nat),J1 0 w∧∀ x1:Int,∀ w1:World,J1 x1 w1→br (decide (x1<((l1:Nat):Int))) (idxP a1 l1 x1 5 fun q1=>∃ x2 x3 s1 x4 a2 l2 c2,cellsAt w1 q1 [.int .i64 x2,.int .u8 x3,.string s1,.int .i64 x4,.slice a2 l2 c2] 0∧∀ B1 w2,New w1 (.cells #[.int .i64 0,.int .u8 0,.string (⟨#[]⟩: ByteArray),.int .i64 0,.slice none 0 0] T.api_Fact) B1 w2→storeP w2 ⟨B1,0,none⟩ [.int .i64 x2,.int .u8 x3,.string s1,.int .i64 x4,.slice a2 l2 c2] fun w3=>∀ w4:World,Drew w3 w4→∃ S1:World→Prop,S1 w4∧∃ x5 x6 s2 x7,(∀ u1,S1 u1→cellsAt u1 ⟨B1,0,none⟩ [.int .i64 x5,.int .u8 x6,.string s2,.int .i64 x7] 0)∧∃ a3 l3 c3,(∀ u2,S1 u2→u2.cell? (Addr.add ⟨B1,0,none⟩ 4)=some (.slice a3 l3 c3))∧CallsR prog K.slices_Clone_byte #[.slice a3 l3 c3] w4 fun v1 w5=>∃ a4 l4 c4,v1= .slice a4 l4 c4∧S1 w5∧callT yield [.agg #[.int .i64 x5,.int .u8 x6,.string s2,.int .i64 x7,.slice a4 l4 c4]] w5 fun v2 w6=>∃ b1,v2= .bool b1∧S1 w6∧br (!b1) (R (.tuple #[]) w6) (J1 (IntKind.i64.wrap (x1+1)) w6∧μ1 (IntKind.i64.wrap (x1+1)) w6 < μ1 x1 w1)) (R (.tuple #[]) w1)
theorem fact_own_1.sh {yield:Value} {y1a:Addr} {w:World} {R:Value→World→Prop} (h:fact_own_1.body yield y1a w R) :
  CallsR prog K.fact_own_1 #[yield,.pointer (some y1a)] w R :=
 calls_body follows (f:=K.fact_own_1) Tryz.func129 ([]) ([(1,[0,5,6],[7],[.int .i64 0])])
  (Eq.mp (by kernel_rfl) h)
def sort_Search.body (n:Int) (f:Value) (w:World) (R:Value→World→Prop):Prop :=
 ∃ (J1:Int→Int→World→Prop) (μ1:Int→Int→World→Nat),J1 0 n w∧∀ x1:Int,∀ x2:Int,∀ w1:World,J1 x1 x2 w1→br (decide (x1<x2)) (0≤(1:Int)∧callT f [.int .i64 (IntKind.i64.wrap (Int.fdiv (IntKind.u64.wrap (IntKind.i64.wrap (x1+x2))) (2 ^ (min (Int.toNat (1:Int)) (IntKind.bits .u64)))))] w1 fun v1 w2=>∃ b1,v1= .bool b1∧br (!b1) (J1 (IntKind.i64.wrap ((IntKind.i64.wrap (Int.fdiv (IntKind.u64.wrap (IntKind.i64.wrap (x1+x2))) (2 ^ (min (Int.toNat (1:Int)) (IntKind.bits .u64)))))+1)) x2 w2∧μ1 (IntKind.i64.wrap ((IntKind.i64.wrap (Int.fdiv (IntKind.u64.wrap (IntKind.i64.wrap (x1+x2))) (2 ^ (min (Int.toNat (1:Int)) (IntKind.bits .u64)))))+1)) x2 w2 < μ1 x1 x2 w1) (J1 x1 (IntKind.i64.wrap (Int.fdiv (IntKind.u64.wrap (IntKind.i64.wrap (x1+x2))) (2 ^ (min (Int.toNat (1:Int)) (IntKind.bits .u64))))) w2∧μ1 x1 (IntKind.i64.wrap (Int.fdiv (IntKind.u64.wrap (IntKind.i64.wrap (x1+x2))) (2 ^ (min (Int.toNat (1:Int)) (IntKind.bits .u64))))) w2 < μ1 x1 x2 w1)) (R (.int .i64 x1) w1)
theorem sort_Search.sh {n:Int} {f:Value} {w:World} {R:Value→World→Prop} (h:sort_Search.body n f w R) :
  CallsR prog K.sort_Search #[.int .i64 n,f] w R :=
 calls_body follows (f:=K.sort_Search) Tryz.func130 ([]) ([(2,[1],[5,6],[.int .i64 0,.int .i64 0])])
  (Eq.mp (by kernel_rfl) h)
def fact_place_1.body (i:Int) (y1a:Addr) (y2a:Addr) (w:World) (R:Value→World→Prop):Prop :=
 ∀ w1:World,Drew w w1→∃ S1:World→Prop,S1 w1∧∃ a1 l1 c1,(∀ u1,S1 u1→u1.cell? y1a=some (.slice a1 l1 c1))∧idxP a1 l1 i 5 fun q1=>∃ x1 x2 s1 x3,(∀ u2,S1 u2→cellsAt u2 q1 [.int .i64 x1,.int .u8 x2,.string s1,.int .i64 x3] 0)∧∃ x4 x5 s2 x6,(∀ u3,S1 u3→cellsAt u3 y2a [.int .i64 x4,.int .u8 x5,.string s2,.int .i64 x6] 0)∧CallsR prog K.fact_Before #[.agg #[.int .i64 x1,.int .u8 x2,.string s1,.int .i64 x3],.agg #[.int .i64 x4,.int .u8 x5,.string s2,.int .i64 x6]] w1 fun v1 w2=>∃ b1,v1= .bool b1∧S1 w2∧R (.bool (!b1)) w2
theorem fact_place_1.sh {i:Int} {y1a:Addr} {y2a:Addr} {w:World} {R:Value→World→Prop} (h:fact_place_1.body i y1a y2a w R) :
  CallsR prog K.fact_place_1 #[.int .i64 i,.pointer (some y1a),.pointer (some y2a)] w R :=
 calls_body follows (f:=K.fact_place_1) Tryz.func131 ([]) ([])
  (Eq.mp (by kernel_rfl) h)
def nand_Chip_Program_1.body (i:Int) (y1a:Addr) (w:World) (R:Value→World→Prop):Prop :=
 ∃ a1 l1 c1,w.cell? y1a=some (.slice a1 l1 c1)∧idxP a1 l1 i 1 fun q1=>∃ x1,w.cell? q1=some (.int .u8 x1)∧R (.int .u8 x1) w
theorem nand_Chip_Program_1.sh {i:Int} {y1a:Addr} {w:World} {R:Value→World→Prop} (h:nand_Chip_Program_1.body i y1a w R) :
  CallsR prog K.nand_Chip_Program_1 #[.int .i64 i,.pointer (some y1a)] w R :=
 calls_body follows (f:=K.nand_Chip_Program_1) Tryz.func134 ([]) ([])
  (Eq.mp (by kernel_rfl) h)
def carrackref02_Size.body (n:Int) (w:World) (R:Value→World→Prop):Prop :=
 br (decide (n≥128)) (R (.bool (decide (n≤256))) w) (R (.bool false) w)
theorem carrackref02_Size.sh {n:Int} {w:World} {R:Value→World→Prop} (h:carrackref02_Size.body n w R) :
  CallsR prog K.carrackref02_Size #[.int .i64 n] w R :=
 calls_body follows (f:=K.carrackref02_Size) Tryz.func136 ([]) ([])
  (Eq.mp (by kernel_rfl) h)
def carrackref02_Noughts.body (b:Option Addr) (bL bC:Nat) (w:World) (R:Value→World→Prop):Prop :=
 ∃ (J1:Int→Int→World→Prop) (μ1:Int→Int→World→Nat),J1 0 0 w∧∀ x1:Int,∀ x2:Int,∀ w1:World,J1 x1 x2 w1→br (decide (x2<((bL:Nat):Int))) (∃ (J2:Int→Int→World→Prop) (μ2:Int→Int→World→Nat),J2 x1 1 w1∧∀ x3:Int,∀ x4:Int,∀ w2:World,J2 x3 x4 w2→br (decide (x4≤128)) (idxP b bL x2 1 fun q1=>∃ x5,w2.cell? q1=some (.int .u8 x5)∧x4≠0∧(2:Int)≠0∧br ((Int.tmod (IntKind.i64.wrap (Int.tdiv (IntKind.i64.wrap x5) x4)) 2) == 0) (J2 (IntKind.i64.wrap (x3+1)) (IntKind.i64.wrap ((2:Int) * x4)) w2∧μ2 (IntKind.i64.wrap (x3+1)) (IntKind.i64.wrap ((2:Int) * x4)) w2 < μ2 x3 x4 w2) (J2 x3 (IntKind.i64.wrap ((2:Int) * x4)) w2∧μ2 x3 (IntKind.i64.wrap ((2:Int) * x4)) w2 < μ2 x3 x4 w2)) (J1 x3 (IntKind.i64.wrap (x2+1)) w2∧μ1 x3 (IntKind.i64.wrap (x2+1)) w2 < μ1 x1 x2 w1)) (R (.int .i64 x1) w1)
theorem carrackref02_Noughts.sh {b:Option Addr} {bL bC:Nat} {w:World} {R:Value→World→Prop} (h:carrackref02_Noughts.body b bL bC w R) :
  CallsR prog K.carrackref02_Noughts #[.slice b bL bC] w R :=
 calls_body follows (f:=K.carrackref02_Noughts) Tryz.func138 ([]) ([(3,[0],[3,4],[.int .i64 0,.int .i64 0]),(6,[0,4],[3,5],[.int .i64 0,.int .i64 0])])
  (Eq.mp (by kernel_rfl) h)
end
section
set_option maxRecDepth 100000
open Go.Proofs
def carrackref06_order.body (a:ByteArray) (b:ByteArray) (w:World) (R:Value→World→Prop):Prop :=
 ∃ (J1:Int→World→Prop) (μ1:Int→World→Nat),J1 0 w∧∀ x1:Int,∀ w1:World,J1 x1 w1→br (decide (x1<((a.size:Nat):Int))) (br (decide (x1<((b.size:Nat):Int))) (∀ w2:World,Drew w1 w2→∃ S1:World→Prop,S1 w2∧0≤x1∧∃ y1:UInt8,a.data.toList[Int.toNat x1]?=some y1∧0≤x1∧∃ y2:UInt8,b.data.toList[Int.toNat x1]?=some y2∧br (((UInt8.toNat y1:Nat):Int) != ((UInt8.toNat y2:Nat):Int)) (∀ w3:World,Drew w2 w3→∃ S2:World→Prop,S2 w3∧0≤x1∧∃ y3:UInt8,a.data.toList[Int.toNat x1]?=some y3∧0≤x1∧∃ y4:UInt8,b.data.toList[Int.toNat x1]?=some y4∧R (.int .i64 (IntKind.i64.wrap ((IntKind.i64.wrap ((UInt8.toNat y3:Nat):Int)) - (IntKind.i64.wrap ((UInt8.toNat y4:Nat):Int))))) w3) (J1 (IntKind.i64.wrap (x1+1)) w2∧μ1 (IntKind.i64.wrap (x1+1)) w2 < μ1 x1 w1)) (R (.int .i64 (IntKind.i64.wrap (((a.size:Nat):Int) - ((b.size:Nat):Int)))) w1)) (R (.int .i64 (IntKind.i64.wrap (((a.size:Nat):Int) - ((b.size:Nat):Int)))) w1)
theorem carrackref06_order.sh {a:ByteArray} {b:ByteArray} {w:World} {R:Value→World→Prop} (h:carrackref06_order.body a b w R) :
  CallsR prog K.carrackref06_order #[.string a,.string b] w R :=
 calls_body follows (f:=K.carrackref06_order) Tryz.func143 ([]) ([(2,[0,1],[5],[.int .i64 0])])
  (Eq.mp (by kernel_rfl) h)
def carrackref06_PutKey.body (k_Ino:Int) (k_What:Int) (k_Name:ByteArray) (k_Chunk:Int) (w:World) (R:Value→World→Prop):Prop :=
 ∀ B1 w1,New w (.cells #[.int .i64 k_Ino,.int .u8 k_What,.string k_Name,.int .i64 k_Chunk] T.api_Key) B1 w1→∃ x1 x2 s1 x3,cellsAt w1 ⟨B1,0,none⟩ [.int .i64 x1,.int .u8 x2,.string s1,.int .i64 x3] 0∧CallsR prog K.carrackref06_MayKey #[.agg #[.int .i64 x1,.int .u8 x2,.string s1,.int .i64 x3]] w1 fun v1 w2=>∃ b1,v1= .bool b1∧br (!b1) (R (.tuple #[.slice none 0 0,.int .i64 2]) w2) (∃ x4,w2.cell? ⟨B1,0,none⟩= some (.int .i64 x4)∧(256:Int)≠0∧∃ x5,w2.cell? ⟨B1,0,none⟩= some (.int .i64 x5)∧(256:Int)≠0∧∃ x6,w2.cell? (Addr.add ⟨B1,0,none⟩ 1)=some (.int .u8 x6)∧∀ B2 w3,New w2 (.cells #[.int .u8 (IntKind.u8.wrap (Int.tmod x4 256)),.int .u8 (IntKind.u8.wrap (IntKind.i64.wrap (Int.tdiv x5 256))),.int .u8 x6] T.uint8) B2 w3→∃ x7,w3.cell? (Addr.add ⟨B1,0,none⟩ 1)=some (.int .u8 x7)∧br (x7 == 2) (∃ s2,w3.cell? (Addr.add ⟨B1,0,none⟩ 2)=some (.string s2)∧∀ B3 w4,New w3 (.cells #[.int .u8 (IntKind.u8.wrap ((s2.size:Nat):Int))] T.uint8) B3 w4→appendP T.uint8 1 1 [.int .u8 0] (some ⟨B2,0,none⟩) 3 3 (.slice (some ⟨B3,0,none⟩) 1 1) w4 fun a1 l1 c1 w5=>∃ (J1:Option Addr→Nat→Nat→Int→World→Prop) (μ1:Option Addr→Nat→Nat→Int→World→Nat),J1 a1 l1 c1 0 w5∧∀ (a2:Option Addr) (l2 c2:Nat),∀ x8:Int,∀ w6:World,J1 a2 l2 c2 x8 w6→∃ s3,w6.cell? (Addr.add ⟨B1,0,none⟩ 2)=some (.string s3)∧br (decide (x8<((s3.size:Nat):Int))) (∃ s4,w6.cell? (Addr.add ⟨B1,0,none⟩ 2)=some (.string s4)∧0≤x8∧∃ y1:UInt8,s4.data.toList[Int.toNat x8]?=some y1∧∀ B4 w7,New w6 (.cells #[.int .u8 ((UInt8.toNat y1:Nat):Int)] T.uint8) B4 w7→appendP T.uint8 1 1 [.int .u8 0] a2 l2 c2 (.slice (some ⟨B4,0,none⟩) 1 1) w7 fun a3 l3 c3 w8=>J1 a3 l3 c3 (IntKind.i64.wrap (x8+1)) w8∧μ1 a3 l3 c3 (IntKind.i64.wrap (x8+1)) w8 < μ1 a2 l2 c2 x8 w6) (R (.tuple #[.slice a2 l2 c2,.int .i64 0]) w6)) (br (x7 == 3) (∃ x9,w3.cell? (Addr.add ⟨B1,0,none⟩ 3)=some (.int .i64 x9)∧∀ B5 w9,New w3 (.cells #[.int .u8 (IntKind.u8.wrap x9)] T.uint8) B5 w9→appendP T.uint8 1 1 [.int .u8 0] (some ⟨B2,0,none⟩) 3 3 (.slice (some ⟨B5,0,none⟩) 1 1) w9 fun a4 l4 c4 w10=>R (.tuple #[.slice a4 l4 c4,.int .i64 0]) w10) (R (.tuple #[.slice (some ⟨B2,0,none⟩) 3 3,.int .i64 0]) w3)))
theorem carrackref06_PutKey.sh {k_Ino:Int} {k_What:Int} {k_Name:ByteArray} {k_Chunk:Int} {w:World} {R:Value→World→Prop} (h:carrackref06_PutKey.body k_Ino k_What k_Name k_Chunk w R) :
  CallsR prog K.carrackref06_PutKey #[.agg #[.int .i64 k_Ino,.int .u8 k_What,.string k_Name,.int .i64 k_Chunk]] w R :=
 calls_body follows (f:=K.carrackref06_PutKey) Tryz.func144 ([]) ([(8,[1],[4,5],[.slice none 0 0,.int .i64 0])])
  (Eq.mp (by kernel_rfl) h)
def carrackref01_Row.body (b:Option Addr) (bL bC:Nat) (w:World) (R:Value→World→Prop):Prop :=
 br (decide (((bL:Nat):Int) > 255)) (R (.tuple #[.slice none 0 0,.int .i64 3]) w) (∀ B1 w1,New w (.cells #[.int .u8 (IntKind.u8.wrap ((bL:Nat):Int))] T.uint8) B1 w1→appendP T.uint8 1 1 [.int .u8 0] (some ⟨B1,0,none⟩) 1 1 (.slice b bL bC) w1 fun a1 l1 c1 w2=>R (.tuple #[.slice a1 l1 c1,.int .i64 0]) w2)
theorem carrackref01_Row.sh {b:Option Addr} {bL bC:Nat} {w:World} {R:Value→World→Prop} (h:carrackref01_Row.body b bL bC w R) :
  CallsR prog K.carrackref01_Row #[.slice b bL bC] w R :=
 calls_body follows (f:=K.carrackref01_Row) Tryz.func145 ([]) ([])
  (Eq.mp (by kernel_rfl) h)
def slices_Grow_byte.body (s:Option Addr) (sL sC:Nat) (n:Int) (w:World) (R:Value→World→Prop):Prop :=
 br (decide (n<0)) (False) (br (decide ((IntKind.i64.wrap (n - (IntKind.i64.wrap (((sC:Nat):Int) - ((sL:Nat):Int))))) > 0)) (sliceP 1 s sL sC none (some ((sC:Nat):Int)) none fun a1 l1 c1=>appendZ T.uint8 1 1 [.int .u8 0] a1 l1 c1 (IntKind.i64.wrap (n - (IntKind.i64.wrap (((sC:Nat):Int) - ((sL:Nat):Int))))) w fun a2 l2 c2 w1=>sliceP 1 a2 l2 c2 none (some ((sL:Nat):Int)) none fun a3 l3 c3=>R (.slice a3 l3 c3) w1) (R (.slice s sL sC) w))
theorem slices_Grow_byte.sh {s:Option Addr} {sL sC:Nat} {n:Int} {w:World} {R:Value→World→Prop} (h:slices_Grow_byte.body s sL sC n w R) :
  CallsR prog K.slices_Grow_byte #[.slice s sL sC,.int .i64 n] w R :=
 calls_body follows (f:=K.slices_Grow_byte) Tryz.func146 ([]) ([])
  (Eq.mp (by kernel_rfl) h)
def carrackref05_Name.body (s:ByteArray) (w:World) (R:Value→World→Prop):Prop :=
 ∃ (J1:Int→World→Prop) (μ1:Int→World→Nat),J1 0 w∧∀ x1:Int,∀ w1:World,J1 x1 w1→br (decide (x1<((s.size:Nat):Int))) (0≤x1∧∃ y1:UInt8,s.data.toList[Int.toNat x1]?=some y1∧br (decide (((UInt8.toNat y1:Nat):Int)≥97)) (br (decide (((UInt8.toNat y1:Nat):Int)≤122)) (J1 (IntKind.i64.wrap (x1+1)) w1∧μ1 (IntKind.i64.wrap (x1+1)) w1 < μ1 x1 w1) (br (decide (((UInt8.toNat y1:Nat):Int)≥48)) (br (decide (((UInt8.toNat y1:Nat):Int)≤57)) (J1 (IntKind.i64.wrap (x1+1)) w1∧μ1 (IntKind.i64.wrap (x1+1)) w1 < μ1 x1 w1) (br (((UInt8.toNat y1:Nat):Int) == 46) (J1 (IntKind.i64.wrap (x1+1)) w1∧μ1 (IntKind.i64.wrap (x1+1)) w1 < μ1 x1 w1) (br (!(((UInt8.toNat y1:Nat):Int) == 45)) (R (.bool false) w1) (J1 (IntKind.i64.wrap (x1+1)) w1∧μ1 (IntKind.i64.wrap (x1+1)) w1 < μ1 x1 w1)))) (br (((UInt8.toNat y1:Nat):Int) == 46) (J1 (IntKind.i64.wrap (x1+1)) w1∧μ1 (IntKind.i64.wrap (x1+1)) w1 < μ1 x1 w1) (br (!(((UInt8.toNat y1:Nat):Int) == 45)) (R (.bool false) w1) (J1 (IntKind.i64.wrap (x1+1)) w1∧μ1 (IntKind.i64.wrap (x1+1)) w1 < μ1 x1 w1))))) (br (decide (((UInt8.toNat y1:Nat):Int)≥48)) (br (decide (((UInt8.toNat y1:Nat):Int)≤57)) (J1 (IntKind.i64.wrap (x1+1)) w1∧μ1 (IntKind.i64.wrap (x1+1)) w1 < μ1 x1 w1) (br (((UInt8.toNat y1:Nat):Int) == 46) (J1 (IntKind.i64.wrap (x1+1)) w1∧μ1 (IntKind.i64.wrap (x1+1)) w1 < μ1 x1 w1) (br (!(((UInt8.toNat y1:Nat):Int) == 45)) (R (.bool false) w1) (J1 (IntKind.i64.wrap (x1+1)) w1∧μ1 (IntKind.i64.wrap (x1+1)) w1 < μ1 x1 w1)))) (br (((UInt8.toNat y1:Nat):Int) == 46) (J1 (IntKind.i64.wrap (x1+1)) w1∧μ1 (IntKind.i64.wrap (x1+1)) w1 < μ1 x1 w1) (br (!(((UInt8.toNat y1:Nat):Int) == 45)) (R (.bool false) w1) (J1 (IntKind.i64.wrap (x1+1)) w1∧μ1 (IntKind.i64.wrap (x1+1)) w1 < μ1 x1 w1))))) (br (decide (((s.size:Nat):Int) > 0)) (br (decide (((s.size:Nat):Int)≤12)) (br (!(s.toList == (⟨#[46]⟩: ByteArray).toList)) (R (.bool (!(s.toList == (⟨#[46,46]⟩: ByteArray).toList))) w1) (R (.bool false) w1)) (R (.bool false) w1)) (R (.bool false) w1))
theorem carrackref05_Name.sh {s:ByteArray} {w:World} {R:Value→World→Prop} (h:carrackref05_Name.body s w R) :
  CallsR prog K.carrackref05_Name #[.string s] w R :=
 calls_body follows (f:=K.carrackref05_Name) Tryz.func147 ([]) ([(2,[0],[3],[.int .i64 0])])
  (Eq.mp (by kernel_rfl) h)
def scan_Pages.body (c:Option Addr) (block:Int) (w:World) (R:Value→World→Prop):Prop :=
 CallsR prog K.nand_Chip_Read #[.pointer c,.int .i64 block,.int .i64 0] w fun v1 w1=>∃ a1 l1 c1 x1,v1= .tuple #[.slice a1 l1 c1,.int .i64 x1]∧br (x1 != 0) (R (.tuple #[.slice none 0 0,.int .i64 x1]) w1) (∃ (J1:Option Addr→Nat→Nat→Int→World→Prop) (μ1:Option Addr→Nat→Nat→Int→World→Nat),J1 none 0 0 1 w1∧∀ (a2:Option Addr) (l2 c2:Nat),∀ x2:Int,∀ w2:World,J1 a2 l2 c2 x2 w2→CallsR prog K.nand_Chip_Geo #[.pointer c] w2 fun v2 w3=>∃ x3 x4 x5 x6,v2= .agg #[.int .i64 x3,.int .i64 x4,.int .i64 x5,.int .i64 x6]∧br (decide (x2<x4)) (CallsR prog K.nand_Chip_Read #[.pointer c,.int .i64 block,.int .i64 x2] w3 fun v3 w4=>∃ a3 l3 c3 x7,v3= .tuple #[.slice a3 l3 c3,.int .i64 x7]∧CallsR prog K.scan_page #[.int .i64 x2,.slice a3 l3 c3] w4 fun v4 w5=>∃ x8 a4 l4 c4 x9 b1,v4= .tuple #[.agg #[.int .i64 x8,.slice a4 l4 c4,.int .u64 x9],.bool b1]∧∀ B1 w6,New w5 (.cells #[.int .i64 0,.slice none 0 0,.int .u64 0] T.api_Page) B1 w6→storeP w6 ⟨B1,0,none⟩ [.int .i64 x8,.slice a4 l4 c4,.int .u64 x9] fun w7=>br b1 (∃ x10 a5 l5 c5 x11,cellsAt w7 ⟨B1,0,none⟩ [.int .i64 x10,.slice a5 l5 c5,.int .u64 x11] 0∧∀ B2 w8,New w7 (.cells #[.int .i64 x10,.slice a5 l5 c5,.int .u64 x11] T.api_Page) B2 w8→appendP T.api_Page 3 40 [.int .i64 0,.slice none 0 0,.int .u64 0] a2 l2 c2 (.slice (some ⟨B2,0,none⟩) 1 1) w8 fun a6 l6 c6 w9=>J1 a6 l6 c6 (IntKind.i64.wrap (x2+1)) w9∧μ1 a6 l6 c6 (IntKind.i64.wrap (x2+1)) w9 < μ1 a2 l2 c2 x2 w2) (J1 a2 l2 c2 (IntKind.i64.wrap (x2+1)) w7∧μ1 a2 l2 c2 (IntKind.i64.wrap (x2+1)) w7 < μ1 a2 l2 c2 x2 w2)) (R (.tuple #[.slice a2 l2 c2,.int .i64 0]) w3))
theorem scan_Pages.sh {c:Option Addr} {block:Int} {w:World} {R:Value→World→Prop} (h:scan_Pages.body c block w R) :
  CallsR prog K.scan_Pages #[.pointer c,.int .i64 block] w R :=
 calls_body follows (f:=K.scan_Pages) Tryz.func148 ([]) ([(6,[0,1],[8,9],[.slice none 0 0,.int .i64 0])])
  (Eq.mp (by kernel_rfl) h)
def pool_GetHead.body (y0a:Option Addr) (y0aL y0aC:Nat) (w:World) (R:Value→World→Prop):Prop :=
 ∀ B1 w1,New w (.cells #[.int .u8 0,.int .u32 0,.int .u64 0] T.api_Head) B1 w1→CallsR prog K.seal_Get #[.slice y0a y0aL y0aC] w1 fun v1 w2=>∃ x1 a1 l1 c1 x2,v1= .tuple #[.int .u8 x1,.slice a1 l1 c1,.int .i64 x2]∧br (x2 != 0) (storeP w2 ⟨B1,0,none⟩ [.int .u8 0,.int .u32 0,.int .u64 0] fun w3=>∃ x3 x4 x5,cellsAt w3 ⟨B1,0,none⟩ [.int .u8 x3,.int .u32 x4,.int .u64 x5] 0∧R (.tuple #[.agg #[.int .u8 x3,.int .u32 x4,.int .u64 x5],.int .i64 x2]) w3) (CallsR prog K.ends_New #[.slice a1 l1 c1] w2 fun v2 w4=>∃ p1,v2= .pointer p1∧CallsR prog K.ends_Reader_Take #[.pointer p1,.int .i64 1] w4 fun v3 w5=>∃ x6 x7,v3= .tuple #[.int .u64 x6,.int .i64 x7]∧CallsR prog K.ends_Reader_Take #[.pointer p1,.int .i64 4] w5 fun v4 w6=>∃ x8 x9,v4= .tuple #[.int .u64 x8,.int .i64 x9]∧CallsR prog K.ends_Reader_Take #[.pointer p1,.int .i64 8] w6 fun v5 w7=>∃ x10 x11,v5= .tuple #[.int .u64 x10,.int .i64 x11]∧∀ B2 w8,New w7 (.cells #[.int .u8 0,.int .u32 0,.int .u64 0] T.api_Head) B2 w8→storeP w8 ⟨B2,0,none⟩ [.int .u8 (IntKind.u8.wrap x6),.int .u32 (IntKind.u32.wrap x8),.int .u64 x10] fun w9=>∃ x12 x13 x14,cellsAt w9 ⟨B2,0,none⟩ [.int .u8 x12,.int .u32 x13,.int .u64 x14] 0∧CallsR prog K.pool_PutHead #[.int .i64 ((y0aL:Nat):Int),.agg #[.int .u8 x12,.int .u32 x13,.int .u64 x14]] w9 fun v6 w10=>∃ a2 l2 c2 x15,v6= .tuple #[.slice a2 l2 c2,.int .i64 x15]∧br (x15 != 0) (storeP w10 ⟨B1,0,none⟩ [.int .u8 0,.int .u32 0,.int .u64 0] fun w11=>∃ x16 x17 x18,cellsAt w11 ⟨B1,0,none⟩ [.int .u8 x16,.int .u32 x17,.int .u64 x18] 0∧R (.tuple #[.agg #[.int .u8 x16,.int .u32 x17,.int .u64 x18],.int .i64 5]) w11) (br (x1 != 1) (storeP w10 ⟨B1,0,none⟩ [.int .u8 0,.int .u32 0,.int .u64 0] fun w12=>∃ x19 x20 x21,cellsAt w12 ⟨B1,0,none⟩ [.int .u8 x19,.int .u32 x20,.int .u64 x21] 0∧R (.tuple #[.agg #[.int .u8 x19,.int .u32 x20,.int .u64 x21],.int .i64 5]) w12) (br (((l1:Nat):Int) != 13) (storeP w10 ⟨B1,0,none⟩ [.int .u8 0,.int .u32 0,.int .u64 0] fun w13=>∃ x22 x23 x24,cellsAt w13 ⟨B1,0,none⟩ [.int .u8 x22,.int .u32 x23,.int .u64 x24] 0∧R (.tuple #[.agg #[.int .u8 x22,.int .u32 x23,.int .u64 x24],.int .i64 5]) w13) (∃ x25 x26 x27,cellsAt w10 ⟨B2,0,none⟩ [.int .u8 x25,.int .u32 x26,.int .u64 x27] 0∧storeP w10 ⟨B1,0,none⟩ [.int .u8 x25,.int .u32 x26,.int .u64 x27] fun w14=>∃ x28 x29 x30,cellsAt w14 ⟨B1,0,none⟩ [.int .u8 x28,.int .u32 x29,.int .u64 x30] 0∧R (.tuple #[.agg #[.int .u8 x28,.int .u32 x29,.int .u64 x30],.int .i64 0]) w14))))
theorem pool_GetHead.sh {y0a:Option Addr} {y0aL y0aC:Nat} {w:World} {R:Value→World→Prop} (h:pool_GetHead.body y0a y0aL y0aC w R) :
  CallsR prog K.pool_GetHead #[.slice y0a y0aL y0aC] w R :=
 calls_body follows (f:=K.pool_GetHead) Tryz.func149 ([]) ([])
  (Eq.mp (by kernel_rfl) h)
def slices_SortStableFunc_api_Taken.body (x:Option Addr) (xL xC:Nat) (cmp:Value) (w:World) (R:Value→World→Prop):Prop :=
 CallsR prog K.slices_stableCmpFunc_api_Taken #[.slice x xL xC,.int .i64 ((xL:Nat):Int),cmp] w fun v1 w1=>v1= .tuple #[]∧R (.tuple #[]) w1
theorem slices_SortStableFunc_api_Taken.sh {x:Option Addr} {xL xC:Nat} {cmp:Value} {w:World} {R:Value→World→Prop} (h:slices_SortStableFunc_api_Taken.body x xL xC cmp w R) :
  CallsR prog K.slices_SortStableFunc_api_Taken #[.slice x xL xC,cmp] w R :=
 calls_body follows (f:=K.slices_SortStableFunc_api_Taken) Tryz.func150 ([]) ([])
  (Eq.mp (by kernel_rfl) h)
def pool_Pool_Taken_1.body (a_Block:Int) (a_Head_Kind:Int) (a_Head_Era:Int) (a_Head_Seq:Int) (a_Bad:Bool) (b_Block:Int) (b_Head_Kind:Int) (b_Head_Era:Int) (b_Head_Seq:Int) (b_Bad:Bool) (w:World) (R:Value→World→Prop):Prop :=
 ∀ B1 w1,New w (.cells #[.int .i64 a_Block,.int .u8 a_Head_Kind,.int .u32 a_Head_Era,.int .u64 a_Head_Seq,.bool a_Bad] T.api_Taken) B1 w1→∀ B2 w2,New w1 (.cells #[.int .i64 b_Block,.int .u8 b_Head_Kind,.int .u32 b_Head_Era,.int .u64 b_Head_Seq,.bool b_Bad] T.api_Taken) B2 w2→∃ x1,w2.cell? (Addr.add (Addr.add ⟨B1,0,none⟩ 1) 2)=some (.int .u64 x1)∧∃ x2,w2.cell? (Addr.add (Addr.add ⟨B2,0,none⟩ 1) 2)=some (.int .u64 x2)∧br (decide (x1<x2)) (R (.int .i64 (-1)) w2) (∃ x3,w2.cell? (Addr.add (Addr.add ⟨B1,0,none⟩ 1) 2)=some (.int .u64 x3)∧∃ x4,w2.cell? (Addr.add (Addr.add ⟨B2,0,none⟩ 1) 2)=some (.int .u64 x4)∧br (decide (x3 > x4)) (R (.int .i64 1) w2) (∃ x5,w2.cell? ⟨B1,0,none⟩= some (.int .i64 x5)∧∃ x6,w2.cell? ⟨B2,0,none⟩= some (.int .i64 x6)∧R (.int .i64 (IntKind.i64.wrap (x5 - x6))) w2))
theorem pool_Pool_Taken_1.sh {a_Block:Int} {a_Head_Kind:Int} {a_Head_Era:Int} {a_Head_Seq:Int} {a_Bad:Bool} {b_Block:Int} {b_Head_Kind:Int} {b_Head_Era:Int} {b_Head_Seq:Int} {b_Bad:Bool} {w:World} {R:Value→World→Prop} (h:pool_Pool_Taken_1.body a_Block a_Head_Kind a_Head_Era a_Head_Seq a_Bad b_Block b_Head_Kind b_Head_Era b_Head_Seq b_Bad w R) :
  CallsR prog K.pool_Pool_Taken_1 #[.agg #[.int .i64 a_Block,.int .u8 a_Head_Kind,.int .u32 a_Head_Era,.int .u64 a_Head_Seq,.bool a_Bad],.agg #[.int .i64 b_Block,.int .u8 b_Head_Kind,.int .u32 b_Head_Era,.int .u64 b_Head_Seq,.bool b_Bad]] w R :=
 calls_body follows (f:=K.pool_Pool_Taken_1) Tryz.func151 ([]) ([])
  (Eq.mp (by kernel_rfl) h)
def pack_Cost.body (f_Key_Ino:Int) (f_Key_What:Int) (f_Key_Name:ByteArray) (f_Key_Chunk:Int) (f_Value:Option Addr) (f_ValueL f_ValueC:Nat) (w:World) (R:Value→World→Prop):Prop :=
 ∀ B1 w1,New w (.cells #[.int .i64 f_Key_Ino,.int .u8 f_Key_What,.string f_Key_Name,.int .i64 f_Key_Chunk,.slice f_Value f_ValueL f_ValueC] T.api_Fact) B1 w1→∃ x1 x2 s1 x3,cellsAt w1 ⟨B1,0,none⟩ [.int .i64 x1,.int .u8 x2,.string s1,.int .i64 x3] 0∧CallsR prog K.fact_PutKey #[.agg #[.int .i64 x1,.int .u8 x2,.string s1,.int .i64 x3]] w1 fun v1 w2=>∃ a1 l1 c1 x4,v1= .tuple #[.slice a1 l1 c1,.int .i64 x4]∧br (x4 != 0) (R (.int .i64 0) w2) (∃ a2 l2 c2,w2.cell? (Addr.add ⟨B1,0,none⟩ 4)=some (.slice a2 l2 c2)∧R (.int .i64 (IntKind.i64.wrap ((IntKind.i64.wrap ((2:Int)+((l1:Nat):Int)))+((l2:Nat):Int)))) w2)
theorem pack_Cost.sh {f_Key_Ino:Int} {f_Key_What:Int} {f_Key_Name:ByteArray} {f_Key_Chunk:Int} {f_Value:Option Addr} {f_ValueL f_ValueC:Nat} {w:World} {R:Value→World→Prop} (h:pack_Cost.body f_Key_Ino f_Key_What f_Key_Name f_Key_Chunk f_Value f_ValueL f_ValueC w R) :
  CallsR prog K.pack_Cost #[.agg #[.int .i64 f_Key_Ino,.int .u8 f_Key_What,.string f_Key_Name,.int .i64 f_Key_Chunk,.slice f_Value f_ValueL f_ValueC]] w R :=
 calls_body follows (f:=K.pack_Cost) Tryz.func152 ([]) ([])
  (Eq.mp (by kernel_rfl) h)
def pool_Pool_alive.body (p:Option Addr) (w:World) (R:Value→World→Prop):Prop :=
 CallsR prog K.pool_Pool_off #[.pointer p] w fun v1 w1=>∃ b1,v1= .bool b1∧br b1 (R (.int .i64 1) w1) (nilC p fun q1=>∃ p1,w1.cell? q1=some (.pointer p1)∧CallsR prog K.nand_Chip_Read #[.pointer p1,.int .i64 0,.int .i64 0] w1 fun v2 w2=>∃ a1 l1 c1 x1,v2= .tuple #[.slice a1 l1 c1,.int .i64 x1]∧R (.int .i64 x1) w2)
theorem pool_Pool_alive.sh {p:Option Addr} {w:World} {R:Value→World→Prop} (h:pool_Pool_alive.body p w R) :
  CallsR prog K.pool_Pool_alive #[.pointer p] w R :=
 calls_body follows (f:=K.pool_Pool_alive) Tryz.func153 ([]) ([])
  (Eq.mp (by kernel_rfl) h)
def pool_Pool_try.body (y0a:Option Addr) (y1a:Int) (y2a:Int) (y3a:Int) (w:World) (R:Value→World→Prop):Prop :=
 nilC y0a fun q1=>∃ a1 l1 c1,w.cell? (q1.add 1)=some (.slice a1 l1 c1)∧idxP a1 l1 y1a 4 fun q2=>∃ x1,w.cell? q2=some (.int .i64 x1)∧br (x1 == 1) (nilC y0a fun q3=>∃ p1,w.cell? q3=some (.pointer p1)∧CallsR prog K.nand_Chip_Erase #[.pointer p1,.int .i64 y1a] w fun v1 w1=>∃ x2,v1= .int .i64 x2∧CallsR prog K.pool_Pool_look #[.pointer y0a,.int .i64 y1a] w1 fun v2 w2=>v2= .tuple #[]∧br (x2 != 0) (R (.int .i64 x2) w2) (nilC y0a fun q4=>∃ x3,w2.cell? (q4.add 2)=some (.int .u64 x3)∧nilC y0a fun q5=>storeP w2 (q5.add 2) [.int .u64 (IntKind.u64.wrap (x3+1))] fun w3=>∀ w4:World,Drew w3 w4→∃ S1:World→Prop,S1 w4∧nilC y0a fun q6=>∃ p2,(∀ u1,S1 u1→u1.cell? q6=some (.pointer p2))∧nilC y0a fun q7=>∃ x4,(∀ u2,S1 u2→u2.cell? (q7.add 2)=some (.int .u64 x4))∧CallsR prog K.nand_Chip_Geo #[.pointer p2] w4 fun v3 w5=>∃ x5 x6 x7 x8,v3= .agg #[.int .i64 x5,.int .i64 x6,.int .i64 x7,.int .i64 x8]∧S1 w5∧CallsR prog K.pool_PutHead #[.int .i64 x7,.agg #[.int .u8 y2a,.int .u32 y3a,.int .u64 x4]] w5 fun v4 w6=>∃ a2 l2 c2 x9,v4= .tuple #[.slice a2 l2 c2,.int .i64 x9]∧S1 w6∧nilC y0a fun q8=>∃ p3,w6.cell? q8=some (.pointer p3)∧CallsR prog K.nand_Chip_Program #[.pointer p3,.int .i64 y1a,.int .i64 0,.slice a2 l2 c2] w6 fun v5 w7=>∃ x10,v5= .int .i64 x10∧CallsR prog K.pool_Pool_look #[.pointer y0a,.int .i64 y1a] w7 fun v6 w8=>v6= .tuple #[]∧R (.int .i64 x10) w8)) (nilC y0a fun q9=>∃ x11,w.cell? (q9.add 2)=some (.int .u64 x11)∧nilC y0a fun q10=>storeP w (q10.add 2) [.int .u64 (IntKind.u64.wrap (x11+1))] fun w9=>∀ w10:World,Drew w9 w10→∃ S2:World→Prop,S2 w10∧nilC y0a fun q11=>∃ p4,(∀ u3,S2 u3→u3.cell? q11=some (.pointer p4))∧nilC y0a fun q12=>∃ x12,(∀ u4,S2 u4→u4.cell? (q12.add 2)=some (.int .u64 x12))∧CallsR prog K.nand_Chip_Geo #[.pointer p4] w10 fun v7 w11=>∃ x13 x14 x15 x16,v7= .agg #[.int .i64 x13,.int .i64 x14,.int .i64 x15,.int .i64 x16]∧S2 w11∧CallsR prog K.pool_PutHead #[.int .i64 x15,.agg #[.int .u8 y2a,.int .u32 y3a,.int .u64 x12]] w11 fun v8 w12=>∃ a3 l3 c3 x17,v8= .tuple #[.slice a3 l3 c3,.int .i64 x17]∧S2 w12∧nilC y0a fun q13=>∃ p5,w12.cell? q13=some (.pointer p5)∧CallsR prog K.nand_Chip_Program #[.pointer p5,.int .i64 y1a,.int .i64 0,.slice a3 l3 c3] w12 fun v9 w13=>∃ x18,v9= .int .i64 x18∧CallsR prog K.pool_Pool_look #[.pointer y0a,.int .i64 y1a] w13 fun v10 w14=>v10= .tuple #[]∧R (.int .i64 x18) w14)
theorem pool_Pool_try.sh {y0a:Option Addr} {y1a:Int} {y2a:Int} {y3a:Int} {w:World} {R:Value→World→Prop} (h:pool_Pool_try.body y0a y1a y2a y3a w R) :
  CallsR prog K.pool_Pool_try #[.pointer y0a,.int .i64 y1a,.int .u8 y2a,.int .u32 y3a] w R :=
 calls_body follows (f:=K.pool_Pool_try) Tryz.func154 ([]) ([])
  (Eq.mp (by kernel_rfl) h)
def ends_isSize.body (n:Int) (w:World) (R:Value→World→Prop):Prop :=
 br (n == 1) (R (.bool true) w) (br (n == 2) (R (.bool true) w) (br (n == 4) (R (.bool true) w) (R (.bool (n == 8)) w)))
theorem ends_isSize.sh {n:Int} {w:World} {R:Value→World→Prop} (h:ends_isSize.body n w R) :
  CallsR prog K.ends_isSize #[.int .i64 n] w R :=
 calls_body follows (f:=K.ends_isSize) Tryz.func155 ([]) ([])
  (Eq.mp (by kernel_rfl) h)
def fact_PutKey.body (k_Ino:Int) (k_What:Int) (k_Name:ByteArray) (k_Chunk:Int) (w:World) (R:Value→World→Prop):Prop :=
 ∀ B1 w1,New w (.cells #[.int .i64 k_Ino,.int .u8 k_What,.string k_Name,.int .i64 k_Chunk] T.api_Key) B1 w1→∃ x1 x2 s1 x3,cellsAt w1 ⟨B1,0,none⟩ [.int .i64 x1,.int .u8 x2,.string s1,.int .i64 x3] 0∧CallsR prog K.fact_MayKey #[.agg #[.int .i64 x1,.int .u8 x2,.string s1,.int .i64 x3]] w1 fun v1 w2=>∃ b1,v1= .bool b1∧br (!b1) (R (.tuple #[.slice none 0 0,.int .i64 2]) w2) (∃ x4,w2.cell? ⟨B1,0,none⟩= some (.int .i64 x4)∧CallsR prog K.ends_Put #[.int .u64 (IntKind.u64.wrap x4),.int .i64 2] w2 fun v2 w3=>∃ a1 l1 c1 x5,v2= .tuple #[.slice a1 l1 c1,.int .i64 x5]∧∃ x6,w3.cell? (Addr.add ⟨B1,0,none⟩ 1)=some (.int .u8 x6)∧∀ B2 w4,New w3 (.cells #[.int .u8 x6] T.uint8) B2 w4→appendP T.uint8 1 1 [.int .u8 0] a1 l1 c1 (.slice (some ⟨B2,0,none⟩) 1 1) w4 fun a2 l2 c2 w5=>∃ x7,w5.cell? (Addr.add ⟨B1,0,none⟩ 1)=some (.int .u8 x7)∧br (x7 == 2) (∃ s2,w5.cell? (Addr.add ⟨B1,0,none⟩ 2)=some (.string s2)∧bytesOfP T.uint8 s2 w5 fun a3 l3 c3 w6=>CallsR prog K.ends_Row #[.slice a3 l3 c3] w6 fun v3 w7=>∃ a4 l4 c4 x8,v3= .tuple #[.slice a4 l4 c4,.int .i64 x8]∧appendP T.uint8 1 1 [.int .u8 0] a2 l2 c2 (.slice a4 l4 c4) w7 fun a5 l5 c5 w8=>R (.tuple #[.slice a5 l5 c5,.int .i64 0]) w8) (br (x7 == 3) (∃ x9,w5.cell? (Addr.add ⟨B1,0,none⟩ 3)=some (.int .i64 x9)∧∀ B3 w9,New w5 (.cells #[.int .u8 (IntKind.u8.wrap x9)] T.uint8) B3 w9→appendP T.uint8 1 1 [.int .u8 0] a2 l2 c2 (.slice (some ⟨B3,0,none⟩) 1 1) w9 fun a6 l6 c6 w10=>R (.tuple #[.slice a6 l6 c6,.int .i64 0]) w10) (R (.tuple #[.slice a2 l2 c2,.int .i64 0]) w5)))
theorem fact_PutKey.sh {k_Ino:Int} {k_What:Int} {k_Name:ByteArray} {k_Chunk:Int} {w:World} {R:Value→World→Prop} (h:fact_PutKey.body k_Ino k_What k_Name k_Chunk w R) :
  CallsR prog K.fact_PutKey #[.agg #[.int .i64 k_Ino,.int .u8 k_What,.string k_Name,.int .i64 k_Chunk]] w R :=
 calls_body follows (f:=K.fact_PutKey) Tryz.func156 ([]) ([])
  (Eq.mp (by kernel_rfl) h)
def rec_join.body (parts:Option Addr) (partsL partsC:Nat) (w:World) (R:Value→World→Prop):Prop :=
 CallsR prog K.slices_Concat_byte #[.slice parts partsL partsC] w fun v1 w1=>∃ a1 l1 c1,v1= .slice a1 l1 c1∧R (.slice a1 l1 c1) w1
theorem rec_join.sh {parts:Option Addr} {partsL partsC:Nat} {w:World} {R:Value→World→Prop} (h:rec_join.body parts partsL partsC w R) :
  CallsR prog K.rec_join #[.slice parts partsL partsC] w R :=
 calls_body follows (f:=K.rec_join) Tryz.func157 ([]) ([])
  (Eq.mp (by kernel_rfl) h)
def ends_Row.body (b:Option Addr) (bL bC:Nat) (w:World) (R:Value→World→Prop):Prop :=
 br (decide (((bL:Nat):Int) > 255)) (R (.tuple #[.slice none 0 0,.int .i64 3]) w) (∀ B1 w1,New w (.cells #[.int .u8 (IntKind.u8.wrap ((bL:Nat):Int))] T.uint8) B1 w1→appendP T.uint8 1 1 [.int .u8 0] (some ⟨B1,0,none⟩) 1 1 (.slice b bL bC) w1 fun a1 l1 c1 w2=>R (.tuple #[.slice a1 l1 c1,.int .i64 0]) w2)
theorem ends_Row.sh {b:Option Addr} {bL bC:Nat} {w:World} {R:Value→World→Prop} (h:ends_Row.body b bL bC w R) :
  CallsR prog K.ends_Row #[.slice b bL bC] w R :=
 calls_body follows (f:=K.ends_Row) Tryz.func158 ([]) ([])
  (Eq.mp (by kernel_rfl) h)
def bits_OnesCount8.body (x:Int) (w:World) (R:Value→World→Prop):Prop :=
 0≤x∧∃ y1:UInt8,(⟨(List.toArray (List.append (List.append [0,1,1,2,1,2,2,3,1,2,2,3,2,3,3,4,1,2,2,3,2,3,3,4,2,3,3,4,3,4,4,5,1,2,2,3,2,3,3,4,2,3,3,4,3,4,4,5,2,3,3,4,3,4,4,5,3,4,4,5,4,5,5,6] [1,2,2,3,2,3,3,4,2,3,3,4,3,4,4,5,2,3,3,4,3,4,4,5,3,4,4,5,4,5,5,6,2,3,3,4,3,4,4,5,3,4,4,5,4,5,5,6,3,4,4,5,4,5,5,6,4,5,5,6,5,6,6,7]) (List.append [1,2,2,3,2,3,3,4,2,3,3,4,3,4,4,5,2,3,3,4,3,4,4,5,3,4,4,5,4,5,5,6,2,3,3,4,3,4,4,5,3,4,4,5,4,5,5,6,3,4,4,5,4,5,5,6,4,5,5,6,5,6,6,7] [2,3,3,4,3,4,4,5,3,4,4,5,4,5,5,6,3,4,4,5,4,5,5,6,4,5,5,6,5,6,6,7,3,4,4,5,4,5,5,6,4,5,5,6,5,6,6,7,4,5,5,6,5,6,6,7,5,6,6,7,6,7,7,8])))⟩: ByteArray).data.toList[Int.toNat x]?=some y1∧R (.int .i64 (IntKind.i64.wrap ((UInt8.toNat y1:Nat):Int))) w
theorem bits_OnesCount8.sh {x:Int} {w:World} {R:Value→World→Prop} (h:bits_OnesCount8.body x w R) :
  CallsR prog K.bits_OnesCount8 #[.int .u8 x] w R :=
 calls_body follows (f:=K.bits_OnesCount8) Tryz.func159 ([]) ([])
  (Eq.mp (by kernel_rfl) h)
def fact_order.body (a_Ino:Int) (a_What:Int) (a_Name:ByteArray) (a_Chunk:Int) (b_Ino:Int) (b_What:Int) (b_Name:ByteArray) (b_Chunk:Int) (w:World) (R:Value→World→Prop):Prop :=
 ∀ B1 w1,New w (.cells #[.int .i64 a_Ino,.int .u8 a_What,.string a_Name,.int .i64 a_Chunk] T.api_Key) B1 w1→∀ B2 w2,New w1 (.cells #[.int .i64 b_Ino,.int .u8 b_What,.string b_Name,.int .i64 b_Chunk] T.api_Key) B2 w2→∀ w3:World,Drew w2 w3→∃ S1:World→Prop,S1 w3∧∃ x1,(∀ u1,S1 u1→u1.cell? ⟨B1,0,none⟩= some (.int .i64 x1))∧∃ x2,(∀ u2,S1 u2→u2.cell? ⟨B2,0,none⟩= some (.int .i64 x2))∧∃ x3,(∀ u3,S1 u3→u3.cell? (Addr.add ⟨B1,0,none⟩ 1)=some (.int .u8 x3))∧∃ x4,(∀ u4,S1 u4→u4.cell? (Addr.add ⟨B2,0,none⟩ 1)=some (.int .u8 x4))∧∃ s1,(∀ u5,S1 u5→u5.cell? (Addr.add ⟨B1,0,none⟩ 2)=some (.string s1))∧∃ s2,(∀ u6,S1 u6→u6.cell? (Addr.add ⟨B2,0,none⟩ 2)=some (.string s2))∧∃ x5,(∀ u7,S1 u7→u7.cell? (Addr.add ⟨B1,0,none⟩ 3)=some (.int .i64 x5))∧∃ x6,(∀ u8,S1 u8→u8.cell? (Addr.add ⟨B2,0,none⟩ 3)=some (.int .i64 x6))∧CallsR prog K.cmp_Compare_int #[.int .i64 x1,.int .i64 x2] w3 fun v1 w4=>∃ x7,v1= .int .i64 x7∧S1 w4∧CallsR prog K.cmp_Compare_uint8 #[.int .u8 x3,.int .u8 x4] w4 fun v2 w5=>∃ x8,v2= .int .i64 x8∧S1 w5∧CallsR prog K.cmp_Compare_string #[.string s1,.string s2] w5 fun v3 w6=>∃ x9,v3= .int .i64 x9∧S1 w6∧CallsR prog K.cmp_Compare_int #[.int .i64 x5,.int .i64 x6] w6 fun v4 w7=>∃ x10,v4= .int .i64 x10∧S1 w7∧∀ B3 w8,New w7 (.cells #[.int .i64 x7,.int .i64 x8,.int .i64 x9,.int .i64 x10] T.int) B3 w8→S1 w8∧CallsR prog K.cmp_Or_int #[.slice (some ⟨B3,0,none⟩) 4 4] w8 fun v5 w9=>∃ x11,v5= .int .i64 x11∧S1 w9∧R (.int .i64 x11) w9
theorem fact_order.sh {a_Ino:Int} {a_What:Int} {a_Name:ByteArray} {a_Chunk:Int} {b_Ino:Int} {b_What:Int} {b_Name:ByteArray} {b_Chunk:Int} {w:World} {R:Value→World→Prop} (h:fact_order.body a_Ino a_What a_Name a_Chunk b_Ino b_What b_Name b_Chunk w R) :
  CallsR prog K.fact_order #[.agg #[.int .i64 a_Ino,.int .u8 a_What,.string a_Name,.int .i64 a_Chunk],.agg #[.int .i64 b_Ino,.int .u8 b_What,.string b_Name,.int .i64 b_Chunk]] w R :=
 calls_body follows (f:=K.fact_order) Tryz.func160 ([]) ([])
  (Eq.mp (by kernel_rfl) h)
def scan_page.body (n:Int) (b:Option Addr) (bL bC:Nat) (w:World) (R:Value→World→Prop):Prop :=
 ∀ B1 w1,New w (.cells #[.int .i64 0,.slice none 0 0,.int .u64 0] T.api_Page) B1 w1→CallsR prog K.seal_Get #[.slice b bL bC] w1 fun v1 w2=>∃ x1 a1 l1 c1 x2,v1= .tuple #[.int .u8 x1,.slice a1 l1 c1,.int .i64 x2]∧∀ B2 w3,New w2 (.cells #[.int .i64 0,.slice none 0 0,.int .u64 0] T.api_Page) B2 w3→storeP w3 ⟨B2,0,none⟩ [.int .i64 n,.slice none 0 0,.int .u64 0] fun w4=>br (x2 != 0) (∃ x3 a2 l2 c2 x4,cellsAt w4 ⟨B2,0,none⟩ [.int .i64 x3,.slice a2 l2 c2,.int .u64 x4] 0∧storeP w4 ⟨B1,0,none⟩ [.int .i64 x3,.slice a2 l2 c2,.int .u64 x4] fun w5=>∃ x5 a3 l3 c3 x6,cellsAt w5 ⟨B1,0,none⟩ [.int .i64 x5,.slice a3 l3 c3,.int .u64 x6] 0∧R (.tuple #[.agg #[.int .i64 x5,.slice a3 l3 c3,.int .u64 x6],.bool (x2 == 0)]) w5) (br (x1 == 2) (CallsR prog K.rec_Get #[.slice a1 l1 c1] w4 fun v2 w6=>∃ a4 l4 c4 x7,v2= .tuple #[.slice a4 l4 c4,.int .i64 x7]∧storeP w6 (Addr.add ⟨B2,0,none⟩ 1) [.slice a4 l4 c4] fun w7=>∃ x8 a5 l5 c5 x9,cellsAt w7 ⟨B2,0,none⟩ [.int .i64 x8,.slice a5 l5 c5,.int .u64 x9] 0∧storeP w7 ⟨B1,0,none⟩ [.int .i64 x8,.slice a5 l5 c5,.int .u64 x9] fun w8=>∃ x10 a6 l6 c6 x11,cellsAt w8 ⟨B1,0,none⟩ [.int .i64 x10,.slice a6 l6 c6,.int .u64 x11] 0∧R (.tuple #[.agg #[.int .i64 x10,.slice a6 l6 c6,.int .u64 x11],.bool (x7 == 0)]) w8) (br (x1 == 3) (CallsR prog K.rec_GetDrop #[.slice a1 l1 c1] w4 fun v3 w9=>∃ x12 x13,v3= .tuple #[.int .u64 x12,.int .i64 x13]∧storeP w9 (Addr.add ⟨B2,0,none⟩ 2) [.int .u64 x12] fun w10=>∃ x14 a7 l7 c7 x15,cellsAt w10 ⟨B2,0,none⟩ [.int .i64 x14,.slice a7 l7 c7,.int .u64 x15] 0∧storeP w10 ⟨B1,0,none⟩ [.int .i64 x14,.slice a7 l7 c7,.int .u64 x15] fun w11=>∃ x16 a8 l8 c8 x17,cellsAt w11 ⟨B1,0,none⟩ [.int .i64 x16,.slice a8 l8 c8,.int .u64 x17] 0∧R (.tuple #[.agg #[.int .i64 x16,.slice a8 l8 c8,.int .u64 x17],.bool (x13 == 0)]) w11) (∃ x18 a9 l9 c9 x19,cellsAt w4 ⟨B2,0,none⟩ [.int .i64 x18,.slice a9 l9 c9,.int .u64 x19] 0∧storeP w4 ⟨B1,0,none⟩ [.int .i64 x18,.slice a9 l9 c9,.int .u64 x19] fun w12=>∃ x20 a10 l10 c10 x21,cellsAt w12 ⟨B1,0,none⟩ [.int .i64 x20,.slice a10 l10 c10,.int .u64 x21] 0∧R (.tuple #[.agg #[.int .i64 x20,.slice a10 l10 c10,.int .u64 x21],.bool false]) w12)))
theorem scan_page.sh {n:Int} {b:Option Addr} {bL bC:Nat} {w:World} {R:Value→World→Prop} (h:scan_page.body n b bL bC w R) :
  CallsR prog K.scan_page #[.int .i64 n,.slice b bL bC] w R :=
 calls_body follows (f:=K.scan_page) Tryz.func164 ([]) ([])
  (Eq.mp (by kernel_rfl) h)
def seal_Get.body (y0a:Option Addr) (y0aL y0aC:Nat) (w:World) (R:Value→World→Prop):Prop :=
 CallsR prog K.seal_isSize #[.int .i64 ((y0aL:Nat):Int)] w fun v1 w1=>∃ b1,v1= .bool b1∧br (!b1) (R (.tuple #[.int .u8 0,.slice none 0 0,.int .i64 2]) w1) (CallsR prog K.seal_Blank #[.slice y0a y0aL y0aC] w1 fun v2 w2=>∃ b2,v2= .bool b2∧br b2 (R (.tuple #[.int .u8 0,.slice none 0 0,.int .i64 6]) w2) (sliceP 1 y0a y0aL y0aC none (some (5:Int)) (some (5:Int)) fun a1 l1 c1=>CallsR prog K.ends_New #[.slice a1 l1 c1] w2 fun v3 w3=>∃ p1,v3= .pointer p1∧CallsR prog K.ends_Reader_Take #[.pointer p1,.int .i64 2] w3 fun v4 w4=>∃ x1 x2,v4= .tuple #[.int .u64 x1,.int .i64 x2]∧sliceP 1 y0a y0aL y0aC (some (2:Int)) none none fun a2 l2 c2=>CallsR prog K.seal_Noughts #[.slice a2 l2 c2] w4 fun v5 w5=>∃ x3,v5= .int .i64 x3∧br ((IntKind.i64.wrap x1) != x3) (R (.tuple #[.int .u8 0,.slice none 0 0,.int .i64 7]) w5) (CallsR prog K.ends_Reader_Take #[.pointer p1,.int .i64 1] w5 fun v6 w6=>∃ x4 x5,v6= .tuple #[.int .u64 x4,.int .i64 x5]∧CallsR prog K.ends_Reader_Take #[.pointer p1,.int .i64 2] w6 fun v7 w7=>∃ x6 x7,v7= .tuple #[.int .u64 x6,.int .i64 x7]∧br (decide (x4<1)) (R (.tuple #[.int .u8 0,.slice none 0 0,.int .i64 5]) w7) (br (decide (x4 > 7)) (R (.tuple #[.int .u8 0,.slice none 0 0,.int .i64 5]) w7) (CallsR prog K.seal_Body #[.int .i64 ((y0aL:Nat):Int)] w7 fun v8 w8=>∃ x8,v8= .int .i64 x8∧br (decide ((IntKind.i64.wrap x6) > x8)) (R (.tuple #[.int .u8 0,.slice none 0 0,.int .i64 5]) w8) (sliceP 1 y0a y0aL y0aC (some (IntKind.i64.wrap ((5:Int)+(IntKind.i64.wrap x6)))) none none fun a3 l3 c3=>CallsR prog K.seal_Blank #[.slice a3 l3 c3] w8 fun v9 w9=>∃ b3,v9= .bool b3∧br (!b3) (R (.tuple #[.int .u8 0,.slice none 0 0,.int .i64 5]) w9) (sliceP 1 y0a y0aL y0aC (some (5:Int)) (some (IntKind.i64.wrap ((5:Int)+(IntKind.i64.wrap x6)))) none fun a4 l4 c4=>appendP T.uint8 1 1 [.int .u8 0] none 0 0 (.slice a4 l4 c4) w9 fun a5 l5 c5 w10=>R (.tuple #[.int .u8 (IntKind.u8.wrap x4),.slice a5 l5 c5,.int .i64 0]) w10)))))))
theorem seal_Get.sh {y0a:Option Addr} {y0aL y0aC:Nat} {w:World} {R:Value→World→Prop} (h:seal_Get.body y0a y0aL y0aC w R) :
  CallsR prog K.seal_Get #[.slice y0a y0aL y0aC] w R :=
 calls_body follows (f:=K.seal_Get) Tryz.func165 ([]) ([])
  (Eq.mp (by kernel_rfl) h)
def ends_New.body (b:Option Addr) (bL bC:Nat) (w:World) (R:Value→World→Prop):Prop :=
 appendP T.uint8 1 1 [.int .u8 0] none 0 0 (.slice b bL bC) w fun a1 l1 c1 w1=>∀ B1 w2,New w1 (.cells #[.bool true,.slice a1 l1 c1,.bool false] T.ends_Reader) B1 w2→R (.pointer (some ⟨B1,0,none⟩)) w2
theorem ends_New.sh {b:Option Addr} {bL bC:Nat} {w:World} {R:Value→World→Prop} (h:ends_New.body b bL bC w R) :
  CallsR prog K.ends_New #[.slice b bL bC] w R :=
 calls_body follows (f:=K.ends_New) Tryz.func166 ([]) ([])
  (Eq.mp (by kernel_rfl) h)
def ends_Reader_Take.body (r:Option Addr) (size:Int) (w:World) (R:Value→World→Prop):Prop :=
 CallsR prog K.ends_Reader_off #[.pointer r] w fun v1 w1=>∃ b1,v1= .bool b1∧br b1 (R (.tuple #[.int .u64 0,.int .i64 1]) w1) (CallsR prog K.ends_isSize #[.int .i64 size] w1 fun v2 w2=>∃ b2,v2= .bool b2∧br (!b2) (R (.tuple #[.int .u64 0,.int .i64 2]) w2) (CallsR prog K.ends_Reader_cut #[.pointer r,.int .i64 size] w2 fun v3 w3=>∃ a1 l1 c1 x1,v3= .tuple #[.slice a1 l1 c1,.int .i64 x1]∧∃ (J1:Int→Int→World→Prop) (μ1:Int→Int→World→Nat),J1 0 0 w3∧∀ x2:Int,∀ x3:Int,∀ w4:World,J1 x2 x3 w4→br (decide (x3<((l1:Nat):Int))) (idxP a1 l1 x3 1 fun q1=>∃ x4,w4.cell? q1=some (.int .u8 x4)∧0≤(IntKind.u64.wrap (IntKind.i64.wrap ((8:Int) * x3)))∧J1 (IntKind.u64.wrap ((BitVec.ofInt (IntKind.bits .u64) x2 ||| BitVec.ofInt (IntKind.bits .u64) (IntKind.u64.wrap ((IntKind.u64.wrap x4) * 2 ^ (min (Int.toNat (IntKind.u64.wrap (IntKind.i64.wrap ((8:Int) * x3)))) (IntKind.bits .u64))))).toNat)) (IntKind.i64.wrap (x3+1)) w4∧μ1 (IntKind.u64.wrap ((BitVec.ofInt (IntKind.bits .u64) x2 ||| BitVec.ofInt (IntKind.bits .u64) (IntKind.u64.wrap ((IntKind.u64.wrap x4) * 2 ^ (min (Int.toNat (IntKind.u64.wrap (IntKind.i64.wrap ((8:Int) * x3)))) (IntKind.bits .u64))))).toNat)) (IntKind.i64.wrap (x3+1)) w4 < μ1 x2 x3 w4) (R (.tuple #[.int .u64 x2,.int .i64 x1]) w4)))
theorem ends_Reader_Take.sh {r:Option Addr} {size:Int} {w:World} {R:Value→World→Prop} (h:ends_Reader_Take.body r size w R) :
  CallsR prog K.ends_Reader_Take #[.pointer r,.int .i64 size] w R :=
 calls_body follows (f:=K.ends_Reader_Take) Tryz.func167 ([]) ([(8,[7,24,25],[8,26],[.int .u64 0,.int .i64 0])])
  (Eq.mp (by kernel_rfl) h)
def pool_PutHead.body (size:Int) (h_Kind:Int) (h_Era:Int) (h_Seq:Int) (w:World) (R:Value→World→Prop):Prop :=
 ∀ B1 w1,New w (.cells #[.int .u8 h_Kind,.int .u32 h_Era,.int .u64 h_Seq] T.api_Head) B1 w1→∃ J1:World→Prop,(∃ x1,w1.cell? ⟨B1,0,none⟩= some (.int .u8 x1)∧br (decide (x1<1)) (R (.tuple #[.slice none 0 0,.int .i64 2]) w1) (∃ x2,w1.cell? ⟨B1,0,none⟩= some (.int .u8 x2)∧br (decide (x2 > 3)) (R (.tuple #[.slice none 0 0,.int .i64 2]) w1) (∃ x3,w1.cell? (Addr.add ⟨B1,0,none⟩ 1)=some (.int .u32 x3)∧br (decide (x3<1)) (R (.tuple #[.slice none 0 0,.int .i64 2]) w1) (∃ x4,w1.cell? (Addr.add ⟨B1,0,none⟩ 2)=some (.int .u64 x4)∧br (decide (x4<1)) (R (.tuple #[.slice none 0 0,.int .i64 2]) w1) (J1 w1)))))∧(∀ w2:World,J1 w2→∃ x5,w2.cell? (Addr.add ⟨B1,0,none⟩ 1)=some (.int .u32 x5)∧CallsR prog K.ends_Put #[.int .u64 (IntKind.u64.wrap x5),.int .i64 4] w2 fun v1 w3=>∃ a1 l1 c1 x6,v1= .tuple #[.slice a1 l1 c1,.int .i64 x6]∧∃ x7,w3.cell? (Addr.add ⟨B1,0,none⟩ 2)=some (.int .u64 x7)∧CallsR prog K.ends_Put #[.int .u64 x7,.int .i64 8] w3 fun v2 w4=>∃ a2 l2 c2 x8,v2= .tuple #[.slice a2 l2 c2,.int .i64 x8]∧∃ x9,w4.cell? ⟨B1,0,none⟩= some (.int .u8 x9)∧∀ B2 w5,New w4 (.cells #[.int .u8 x9] T.uint8) B2 w5→∀ B3 w6,New w5 (.cells #[.slice (some ⟨B2,0,none⟩) 1 1,.slice a1 l1 c1,.slice a2 l2 c2] T.L_uint8) B3 w6→CallsR prog K.slices_Concat_byte #[.slice (some ⟨B3,0,none⟩) 3 3] w6 fun v3 w7=>∃ a3 l3 c3,v3= .slice a3 l3 c3∧CallsR prog K.seal_Put #[.int .i64 size,.int .u8 1,.slice a3 l3 c3] w7 fun v4 w8=>∃ a4 l4 c4 x10,v4= .tuple #[.slice a4 l4 c4,.int .i64 x10]∧R (.tuple #[.slice a4 l4 c4,.int .i64 x10]) w8)
theorem pool_PutHead.sh {size:Int} {h_Kind:Int} {h_Era:Int} {h_Seq:Int} {w:World} {R:Value→World→Prop} (h:pool_PutHead.body size h_Kind h_Era h_Seq w R) :
  CallsR prog K.pool_PutHead #[.int .i64 size,.agg #[.int .u8 h_Kind,.int .u32 h_Era,.int .u64 h_Seq]] w R :=
 calls_body follows (f:=K.pool_PutHead) Tryz.func168 ([(3,[0,3],[],[])]) ([])
  (Eq.mp (by kernel_rfl) h)
end
section
set_option maxRecDepth 100000
open Go.Proofs
def slices_stableCmpFunc_api_Taken.body (data:Option Addr) (dataL dataC:Nat) (n:Int) (cmp:Value) (w:World) (R:Value→World→Prop):Prop :=
 ∃ (J1:Int→Int→World→Prop) (μ1:Int→Int→World→Nat),J1 0 20 w∧∀ x1:Int,∀ x2:Int,∀ w1:World,J1 x1 x2 w1→br (decide (x2≤n)) (CallsR prog K.slices_insertionSortCmpFunc_api_Taken #[.slice data dataL dataC,.int .i64 x1,.int .i64 x2,cmp] w1 fun v1 w2=>v1= .tuple #[]∧J1 x2 (IntKind.i64.wrap (x2+20)) w2∧μ1 x2 (IntKind.i64.wrap (x2+20)) w2 < μ1 x1 x2 w1) (CallsR prog K.slices_insertionSortCmpFunc_api_Taken #[.slice data dataL dataC,.int .i64 x1,.int .i64 n,cmp] w1 fun v2 w3=>v2= .tuple #[]∧∃ (J2:Int→World→Prop) (μ2:Int→World→Nat),J2 20 w3∧∀ x3:Int,∀ w4:World,J2 x3 w4→br (decide (x3<n)) (∃ (J3:Int→Int→World→Prop) (μ3:Int→Int→World→Nat),J3 0 (IntKind.i64.wrap ((2:Int) * x3)) w4∧∀ x4:Int,∀ x5:Int,∀ w5:World,J3 x4 x5 w5→br (decide (x5≤n)) (CallsR prog K.slices_symMergeCmpFunc_api_Taken #[.slice data dataL dataC,.int .i64 x4,.int .i64 (IntKind.i64.wrap (x4+x3)),.int .i64 x5,cmp] w5 fun v3 w6=>v3= .tuple #[]∧J3 x5 (IntKind.i64.wrap (x5+(IntKind.i64.wrap ((2:Int) * x3)))) w6∧μ3 x5 (IntKind.i64.wrap (x5+(IntKind.i64.wrap ((2:Int) * x3)))) w6 < μ3 x4 x5 w5) (br (decide ((IntKind.i64.wrap (x4+x3))<n)) (CallsR prog K.slices_symMergeCmpFunc_api_Taken #[.slice data dataL dataC,.int .i64 x4,.int .i64 (IntKind.i64.wrap (x4+x3)),.int .i64 n,cmp] w5 fun v4 w7=>v4= .tuple #[]∧J2 (IntKind.i64.wrap (x3 * 2)) w7∧μ2 (IntKind.i64.wrap (x3 * 2)) w7 < μ2 x3 w4) (J2 (IntKind.i64.wrap (x3 * 2)) w5∧μ2 (IntKind.i64.wrap (x3 * 2)) w5 < μ2 x3 w4))) (R (.tuple #[]) w4))
theorem slices_stableCmpFunc_api_Taken.sh {data:Option Addr} {dataL dataC:Nat} {n:Int} {cmp:Value} {w:World} {R:Value→World→Prop} (h:slices_stableCmpFunc_api_Taken.body data dataL dataC n cmp w R) :
  CallsR prog K.slices_stableCmpFunc_api_Taken #[.slice data dataL dataC,.int .i64 n,cmp] w R :=
 calls_body follows (f:=K.slices_stableCmpFunc_api_Taken) Tryz.func169 ([]) ([(2,[0,1,2,6],[7,8],[.int .i64 0,.int .i64 0]),(7,[0,1,2],[6],[.int .i64 0]),(9,[0,1,2,6],[7,8],[.int .i64 0,.int .i64 0])])
  (Eq.mp (by kernel_rfl) h)
def fact_MayKey.body (k_Ino:Int) (k_What:Int) (k_Name:ByteArray) (k_Chunk:Int) (w:World) (R:Value→World→Prop):Prop :=
 ∀ B1 w1,New w (.cells #[.int .i64 k_Ino,.int .u8 k_What,.string k_Name,.int .i64 k_Chunk] T.api_Key) B1 w1→∃ x1,w1.cell? ⟨B1,0,none⟩= some (.int .i64 x1)∧br (decide (x1<1)) (R (.bool false) w1) (∃ x2,w1.cell? ⟨B1,0,none⟩= some (.int .i64 x2)∧br (decide (x2 > 65535)) (R (.bool false) w1) (∃ x3,w1.cell? (Addr.add ⟨B1,0,none⟩ 1)=some (.int .u8 x3)∧br (x3 == 1) (∃ x4 x5 s1 x6,cellsAt w1 ⟨B1,0,none⟩ [.int .i64 x4,.int .u8 x5,.string s1,.int .i64 x6] 0∧∃ x7,w1.cell? ⟨B1,0,none⟩= some (.int .i64 x7)∧∃ x8,w1.cell? (Addr.add ⟨B1,0,none⟩ 1)=some (.int .u8 x8)∧R (.bool ((x4 == x7) && ((x5 == x8) && ((s1.toList == (⟨#[]⟩: ByteArray).toList) && ((x6 == 0) && true))))) w1) (br (x3 == 2) (∃ s2,w1.cell? (Addr.add ⟨B1,0,none⟩ 2)=some (.string s2)∧CallsR prog K.path_Name #[.string s2] w1 fun v1 w2=>∃ b1,v1= .bool b1∧br b1 (∃ x9,w2.cell? (Addr.add ⟨B1,0,none⟩ 3)=some (.int .i64 x9)∧R (.bool (x9 == 0)) w2) (R (.bool false) w2)) (br (x3 == 3) (∃ s3,w1.cell? (Addr.add ⟨B1,0,none⟩ 2)=some (.string s3)∧br (s3.toList == (⟨#[]⟩: ByteArray).toList) (∃ x10,w1.cell? (Addr.add ⟨B1,0,none⟩ 3)=some (.int .i64 x10)∧br (decide (x10≥0)) (∃ x11,w1.cell? (Addr.add ⟨B1,0,none⟩ 3)=some (.int .i64 x11)∧R (.bool (decide (x11<8))) w1) (R (.bool false) w1)) (R (.bool false) w1)) (R (.bool false) w1)))))
theorem fact_MayKey.sh {k_Ino:Int} {k_What:Int} {k_Name:ByteArray} {k_Chunk:Int} {w:World} {R:Value→World→Prop} (h:fact_MayKey.body k_Ino k_What k_Name k_Chunk w R) :
  CallsR prog K.fact_MayKey #[.agg #[.int .i64 k_Ino,.int .u8 k_What,.string k_Name,.int .i64 k_Chunk]] w R :=
 calls_body follows (f:=K.fact_MayKey) Tryz.func170 ([]) ([])
  (Eq.mp (by kernel_rfl) h)
def cmp_Or_int.body (vals:Option Addr) (valsL valsC:Nat) (w:World) (R:Value→World→Prop):Prop :=
 ∃ (J1:Int→World→Prop) (μ1:Int→World→Nat),J1 0 w∧∀ x1:Int,∀ w1:World,J1 x1 w1→br (decide (x1<((valsL:Nat):Int))) (idxP vals valsL x1 1 fun q1=>∃ x2,w1.cell? q1=some (.int .i64 x2)∧br (x2 != 0) (R (.int .i64 x2) w1) (J1 (IntKind.i64.wrap (x1+1)) w1∧μ1 (IntKind.i64.wrap (x1+1)) w1 < μ1 x1 w1)) (R (.int .i64 0) w1)
theorem cmp_Or_int.sh {vals:Option Addr} {valsL valsC:Nat} {w:World} {R:Value→World→Prop} (h:cmp_Or_int.body vals valsL valsC w R) :
  CallsR prog K.cmp_Or_int #[.slice vals valsL valsC] w R :=
 calls_body follows (f:=K.cmp_Or_int) Tryz.func171 ([]) ([(3,[3,6,7],[8],[.int .i64 0])])
  (Eq.mp (by kernel_rfl) h)
def cmp_Compare_int.body (x:Int) (y:Int) (w:World) (R:Value→World→Prop):Prop :=
 CallsR prog K.cmp_isNaN_int #[.int .i64 x] w fun v1 w1=>∃ b1,v1= .bool b1∧CallsR prog K.cmp_isNaN_int #[.int .i64 y] w1 fun v2 w2=>∃ b2,v2= .bool b2∧br b1 (br b2 (R (.int .i64 0) w2) (R (.int .i64 (-1)) w2)) (br b2 (R (.int .i64 1) w2) (br (decide (x<y)) (R (.int .i64 (-1)) w2) (br (decide (x > y)) (R (.int .i64 1) w2) (R (.int .i64 0) w2))))
theorem cmp_Compare_int.sh {x:Int} {y:Int} {w:World} {R:Value→World→Prop} (h:cmp_Compare_int.body x y w R) :
  CallsR prog K.cmp_Compare_int #[.int .i64 x,.int .i64 y] w R :=
 calls_body follows (f:=K.cmp_Compare_int) Tryz.func172 ([]) ([])
  (Eq.mp (by kernel_rfl) h)
def cmp_Compare_uint8.body (x:Int) (y:Int) (w:World) (R:Value→World→Prop):Prop :=
 CallsR prog K.cmp_isNaN_uint8 #[.int .u8 x] w fun v1 w1=>∃ b1,v1= .bool b1∧CallsR prog K.cmp_isNaN_uint8 #[.int .u8 y] w1 fun v2 w2=>∃ b2,v2= .bool b2∧br b1 (br b2 (R (.int .i64 0) w2) (R (.int .i64 (-1)) w2)) (br b2 (R (.int .i64 1) w2) (br (decide (x<y)) (R (.int .i64 (-1)) w2) (br (decide (x > y)) (R (.int .i64 1) w2) (R (.int .i64 0) w2))))
theorem cmp_Compare_uint8.sh {x:Int} {y:Int} {w:World} {R:Value→World→Prop} (h:cmp_Compare_uint8.body x y w R) :
  CallsR prog K.cmp_Compare_uint8 #[.int .u8 x,.int .u8 y] w R :=
 calls_body follows (f:=K.cmp_Compare_uint8) Tryz.func173 ([]) ([])
  (Eq.mp (by kernel_rfl) h)
def cmp_Compare_string.body (x:ByteArray) (y:ByteArray) (w:World) (R:Value→World→Prop):Prop :=
 CallsR prog K.cmp_isNaN_string #[.string x] w fun v1 w1=>∃ b1,v1= .bool b1∧CallsR prog K.cmp_isNaN_string #[.string y] w1 fun v2 w2=>∃ b2,v2= .bool b2∧br b1 (br b2 (R (.int .i64 0) w2) (R (.int .i64 (-1)) w2)) (br b2 (R (.int .i64 1) w2) (br (Op.bytesLess x.toList y.toList) (R (.int .i64 (-1)) w2) (br (!(Op.bytesLess x.toList y.toList || (x.toList == y.toList))) (R (.int .i64 1) w2) (R (.int .i64 0) w2))))
theorem cmp_Compare_string.sh {x:ByteArray} {y:ByteArray} {w:World} {R:Value→World→Prop} (h:cmp_Compare_string.body x y w R) :
  CallsR prog K.cmp_Compare_string #[.string x,.string y] w R :=
 calls_body follows (f:=K.cmp_Compare_string) Tryz.func174 ([]) ([])
  (Eq.mp (by kernel_rfl) h)
def rec_Get.body (b:Option Addr) (bL bC:Nat) (w:World) (R:Value→World→Prop):Prop :=
 CallsR prog K.ends_New #[.slice b bL bC] w fun v1 w1=>∃ p1,v1= .pointer p1∧∀ B1 w2,New w1 (.cells #[.pointer none] T.rec_reader) B1 w2→storeP w2 ⟨B1,0,none⟩ [.pointer p1] fun w3=>∃ p2,w3.cell? ⟨B1,0,none⟩= some (.pointer p2)∧CallsR prog K.ends_Reader_Take #[.pointer p2,.int .i64 1] w3 fun v2 w4=>∃ x1 x2,v2= .tuple #[.int .u64 x1,.int .i64 x2]∧br (x2 != 0) (R (.tuple #[.slice none 0 0,.int .i64 x2]) w4) (br (x1 == 0) (R (.tuple #[.slice none 0 0,.int .i64 5]) w4) (∃ (J1:Option Addr→Nat→Nat→Int→World→Prop) (μ1:Option Addr→Nat→Nat→Int→World→Nat),J1 none 0 0 0 w4∧∀ (a1:Option Addr) (l1 c1:Nat),∀ x3:Int,∀ w5:World,J1 a1 l1 c1 x3 w5→br (decide (x3<x1)) (∃ p3,cellsAt w5 ⟨B1,0,none⟩ [.pointer p3] 0∧CallsR prog K.rec_reader_one #[.agg #[.pointer p3]] w5 fun v3 w6=>∃ x4 x5 s1 x6 a2 l2 c2 b1 x7,v3= .tuple #[.agg #[.int .i64 x4,.int .u8 x5,.string s1,.int .i64 x6,.slice a2 l2 c2,.bool b1],.int .i64 x7]∧∀ B2 w7,New w6 (.cells #[.int .i64 0,.int .u8 0,.string (⟨#[]⟩: ByteArray),.int .i64 0,.slice none 0 0,.bool false] T.api_Change) B2 w7→storeP w7 ⟨B2,0,none⟩ [.int .i64 x4,.int .u8 x5,.string s1,.int .i64 x6,.slice a2 l2 c2,.bool b1] fun w8=>br (x7 != 0) (R (.tuple #[.slice none 0 0,.int .i64 x7]) w8) (∃ x8 x9 s2 x10 a3 l3 c3 b2,cellsAt w8 ⟨B2,0,none⟩ [.int .i64 x8,.int .u8 x9,.string s2,.int .i64 x10,.slice a3 l3 c3,.bool b2] 0∧∀ B3 w9,New w8 (.cells #[.int .i64 x8,.int .u8 x9,.string s2,.int .i64 x10,.slice a3 l3 c3,.bool b2] T.api_Change) B3 w9→appendP T.api_Change 6 72 [.int .i64 0,.int .u8 0,.string (⟨#[]⟩: ByteArray),.int .i64 0,.slice none 0 0,.bool false] a1 l1 c1 (.slice (some ⟨B3,0,none⟩) 1 1) w9 fun a4 l4 c4 w10=>J1 a4 l4 c4 (IntKind.u64.wrap (x3+1)) w10∧μ1 a4 l4 c4 (IntKind.u64.wrap (x3+1)) w10 < μ1 a1 l1 c1 x3 w5)) (∃ p4,w5.cell? ⟨B1,0,none⟩= some (.pointer p4)∧CallsR prog K.ends_Reader_Left #[.pointer p4] w5 fun v4 w11=>∃ x11,v4= .int .i64 x11∧br (decide (x11 > 0)) (R (.tuple #[.slice none 0 0,.int .i64 5]) w11) (R (.tuple #[.slice a1 l1 c1,.int .i64 0]) w11))))
theorem rec_Get.sh {b:Option Addr} {bL bC:Nat} {w:World} {R:Value→World→Prop} (h:rec_Get.body b bL bC w R) :
  CallsR prog K.rec_Get #[.slice b bL bC] w R :=
 calls_body follows (f:=K.rec_Get) Tryz.func176 ([]) ([(9,[4,26],[7,27],[.slice none 0 0,.int .u64 0])])
  (Eq.mp (by kernel_rfl) h)
def rec_GetDrop.body (b:Option Addr) (bL bC:Nat) (w:World) (R:Value→World→Prop):Prop :=
 CallsR prog K.ends_New #[.slice b bL bC] w fun v1 w1=>∃ p1,v1= .pointer p1∧CallsR prog K.ends_Reader_Take #[.pointer p1,.int .i64 8] w1 fun v2 w2=>∃ x1 x2,v2= .tuple #[.int .u64 x1,.int .i64 x2]∧br (x2 != 0) (R (.tuple #[.int .u64 0,.int .i64 5]) w2) (br (((bL:Nat):Int) != 8) (R (.tuple #[.int .u64 0,.int .i64 5]) w2) (br (x1 == 0) (R (.tuple #[.int .u64 0,.int .i64 5]) w2) (R (.tuple #[.int .u64 x1,.int .i64 0]) w2)))
theorem rec_GetDrop.sh {b:Option Addr} {bL bC:Nat} {w:World} {R:Value→World→Prop} (h:rec_GetDrop.body b bL bC w R) :
  CallsR prog K.rec_GetDrop #[.slice b bL bC] w R :=
 calls_body follows (f:=K.rec_GetDrop) Tryz.func177 ([]) ([])
  (Eq.mp (by kernel_rfl) h)
def ends_Reader_off.body (r:Option Addr) (w:World) (R:Value→World→Prop):Prop :=
 br (Option.isNone r) (R (.bool true) w) (nilC r fun q1=>∃ b1,w.cell? q1=some (.bool b1)∧R (.bool (!b1)) w)
theorem ends_Reader_off.sh {r:Option Addr} {w:World} {R:Value→World→Prop} (h:ends_Reader_off.body r w R) :
  CallsR prog K.ends_Reader_off #[.pointer r] w R :=
 calls_body follows (f:=K.ends_Reader_off) Tryz.func178 ([]) ([])
  (Eq.mp (by kernel_rfl) h)
def ends_Reader_cut.body (r:Option Addr) (n:Int) (w:World) (R:Value→World→Prop):Prop :=
 nilC r fun q1=>∃ b1,w.cell? (q1.add 2)=some (.bool b1)∧br b1 (nilC r fun q2=>storeP w (q2.add 2) [.bool true] fun w1=>R (.tuple #[.slice none 0 0,.int .i64 4]) w1) (nilC r fun q3=>∃ a1 l1 c1,w.cell? (q3.add 1)=some (.slice a1 l1 c1)∧br (decide (((l1:Nat):Int)<n)) (nilC r fun q4=>storeP w (q4.add 2) [.bool true] fun w2=>R (.tuple #[.slice none 0 0,.int .i64 4]) w2) (nilC r fun q5=>∃ a2 l2 c2,w.cell? (q5.add 1)=some (.slice a2 l2 c2)∧sliceP 1 a2 l2 c2 none (some n) (some n) fun a3 l3 c3=>nilC r fun q6=>∃ a4 l4 c4,w.cell? (q6.add 1)=some (.slice a4 l4 c4)∧sliceP 1 a4 l4 c4 (some n) none none fun a5 l5 c5=>nilC r fun q7=>storeP w (q7.add 1) [.slice a5 l5 c5] fun w3=>R (.tuple #[.slice a3 l3 c3,.int .i64 0]) w3))
theorem ends_Reader_cut.sh {r:Option Addr} {n:Int} {w:World} {R:Value→World→Prop} (h:ends_Reader_cut.body r n w R) :
  CallsR prog K.ends_Reader_cut #[.pointer r,.int .i64 n] w R :=
 calls_body follows (f:=K.ends_Reader_cut) Tryz.func179 ([]) ([])
  (Eq.mp (by kernel_rfl) h)
def slices_insertionSortCmpFunc_api_Taken.body (data:Option Addr) (dataL dataC:Nat) (a:Int) (b:Int) (cmp:Value) (w:World) (R:Value→World→Prop):Prop :=
 ∃ (J1:Int→World→Prop) (μ1:Int→World→Nat),J1 (IntKind.i64.wrap (a+1)) w∧∀ x1:Int,∀ w1:World,J1 x1 w1→br (decide (x1<b)) (∃ (J2:Int→World→Prop) (μ2:Int→World→Nat),J2 x1 w1∧∀ x2:Int,∀ w2:World,J2 x2 w2→∀ w3:World,Drew w2 w3→∃ S1:World→Prop,S1 w3∧br (decide (x2 > a)) (idxP data dataL x2 5 fun q1=>∃ x3 x4 x5 x6 b1,(∀ u1,S1 u1→cellsAt u1 q1 [.int .i64 x3,.int .u8 x4,.int .u32 x5,.int .u64 x6,.bool b1] 0)∧idxP data dataL (IntKind.i64.wrap (x2 - 1)) 5 fun q2=>∃ x7 x8 x9 x10 b2,(∀ u2,S1 u2→cellsAt u2 q2 [.int .i64 x7,.int .u8 x8,.int .u32 x9,.int .u64 x10,.bool b2] 0)∧callT cmp [.agg #[.int .i64 x3,.int .u8 x4,.int .u32 x5,.int .u64 x6,.bool b1],.agg #[.int .i64 x7,.int .u8 x8,.int .u32 x9,.int .u64 x10,.bool b2]] w3 fun v1 w4=>∃ x11,v1= .int .i64 x11∧br (decide (x11<0)) (∀ w5:World,Drew w4 w5→∃ S2:World→Prop,S2 w5∧idxP data dataL (IntKind.i64.wrap (x2 - 1)) 5 fun q3=>∃ x12 x13 x14 x15 b3,(∀ u3,S2 u3→cellsAt u3 q3 [.int .i64 x12,.int .u8 x13,.int .u32 x14,.int .u64 x15,.bool b3] 0)∧idxP data dataL x2 5 fun q4=>∃ x16 x17 x18 x19 b4,(∀ u4,S2 u4→cellsAt u4 q4 [.int .i64 x16,.int .u8 x17,.int .u32 x18,.int .u64 x19,.bool b4] 0)∧idxP data dataL x2 5 fun q5=>storeP w5 q5 [.int .i64 x12,.int .u8 x13,.int .u32 x14,.int .u64 x15,.bool b3] fun w6=>idxP data dataL (IntKind.i64.wrap (x2 - 1)) 5 fun q6=>storeP w6 q6 [.int .i64 x16,.int .u8 x17,.int .u32 x18,.int .u64 x19,.bool b4] fun w7=>J2 (IntKind.i64.wrap (x2 - 1)) w7∧μ2 (IntKind.i64.wrap (x2 - 1)) w7 < μ2 x2 w2) (J1 (IntKind.i64.wrap (x1+1)) w4∧μ1 (IntKind.i64.wrap (x1+1)) w4 < μ1 x1 w1)) (J1 (IntKind.i64.wrap (x1+1)) w3∧μ1 (IntKind.i64.wrap (x1+1)) w3 < μ1 x1 w1)) (R (.tuple #[]) w1)
theorem slices_insertionSortCmpFunc_api_Taken.sh {data:Option Addr} {dataL dataC:Nat} {a:Int} {b:Int} {cmp:Value} {w:World} {R:Value→World→Prop} (h:slices_insertionSortCmpFunc_api_Taken.body data dataL dataC a b cmp w R) :
  CallsR prog K.slices_insertionSortCmpFunc_api_Taken #[.slice data dataL dataC,.int .i64 a,.int .i64 b,cmp] w R :=
 calls_body follows (f:=K.slices_insertionSortCmpFunc_api_Taken) Tryz.func180 ([]) ([(1,[0,1,2,3],[8],[.int .i64 0]),(4,[0,1,2,3,8],[9],[.int .i64 0])])
  (Eq.mp (by kernel_rfl) h)
end
section
set_option maxRecDepth 100000
open Go.Proofs
def path_Name.body (s:ByteArray) (w:World) (R:Value→World→Prop):Prop :=
 ∃ (J1:Int→World→Prop) (μ1:Int→World→Nat),J1 0 w∧∀ x1:Int,∀ w1:World,J1 x1 w1→br (decide (x1<((s.size:Nat):Int))) (0≤x1∧∃ y1:UInt8,s.data.toList[Int.toNat x1]?=some y1∧CallsR prog K.path_may #[.int .u8 ((UInt8.toNat y1:Nat):Int)] w1 fun v1 w2=>∃ b1,v1= .bool b1∧br (!b1) (R (.bool false) w2) (J1 (IntKind.i64.wrap (x1+1)) w2∧μ1 (IntKind.i64.wrap (x1+1)) w2 < μ1 x1 w1)) (br (decide (((s.size:Nat):Int)≥1)) (br (decide (((s.size:Nat):Int)≤12)) (br (!(s.toList == (⟨#[46]⟩: ByteArray).toList)) (R (.bool (!(s.toList == (⟨#[46,46]⟩: ByteArray).toList))) w1) (R (.bool false) w1)) (R (.bool false) w1)) (R (.bool false) w1))
theorem path_Name.sh {s:ByteArray} {w:World} {R:Value→World→Prop} (h:path_Name.body s w R) :
  CallsR prog K.path_Name #[.string s] w R :=
 calls_body follows (f:=K.path_Name) Tryz.func182 ([]) ([(2,[0,5],[6],[.int .i64 0])])
  (Eq.mp (by kernel_rfl) h)
def cmp_isNaN_int.body (x:Int) (w:World) (R:Value→World→Prop):Prop :=
 R (.bool (x != x)) w
theorem cmp_isNaN_int.sh {x:Int} {w:World} {R:Value→World→Prop} (h:cmp_isNaN_int.body x w R) :
  CallsR prog K.cmp_isNaN_int #[.int .i64 x] w R :=
 calls_body follows (f:=K.cmp_isNaN_int) Tryz.func183 ([]) ([])
  (Eq.mp (by kernel_rfl) h)
def cmp_isNaN_uint8.body (x:Int) (w:World) (R:Value→World→Prop):Prop :=
 R (.bool (x != x)) w
theorem cmp_isNaN_uint8.sh {x:Int} {w:World} {R:Value→World→Prop} (h:cmp_isNaN_uint8.body x w R) :
  CallsR prog K.cmp_isNaN_uint8 #[.int .u8 x] w R :=
 calls_body follows (f:=K.cmp_isNaN_uint8) Tryz.func184 ([]) ([])
  (Eq.mp (by kernel_rfl) h)
def cmp_isNaN_string.body (x:ByteArray) (w:World) (R:Value→World→Prop):Prop :=
 R (.bool (!(x.toList == x.toList))) w
theorem cmp_isNaN_string.sh {x:ByteArray} {w:World} {R:Value→World→Prop} (h:cmp_isNaN_string.body x w R) :
  CallsR prog K.cmp_isNaN_string #[.string x] w R :=
 calls_body follows (f:=K.cmp_isNaN_string) Tryz.func185 ([]) ([])
  (Eq.mp (by kernel_rfl) h)
def rec_reader_one.body (r_Reader:Option Addr) (w:World) (R:Value→World→Prop):Prop :=
 ∀ B1 w1,New w (.cells #[.pointer r_Reader] T.rec_reader) B1 w1→∀ B2 w2,New w1 (.cells #[.int .i64 0,.int .u8 0,.string (⟨#[]⟩: ByteArray),.int .i64 0,.slice none 0 0,.bool false] T.api_Change) B2 w2→∃ p1,w2.cell? ⟨B1,0,none⟩= some (.pointer p1)∧CallsR prog K.ends_Reader_Take #[.pointer p1,.int .i64 1] w2 fun v1 w3=>∃ x1 x2,v1= .tuple #[.int .u64 x1,.int .i64 x2]∧br (x2 != 0) (storeP w3 ⟨B2,0,none⟩ [.int .i64 0,.int .u8 0,.string (⟨#[]⟩: ByteArray),.int .i64 0,.slice none 0 0,.bool false] fun w4=>∃ x3 x4 s1 x5 a1 l1 c1 b1,cellsAt w4 ⟨B2,0,none⟩ [.int .i64 x3,.int .u8 x4,.string s1,.int .i64 x5,.slice a1 l1 c1,.bool b1] 0∧R (.tuple #[.agg #[.int .i64 x3,.int .u8 x4,.string s1,.int .i64 x5,.slice a1 l1 c1,.bool b1],.int .i64 x2]) w4) (br (decide (x1 > 1)) (storeP w3 ⟨B2,0,none⟩ [.int .i64 0,.int .u8 0,.string (⟨#[]⟩: ByteArray),.int .i64 0,.slice none 0 0,.bool false] fun w5=>∃ x6 x7 s2 x8 a2 l2 c2 b2,cellsAt w5 ⟨B2,0,none⟩ [.int .i64 x6,.int .u8 x7,.string s2,.int .i64 x8,.slice a2 l2 c2,.bool b2] 0∧R (.tuple #[.agg #[.int .i64 x6,.int .u8 x7,.string s2,.int .i64 x8,.slice a2 l2 c2,.bool b2],.int .i64 5]) w5) (∃ p2,w3.cell? ⟨B1,0,none⟩= some (.pointer p2)∧CallsR prog K.fact_GetKey #[.pointer p2] w3 fun v2 w6=>∃ x9 x10 s3 x11 x12,v2= .tuple #[.agg #[.int .i64 x9,.int .u8 x10,.string s3,.int .i64 x11],.int .i64 x12]∧∀ B3 w7,New w6 (.cells #[.int .i64 0,.int .u8 0,.string (⟨#[]⟩: ByteArray),.int .i64 0] T.api_Key) B3 w7→storeP w7 ⟨B3,0,none⟩ [.int .i64 x9,.int .u8 x10,.string s3,.int .i64 x11] fun w8=>br (x12 != 0) (∃ x13 x14 s4 x15,cellsAt w8 ⟨B3,0,none⟩ [.int .i64 x13,.int .u8 x14,.string s4,.int .i64 x15] 0∧storeP w8 ⟨B2,0,none⟩ [.int .i64 x13,.int .u8 x14,.string s4,.int .i64 x15,.slice none 0 0,.bool (x12 == 0)] fun w9=>∃ x16 x17 s5 x18 a3 l3 c3 b3,cellsAt w9 ⟨B2,0,none⟩ [.int .i64 x16,.int .u8 x17,.string s5,.int .i64 x18,.slice a3 l3 c3,.bool b3] 0∧R (.tuple #[.agg #[.int .i64 x16,.int .u8 x17,.string s5,.int .i64 x18,.slice a3 l3 c3,.bool b3],.int .i64 x12]) w9) (br (x1 == 0) (∃ x19 x20 s6 x21,cellsAt w8 ⟨B3,0,none⟩ [.int .i64 x19,.int .u8 x20,.string s6,.int .i64 x21] 0∧storeP w8 ⟨B2,0,none⟩ [.int .i64 x19,.int .u8 x20,.string s6,.int .i64 x21,.slice none 0 0,.bool (x12 == 0)] fun w10=>∃ x22 x23 s7 x24 a4 l4 c4 b4,cellsAt w10 ⟨B2,0,none⟩ [.int .i64 x22,.int .u8 x23,.string s7,.int .i64 x24,.slice a4 l4 c4,.bool b4] 0∧R (.tuple #[.agg #[.int .i64 x22,.int .u8 x23,.string s7,.int .i64 x24,.slice a4 l4 c4,.bool b4],.int .i64 x12]) w10) (∃ p3,w8.cell? ⟨B1,0,none⟩= some (.pointer p3)∧CallsR prog K.ends_Reader_Row #[.pointer p3] w8 fun v3 w11=>∃ a5 l5 c5 x25,v3= .tuple #[.slice a5 l5 c5,.int .i64 x25]∧br (x25 == 0) (br (((l5:Nat):Int) == 0) (∃ x26 x27 s8 x28,cellsAt w11 ⟨B3,0,none⟩ [.int .i64 x26,.int .u8 x27,.string s8,.int .i64 x28] 0∧storeP w11 ⟨B2,0,none⟩ [.int .i64 x26,.int .u8 x27,.string s8,.int .i64 x28,.slice a5 l5 c5,.bool false] fun w12=>∃ x29 x30 s9 x31 a6 l6 c6 b5,cellsAt w12 ⟨B2,0,none⟩ [.int .i64 x29,.int .u8 x30,.string s9,.int .i64 x31,.slice a6 l6 c6,.bool b5] 0∧R (.tuple #[.agg #[.int .i64 x29,.int .u8 x30,.string s9,.int .i64 x31,.slice a6 l6 c6,.bool b5],.int .i64 5]) w12) (∃ x32 x33 s10 x34,cellsAt w11 ⟨B3,0,none⟩ [.int .i64 x32,.int .u8 x33,.string s10,.int .i64 x34] 0∧storeP w11 ⟨B2,0,none⟩ [.int .i64 x32,.int .u8 x33,.string s10,.int .i64 x34,.slice a5 l5 c5,.bool false] fun w13=>∃ x35 x36 s11 x37 a7 l7 c7 b6,cellsAt w13 ⟨B2,0,none⟩ [.int .i64 x35,.int .u8 x36,.string s11,.int .i64 x37,.slice a7 l7 c7,.bool b6] 0∧R (.tuple #[.agg #[.int .i64 x35,.int .u8 x36,.string s11,.int .i64 x37,.slice a7 l7 c7,.bool b6],.int .i64 x25]) w13)) (∃ x38 x39 s12 x40,cellsAt w11 ⟨B3,0,none⟩ [.int .i64 x38,.int .u8 x39,.string s12,.int .i64 x40] 0∧storeP w11 ⟨B2,0,none⟩ [.int .i64 x38,.int .u8 x39,.string s12,.int .i64 x40,.slice a5 l5 c5,.bool false] fun w14=>∃ x41 x42 s13 x43 a8 l8 c8 b7,cellsAt w14 ⟨B2,0,none⟩ [.int .i64 x41,.int .u8 x42,.string s13,.int .i64 x43,.slice a8 l8 c8,.bool b7] 0∧R (.tuple #[.agg #[.int .i64 x41,.int .u8 x42,.string s13,.int .i64 x43,.slice a8 l8 c8,.bool b7],.int .i64 x25]) w14)))))
theorem rec_reader_one.sh {r_Reader:Option Addr} {w:World} {R:Value→World→Prop} (h:rec_reader_one.body r_Reader w R) :
  CallsR prog K.rec_reader_one #[.agg #[.pointer r_Reader]] w R :=
 calls_body follows (f:=K.rec_reader_one) Tryz.func186 ([]) ([])
  (Eq.mp (by kernel_rfl) h)
def ends_Reader_Left.body (r:Option Addr) (w:World) (R:Value→World→Prop):Prop :=
 CallsR prog K.ends_Reader_off #[.pointer r] w fun v1 w1=>∃ b1,v1= .bool b1∧br b1 (R (.int .i64 0) w1) (nilC r fun q1=>∃ b2,w1.cell? (q1.add 2)=some (.bool b2)∧br b2 (R (.int .i64 0) w1) (nilC r fun q2=>∃ a1 l1 c1,w1.cell? (q2.add 1)=some (.slice a1 l1 c1)∧R (.int .i64 ((l1:Nat):Int)) w1))
theorem ends_Reader_Left.sh {r:Option Addr} {w:World} {R:Value→World→Prop} (h:ends_Reader_Left.body r w R) :
  CallsR prog K.ends_Reader_Left #[.pointer r] w R :=
 calls_body follows (f:=K.ends_Reader_Left) Tryz.func187 ([]) ([])
  (Eq.mp (by kernel_rfl) h)
def path_may.body (c:Int) (w:World) (R:Value→World→Prop):Prop :=
 br (decide (c≥97)) (br (decide (c≤122)) (br (decide (c≤122)) (R (.bool true) w) (R (.bool false) w)) (br (decide (c≥48)) (br (decide (c≤57)) (br (decide (c≤57)) (R (.bool true) w) (R (.bool false) w)) (br (c == 46) (br (c == 46) (R (.bool true) w) (R (.bool false) w)) (br (c == 45) (R (.bool true) w) (R (.bool false) w)))) (br (c == 46) (br (c == 46) (R (.bool true) w) (R (.bool false) w)) (br (c == 45) (R (.bool true) w) (R (.bool false) w))))) (br (decide (c≥48)) (br (decide (c≤57)) (br (decide (c≤57)) (R (.bool true) w) (R (.bool false) w)) (br (c == 46) (br (c == 46) (R (.bool true) w) (R (.bool false) w)) (br (c == 45) (R (.bool true) w) (R (.bool false) w)))) (br (c == 46) (br (c == 46) (R (.bool true) w) (R (.bool false) w)) (br (c == 45) (R (.bool true) w) (R (.bool false) w))))
theorem path_may.sh {c:Int} {w:World} {R:Value→World→Prop} (h:path_may.body c w R) :
  CallsR prog K.path_may #[.int .u8 c] w R :=
 calls_body follows (f:=K.path_may) Tryz.func189 ([]) ([])
  (Eq.mp (by kernel_rfl) h)
def fact_GetKey.body (y0a:Option Addr) (w:World) (R:Value→World→Prop):Prop :=
 ∀ B1 w1,New w (.cells #[.int .i64 0,.int .u8 0,.string (⟨#[]⟩: ByteArray),.int .i64 0] T.api_Key) B1 w1→CallsR prog K.ends_Reader_Take #[.pointer y0a,.int .i64 2] w1 fun v1 w2=>∃ x1 x2,v1= .tuple #[.int .u64 x1,.int .i64 x2]∧br (x2 == 1) (storeP w2 ⟨B1,0,none⟩ [.int .i64 0,.int .u8 0,.string (⟨#[]⟩: ByteArray),.int .i64 0] fun w3=>∃ x3 x4 s1 x5,cellsAt w3 ⟨B1,0,none⟩ [.int .i64 x3,.int .u8 x4,.string s1,.int .i64 x5] 0∧R (.tuple #[.agg #[.int .i64 x3,.int .u8 x4,.string s1,.int .i64 x5],.int .i64 x2]) w3) (CallsR prog K.ends_Reader_Take #[.pointer y0a,.int .i64 1] w2 fun v2 w4=>∃ x6 x7,v2= .tuple #[.int .u64 x6,.int .i64 x7]∧∀ B2 w5,New w4 (.cells #[.int .i64 0,.int .u8 0,.string (⟨#[]⟩: ByteArray),.int .i64 0] T.api_Key) B2 w5→storeP w5 ⟨B2,0,none⟩ [.int .i64 (IntKind.i64.wrap x1),.int .u8 (IntKind.u8.wrap x6),.string (⟨#[]⟩: ByteArray),.int .i64 0] fun w6=>br (x7 != 0) (br (x7 != 0) (storeP w6 ⟨B1,0,none⟩ [.int .i64 0,.int .u8 0,.string (⟨#[]⟩: ByteArray),.int .i64 0] fun w7=>∃ x8 x9 s2 x10,cellsAt w7 ⟨B1,0,none⟩ [.int .i64 x8,.int .u8 x9,.string s2,.int .i64 x10] 0∧R (.tuple #[.agg #[.int .i64 x8,.int .u8 x9,.string s2,.int .i64 x10],.int .i64 x7]) w7) (∃ x11 x12 s3 x13,cellsAt w6 ⟨B2,0,none⟩ [.int .i64 x11,.int .u8 x12,.string s3,.int .i64 x13] 0∧CallsR prog K.fact_MayKey #[.agg #[.int .i64 x11,.int .u8 x12,.string s3,.int .i64 x13]] w6 fun v3 w8=>∃ b1,v3= .bool b1∧br (!b1) (storeP w8 ⟨B1,0,none⟩ [.int .i64 0,.int .u8 0,.string (⟨#[]⟩: ByteArray),.int .i64 0] fun w9=>∃ x14 x15 s4 x16,cellsAt w9 ⟨B1,0,none⟩ [.int .i64 x14,.int .u8 x15,.string s4,.int .i64 x16] 0∧R (.tuple #[.agg #[.int .i64 x14,.int .u8 x15,.string s4,.int .i64 x16],.int .i64 5]) w9) (∃ x17 x18 s5 x19,cellsAt w8 ⟨B2,0,none⟩ [.int .i64 x17,.int .u8 x18,.string s5,.int .i64 x19] 0∧storeP w8 ⟨B1,0,none⟩ [.int .i64 x17,.int .u8 x18,.string s5,.int .i64 x19] fun w10=>∃ x20 x21 s6 x22,cellsAt w10 ⟨B1,0,none⟩ [.int .i64 x20,.int .u8 x21,.string s6,.int .i64 x22] 0∧R (.tuple #[.agg #[.int .i64 x20,.int .u8 x21,.string s6,.int .i64 x22],.int .i64 0]) w10))) (br (x6 == 2) (CallsR prog K.ends_Reader_Row #[.pointer y0a] w6 fun v4 w11=>∃ a1 l1 c1 x23,v4= .tuple #[.slice a1 l1 c1,.int .i64 x23]∧strOfP w11 a1 l1 fun s7=>storeP w11 (Addr.add ⟨B2,0,none⟩ 2) [.string s7] fun w12=>br (x23 != 0) (storeP w12 ⟨B1,0,none⟩ [.int .i64 0,.int .u8 0,.string (⟨#[]⟩: ByteArray),.int .i64 0] fun w13=>∃ x24 x25 s8 x26,cellsAt w13 ⟨B1,0,none⟩ [.int .i64 x24,.int .u8 x25,.string s8,.int .i64 x26] 0∧R (.tuple #[.agg #[.int .i64 x24,.int .u8 x25,.string s8,.int .i64 x26],.int .i64 x23]) w13) (∃ x27 x28 s9 x29,cellsAt w12 ⟨B2,0,none⟩ [.int .i64 x27,.int .u8 x28,.string s9,.int .i64 x29] 0∧CallsR prog K.fact_MayKey #[.agg #[.int .i64 x27,.int .u8 x28,.string s9,.int .i64 x29]] w12 fun v5 w14=>∃ b2,v5= .bool b2∧br (!b2) (storeP w14 ⟨B1,0,none⟩ [.int .i64 0,.int .u8 0,.string (⟨#[]⟩: ByteArray),.int .i64 0] fun w15=>∃ x30 x31 s10 x32,cellsAt w15 ⟨B1,0,none⟩ [.int .i64 x30,.int .u8 x31,.string s10,.int .i64 x32] 0∧R (.tuple #[.agg #[.int .i64 x30,.int .u8 x31,.string s10,.int .i64 x32],.int .i64 5]) w15) (∃ x33 x34 s11 x35,cellsAt w14 ⟨B2,0,none⟩ [.int .i64 x33,.int .u8 x34,.string s11,.int .i64 x35] 0∧storeP w14 ⟨B1,0,none⟩ [.int .i64 x33,.int .u8 x34,.string s11,.int .i64 x35] fun w16=>∃ x36 x37 s12 x38,cellsAt w16 ⟨B1,0,none⟩ [.int .i64 x36,.int .u8 x37,.string s12,.int .i64 x38] 0∧R (.tuple #[.agg #[.int .i64 x36,.int .u8 x37,.string s12,.int .i64 x38],.int .i64 0]) w16))) (br (x6 == 3) (CallsR prog K.ends_Reader_Take #[.pointer y0a,.int .i64 1] w6 fun v6 w17=>∃ x39 x40,v6= .tuple #[.int .u64 x39,.int .i64 x40]∧storeP w17 (Addr.add ⟨B2,0,none⟩ 3) [.int .i64 (IntKind.i64.wrap x39)] fun w18=>br (x40 != 0) (storeP w18 ⟨B1,0,none⟩ [.int .i64 0,.int .u8 0,.string (⟨#[]⟩: ByteArray),.int .i64 0] fun w19=>∃ x41 x42 s13 x43,cellsAt w19 ⟨B1,0,none⟩ [.int .i64 x41,.int .u8 x42,.string s13,.int .i64 x43] 0∧R (.tuple #[.agg #[.int .i64 x41,.int .u8 x42,.string s13,.int .i64 x43],.int .i64 x40]) w19) (∃ x44 x45 s14 x46,cellsAt w18 ⟨B2,0,none⟩ [.int .i64 x44,.int .u8 x45,.string s14,.int .i64 x46] 0∧CallsR prog K.fact_MayKey #[.agg #[.int .i64 x44,.int .u8 x45,.string s14,.int .i64 x46]] w18 fun v7 w20=>∃ b3,v7= .bool b3∧br (!b3) (storeP w20 ⟨B1,0,none⟩ [.int .i64 0,.int .u8 0,.string (⟨#[]⟩: ByteArray),.int .i64 0] fun w21=>∃ x47 x48 s15 x49,cellsAt w21 ⟨B1,0,none⟩ [.int .i64 x47,.int .u8 x48,.string s15,.int .i64 x49] 0∧R (.tuple #[.agg #[.int .i64 x47,.int .u8 x48,.string s15,.int .i64 x49],.int .i64 5]) w21) (∃ x50 x51 s16 x52,cellsAt w20 ⟨B2,0,none⟩ [.int .i64 x50,.int .u8 x51,.string s16,.int .i64 x52] 0∧storeP w20 ⟨B1,0,none⟩ [.int .i64 x50,.int .u8 x51,.string s16,.int .i64 x52] fun w22=>∃ x53 x54 s17 x55,cellsAt w22 ⟨B1,0,none⟩ [.int .i64 x53,.int .u8 x54,.string s17,.int .i64 x55] 0∧R (.tuple #[.agg #[.int .i64 x53,.int .u8 x54,.string s17,.int .i64 x55],.int .i64 0]) w22))) (br (x7 != 0) (storeP w6 ⟨B1,0,none⟩ [.int .i64 0,.int .u8 0,.string (⟨#[]⟩: ByteArray),.int .i64 0] fun w23=>∃ x56 x57 s18 x58,cellsAt w23 ⟨B1,0,none⟩ [.int .i64 x56,.int .u8 x57,.string s18,.int .i64 x58] 0∧R (.tuple #[.agg #[.int .i64 x56,.int .u8 x57,.string s18,.int .i64 x58],.int .i64 x7]) w23) (∃ x59 x60 s19 x61,cellsAt w6 ⟨B2,0,none⟩ [.int .i64 x59,.int .u8 x60,.string s19,.int .i64 x61] 0∧CallsR prog K.fact_MayKey #[.agg #[.int .i64 x59,.int .u8 x60,.string s19,.int .i64 x61]] w6 fun v8 w24=>∃ b4,v8= .bool b4∧br (!b4) (storeP w24 ⟨B1,0,none⟩ [.int .i64 0,.int .u8 0,.string (⟨#[]⟩: ByteArray),.int .i64 0] fun w25=>∃ x62 x63 s20 x64,cellsAt w25 ⟨B1,0,none⟩ [.int .i64 x62,.int .u8 x63,.string s20,.int .i64 x64] 0∧R (.tuple #[.agg #[.int .i64 x62,.int .u8 x63,.string s20,.int .i64 x64],.int .i64 5]) w25) (∃ x65 x66 s21 x67,cellsAt w24 ⟨B2,0,none⟩ [.int .i64 x65,.int .u8 x66,.string s21,.int .i64 x67] 0∧storeP w24 ⟨B1,0,none⟩ [.int .i64 x65,.int .u8 x66,.string s21,.int .i64 x67] fun w26=>∃ x68 x69 s22 x70,cellsAt w26 ⟨B1,0,none⟩ [.int .i64 x68,.int .u8 x69,.string s22,.int .i64 x70] 0∧R (.tuple #[.agg #[.int .i64 x68,.int .u8 x69,.string s22,.int .i64 x70],.int .i64 0]) w26))))))
theorem fact_GetKey.sh {y0a:Option Addr} {w:World} {R:Value→World→Prop} (h:fact_GetKey.body y0a w R) :
  CallsR prog K.fact_GetKey #[.pointer y0a] w R :=
 calls_body follows (f:=K.fact_GetKey) Tryz.func190 ([]) ([])
  (Eq.mp (by kernel_rfl) h)
def ends_Reader_Row.body (r:Option Addr) (w:World) (R:Value→World→Prop):Prop :=
 CallsR prog K.ends_Reader_Take #[.pointer r,.int .i64 1] w fun v1 w1=>∃ x1 x2,v1= .tuple #[.int .u64 x1,.int .i64 x2]∧br (x2 != 0) (R (.tuple #[.slice none 0 0,.int .i64 x2]) w1) (CallsR prog K.ends_Reader_cut #[.pointer r,.int .i64 (IntKind.i64.wrap x1)] w1 fun v2 w2=>∃ a1 l1 c1 x3,v2= .tuple #[.slice a1 l1 c1,.int .i64 x3]∧appendP T.uint8 1 1 [.int .u8 0] none 0 0 (.slice a1 l1 c1) w2 fun a2 l2 c2 w3=>R (.tuple #[.slice a2 l2 c2,.int .i64 x3]) w3)
theorem ends_Reader_Row.sh {r:Option Addr} {w:World} {R:Value→World→Prop} (h:ends_Reader_Row.body r w R) :
  CallsR prog K.ends_Reader_Row #[.pointer r] w R :=
 calls_body follows (f:=K.ends_Reader_Row) Tryz.func191 ([]) ([])
  (Eq.mp (by kernel_rfl) h)
end
end Go.Den

namespace Go.Den
theorem w64 {x:Int} (h: -9223372036854775808≤x) (h':x<9223372036854775808):IntKind.i64.wrap x=x:=by
 simp only [IntKind.wrap,IntKind.bits,IntKind.signed];simp;omega
theorem wu64 {x:Int} (h:0≤x) (h':x<18446744073709551616):IntKind.u64.wrap x=x:=by
 simp only [IntKind.wrap,IntKind.bits,IntKind.signed];simp;omega
theorem wu32 {x:Int} (h:0≤x) (h':x<4294967296):IntKind.u32.wrap x=x:=by
 simp only [IntKind.wrap,IntKind.bits,IntKind.signed];simp;omega
theorem wu8 {x:Int} (h:0≤x) (h':x<256):IntKind.u8.wrap x=x:=by
 simp only [IntKind.wrap,IntKind.bits,IntKind.signed];simp;omega
theorem wu8_mod (x:Int):IntKind.u8.wrap x=x % 256:=by
 simp only [IntKind.wrap,IntKind.bits,IntKind.signed];simp
theorem wu64_mod (x:Int):IntKind.u64.wrap x=x % 18446744073709551616:=by
 simp only [IntKind.wrap,IntKind.bits,IntKind.signed];simp
@[simp] theorem bits_u8:IntKind.bits .u8=8:=rfl
@[simp] theorem bits_u32:IntKind.bits .u32=32:=rfl
@[simp] theorem bits_u64:IntKind.bits .u64=64:=rfl
@[simp] theorem bits_i64:IntKind.bits .i64=64:=rfl
theorem tn0:Int.toNat 0=0:=rfl
theorem tn1:Int.toNat 1=1:=rfl
theorem tn2:Int.toNat 2=2:=rfl
theorem tn3:Int.toNat 3=3:=rfl
theorem tn5:Int.toNat 5=5:=rfl
@[simp] theorem br_true (X Y:Prop):br true X Y=X:=rfl
@[simp] theorem br_false (X Y:Prop):br false X Y=Y:=rfl
theorem br_intro {b:Bool} {X Y:Prop} (h1:b=true→X) (h2:b=false→Y):br b X Y:=by
 cases b
 ·exact h2 rfl
 ·exact h1 rfl
theorem br_dec {p:Prop} [Decidable p] {X Y:Prop} (h1:p→X) (h2:¬ p→Y):br (decide p) X Y:=br_intro (fun h=>h1 (of_decide_eq_true h)) (fun h=>h2 (of_decide_eq_false h))
theorem br_eq {a b:Int} {X Y:Prop} (h1:a=b→X) (h2:a≠b→Y):br (a == b) X Y:=br_intro (fun h=>h1 (by simpa using h)) (fun h=>h2 (by simpa using h))
theorem br_ne {a b:Int} {X Y:Prop} (h1:a≠b→X) (h2:a=b→Y):br (a != b) X Y:=br_intro (fun h=>h1 (by simpa using h)) (fun h=>h2 (by simpa using h))
@[simp] theorem nilC_some' (a:Addr) (K:Addr→Prop):nilC (some a) K=K a:=rfl
theorem CallsR.mono {P:Program} {f:FuncId} {args:Array Value} {w:World} {R R':Value→World→Prop} (h:CallsR P f args w R) (hr:∀ v w',R v w'→R' v w'):CallsR P f args w R' :=
 Calls.mono h fun _ _ ⟨v,he,hR⟩=>⟨v,he,hr v _ hR⟩
def isBook:Obj→Bool
 | .loop _=>true
 | .deferred _=>true
 | _=>false
structure Upd (F:Nat→Prop) (w w':World):Prop where
 size:w.heap.size≤w'.heap.size
 blk:∀ b,b<w.heap.size→¬ F b→w'.heap[b]?=w.heap[b]?
 os:w'.os=w.os
 tape:w'.tape=w.tape
 output:w'.output=w.output
 book:∀ (b:Nat) (o:Obj),w.heap[b]?=some o→isBook o=true→w'.heap[b]?=some o
abbrev NoB:Nat→Prop:=fun _=>False
abbrev Ext (w w':World):Prop:=Upd NoB w w'
theorem Upd.refl (F:Nat→Prop) (w:World):Upd F w w:=⟨Nat.le_refl _,fun _ _ _=>rfl,rfl,rfl,rfl,fun _ _ h _=>h⟩
theorem Upd.trans {F:Nat→Prop} {a b c:World} (h:Upd F a b) (k:Upd F b c):Upd F a c :=
 ⟨Nat.le_trans h.size k.size,fun i hi hf=>(k.blk i (Nat.lt_of_lt_of_le hi h.size) hf).trans (h.blk i hi hf),k.os.trans h.os,k.tape.trans h.tape,k.output.trans h.output,fun b o hb ho=>k.book b o (h.book b o hb ho) ho⟩
theorem Upd.mono {F G:Nat→Prop} {a b:World} (h:Upd F a b) (hs:∀ x,x<a.heap.size→F x→G x):Upd G a b:=⟨h.size,fun i hi hf=>h.blk i hi fun hF=>hf (hs i hi hF),h.os,h.tape,h.output,h.book⟩
theorem Upd.ext {F:Nat→Prop} {a b:World} (h:Ext a b):Upd F a b:=h.mono fun _ _ hf=>hf.elim
theorem Upd.then {F:Nat→Prop} {a b c:World} (h:Upd F a b) (k:Ext b c):Upd F a c:=h.trans (Upd.ext k)
theorem Upd.beyond {F:Nat→Prop} {a b c:World} (h:Ext a b) (k:Upd F b c) (hf:∀ x,F x→a.heap.size≤x):Ext a c :=
 ⟨Nat.le_trans h.size k.size,fun i hi hn=>(k.blk i (Nat.lt_of_lt_of_le hi h.size) fun hF=>absurd (hf i hF) (by omega)).trans (h.blk i hi hn),k.os.trans h.os,k.tape.trans h.tape,k.output.trans h.output,fun b o hb ho=>k.book b o (h.book b o hb ho) ho⟩
theorem Upd.get {F:Nat→Prop} {w w':World} (h:Upd F w w') {b:Nat} {o:Obj} (hb:w.heap[b]?=some o) (hf:¬ F b):w'.heap[b]?=some o:=by
 rw [h.blk b (Array.getElem?_eq_some_iff.1 hb).1 hf];exact hb
theorem Ext.get {w w':World} (h:Ext w w') {b:Nat} {o:Obj} (hb:w.heap[b]?=some o):w'.heap[b]?=some o:=Upd.get h hb (fun hf=>hf)
theorem New.upd {w:World} {o:Obj} {b:Nat} {w':World} (h:New w o b w'):Ext w w':=by
 obtain ⟨rfl,rfl⟩:=h
 have key:∀ i,i<w.heap.size→(w.heap.push o)[i]?=w.heap[i]?:=fun i hi=>by rw [Array.getElem?_push,if_neg (by omega)]
 exact ⟨by rw [World.size_alloc];omega,fun i hi _=>key i hi,rfl,rfl,rfl,fun i x hx _=>(key i (Array.getElem?_eq_some_iff.1 hx).1).trans hx⟩
theorem New.get {w:World} {o:Obj} {b:Nat} {w':World} (h:New w o b w'):w'.heap[b]?=some o:=by
 obtain ⟨rfl,rfl⟩:=h
 show (w.heap.push o)[w.heap.size]?=_
 simp
theorem New.size {w:World} {o:Obj} {b:Nat} {w':World} (h:New w o b w'):w'.heap.size=w.heap.size+1:=by
 obtain ⟨rfl,rfl⟩:=h
 exact World.size_alloc _ _
theorem Drew.upd {w w':World} (h:Drew w w'):Ext w w':=by
 obtain ⟨rfl⟩:=h
 exact ⟨Nat.le_refl _,fun _ _ _=>rfl,rfl,rfl,rfl,fun _ _ h _=>h⟩
theorem Drew.heap {w w':World} (h:Drew w w'):w'.heap=w.heap:=by
 obtain ⟨rfl⟩:=h
 rfl
theorem drew_upd (w:World):Ext w w.drew:=Drew.upd ⟨rfl⟩
theorem Put.upd {F:Nat→Prop} {w₀ w:World} {b:Nat} {o:Obj} {w':World} (h:Upd F w₀ w) (k:Put w b o w') (hb:w₀.heap.size≤b∨F b):Upd F w₀ w':=by
 obtain ⟨hlt,rfl,cs,T,fr,hwas⟩:=k
 refine ⟨by have:=h.size;simpa [putBlk] using this,fun i hi hf=>?_,h.os,h.tape,h.output,fun i x hx hbx=>?_⟩
 ·have hne:b≠i:=by
   rintro rfl
   rcases hb with hb | hb
   ·omega
   ·exact hf hb
  rw [putBlk_get_other hne]
  exact h.blk i hi hf
 ·have hx':=h.book i x hx hbx
  have hne:b≠i:=by
   rintro rfl
   rw [hwas] at hx'
   cases hx'
   cases hbx
  rw [putBlk_get_other hne]
  exact hx'
theorem Put.get {w:World} {b:Nat} {o:Obj} {w':World} (k:Put w b o w'):w'.heap[b]?=some o:=by
 obtain ⟨hlt,rfl,_⟩:=k
 exact putBlk_get_same hlt
theorem Put.size {w:World} {b:Nat} {o:Obj} {w':World} (k:Put w b o w'):w'.heap.size=w.heap.size:=by
 obtain ⟨hlt,rfl,_⟩:=k
 simp [putBlk]
theorem Put.upd1 {w:World} {b:Nat} {o:Obj} {w':World} (k:Put w b o w'):Upd (·=b) w w':=Put.upd (Upd.refl _ _) k (.inr rfl)
@[simp] theorem add_lit (b o n:Nat):Addr.add ⟨b,o,none⟩ n=⟨b,o+n,none⟩:=by
 unfold Addr.add
 split
 ·rename_i h;subst h;rfl
 ·rfl
theorem add_zero (a:Addr):Addr.add a 0=a:=by simp [Addr.add]
theorem cell_of {w:World} {b:Nat} {cs:Array Value} {T:TypeId} {fr:Nat×Nat} (h:w.heap[b]?=some (.cells cs T fr)) {i:Nat} {v:Value} (hi:cs[i]?=some v):w.cell? ⟨b,i,none⟩= some v:=by
 simp [World.cell?,h,hi]
theorem cellsAt_of {w:World} {b:Nat} {cs:Array Value} {T:TypeId} {fr:Nat×Nat} (h:w.heap[b]?=some (.cells cs T fr)) {o:Nat}:∀ {vs:List Value} {i:Nat},(∀ j v,vs[j]?=some v→cs[o+(i+j)]?=some v)→cellsAt w ⟨b,o,none⟩ vs i
 | [],_,_=>trivial
 | v :: vs,i,hv=>by
  refine ⟨?_,cellsAt_of h fun j u hj=>?_⟩
  ·rw [add_lit]
   exact cell_of h (by simpa using hv 0 v rfl)
  ·have:=hv (j+1) u (by simpa using hj)
   rwa [show o+(i+(j+1))=o+(i+1+j) by omega] at this
theorem store_of {w:World} {b:Nat} {cur:Array Value} {T:TypeId} (h:w.heap[b]?=some (.cells cur T (0,0))) {o:Nat} {vs:List Value} (hl:o+vs.length≤cur.size) {K:World→Prop}
  (hk:∀ w',Put w b (.cells (splice cur o vs) T (0,0)) w'→K w'):storeP w ⟨b,o,none⟩ vs K :=
 ⟨rfl,cur,T,(0,0),h,hl,.inl (by simp),hk⟩
theorem splice_one (cur:Array Value) (o:Nat) (v:Value) (h:o<cur.size):splice cur o [v]=cur.setIfInBounds o v:=by
 apply Array.ext'
 rw [Array.toList_setIfInBounds]
 simp only [splice,List.length_singleton]
 rw [List.set_eq_take_append_cons_drop]
 simp [h]
theorem splice_all (cur:Array Value) (vs:List Value) (h:cur.size=vs.length):splice cur 0 vs=vs.toArray:=by
 simp [splice,← h]
theorem splice_size (cur:Array Value) (o:Nat) (vs:List Value) (h:o+vs.length≤cur.size):(splice cur o vs).size=cur.size:=by
 simp [splice];omega
theorem fill_step (l z:List Value) (i:Nat) (hi:i<l.length) (hl:z.length=l.length):splice (l.take i ++ z.drop i).toArray i [l[i]]=(l.take (i+1) ++ z.drop (i+1)).toArray:=by
 rw [splice_one _ _ _ (by simp;omega)]
 apply Array.ext'
 simp only [Array.toList_setIfInBounds]
 rw [List.set_append_right _ _ (by simp;omega)]
 have hz:i<z.length:=by omega
 rw [List.drop_eq_getElem_cons hz]
 have:i - (l.take i).length=0:=by simp;omega
 rw [this,List.set_cons_zero]
 rw [List.take_succ_eq_append_getElem hi]
 simp only [List.append_assoc,List.singleton_append]
abbrev bv (x:UInt8):Value:=.int .u8 (x.toNat:Int)
def RowAt (w:World) (a:Option Addr) (vs:List Value):Prop :=
 vs=[]∨∃ b o cur T fr,a=some ⟨b,o,none⟩∧w.heap[b]?=some (.cells cur T fr)∧∀ (j:Nat) v,vs[j]?=some v→cur[o+j]?=some v
theorem RowAt.nil (w:World) (a:Option Addr):RowAt w a []:=.inl rfl
theorem RowAt.upd {F:Nat→Prop} {w w':World} {a:Option Addr} {vs:List Value} (h:RowAt w a vs) (k:Upd F w w') (hf:∀ p,a=some p→¬ F p.block):RowAt w' a vs:=by
 rcases h with h | ⟨b,o,cur,T,fr,rfl,hb,hv⟩
 ·exact .inl h
 ·exact .inr ⟨b,o,cur,T,fr,rfl,k.get hb (hf _ rfl),hv⟩
theorem RowAt.ext {w w':World} {a:Option Addr} {vs:List Value} (h:RowAt w a vs) (k:Ext w w'):RowAt w' a vs:=RowAt.upd h k fun _ _ hf=>hf
theorem RowAt.cell {w:World} {a:Option Addr} {vs:List Value} (h:RowAt w a vs) {i:Nat} {v:Value} (hi:vs[i]?=some v):∃ b o,a=some ⟨b,o,none⟩∧w.cell? ⟨b,o+i,none⟩= some v:=by
 rcases h with h | ⟨b,o,cur,T,fr,rfl,hb,hv⟩
 ·subst h;simp at hi
 ·exact ⟨b,o,rfl,cell_of hb (hv i v hi)⟩
theorem RowAt.cells {w:World} {b o:Nat} {vs:List Value} (h:RowAt w (some ⟨b,o,none⟩) vs):cellsAt w ⟨b,o,none⟩ vs 0:=by
 rcases h with h | ⟨b,o,cur,T,fr,ha,hb,hv⟩
 ·subst h;trivial
 ·cases ha;exact cellsAt_of hb fun j v hj=>by simpa using hv j v hj
theorem RowAt.drop {w:World} {b o:Nat} {vs:List Value} (h:RowAt w (some ⟨b,o,none⟩) vs) (k:Nat):RowAt w (some ⟨b,o+k,none⟩) (vs.drop k):=by
 rcases h with h | ⟨b,o,cur,T,fr,ha,hb,hv⟩
 ·subst h;exact .inl (by simp)
 ·cases ha;exact .inr ⟨b,o+k,cur,T,fr,rfl,hb,fun j v hj=>by
   rw [List.getElem?_drop] at hj
   rw [Nat.add_assoc];exact hv _ v hj⟩
theorem RowAt.take {w:World} {a:Option Addr} {vs:List Value} (h:RowAt w a vs) (k:Nat):RowAt w a (vs.take k):=by
 rcases h with h | ⟨b,o,cur,T,fr,rfl,hb,hv⟩
 ·subst h;exact .inl (by simp)
 ·exact .inr ⟨b,o,cur,T,fr,rfl,hb,fun j v hj=>hv j v (by
   rw [List.getElem?_take] at hj
   split at hj
   ·exact hj
   ·cases hj)⟩
theorem RowAt.blk {w:World} {a:Option Addr} {vs:List Value} (h:RowAt w a vs) (hn:vs≠[]):∃ b o,a=some ⟨b,o,none⟩∧b<w.heap.size:=by
 rcases h with h | ⟨b,o,cur,T,fr,rfl,hb,hv⟩
 ·exact absurd h hn
 ·exact ⟨b,o,rfl,(Array.getElem?_eq_some_iff.1 hb).1⟩
theorem RowAt.of {w:World} {b:Nat} {cur:Array Value} {T:TypeId} {fr:Nat×Nat} (h:w.heap[b]?=some (.cells cur T fr)) {o:Nat} {vs:List Value} (hv:∀ (j:Nat) v,vs[j]?=some v→cur[o+j]?=some v):RowAt w (some ⟨b,o,none⟩) vs :=
 .inr ⟨b,o,cur,T,fr,rfl,h,hv⟩
def Fresh (w:World) (a:Option Addr):Prop:=∀ p,a=some p→w.heap.size≤p.block
theorem Fresh.none (w:World):Fresh w none:=fun _ h=>by cases h
theorem Fresh.some {w:World} {b o:Nat} (h:w.heap.size≤b):Fresh w (some ⟨b,o,.none⟩):=fun _ hp=>by cases hp;exact h
theorem Fresh.mono {w w':World} {a:Option Addr} (h:Fresh w' a) (hs:w.heap.size≤w'.heap.size):Fresh w a:=fun p hp=>Nat.le_trans hs (h p hp)
abbrev BytesAt (w:World) (a:Option Addr) (l:List UInt8):Prop:=RowAt w a (l.map bv)
theorem BytesAt.take {w:World} {a:Option Addr} {l:List UInt8} (h:BytesAt w a l) (k:Nat):BytesAt w a (l.take k):=by
 show RowAt w a ((l.take k).map bv)
 rw [List.map_take];exact RowAt.take h k
theorem BytesAt.drop {w:World} {b o:Nat} {l:List UInt8} (h:BytesAt w (some ⟨b,o,none⟩) l) (k:Nat):BytesAt w (some ⟨b,o+k,none⟩) (l.drop k):=by
 show RowAt w _ ((l.drop k).map bv)
 rw [List.map_drop];exact RowAt.drop h k
theorem BytesAt.nil (w:World) (a:Option Addr):BytesAt w a []:=.inl rfl
theorem BytesAt.from {w:World} {a:Option Addr} {l:List UInt8} (h:BytesAt w a l) (k:Nat):BytesAt w (a.map (·.add k)) (l.drop k):=by
 cases l with
 | nil=>simpa using BytesAt.nil w _
 | cons x l =>
  obtain ⟨b,o,rfl,_⟩:=RowAt.blk h (by simp)
  simp only [Option.map_some,add_lit]
  exact h.drop k
theorem bytes_get {l:List UInt8} {i:Nat} (h:i<l.length):(l.map bv)[i]?=some (bv l[i]):=by simp [h]
theorem idx_byte {w:World} {a:Option Addr} {l:List UInt8} {i:Int} {K:Int→Prop} (h:BytesAt w a l) (h0:0≤i) (h1:i<l.length) (hk:K ((l.getD i.toNat 0).toNat:Int)) :
  idxP a l.length i 1 fun q=>∃ x:Int,World.cell? w q=some (Value.int .u8 x)∧K x:=by
 refine ⟨h0,h1,?_⟩
 have hi:i.toNat<l.length:=by omega
 obtain ⟨b,o,rfl,hc⟩:=RowAt.cell h (bytes_get hi)
 simp only [nilC_some',add_lit,Nat.mul_one]
 refine ⟨_,hc,?_⟩
 simpa [List.getD,hi] using hk
theorem idx_byteS {S:World→Prop} {a:Option Addr} {l:List UInt8} {i:Int} {K:Int→Prop} (h:∀ u,S u→BytesAt u a l) (hs:∃ u,S u) (h0:0≤i) (h1:i<l.length) (hk:K ((l.getD i.toNat 0).toNat:Int)) :
  idxP a l.length i 1 fun q=>∃ x:Int,(∀ u,S u→World.cell? u q=some (Value.int .u8 x))∧K x:=by
 refine ⟨h0,h1,?_⟩
 have hi:i.toNat<l.length:=by omega
 obtain ⟨u,hu⟩:=hs
 obtain ⟨b,o,rfl,hc⟩:=RowAt.cell (h u hu) (bytes_get hi)
 simp only [nilC_some',add_lit,Nat.mul_one]
 refine ⟨(l[i.toNat].toNat:Int),fun u hu=>?_,by simpa [List.getD,hi] using hk⟩
 obtain ⟨b',o',hb',hc'⟩:=RowAt.cell (h u hu) (bytes_get hi)
 cases hb'
 exact hc'
structure CellsLe (w w':World):Prop where
 size:w.heap.size≤w'.heap.size
 get:∀ (b:Nat) cs T fr,w.heap[b]?=some (.cells cs T fr)→w'.heap[b]?=some (.cells cs T fr)
theorem CellsLe.of {w w':World} (h:Ext w w'):CellsLe w w':=⟨h.size,fun _ _ _ _ hb=>Ext.get h hb⟩
theorem CellsLe.trans {a b c:World} (h:CellsLe a b) (k:CellsLe b c):CellsLe a c:=⟨Nat.le_trans h.size k.size,fun b cs T fr hb=>k.get b cs T fr (h.get b cs T fr hb)⟩
theorem putObj_size (w:World) (l:Nat) (o:Obj):(w.putObj l o).heap.size=w.heap.size:=by simp [World.putObj]
theorem CellsLe.turn {w:World} {l:Nat} {o x:Obj} (h:w.heap[l]?=some x) (hx:isBook x=true):CellsLe w (w.putObj l o):=by
 refine ⟨by rw [putObj_size];exact Nat.le_refl _,fun b cs T fr hb=>?_⟩
 have hne:b≠l:=by
  rintro rfl
  rw [h] at hb
  cases hb
  cases hx
 exact (World.putObj_heap_other hne).trans hb
theorem RowAt.cellsLe {w w':World} {a:Option Addr} {vs:List Value} (h:RowAt w a vs) (k:CellsLe w w'):RowAt w' a vs:=by
 rcases h with h | ⟨b,o,cur,T,fr,rfl,hb,hv⟩
 ·exact .inl h
 ·exact .inr ⟨b,o,cur,T,fr,rfl,k.get _ _ _ _ hb,hv⟩
theorem Upd.round {F:Nat→Prop} {W Wa U:World} {l:Nat} {r:Loop} {o:Loop} (hl:W.heap[l]?=some (.loop r)) (h:Upd F W Wa) (k:Upd F (Wa.putObj l (.loop o)) U):Upd F W (U.putObj l (.loop r)):=by
 have hla:Wa.heap[l]?=some (.loop r):=h.book l _ hl rfl
 have hlt:l<Wa.heap.size:=(Array.getElem?_eq_some_iff.1 hla).1
 have hs1:Wa.heap.size≤U.heap.size:=by have:=k.size;rwa [putObj_size] at this
 refine ⟨by rw [putObj_size];exact Nat.le_trans h.size hs1,fun i hi hf=>?_,k.os.trans h.os,k.tape.trans h.tape,k.output.trans h.output,fun i x hx hb=>?_⟩
 ·by_cases e:i=l
  ·subst e
   rw [hl]
   exact World.putObj_heap_same (Nat.lt_of_lt_of_le hlt hs1)
  ·rw [World.putObj_heap_other e,k.blk i (by rw [putObj_size];exact Nat.lt_of_lt_of_le hi h.size) hf,World.putObj_heap_other e]
   exact h.blk i hi hf
 ·by_cases e:i=l
  ·subst e
   rw [hl] at hx
   cases hx
   exact World.putObj_heap_same (Nat.lt_of_lt_of_le hlt hs1)
  ·rw [World.putObj_heap_other e]
   refine k.book i x ?_ hb
   rw [World.putObj_heap_other e]
   exact h.book i x hx hb
theorem Upd.turn {F:Nat→Prop} {w W:World} {l:Nat} {o:Obj} (h:Upd F w W) (hl:w.heap.size≤l):Upd F w (W.putObj l o):=by
 refine ⟨by rw [putObj_size];exact h.size,fun i hi hf=>?_,h.os,h.tape,h.output,fun i x hx hb=>?_⟩
 ·rw [World.putObj_heap_other (by omega)];exact h.blk i hi hf
 ·have:=(Array.getElem?_eq_some_iff.1 hx).1
  rw [World.putObj_heap_other (by omega)];exact h.book i x hx hb
theorem growBy_le (n:Nat):∀ k c,c≤2 * n+192→Builtin.growBy n k c≤2 * n+192
 | 0,c,h=>h
 | k+1,c,h=>by
  unfold Builtin.growBy
  split
  ·exact h
  ·exact growBy_le n k _ (by omega)
theorem nextcap_le {n c:Nat} (h:c<n):Builtin.nextslicecap n c≤2 * n+192:=by
 unfold Builtin.nextslicecap
 split
 ·omega
 ·split
  ·omega
  ·exact growBy_le n 4 c (by omega)
theorem growBy_fine (n:Nat):∀ k c,c≤n+n / 4+192→Builtin.growBy n k c≤n+n / 4+192
 | 0,c,h=>h
 | k+1,c,h=>by
  unfold Builtin.growBy
  split
  ·exact h
  ·exact growBy_fine n k _ (by omega)
theorem nextcap_fine {n c:Nat} (h:c<n):Builtin.nextslicecap n c≤n+n / 4+512:=by
 unfold Builtin.nextslicecap
 split
 ·omega
 ·split
  ·omega
  ·exact Nat.le_trans (growBy_fine n 4 c (by omega)) (by omega)
def OwnAt (w:World) (a:Option Addr) (len cap:Nat) (e:TypeId) (size:Nat) (cells:List Value):Prop :=
 cells.length=len * size∧len≤cap∧((a=none∧len=0∧cap=0)∨
  ∃ b cur,a=some ⟨b,0,none⟩∧w.heap[b]?=some (.cells cur e (0,0))∧cur.size=cap * size∧cur.toList.take (len * size)=cells)
theorem OwnAt.nil (w:World) (e:TypeId) (size:Nat):OwnAt w none 0 0 e size []:=⟨by simp,Nat.le_refl _,.inl ⟨rfl,rfl,rfl⟩⟩
theorem OwnAt.row {w:World} {a:Option Addr} {len cap:Nat} {e:TypeId} {size:Nat} {cells:List Value} (h:OwnAt w a len cap e size cells):RowAt w a cells:=by
 obtain ⟨hl,_,h⟩:=h
 rcases h with ⟨rfl,rfl,rfl⟩| ⟨b,cur,rfl,hb,hs,ht⟩
 ·exact .inl (List.eq_nil_of_length_eq_zero (by simpa using hl))
 ·refine RowAt.of hb fun j v hj=>?_
  rw [← ht] at hj
  rw [List.getElem?_take] at hj
  split at hj
  ·simpa using hj
  ·cases hj
theorem OwnAt.upd {F:Nat→Prop} {w w':World} {a:Option Addr} {len cap:Nat} {e:TypeId} {size:Nat} {cells:List Value} (h:OwnAt w a len cap e size cells) (k:Upd F w w') (hf:∀ b,a=some ⟨b,0,none⟩→¬ F b):OwnAt w' a len cap e size cells:=by
 obtain ⟨hl,hc,h⟩:=h
 refine ⟨hl,hc,?_⟩
 rcases h with h | ⟨b,cur,rfl,hb,hs,ht⟩
 ·exact .inl h
 ·exact .inr ⟨b,cur,rfl,k.get hb (hf b rfl),hs,ht⟩
theorem OwnAt.ext {w w':World} {a:Option Addr} {len cap:Nat} {e:TypeId} {size:Nat} {cells:List Value} (h:OwnAt w a len cap e size cells) (k:Ext w w'):OwnAt w' a len cap e size cells:=OwnAt.upd h k fun _ _ hf=>hf
theorem OwnAt.cellsLe {w w':World} {a:Option Addr} {len cap:Nat} {e:TypeId} {size:Nat} {cells:List Value} (h:OwnAt w a len cap e size cells) (k:CellsLe w w'):OwnAt w' a len cap e size cells:=by
 obtain ⟨hl,hc,h⟩:=h
 refine ⟨hl,hc,?_⟩
 rcases h with h | ⟨b,cur,rfl,hb,hs,ht⟩
 ·exact .inl h
 ·exact .inr ⟨b,cur,rfl,k.get _ _ _ _ hb,hs,ht⟩
theorem OwnAt.blk {w:World} {a:Option Addr} {len cap:Nat} {e:TypeId} {size:Nat} {cells:List Value} (h:OwnAt w a len cap e size cells) {b:Nat} (ha:a=some ⟨b,0,none⟩):b<w.heap.size:=by
 obtain ⟨_,_,h⟩:=h
 rcases h with ⟨h,_⟩| ⟨b',cur,h,hb,_⟩
 ·rw [h] at ha;cases ha
 ·rw [h] at ha;cases ha;exact (Array.getElem?_eq_some_iff.1 hb).1
theorem OwnAt.new {w w':World} {b:Nat} {cs:Array Value} {e:TypeId} (h:New w (.cells cs e) b w') {n size:Nat} (hs:cs.size=n * size):OwnAt w' (some ⟨b,0,none⟩) n n e size cs.toList :=
 ⟨by simpa using hs,Nat.le_refl _,.inr ⟨b,cs,rfl,h.get,hs,by rw [List.take_of_length_le (by simp [hs])]⟩⟩
theorem read_row {w:World} {a:Option Addr} {len cap size:Nat} {vs:List Value} (h:RowAt w a vs) (hl:vs.length=len * size):readP w size (.slice a len cap) len vs:=by
 unfold readP
 cases vs with
 | nil=>cases a<;>simp at hl ⊢<;>simp [cellsAt,← hl]
 | cons v vs =>
  obtain ⟨b,o,rfl,_⟩:=RowAt.blk h (by simp)
  exact ⟨hl,RowAt.cells h⟩
theorem append_own' {w:World} {a:Option Addr} {len cap:Nat} {e:TypeId} {size bytes:Nat} {z:List Value} {cells:List Value} (h:OwnAt w a len cap e size cells) {x:Value} {m:Nat} {new:List Value}
  (hx:lenV x=some m) (hr:readP w size x m new) (hm:new.length=m * size) (h1:∀ v∈new,v.oneCell'=true) (hz:z.length=size) (hbig:cap<len+m→Builtin.nextslicecap (len+m) cap * bytes≤2 ^ 48) (hb:len+m<9223372036854775808)
  {K:Option Addr→Nat→Nat→World→Prop}
  (hk:∀ a' c' w',Upd (fun b=>a=some ⟨b,0,none⟩) w w'→OwnAt w' a' (len+m) c' e size (cells ++ new)→(a'=a∨∃ b,a'=some ⟨b,0,none⟩∧w.heap.size≤b)→K a' (len+m) c' w') :
  appendP e size bytes z a len cap x w K:=by
 obtain ⟨hl,hc,h⟩:=h
 refine ⟨m,hx,new,hr,h1,fun hroom=>?_,fun hgrow=>⟨hb,?_,cells,?_,?_⟩⟩
 ·rcases h with ⟨rfl,rfl,rfl⟩| ⟨b,cur,rfl,hbk,hs,ht⟩
  ·have hm0:m=0:=by omega
   subst hm0
   have hn:new=[]:=List.eq_nil_of_length_eq_zero (by simpa using hm)
   have hc0:cells=[]:=List.eq_nil_of_length_eq_zero (by simpa using hl)
   subst hn;subst hc0
   exact hk none 0 w (Upd.refl _ _) (OwnAt.nil _ _ _) (.inl rfl)
  ·simp only [add_lit,Nat.zero_add]
   have hfit:len * size+new.length≤cur.size:=by rw [hm,hs,← Nat.add_mul];exact Nat.mul_le_mul_right _ hroom
   refine store_of hbk hfit fun w' hput=>hk _ _ w' (Put.upd (Upd.refl _ _) hput (.inr rfl)) ?_ (.inl rfl)
   refine ⟨by simp [hl,hm,Nat.add_mul],hroom,.inr ⟨b,_,rfl,hput.get,by rw [splice_size _ _ _ hfit,hs],?_⟩⟩
   simp only [splice]
   rw [← ht,Nat.add_mul,← hm]
   have:(cur.toList.take (len * size) ++ new).length=len * size+new.length:=by simp;omega
   rw [← this,List.take_append_of_le_length (Nat.le_refl _),List.take_length]
 ·exact hbig hgrow
 ·exact read_row (by
   rcases h with ⟨rfl,rfl,rfl⟩| ⟨b,cur,rfl,hbk,hs,ht⟩
   ·exact .inl (List.eq_nil_of_length_eq_zero (by simpa using hl))
   ·exact OwnAt.row ⟨hl,hc,.inr ⟨b,cur,rfl,hbk,hs,ht⟩⟩) hl
 ·intro cap' b w' hcap _ hnew
  have e1:Ext w w':=(drew_upd w).trans hnew.upd
  refine hk _ _ w' (Upd.ext e1) ?_ (.inr ⟨b,rfl,by rw [hnew.num];exact Nat.le_refl _⟩)
  refine ⟨by simp [hl,hm,Nat.add_mul],hcap,.inr ⟨b,_,rfl,hnew.get,?_,?_⟩⟩
  ·simp [hl,hm,zerosL_length,hz]
   rw [← Nat.add_mul,← Nat.add_mul]
   congr 1
   omega
  ·have:(cells ++ new).length=(len+m) * size:=by simp [hl,hm,Nat.add_mul]
   simp only []
   rw [← this,List.take_append_of_le_length (Nat.le_refl _),List.take_length]
theorem append_own {w:World} {a:Option Addr} {len cap:Nat} {e:TypeId} {size bytes:Nat} {z:List Value} {cells:List Value} (h:OwnAt w a len cap e size cells) {x:Value} {m:Nat} {new:List Value}
  (hx:lenV x=some m) (hr:readP w size x m new) (hm:new.length=m * size) (h1:∀ v∈new,v.oneCell'=true) (hz:z.length=size) (hbig:(2 * (len+m)+192) * bytes≤2 ^ 48) (hb:len+m<9223372036854775808)
  {K:Option Addr→Nat→Nat→World→Prop}
  (hk:∀ a' c' w',Upd (fun b=>a=some ⟨b,0,none⟩) w w'→OwnAt w' a' (len+m) c' e size (cells ++ new)→(a'=a∨∃ b,a'=some ⟨b,0,none⟩∧w.heap.size≤b)→K a' (len+m) c' w') :
  appendP e size bytes z a len cap x w K:=by
 exact append_own' h hx hr hm h1 hz (fun hg=>Nat.le_trans (Nat.mul_le_mul_right _ (nextcap_le hg)) hbig) hb hk
theorem oneCell_bytes {l:List UInt8}:∀ v∈l.map bv,v.oneCell'=true:=by
 intro v hv
 simp at hv
 obtain ⟨x,_,rfl⟩:=hv
 rfl
theorem append_bytes {w:World} {a:Option Addr} {l:List UInt8} {cap:Nat} (h:OwnAt w a l.length cap T.uint8 1 (l.map bv)) {ax:Option Addr} {xs:List UInt8} {cx:Nat} (hx:BytesAt w ax xs)
  (hb:l.length+xs.length≤140737488355232) {K:Option Addr→Nat→Nat→World→Prop}
  (hk:∀ a' c' w',Upd (fun b=>a=some ⟨b,0,none⟩) w w'→OwnAt w' a' (l ++ xs).length c' T.uint8 1 ((l ++ xs).map bv)→(a'=a∨∃ b,a'=some ⟨b,0,none⟩∧w.heap.size≤b)→K a' (l ++ xs).length c' w') :
  appendP T.uint8 1 1 [Value.int .u8 0] a l.length cap (.slice ax xs.length cx) w K:=by
 refine append_own h rfl (read_row hx (by simp)) (by simp) oneCell_bytes rfl (by omega) (by omega) fun a' c' w' hu ho hf=>?_
 have:=hk a' c' w' hu (by simpa [List.length_append] using ho) hf
 simpa [List.length_append] using this
theorem append_byte {w w₁:World} {a:Option Addr} {l:List UInt8} {cap:Nat} (h:OwnAt w a l.length cap T.uint8 1 (l.map bv)) {B:Nat} {x:UInt8} (hn:New w (.cells #[bv x] T.uint8) B w₁)
  (hb:l.length+1≤140737488355232) {K:Option Addr→Nat→Nat→World→Prop}
  (hk:∀ a' c' w',Upd (fun b=>a=some ⟨b,0,none⟩) w w'→OwnAt w' a' (l ++ [x]).length c' T.uint8 1 ((l ++ [x]).map bv)→(a'=a∨∃ b,a'=some ⟨b,0,none⟩∧w.heap.size≤b)→K a' (l ++ [x]).length c' w') :
  appendP T.uint8 1 1 [Value.int .u8 0] a l.length cap (.slice (some ⟨B,0,none⟩) 1 1) w₁ K:=by
 refine append_bytes (xs:=[x]) (cx:=1) (h.ext hn.upd) (RowAt.of hn.get fun j v hj=>by simpa using hj) (by simpa using hb) fun a' c' w' hu ho hf=>?_
 refine hk a' c' w' ((Upd.ext hn.upd).trans hu) ho ?_
 rcases hf with hf | ⟨b,hb',hs⟩
 ·exact .inl hf
 ·exact .inr ⟨b,hb',Nat.le_trans hn.upd.size hs⟩
theorem slice_from {size:Nat} {a:Option Addr} {len cap:Nat} {k:Int} {K:Option Addr→Nat→Nat→Prop} (h0:0≤k) (h1:k≤len) (h2:len≤cap)
  (hk:K (if cap=k.toNat then a else a.map (·.add (k.toNat * size))) (len - k.toNat) (cap - k.toNat)):sliceP size a len cap (some k) none none K:=by
 refine ⟨by simp,by simp,by simp,by simp;omega,by simpa using h0,by simpa using h1,by simp,?_⟩
 simpa using hk
theorem slice_bytes_from {w:World} {a:Option Addr} {l:List UInt8} {cap:Nat} (h:BytesAt w a l) {k:Int} {K:Option Addr→Nat→Nat→Prop} (h0:0≤k) (h1:k≤l.length) (h2:l.length≤cap)
  (hk:∀ a' c',BytesAt w a' (l.drop k.toNat)→(l.drop k.toNat).length≤c'→(a'=a∨a'=a.map (·.add k.toNat))→(cap=k.toNat→a'=a)→(cap≠k.toNat→a'=a.map (·.add k.toNat))→K a' (l.drop k.toNat).length c'):sliceP 1 a l.length cap (some k) none none K:=by
 refine slice_from h0 h1 h2 ?_
 rw [show l.length - k.toNat=(l.drop k.toNat).length by simp]
 refine hk _ _ ?_ (by simp;omega) ?_ ?_ ?_
 ·split
  ·rename_i hc
   have:l.drop k.toNat=[]:=List.drop_of_length_le (by omega)
   rw [this];exact BytesAt.nil _ _
  ·simpa using BytesAt.from h k.toNat
 ·split
  ·exact .inl rfl
  ·exact .inr (by simp)
 ·intro h;rw [if_pos h]
 ·intro h;rw [if_neg h];simp
theorem slice_bytes_to {w:World} {a:Option Addr} {l:List UInt8} {cap:Nat} (h:BytesAt w a l) {k:Int} {mx:Option Int} {K:Option Addr→Nat→Nat→Prop} (h0:0≤k) (h1:k≤l.length) (h2:l.length≤cap) (hm:mx=none∨mx=some k)
  (hk:∀ c',BytesAt w a (l.take k.toNat)→(l.take k.toNat).length≤c'→K a (l.take k.toNat).length c'):sliceP 1 a l.length cap none (some k) mx K:=by
 have e:(l.take k.toNat).length=k.toNat:=by simp;omega
 rcases hm with rfl | rfl
 ·refine ⟨by simp,by simp,by simpa using h0,by simp;omega,by simp,by simpa using h0,by simp,?_⟩
  have:=hk cap (BytesAt.take h _) (by omega)
  rw [e] at this
  have e2:(if (Option.getD none (cap:Int)).toNat=(Option.getD none (0:Int)).toNat then a else Option.map (fun x=>Addr.add x ((Option.getD none (0:Int)).toNat * 1)) a)=a:=by
   cases a<;>simp [add_zero]
  rw [e2]
  simpa using this
 ·refine ⟨by simpa using h0,by simp;omega,by simpa using h0,by simp,by simp,by simpa using h0,by simp,?_⟩
  have:=hk k.toNat (BytesAt.take h _) (by omega)
  rw [e] at this
  have e2:(if (Option.getD (some k) (cap:Int)).toNat=(Option.getD none (0:Int)).toNat then a else Option.map (fun x=>Addr.add x ((Option.getD none (0:Int)).toNat * 1)) a)=a:=by
   cases a<;>simp [add_zero]
  rw [e2]
  simpa using this
theorem slice_bytes_mid {w:World} {a:Option Addr} {l:List UInt8} {cap:Nat} (h:BytesAt w a l) {k m:Int} {mx:Option Int} {K:Option Addr→Nat→Nat→Prop} (h0:0≤k) (h1:k≤m) (hml:m≤l.length) (h2:l.length≤cap) (hm:mx=none∨mx=some m)
  (hk:∀ a' c',BytesAt w a' ((l.take m.toNat).drop k.toNat)→((l.take m.toNat).drop k.toNat).length≤c'→K a' ((l.take m.toNat).drop k.toNat).length c'):sliceP 1 a l.length cap (some k) (some m) mx K:=by
 have e:((l.take m.toNat).drop k.toNat).length=m.toNat - k.toNat:=by simp;omega
 have key:∀ M:Nat,m.toNat≤M→BytesAt w (if M=k.toNat then a else a.map (·.add (k.toNat * 1))) ((l.take m.toNat).drop k.toNat):=by
  intro M hM
  split
  ·rename_i hc
   have:(l.take m.toNat).drop k.toNat=[]:=List.drop_of_length_le (by simp;omega)
   rw [this];exact BytesAt.nil _ _
  ·simpa using BytesAt.from (BytesAt.take h m.toNat) k.toNat
 rcases hm with rfl | rfl
 ·refine ⟨by simp,by simp,by simp;omega,by simp;omega,by simpa using h0,by simpa using h1,by simp,?_⟩
  have:=hk _ (cap - k.toNat) (key cap (by omega)) (by omega)
  rw [e] at this
  simpa using this
 ·refine ⟨by simp;omega,by simp;omega,by simp;omega,by simp,by simpa using h0,by simpa using h1,by simp,?_⟩
  have:=hk _ (m.toNat - k.toNat) (key m.toNat (Nat.le_refl _)) (by omega)
  rw [e] at this
  simpa using this
def leB (n:Nat):Nat→List UInt8
 | 0=>[]
 | k+1=>UInt8.ofNat (n % 256) :: leB (n / 256) k
def fromLE:List UInt8→Nat
 | []=>0
 | b :: l=>b.toNat+256 * fromLE l
theorem leB_length (k:Nat):∀ n,(leB n k).length=k:=by
 induction k with
 | zero=>intro n;rfl
 | succ k ih=>intro n;simp [leB,ih]
theorem leB_getD (k:Nat):∀ n i,i<k→(leB n k)[i]?=some (UInt8.ofNat (n / 256 ^ i % 256)):=by
 induction k with
 | zero=>intro n i h;omega
 | succ k ih =>
  intro n i h
  cases i with
  | zero=>simp [leB]
  | succ i=>simp [leB];rw [ih _ _ (by omega),Nat.div_div_eq_div_mul,Nat.pow_succ,Nat.mul_comm]
theorem fromLE_lt (l:List UInt8):fromLE l<256 ^ l.length:=by
 induction l with
 | nil=>simp [fromLE]
 | cons b l ih=>have:=b.toNat_lt;simp only [fromLE,List.length_cons,Nat.pow_succ];omega
theorem fromLE_leB (k:Nat):∀ n,n<256 ^ k→fromLE (leB n k)=n:=by
 induction k with
 | zero=>intro n h;simp at h;simp [leB,fromLE,h]
 | succ k ih =>
  intro n h
  rw [Nat.pow_succ] at h
  simp only [leB,fromLE]
  rw [ih (n / 256) (by omega)]
  simp
  omega
theorem leB_fromLE (l:List UInt8):leB (fromLE l) l.length=l:=by
 induction l with
 | nil=>rfl
 | cons b l ih =>
  have:=b.toNat_lt
  simp only [fromLE,List.length_cons,leB]
  rw [show (b.toNat+256 * fromLE l) / 256=fromLE l by omega,show (b.toNat+256 * fromLE l) % 256=b.toNat by omega,ih]
  simp
theorem fromLE_append (l m:List UInt8):fromLE (l ++ m)=fromLE l+256 ^ l.length * fromLE m:=by
 induction l with
 | nil=>simp [fromLE]
 | cons b l ih=>simp only [List.cons_append,fromLE,ih,List.length_cons,Nat.pow_succ];rw [Nat.mul_add,Nat.add_assoc,← Nat.mul_assoc,Nat.mul_comm 256 (256 ^ _)]
def isSz (n:Int):Bool:=n == 1 || n == 2 || n == 4 || n == 8
theorem ends_isSize_spec (n:Int) (w:World):CallsR prog K.ends_isSize #[.int .i64 n] w fun v w'=>v= .bool (isSz n)∧w'=w:=by
 apply ends_isSize.sh
 unfold ends_isSize.body isSz
 refine br_eq (fun h=>?_) fun h=>br_eq (fun h=>?_) fun h=>br_eq (fun h=>?_) fun h=>?_<;>simp [*]
theorem isSz_cases {k:Nat} (h:isSz k=true):k=1∨k=2∨k=4∨k=8:=by
 simp [isSz] at h;omega
theorem pow256 {k:Nat} (h:isSz k=true):(256:Nat) ^ k≤18446744073709551616:=by
 rcases isSz_cases h with rfl | rfl | rfl | rfl<;>decide
theorem pow_shift (i:Nat):(2:Int) ^ (8 * i)=((256 ^ i:Nat):Int):=by
 rw [Int.pow_mul];norm_cast
theorem shr_byte (n i:Nat) (hi:i<8):Int.fdiv n (2 ^ (min (Int.toNat (8 * (i:Int))) 64))=((n / 256 ^ i:Nat):Int):=by
 have e1:(8 * (i:Int)).toNat=8 * i:=by omega
 have e2:min (8 * i) 64=8 * i:=by omega
 rw [e1,e2,pow_shift,Int.fdiv_eq_ediv_of_nonneg _ (by exact Int.natCast_nonneg _)]
 exact (Int.natCast_ediv _ _).symm
theorem zeros_bytes (k:Nat):zerosL [Value.int .u8 0] k=List.replicate k (Value.int .u8 0):=by
 induction k with
 | zero=>rfl
 | succ m ih=>simp [zerosL,ih,List.replicate_succ]
theorem bv_mod (m:Nat):Value.int .u8 (IntKind.u8.wrap (m:Int))=bv (UInt8.ofNat (m % 256)):=by
 rw [wu8_mod]
 simp
theorem ends_Put_own (n k:Nat) (w:World) (hk:isSz k=true) (hn:n<256 ^ k) :
  CallsR prog K.ends_Put #[.int .u64 n,.int .i64 k] w fun v w'=>∃ a c,v= .tuple #[.slice a k c,.int .i64 0]∧OwnAt w' a k c T.uint8 1 ((leB n k).map bv)∧Fresh w a∧Ext w w':=by
 have hk8:k≤8:=by rcases isSz_cases hk with rfl | rfl | rfl | rfl<;>omega
 have hn64:=Nat.lt_of_lt_of_le hn (pow256 hk)
 apply ends_Put.sh
 refine ⟨fun u=>u=w,?_,?_⟩
 ·refine (ends_isSize_spec _ w).mono ?_
  rintro _ _ ⟨rfl,rfl⟩
  refine ⟨_,rfl,?_⟩
  rw [hk]
  simp only [Bool.not_true,br_false]
  refine br_dec (fun h8=>?_) fun h8=>trivial
  have h8':k<8:=by omega
  rw [w64 (by omega) (by omega),wu64 (by omega) (by omega)]
  refine ⟨by omega,br_ne (fun hne=>?_) fun _=>trivial⟩
  exfalso
  apply hne
  simp only [bits_u64]
  rw [shr_byte n k h8',Nat.div_eq_of_lt hn]
  rfl
 ·rintro w' rfl
  refine ⟨by omega,by omega,by omega,by omega,rfl,fun b w₁ hnew=>?_⟩
  rw [zeros_bytes,Int.toNat_natCast] at hnew
  refine ⟨fun x w₂=>∃ i:Nat,x=i∧i≤k∧Ext w' w₂∧w₂.heap[b]?=some (.cells (((leB n k).map bv).take i ++ (List.replicate k (Value.int .u8 0)).drop i).toArray T.uint8 (0,0)),fun x _=>((k:Int) - x).toNat,
   ⟨0,rfl,by omega,hnew.upd,by simpa using hnew.get⟩,?_⟩
  rintro x w₂ ⟨i,rfl,hi,hext,hb⟩
  refine br_dec (fun hlt=>?_) fun hge=>?_
  ·simp only [Int.toNat_natCast] at hlt
   have hlt':i<k:=by omega
   have hl:i<((leB n k).map bv).length:=by simp [leB_length];exact hlt'
   rw [w64 (by omega) (by omega),wu64 (by omega) (by omega)]
   refine ⟨by omega,by omega,by simp;omega,?_⟩
   simp only [nilC_some',add_lit,Nat.mul_one,Nat.zero_add,Int.toNat_natCast,bits_u64]
   refine store_of hb (by simp [leB_length];omega) fun w₃ hput=>?_
   have hval:Value.int .u8 (IntKind.u8.wrap (Int.fdiv n (2 ^ (min (Int.toNat (8 * (i:Int))) 64))))=((leB n k).map bv)[i]:=by
    rw [shr_byte n i (by omega),bv_mod]
    have:=leB_getD k n i hlt'
    have e:=(List.getElem?_eq_some_iff.1 this).2
    simp only [List.getElem_map]
    rw [e]
   rw [hval,fill_step _ _ _ hl (by simp [leB_length])] at hput
   rw [w64 (by omega) (by omega)]
   refine ⟨⟨i+1,by omega,by omega,Put.upd hext hput (.inl (by rw [hnew.num];exact Nat.le_refl _)),hput.get⟩,by omega⟩
  ·simp only [Int.toNat_natCast] at hge
   have:i=k:=by omega
   subst this
   have hfull:(((leB n i).map bv).take i ++ (List.replicate i (Value.int .u8 0)).drop i)=(leB n i).map bv:=by
    rw [List.take_of_length_le (by simp [leB_length]),List.drop_eq_nil_of_le (by simp),List.append_nil]
   rw [hfull] at hb
   refine ⟨_,i,rfl,⟨by simp [leB_length],Nat.le_refl _,.inr ⟨b,_,rfl,hb,by simp [leB_length],?_⟩⟩,Fresh.some (by rw [hnew.num];exact Nat.le_refl _),hext⟩
   rw [List.take_of_length_le (by simp [leB_length])]
theorem ends_Put_spec (n k:Nat) (w:World) (hk:isSz k=true) (hn:n<256 ^ k) :
  CallsR prog K.ends_Put #[.int .u64 n,.int .i64 k] w fun v w'=>∃ a c,v= .tuple #[.slice a k c,.int .i64 0]∧BytesAt w' a (leB n k)∧Fresh w a∧Ext w w':=by
 refine (ends_Put_own n k w hk hn).mono ?_
 rintro v w' ⟨a,c,rfl,ho,hf,he⟩
 exact ⟨a,c,rfl,ho.row,hf,he⟩
structure ReaderIn (G:Nat→Prop) (w:World) (r:Nat) (l:List UInt8) (no:Bool):Prop where
 at_:∃ a c,w.heap[r]?=some (.cells #[.bool true,.slice a l.length c,.bool no] T.ends_Reader (0,0))∧BytesAt w a l∧l.length≤c∧∀ p,a=some p→G p.block
abbrev ReaderAt (w:World) (r:Nat) (l:List UInt8) (no:Bool):Prop:=ReaderIn (·≠r) w r l no
theorem ReaderIn.mono {G G':Nat→Prop} {w:World} {r:Nat} {l:List UInt8} {no:Bool} (h:ReaderIn G w r l no) (hg:∀ x,G x→G' x):ReaderIn G' w r l no:=by
 obtain ⟨a,c,hr,hb,hc,hn⟩:=h.at_
 exact ⟨a,c,hr,hb,hc,fun p hp=>hg _ (hn p hp)⟩
theorem clone_le (n:Nat):Builtin.nextslicecap n 0=n∨n=0:=by
 unfold Builtin.nextslicecap
 by_cases h:n > 2 * 0
 ·left;rw [if_pos h]
 ·right;omega
theorem append_copy {a:Option Addr} {l:List UInt8} {c:Nat} {w:World} (hl:BytesAt w a l) (hn:l.length≤281474976710656) {K:Option Addr→Nat→Nat→World→Prop}
  (hk:∀ a' c' w',Ext w w'→BytesAt w' a' l→l.length≤c'→(∀ p,a'=some p→w.heap.size≤p.block)→(l=[]→a'=none)→K a' l.length c' w') :
  appendP T.uint8 1 1 [Value.int .u8 0] none 0 0 (Value.slice a l.length c) w K:=by
 refine ⟨l.length,rfl,l.map bv,?_,?_,?_,?_⟩
 ·unfold readP
  cases l with
  | nil=>cases a<;>simp [cellsAt]
  | cons b l =>
   obtain ⟨b',o,rfl,_⟩:=RowAt.blk hl (by simp)
   exact ⟨by simp,hl.cells⟩
 ·intro v hv
  simp at hv
  obtain ⟨x,_,rfl⟩:=hv
  rfl
 ·intro h
  have:l=[]:=List.eq_nil_of_length_eq_zero (by omega)
  subst this
  exact hk none 0 w (Upd.refl _ _) (RowAt.nil _ _) (by simp) (by simp) (by simp)
 ·intro h
  refine ⟨by omega,?_,[],rfl,?_⟩
  ·rcases clone_le l.length with h' | h'
   ·simp only [Nat.zero_add];rw [h'];omega
   ·omega
  ·intro cap b w' hcap _ hnew
   have e:Ext w w':=(drew_upd w).trans hnew.upd
   simp only [Nat.zero_add] at hcap ⊢
   refine hk (some ⟨b,0,none⟩) cap w' e (RowAt.of hnew.get fun j v hj=>?_) hcap ?_ ?_
   ·have hlt:=(List.getElem?_eq_some_iff.1 hj).1
    simp only [List.nil_append,Nat.zero_add,List.getElem?_toArray]
    rw [List.getElem?_append_left hlt]
    exact hj
   ·rintro p hp
    cases hp
    rw [hnew.num]
    exact Nat.le_refl _
   ·rintro rfl
    simp at h
theorem ends_New_in (a:Option Addr) (l:List UInt8) (c:Nat) (w:World) (hl:BytesAt w a l) (hn:l.length≤281474976710656) :
  CallsR prog K.ends_New #[.slice a l.length c] w fun v w'=>∃ r,v= .pointer (some ⟨r,0,none⟩)∧w.heap.size≤r∧ReaderIn (fun x=>w.heap.size≤x∧x<r) w' r l false∧Ext w w':=by
 apply ends_New.sh
 unfold ends_New.body
 refine append_copy hl hn fun a' c' w₁ e hb hc hfr hnil r w₂ hnew=>?_
 refine ⟨r,rfl,?_,⟨a',c',hnew.get,hb.ext hnew.upd,hc,?_⟩,e.trans hnew.upd⟩
 ·rw [hnew.num];exact e.size
 ·rintro p rfl
  refine ⟨hfr p rfl,?_⟩
  rw [hnew.num]
  by_cases hl0:l=[]
  ·exact absurd (hnil hl0) (by simp)
  ·obtain ⟨b,o,hab,hlt⟩:=RowAt.blk hb (by simpa using hl0)
   cases hab
   exact hlt
theorem ends_New_spec (a:Option Addr) (l:List UInt8) (c:Nat) (w:World) (hl:BytesAt w a l) (hn:l.length≤281474976710656) :
  CallsR prog K.ends_New #[.slice a l.length c] w fun v w'=>∃ r,v= .pointer (some ⟨r,0,none⟩)∧w.heap.size≤r∧ReaderAt w' r l false∧Ext w w' :=
 (ends_New_in a l c w hl hn).mono fun v w' ⟨r,h1,h2,h3,h4⟩=>⟨r,h1,h2,h3.mono fun x hx=>by omega,h4⟩
theorem ends_Reader_off_spec {G:Nat→Prop} (r:Nat) (l:List UInt8) (no:Bool) (w:World) (h:ReaderIn G w r l no) :
  CallsR prog K.ends_Reader_off #[.pointer (some ⟨r,0,none⟩)] w fun v w'=>v= .bool false∧w'=w:=by
 obtain ⟨a,c,hr,_⟩:=h.at_
 apply ends_Reader_off.sh
 simp only [ends_Reader_off.body,Option.isNone_some,br_false,nilC_some']
 exact ⟨true,cell_of hr rfl,rfl,trivial⟩
theorem ends_Reader_cut_in {G:Nat→Prop} (r k:Nat) (l:List UInt8) (no:Bool) (w:World) (hG:¬ G r) (h:ReaderIn G w r l no) :
  CallsR prog K.ends_Reader_cut #[.pointer (some ⟨r,0,none⟩),.int .i64 k] w fun v w'=>Upd (·=r) w w'∧
   if no=true∨l.length<k then v= .tuple #[.slice none 0 0,.int .i64 4]∧ReaderIn G w' r l true
   else ∃ a c,v= .tuple #[.slice a k c,.int .i64 0]∧BytesAt w' a (l.take k)∧ReaderIn G w' r (l.drop k) false:=by
 obtain ⟨a,c,hr,hb,hlc,hne⟩:=h.at_
 apply ends_Reader_cut.sh
 simp only [ends_Reader_cut.body,nilC_some',add_lit,Nat.zero_add]
 refine ⟨no,cell_of hr rfl,?_⟩
 have hno:∀ w',Put w r (.cells (splice #[Value.bool true,Value.slice a l.length c,Value.bool no] 2 [Value.bool true]) T.ends_Reader (0,0)) w'→ReaderIn G w' r l true:=by
  intro w' hput
  refine ⟨a,c,hput.get,RowAt.upd hb hput.upd1 fun p hp e=>hG (e ▸ hne p hp),hlc,hne⟩
 cases no with
 | true =>
  simp only [br_true]
  refine store_of hr (by simp) fun w' hput=>⟨hput.upd1,?_⟩
  simp only [true_or,if_true]
  exact ⟨trivial,hno w' hput⟩
 | false =>
  simp only [br_false]
  refine ⟨a,l.length,c,cell_of hr rfl,br_dec (fun hlt=>?_) fun hge=>?_⟩
  ·refine store_of hr (by simp) fun w' hput=>⟨hput.upd1,?_⟩
   have:l.length<k:=by omega
   simp only [this,or_true,if_true]
   exact ⟨trivial,hno w' hput⟩
  ·have hk:k≤l.length:=by omega
   refine ⟨a,l.length,c,cell_of hr rfl,?_⟩
   refine ⟨by simp,by simp;omega,by simp,by simp,by simp,by simp,by simp,a,l.length,c,cell_of hr rfl,?_⟩
   refine ⟨by simp,by simp,by simp,by simp;omega,by simp,by simp;omega,by simp,?_⟩
   refine store_of hr (by simp) fun w' hput=>⟨hput.upd1,?_⟩
   have hnk:¬ (false=true∨l.length<k):=by simp;omega
   rw [if_neg hnk]
   have hb':BytesAt w' a l:=RowAt.upd hb hput.upd1 fun p hp e=>hG (e ▸ hne p hp)
   refine ⟨_,_,rfl,?_,?_⟩
   ·simp only [Option.getD_some,Option.getD_none,Int.toNat_natCast,Int.toNat_zero,Nat.zero_mul]
    have e:(if k=0 then a else Option.map (fun x=>Addr.add x 0) a)=a:=by
     cases a<;>simp [add_zero]
    rw [e]
    exact BytesAt.take hb' k
   ·simp only [Option.getD_some,Option.getD_none,Int.toNat_natCast,Nat.mul_one] at hput ⊢
    by_cases hck:c=k
    ·have hlk:l.length=k:=by omega
     rw [if_pos hck] at hput
     have hd:l.drop k=[]:=List.drop_of_length_le (by omega)
     refine ⟨a,c - k,?_,by rw [hd];exact RowAt.nil _ _,by simp;omega,hne⟩
     rw [hput.get]
     simp [splice]
    ·rw [if_neg hck] at hput
     refine ⟨a.map (·.add k),c - k,?_,?_,by simp;omega,?_⟩
     ·rw [hput.get]
      simp [splice]
     ·exact BytesAt.from hb' k
     ·intro p hp
      cases ha:a with
      | none=>simp [ha] at hp
      | some q =>
       simp [ha] at hp
       subst hp
       have:=hne q ha
       simp only [Addr.add]
       split<;>exact this
theorem fromLE_take_succ (l:List UInt8) (i:Nat) (h:i<l.length):fromLE (l.take (i+1))=fromLE (l.take i)+256 ^ i * (l.getD i 0).toNat:=by
 rw [List.take_succ_eq_append_getElem h,fromLE_append,List.length_take,Nat.min_eq_left (by omega)]
 simp [fromLE,List.getD,h]
theorem or_add (a b i:Nat) (ha:a<256 ^ i) (hb:b<256) (hi:i<8) :
  IntKind.u64.wrap (((BitVec.ofInt (IntKind.bits .u64) (a:Int) ||| BitVec.ofInt (IntKind.bits .u64) (IntKind.u64.wrap ((IntKind.u64.wrap (b:Int)) * 2 ^ (min (Int.toNat (IntKind.u64.wrap (IntKind.i64.wrap (8 * (i:Int))))) (IntKind.bits .u64))))).toNat:Nat):Int)=((a+256 ^ i * b:Nat):Int):=by
 show IntKind.u64.wrap (((BitVec.ofInt 64 (a:Int) ||| BitVec.ofInt 64 (IntKind.u64.wrap ((IntKind.u64.wrap (b:Int)) * 2 ^ (min (Int.toNat (IntKind.u64.wrap (IntKind.i64.wrap (8 * (i:Int))))) 64)))).toNat:Nat):Int)=((a+256 ^ i * b:Nat):Int)
 have e0:(256:Nat) ^ i=2 ^ (8 * i):=by rw [Nat.pow_mul]
 have h8:(256:Nat) ^ (i+1)≤256 ^ 8:=Nat.pow_le_pow_right (by omega) (by omega)
 rw [Nat.pow_succ] at h8
 have h88:(256:Nat) ^ 8=18446744073709551616:=by decide
 have hab:256 ^ i * b<18446744073709551616:=by
  have:256 ^ i * b<256 ^ i * 256:=Nat.mul_lt_mul_of_pos_left hb (Nat.pow_pos (by omega))
  omega
 have hsum:a+256 ^ i * b<18446744073709551616:=by
  have:256 ^ i * b+256 ^ i≤256 ^ i * 256:=by
   rw [← Nat.mul_succ];exact Nat.mul_le_mul_left _ (by omega)
  omega
 have q1:IntKind.i64.wrap (8 * (i:Int))=8 * i:=w64 (by omega) (by omega)
 have q2:IntKind.u64.wrap (8 * (i:Int))=8 * i:=wu64 (by omega) (by omega)
 have q3:IntKind.u64.wrap (b:Int)=b:=wu64 (by omega) (by omega)
 rw [q1,q2,q3]
 have e1:(8 * (i:Int)).toNat=8 * i:=by omega
 have e2:min (8 * i) 64=8 * i:=by omega
 rw [e1,e2,pow_shift]
 have e3:(b:Int) * ((256 ^ i:Nat):Int)=((256 ^ i * b:Nat):Int):=by rw [Nat.mul_comm];exact (Int.natCast_mul _ _).symm
 have q4:IntKind.u64.wrap ((256 ^ i * b:Nat):Int)=((256 ^ i * b:Nat):Int):=wu64 (Int.natCast_nonneg _) (by omega)
 rw [e3,q4]
 have e4:∀ n:Nat,n<18446744073709551616→(BitVec.ofInt 64 (n:Int)).toNat=n:=by
  intro n hn
  rw [BitVec.ofInt_natCast,BitVec.toNat_ofNat]
  exact Nat.mod_eq_of_lt hn
 rw [BitVec.toNat_or,e4 a (by omega),e4 _ hab]
 have e5:a ||| 256 ^ i * b=a+256 ^ i * b:=by
  rw [e0,Nat.or_comm,Nat.add_comm,Nat.two_pow_add_eq_or_of_lt (by rw [← e0];exact ha)]
 rw [e5,wu64 (Int.natCast_nonneg _) (by omega)]
theorem ends_Reader_Take_in {G:Nat→Prop} (r k:Nat) (l:List UInt8) (no:Bool) (w:World) (hk:isSz k=true) (hG:¬ G r) (h:ReaderIn G w r l no) :
  CallsR prog K.ends_Reader_Take #[.pointer (some ⟨r,0,none⟩),.int .i64 k] w fun v w'=>Upd (·=r) w w'∧
   if no=true∨l.length<k then v= .tuple #[.int .u64 0,.int .i64 4]∧ReaderIn G w' r l true
   else v= .tuple #[.int .u64 (fromLE (l.take k)),.int .i64 0]∧ReaderIn G w' r (l.drop k) false:=by
 have hk8:k≤8:=by rcases isSz_cases hk with rfl | rfl | rfl | rfl<;>omega
 apply ends_Reader_Take.sh
 unfold ends_Reader_Take.body
 refine (ends_Reader_off_spec r l no w h).mono ?_
 rintro _ _ ⟨rfl,rfl⟩
 refine ⟨_,rfl,?_⟩
 rw [br_false]
 refine (ends_isSize_spec _ _).mono ?_
 rintro _ w ⟨rfl,rfl⟩
 refine ⟨_,rfl,?_⟩
 rw [hk]
 simp only [Bool.not_true,br_false]
 refine (ends_Reader_cut_in r k l no w hG h).mono ?_
 rintro v w₁ ⟨hupd,hv⟩
 split at hv
 ·rename_i hc
  obtain ⟨rfl,hr⟩:=hv
  refine ⟨_,_,_,_,rfl,fun x y u=>x=0∧y=0∧u=w₁,fun _ _ _=>0,⟨rfl,rfl,rfl⟩,?_⟩
  rintro x y u ⟨rfl,rfl,rfl⟩
  simp only [Int.natCast_zero,Int.lt_irrefl,decide_false,br_false]
  rw [if_pos hc]
  exact ⟨hupd,trivial,hr⟩
 ·rename_i hc
  obtain ⟨a,c,rfl,hb,hr⟩:=hv
  have hkl:k≤l.length:=by
   rcases Nat.lt_or_ge l.length k with h' | h'
   ·exact absurd (.inr h') hc
   ·exact h'
  have hlen:(l.take k).length=k:=by simp;omega
  refine ⟨_,_,_,_,rfl,fun x y u=>∃ i:Nat,y=i∧i≤k∧x=(fromLE ((l.take k).take i):Nat)∧u=w₁,fun _ y _=>((k:Int) - y).toNat,⟨0,rfl,by omega,rfl,rfl⟩,?_⟩
  rintro x y u ⟨i,rfl,hi,rfl,rfl⟩
  refine br_dec (fun hlt=>?_) fun hge=>?_
  ·have hlt':i<k:=by omega
   have hb':=hb
   rw [show k=(l.take k).length from hlen.symm]
   refine idx_byte hb (by omega) (by omega) ?_
   rw [hlen]
   simp only [Int.toNat_natCast]
   have hlt2:=fromLE_lt ((l.take k).take i)
   have hi2:((l.take k).take i).length=i:=by simp;omega
   rw [hi2] at hlt2
   rw [or_add _ _ i hlt2 (UInt8.toNat_lt _) (by omega),← fromLE_take_succ _ i (by omega)]
   refine ⟨by rw [w64 (by omega) (by omega),wu64 (by omega) (by omega)];omega,?_,?_⟩
   ·rw [w64 (by omega) (by omega)]
    exact ⟨i+1,by omega,by omega,rfl,by trivial⟩
   ·rw [w64 (by omega) (by omega)];omega
  ·have:i=k:=by omega
   subst this
   rw [if_neg hc,List.take_of_length_le (by omega)]
   exact ⟨hupd,rfl,hr⟩
theorem ends_Reader_Take_spec (r k:Nat) (l:List UInt8) (no:Bool) (w:World) (hk:isSz k=true) (h:ReaderAt w r l no) :
  CallsR prog K.ends_Reader_Take #[.pointer (some ⟨r,0,none⟩),.int .i64 k] w fun v w'=>Upd (·=r) w w'∧
   if no=true∨l.length<k then v= .tuple #[.int .u64 0,.int .i64 4]∧ReaderAt w' r l true
   else v= .tuple #[.int .u64 (fromLE (l.take k)),.int .i64 0]∧ReaderAt w' r (l.drop k) false:=ends_Reader_Take_in r k l no w hk (fun h=>h rfl) h
end Go.Den
