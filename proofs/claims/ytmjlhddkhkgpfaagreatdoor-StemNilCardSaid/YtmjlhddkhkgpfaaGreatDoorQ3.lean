/- Contracts of layer 4 (pool): off, alive, look, try. (Merged and shortened by program: Sh10 ShAll Rep Rep2 SEnds SEnds2 SSeal SSeal2 MNand RNand SNand SNand2 SNand3 SNand4 SNand5 SNand6 SNand7 SNand8 SRef SRef2 SHead SHead2 Rep3 MPool RPool SPool.) -/
import Derived.Test.YtmjlhddkhkgpfaaGreatDoorQ2
set_option linter.unusedVariables false
set_option linter.unusedSimpArgs false
set_option maxRecDepth 20000
open Go.IntKind (i64 u64 u32 u8)
namespace Go.Den
section
set_option maxRecDepth 100000
open Go.Proofs
def cmp_Compare_string.body (x:ByteArray) (y:ByteArray) (w:World) (R:RT):Prop :=
 CallsR prog K.cmp_isNaN_string #[.string x] w fun v1 w1=>∃ b1,v1= .bool b1/\CallsR prog K.cmp_isNaN_string #[.string y] w1 fun v2 w2=>∃ b2,v2= .bool b2/\br b1 (br b2 (R (.int .i64 0) w2) (R (.int .i64 (-1)) w2)) (br b2 (R (.int .i64 1) w2) (br (Op.bytesLess x.toList y.toList) (R (.int .i64 (-1)) w2) (br (!(Op.bytesLess x.toList y.toList || (x.toList == y.toList))) (R (.int .i64 1) w2) (R (.int .i64 0) w2))))
theorem cmp_Compare_string.sh {x y w R} (h:cmp_Compare_string.body x y w R) :
  CallsR prog K.cmp_Compare_string #[.string x,.string y] w R:=calls_body follows Tryz.func207 ([]) ([]) (Eq.mp (by kernel_rfl) h)
def shape_cut.body (y0a:Int) (y1a:Option Addr) (y1aL y1aC:Nat) (y2a:Value) (y3a:Int) (w:World) (R:RT):Prop :=
 CallsR prog K.seal_Body #[.int .i64 y0a] w fun v1 w1=>∃ x1,v1= .int .i64 x1/\br (decide ((i64.wrap (x1 - 1))<0)) (R (.tuple #[.slice none 0 0,.int .i64 2]) w1) (∃ (J1:Int->World->Prop) (μ1:Int->World->Nat),J1 0 w1/\∀ x2:Int,∀ w2:World,J1 x2 w2->br (decide (x2<((y1aL:Nat):Int))) (∃ J2:World->Prop,(idxP y1a y1aL x2 4 fun q1=>∃ x3 x4 s1 x5,cellsAt w2 q1 [.int .i64 x3,.int .u8 x4,.string s1,.int .i64 x5] 0/\∀ B1 w3,New w2 (.cells #[.int .i64 0,.int .u8 0,.string EB,.int .i64 0] T.api_Key) B1 w3->storeP w3 ⟨B1,0,none⟩ [.int .i64 x3,.int .u8 x4,.string s1,.int .i64 x5] fun w4=>∀ w5:World,Drew w4 w5->∃ S1:World->Prop,S1 w5/\∃ x6 x7 s2 x8,(∀ u1,S1 u1->cellsAt u1 ⟨B1,0,none⟩ [.int .i64 x6,.int .u8 x7,.string s2,.int .i64 x8] 0)/\CallsR prog K.fact_MayKey #[.agg #[.int .i64 x6,.int .u8 x7,.string s2,.int .i64 x8]] w5 fun v2 w6=>∃ b1,v2= .bool b1/\S1 w6/\br (!b1) (S1 w6/\R (.tuple #[.slice none 0 0,.int .i64 2]) w6) (br (decide (x2 > 0)) (idxP y1a y1aL (i64.wrap (x2 - 1)) 4 fun q2=>∃ x9 x10 s3 x11,(∀ u2,S1 u2->cellsAt u2 q2 [.int .i64 x9,.int .u8 x10,.string s3,.int .i64 x11] 0)/\∃ x12 x13 s4 x14,(∀ u3,S1 u3->cellsAt u3 ⟨B1,0,none⟩ [.int .i64 x12,.int .u8 x13,.string s4,.int .i64 x14] 0)/\CallsR prog K.fact_Before #[.agg #[.int .i64 x9,.int .u8 x10,.string s3,.int .i64 x11],.agg #[.int .i64 x12,.int .u8 x13,.string s4,.int .i64 x14]] w6 fun v3 w7=>∃ b2,v3= .bool b2/\S1 w7/\br (!b2) (R (.tuple #[.slice none 0 0,.int .i64 2]) w7) (J2 w7)) (S1 w6/\J2 w6)))/\(∀ w8:World,J2 w8->J1 (i64.wrap (x2+1)) w8/\μ1 (i64.wrap (x2+1)) w8 < μ1 x2 w2)) (∃ (J3:Option Addr->Nat->Nat->Int->Int->Int->World->Prop) (μ2:Option Addr->Nat->Nat->Int->Int->Int->World->Nat),J3 none 0 0 0 (i64.wrap (x1 - 1)) 0 w2/\∀ (a1:Option Addr) (l1 c1:Nat),∀ x15:Int,∀ x16:Int,∀ x17:Int,∀ w9:World,J3 a1 l1 c1 x15 x16 x17 w9->br (decide (x17<((y1aL:Nat):Int))) (idxP y1a y1aL x17 4 fun q3=>∃ x18 x19 s5 x20,cellsAt w9 q3 [.int .i64 x18,.int .u8 x19,.string s5,.int .i64 x20] 0/\∀ B2 w10,New w9 (.cells #[.int .i64 0,.int .u8 0,.string EB,.int .i64 0] T.api_Key) B2 w10->storeP w10 ⟨B2,0,none⟩ [.int .i64 x18,.int .u8 x19,.string s5,.int .i64 x20] fun w11=>callT y2a [.int .i64 x17] w11 fun v4 w12=>∃ x21,v4= .int .i64 x21/\br (decide (x21 > (i64.wrap (x1 - 1)))) (R (.tuple #[.slice none 0 0,.int .i64 3]) w12) (∃ J4:Option Addr->Nat->Nat->Int->Int->World->Prop,(br (decide (x21 > x16)) (∀ B3 w13,New w12 (.cells #[.int .i64 x15] T.int) B3 w13->appendP T.int 1 8 [.int .i64 0] a1 l1 c1 (.slice (some ⟨B3,0,none⟩) 1 1) w13 fun a2 l2 c2 w14=>J4 a2 l2 c2 0 (i64.wrap (x1 - 1)) w14) (br (x15 == 255) (∀ B4 w15,New w12 (.cells #[.int .i64 x15] T.int) B4 w15->appendP T.int 1 8 [.int .i64 0] a1 l1 c1 (.slice (some ⟨B4,0,none⟩) 1 1) w15 fun a3 l3 c3 w16=>J4 a3 l3 c3 0 (i64.wrap (x1 - 1)) w16) (J4 a1 l1 c1 x15 x16 w12)))/\(∀ (a4:Option Addr) (l4 c4:Nat),∀ x22:Int,∀ x23:Int,∀ w17:World,J4 a4 l4 c4 x22 x23 w17->br (decide ((i64.wrap (x22+1))≥y3a)) (∃ x24 x25 s6 x26,cellsAt w17 ⟨B2,0,none⟩ [.int .i64 x24,.int .u8 x25,.string s6,.int .i64 x26] 0/\CallsR prog K.shape_End #[.agg #[.int .i64 x24,.int .u8 x25,.string s6,.int .i64 x26]] w17 fun v5 w18=>∃ b3,v5= .bool b3/\br b3 (∀ B5 w19,New w18 (.cells #[.int .i64 (i64.wrap (x22+1))] T.int) B5 w19->appendP T.int 1 8 [.int .i64 0] a4 l4 c4 (.slice (some ⟨B5,0,none⟩) 1 1) w19 fun a5 l5 c5 w20=>J3 a5 l5 c5 0 (i64.wrap (x1 - 1)) (i64.wrap (x17+1)) w20/\μ2 a5 l5 c5 0 (i64.wrap (x1 - 1)) (i64.wrap (x17+1)) w20 < μ2 a1 l1 c1 x15 x16 x17 w9) (J3 a4 l4 c4 (i64.wrap (x22+1)) (i64.wrap (x23 - x21)) (i64.wrap (x17+1)) w18/\μ2 a4 l4 c4 (i64.wrap (x22+1)) (i64.wrap (x23 - x21)) (i64.wrap (x17+1)) w18 < μ2 a1 l1 c1 x15 x16 x17 w9)) (J3 a4 l4 c4 (i64.wrap (x22+1)) (i64.wrap (x23 - x21)) (i64.wrap (x17+1)) w17/\μ2 a4 l4 c4 (i64.wrap (x22+1)) (i64.wrap (x23 - x21)) (i64.wrap (x17+1)) w17 < μ2 a1 l1 c1 x15 x16 x17 w9)))) (br (decide (x15 > 0)) (∀ B6 w21,New w9 (.cells #[.int .i64 x15] T.int) B6 w21->appendP T.int 1 8 [.int .i64 0] a1 l1 c1 (.slice (some ⟨B6,0,none⟩) 1 1) w21 fun a6 l6 c6 w22=>R (.tuple #[.slice a6 l6 c6,.int .i64 0]) w22) (R (.tuple #[.slice a1 l1 c1,.int .i64 0]) w9))))
theorem shape_cut.sh {y0a y1a y1aL y1aC y2a y3a w R} (h:shape_cut.body y0a y1a y1aL y1aC y2a y3a w R) :
  CallsR prog K.shape_cut #[.int .i64 y0a,.slice y1a y1aL y1aC,y2a,.int .i64 y3a] w R:=calls_body follows Tryz.func209 ([(9,[1,2,3,10,24,25,26],[],[]),(21,[2,3,10,17,18,50,51,52],[13,14,15],[.slice none 0 0,.int .i64 0,.int .i64 0])]) ([(5,[1,2,3,10,24,25],[26],[.int .i64 0]),(13,[2,3,10,50,51],[13,14,15,52],[.slice none 0 0,.int .i64 0,.int .i64 0,.int .i64 0])]) (Eq.mp (by kernel_rfl) h)
def shape_Leaves_1.body (i:Int) (y1a:Addr) (w:World) (R:RT):Prop :=
 ∃ a1 l1 c1,w.cell? y1a=some (.slice a1 l1 c1)/\idxP a1 l1 i 5 fun q1=>∃ x1 x2 s1 x3 a2 l2 c2,cellsAt w q1 [.int .i64 x1,.int .u8 x2,.string s1,.int .i64 x3,.slice a2 l2 c2] 0/\CallsR prog K.leaf_LeafLength #[.agg #[.int .i64 x1,.int .u8 x2,.string s1,.int .i64 x3,.slice a2 l2 c2]] w fun v1 w1=>∃ x4,v1= .int .i64 x4/\R (.int .i64 x4) w1
theorem shape_Leaves_1.sh {i y1a w R} (h:shape_Leaves_1.body i y1a w R) :
  CallsR prog K.shape_Leaves_1 #[.int .i64 i,.pointer (some y1a)] w R:=calls_body follows Tryz.func210 ([]) ([]) (Eq.mp (by kernel_rfl) h)
def leaf_LeafLength.body (f_Key_Ino:Int) (f_Key_What:Int) (f_Key_Name:ByteArray) (f_Key_Chunk:Int) (f_Value:Option Addr) (f_ValueL f_ValueC:Nat) (w:World) (R:RT):Prop :=
 ∀ B1 w1,New w (.cells #[.int .i64 f_Key_Ino,.int .u8 f_Key_What,.string f_Key_Name,.int .i64 f_Key_Chunk,.slice f_Value f_ValueL f_ValueC] T.api_Fact) B1 w1->∃ x1 x2 s1 x3,cellsAt w1 ⟨B1,0,none⟩ [.int .i64 x1,.int .u8 x2,.string s1,.int .i64 x3] 0/\CallsR prog K.fact_PutKey #[.agg #[.int .i64 x1,.int .u8 x2,.string s1,.int .i64 x3]] w1 fun v1 w2=>∃ a1 l1 c1 x4,v1= .tuple #[.slice a1 l1 c1,.int .i64 x4]/\br (x4 != 0) (R (.int .i64 0) w2) (∃ a2 l2 c2,w2.cell? (Addr.add ⟨B1,0,none⟩ 4)=some (.slice a2 l2 c2)/\R (.int .i64 (i64.wrap ((i64.wrap (((l1:Nat):Int)+1))+((l2:Nat):Int)))) w2)
theorem leaf_LeafLength.sh {f_Key_Ino f_Key_What f_Key_Name f_Key_Chunk f_Value f_ValueL f_ValueC w R} (h:leaf_LeafLength.body f_Key_Ino f_Key_What f_Key_Name f_Key_Chunk f_Value f_ValueL f_ValueC w R) :
  CallsR prog K.leaf_LeafLength #[.agg #[.int .i64 f_Key_Ino,.int .u8 f_Key_What,.string f_Key_Name,.int .i64 f_Key_Chunk,.slice f_Value f_ValueL f_ValueC]] w R:=calls_body follows Tryz.func211 ([]) ([]) (Eq.mp (by kernel_rfl) h)
def shape_Above_1.body (i:Int) (y1a:Addr) (w:World) (R:RT):Prop :=
 ∃ a1 l1 c1,w.cell? y1a=some (.slice a1 l1 c1)/\idxP a1 l1 i 4 fun q1=>∃ x1 x2 s1 x3,cellsAt w q1 [.int .i64 x1,.int .u8 x2,.string s1,.int .i64 x3] 0/\CallsR prog K.leaf_InnerLength #[.agg #[.int .i64 x1,.int .u8 x2,.string s1,.int .i64 x3]] w fun v1 w1=>∃ x4,v1= .int .i64 x4/\R (.int .i64 x4) w1
theorem shape_Above_1.sh {i y1a w R} (h:shape_Above_1.body i y1a w R) :
  CallsR prog K.shape_Above_1 #[.int .i64 i,.pointer (some y1a)] w R:=calls_body follows Tryz.func212 ([]) ([]) (Eq.mp (by kernel_rfl) h)
def leaf_InnerLength.body (k_Ino:Int) (k_What:Int) (k_Name:ByteArray) (k_Chunk:Int) (w:World) (R:RT):Prop :=
 ∀ B1 w1,New w (.cells #[.int .i64 k_Ino,.int .u8 k_What,.string k_Name,.int .i64 k_Chunk] T.api_Key) B1 w1->∃ x1 x2 s1 x3,cellsAt w1 ⟨B1,0,none⟩ [.int .i64 x1,.int .u8 x2,.string s1,.int .i64 x3] 0/\CallsR prog K.fact_PutKey #[.agg #[.int .i64 x1,.int .u8 x2,.string s1,.int .i64 x3]] w1 fun v1 w2=>∃ a1 l1 c1 x4,v1= .tuple #[.slice a1 l1 c1,.int .i64 x4]/\br (x4 != 0) (R (.int .i64 0) w2) (R (.int .i64 (i64.wrap (((l1:Nat):Int)+2))) w2)
theorem leaf_InnerLength.sh {k_Ino k_What k_Name k_Chunk w R} (h:leaf_InnerLength.body k_Ino k_What k_Name k_Chunk w R) :
  CallsR prog K.leaf_InnerLength #[.agg #[.int .i64 k_Ino,.int .u8 k_What,.string k_Name,.int .i64 k_Chunk]] w R:=calls_body follows Tryz.func213 ([]) ([]) (Eq.mp (by kernel_rfl) h)
def room_within.body (g_Blocks:Int) (g_Pages:Int) (g_Size:Int) (g_Spares:Int) (w:World) (R:RT):Prop :=
 ∀ B1 w1,New w (.cells #[.int .i64 g_Blocks,.int .i64 g_Pages,.int .i64 g_Size,.int .i64 g_Spares] T.api_Geo) B1 w1->∃ x1,w1.cell? ⟨B1,0,none⟩= some (.int .i64 x1)/\∃ x2,w1.cell? (Addr.add ⟨B1,0,none⟩ 1)=some (.int .i64 x2)/\∃ x3,w1.cell? (Addr.add ⟨B1,0,none⟩ 2)=some (.int .i64 x3)/\∃ x4,w1.cell? (Addr.add ⟨B1,0,none⟩ 3)=some (.int .i64 x4)/\∃ (J1:Int->World->Prop) (μ1:Int->World->Nat),J1 0 w1/\∀ x5:Int,∀ w2:World,J1 x5 w2->br (decide (x5<4)) (0<=x5/\x5<4/\((((True)/\(x5=((0:Nat):Int)->0<=x5/\x5<4/\0<=(0:Int)/\(0:Int)<2/\∃ x6,w2.cell? (Addr.add (Addr.add ⟨0,0,none⟩ (Int.toNat x5 * 2)) (Int.toNat (0:Int) * 1))=some (.int .i64 x6)/\br (decide (x1<x6)) (R (.bool false) w2) (0<=x5/\x5<4/\0<=(1:Int)/\(1:Int)<2/\∃ x7,w2.cell? (Addr.add (Addr.add ⟨0,0,none⟩ (Int.toNat x5 * 2)) (Int.toNat (1:Int) * 1))=some (.int .i64 x7)/\br (decide (x1 > x7)) (R (.bool false) w2) (J1 (i64.wrap (x5+1)) w2/\μ1 (i64.wrap (x5+1)) w2 < μ1 x5 w2))))/\(x5=((1:Nat):Int)->0<=x5/\x5<4/\0<=(0:Int)/\(0:Int)<2/\∃ x8,w2.cell? (Addr.add (Addr.add ⟨0,0,none⟩ (Int.toNat x5 * 2)) (Int.toNat (0:Int) * 1))=some (.int .i64 x8)/\br (decide (x2<x8)) (R (.bool false) w2) (0<=x5/\x5<4/\0<=(1:Int)/\(1:Int)<2/\∃ x9,w2.cell? (Addr.add (Addr.add ⟨0,0,none⟩ (Int.toNat x5 * 2)) (Int.toNat (1:Int) * 1))=some (.int .i64 x9)/\br (decide (x2 > x9)) (R (.bool false) w2) (J1 (i64.wrap (x5+1)) w2/\μ1 (i64.wrap (x5+1)) w2 < μ1 x5 w2))))/\(x5=((2:Nat):Int)->0<=x5/\x5<4/\0<=(0:Int)/\(0:Int)<2/\∃ x10,w2.cell? (Addr.add (Addr.add ⟨0,0,none⟩ (Int.toNat x5 * 2)) (Int.toNat (0:Int) * 1))=some (.int .i64 x10)/\br (decide (x3<x10)) (R (.bool false) w2) (0<=x5/\x5<4/\0<=(1:Int)/\(1:Int)<2/\∃ x11,w2.cell? (Addr.add (Addr.add ⟨0,0,none⟩ (Int.toNat x5 * 2)) (Int.toNat (1:Int) * 1))=some (.int .i64 x11)/\br (decide (x3 > x11)) (R (.bool false) w2) (J1 (i64.wrap (x5+1)) w2/\μ1 (i64.wrap (x5+1)) w2 < μ1 x5 w2))))/\(x5=((3:Nat):Int)->0<=x5/\x5<4/\0<=(0:Int)/\(0:Int)<2/\∃ x12,w2.cell? (Addr.add (Addr.add ⟨0,0,none⟩ (Int.toNat x5 * 2)) (Int.toNat (0:Int) * 1))=some (.int .i64 x12)/\br (decide (x4<x12)) (R (.bool false) w2) (0<=x5/\x5<4/\0<=(1:Int)/\(1:Int)<2/\∃ x13,w2.cell? (Addr.add (Addr.add ⟨0,0,none⟩ (Int.toNat x5 * 2)) (Int.toNat (1:Int) * 1))=some (.int .i64 x13)/\br (decide (x4 > x13)) (R (.bool false) w2) (J1 (i64.wrap (x5+1)) w2/\μ1 (i64.wrap (x5+1)) w2 < μ1 x5 w2)))) (R (.bool true) w2)
theorem room_within.sh {g_Blocks g_Pages g_Size g_Spares w R} (h:room_within.body g_Blocks g_Pages g_Size g_Spares w R) :
  CallsR prog K.room_within #[.agg #[.int .i64 g_Blocks,.int .i64 g_Pages,.int .i64 g_Size,.int .i64 g_Spares]] w R:=calls_body follows Tryz.func214 ([]) ([(2,[13],[14],[.int .i64 0])]) (Eq.mp (by kernel_rfl) h)
def carrackref01_Size.body (n:Int) (w:World) (R:RT):Prop :=
 br (n == 1) (R (.bool true) w) (br (n == 2) (R (.bool true) w) (br (n == 4) (R (.bool true) w) (R (.bool (n == 8)) w)))
theorem carrackref01_Size.sh {n w R} (h:carrackref01_Size.body n w R) :
  CallsR prog K.carrackref01_Size #[.int .i64 n] w R:=calls_body follows Tryz.func215 ([]) ([]) (Eq.mp (by kernel_rfl) h)
def path_Name.body (s:ByteArray) (w:World) (R:RT):Prop :=
 ∃ (J1:Int->World->Prop) (μ1:Int->World->Nat),J1 0 w/\∀ x1:Int,∀ w1:World,J1 x1 w1->br (decide (x1<((s.size:Nat):Int))) (0<=x1/\∃ y1:UInt8,s.data.toList[Int.toNat x1]?=some y1/\CallsR prog K.path_may #[.int .u8 ((UInt8.toNat y1:Nat):Int)] w1 fun v1 w2=>∃ b1,v1= .bool b1/\br (!b1) (R (.bool false) w2) (J1 (i64.wrap (x1+1)) w2/\μ1 (i64.wrap (x1+1)) w2 < μ1 x1 w1)) (br (decide (((s.size:Nat):Int)≥1)) (br (decide (((s.size:Nat):Int)<=12)) (br (!(s.toList == (⟨#[46]⟩: ByteArray).toList)) (R (.bool (!(s.toList == (⟨#[46,46]⟩: ByteArray).toList))) w1) (R (.bool false) w1)) (R (.bool false) w1)) (R (.bool false) w1))
theorem path_Name.sh {s w R} (h:path_Name.body s w R) :
  CallsR prog K.path_Name #[.string s] w R:=calls_body follows Tryz.func221 ([]) ([(2,[0,5],[6],[.int .i64 0])]) (Eq.mp (by kernel_rfl) h)
def cmp_isNaN_int.body (x:Int) (w:World) (R:RT):Prop :=
 R (.bool (x != x)) w
theorem cmp_isNaN_int.sh {x w R} (h:cmp_isNaN_int.body x w R) :
  CallsR prog K.cmp_isNaN_int #[.int .i64 x] w R:=calls_body follows Tryz.func222 ([]) ([]) (Eq.mp (by kernel_rfl) h)
def cmp_isNaN_uint8.body (x:Int) (w:World) (R:RT):Prop :=
 R (.bool (x != x)) w
theorem cmp_isNaN_uint8.sh {x w R} (h:cmp_isNaN_uint8.body x w R) :
  CallsR prog K.cmp_isNaN_uint8 #[.int .u8 x] w R:=calls_body follows Tryz.func223 ([]) ([]) (Eq.mp (by kernel_rfl) h)
def cmp_isNaN_string.body (x:ByteArray) (w:World) (R:RT):Prop :=
 R (.bool (!(x.toList == x.toList))) w
theorem cmp_isNaN_string.sh {x w R} (h:cmp_isNaN_string.body x w R) :
  CallsR prog K.cmp_isNaN_string #[.string x] w R:=calls_body follows Tryz.func224 ([]) ([]) (Eq.mp (by kernel_rfl) h)
def shape_End.body (k_Ino:Int) (k_What:Int) (k_Name:ByteArray) (k_Chunk:Int) (w:World) (R:RT):Prop :=
 ∀ B1 w1,New w (.cells #[.int .i64 k_Ino,.int .u8 k_What,.string k_Name,.int .i64 k_Chunk] T.api_Key) B1 w1->∃ x1 x2 s1 x3,cellsAt w1 ⟨B1,0,none⟩ [.int .i64 x1,.int .u8 x2,.string s1,.int .i64 x3] 0/\CallsR prog K.fact_PutKey #[.agg #[.int .i64 x1,.int .u8 x2,.string s1,.int .i64 x3]] w1 fun v1 w2=>∃ a1 l1 c1 x4,v1= .tuple #[.slice a1 l1 c1,.int .i64 x4]/\∀ B2 w3,New w2 (.cells #[.int .i64 0] T.int) B2 w3->storeP w3 ⟨B2,0,none⟩ [.int .i64 0] fun w4=>∃ (J1:Int->World->Prop) (μ1:Int->World->Nat),J1 0 w4/\∀ x5:Int,∀ w5:World,J1 x5 w5->br (decide (x5<((l1:Nat):Int))) (idxP a1 l1 x5 1 fun q1=>∃ x6,w5.cell? q1=some (.int .u8 x6)/\hasBody prog K.shape_End_1=true/\CallsR prog K.shape_End_1 #[.int .u8 x6,.pointer (some ⟨B2,0,none⟩)] w5 fun v2 w6=>v2= .tuple #[]/\J1 (i64.wrap (x5+1)) w6/\μ1 (i64.wrap (x5+1)) w6 < μ1 x5 w5) (br (x4 == 0) (∃ x7,w5.cell? ⟨B2,0,none⟩= some (.int .i64 x7)/\(4:Int)≠0/\R (.bool ((Int.tmod x7 4) == 3)) w5) (R (.bool false) w5))
theorem shape_End.sh {k_Ino k_What k_Name k_Chunk w R} (h:shape_End.body k_Ino k_What k_Name k_Chunk w R) :
  CallsR prog K.shape_End #[.agg #[.int .i64 k_Ino,.int .u8 k_What,.string k_Name,.int .i64 k_Chunk]] w R:=calls_body follows Tryz.func225 ([]) ([(5,[4,5,6,15,16],[17],[.int .i64 0])]) (Eq.mp (by kernel_rfl) h)
def path_may.body (c:Int) (w:World) (R:RT):Prop :=
 br (decide (c≥97)) (br (decide (c<=122)) (br (decide (c<=122)) (R (.bool true) w) (R (.bool false) w)) (br (decide (c≥48)) (br (decide (c<=57)) (br (decide (c<=57)) (R (.bool true) w) (R (.bool false) w)) (br (c == 46) (br (c == 46) (R (.bool true) w) (R (.bool false) w)) (br (c == 45) (R (.bool true) w) (R (.bool false) w)))) (br (c == 46) (br (c == 46) (R (.bool true) w) (R (.bool false) w)) (br (c == 45) (R (.bool true) w) (R (.bool false) w))))) (br (decide (c≥48)) (br (decide (c<=57)) (br (decide (c<=57)) (R (.bool true) w) (R (.bool false) w)) (br (c == 46) (br (c == 46) (R (.bool true) w) (R (.bool false) w)) (br (c == 45) (R (.bool true) w) (R (.bool false) w)))) (br (c == 46) (br (c == 46) (R (.bool true) w) (R (.bool false) w)) (br (c == 45) (R (.bool true) w) (R (.bool false) w))))
theorem path_may.sh {c w R} (h:path_may.body c w R) :
  CallsR prog K.path_may #[.int .u8 c] w R:=calls_body follows Tryz.func228 ([]) ([]) (Eq.mp (by kernel_rfl) h)
def shape_End_1.body (c:Int) (y1a:Addr) (w:World) (R:RT):Prop :=
 ∃ x1,w.cell? y1a=some (.int .i64 x1)/\storeP w y1a [.int .i64 (i64.wrap (x1+(i64.wrap c)))] fun w1=>R (.tuple #[]) w1
theorem shape_End_1.sh {c y1a w R} (h:shape_End_1.body c y1a w R) :
  CallsR prog K.shape_End_1 #[.int .u8 c,.pointer (some y1a)] w R:=calls_body follows Tryz.func229 ([]) ([]) (Eq.mp (by kernel_rfl) h)
end
end Go.Den

namespace Go.Den
theorem w64 {x:Int} (h: -9223372036854775808<=x) (h':x<9223372036854775808):i64.wrap x=x:=by
 simp only [IntKind.wrap,IntKind.bits,IntKind.signed];simp;omega
theorem wu64 {x:Int} (h:0<=x) (h':x<18446744073709551616):u64.wrap x=x:=by
 simp only [IntKind.wrap,IntKind.bits,IntKind.signed];simp;omega
theorem wu32 {x:Int} (h:0<=x) (h':x<4294967296):u32.wrap x=x:=by
 simp only [IntKind.wrap,IntKind.bits,IntKind.signed];simp;omega
theorem wu8 {x:Int} (h:0<=x) (h':x<256):u8.wrap x=x:=by
 simp only [IntKind.wrap,IntKind.bits,IntKind.signed];simp;omega
theorem wu8_mod (x:Int):u8.wrap x=x % 256:=by
 simp only [IntKind.wrap,IntKind.bits,IntKind.signed];simp
theorem wu64_mod (x:Int):u64.wrap x=x % 18446744073709551616:=by
 simp only [IntKind.wrap,IntKind.bits,IntKind.signed];simp
@[simp] theorem bits_u8:IntKind.bits .u8=8:=rfl
@[simp] theorem bits_u32:IntKind.bits .u32=32:=rfl
@[simp] theorem bits_u64:IntKind.bits .u64=64:=rfl
@[simp] theorem bits_i64:IntKind.bits .i64=64:=rfl
theorem tn0:Int.toNat 0=0:=rfl
theorem tn1:Int.toNat 1=1:=rfl
theorem tn2:Int.toNat 2=2:=rfl
theorem tn3:Int.toNat 3=3:=rfl
theorem tn5:Int.toNat 5=5:=rfl
@[simp] theorem br_true (X Y:Prop):br true X Y=X:=rfl
@[simp] theorem br_false (X Y:Prop):br false X Y=Y:=rfl
theorem br_intro {b:Bool} {X Y:Prop} (h1:b=true->X) (h2:b=false->Y):br b X Y:=by
 cases b
 .exact h2 rfl
 .exact h1 rfl
theorem br_dec {p:Prop} [Decidable p] {X Y:Prop} (h1:p->X) (h2:¬ p->Y):br (decide p) X Y:=br_intro (fun h=>h1 (of_decide_eq_true h)) (fun h=>h2 (of_decide_eq_false h))
theorem br_eq {a b:Int} {X Y:Prop} (h1:a=b->X) (h2:a≠b->Y):br (a == b) X Y:=br_intro (fun h=>h1 (by simpa using h)) (fun h=>h2 (by simpa using h))
theorem br_ne {a b:Int} {X Y:Prop} (h1:a≠b->X) (h2:a=b->Y):br (a != b) X Y:=br_intro (fun h=>h1 (by simpa using h)) (fun h=>h2 (by simpa using h))
@[simp] theorem nilC_some' (a:Addr) (K:Addr->Prop):nilC (some a) K=K a:=rfl
theorem CallsR.mono {P:Program} {f:FuncId} {args:Array Value} {w:World} {R R':Value->World->Prop} (h:CallsR P f args w R) (hr:∀ v w',R v w'->R' v w'):CallsR P f args w R' :=
 Calls.mono h fun _ _ ⟨v,he,hR⟩=>⟨v,he,hr v _ hR⟩
def isBook:Obj->Bool
 | .loop _=>true
 | .deferred _=>true
 | _=>false
structure Upd (F:Nat->Prop) (w w':World):Prop where
 size:w.heap.size<=w'.heap.size
 blk:∀ b,b<w.heap.size->¬ F b->w'.heap[b]?=w.heap[b]?
 os:w'.os=w.os
 tape:w'.tape=w.tape
 output:w'.output=w.output
 book:∀ (b:Nat) (o:Obj),w.heap[b]?=some o->isBook o=true->w'.heap[b]?=some o
abbrev NoB:Nat->Prop:=fun _=>False
abbrev Ext (w w':World):Prop:=Upd NoB w w'
theorem Upd.refl (F:Nat->Prop) (w:World):Upd F w w:=⟨Nat.le_refl _,fun _ _ _=>rfl,rfl,rfl,rfl,fun _ _ h _=>h⟩
theorem Upd.trans {F:Nat->Prop} {a b c:World} (h:Upd F a b) (k:Upd F b c):Upd F a c :=
 ⟨Nat.le_trans h.size k.size,fun i hi hf=>(k.blk i (Nat.lt_of_lt_of_le hi h.size) hf).trans (h.blk i hi hf),k.os.trans h.os,k.tape.trans h.tape,k.output.trans h.output,fun b o hb ho=>k.book b o (h.book b o hb ho) ho⟩
theorem Upd.mono {F G:Nat->Prop} {a b:World} (h:Upd F a b) (hs:∀ x,x<a.heap.size->F x->G x):Upd G a b:=⟨h.size,fun i hi hf=>h.blk i hi fun hF=>hf (hs i hi hF),h.os,h.tape,h.output,h.book⟩
theorem Upd.ext {F:Nat->Prop} {a b:World} (h:Ext a b):Upd F a b:=h.mono fun _ _ hf=>hf.elim
theorem Upd.then {F:Nat->Prop} {a b c:World} (h:Upd F a b) (k:Ext b c):Upd F a c:=h.trans (Upd.ext k)
theorem Upd.beyond {F:Nat->Prop} {a b c:World} (h:Ext a b) (k:Upd F b c) (hf:∀ x,F x->a.heap.size<=x):Ext a c :=
 ⟨Nat.le_trans h.size k.size,fun i hi hn=>(k.blk i (Nat.lt_of_lt_of_le hi h.size) fun hF=>absurd (hf i hF) (by omega)).trans (h.blk i hi hn),k.os.trans h.os,k.tape.trans h.tape,k.output.trans h.output,fun b o hb ho=>k.book b o (h.book b o hb ho) ho⟩
theorem Upd.get {F:Nat->Prop} {w w':World} (h:Upd F w w') {b:Nat} {o:Obj} (hb:w.heap[b]?=some o) (hf:¬ F b):w'.heap[b]?=some o:=by
 rw [h.blk b (Array.getElem?_eq_some_iff.1 hb).1 hf];exact hb
theorem Ext.get {w w':World} (h:Ext w w') {b:Nat} {o:Obj} (hb:w.heap[b]?=some o):w'.heap[b]?=some o:=Upd.get h hb (fun hf=>hf)
theorem New.upd {w:World} {o:Obj} {b:Nat} {w':World} (h:New w o b w'):Ext w w':=by
 obtain ⟨rfl,rfl⟩:=h
 have key:∀ i,i<w.heap.size->(w.heap.push o)[i]?=w.heap[i]?:=fun i hi=>by rw [Array.getElem?_push,if_neg (by omega)]
 exact ⟨by rw [World.size_alloc];omega,fun i hi _=>key i hi,rfl,rfl,rfl,fun i x hx _=>(key i (Array.getElem?_eq_some_iff.1 hx).1).trans hx⟩
theorem New.get {w:World} {o:Obj} {b:Nat} {w':World} (h:New w o b w'):w'.heap[b]?=some o:=by
 obtain ⟨rfl,rfl⟩:=h
 show (w.heap.push o)[w.heap.size]?=_
 simp
theorem New.size {w:World} {o:Obj} {b:Nat} {w':World} (h:New w o b w'):w'.heap.size=w.heap.size+1:=by
 obtain ⟨rfl,rfl⟩:=h
 exact World.size_alloc _ _
theorem Drew.upd {w w':World} (h:Drew w w'):Ext w w':=by
 obtain ⟨rfl⟩:=h
 exact ⟨Nat.le_refl _,fun _ _ _=>rfl,rfl,rfl,rfl,fun _ _ h _=>h⟩
theorem Drew.heap {w w':World} (h:Drew w w'):w'.heap=w.heap:=by
 obtain ⟨rfl⟩:=h
 rfl
theorem drew_upd (w:World):Ext w w.drew:=Drew.upd ⟨rfl⟩
theorem Put.upd {F:Nat->Prop} {w0 w:World} {b:Nat} {o:Obj} {w':World} (h:Upd F w0 w) (k:Put w b o w') (hb:w0.heap.size<=b\/F b):Upd F w0 w':=by
 obtain ⟨hlt,rfl,cs,T,fr,hwas⟩:=k
 refine ⟨by have:=h.size;simpa [putBlk] using this,fun i hi hf=>?_,h.os,h.tape,h.output,fun i x hx hbx=>?_⟩
 .have hne:b≠i:=by
   rintro rfl
   rcases hb with hb | hb
   .omega
   .exact hf hb
  rw [putBlk_get_other hne]
  exact h.blk i hi hf
 .have hx':=h.book i x hx hbx
  have hne:b≠i:=by
   rintro rfl
   rw [hwas] at hx'
   cases hx'
   cases hbx
  rw [putBlk_get_other hne]
  exact hx'
theorem Put.get {w:World} {b:Nat} {o:Obj} {w':World} (k:Put w b o w'):w'.heap[b]?=some o:=by
 obtain ⟨hlt,rfl,_⟩:=k
 exact putBlk_get_same hlt
theorem Put.size {w:World} {b:Nat} {o:Obj} {w':World} (k:Put w b o w'):w'.heap.size=w.heap.size:=by
 obtain ⟨hlt,rfl,_⟩:=k
 simp [putBlk]
theorem Put.upd1 {w:World} {b:Nat} {o:Obj} {w':World} (k:Put w b o w'):Upd (·=b) w w':=Put.upd (Upd.refl _ _) k (.inr rfl)
@[simp] theorem add_lit (b o n:Nat):Addr.add ⟨b,o,none⟩ n=⟨b,o+n,none⟩:=by
 unfold Addr.add
 split
 .rename_i h;subst h;rfl
 .rfl
theorem add_zero (a:Addr):Addr.add a 0=a:=by simp [Addr.add]
theorem cell_of {w:World} {b:Nat} {cs:Array Value} {T:TypeId} {fr:Nat×Nat} (h:w.heap[b]?=some (.cells cs T fr)) {i:Nat} {v:Value} (hi:cs[i]?=some v):w.cell? ⟨b,i,none⟩= some v:=by
 simp [World.cell?,h,hi]
theorem cellsAt_of {w:World} {b:Nat} {cs:Array Value} {T:TypeId} {fr:Nat×Nat} (h:w.heap[b]?=some (.cells cs T fr)) {o:Nat}:∀ {vs:List Value} {i:Nat},(∀ j v,vs[j]?=some v->cs[o+(i+j)]?=some v)->cellsAt w ⟨b,o,none⟩ vs i
 | [],_,_=>trivial
 | v :: vs,i,hv=>by
  refine ⟨?_,cellsAt_of h fun j u hj=>?_⟩
  .rw [add_lit]
   exact cell_of h (by simpa using hv 0 v rfl)
  .have:=hv (j+1) u (by simpa using hj)
   rwa [show o+(i+(j+1))=o+(i+1+j) by omega] at this
theorem store_of {w:World} {b:Nat} {cur:Array Value} {T:TypeId} (h:w.heap[b]?=some (.cells cur T (0,0))) {o:Nat} {vs:List Value} (hl:o+vs.length<=cur.size) {K:World->Prop}
  (hk:∀ w',Put w b (.cells (splice cur o vs) T (0,0)) w'->K w'):storeP w ⟨b,o,none⟩ vs K :=
 ⟨rfl,cur,T,(0,0),h,hl,.inl (by simp),hk⟩
theorem splice_one (cur:Array Value) (o:Nat) (v:Value) (h:o<cur.size):splice cur o [v]=cur.setIfInBounds o v:=by
 apply Array.ext'
 rw [Array.toList_setIfInBounds]
 simp only [splice,List.length_singleton]
 rw [List.set_eq_take_append_cons_drop]
 simp [h]
theorem splice_all (cur:Array Value) (vs:List Value) (h:cur.size=vs.length):splice cur 0 vs=vs.toArray:=by
 simp [splice,<- h]
theorem splice_size (cur:Array Value) (o:Nat) (vs:List Value) (h:o+vs.length<=cur.size):(splice cur o vs).size=cur.size:=by
 simp [splice];omega
theorem fill_step (l z:List Value) (i:Nat) (hi:i<l.length) (hl:z.length=l.length):splice (l.take i ++ z.drop i).toArray i [l[i]]=(l.take (i+1) ++ z.drop (i+1)).toArray:=by
 rw [splice_one _ _ _ (by simp;omega)]
 apply Array.ext'
 simp only [Array.toList_setIfInBounds]
 rw [List.set_append_right _ _ (by simp;omega)]
 have hz:i<z.length:=by omega
 rw [List.drop_eq_getElem_cons hz]
 have:i - (l.take i).length=0:=by simp;omega
 rw [this,List.set_cons_zero]
 rw [List.take_succ_eq_append_getElem hi]
 simp only [List.append_assoc,List.singleton_append]
abbrev bv (x:UInt8):Value:=.int .u8 (x.toNat:Int)
def RowAt (w:World) (a:Option Addr) (vs:List Value):Prop :=
 vs=[]\/∃ b o cur T fr,a=some ⟨b,o,none⟩/\w.heap[b]?=some (.cells cur T fr)/\∀ (j:Nat) v,vs[j]?=some v->cur[o+j]?=some v
theorem RowAt.nil (w:World) (a:Option Addr):RowAt w a []:=.inl rfl
theorem RowAt.upd {F:Nat->Prop} {w w':World} {a:Option Addr} {vs:List Value} (h:RowAt w a vs) (k:Upd F w w') (hf:∀ p,a=some p->¬ F p.block):RowAt w' a vs:=by
 rcases h with h | ⟨b,o,cur,T,fr,rfl,hb,hv⟩
 .exact .inl h
 .exact .inr ⟨b,o,cur,T,fr,rfl,k.get hb (hf _ rfl),hv⟩
theorem RowAt.ext {w w':World} {a:Option Addr} {vs:List Value} (h:RowAt w a vs) (k:Ext w w'):RowAt w' a vs:=RowAt.upd h k fun _ _ hf=>hf
theorem RowAt.cell {w:World} {a:Option Addr} {vs:List Value} (h:RowAt w a vs) {i:Nat} {v:Value} (hi:vs[i]?=some v):∃ b o,a=some ⟨b,o,none⟩/\w.cell? ⟨b,o+i,none⟩= some v:=by
 rcases h with h | ⟨b,o,cur,T,fr,rfl,hb,hv⟩
 .subst h;simp at hi
 .exact ⟨b,o,rfl,cell_of hb (hv i v hi)⟩
theorem RowAt.cells {w:World} {b o:Nat} {vs:List Value} (h:RowAt w (some ⟨b,o,none⟩) vs):cellsAt w ⟨b,o,none⟩ vs 0:=by
 rcases h with h | ⟨b,o,cur,T,fr,ha,hb,hv⟩
 .subst h;trivial
 .cases ha;exact cellsAt_of hb fun j v hj=>by simpa using hv j v hj
theorem RowAt.drop {w:World} {b o:Nat} {vs:List Value} (h:RowAt w (some ⟨b,o,none⟩) vs) (k:Nat):RowAt w (some ⟨b,o+k,none⟩) (vs.drop k):=by
 rcases h with h | ⟨b,o,cur,T,fr,ha,hb,hv⟩
 .subst h;exact .inl (by simp)
 .cases ha;exact .inr ⟨b,o+k,cur,T,fr,rfl,hb,fun j v hj=>by
   rw [List.getElem?_drop] at hj
   rw [Nat.add_assoc];exact hv _ v hj⟩
theorem RowAt.take {w:World} {a:Option Addr} {vs:List Value} (h:RowAt w a vs) (k:Nat):RowAt w a (vs.take k):=by
 rcases h with h | ⟨b,o,cur,T,fr,rfl,hb,hv⟩
 .subst h;exact .inl (by simp)
 .exact .inr ⟨b,o,cur,T,fr,rfl,hb,fun j v hj=>hv j v (by
   rw [List.getElem?_take] at hj
   split at hj
   .exact hj
   .cases hj)⟩
theorem RowAt.blk {w:World} {a:Option Addr} {vs:List Value} (h:RowAt w a vs) (hn:vs≠[]):∃ b o,a=some ⟨b,o,none⟩/\b<w.heap.size:=by
 rcases h with h | ⟨b,o,cur,T,fr,rfl,hb,hv⟩
 .exact absurd h hn
 .exact ⟨b,o,rfl,(Array.getElem?_eq_some_iff.1 hb).1⟩
theorem RowAt.of {w:World} {b:Nat} {cur:Array Value} {T:TypeId} {fr:Nat×Nat} (h:w.heap[b]?=some (.cells cur T fr)) {o:Nat} {vs:List Value} (hv:∀ (j:Nat) v,vs[j]?=some v->cur[o+j]?=some v):RowAt w (some ⟨b,o,none⟩) vs :=
 .inr ⟨b,o,cur,T,fr,rfl,h,hv⟩
def Fresh (w:World) (a:Option Addr):Prop:=∀ p,a=some p->w.heap.size<=p.block
theorem Fresh.none (w:World):Fresh w none:=fun _ h=>by cases h
theorem Fresh.some {w:World} {b o:Nat} (h:w.heap.size<=b):Fresh w (some ⟨b,o,.none⟩):=fun _ hp=>by cases hp;exact h
theorem Fresh.mono {w w':World} {a:Option Addr} (h:Fresh w' a) (hs:w.heap.size<=w'.heap.size):Fresh w a:=fun p hp=>Nat.le_trans hs (h p hp)
abbrev BytesAt (w:World) (a:Option Addr) (l:List UInt8):Prop:=RowAt w a (l.map bv)
theorem BytesAt.take {w:World} {a:Option Addr} {l:List UInt8} (h:BytesAt w a l) (k:Nat):BytesAt w a (l.take k):=by
 show RowAt w a ((l.take k).map bv)
 rw [List.map_take];exact RowAt.take h k
theorem BytesAt.drop {w:World} {b o:Nat} {l:List UInt8} (h:BytesAt w (some ⟨b,o,none⟩) l) (k:Nat):BytesAt w (some ⟨b,o+k,none⟩) (l.drop k):=by
 show RowAt w _ ((l.drop k).map bv)
 rw [List.map_drop];exact RowAt.drop h k
theorem BytesAt.nil (w:World) (a:Option Addr):BytesAt w a []:=.inl rfl
theorem BytesAt.from {w:World} {a:Option Addr} {l:List UInt8} (h:BytesAt w a l) (k:Nat):BytesAt w (a.map (·.add k)) (l.drop k):=by
 cases l with
 | nil=>simpa using BytesAt.nil w _
 | cons x l =>
  obtain ⟨b,o,rfl,_⟩:=RowAt.blk h (by simp)
  simp only [Option.map_some,add_lit]
  exact h.drop k
theorem bytes_get {l:List UInt8} {i:Nat} (h:i<l.length):(l.map bv)[i]?=some (bv l[i]):=by simp [h]
theorem idx_byte {w:World} {a:Option Addr} {l:List UInt8} {i:Int} {K:Int->Prop} (h:BytesAt w a l) (h0:0<=i) (h1:i<l.length) (hk:K ((l.getD i.toNat 0).toNat:Int)) :
  idxP a l.length i 1 fun q=>∃ x:Int,World.cell? w q=some (Value.int .u8 x)/\K x:=by
 refine ⟨h0,h1,?_⟩
 have hi:i.toNat<l.length:=by omega
 obtain ⟨b,o,rfl,hc⟩:=RowAt.cell h (bytes_get hi)
 simp only [nilC_some',add_lit,Nat.mul_one]
 refine ⟨_,hc,?_⟩
 simpa [List.getD,hi] using hk
theorem idx_byteS {S:World->Prop} {a:Option Addr} {l:List UInt8} {i:Int} {K:Int->Prop} (h:∀ u,S u->BytesAt u a l) (hs:∃ u,S u) (h0:0<=i) (h1:i<l.length) (hk:K ((l.getD i.toNat 0).toNat:Int)) :
  idxP a l.length i 1 fun q=>∃ x:Int,(∀ u,S u->World.cell? u q=some (Value.int .u8 x))/\K x:=by
 refine ⟨h0,h1,?_⟩
 have hi:i.toNat<l.length:=by omega
 obtain ⟨u,hu⟩:=hs
 obtain ⟨b,o,rfl,hc⟩:=RowAt.cell (h u hu) (bytes_get hi)
 simp only [nilC_some',add_lit,Nat.mul_one]
 refine ⟨(l[i.toNat].toNat:Int),fun u hu=>?_,by simpa [List.getD,hi] using hk⟩
 obtain ⟨b',o',hb',hc'⟩:=RowAt.cell (h u hu) (bytes_get hi)
 cases hb'
 exact hc'
structure CellsLe (w w':World):Prop where
 size:w.heap.size<=w'.heap.size
 get:∀ (b:Nat) cs T fr,w.heap[b]?=some (.cells cs T fr)->w'.heap[b]?=some (.cells cs T fr)
theorem putObj_size (w:World) (l:Nat) (o:Obj):(w.putObj l o).heap.size=w.heap.size:=by simp [World.putObj]
theorem CellsLe.turn {w:World} {l:Nat} {o x:Obj} (h:w.heap[l]?=some x) (hx:isBook x=true):CellsLe w (w.putObj l o):=by
 refine ⟨by rw [putObj_size];exact Nat.le_refl _,fun b cs T fr hb=>?_⟩
 have hne:b≠l:=by
  rintro rfl
  rw [h] at hb
  cases hb
  cases hx
 exact (World.putObj_heap_other hne).trans hb
theorem RowAt.cellsLe {w w':World} {a:Option Addr} {vs:List Value} (h:RowAt w a vs) (k:CellsLe w w'):RowAt w' a vs:=by
 rcases h with h | ⟨b,o,cur,T,fr,rfl,hb,hv⟩
 .exact .inl h
 .exact .inr ⟨b,o,cur,T,fr,rfl,k.get _ _ _ _ hb,hv⟩
theorem Upd.round {F:Nat->Prop} {W Wa U:World} {l:Nat} {r:Loop} {o:Loop} (hl:W.heap[l]?=some (.loop r)) (h:Upd F W Wa) (k:Upd F (Wa.putObj l (.loop o)) U):Upd F W (U.putObj l (.loop r)):=by
 have hla:Wa.heap[l]?=some (.loop r):=h.book l _ hl rfl
 have hlt:l<Wa.heap.size:=(Array.getElem?_eq_some_iff.1 hla).1
 have hs1:Wa.heap.size<=U.heap.size:=by have:=k.size;rwa [putObj_size] at this
 refine ⟨by rw [putObj_size];exact Nat.le_trans h.size hs1,fun i hi hf=>?_,k.os.trans h.os,k.tape.trans h.tape,k.output.trans h.output,fun i x hx hb=>?_⟩
 .by_cases e:i=l
  .subst e
   rw [hl]
   exact World.putObj_heap_same (Nat.lt_of_lt_of_le hlt hs1)
  .rw [World.putObj_heap_other e,k.blk i (by rw [putObj_size];exact Nat.lt_of_lt_of_le hi h.size) hf,World.putObj_heap_other e]
   exact h.blk i hi hf
 .by_cases e:i=l
  .subst e
   rw [hl] at hx
   cases hx
   exact World.putObj_heap_same (Nat.lt_of_lt_of_le hlt hs1)
  .rw [World.putObj_heap_other e]
   refine k.book i x ?_ hb
   rw [World.putObj_heap_other e]
   exact h.book i x hx hb
theorem Upd.turn {F:Nat->Prop} {w W:World} {l:Nat} {o:Obj} (h:Upd F w W) (hl:w.heap.size<=l):Upd F w (W.putObj l o):=by
 refine ⟨by rw [putObj_size];exact h.size,fun i hi hf=>?_,h.os,h.tape,h.output,fun i x hx hb=>?_⟩
 .rw [World.putObj_heap_other (by omega)];exact h.blk i hi hf
 .have:=(Array.getElem?_eq_some_iff.1 hx).1
  rw [World.putObj_heap_other (by omega)];exact h.book i x hx hb
theorem growBy_le (n:Nat):∀ k c,c<=2 * n+192->Builtin.growBy n k c<=2 * n+192
 | 0,c,h=>h
 | k+1,c,h=>by
  unfold Builtin.growBy
  split
  .exact h
  .exact growBy_le n k _ (by omega)
theorem nextcap_le {n c:Nat} (h:c<n):Builtin.nextslicecap n c<=2 * n+192:=by
 unfold Builtin.nextslicecap
 split
 .omega
 .split
  .omega
  .exact growBy_le n 4 c (by omega)
def OwnAt (w:World) (a:Option Addr) (len cap:Nat) (e:TypeId) (size:Nat) (cells:List Value):Prop :=
 cells.length=len * size/\len<=cap/\((a=none/\len=0/\cap=0)\/
  ∃ b cur,a=some ⟨b,0,none⟩/\w.heap[b]?=some (.cells cur e (0,0))/\cur.size=cap * size/\cur.toList.take (len * size)=cells)
theorem OwnAt.nil (w:World) (e:TypeId) (size:Nat):OwnAt w none 0 0 e size []:=⟨by simp,Nat.le_refl _,.inl ⟨rfl,rfl,rfl⟩⟩
theorem OwnAt.row {w:World} {a:Option Addr} {len cap:Nat} {e:TypeId} {size:Nat} {cells:List Value} (h:OwnAt w a len cap e size cells):RowAt w a cells:=by
 obtain ⟨hl,_,h⟩:=h
 rcases h with ⟨rfl,rfl,rfl⟩| ⟨b,cur,rfl,hb,hs,ht⟩
 .exact .inl (List.eq_nil_of_length_eq_zero (by simpa using hl))
 .refine RowAt.of hb fun j v hj=>?_
  rw [<- ht] at hj
  rw [List.getElem?_take] at hj
  split at hj
  .simpa using hj
  .cases hj
theorem OwnAt.upd {F:Nat->Prop} {w w':World} {a:Option Addr} {len cap:Nat} {e:TypeId} {size:Nat} {cells:List Value} (h:OwnAt w a len cap e size cells) (k:Upd F w w') (hf:∀ b,a=some ⟨b,0,none⟩->¬ F b):OwnAt w' a len cap e size cells:=by
 obtain ⟨hl,hc,h⟩:=h
 refine ⟨hl,hc,?_⟩
 rcases h with h | ⟨b,cur,rfl,hb,hs,ht⟩
 .exact .inl h
 .exact .inr ⟨b,cur,rfl,k.get hb (hf b rfl),hs,ht⟩
theorem OwnAt.ext {w w':World} {a:Option Addr} {len cap:Nat} {e:TypeId} {size:Nat} {cells:List Value} (h:OwnAt w a len cap e size cells) (k:Ext w w'):OwnAt w' a len cap e size cells:=OwnAt.upd h k fun _ _ hf=>hf
theorem OwnAt.cellsLe {w w':World} {a:Option Addr} {len cap:Nat} {e:TypeId} {size:Nat} {cells:List Value} (h:OwnAt w a len cap e size cells) (k:CellsLe w w'):OwnAt w' a len cap e size cells:=by
 obtain ⟨hl,hc,h⟩:=h
 refine ⟨hl,hc,?_⟩
 rcases h with h | ⟨b,cur,rfl,hb,hs,ht⟩
 .exact .inl h
 .exact .inr ⟨b,cur,rfl,k.get _ _ _ _ hb,hs,ht⟩
theorem OwnAt.blk {w:World} {a:Option Addr} {len cap:Nat} {e:TypeId} {size:Nat} {cells:List Value} (h:OwnAt w a len cap e size cells) {b:Nat} (ha:a=some ⟨b,0,none⟩):b<w.heap.size:=by
 obtain ⟨_,_,h⟩:=h
 rcases h with ⟨h,_⟩| ⟨b',cur,h,hb,_⟩
 .rw [h] at ha;cases ha
 .rw [h] at ha;cases ha;exact (Array.getElem?_eq_some_iff.1 hb).1
theorem OwnAt.new {w w':World} {b:Nat} {cs:Array Value} {e:TypeId} (h:New w (.cells cs e) b w') {n size:Nat} (hs:cs.size=n * size):OwnAt w' (some ⟨b,0,none⟩) n n e size cs.toList :=
 ⟨by simpa using hs,Nat.le_refl _,.inr ⟨b,cs,rfl,h.get,hs,by rw [List.take_of_length_le (by simp [hs])]⟩⟩
theorem read_row {w:World} {a:Option Addr} {len cap size:Nat} {vs:List Value} (h:RowAt w a vs) (hl:vs.length=len * size):readP w size (.slice a len cap) len vs:=by
 unfold readP
 cases vs with
 | nil=>cases a<;>simp at hl ⊢<;>simp [cellsAt,<- hl]
 | cons v vs =>
  obtain ⟨b,o,rfl,_⟩:=RowAt.blk h (by simp)
  exact ⟨hl,RowAt.cells h⟩
theorem append_own' {w:World} {a:Option Addr} {len cap:Nat} {e:TypeId} {size bytes:Nat} {z:List Value} {cells:List Value} (h:OwnAt w a len cap e size cells) {x:Value} {m:Nat} {new:List Value}
  (hx:lenV x=some m) (hr:readP w size x m new) (hm:new.length=m * size) (h1:∀ v∈new,v.oneCell'=true) (hz:z.length=size) (hbig:cap<len+m->Builtin.nextslicecap (len+m) cap * bytes<=2 ^ 48) (hb:len+m<9223372036854775808)
  {K:Option Addr->Nat->Nat->World->Prop}
  (hk:∀ a' c' w',Upd (fun b=>a=some ⟨b,0,none⟩) w w'->OwnAt w' a' (len+m) c' e size (cells ++ new)->(a'=a\/∃ b,a'=some ⟨b,0,none⟩/\w.heap.size<=b)->K a' (len+m) c' w') :
  appendP e size bytes z a len cap x w K:=by
 obtain ⟨hl,hc,h⟩:=h
 refine ⟨m,hx,new,hr,h1,fun hroom=>?_,fun hgrow=>⟨hb,?_,cells,?_,?_⟩⟩
 .rcases h with ⟨rfl,rfl,rfl⟩| ⟨b,cur,rfl,hbk,hs,ht⟩
  .have hm0:m=0:=by omega
   subst hm0
   have hn:new=[]:=List.eq_nil_of_length_eq_zero (by simpa using hm)
   have hc0:cells=[]:=List.eq_nil_of_length_eq_zero (by simpa using hl)
   subst hn;subst hc0
   exact hk none 0 w (Upd.refl _ _) (OwnAt.nil _ _ _) (.inl rfl)
  .simp only [add_lit,Nat.zero_add]
   have hfit:len * size+new.length<=cur.size:=by rw [hm,hs,<- Nat.add_mul];exact Nat.mul_le_mul_right _ hroom
   refine store_of hbk hfit fun w' hput=>hk _ _ w' (Put.upd (Upd.refl _ _) hput (.inr rfl)) ?_ (.inl rfl)
   refine ⟨by simp [hl,hm,Nat.add_mul],hroom,.inr ⟨b,_,rfl,hput.get,by rw [splice_size _ _ _ hfit,hs],?_⟩⟩
   simp only [splice]
   rw [<- ht,Nat.add_mul,<- hm]
   have:(cur.toList.take (len * size) ++ new).length=len * size+new.length:=by simp;omega
   rw [<- this,List.take_append_of_le_length (Nat.le_refl _),List.take_length]
 .exact hbig hgrow
 .exact read_row (by
   rcases h with ⟨rfl,rfl,rfl⟩| ⟨b,cur,rfl,hbk,hs,ht⟩
   .exact .inl (List.eq_nil_of_length_eq_zero (by simpa using hl))
   .exact OwnAt.row ⟨hl,hc,.inr ⟨b,cur,rfl,hbk,hs,ht⟩⟩) hl
 .intro cap' b w' hcap _ hnew
  have e1:Ext w w':=(drew_upd w).trans hnew.upd
  refine hk _ _ w' (Upd.ext e1) ?_ (.inr ⟨b,rfl,by rw [hnew.num];exact Nat.le_refl _⟩)
  refine ⟨by simp [hl,hm,Nat.add_mul],hcap,.inr ⟨b,_,rfl,hnew.get,?_,?_⟩⟩
  .simp [hl,hm,zerosL_length,hz]
   rw [<- Nat.add_mul,<- Nat.add_mul]
   congr 1
   omega
  .have:(cells ++ new).length=(len+m) * size:=by simp [hl,hm,Nat.add_mul]
   simp only []
   rw [<- this,List.take_append_of_le_length (Nat.le_refl _),List.take_length]
theorem append_own {w:World} {a:Option Addr} {len cap:Nat} {e:TypeId} {size bytes:Nat} {z:List Value} {cells:List Value} (h:OwnAt w a len cap e size cells) {x:Value} {m:Nat} {new:List Value}
  (hx:lenV x=some m) (hr:readP w size x m new) (hm:new.length=m * size) (h1:∀ v∈new,v.oneCell'=true) (hz:z.length=size) (hbig:(2 * (len+m)+192) * bytes<=2 ^ 48) (hb:len+m<9223372036854775808)
  {K:Option Addr->Nat->Nat->World->Prop}
  (hk:∀ a' c' w',Upd (fun b=>a=some ⟨b,0,none⟩) w w'->OwnAt w' a' (len+m) c' e size (cells ++ new)->(a'=a\/∃ b,a'=some ⟨b,0,none⟩/\w.heap.size<=b)->K a' (len+m) c' w') :
  appendP e size bytes z a len cap x w K:=by
 exact append_own' h hx hr hm h1 hz (fun hg=>Nat.le_trans (Nat.mul_le_mul_right _ (nextcap_le hg)) hbig) hb hk
theorem oneCell_bytes {l:List UInt8}:∀ v∈l.map bv,v.oneCell'=true:=by
 intro v hv
 simp at hv
 obtain ⟨x,_,rfl⟩:=hv
 rfl
theorem append_bytes {w:World} {a:Option Addr} {l:List UInt8} {cap:Nat} (h:OwnAt w a l.length cap T.uint8 1 (l.map bv)) {ax:Option Addr} {xs:List UInt8} {cx:Nat} (hx:BytesAt w ax xs)
  (hb:l.length+xs.length<=140737488355232) {K:Option Addr->Nat->Nat->World->Prop}
  (hk:∀ a' c' w',Upd (fun b=>a=some ⟨b,0,none⟩) w w'->OwnAt w' a' (l ++ xs).length c' T.uint8 1 ((l ++ xs).map bv)->(a'=a\/∃ b,a'=some ⟨b,0,none⟩/\w.heap.size<=b)->K a' (l ++ xs).length c' w') :
  appendP T.uint8 1 1 [Value.int .u8 0] a l.length cap (.slice ax xs.length cx) w K:=by
 refine append_own h rfl (read_row hx (by simp)) (by simp) oneCell_bytes rfl (by omega) (by omega) fun a' c' w' hu ho hf=>?_
 have:=hk a' c' w' hu (by simpa [List.length_append] using ho) hf
 simpa [List.length_append] using this
theorem slice_from {size:Nat} {a:Option Addr} {len cap:Nat} {k:Int} {K:Option Addr->Nat->Nat->Prop} (h0:0<=k) (h1:k<=len) (h2:len<=cap)
  (hk:K (if cap=k.toNat then a else a.map (·.add (k.toNat * size))) (len - k.toNat) (cap - k.toNat)):sliceP size a len cap (some k) none none K:=by
 refine ⟨by simp,by simp,by simp,by simp;omega,by simpa using h0,by simpa using h1,by simp,?_⟩
 simpa using hk
theorem slice_bytes_from {w:World} {a:Option Addr} {l:List UInt8} {cap:Nat} (h:BytesAt w a l) {k:Int} {K:Option Addr->Nat->Nat->Prop} (h0:0<=k) (h1:k<=l.length) (h2:l.length<=cap)
  (hk:∀ a' c',BytesAt w a' (l.drop k.toNat)->(l.drop k.toNat).length<=c'->(a'=a\/a'=a.map (·.add k.toNat))->(cap=k.toNat->a'=a)->(cap≠k.toNat->a'=a.map (·.add k.toNat))->K a' (l.drop k.toNat).length c'):sliceP 1 a l.length cap (some k) none none K:=by
 refine slice_from h0 h1 h2 ?_
 rw [show l.length - k.toNat=(l.drop k.toNat).length by simp]
 refine hk _ _ ?_ (by simp;omega) ?_ ?_ ?_
 .split
  .rename_i hc
   have:l.drop k.toNat=[]:=List.drop_of_length_le (by omega)
   rw [this];exact BytesAt.nil _ _
  .simpa using BytesAt.from h k.toNat
 .split
  .exact .inl rfl
  .exact .inr (by simp)
 .intro h;rw [if_pos h]
 .intro h;rw [if_neg h];simp
theorem slice_bytes_to {w:World} {a:Option Addr} {l:List UInt8} {cap:Nat} (h:BytesAt w a l) {k:Int} {mx:Option Int} {K:Option Addr->Nat->Nat->Prop} (h0:0<=k) (h1:k<=l.length) (h2:l.length<=cap) (hm:mx=none\/mx=some k)
  (hk:∀ c',BytesAt w a (l.take k.toNat)->(l.take k.toNat).length<=c'->K a (l.take k.toNat).length c'):sliceP 1 a l.length cap none (some k) mx K:=by
 have e:(l.take k.toNat).length=k.toNat:=by simp;omega
 rcases hm with rfl | rfl
 .refine ⟨by simp,by simp,by simpa using h0,by simp;omega,by simp,by simpa using h0,by simp,?_⟩
  have:=hk cap (BytesAt.take h _) (by omega)
  rw [e] at this
  have e2:(if (Option.getD none (cap:Int)).toNat=(Option.getD none (0:Int)).toNat then a else Option.map (fun x=>Addr.add x ((Option.getD none (0:Int)).toNat * 1)) a)=a:=by
   cases a<;>simp [add_zero]
  rw [e2]
  simpa using this
 .refine ⟨by simpa using h0,by simp;omega,by simpa using h0,by simp,by simp,by simpa using h0,by simp,?_⟩
  have:=hk k.toNat (BytesAt.take h _) (by omega)
  rw [e] at this
  have e2:(if (Option.getD (some k) (cap:Int)).toNat=(Option.getD none (0:Int)).toNat then a else Option.map (fun x=>Addr.add x ((Option.getD none (0:Int)).toNat * 1)) a)=a:=by
   cases a<;>simp [add_zero]
  rw [e2]
  simpa using this
theorem slice_bytes_mid {w:World} {a:Option Addr} {l:List UInt8} {cap:Nat} (h:BytesAt w a l) {k m:Int} {mx:Option Int} {K:Option Addr->Nat->Nat->Prop} (h0:0<=k) (h1:k<=m) (hml:m<=l.length) (h2:l.length<=cap) (hm:mx=none\/mx=some m)
  (hk:∀ a' c',BytesAt w a' ((l.take m.toNat).drop k.toNat)->((l.take m.toNat).drop k.toNat).length<=c'->K a' ((l.take m.toNat).drop k.toNat).length c'):sliceP 1 a l.length cap (some k) (some m) mx K:=by
 have e:((l.take m.toNat).drop k.toNat).length=m.toNat - k.toNat:=by simp;omega
 have key:∀ M:Nat,m.toNat<=M->BytesAt w (if M=k.toNat then a else a.map (·.add (k.toNat * 1))) ((l.take m.toNat).drop k.toNat):=by
  intro M hM
  split
  .rename_i hc
   have:(l.take m.toNat).drop k.toNat=[]:=List.drop_of_length_le (by simp;omega)
   rw [this];exact BytesAt.nil _ _
  .simpa using BytesAt.from (BytesAt.take h m.toNat) k.toNat
 rcases hm with rfl | rfl
 .refine ⟨by simp,by simp,by simp;omega,by simp;omega,by simpa using h0,by simpa using h1,by simp,?_⟩
  have:=hk _ (cap - k.toNat) (key cap (by omega)) (by omega)
  rw [e] at this
  simpa using this
 .refine ⟨by simp;omega,by simp;omega,by simp;omega,by simp,by simpa using h0,by simpa using h1,by simp,?_⟩
  have:=hk _ (m.toNat - k.toNat) (key m.toNat (Nat.le_refl _)) (by omega)
  rw [e] at this
  simpa using this
def leB (n:Nat):Nat->List UInt8
 | 0=>[]
 | k+1=>UInt8.ofNat (n % 256) :: leB (n / 256) k
def fromLE:List UInt8->Nat
 | []=>0
 | b :: l=>b.toNat+256 * fromLE l
theorem leB_length (k:Nat):∀ n,(leB n k).length=k:=by
 induction k with
 | zero=>intro n;rfl
 | succ k ih=>intro n;simp [leB,ih]
theorem leB_getD (k:Nat):∀ n i,i<k->(leB n k)[i]?=some (UInt8.ofNat (n / 256 ^ i % 256)):=by
 induction k with
 | zero=>intro n i h;omega
 | succ k ih =>
  intro n i h
  cases i with
  | zero=>simp [leB]
  | succ i=>simp [leB];rw [ih _ _ (by omega),Nat.div_div_eq_div_mul,Nat.pow_succ,Nat.mul_comm]
theorem fromLE_lt (l:List UInt8):fromLE l<256 ^ l.length:=by
 induction l with
 | nil=>simp [fromLE]
 | cons b l ih=>have:=b.toNat_lt;simp only [fromLE,List.length_cons,Nat.pow_succ];omega
theorem fromLE_leB (k:Nat):∀ n,n<256 ^ k->fromLE (leB n k)=n:=by
 induction k with
 | zero=>intro n h;simp at h;simp [leB,fromLE,h]
 | succ k ih =>
  intro n h
  rw [Nat.pow_succ] at h
  simp only [leB,fromLE]
  rw [ih (n / 256) (by omega)]
  simp
  omega
theorem leB_fromLE (l:List UInt8):leB (fromLE l) l.length=l:=by
 induction l with
 | nil=>rfl
 | cons b l ih =>
  have:=b.toNat_lt
  simp only [fromLE,List.length_cons,leB]
  rw [show (b.toNat+256 * fromLE l) / 256=fromLE l by omega,show (b.toNat+256 * fromLE l) % 256=b.toNat by omega,ih]
  simp
theorem fromLE_append (l m:List UInt8):fromLE (l ++ m)=fromLE l+256 ^ l.length * fromLE m:=by
 induction l with
 | nil=>simp [fromLE]
 | cons b l ih=>simp only [List.cons_append,fromLE,ih,List.length_cons,Nat.pow_succ];rw [Nat.mul_add,Nat.add_assoc,<- Nat.mul_assoc,Nat.mul_comm 256 (256 ^ _)]
def isSz (n:Int):Bool:=n == 1 || n == 2 || n == 4 || n == 8
theorem ends_isSize_spec (n:Int) (w:World):CallsR prog K.ends_isSize #[.int .i64 n] w fun v w'=>v= .bool (isSz n)/\w'=w:=by
 apply ends_isSize.sh
 unfold ends_isSize.body isSz
 refine br_eq (fun h=>?_) fun h=>br_eq (fun h=>?_) fun h=>br_eq (fun h=>?_) fun h=>?_<;>simp [*]
theorem carrackref01_Size_spec (n:Int) (w:World):CallsR prog K.carrackref01_Size #[.int .i64 n] w fun v w'=>v= .bool (isSz n)/\w'=w:=by
 apply carrackref01_Size.sh
 unfold carrackref01_Size.body isSz
 refine br_eq (fun h=>?_) fun h=>br_eq (fun h=>?_) fun h=>br_eq (fun h=>?_) fun h=>?_<;>simp [*]
theorem isSz_cases {k:Nat} (h:isSz k=true):k=1\/k=2\/k=4\/k=8:=by
 simp [isSz] at h;omega
theorem pow256 {k:Nat} (h:isSz k=true):(256:Nat) ^ k<=18446744073709551616:=by
 rcases isSz_cases h with rfl | rfl | rfl | rfl<;>decide
theorem pow_shift (i:Nat):(2:Int) ^ (8 * i)=((256 ^ i:Nat):Int):=by
 rw [Int.pow_mul];norm_cast
theorem shr_byte (n i:Nat) (hi:i<8):Int.fdiv n (2 ^ (min (Int.toNat (8 * (i:Int))) 64))=((n / 256 ^ i:Nat):Int):=by
 have e1:(8 * (i:Int)).toNat=8 * i:=by omega
 have e2:min (8 * i) 64=8 * i:=by omega
 rw [e1,e2,pow_shift,Int.fdiv_eq_ediv_of_nonneg _ (by exact Int.natCast_nonneg _)]
 exact (Int.natCast_ediv _ _).symm
theorem zeros_bytes (k:Nat):zerosL [Value.int .u8 0] k=List.replicate k (Value.int .u8 0):=by
 induction k with
 | zero=>rfl
 | succ m ih=>simp [zerosL,ih,List.replicate_succ]
theorem bv_mod (m:Nat):Value.int .u8 (u8.wrap (m:Int))=bv (UInt8.ofNat (m % 256)):=by
 rw [wu8_mod]
 simp
theorem ends_Put_own (n k:Nat) (w:World) (hk:isSz k=true) (hn:n<256 ^ k) :
  CallsR prog K.ends_Put #[.int .u64 n,.int .i64 k] w fun v w'=>∃ a c,v= .tuple #[.slice a k c,.int .i64 0]/\OwnAt w' a k c T.uint8 1 ((leB n k).map bv)/\Fresh w a/\Ext w w':=by
 have hk8:k<=8:=by rcases isSz_cases hk with rfl | rfl | rfl | rfl<;>omega
 have hn64:=Nat.lt_of_lt_of_le hn (pow256 hk)
 apply ends_Put.sh
 refine ⟨fun u=>u=w,?_,?_⟩
 .refine (ends_isSize_spec _ w).mono ?_
  rintro _ _ ⟨rfl,rfl⟩
  refine ⟨_,rfl,?_⟩
  rw [hk]
  simp only [Bool.not_true,br_false]
  refine br_dec (fun h8=>?_) fun h8=>trivial
  have h8':k<8:=by omega
  rw [w64 (by omega) (by omega),wu64 (by omega) (by omega)]
  refine ⟨by omega,br_ne (fun hne=>?_) fun _=>trivial⟩
  exfalso
  apply hne
  simp only [bits_u64]
  rw [shr_byte n k h8',Nat.div_eq_of_lt hn]
  rfl
 .rintro w' rfl
  refine ⟨by omega,by omega,by omega,by omega,rfl,fun b w1 hnew=>?_⟩
  rw [zeros_bytes,Int.toNat_natCast] at hnew
  refine ⟨fun x w2=>∃ i:Nat,x=i/\i<=k/\Ext w' w2/\w2.heap[b]?=some (.cells (((leB n k).map bv).take i ++ (List.replicate k (Value.int .u8 0)).drop i).toArray T.uint8 (0,0)),fun x _=>((k:Int) - x).toNat,
   ⟨0,rfl,by omega,hnew.upd,by simpa using hnew.get⟩,?_⟩
  rintro x w2 ⟨i,rfl,hi,hext,hb⟩
  refine br_dec (fun hlt=>?_) fun hge=>?_
  .simp only [Int.toNat_natCast] at hlt
   have hlt':i<k:=by omega
   have hl:i<((leB n k).map bv).length:=by simp [leB_length];exact hlt'
   rw [w64 (by omega) (by omega),wu64 (by omega) (by omega)]
   refine ⟨by omega,by omega,by simp;omega,?_⟩
   simp only [nilC_some',add_lit,Nat.mul_one,Nat.zero_add,Int.toNat_natCast,bits_u64]
   refine store_of hb (by simp [leB_length];omega) fun w3 hput=>?_
   have hval:Value.int .u8 (u8.wrap (Int.fdiv n (2 ^ (min (Int.toNat (8 * (i:Int))) 64))))=((leB n k).map bv)[i]:=by
    rw [shr_byte n i (by omega),bv_mod]
    have:=leB_getD k n i hlt'
    have e:=(List.getElem?_eq_some_iff.1 this).2
    simp only [List.getElem_map]
    rw [e]
   rw [hval,fill_step _ _ _ hl (by simp [leB_length])] at hput
   rw [w64 (by omega) (by omega)]
   refine ⟨⟨i+1,by omega,by omega,Put.upd hext hput (.inl (by rw [hnew.num];exact Nat.le_refl _)),hput.get⟩,by omega⟩
  .simp only [Int.toNat_natCast] at hge
   have:i=k:=by omega
   subst this
   have hfull:(((leB n i).map bv).take i ++ (List.replicate i (Value.int .u8 0)).drop i)=(leB n i).map bv:=by
    rw [List.take_of_length_le (by simp [leB_length]),List.drop_eq_nil_of_le (by simp),List.append_nil]
   rw [hfull] at hb
   refine ⟨_,i,rfl,⟨by simp [leB_length],Nat.le_refl _,.inr ⟨b,_,rfl,hb,by simp [leB_length],?_⟩⟩,Fresh.some (by rw [hnew.num];exact Nat.le_refl _),hext⟩
   rw [List.take_of_length_le (by simp [leB_length])]
theorem ends_Put_spec (n k:Nat) (w:World) (hk:isSz k=true) (hn:n<256 ^ k) :
  CallsR prog K.ends_Put #[.int .u64 n,.int .i64 k] w fun v w'=>∃ a c,v= .tuple #[.slice a k c,.int .i64 0]/\BytesAt w' a (leB n k)/\Fresh w a/\Ext w w':=by
 refine (ends_Put_own n k w hk hn).mono ?_
 rintro v w' ⟨a,c,rfl,ho,hf,he⟩
 exact ⟨a,c,rfl,ho.row,hf,he⟩
structure ReaderIn (G:Nat->Prop) (w:World) (r:Nat) (l:List UInt8) (no:Bool):Prop where
 at_:∃ a c,w.heap[r]?=some (.cells #[.bool true,.slice a l.length c,.bool no] T.ends_Reader (0,0))/\BytesAt w a l/\l.length<=c/\∀ p,a=some p->G p.block
abbrev ReaderAt (w:World) (r:Nat) (l:List UInt8) (no:Bool):Prop:=ReaderIn (·≠r) w r l no
theorem ReaderIn.mono {G G':Nat->Prop} {w:World} {r:Nat} {l:List UInt8} {no:Bool} (h:ReaderIn G w r l no) (hg:∀ x,G x->G' x):ReaderIn G' w r l no:=by
 obtain ⟨a,c,hr,hb,hc,hn⟩:=h.at_
 exact ⟨a,c,hr,hb,hc,fun p hp=>hg _ (hn p hp)⟩
theorem clone_le (n:Nat):Builtin.nextslicecap n 0=n\/n=0:=by
 unfold Builtin.nextslicecap
 by_cases h:n > 2 * 0
 .left;rw [if_pos h]
 .right;omega
theorem append_copy {a:Option Addr} {l:List UInt8} {c:Nat} {w:World} (hl:BytesAt w a l) (hn:l.length<=281474976710656) {K:Option Addr->Nat->Nat->World->Prop}
  (hk:∀ a' c' w',Ext w w'->BytesAt w' a' l->l.length<=c'->(∀ p,a'=some p->w.heap.size<=p.block)->(l=[]->a'=none)->K a' l.length c' w') :
  appendP T.uint8 1 1 [Value.int .u8 0] none 0 0 (Value.slice a l.length c) w K:=by
 refine ⟨l.length,rfl,l.map bv,?_,?_,?_,?_⟩
 .unfold readP
  cases l with
  | nil=>cases a<;>simp [cellsAt]
  | cons b l =>
   obtain ⟨b',o,rfl,_⟩:=RowAt.blk hl (by simp)
   exact ⟨by simp,hl.cells⟩
 .intro v hv
  simp at hv
  obtain ⟨x,_,rfl⟩:=hv
  rfl
 .intro h
  have:l=[]:=List.eq_nil_of_length_eq_zero (by omega)
  subst this
  exact hk none 0 w (Upd.refl _ _) (RowAt.nil _ _) (by simp) (by simp) (by simp)
 .intro h
  refine ⟨by omega,?_,[],rfl,?_⟩
  .rcases clone_le l.length with h' | h'
   .simp only [Nat.zero_add];rw [h'];omega
   .omega
  .intro cap b w' hcap _ hnew
   have e:Ext w w':=(drew_upd w).trans hnew.upd
   simp only [Nat.zero_add] at hcap ⊢
   refine hk (some ⟨b,0,none⟩) cap w' e (RowAt.of hnew.get fun j v hj=>?_) hcap ?_ ?_
   .have hlt:=(List.getElem?_eq_some_iff.1 hj).1
    simp only [List.nil_append,Nat.zero_add,List.getElem?_toArray]
    rw [List.getElem?_append_left hlt]
    exact hj
   .rintro p hp
    cases hp
    rw [hnew.num]
    exact Nat.le_refl _
   .rintro rfl
    simp at h
theorem ends_New_in (a:Option Addr) (l:List UInt8) (c:Nat) (w:World) (hl:BytesAt w a l) (hn:l.length<=281474976710656) :
  CallsR prog K.ends_New #[.slice a l.length c] w fun v w'=>∃ r,v= .pointer (some ⟨r,0,none⟩)/\w.heap.size<=r/\ReaderIn (fun x=>w.heap.size<=x/\x<r) w' r l false/\Ext w w':=by
 apply ends_New.sh
 unfold ends_New.body
 refine append_copy hl hn fun a' c' w1 e hb hc hfr hnil r w2 hnew=>?_
 refine ⟨r,rfl,?_,⟨a',c',hnew.get,hb.ext hnew.upd,hc,?_⟩,e.trans hnew.upd⟩
 .rw [hnew.num];exact e.size
 .rintro p rfl
  refine ⟨hfr p rfl,?_⟩
  rw [hnew.num]
  by_cases hl0:l=[]
  .exact absurd (hnil hl0) (by simp)
  .obtain ⟨b,o,hab,hlt⟩:=RowAt.blk hb (by simpa using hl0)
   cases hab
   exact hlt
theorem ends_New_spec (a:Option Addr) (l:List UInt8) (c:Nat) (w:World) (hl:BytesAt w a l) (hn:l.length<=281474976710656) :
  CallsR prog K.ends_New #[.slice a l.length c] w fun v w'=>∃ r,v= .pointer (some ⟨r,0,none⟩)/\w.heap.size<=r/\ReaderAt w' r l false/\Ext w w' :=
 (ends_New_in a l c w hl hn).mono fun v w' ⟨r,h1,h2,h3,h4⟩=>⟨r,h1,h2,h3.mono fun x hx=>by omega,h4⟩
theorem ends_Reader_off_spec {G:Nat->Prop} (r:Nat) (l:List UInt8) (no:Bool) (w:World) (h:ReaderIn G w r l no) :
  CallsR prog K.ends_Reader_off #[.pointer (some ⟨r,0,none⟩)] w fun v w'=>v= .bool false/\w'=w:=by
 obtain ⟨a,c,hr,_⟩:=h.at_
 apply ends_Reader_off.sh
 simp only [ends_Reader_off.body,Option.isNone_some,br_false,nilC_some']
 exact ⟨true,cell_of hr rfl,rfl,trivial⟩
theorem ends_Reader_cut_in {G:Nat->Prop} (r k:Nat) (l:List UInt8) (no:Bool) (w:World) (hG:¬ G r) (h:ReaderIn G w r l no) :
  CallsR prog K.ends_Reader_cut #[.pointer (some ⟨r,0,none⟩),.int .i64 k] w fun v w'=>Upd (·=r) w w'/\
   if no=true\/l.length<k then v= .tuple #[.slice none 0 0,.int .i64 4]/\ReaderIn G w' r l true
   else ∃ a c,v= .tuple #[.slice a k c,.int .i64 0]/\BytesAt w' a (l.take k)/\ReaderIn G w' r (l.drop k) false:=by
 obtain ⟨a,c,hr,hb,hlc,hne⟩:=h.at_
 apply ends_Reader_cut.sh
 simp only [ends_Reader_cut.body,nilC_some',add_lit,Nat.zero_add]
 refine ⟨no,cell_of hr rfl,?_⟩
 have hno:∀ w',Put w r (.cells (splice #[Value.bool true,Value.slice a l.length c,Value.bool no] 2 [Value.bool true]) T.ends_Reader (0,0)) w'->ReaderIn G w' r l true:=by
  intro w' hput
  refine ⟨a,c,hput.get,RowAt.upd hb hput.upd1 fun p hp e=>hG (e ▸ hne p hp),hlc,hne⟩
 cases no with
 | true =>
  simp only [br_true]
  refine store_of hr (by simp) fun w' hput=>⟨hput.upd1,?_⟩
  simp only [true_or,if_true]
  exact ⟨trivial,hno w' hput⟩
 | false =>
  simp only [br_false]
  refine ⟨a,l.length,c,cell_of hr rfl,br_dec (fun hlt=>?_) fun hge=>?_⟩
  .refine store_of hr (by simp) fun w' hput=>⟨hput.upd1,?_⟩
   have:l.length<k:=by omega
   simp only [this,or_true,if_true]
   exact ⟨trivial,hno w' hput⟩
  .have hk:k<=l.length:=by omega
   refine ⟨a,l.length,c,cell_of hr rfl,?_⟩
   refine ⟨by simp,by simp;omega,by simp,by simp,by simp,by simp,by simp,a,l.length,c,cell_of hr rfl,?_⟩
   refine ⟨by simp,by simp,by simp,by simp;omega,by simp,by simp;omega,by simp,?_⟩
   refine store_of hr (by simp) fun w' hput=>⟨hput.upd1,?_⟩
   have hnk:¬ (false=true\/l.length<k):=by simp;omega
   rw [if_neg hnk]
   have hb':BytesAt w' a l:=RowAt.upd hb hput.upd1 fun p hp e=>hG (e ▸ hne p hp)
   refine ⟨_,_,rfl,?_,?_⟩
   .simp only [Option.getD_some,Option.getD_none,Int.toNat_natCast,Int.toNat_zero,Nat.zero_mul]
    have e:(if k=0 then a else Option.map (fun x=>Addr.add x 0) a)=a:=by
     cases a<;>simp [add_zero]
    rw [e]
    exact BytesAt.take hb' k
   .simp only [Option.getD_some,Option.getD_none,Int.toNat_natCast,Nat.mul_one] at hput ⊢
    by_cases hck:c=k
    .have hlk:l.length=k:=by omega
     rw [if_pos hck] at hput
     have hd:l.drop k=[]:=List.drop_of_length_le (by omega)
     refine ⟨a,c - k,?_,by rw [hd];exact RowAt.nil _ _,by simp;omega,hne⟩
     rw [hput.get]
     simp [splice]
    .rw [if_neg hck] at hput
     refine ⟨a.map (·.add k),c - k,?_,?_,by simp;omega,?_⟩
     .rw [hput.get]
      simp [splice]
     .exact BytesAt.from hb' k
     .intro p hp
      cases ha:a with
      | none=>simp [ha] at hp
      | some q =>
       simp [ha] at hp
       subst hp
       have:=hne q ha
       simp only [Addr.add]
       split<;>exact this
theorem fromLE_take_succ (l:List UInt8) (i:Nat) (h:i<l.length):fromLE (l.take (i+1))=fromLE (l.take i)+256 ^ i * (l.getD i 0).toNat:=by
 rw [List.take_succ_eq_append_getElem h,fromLE_append,List.length_take,Nat.min_eq_left (by omega)]
 simp [fromLE,List.getD,h]
theorem or_add (a b i:Nat) (ha:a<256 ^ i) (hb:b<256) (hi:i<8) :
  u64.wrap (((BitVec.ofInt (IntKind.bits .u64) (a:Int) ||| BitVec.ofInt (IntKind.bits .u64) (u64.wrap ((u64.wrap (b:Int)) * 2 ^ (min (Int.toNat (u64.wrap (i64.wrap (8 * (i:Int))))) (IntKind.bits .u64))))).toNat:Nat):Int)=((a+256 ^ i * b:Nat):Int):=by
 show u64.wrap (((BitVec.ofInt 64 (a:Int) ||| BitVec.ofInt 64 (u64.wrap ((u64.wrap (b:Int)) * 2 ^ (min (Int.toNat (u64.wrap (i64.wrap (8 * (i:Int))))) 64)))).toNat:Nat):Int)=((a+256 ^ i * b:Nat):Int)
 have e0:(256:Nat) ^ i=2 ^ (8 * i):=by rw [Nat.pow_mul]
 have h8:(256:Nat) ^ (i+1)<=256 ^ 8:=Nat.pow_le_pow_right (by omega) (by omega)
 rw [Nat.pow_succ] at h8
 have h88:(256:Nat) ^ 8=18446744073709551616:=by decide
 have hab:256 ^ i * b<18446744073709551616:=by
  have:256 ^ i * b<256 ^ i * 256:=Nat.mul_lt_mul_of_pos_left hb (Nat.pow_pos (by omega))
  omega
 have hsum:a+256 ^ i * b<18446744073709551616:=by
  have:256 ^ i * b+256 ^ i<=256 ^ i * 256:=by
   rw [<- Nat.mul_succ];exact Nat.mul_le_mul_left _ (by omega)
  omega
 have q1:i64.wrap (8 * (i:Int))=8 * i:=w64 (by omega) (by omega)
 have q2:u64.wrap (8 * (i:Int))=8 * i:=wu64 (by omega) (by omega)
 have q3:u64.wrap (b:Int)=b:=wu64 (by omega) (by omega)
 rw [q1,q2,q3]
 have e1:(8 * (i:Int)).toNat=8 * i:=by omega
 have e2:min (8 * i) 64=8 * i:=by omega
 rw [e1,e2,pow_shift]
 have e3:(b:Int) * ((256 ^ i:Nat):Int)=((256 ^ i * b:Nat):Int):=by rw [Nat.mul_comm];exact (Int.natCast_mul _ _).symm
 have q4:u64.wrap ((256 ^ i * b:Nat):Int)=((256 ^ i * b:Nat):Int):=wu64 (Int.natCast_nonneg _) (by omega)
 rw [e3,q4]
 have e4:∀ n:Nat,n<18446744073709551616->(BitVec.ofInt 64 (n:Int)).toNat=n:=by
  intro n hn
  rw [BitVec.ofInt_natCast,BitVec.toNat_ofNat]
  exact Nat.mod_eq_of_lt hn
 rw [BitVec.toNat_or,e4 a (by omega),e4 _ hab]
 have e5:a ||| 256 ^ i * b=a+256 ^ i * b:=by
  rw [e0,Nat.or_comm,Nat.add_comm,Nat.two_pow_add_eq_or_of_lt (by rw [<- e0];exact ha)]
 rw [e5,wu64 (Int.natCast_nonneg _) (by omega)]
theorem ends_Reader_Take_in {G:Nat->Prop} (r k:Nat) (l:List UInt8) (no:Bool) (w:World) (hk:isSz k=true) (hG:¬ G r) (h:ReaderIn G w r l no) :
  CallsR prog K.ends_Reader_Take #[.pointer (some ⟨r,0,none⟩),.int .i64 k] w fun v w'=>Upd (·=r) w w'/\
   if no=true\/l.length<k then v= .tuple #[.int .u64 0,.int .i64 4]/\ReaderIn G w' r l true
   else v= .tuple #[.int .u64 (fromLE (l.take k)),.int .i64 0]/\ReaderIn G w' r (l.drop k) false:=by
 have hk8:k<=8:=by rcases isSz_cases hk with rfl | rfl | rfl | rfl<;>omega
 apply ends_Reader_Take.sh
 unfold ends_Reader_Take.body
 refine (ends_Reader_off_spec r l no w h).mono ?_
 rintro _ _ ⟨rfl,rfl⟩
 refine ⟨_,rfl,?_⟩
 rw [br_false]
 refine (ends_isSize_spec _ _).mono ?_
 rintro _ w ⟨rfl,rfl⟩
 refine ⟨_,rfl,?_⟩
 rw [hk]
 simp only [Bool.not_true,br_false]
 refine (ends_Reader_cut_in r k l no w hG h).mono ?_
 rintro v w1 ⟨hupd,hv⟩
 split at hv
 .rename_i hc
  obtain ⟨rfl,hr⟩:=hv
  refine ⟨_,_,_,_,rfl,fun x y u=>x=0/\y=0/\u=w1,fun _ _ _=>0,⟨rfl,rfl,rfl⟩,?_⟩
  rintro x y u ⟨rfl,rfl,rfl⟩
  simp only [Int.natCast_zero,Int.lt_irrefl,decide_false,br_false]
  rw [if_pos hc]
  exact ⟨hupd,trivial,hr⟩
 .rename_i hc
  obtain ⟨a,c,rfl,hb,hr⟩:=hv
  have hkl:k<=l.length:=by
   rcases Nat.lt_or_ge l.length k with h' | h'
   .exact absurd (.inr h') hc
   .exact h'
  have hlen:(l.take k).length=k:=by simp;omega
  refine ⟨_,_,_,_,rfl,fun x y u=>∃ i:Nat,y=i/\i<=k/\x=(fromLE ((l.take k).take i):Nat)/\u=w1,fun _ y _=>((k:Int) - y).toNat,⟨0,rfl,by omega,rfl,rfl⟩,?_⟩
  rintro x y u ⟨i,rfl,hi,rfl,rfl⟩
  refine br_dec (fun hlt=>?_) fun hge=>?_
  .have hlt':i<k:=by omega
   have hb':=hb
   rw [show k=(l.take k).length from hlen.symm]
   refine idx_byte hb (by omega) (by omega) ?_
   rw [hlen]
   simp only [Int.toNat_natCast]
   have hlt2:=fromLE_lt ((l.take k).take i)
   have hi2:((l.take k).take i).length=i:=by simp;omega
   rw [hi2] at hlt2
   rw [or_add _ _ i hlt2 (UInt8.toNat_lt _) (by omega),<- fromLE_take_succ _ i (by omega)]
   refine ⟨by rw [w64 (by omega) (by omega),wu64 (by omega) (by omega)];omega,?_,?_⟩
   .rw [w64 (by omega) (by omega)]
    exact ⟨i+1,by omega,by omega,rfl,by trivial⟩
   .rw [w64 (by omega) (by omega)];omega
  .have:i=k:=by omega
   subst this
   rw [if_neg hc,List.take_of_length_le (by omega)]
   exact ⟨hupd,rfl,hr⟩
theorem ends_Reader_Take_spec (r k:Nat) (l:List UInt8) (no:Bool) (w:World) (hk:isSz k=true) (h:ReaderAt w r l no) :
  CallsR prog K.ends_Reader_Take #[.pointer (some ⟨r,0,none⟩),.int .i64 k] w fun v w'=>Upd (·=r) w w'/\
   if no=true\/l.length<k then v= .tuple #[.int .u64 0,.int .i64 4]/\ReaderAt w' r l true
   else v= .tuple #[.int .u64 (fromLE (l.take k)),.int .i64 0]/\ReaderAt w' r (l.drop k) false:=ends_Reader_Take_in r k l no w hk (fun h=>h rfl) h
def zeros8 (b:UInt8):Nat:=((List.range 8).filter fun k=>b.toNat / 2 ^ k % 2 == 0).length
def noughts (l:List UInt8):Nat:=(l.map zeros8).sum
def isBlank (l:List UInt8):Bool:=l.all (· == 255)
def isSize (n:Int):Bool:=decide (n≥128) && decide (n<=256)
def pageRest (size:Nat) (kind:UInt8) (body:List UInt8):List UInt8:=kind :: (leB body.length 2 ++ body ++ List.replicate (size - 5 - body.length) 255)
def pageOf (size:Nat) (kind:UInt8) (body:List UInt8):List UInt8:=leB (noughts (pageRest size kind body)) 2 ++ pageRest size kind body
def getPage (b:List UInt8):UInt8×List UInt8×Nat :=
 if isSize b.length=false then (0,[],2)
 else if isBlank b=true then (0,[],6)
 else if fromLE (b.take 2)≠noughts (b.drop 2) then (0,[],7)
 else if b.getD 2 0<1\/b.getD 2 0 > 7\/fromLE ((b.drop 3).take 2) > b.length - 5\/isBlank (b.drop (5+fromLE ((b.drop 3).take 2)))=false then (0,[],5)
 else (b.getD 2 0,(b.take (5+fromLE ((b.drop 3).take 2))).drop 5,0)
theorem zeros8_le (b:UInt8):zeros8 b<=8:=by
 unfold zeros8
 exact Nat.le_trans (List.length_filter_le _ _) (by simp)
theorem noughts_append (l m:List UInt8):noughts (l ++ m)=noughts l+noughts m:=by simp [noughts]
theorem noughts_le (l:List UInt8):noughts l<=8 * l.length:=by
 induction l with
 | nil=>simp [noughts]
 | cons b l ih =>
  have:=zeros8_le b
  simp only [noughts,List.map_cons,List.sum_cons,List.length_cons] at ih ⊢
  omega
theorem noughts_take_succ (l:List UInt8) (i:Nat) (h:i<l.length):noughts (l.take (i+1))=noughts (l.take i)+zeros8 (l.getD i 0):=by
 rw [List.take_succ_eq_append_getElem h,noughts_append]
 simp [noughts,List.getD,h]
theorem zeros8_ff:∀ b:UInt8,zeros8 b=0 ↔ b=255:=by
 have key:∀ x:Fin 256,zeros8 (UInt8.ofNat x.val)=0 ↔ UInt8.ofNat x.val=255:=by decide +kernel
 intro b
 have:=key ⟨b.toNat,b.toNat_lt⟩
 simpa using this
theorem noughts_zero (l:List UInt8):noughts l=0 ↔ isBlank l=true:=by
 induction l with
 | nil=>simp [noughts,isBlank]
 | cons b l ih =>
  have h1:noughts (b :: l)=zeros8 b+noughts l:=by simp [noughts]
  have h2:isBlank (b :: l)=((b == 255) && isBlank l):=by simp [isBlank]
  rw [h1,h2,Nat.add_eq_zero_iff,ih,zeros8_ff]
  simp
theorem pageRest_length (size:Nat) (kind:UInt8) (body:List UInt8) (h:body.length+5<=size):(pageRest size kind body).length=size - 2:=by
 simp [pageRest,leB_length];omega
theorem pageOf_length (size:Nat) (kind:UInt8) (body:List UInt8) (h:body.length+5<=size):(pageOf size kind body).length=size:=by
 simp only [pageOf,List.length_append,leB_length,pageRest_length size kind body h];omega
theorem ones_tbl:∀ x:UInt8,(⟨(List.toArray (List.append (List.append [0,1,1,2,1,2,2,3,1,2,2,3,2,3,3,4,1,2,2,3,2,3,3,4,2,3,3,4,3,4,4,5,1,2,2,3,2,3,3,4,2,3,3,4,3,4,4,5,2,3,3,4,3,4,4,5,3,4,4,5,4,5,5,6] [1,2,2,3,2,3,3,4,2,3,3,4,3,4,4,5,2,3,3,4,3,4,4,5,3,4,4,5,4,5,5,6,2,3,3,4,3,4,4,5,3,4,4,5,4,5,5,6,3,4,4,5,4,5,5,6,4,5,5,6,5,6,6,7]) (List.append [1,2,2,3,2,3,3,4,2,3,3,4,3,4,4,5,2,3,3,4,3,4,4,5,3,4,4,5,4,5,5,6,2,3,3,4,3,4,4,5,3,4,4,5,4,5,5,6,3,4,4,5,4,5,5,6,4,5,5,6,5,6,6,7] [2,3,3,4,3,4,4,5,3,4,4,5,4,5,5,6,3,4,4,5,4,5,5,6,4,5,5,6,5,6,6,7,3,4,4,5,4,5,5,6,4,5,5,6,5,6,6,7,4,5,5,6,5,6,6,7,5,6,6,7,6,7,7,8])))⟩: ByteArray).data.toList[x.toNat]?=some (UInt8.ofNat (zeros8 (~~~ x))):=by
 have key:∀ x:Fin 256,(⟨(List.toArray (List.append (List.append [0,1,1,2,1,2,2,3,1,2,2,3,2,3,3,4,1,2,2,3,2,3,3,4,2,3,3,4,3,4,4,5,1,2,2,3,2,3,3,4,2,3,3,4,3,4,4,5,2,3,3,4,3,4,4,5,3,4,4,5,4,5,5,6] [1,2,2,3,2,3,3,4,2,3,3,4,3,4,4,5,2,3,3,4,3,4,4,5,3,4,4,5,4,5,5,6,2,3,3,4,3,4,4,5,3,4,4,5,4,5,5,6,3,4,4,5,4,5,5,6,4,5,5,6,5,6,6,7]) (List.append [1,2,2,3,2,3,3,4,2,3,3,4,3,4,4,5,2,3,3,4,3,4,4,5,3,4,4,5,4,5,5,6,2,3,3,4,3,4,4,5,3,4,4,5,4,5,5,6,3,4,4,5,4,5,5,6,4,5,5,6,5,6,6,7] [2,3,3,4,3,4,4,5,3,4,4,5,4,5,5,6,3,4,4,5,4,5,5,6,4,5,5,6,5,6,6,7,3,4,4,5,4,5,5,6,4,5,5,6,5,6,6,7,4,5,5,6,5,6,6,7,5,6,6,7,6,7,7,8])))⟩: ByteArray).data.toList[(UInt8.ofNat x.val).toNat]?=some (UInt8.ofNat (zeros8 (~~~ (UInt8.ofNat x.val)))):=by decide +kernel
 intro x
 have:=key ⟨x.toNat,x.toNat_lt⟩
 simpa only [UInt8.ofNat_toNat] using this
theorem bits_OnesCount8_spec (x:UInt8) (w:World):CallsR prog K.bits_OnesCount8 #[.int .u8 (x.toNat:Int)] w fun v w'=>v= .int .i64 (zeros8 (~~~ x):Nat)/\w'=w:=by
 apply bits_OnesCount8.sh
 unfold bits_OnesCount8.body
 refine ⟨by omega,UInt8.ofNat (zeros8 (~~~ x)),?_,?_⟩
 .rw [Int.toNat_natCast];exact ones_tbl x
 .have h:=zeros8_le (~~~ x)
  refine ⟨?_,rfl⟩
  have:(UInt8.ofNat (zeros8 (~~~ x))).toNat=zeros8 (~~~ x):=by
   rw [UInt8.toNat_ofNat'];omega
  rw [this,w64 (by omega) (by omega)]
theorem ofInt_byte (x:UInt8):BitVec.ofInt 8 (x.toNat:Int)=x.toBitVec:=by
 apply BitVec.eq_of_toNat_eq
 rw [BitVec.ofInt_natCast,BitVec.toNat_ofNat]
 exact Nat.mod_eq_of_lt x.toNat_lt
theorem byte_not (x:UInt8):u8.wrap (((BitVec.ofInt (IntKind.bits .u8) (if IntKind.signed .u8 then -1 else IntKind.max .u8) ^^^ BitVec.ofInt (IntKind.bits .u8) (x.toNat:Int)).toNat:Nat):Int)=((~~~ x).toNat:Int):=by
 show u8.wrap (((BitVec.ofInt 8 255 ^^^ BitVec.ofInt 8 (x.toNat:Int)).toNat:Nat):Int)=_
 rw [ofInt_byte]
 have e:BitVec.ofInt 8 255 ^^^ x.toBitVec=(~~~ x).toBitVec:=by
  rw [UInt8.toBitVec_not,show BitVec.ofInt 8 255=BitVec.allOnes 8 from rfl,BitVec.allOnes_xor]
 rw [e,wu8 (Int.natCast_nonneg _) (by have:=(~~~ x).toNat_lt;show ((~~~ x).toNat:Int)<256;omega)]
 rfl
theorem seal_Noughts_spec {a:Option Addr} {l:List UInt8} {c:Nat} {w:World} (h:BytesAt w a l) (hn:l.length<=100000) :
  CallsR prog K.seal_Noughts #[.slice a l.length c] w fun v w'=>v= .int .i64 (noughts l:Nat)/\w'=w:=by
 apply seal_Noughts.sh
 refine ⟨fun x y u=>∃ i:Nat,y=i/\i<=l.length/\x=(noughts (l.take i):Nat)/\u=w,fun _ y _=>((l.length:Int) - y).toNat,⟨0,rfl,by omega,by simp [noughts],rfl⟩,?_⟩
 rintro x y u ⟨i,rfl,hi,rfl,rfl⟩
 refine br_dec (fun hlt=>?_) fun hge=>?_
 .refine idx_byte h (by omega) (by omega) ?_
  rw [byte_not]
  refine (bits_OnesCount8_spec _ _).mono ?_
  rintro _ _ ⟨rfl,rfl⟩
  refine ⟨_,rfl,?_⟩
  have h1:=noughts_le (l.take i)
  have h2:(l.take i).length<=i:=by simp;omega
  have h3:∀ x:UInt8,~~~ (~~~ x)=x:=fun x=>by simp
  rw [h3]
  have h4:=zeros8_le (l.getD i 0)
  simp only [Int.toNat_natCast]
  rw [w64 (by omega) (by omega),w64 (by omega) (by omega)]
  exact ⟨⟨i+1,by omega,by omega,by rw [noughts_take_succ l i (by omega)];omega,by trivial⟩,by omega⟩
 .have:i=l.length:=by omega
  subst this
  rw [List.take_length]
  exact ⟨rfl,by trivial⟩
theorem isBlank_take_succ (l:List UInt8) (i:Nat) (h:i<l.length):isBlank (l.take (i+1))=(isBlank (l.take i) && l.getD i 0 == 255):=by
 rw [List.take_succ_eq_append_getElem h]
 simp only [isBlank,List.all_append,List.getD,List.getElem?_eq_getElem h,Option.getD_some]
 simp
theorem isBlank_get {l:List UInt8} (h:isBlank l=true) {i:Nat} (hi:i<l.length):l.getD i 0=255:=by
 simp [isBlank] at h
 simp [List.getD,hi]
 exact h _ (List.getElem_mem hi)
theorem seal_Blank_spec {a:Option Addr} {l:List UInt8} {c:Nat} {w:World} (h:BytesAt w a l) (hn:l.length<=100000) :
  CallsR prog K.seal_Blank #[.slice a l.length c] w fun v w'=>v= .bool (isBlank l)/\w'=w:=by
 apply seal_Blank.sh
 refine ⟨fun y u=>∃ i:Nat,y=i/\i<=l.length/\isBlank (l.take i)=true/\u=w,fun y _=>((l.length:Int) - y).toNat,⟨0,rfl,by omega,by simp [isBlank],rfl⟩,?_⟩
 rintro y u ⟨i,rfl,hi,hb,rfl⟩
 refine br_dec (fun hlt=>?_) fun hge=>?_
 .refine idx_byte h (by omega) (by omega) ?_
  simp only [Int.toNat_natCast]
  have hi':i<l.length:=by omega
  refine br_ne (fun hne=>?_) fun heq=>?_
  .refine ⟨?_,by trivial⟩
   have:isBlank l=false:=by
    cases hbl:isBlank l with
    | false=>rfl
    | true=>exfalso;apply hne;rw [isBlank_get hbl hi'];rfl
   rw [this]
  .have:l.getD i 0=255:=by
    apply UInt8.toNat_inj.1
    show _=255
    omega
   rw [w64 (by omega) (by omega)]
   exact ⟨⟨i+1,by omega,by omega,by rw [isBlank_take_succ l i hi',hb,this];rfl,by trivial⟩,by omega⟩
 .have:i=l.length:=by omega
  subst this
  rw [List.take_length] at hb
  exact ⟨by rw [hb],by trivial⟩
theorem seal_isSize_spec (n:Int) (w:World):CallsR prog K.seal_isSize #[.int .i64 n] w fun v w'=>v= .bool (isSize n)/\w'=w:=by
 apply seal_isSize.sh
 unfold seal_isSize.body isSize
 refine br_dec (fun h=>?_) fun h=>?_<;>simp [h]
theorem carrackref02_Size_spec (n:Int) (w:World):CallsR prog K.carrackref02_Size #[.int .i64 n] w fun v w'=>v= .bool (isSize n)/\w'=w:=by
 apply carrackref02_Size.sh
 unfold carrackref02_Size.body isSize
 refine br_dec (fun h=>?_) fun h=>?_<;>simp [h]
theorem seal_Body_spec (n:Int) (w:World):CallsR prog K.seal_Body #[.int .i64 n] w fun v w'=>v= .int .i64 (if isSize n=true then n - 5 else 0)/\w'=w:=by
 apply seal_Body.sh
 unfold seal_Body.body
 refine (seal_isSize_spec n w).mono ?_
 rintro _ _ ⟨rfl,rfl⟩
 refine ⟨_,rfl,?_⟩
 cases h:isSize n with
 | false=>simp
 | true =>
  simp [isSize] at h
  simp only [Bool.not_true,br_false]
  rw [w64 (by omega) (by omega)]
  simp
theorem copy_into {w:World} {b:Nat} {cur:Array Value} {o n:Nat} {ax:Option Addr} {xs:List UInt8} {cx:Nat} (hb:w.heap[b]?=some (.cells cur T.uint8 (0,0))) (hx:BytesAt w ax xs) (hn:xs.length<=n) (hl:o+xs.length<=cur.size)
  {K:Int->World->Prop} (hk:∀ w',Put w b (.cells (splice cur o (xs.map bv)) T.uint8 (0,0)) w'->K xs.length w'):copyP 1 (some ⟨b,o,none⟩) n (.slice ax xs.length cx) w K:=by
 refine ⟨xs.length,rfl,xs.map bv,?_,oneCell_bytes,?_⟩
 .have:=read_row (cap:=cx) (size:=1) hx (len:=xs.length) (by simp)
  rw [show min xs.length n=xs.length by omega]
  exact this
 .rw [show min xs.length n=xs.length by omega]
  exact store_of hb (by simpa using hl) fun w' hput=>hk w' hput
theorem splice_bytes (l:List UInt8) (o:Nat) (xs:List UInt8):splice ((l.map bv).toArray) o (xs.map bv)=((l.take o ++ xs ++ l.drop (o+xs.length)).map bv).toArray:=by
 simp [splice]
theorem seal_Put_spec (size k:Int) (kind:UInt8) (hk:k=(kind.toNat:Int)) {a:Option Addr} {body:List UInt8} {c:Nat} {w:World} (h:BytesAt w a body) (hn:body.length<=281474976710656) :
  CallsR prog K.seal_Put #[.int .i64 size,.int .u8 k,.slice a body.length c] w fun v w'=>Ext w w'/\
   if isSize size=false\/kind<1\/kind > 7 then v= .tuple #[.slice none 0 0,.int .i64 2]
   else if (body.length:Int) > size - 5 then v= .tuple #[.slice none 0 0,.int .i64 3]
   else ∃ a c,v= .tuple #[.slice a size.toNat c,.int .i64 0]/\BytesAt w' a (pageOf size.toNat kind body)/\Fresh w a/\size.toNat<=c:=by
 subst hk
 have hklt:=kind.toNat_lt
 apply seal_Put.sh
 unfold seal_Put.body
 have e1:kind<1 ↔ (kind.toNat:Int)<1:=by rw [UInt8.lt_iff_toNat_lt];show kind.toNat<1 ↔ _;omega
 have e7:kind > 7 ↔ (kind.toNat:Int) > 7:=by show (7:UInt8)<kind ↔ _;rw [UInt8.lt_iff_toNat_lt];show 7<kind.toNat ↔ _;omega
 refine ⟨fun u=>u=w/\isSize size=true/\¬ kind<1/\¬ kind > 7/\¬ (body.length:Int) > size - 5,?_,?_⟩
 .refine (seal_isSize_spec _ w).mono ?_
  rintro _ _ ⟨rfl,rfl⟩
  refine ⟨_,rfl,?_⟩
  cases hs:isSize size with
  | false=>simp only [Bool.not_false,br_true,true_or,if_true];exact ⟨Upd.refl _ _,trivial⟩
  | true =>
   simp only [Bool.not_true,br_false]
   refine br_dec (fun h1=>⟨Upd.refl _ _,?_⟩) fun h1=>br_dec (fun h7=>⟨Upd.refl _ _,?_⟩) fun h7=>?_
   .rw [if_pos (.inr (.inl (e1.2 h1)))];trivial
   .rw [if_pos (.inr (.inr (e7.2 h7)))];trivial
   .refine (seal_Body_spec _ _).mono ?_
    rintro _ u ⟨rfl,rfl⟩
    refine ⟨_,rfl,?_⟩
    rw [hs]
    simp only [if_true]
    have hcond:¬ (true=false\/kind<1\/kind > 7):=by rw [e1,e7];simp;omega
    refine br_dec (fun hl=>⟨Upd.refl _ _,?_⟩) fun hl=>⟨by trivial,by trivial,fun h=>h1 (e1.1 h),fun h=>h7 (e7.1 h),hl⟩
    rw [if_neg hcond,if_pos hl];trivial
 .rintro w' ⟨rfl,hs,hk1,hk7,hbl⟩
  have hs':=hs
  simp [isSize] at hs'
  obtain ⟨m,hm⟩: ∃ m:Nat,size=(m+5:Nat):=⟨(size - 5).toNat,by omega⟩
  subst hm
  have hbl':body.length<=m:=by omega
  refine ⟨by omega,by omega,by omega,by omega,rfl,fun b w1 hnew=>?_⟩
  rw [zeros_bytes,Int.toNat_natCast] at hnew
  refine ⟨fun x w2=>∃ i:Nat,x=i/\i<=m+5/\Ext w' w2/\w2.heap[b]?=some (.cells ((List.replicate (m+5) (bv 255)).take i ++ (List.replicate (m+5) (Value.int .u8 0)).drop i).toArray T.uint8 (0,0)),fun x _=>((m+5:Nat) - x).toNat,
   ⟨0,rfl,by omega,hnew.upd,by simpa using hnew.get⟩,?_⟩
  rintro x w2 ⟨i,rfl,hi,hext,hb⟩
  have hbn:w'.heap.size<=b:=by rw [hnew.num];exact Nat.le_refl _
  refine br_dec (fun hlt=>?_) fun hge=>?_
  .simp only [Int.toNat_natCast] at hlt
   have hl:i<(List.replicate (m+5) (bv 255)).length:=by simp;omega
   refine ⟨by omega,by simp;omega,?_⟩
   simp only [nilC_some',add_lit,Nat.mul_one,Nat.zero_add,Int.toNat_natCast]
   refine store_of hb (by simp;omega) fun w3 hput=>?_
   have hval:Value.int .u8 255=(List.replicate (m+5) (bv 255))[i]:=by simp
   rw [hval,fill_step _ _ _ hl (by simp)] at hput
   rw [w64 (by omega) (by omega)]
   exact ⟨⟨i+1,by omega,by omega,Put.upd hext hput (.inl hbn),hput.get⟩,by omega⟩
  .simp only [Int.toNat_natCast] at hge
   have:i=m+5:=by omega
   subst this
   have hb0:w2.heap[b]?=some (.cells ((List.replicate (m+5) (255:UInt8)).map bv).toArray T.uint8 (0,0)):=by
    rw [hb];simp
   clear hb
   have hbs:=(Array.getElem?_eq_some_iff.1 hb0).1
   rw [wu64 (by omega) (by omega)]
   have hp1:=ends_Put_spec body.length 2 w2 (by rfl) (by
       have:(256:Nat) ^ 2=65536:=by decide
       omega)
   refine hp1.mono ?_
   rintro _ w3 ⟨a2,c2,rfl,hb2,hf2,he3⟩
   refine ⟨_,_,_,_,rfl,?_⟩
   refine ⟨by omega,by simp;omega,?_⟩
   simp only [nilC_some',add_lit,Nat.mul_one,Nat.zero_add,Int.toNat_natCast,tn2]
   have hb3:=Ext.get he3 hb0
   refine store_of hb3 (by simp) fun w4 hput4=>?_
   have hne2:∀ p,a2=some p->¬ p.block=b:=fun p hp e=>by have:=hf2 p hp;omega
   have hb2':=RowAt.upd hb2 hput4.upd1 hne2
   have s1:=splice_bytes (List.replicate (m+5) (255:UInt8)) 2 [kind]
   simp only [List.map_cons,List.map_nil] at s1
   rw [s1] at hput4
   refine slice_from (by omega) (by omega) (by omega) ?_
   rw [if_neg (by omega)]
   simp only [Option.map_some,add_lit,Nat.mul_one,Nat.zero_add,tn2,tn3,tn5,Int.toNat_natCast]
   have hlen2:=leB_length 2 body.length
   have hrw:(2:Nat)=(leB body.length 2).length:=hlen2.symm
   have hcp1:∀ {K:Int->World->Prop},(∀ u,Put w4 b (.cells (splice ((((List.replicate (m+5) (255:UInt8)).take 2 ++ [kind] ++ (List.replicate (m+5) (255:UInt8)).drop (2 + [kind].length)).map bv).toArray) 3 ((leB body.length 2).map bv)) T.uint8 (0,0)) u->K (leB body.length 2).length u)->
     copyP 1 (some ⟨b,3,none⟩) (m+5 - 3) (.slice a2 2 c2) w4 K:=by
    intro K hK
    have:=copy_into (n:=m+5 - 3) (cx:=c2) (o:=3) hput4.get hb2' (by rw [hlen2];omega) (by simp [hlen2]) hK
    rwa [hlen2] at this
   refine hcp1 fun w5 hput5=>?_
   rw [splice_bytes] at hput5
   refine slice_from (by omega) (by omega) (by omega) ?_
   rw [if_neg (by omega)]
   simp only [Option.map_some,add_lit,Nat.mul_one,Nat.zero_add,tn2,tn3,tn5,Int.toNat_natCast]
   have hE5:Ext w' w5:=Put.upd (Put.upd (hext.trans he3) hput4 (.inl hbn)) hput5 (.inl hbn)
   refine copy_into hput5.get (h.ext hE5) (by simp;omega) (by simp [hlen2];omega) fun w6 hput6=>?_
   rw [splice_bytes] at hput6
   have hE6:Ext w' w6:=Put.upd hE5 hput6 (.inl hbn)
   have hL:∃ b0 b1,leB body.length 2=[b0,b1]:=by
    match hq:leB body.length 2,hlen2 with
    | [b0,b1],_=>exact ⟨b0,b1,rfl⟩
   obtain ⟨b0,b1,hL⟩:=hL
   have hrest:(((List.replicate (m+5) (255:UInt8)).take 2 ++ [kind] ++ (List.replicate (m+5) (255:UInt8)).drop (2 + [kind].length)).take 3 ++ leB body.length 2 ++ ((List.replicate (m+5) (255:UInt8)).take 2 ++ [kind] ++ (List.replicate (m+5) (255:UInt8)).drop (2 + [kind].length)).drop (3+(leB body.length 2).length)).take 5 ++ body ++
     (((List.replicate (m+5) (255:UInt8)).take 2 ++ [kind] ++ (List.replicate (m+5) (255:UInt8)).drop (2 + [kind].length)).take 3 ++ leB body.length 2 ++ ((List.replicate (m+5) (255:UInt8)).take 2 ++ [kind] ++ (List.replicate (m+5) (255:UInt8)).drop (2 + [kind].length)).drop (3+(leB body.length 2).length)).drop (5+body.length)=[255,255] ++ pageRest (m+5) kind body:=by
    simp only [hL,pageRest]
    have r5:List.replicate (m+5) (255:UInt8)=255 :: 255 :: 255 :: 255 :: 255 :: List.replicate m 255:=rfl
    simp only [r5]
    simp
    rw [show 5+body.length=body.length+5 by omega]
    simp
   rw [hrest] at hput6
   have hP6:=hput6.get
   refine slice_from (by omega) (by omega) (by omega) ?_
   rw [if_neg (by omega)]
   simp only [Option.map_some,add_lit,Nat.mul_one,Nat.zero_add,tn2,tn3,tn5,Int.toNat_natCast]
   have hPR:=pageRest_length (m+5) kind body (by omega)
   have hbp:BytesAt w6 (some ⟨b,2,none⟩) (pageRest (m+5) kind body):=RowAt.of hP6 fun j v hj=>by
    simp only [List.map_append,List.getElem?_toArray]
    rw [List.getElem?_append_right (by simp)]
    simpa using hj
   have hlen6:(m+5 - 2)=(pageRest (m+5) kind body).length:=by rw [hPR]
   rw [hlen6]
   refine (seal_Noughts_spec hbp (by rw [hPR];omega)).mono ?_
   rintro _ _ ⟨rfl,rfl⟩
   refine ⟨_,rfl,?_⟩
   have hnl:=noughts_le (pageRest (m+5) kind body)
   rw [hPR] at hnl
   rw [wu64 (by omega) (by omega)]
   rename_i w7
   refine (ends_Put_spec (noughts (pageRest (m+5) kind body)) 2 w7 (by rfl) (by
       have:(256:Nat) ^ 2=65536:=by decide
       omega)).mono ?_
   rintro _ w8 ⟨a3,c3,rfl,hb3',hf3,he8⟩
   refine ⟨_,_,_,_,rfl,?_⟩
   have hlen3:=leB_length 2 (noughts (pageRest (m+5) kind body))
   have hP8:=Ext.get he8 hP6
   have hcp2:∀ {K:Int->World->Prop},(∀ u,Put w8 b (.cells (splice ((([255,255] ++ pageRest (m+5) kind body).map bv).toArray) 0 ((leB (noughts (pageRest (m+5) kind body)) 2).map bv)) T.uint8 (0,0)) u->K (leB (noughts (pageRest (m+5) kind body)) 2).length u)->
     copyP 1 (some ⟨b,0,none⟩) (m+5) (.slice a3 2 c3) w8 K:=by
    intro K hK
    have:=copy_into (n:=m+5) (cx:=c3) (o:=0) hP8 hb3' (by rw [hlen3];simp) (by simp [hlen3]) hK
    rwa [hlen3] at this
   refine hcp2 fun w9 hput9=>?_
   rw [splice_bytes] at hput9
   have hE9:Ext w' w9:=Put.upd (hE6.trans he8) hput9 (.inl hbn)
   refine ⟨hE9,?_⟩
   have hcond:¬ (isSize ((m+5:Nat):Int)=false\/kind<1\/kind > 7):=by rw [hs];simp only [Bool.true_eq_false,false_or];exact fun h=>h.elim hk1 hk7
   rw [if_neg hcond,if_neg hbl]
   refine ⟨_,_,rfl,RowAt.of hput9.get fun j v hj=>?_,Fresh.some hbn,Nat.le_refl _⟩
   have hfin:(([255,255] ++ pageRest (m+5) kind body).take 0 ++ leB (noughts (pageRest (m+5) kind body)) 2 ++ ([255,255] ++ pageRest (m+5) kind body).drop (0+(leB (noughts (pageRest (m+5) kind body)) 2).length))=pageOf (m+5) kind body:=by
    rw [hlen3];simp [pageOf]
   rw [hfin]
   simpa using hj
theorem fromLE_one (b:UInt8):fromLE [b]=b.toNat:=by simp [fromLE]
def GetIs (w:World) (v:Value) (r:UInt8×List UInt8×Nat):Prop :=
 ∃ a c,v= .tuple #[bv r.1,.slice a r.2.1.length c,.int .i64 (r.2.2:Nat)]/\BytesAt w a r.2.1/\r.2.1.length<=c
theorem seal_Get_spec {a:Option Addr} {b:List UInt8} {c:Nat} {w:World} (h:BytesAt w a b) (hc:b.length<=c) :
  CallsR prog K.seal_Get #[.slice a b.length c] w fun v w'=>Ext w w'/\GetIs w' v (getPage b):=by
 apply seal_Get.sh
 unfold seal_Get.body
 refine (seal_isSize_spec _ w).mono ?_
 rintro _ _ ⟨rfl,rfl⟩
 refine ⟨_,rfl,?_⟩
 rename_i w
 cases hs:isSize b.length with
 | false =>
  simp only [Bool.not_false,br_true]
  have hg:getPage b=(0,[],2):=by unfold getPage;rw [if_pos hs]
  rw [hg]
  exact ⟨Upd.refl _ _,none,0,rfl,BytesAt.nil _ _,Nat.le_refl _⟩
 | true =>
  have hs':=hs
  simp [isSize] at hs'
  simp only [Bool.not_true,br_false]
  refine (seal_Blank_spec h (by omega)).mono ?_
  rintro _ _ ⟨rfl,rfl⟩
  rename_i w
  refine ⟨_,rfl,?_⟩
  cases hbl:isBlank b with
  | true =>
   have hg:getPage b=(0,[],6):=by unfold getPage;rw [if_neg (by rw [hs];simp),if_pos hbl]
   rw [br_true,hg]
   exact ⟨Upd.refl _ _,none,0,rfl,BytesAt.nil _ _,Nat.le_refl _⟩
  | false =>
   rw [br_false]
   refine slice_bytes_to h (by omega) (by omega) hc (.inr rfl) fun c1 hb5 hc1=>?_
   rw [tn5] at hb5 hc1 ⊢
   refine (ends_New_spec _ _ c1 w hb5 (by simp;omega)).mono ?_
   rintro _ w3 ⟨r,rfl,hfr,hrd,he3⟩
   refine ⟨_,rfl,?_⟩
   have hl5:(b.take 5).length=5:=by simp;omega
   refine (ends_Reader_Take_spec r 2 _ false w3 rfl hrd).mono ?_
   rintro _ w4 ⟨hu4,hv⟩
   rw [if_neg (by rw [hl5];simp)] at hv
   obtain ⟨rfl,hrd4⟩:=hv
   refine ⟨_,_,rfl,?_⟩
   have hE4:Ext w w4:=Upd.beyond he3 hu4 fun x hx=>by rw [hx];exact hfr
   have hb4:=h.ext hE4
   refine slice_bytes_from hb4 (by omega) (by omega) hc fun a2 c2 hb2 hc2 _ _ _=>?_
   rw [tn2] at hb2 hc2 ⊢
   refine (seal_Noughts_spec hb2 (by simp;omega)).mono ?_
   rintro _ _ ⟨rfl,rfl⟩
   rename_i w4
   refine ⟨_,rfl,?_⟩
   have ht2:(b.take 5).take 2=b.take 2:=by rw [List.take_take];rfl
   have hlt2:=fromLE_lt (b.take 2)
   have h256:(256:Nat) ^ 2=65536:=by decide
   have hlen2:(b.take 2).length=2:=by simp;omega
   rw [hlen2,h256] at hlt2
   rw [ht2,w64 (by omega) (by omega)]
   refine br_ne (fun hne=>?_) fun heq=>?_
   .have hg:getPage b=(0,[],7):=by
     unfold getPage
     rw [if_neg (by rw [hs];simp),if_neg (by rw [hbl];simp),if_pos (by intro e;apply hne;rw [e])]
    rw [hg]
    exact ⟨hE4,none,0,rfl,BytesAt.nil _ _,Nat.le_refl _⟩
   .have heq':fromLE (b.take 2)=noughts (b.drop 2):=by omega
    refine (ends_Reader_Take_spec r 1 _ false w4 rfl hrd4).mono ?_
    rintro _ w5 ⟨hu5,hv⟩
    have hd2:((b.take 5).drop 2).length=3:=by simp;omega
    rw [if_neg (by rw [hd2];simp)] at hv
    obtain ⟨rfl,hrd5⟩:=hv
    refine ⟨_,_,rfl,?_⟩
    refine (ends_Reader_Take_spec r 2 _ false w5 rfl hrd5).mono ?_
    rintro _ w6 ⟨hu6,hv⟩
    have hd3:(((b.take 5).drop 2).drop 1).length=2:=by simp;omega
    rw [if_neg (by rw [hd3];simp)] at hv
    obtain ⟨rfl,hrd6⟩:=hv
    refine ⟨_,_,rfl,?_⟩
    have hE6:Ext w w6:=Upd.beyond (Upd.beyond hE4 hu5 fun x hx=>by rw [hx];exact hfr) hu6 fun x hx=>by rw [hx];exact hfr
    have hk:((b.take 5).drop 2).take 1=[b.getD 2 0]:=by
     apply List.ext_getElem?
     intro j
     cases j with
     | zero =>
      have:2<b.length:=by omega
      simp [List.getD,this]
     | succ j=>simp;omega
    have hn:(((b.take 5).drop 2).drop 1).take 2=(b.drop 3).take 2:=by
     rw [List.drop_drop,List.drop_take,List.take_take]
     rfl
    rw [hk,hn,fromLE_one]
    have hltn:=fromLE_lt ((b.drop 3).take 2)
    have hlenn:((b.drop 3).take 2).length=2:=by simp;omega
    rw [hlenn,h256] at hltn
    have hklt:=(b.getD 2 0).toNat_lt
    have ek1:b.getD 2 0<1 ↔ ((b.getD 2 0).toNat:Int)<1:=by rw [UInt8.lt_iff_toNat_lt];show (b.getD 2 0).toNat<1 ↔ _;omega
    have ek7:b.getD 2 0 > 7 ↔ ((b.getD 2 0).toNat:Int) > 7:=by show (7:UInt8)<b.getD 2 0 ↔ _;rw [UInt8.lt_iff_toNat_lt];show 7<(b.getD 2 0).toNat ↔ _;omega
    have hg0:getPage b=if b.getD 2 0<1\/b.getD 2 0 > 7\/fromLE ((b.drop 3).take 2) > b.length - 5\/isBlank (b.drop (5+fromLE ((b.drop 3).take 2)))=false then (0,[],5)
      else (b.getD 2 0,(b.take (5+fromLE ((b.drop 3).take 2))).drop 5,0):=by
     unfold getPage
     rw [if_neg (by rw [hs];simp),if_neg (by rw [hbl];simp),if_neg (by intro h;exact h heq')]
    generalize hN:fromLE ((b.drop 3).take 2)=n at *
    have bad:∀ u,Ext w u->(b.getD 2 0<1\/b.getD 2 0 > 7\/n > b.length - 5\/isBlank (b.drop (5+n))=false)->Ext w u/\GetIs u (.tuple #[.int .u8 0,.slice none 0 0,.int .i64 5]) (getPage b):=by
     intro u hu hcond
     rw [hg0,if_pos hcond]
     exact ⟨hu,none,0,rfl,BytesAt.nil _ _,Nat.le_refl _⟩
    refine br_dec (fun h1=>bad _ hE6 (.inl (ek1.2 h1))) fun h1=>br_dec (fun h7=>bad _ hE6 (.inr (.inl (ek7.2 h7)))) fun h7=>?_
    refine (seal_Body_spec _ _).mono ?_
    rintro _ _ ⟨rfl,rfl⟩
    rename_i w6
    refine ⟨_,rfl,?_⟩
    rw [hs,if_pos rfl,w64 (by omega) (by omega)]
    refine br_dec (fun hbig=>bad _ hE6 (.inr (.inr (.inl (by omega))))) fun hbig=>?_
    rw [w64 (by omega) (by omega)]
    have e5n:(5+(n:Int))=((5+n:Nat):Int):=by omega
    rw [e5n]
    have hb6:=h.ext hE6
    refine slice_bytes_from hb6 (by omega) (by omega) hc fun a3 c3 hb3 hc3 _ _ _=>?_
    rw [Int.toNat_natCast] at hb3 hc3 ⊢
    refine (seal_Blank_spec hb3 (by simp;omega)).mono ?_
    rintro _ _ ⟨rfl,rfl⟩
    rename_i w6
    refine ⟨_,rfl,?_⟩
    cases hbn:isBlank (b.drop (5+n)) with
    | false=>simp only [Bool.not_false,br_true];exact bad _ hE6 (.inr (.inr (.inr hbn)))
    | true =>
     simp only [Bool.not_true,br_false]
     refine slice_bytes_mid hb6 (by omega) (by omega) (by omega) hc (.inl rfl) fun a4 c4 hb4 hc4=>?_
     rw [Int.toNat_natCast,tn5] at hb4 hc4 ⊢
     refine append_copy hb4 (by simp;omega) fun a5 c5 w7 he7 hb7 hc7 _ _=>?_
     refine ⟨hE6.trans he7,?_⟩
     have hgood:¬ (b.getD 2 0<1\/b.getD 2 0 > 7\/n > b.length - 5\/isBlank (b.drop (5+n))=false):=by
      rintro (h' | h' | h' | h')
      .exact h1 (ek1.1 h')
      .exact h7 (ek7.1 h')
      .omega
      .rw [hbn] at h';cases h'
     rw [hg0,if_neg hgood,wu8 (by omega) (by omega)]
     exact ⟨a5,c5,rfl,hb7,hc7⟩
end Go.Den
namespace Go.Den
structure Hit where
 after:Int
 fails:Bool
 mask:List UInt8
structure Chip where
 nb:Nat
 np:Nat
 sz:Nat
 sp:Nat
 blocks:List (List UInt8)
 bad:List Bool
 hits:List Hit
 since:Int
 dead:Bool
 deeds:Int
namespace Chip
structure Ok (c:Chip):Prop where
 nb1:8<=c.nb
 nb2:c.nb<=64
 np1:4<=c.np
 np2:c.np<=32
 sz1:128<=c.sz
 sz2:c.sz<=256
 bl:c.blocks.length=c.nb
 bl2:∀ b∈c.blocks,b.length=c.np * c.sz
 bad:c.bad.length=c.nb
def blk (c:Chip) (i:Nat):List UInt8:=c.blocks.getD i []
def isBad (c:Chip) (i:Nat):Bool:=c.bad.getD i false
def page (c:Chip) (i k:Nat):List UInt8:=((c.blk i).drop (k * c.sz)).take c.sz
def ask (c:Chip) (block page:Int):Nat :=
 if c.dead then 10 else if block<0\/block≥c.nb\/page<0\/page≥c.np then 2 else 0
def strike (c:Chip):Chip×Option Hit :=
 match c.hits with
 | []=>({ c with deeds:=i64.wrap (c.deeds+1) },none)
 | h :: r=>if c.since<h.after then ({ c with deeds:=i64.wrap (c.deeds+1),since:=i64.wrap (c.since+1) },none)
  else ({ c with deeds:=i64.wrap (c.deeds+1),since:=0,hits:=r },some h)
end Chip
def maskAt (h:Option Hit) (i:Nat):UInt8 :=
 match h with
 | none=>255
 | some h=>if h.mask.length=0 then 0 else h.mask.getD (i % h.mask.length) 0
def mix (m old new:UInt8):UInt8:=(old &&& ~~~ m) ||| (new &&& m)
def mixL (h:Option Hit) (old new:List UInt8):List UInt8:=(List.range old.length).map fun i=>mix (maskAt h i) (old.getD i 0) (new.getD i 0)
namespace Chip
def setBlk (c:Chip) (i:Nat) (b:List UInt8):Chip:={ c with blocks:=c.blocks.set i b }
def finish (c:Chip) (block:Nat) (h:Option Hit):Chip×Nat :=
 match h with
 | none=>(c,0)
 | some h=>if h.fails then ({ c with bad:=c.bad.set block true },9) else ({ c with dead:=true },10)
def done (c:Chip) (block off n:Nat) (new:List UInt8):Chip×Nat :=
 (c.strike.1.setBlk block ((c.blk block).take off ++ mixL c.strike.2 (((c.blk block).drop off).take n) new ++ (c.blk block).drop (off+n))).finish block c.strike.2
def program (c:Chip) (block page:Int) (b:List UInt8):Chip×Nat :=
 if c.ask block page≠0 then (c,c.ask block page)
 else if b.length≠c.sz then (c,2)
 else if c.isBad block.toNat then (c,9)
 else if isBlank ((c.blk block.toNat).drop (page.toNat * c.sz))=false then (c,8)
 else c.done block.toNat (page.toNat * c.sz) c.sz b
def erase (c:Chip) (block:Int):Chip×Nat :=
 if c.ask block 0≠0 then (c,c.ask block 0)
 else if c.isBad block.toNat then (c,9)
 else c.done block.toNat 0 (c.np * c.sz) (List.replicate (c.np * c.sz) 255)
def power (c:Chip):Chip:={ c with hits:=[],since:=0,dead:=false,deeds:=0 }
end Chip
theorem mixL_length (h:Option Hit) (old new:List UInt8):(mixL h old new).length=old.length:=by simp [mixL]
theorem mixL_get (h:Option Hit) (old new:List UInt8) (i:Nat) (hi:i<old.length):(mixL h old new)[i]?=some (mix (maskAt h i) (old.getD i 0) (new.getD i 0)):=by
 simp [mixL,hi]
theorem mix_int (m old new:UInt8) :
  u8.wrap (((BitVec.ofInt (IntKind.bits .u8) (u8.wrap (((BitVec.ofInt (IntKind.bits .u8) (old.toNat:Int) &&& ~~~ (BitVec.ofInt (IntKind.bits .u8) (m.toNat:Int))).toNat:Nat):Int)) |||
   BitVec.ofInt (IntKind.bits .u8) (u8.wrap (((BitVec.ofInt (IntKind.bits .u8) (new.toNat:Int) &&& BitVec.ofInt (IntKind.bits .u8) (m.toNat:Int)).toNat:Nat):Int))).toNat:Nat):Int)=((mix m old new).toNat:Int):=by
 show u8.wrap (((BitVec.ofInt 8 (u8.wrap (((BitVec.ofInt 8 (old.toNat:Int) &&& ~~~ (BitVec.ofInt 8 (m.toNat:Int))).toNat:Nat):Int)) |||
   BitVec.ofInt 8 (u8.wrap (((BitVec.ofInt 8 (new.toNat:Int) &&& BitVec.ofInt 8 (m.toNat:Int)).toNat:Nat):Int))).toNat:Nat):Int)=_
 simp only [ofInt_byte]
 have e1:old.toBitVec &&& ~~~ m.toBitVec=(old &&& ~~~ m).toBitVec:=by rw [UInt8.toBitVec_and,UInt8.toBitVec_not]
 have e2:new.toBitVec &&& m.toBitVec=(new &&& m).toBitVec:=by rw [UInt8.toBitVec_and]
 rw [e1,e2]
 have w:∀ x:UInt8,u8.wrap ((x.toBitVec.toNat:Nat):Int)=(x.toNat:Int):=by
  intro x
  have hx:=x.toNat_lt
  have e:x.toBitVec.toNat=x.toNat:=rfl
  rw [e,wu8 (by omega) (by omega)]
 rw [w (old &&& ~~~ m),w (new &&& m),ofInt_byte,ofInt_byte,<- UInt8.toBitVec_or,w]
 rfl
end Go.Den
namespace Go.Den
theorem BytesAt.updM {G F:Nat->Prop} {w w':World} {m:Option Addr} {l:List UInt8} (hb:BytesAt w m l) (k:Upd F w w') (hg:l≠[]->∀ p,m=some p->G p.block) (hf:∀ x,G x->¬ F x):BytesAt w' m l:=by
 cases l with
 | nil=>exact BytesAt.nil _ _
 | cons x l=>exact RowAt.upd hb k (fun p hp=>hf _ (hg (by simp) p hp))
def HitRow (w:World) (G:Nat->Prop):List Value->List Hit->Prop
 | vs,[]=>vs=[]
 | vs,h :: hs=>∃ m c r,vs=Value.int .i64 h.after :: Value.bool h.fails :: Value.slice m h.mask.length c :: r/\BytesAt w m h.mask/\(h.mask≠[]->∀ p,m=some p->G p.block)/\HitRow w G r hs
theorem HitRow.upd {G F:Nat->Prop} {w w':World} (k:Upd F w w') (hf:∀ x,G x->¬ F x):∀ {hs:List Hit} {vs:List Value},HitRow w G vs hs->HitRow w' G vs hs
 | [],vs,h=>h
 | h :: hs,vs,⟨m,c,r,e,hb,hg,hr⟩=>⟨m,c,r,e,hb.updM k hg hf,hg,HitRow.upd k hf hr⟩
theorem HitRow.length {w:World} {G:Nat->Prop}:∀ {hs:List Hit} {vs:List Value},HitRow w G vs hs->vs.length=hs.length * 3
 | [],vs,h=>by cases h;rfl
 | h :: hs,vs,⟨m,c,r,e,hb,hg,hr⟩=>by rw [e];simp [HitRow.length hr];omega
theorem HitRow.mono {w:World} {G H:Nat->Prop} (hgh:∀ x,G x->H x):∀ {hs:List Hit} {vs:List Value},HitRow w G vs hs->HitRow w H vs hs
 | [],vs,h=>h
 | h :: hs,vs,⟨m,c,r,e,hb,hg,hr⟩=>⟨m,c,r,e,hb,fun hn p hp=>hgh _ (hg hn p hp),HitRow.mono hgh hr⟩
structure Loc where
 bb:Nat
 cbad:Nat
 pb:Nat
 cb:Nat
 ha:Option Addr
 ch:Nat
 locs:List Nat
def chipCells (c:Chip) (L:Loc):Array Value :=
 #[.int .i64 c.nb,.int .i64 c.np,.int .i64 c.sz,.int .i64 c.sp,.slice (some ⟨L.pb,0,none⟩) c.nb L.cb,.slice (some ⟨L.bb,0,none⟩) c.nb L.cbad,.slice L.ha c.hits.length L.ch,
  .int .i64 c.since,.bool c.dead,.int .i64 c.deeds]
structure ChipRep (w:World) (p:Nat) (c:Chip) (L:Loc) (G:Nat->Prop):Prop where
 ok:c.Ok
 head:w.heap[p]?=some (.cells (chipCells c L) T.nand_Chip (0,0))
 bad:OwnAt w (some ⟨L.bb,0,none⟩) c.nb L.cbad T.bool 1 (c.bad.map Value.bool)
 rows:∃ vs,OwnAt w (some ⟨L.pb,0,none⟩) c.nb L.cb T.L_uint8 1 vs/\∀ i,i<c.nb->∃ l cap,L.locs[i]?=some l/\vs[i]?=some (.slice (some ⟨l,0,none⟩) (c.np * c.sz) cap)/\OwnAt w (some ⟨l,0,none⟩) (c.np * c.sz) cap T.uint8 1 ((c.blk i).map bv)
 hits:∃ vs,RowAt w L.ha vs/\HitRow w G vs c.hits/\c.hits.length<=L.ch/\∀ a,L.ha=some a->G a.block
 len:L.locs.length=c.nb
 nodup:(p :: L.bb :: L.locs).Nodup
 apart:∀ x,x∈p :: L.bb :: L.locs->¬ G x
 pbG:G L.pb
def ChipAt (w:World) (p:Nat) (c:Chip) (F:Nat->Prop):Prop :=
 ∃ L G,ChipRep w p c L G/\(∀ x,x∈p :: L.bb :: L.locs->F x)/\(∀ x,G x->F x)/\∀ x,F x->x<w.heap.size
theorem ChipRep.upd {F G:Nat->Prop} {w w':World} {p:Nat} {c:Chip} {L:Loc} (h:ChipRep w p c L G) (k:Upd F w w') (hm:∀ x,x∈p :: L.bb :: L.locs->¬ F x) (hg:∀ x,G x->¬ F x):ChipRep w' p c L G:=by
 refine ⟨h.ok,k.get h.head (hm _ (by simp)),OwnAt.upd h.bad k (fun b hb=>by cases hb;exact hm _ (by simp)),?_,?_,h.len,h.nodup,h.apart,h.pbG⟩
 .obtain ⟨vs,ho,hv⟩:=h.rows
  refine ⟨vs,OwnAt.upd ho k (fun b hb=>by cases hb;exact hg _ h.pbG),fun i hi=>?_⟩
  obtain ⟨l,cap,hl,hvi,hbi⟩:=hv i hi
  exact ⟨l,cap,hl,hvi,OwnAt.upd hbi k (fun b hb=>by cases hb;exact hm _ (by simp [List.mem_of_getElem? hl]))⟩
 .obtain ⟨vs,hr,hh,hc,ha⟩:=h.hits
  exact ⟨vs,RowAt.upd hr k (fun a e=>hg _ (ha a e)),HitRow.upd k hg hh,hc,ha⟩
theorem ChipRep.ext {G:Nat->Prop} {w w':World} {p:Nat} {c:Chip} {L:Loc} (h:ChipRep w p c L G) (k:Ext w w'):ChipRep w' p c L G:=h.upd k (fun _ _ hf=>hf) (fun _ _ hf=>hf)
theorem ChipAt.mono {F H:Nat->Prop} {w:World} {p:Nat} {c:Chip} (h:ChipAt w p c F) (hs:∀ x,F x->H x) (hl:∀ x,H x->x<w.heap.size):ChipAt w p c H:=by
 obtain ⟨L,G,hr,hm,hg,_⟩:=h
 exact ⟨L,G,hr,fun x hx=>hs x (hm x hx),fun x hx=>hs x (hg x hx),hl⟩
theorem ChipAt.ok {F:Nat->Prop} {w:World} {p:Nat} {c:Chip} (h:ChipAt w p c F):c.Ok:=by
 obtain ⟨_,_,hr,_⟩:=h
 exact hr.ok
theorem ChipAt.at_ {F:Nat->Prop} {w:World} {p:Nat} {c:Chip} (h:ChipAt w p c F):F p/\p<w.heap.size:=by
 obtain ⟨L,G,hr,hm,_,hs⟩:=h
 exact ⟨hm p (by simp),hs p (hm p (by simp))⟩
theorem Chip.Ok.blk_len {c:Chip} (h:c.Ok) {i:Nat} (hi:i<c.nb):(c.blk i).length=c.np * c.sz:=by
 have hl:i<c.blocks.length:=by rw [h.bl];exact hi
 have:c.blk i=c.blocks[i]:=by simp [Chip.blk,List.getD,hl]
 rw [this]
 exact h.bl2 _ (List.getElem_mem hl)
theorem Chip.Ok.size_le {c:Chip} (h:c.Ok):c.np * c.sz<=8192:=by
 have:=Nat.mul_le_mul h.np2 h.sz2
 omega
theorem page_in {c:Chip} {k:Nat} (hk:k<c.np):k * c.sz+c.sz<=c.np * c.sz:=by
 have:(k+1) * c.sz<=c.np * c.sz:=Nat.mul_le_mul_right _ hk
 rwa [Nat.succ_mul] at this
theorem nand_off_spec {w:World} {p:Nat} {c:Chip} {L:Loc} {G:Nat->Prop} (h:ChipRep w p c L G) :
  CallsR prog K.nand_Chip_off #[.pointer (some ⟨p,0,none⟩)] w fun v w'=>v= .bool false/\w'=w:=by
 apply nand_Chip_off.sh
 simp only [nand_Chip_off.body,Option.isNone_some,br_false,nilC_some',add_lit]
 exact ⟨_,_,_,cell_of h.head rfl,rfl,by trivial⟩
theorem nand_ask_spec {w:World} {p:Nat} {c:Chip} {L:Loc} {G:Nat->Prop} (h:ChipRep w p c L G) (block page:Int) :
  CallsR prog K.nand_Chip_ask #[.pointer (some ⟨p,0,none⟩),.int .i64 block,.int .i64 page] w fun v w'=>v= .int .i64 (c.ask block page:Nat)/\w'=w:=by
 apply nand_Chip_ask.sh
 unfold nand_Chip_ask.body
 refine (nand_off_spec h).mono ?_
 rintro _ _ ⟨rfl,rfl⟩
 refine ⟨_,rfl,?_⟩
 simp only [br_false,nilC_some',add_lit]
 refine ⟨c.dead,cell_of h.head rfl,?_⟩
 unfold Chip.ask
 cases hd:c.dead with
 | true=>simp
 | false =>
  simp only [br_false,Bool.false_eq_true,if_false]
  refine br_dec (fun h1=>⟨by rw [if_pos (by omega)];rfl,by trivial⟩) fun h1=>⟨_,cell_of h.head rfl,br_dec (fun h2=>⟨by rw [if_pos (by omega)];rfl,by trivial⟩) fun h2=>br_dec (fun h3=>⟨by rw [if_pos (by omega)];rfl,by trivial⟩) fun h3=>⟨_,cell_of h.head rfl,br_dec (fun h4=>⟨by rw [if_pos (by omega)];rfl,by trivial⟩) fun h4=>⟨by rw [if_neg (by omega)];rfl,by trivial⟩⟩⟩
theorem ask_zero {c:Chip} {block page:Int} (h:c.ask block page=0):c.dead=false/\0<=block/\block.toNat<c.nb/\0<=page/\page.toNat<c.np:=by
 unfold Chip.ask at h
 split at h
 .cases h
 .rename_i hd
  split at h
  .cases h
  .exact ⟨by simpa using hd,by omega,by omega,by omega,by omega⟩
theorem nand_Geo_spec {w:World} {p:Nat} {c:Chip} {L:Loc} {G:Nat->Prop} (h:ChipRep w p c L G) :
  CallsR prog K.nand_Chip_Geo #[.pointer (some ⟨p,0,none⟩)] w fun v w'=>v= .agg #[.int .i64 c.nb,.int .i64 c.np,.int .i64 c.sz,.int .i64 c.sp]/\Ext w w':=by
 apply nand_Chip_Geo.sh
 intro B w1 hnew
 have h1:=h.ext hnew.upd
 refine (nand_off_spec h1).mono ?_
 rintro _ _ ⟨rfl,rfl⟩
 rename_i w1
 refine ⟨_,rfl,?_⟩
 simp only [br_false,nilC_some']
 refine ⟨c.nb,c.np,c.sz,c.sp,cellsAt_of (o:=0) h1.head (fun j v hj=>?_),?_⟩
 .match j,hj with
  | 0,hj=>simpa [chipCells] using hj
  | 1,hj=>simpa [chipCells] using hj
  | 2,hj=>simpa [chipCells] using hj
  | 3,hj=>simpa [chipCells] using hj
  | j+4,hj=>simp at hj
 .refine store_of hnew.get (by simp) fun w2 hput=>?_
  refine ⟨c.nb,c.np,c.sz,c.sp,cellsAt_of (o:=0) hput.get (fun j v hj=>?_),rfl,Put.upd hnew.upd hput (.inl (by rw [hnew.num];exact Nat.le_refl _))⟩
  rw [splice_all _ _ (by simp)]
  simpa using hj
theorem nand_page_spec {w:World} {p:Nat} {c:Chip} {L:Loc} {G:Nat->Prop} (h:ChipRep w p c L G) (block page:Nat) (hb:block<c.nb) (hp:page<c.np) :
  CallsR prog K.nand_Chip_page #[.pointer (some ⟨p,0,none⟩),.int .i64 block,.int .i64 page] w fun v w'=>Ext w w'/\∃ l,L.locs[block]?=some l/\v= .slice (some ⟨l,page * c.sz,none⟩) c.sz c.sz:=by
 apply nand_Chip_page.sh
 intro w1 hdrew
 have h1:=h.ext hdrew.upd
 refine ⟨fun u=>Ext w u,hdrew.upd,?_⟩
 simp only [nilC_some',add_lit]
 refine ⟨c.sz,fun u hu=>cell_of (h.ext hu).head rfl,c.sz,fun u hu=>cell_of (h.ext hu).head rfl,_,_,_,cell_of h1.head rfl,?_⟩
 obtain ⟨vs,ho,hv⟩:=h1.rows
 obtain ⟨l,cap,hl,hvi,hbi⟩:=hv block hb
 refine ⟨by omega,by omega,?_⟩
 obtain ⟨b',o',hab,hc⟩:=RowAt.cell ho.row hvi
 cases hab
 simp only [nilC_some',add_lit,Nat.mul_one,Int.toNat_natCast]
 refine ⟨_,_,_,hc,?_⟩
 have hok:=h.ok
 have hnp:=hok.np2
 have hsz:=hok.sz2
 have hsz1:=hok.sz1
 have hps:=page_in hp
 have hle:=hok.size_le
 have hcap:=hbi.2.1
 have e1:i64.wrap ((page:Int) * (c.sz:Int))=((page * c.sz:Nat):Int):=by
  rw [<- Int.natCast_mul];exact w64 (by omega) (by omega)
 have e0:i64.wrap ((page:Int)+1)=((page+1:Nat):Int):=w64 (by omega) (by omega)
 have e2:i64.wrap (((page+1:Nat):Int) * (c.sz:Int))=(((page+1) * c.sz:Nat):Int):=by
  rw [<- Int.natCast_mul];rw [Nat.succ_mul];exact w64 (by omega) (by omega)
 rw [e0,e1,e2]
 rw [Nat.succ_mul]
 refine ⟨by simp;omega,by simp;omega,by simp;omega,by simp,by simp;omega,by simp;omega,by simp,?_⟩
 refine ⟨hdrew.upd,l,hl,?_⟩
 simp only [Option.getD_some,Int.toNat_natCast]
 rw [if_neg (by omega)]
 simp
theorem slices_Clone_byte_spec {a:Option Addr} {l:List UInt8} {c:Nat} {w:World} (h:BytesAt w a l) (hn:l.length<=140737488355232) :
  CallsR prog K.slices_Clone_byte #[.slice a l.length c] w fun v w'=>Ext w w'/\∃ a' c',v= .slice a' l.length c'/\OwnAt w' a' l.length c' T.uint8 1 (l.map bv)/\Fresh w a':=by
 apply slices_Clone_byte.sh
 unfold slices_Clone_byte.body
 refine br_intro (fun ha=>?_) fun ha=>?_
 .have:a=none:=by simpa using ha
  subst this
  have:l=[]:=by
   rcases h with h | ⟨b,o,cur,T,fr,h,_⟩
   .simpa using h
   .cases h
  subst this
  exact ⟨Upd.refl _ _,none,0,rfl,OwnAt.nil _ _ _,Fresh.none _⟩
 .intro B w1 hnew
  have ho:OwnAt w1 (some ⟨B,0,none⟩) ([]:List UInt8).length 0 T.uint8 1 (([]:List UInt8).map bv):=by
   have:=OwnAt.new (n:=0) (size:=1) hnew (by simp)
   simpa using this
  have hB:w.heap.size=B:=by rw [hnew.num]
  refine append_bytes (l:=[]) ho (h.ext hnew.upd) (by simp;omega) fun a' c' w2 hu ho' hf=>?_
  simp only [List.nil_append] at ho' ⊢
  refine ⟨Upd.beyond hnew.upd hu fun x hx=>by cases hx;omega,a',c',rfl,ho',?_⟩
  rcases hf with rfl | ⟨b,rfl,hb⟩
  .exact Fresh.some (by omega)
  .exact Fresh.some (by have:=hnew.size;omega)
theorem page_bytes {w:World} {p:Nat} {c:Chip} {L:Loc} {G:Nat->Prop} (h:ChipRep w p c L G) {block page l:Nat} (hb:block<c.nb) (hp:page<c.np) (hl:L.locs[block]?=some l) :
  BytesAt w (some ⟨l,page * c.sz,none⟩) (c.page block page)/\(c.page block page).length=c.sz:=by
 obtain ⟨vs,ho,hv⟩:=h.rows
 obtain ⟨l',cap,hl',hvi,hbi⟩:=hv block hb
 rw [hl] at hl'
 cases hl'
 have hlen:=h.ok.blk_len hb
 have hps:=page_in hp
 refine ⟨?_,by simp [Chip.page,hlen];omega⟩
 have:=BytesAt.take (BytesAt.drop (o:=0) hbi.row (page * c.sz)) c.sz
 simpa [Chip.page] using this
theorem nand_Read_spec {w:World} {p:Nat} {c:Chip} {L:Loc} {G:Nat->Prop} (h:ChipRep w p c L G) (block page:Int) :
  CallsR prog K.nand_Chip_Read #[.pointer (some ⟨p,0,none⟩),.int .i64 block,.int .i64 page] w fun v w'=>Ext w w'/\
   if c.ask block page=0 then ∃ a cp,v= .tuple #[.slice a c.sz cp,.int .i64 0]/\BytesAt w' a (c.page block.toNat page.toNat)/\c.sz<=cp/\Fresh w a
   else v= .tuple #[.slice none 0 0,.int .i64 (c.ask block page:Nat)]:=by
 apply nand_Chip_Read.sh
 unfold nand_Chip_Read.body
 refine (nand_ask_spec h block page).mono ?_
 rintro _ _ ⟨rfl,rfl⟩
 rename_i w
 refine ⟨_,rfl,br_ne (fun hne=>⟨Upd.refl _ _,?_⟩) fun heq=>?_⟩
 .rw [if_neg (by omega)]
 .have h0:c.ask block page=0:=by omega
  obtain ⟨hd,hb0,hb1,hp0,hp1⟩:=ask_zero h0
  have eb:block=(block.toNat:Int):=by omega
  have ep:page=(page.toNat:Int):=by omega
  rw [eb,ep]
  refine (nand_page_spec h block.toNat page.toNat hb1 hp1).mono ?_
  rintro _ w1 ⟨he,l,hl,rfl⟩
  refine ⟨_,_,_,rfl,?_⟩
  obtain ⟨hpb,hplen⟩:=page_bytes (h.ext he) hb1 hp1 hl
  have hsz:=h.ok.sz2
  have hcl:=slices_Clone_byte_spec (c:=c.sz) hpb (by omega)
  rw [hplen] at hcl
  refine hcl.mono ?_
  rintro _ w2 ⟨he2,a',c',rfl,ho,hf⟩
  refine ⟨_,_,_,rfl,he.trans he2,?_⟩
  rw [<- eb,<- ep,if_pos h0]
  exact ⟨a',c',rfl,ho.row,ho.2.1,Fresh.mono hf he.size⟩
theorem nand_Bad_spec {w:World} {p:Nat} {c:Chip} {L:Loc} {G:Nat->Prop} (h:ChipRep w p c L G) (block:Int) :
  CallsR prog K.nand_Chip_Bad #[.pointer (some ⟨p,0,none⟩),.int .i64 block] w fun v w'=>v= .bool (decide (0<=block) && c.isBad block.toNat)/\w'=w:=by
 apply nand_Chip_Bad.sh
 unfold nand_Chip_Bad.body
 refine (nand_off_spec h).mono ?_
 rintro _ _ ⟨rfl,rfl⟩
 refine ⟨_,rfl,?_⟩
 simp only [Bool.not_false,br_true,nilC_some',add_lit]
 refine br_dec (fun h0=>⟨_,cell_of h.head rfl,br_dec (fun h1=>?_) fun h1=>?_⟩) fun h0=>?_
 .refine ⟨_,_,_,cell_of h.head rfl,h0,h1,?_⟩
  simp only [nilC_some',add_lit,Nat.mul_one]
  have hlt:block.toNat<c.bad.length:=by rw [h.ok.bad];omega
  have hg:(c.bad.map Value.bool)[block.toNat]?=some (.bool c.bad[block.toNat]):=by simp [hlt]
  obtain ⟨b',o',hab,hc⟩:=RowAt.cell h.bad.row hg
  cases hab
  refine ⟨_,hc,?_,by trivial⟩
  have:decide (0<=block)=true:=by simpa using h0
  rw [this]
  simp [Chip.isBad,List.getD,hlt]
 .have hge:c.bad.length<=block.toNat:=by rw [h.ok.bad];omega
  refine ⟨?_,by trivial⟩
  simp [Chip.isBad,List.getD,List.getElem?_eq_none hge]
 .refine ⟨?_,by trivial⟩
  have:decide (0<=block)=false:=by simpa using h0
  rw [this]
  rfl
theorem callT.mono {f:Value} {args:List Value} {w:World} {R R':Value->World->Prop} (h:callT f args w R) (hr:∀ v w',R v w'->R' v w'):callT f args w R':=by
 unfold callT at h ⊢
 split at h
 .exact ⟨h.1,h.2.mono hr⟩
 .refine ⟨h.1,h.2.1,fun F n hF=>?_⟩
  obtain ⟨fn,tmps,ac,bd,h1,h2⟩:=h.2.2 F n hF
  exact ⟨fn,tmps,ac,bd,h1,h2.mono fun e w' ⟨v,he,hR⟩=>⟨v,he,hr _ _ hR⟩⟩
 .exact h.elim
theorem OwnAt.cap_eq {w:World} {b len cap cap':Nat} {e:TypeId} {x y:List Value} (h:OwnAt w (some ⟨b,0,none⟩) len cap e 1 x) (k:OwnAt w (some ⟨b,0,none⟩) len cap' e 1 y):cap=cap':=by
 obtain ⟨_,_,h⟩:=h
 obtain ⟨_,_,k⟩:=k
 rcases h with ⟨h,_⟩| ⟨b1,cur1,h,hb1,hs1,_⟩
 .cases h
 .rcases k with ⟨k,_⟩| ⟨b2,cur2,k,hb2,hs2,_⟩
  .cases k
  .cases h;cases k
   rw [hb1] at hb2
   cases hb2
   omega
theorem own_store {w:World} {b len cap size:Nat} {e:TypeId} {cells:List Value} (h:OwnAt w (some ⟨b,0,none⟩) len cap e size cells) {o:Nat} {vs:List Value} (ho:o+vs.length<=cells.length) {K:World->Prop}
  (hk:∀ w',Upd (·=b) w w'->OwnAt w' (some ⟨b,0,none⟩) len cap e size (cells.take o ++ vs ++ cells.drop (o+vs.length))->K w'):storeP w ⟨b,o,none⟩ vs K:=by
 obtain ⟨hl,hc,h⟩:=h
 rcases h with ⟨h,_⟩| ⟨b1,cur,h,hb,hs,ht⟩
 .cases h
 .cases h
  have hle:len * size<=cap * size:=Nat.mul_le_mul_right _ hc
  refine store_of hb (by omega) fun w' hput=>hk w' (Put.upd1 hput) ⟨by simp;omega,hc,.inr ⟨b,_,rfl,hput.get,by rw [splice_size _ _ _ (by omega),hs],?_⟩⟩
  simp only [splice]
  subst ht
  rw [List.take_take,Nat.min_eq_left (by omega)]
  simp only [List.length_take,Array.length_toList] at hl ho ⊢
  rw [List.drop_take]
  rw [List.take_append,List.take_of_length_le (by simp;omega)]
  simp only [List.append_assoc]
  simp only [List.length_append,List.length_take,Array.length_toList]
  congr 3
  omega
def SameLoc (L L':Loc):Prop:=L'.bb=L.bb/\L'.cbad=L.cbad/\L'.pb=L.pb/\L'.cb=L.cb/\L'.locs=L.locs
theorem SameLoc.refl (L:Loc):SameLoc L L:=⟨rfl,rfl,rfl,rfl,rfl⟩
theorem SameLoc.trans {A B C:Loc} (h:SameLoc A B) (k:SameLoc B C):SameLoc A C:=by
 obtain ⟨a,b,c,d,e⟩:=h
 obtain ⟨a',b',c',d',e'⟩:=k
 exact ⟨by rw [a',a],by rw [b',b],by rw [c',c],by rw [d',d],by rw [e',e]⟩
theorem ChipRep.reh {w w':World} {p:Nat} {c:Chip} {L:Loc} {G:Nat->Prop} (h:ChipRep w p c L G) (k:Upd (·=p) w w') (hs:List Hit) (since:Int) (dead:Bool) (deeds:Int) (ha:Option Addr) (ch:Nat)
  (hd:w'.heap[p]?=some (.cells (chipCells { c with hits:=hs,since:=since,dead:=dead,deeds:=deeds } { L with ha:=ha,ch:=ch }) T.nand_Chip (0,0)))
  (hh:∃ vs,RowAt w ha vs/\HitRow w G vs hs/\hs.length<=ch/\∀ a,ha=some a->G a.block):ChipRep w' p { c with hits:=hs,since:=since,dead:=dead,deeds:=deeds } { L with ha:=ha,ch:=ch } G:=by
 have hnd:=h.nodup
 have hne:∀ x,x∈L.bb :: L.locs->x≠p:=fun x hx e=>by subst e;exact (List.nodup_cons.1 hnd).1 hx
 have hgp:∀ x,G x->x≠p:=fun x hx e=>by subst e;exact h.apart _ (by simp) hx
 refine ⟨⟨h.ok.nb1,h.ok.nb2,h.ok.np1,h.ok.np2,h.ok.sz1,h.ok.sz2,h.ok.bl,h.ok.bl2,h.ok.bad⟩,hd,OwnAt.upd h.bad k (fun b hb=>by cases hb;exact hne _ (by simp)),?_,?_,h.len,h.nodup,h.apart,h.pbG⟩
 .obtain ⟨vs,ho,hv⟩:=h.rows
  refine ⟨vs,OwnAt.upd ho k (fun b hb=>by cases hb;exact hgp _ h.pbG),fun i hi=>?_⟩
  obtain ⟨l,cap,hl,hvi,hbi⟩:=hv i hi
  exact ⟨l,cap,hl,hvi,OwnAt.upd hbi k (fun b hb=>by cases hb;exact hne _ (by simp [List.mem_of_getElem? hl]))⟩
 .obtain ⟨vs,hr,hh,hc,ha⟩:=hh
  exact ⟨vs,RowAt.upd hr k (fun a e=>hgp _ (ha a e)),HitRow.upd k hgp hh,hc,ha⟩
theorem ChipRep.reblk {w w':World} {p:Nat} {c:Chip} {L:Loc} {G:Nat->Prop} (h:ChipRep w p c L G) {i l cap:Nat} (k:Upd (·=l) w w') (hi:i<c.nb) (hl:L.locs[i]?=some l) {b:List UInt8} (hb:b.length=c.np * c.sz)
  (ho:OwnAt w (some ⟨l,0,none⟩) (c.np * c.sz) cap T.uint8 1 ((c.blk i).map bv)) (hn:OwnAt w' (some ⟨l,0,none⟩) (c.np * c.sz) cap T.uint8 1 (b.map bv)):ChipRep w' p (c.setBlk i b) L G:=by
 have hnd:=h.nodup
 have hlm:=List.mem_of_getElem? hl
 have hpl:p≠l:=fun e=>by subst e;exact (List.nodup_cons.1 hnd).1 (by simp [hlm])
 have hnd2:=(List.nodup_cons.1 hnd).2
 have hbl:L.bb≠l:=fun e=>by rw [e] at hnd2;exact (List.nodup_cons.1 hnd2).1 hlm
 have hgl:∀ x,G x->x≠l:=fun x hx e=>by subst e;exact h.apart _ (by simp [hlm]) hx
 have hib:i<c.blocks.length:=by rw [h.ok.bl];exact hi
 refine ⟨⟨h.ok.nb1,h.ok.nb2,h.ok.np1,h.ok.np2,h.ok.sz1,h.ok.sz2,by simp [Chip.setBlk,h.ok.bl],fun x hx=>?_,h.ok.bad⟩,k.get h.head hpl,OwnAt.upd h.bad k (fun b hb=>by cases hb;exact hbl),?_,?_,h.len,h.nodup,h.apart,h.pbG⟩
 .rcases List.mem_or_eq_of_mem_set hx with hx | hx
  .exact h.ok.bl2 x hx
  .rw [hx];exact hb
 .obtain ⟨vs,hvo,hv⟩:=h.rows
  refine ⟨vs,OwnAt.upd hvo k (fun b hb=>by cases hb;exact hgl _ h.pbG),fun j hj=>?_⟩
  obtain ⟨l',cap',hl',hvj,hbj⟩:=hv j hj
  refine ⟨l',cap',hl',hvj,?_⟩
  by_cases hij:i=j
  .subst hij
   rw [hl] at hl'
   cases hl'
   have hc:=OwnAt.cap_eq ho hbj
   subst hc
   have:(c.setBlk i b).blk i=b:=by simp [Chip.setBlk,Chip.blk,List.getD,hib]
   rw [this];exact hn
  .have:(c.setBlk i b).blk j=c.blk j:=by simp [Chip.setBlk,Chip.blk,List.getD,hij]
   rw [this]
   refine OwnAt.upd hbj k (fun b hb=>by
    cases hb
    intro e
    subst e
    have hnd3:=(List.nodup_cons.1 hnd2).2
    have h1:=(List.getElem?_eq_some_iff.1 hl)
    have h2:=(List.getElem?_eq_some_iff.1 hl')
    obtain ⟨p1,e1⟩:=h1
    obtain ⟨p2,e2⟩:=h2
    rcases Nat.lt_or_gt_of_ne hij with hlt | hlt
    .exact List.pairwise_iff_getElem.1 hnd3 i j p1 p2 hlt (e1.trans e2.symm)
    .exact List.pairwise_iff_getElem.1 hnd3 j i p2 p1 hlt (e2.trans e1.symm))
 .obtain ⟨vs,hr,hh,hc,ha⟩:=h.hits
  exact ⟨vs,RowAt.upd hr k (fun a e=>hgl _ (ha a e)),HitRow.upd k hgl hh,hc,ha⟩
theorem ChipRep.rebad {w w':World} {p:Nat} {c:Chip} {L:Loc} {G:Nat->Prop} (h:ChipRep w p c L G) (k:Upd (·=L.bb) w w') {b:List Bool} (hb:b.length=c.nb)
  (hn:OwnAt w' (some ⟨L.bb,0,none⟩) c.nb L.cbad T.bool 1 (b.map Value.bool)):ChipRep w' p { c with bad:=b } L G:=by
 have hnd:=h.nodup
 have hpl:p≠L.bb:=fun e=>(List.nodup_cons.1 hnd).1 (by simp [e])
 have hnd2:=(List.nodup_cons.1 hnd).2
 have hgl:∀ x,G x->x≠L.bb:=fun x hx e=>by subst e;exact h.apart _ (by simp) hx
 refine ⟨⟨h.ok.nb1,h.ok.nb2,h.ok.np1,h.ok.np2,h.ok.sz1,h.ok.sz2,h.ok.bl,h.ok.bl2,hb⟩,k.get h.head hpl,hn,?_,?_,h.len,h.nodup,h.apart,h.pbG⟩
 .obtain ⟨vs,hvo,hv⟩:=h.rows
  refine ⟨vs,OwnAt.upd hvo k (fun b hb=>by cases hb;exact hgl _ h.pbG),fun j hj=>?_⟩
  obtain ⟨l',cap',hl',hvj,hbj⟩:=hv j hj
  refine ⟨l',cap',hl',hvj,OwnAt.upd hbj k (fun b hb=>by
   cases hb
   intro e
   rw [<- e] at hnd2
   exact (List.nodup_cons.1 hnd2).1 (List.mem_of_getElem? hl'))⟩
 .obtain ⟨vs,hr,hh,hc,ha⟩:=h.hits
  exact ⟨vs,RowAt.upd hr k (fun a e=>hgl _ (ha a e)),HitRow.upd k hgl hh,hc,ha⟩
theorem nand_strike_spec {w:World} {p:Nat} {c:Chip} {L:Loc} {G:Nat->Prop} (h:ChipRep w p c L G) :
  CallsR prog K.nand_Chip_strike #[.pointer (some ⟨p,0,none⟩)] w fun v w'=>Upd (·=p) w w'/\∃ L',SameLoc L L'/\ChipRep w' p c.strike.1 L' G/\
   match c.strike.2 with
   | none=>v= .pointer none
   | some t=>∃ B m cp,w.heap.size<=B/\v= .pointer (some ⟨B,0,none⟩)/\w'.heap[B]?=some (.cells #[.int .i64 t.after,.bool t.fails,.slice m t.mask.length cp] T.api_Hit (0,0))/\BytesAt w' m t.mask/\(t.mask≠[]->∀ q,m=some q->G q.block):=by
 apply nand_Chip_strike.sh
 simp only [nand_Chip_strike.body,nilC_some',add_lit]
 refine ⟨_,cell_of h.head rfl,store_of h.head (by simp [chipCells]) fun w1 hput=>?_⟩
 have h1:=h.reh (Put.upd1 hput) c.hits c.since c.dead (i64.wrap (c.deeds+1)) L.ha L.ch hput.get h.hits
 refine ⟨_,_,_,cell_of h1.head rfl,br_eq (fun h0=>?_) fun h0=>?_⟩
 .have hn:c.hits=[]:=List.eq_nil_of_length_eq_zero (by simpa using h0)
  have e:c.strike=({ c with deeds:=i64.wrap (c.deeds+1) },none):=by unfold Chip.strike;rw [hn]
  rw [e]
  exact ⟨Put.upd1 hput,_,SameLoc.refl _,h1,trivial⟩
 .obtain ⟨t,r,hr⟩: ∃ t r,c.hits=t :: r:=by
   cases hc:c.hits with
   | nil=>rw [hc] at h0;simp at h0
   | cons t r=>exact ⟨t,r,rfl⟩
  intro w2 hdrew
  have h2:=h1.ext hdrew.upd
  obtain ⟨vs,hrow,hhit,hch,hag⟩:=h2.hits
  simp only [hr] at hhit
  obtain ⟨m,cp,rr,hvs,hmb,hmg,hrr⟩:=hhit
  refine ⟨fun u=>u=w2,rfl,_,fun u hu=>hu ▸ cell_of h2.head rfl,_,_,_,fun u hu=>hu ▸ cell_of h2.head rfl,?_⟩
  have hlen:c.hits.length=r.length+1:=by rw [hr];rfl
  refine ⟨Int.le_refl 0,by simp [hlen],?_⟩
  have hca:=RowAt.cell hrow (i:=0) (v:=.int .i64 t.after) (by rw [hvs];rfl)
  obtain ⟨hb,ho,hab,hc⟩:=hca
  simp only [] at hab
  simp only [hab,nilC_some',tn0,Nat.zero_mul,add_lit,Nat.add_zero]
  refine ⟨_,fun u hu=>hu ▸ hc,br_dec (fun hlt=>?_) fun hge=>?_⟩
  .refine ⟨_,cell_of h2.head rfl,store_of h2.head (by simp [chipCells]) fun w3 hput3=>?_⟩
   have h3:=h2.reh (Put.upd1 hput3) c.hits (i64.wrap (c.since+1)) c.dead (i64.wrap (c.deeds+1)) L.ha L.ch hput3.get h2.hits
   have e:c.strike=({ c with deeds:=i64.wrap (c.deeds+1),since:=i64.wrap (c.since+1) },none):=by
    unfold Chip.strike;rw [hr];simp only [];rw [if_pos (by simpa using hlt)]
   rw [e]
   exact ⟨Upd.trans (Put.upd1 hput) ((Upd.ext hdrew.upd).trans (Put.upd1 hput3)),_,SameLoc.refl _,h3,trivial⟩
  .have e:c.strike=({ c with deeds:=i64.wrap (c.deeds+1),since:=0,hits:=r },some t):=by
    unfold Chip.strike;rw [hr];simp only [];rw [if_neg (by simpa using hge)]
   refine ⟨L.ha,c.hits.length,L.ch,cell_of h2.head rfl,?_⟩
   refine ⟨Int.le_refl 0,by simp [hlen],?_⟩
   simp only [hab,nilC_some',tn0,Nat.zero_mul,add_lit,Nat.add_zero]
   have hrow0:RowAt w2 (some ⟨hb,ho,none⟩) vs:=by have:=hrow;simp only [hab] at this;exact this
   have hcs:=RowAt.cells hrow0
   rw [hvs] at hcs
   refine ⟨t.after,t.fails,m,t.mask.length,cp,?_,?_⟩
   .exact ⟨hcs.1,hcs.2.1,hcs.2.2.1,trivial⟩
   intro B w4 hnew
   refine store_of hnew.get (by simp) fun w5 hput5=>?_
   have hB:B=w2.heap.size:=hnew.num
   have e5:Ext w2 w5:=Put.upd hnew.upd hput5 (.inl (by omega))
   have h5:=h2.ext e5
   refine ⟨L.ha,c.hits.length,L.ch,cell_of h5.head rfl,?_⟩
   have hr3:RowAt w5 (if L.ch=(1:Int).toNat then L.ha else L.ha.map (·.add ((1:Int).toNat * 3))) rr:=by
    split
    .rename_i hc1
     simp at hc1
     have:rr=[]:=by
      have hr0:r=[]:=List.eq_nil_of_length_eq_zero (by have:=hch;simp only [] at this;omega)
      subst hr0
      exact hrr
     rw [this];exact RowAt.nil _ _
    .rw [hab]
     have:=RowAt.drop hrow0 3
     rw [hvs] at this
     simpa using RowAt.ext this e5
   refine slice_from (by omega) (by simp [hlen];omega) (by simpa using hch) ?_
   refine store_of h5.head (by simp [chipCells]) fun w6 hput6=>?_
   generalize hna:(if L.ch=(1:Int).toNat then L.ha else L.ha.map (·.add ((1:Int).toNat * 3)))=na at hr3 hput6
   have hnag:∀ a,na=some a->G a.block:=by
    intro a ha
    rw [<- hna] at ha
    split at ha
    .exact hag a ha
    .rw [hab] at ha
     simp at ha
     have:=hag ⟨hb,ho,none⟩ hab
     rw [<- ha];exact this
   have h6:=h5.reh (Put.upd1 hput6) r c.since c.dead (i64.wrap (c.deeds+1)) na (L.ch - 1) (by
    have:=hput6.get
    rw [this,hlen];rfl) ⟨rr,hr3,HitRow.upd e5 (fun _ _ hf=>hf) hrr,by simp only [] at hch;omega,hnag⟩
   refine store_of h6.head (by simp [chipCells]) fun w7 hput7=>?_
   have h7:=h6.reh (Put.upd1 hput7) r 0 c.dead (i64.wrap (c.deeds+1)) na (L.ch - 1) hput7.get h6.hits
   rw [e]
   have hpB:p≠B:=by
    have:=(Array.getElem?_eq_some_iff.1 h2.head).1
    omega
   have e67:Upd (·=p) w5 w7:=(Put.upd1 hput6).trans (Put.upd1 hput7)
   refine ⟨Upd.trans (Put.upd1 hput) ((Upd.ext hdrew.upd).trans ((Upd.ext e5).trans e67)),_,?_,h7,?_⟩
   .exact ⟨rfl,rfl,rfl,rfl,rfl⟩
   .have hgp:∀ x,G x->x≠p:=fun x hx e=>by subst e;exact h.apart _ (by simp) hx
    refine ⟨B,m,cp,?_,rfl,?_,?_,hmg⟩
    .have a1:=hput.size
     have a2:=hdrew.heap
     rw [hB,a2,a1];omega
    .refine e67.get ?_ (fun e=>hpB e.symm)
     have:=hput5.get
     rw [this]
     rfl
    .exact BytesAt.updM (RowAt.ext hmb e5) e67 hmg hgp
theorem mix_int0 (old new:UInt8) :
  u8.wrap (((BitVec.ofInt (IntKind.bits .u8) (u8.wrap (((BitVec.ofInt (IntKind.bits .u8) (old.toNat:Int) &&& ~~~ (BitVec.ofInt (IntKind.bits .u8) (0:Int))).toNat:Nat):Int)) |||
   BitVec.ofInt (IntKind.bits .u8) (u8.wrap (((BitVec.ofInt (IntKind.bits .u8) (new.toNat:Int) &&& BitVec.ofInt (IntKind.bits .u8) (0:Int)).toNat:Nat):Int))).toNat:Nat):Int)=((mix 0 old new).toNat:Int):=mix_int 0 old new
theorem mix_int255 (old new:UInt8) :
  u8.wrap (((BitVec.ofInt (IntKind.bits .u8) (u8.wrap (((BitVec.ofInt (IntKind.bits .u8) (old.toNat:Int) &&& ~~~ (BitVec.ofInt (IntKind.bits .u8) (255:Int))).toNat:Nat):Int)) |||
   BitVec.ofInt (IntKind.bits .u8) (u8.wrap (((BitVec.ofInt (IntKind.bits .u8) (new.toNat:Int) &&& BitVec.ofInt (IntKind.bits .u8) (255:Int)).toNat:Nat):Int))).toNat:Nat):Int)=((mix 255 old new).toNat:Int):=mix_int 255 old new
def partBlk (c:Chip) (block off n:Nat) (h:Option Hit) (new:List UInt8) (i:Nat):List UInt8 :=
 (c.blk block).take off ++ ((mixL h (((c.blk block).drop off).take n) new).take i ++ (((c.blk block).drop off).take n).drop i) ++ (c.blk block).drop (off+n)
theorem partBlk_length {c:Chip} {block off n:Nat} {h:Option Hit} {new:List UInt8} {i:Nat} (hl:off+n<=(c.blk block).length):(partBlk c block off n h new i).length=(c.blk block).length:=by
 simp [partBlk,mixL_length];omega
theorem partBlk_zero {c:Chip} {block off n:Nat} {h:Option Hit} {new:List UInt8}:partBlk c block off n h new 0=c.blk block:=by
 simp [partBlk,List.drop_drop]
 rw [<- List.drop_drop]
 rw [List.take_append_drop,List.take_append_drop]
theorem partBlk_all {c:Chip} {block off n:Nat} {h:Option Hit} {new:List UInt8} (hl:off+n<=(c.blk block).length):partBlk c block off n h new n=(c.blk block).take off ++ mixL h (((c.blk block).drop off).take n) new ++ (c.blk block).drop (off+n):=by
 unfold partBlk
 rw [List.take_of_length_le (l:=mixL h _ new) (by simp [mixL_length];omega),List.drop_of_length_le (l:=((c.blk block).drop off).take n) (by simp;omega),List.append_nil]
theorem partBlk_step {c:Chip} {block off n:Nat} {h:Option Hit} {new:List UInt8} {i:Nat} (hi:i<n) (hl:off+n<=(c.blk block).length) :
  (partBlk c block off n h new i).take (off+i) ++ [mix (maskAt h i) ((((c.blk block).drop off).take n).getD i 0) (new.getD i 0)] ++ (partBlk c block off n h new i).drop (off+i+1)=partBlk c block off n h new (i+1):=by
 have hol:(((c.blk block).drop off).take n).length=n:=by simp;omega
 have hm:(mixL h (((c.blk block).drop off).take n) new).length=n:=by rw [mixL_length];exact hol
 have hpl:((c.blk block).take off).length=off:=by simp;omega
 generalize hO:((c.blk block).drop off).take n=O at *
 generalize hM:mixL h O new=M at *
 generalize hP:(c.blk block).take off=P at *
 have hg:M[i]'(by omega)=mix (maskAt h i) (O.getD i 0) (new.getD i 0):=by
  have:=mixL_get h O new i (by omega)
  rw [hM,List.getElem?_eq_getElem (by omega)] at this
  simpa using this
 unfold partBlk
 rw [hO,hM,hP]
 rw [List.append_assoc P,List.take_append,List.drop_append,hpl]
 rw [List.take_of_length_le (by omega),List.drop_of_length_le (l:=P) (by omega),List.nil_append]
 rw [show off+i - off=i by omega,show off+i+1 - off=i+1 by omega]
 have hMi:(M.take i).length=i:=by simp;omega
 rw [List.append_assoc (M.take i)]
 rw [List.take_append_of_le_length (by omega),List.take_take,Nat.min_self]
 rw [List.drop_append,hMi,List.drop_of_length_le (l:=M.take i) (by omega),List.nil_append]
 rw [List.take_succ_eq_append_getElem (by omega:i<M.length),hg]
 rw [show i+1 - i=1 by omega]
 rw [List.drop_append_of_le_length (by simp;omega),List.drop_drop]
 simp [List.append_assoc]
theorem wantsB {f:Value} {i:Nat} {u:World} {x:UInt8} {R:Value->World->Prop} (h:callT f [.int .i64 i] u fun v u'=>v=bv x/\u'=u) (hr:R (bv x) u):callT f [.int .i64 i] u R:=by
 refine callT.mono h ?_
 rintro _ _ ⟨rfl,rfl⟩
 exact hr
theorem tmod_nat (i n:Nat):Int.tmod (i:Int) (n:Int)=((i % n:Nat):Int):=by
 rw [Int.tmod_eq_emod_of_nonneg (by omega)];rfl
def endAt (w:World) (p1:Option Addr) (h:Option Hit) (G:Nat->Prop) (A:Nat):Prop :=
 match h with
 | none=>p1=none
 | some t=>∃ B m cp,A<=B/\p1=some ⟨B,0,none⟩/\w.heap[B]?=some (.cells #[.int .i64 t.after,.bool t.fails,.slice m t.mask.length cp] T.api_Hit (0,0))/\BytesAt w m t.mask/\(t.mask≠[]->∀ q,m=some q->G q.block)
theorem endAt.upd {F:Nat->Prop} {w w':World} {p1:Option Addr} {h:Option Hit} {G:Nat->Prop} {A:Nat} (k:endAt w p1 h G A) (u:Upd F w w') (hg:∀ x,G x->¬ F x) (ha:∀ x,A<=x->¬ F x):endAt w' p1 h G A:=by
 cases h with
 | none=>exact k
 | some t =>
  obtain ⟨B,m,cp,hB,rfl,hc,hb,hm⟩:=k
  exact ⟨B,m,cp,hB,rfl,u.get hc (ha _ hB),hb.updM u hm hg,hm⟩
theorem nand_done_spec {w:World} {p:Nat} {c:Chip} {L:Loc} {G:Nat->Prop} (h:ChipRep w p c L G) {block off n l cp:Nat} (hb:block<c.nb) (hoff:off+n<=c.np * c.sz) (hl:L.locs[block]?=some l) (want:List UInt8) {f:Value}
  (hf:∀ i,i<n->∀ u,Upd (fun x=>x=p\/x=l) w u->callT f [.int .i64 i] u fun v u'=>v=bv (want.getD i 0)/\u'=u) :
  CallsR prog K.nand_Chip_done #[.pointer (some ⟨p,0,none⟩),.int .i64 block,.slice (some ⟨l,off,none⟩) n cp,f] w fun v w' =>
   Upd (fun x=>x=p\/x=L.bb\/x=l) w w'/\∃ L',SameLoc L L'/\ChipRep w' p (c.done block off n want).1 L' G/\v= .int .i64 ((c.done block off n want).2:Nat):=by
 apply nand_Chip_done.sh
 unfold nand_Chip_done.body
 refine (nand_strike_spec h).mono ?_
 rintro v w1 ⟨hu1,L',hsl,h1,hp1⟩
 have hlocs:L'.locs=L.locs:=hsl.2.2.2.2
 have hbb:L'.bb=L.bb:=hsl.1
 have hst:c.strike.1.nb=c.nb/\c.strike.1.np=c.np/\c.strike.1.sz=c.sz/\c.strike.1.blocks=c.blocks/\c.strike.1.bad=c.bad:=by
  unfold Chip.strike
  split
  .exact ⟨rfl,rfl,rfl,rfl,rfl⟩
  .split<;>exact ⟨rfl,rfl,rfl,rfl,rfl⟩
 obtain ⟨hnb,hnp,hsz,hblk,hbad⟩:=hst
 have hbk:∀ i,c.strike.1.blk i=c.blk i:=fun i=>by simp [Chip.blk,hblk]
 obtain ⟨p1,rfl,hend⟩: ∃ p1,v= .pointer p1/\endAt w1 p1 c.strike.2 G w.heap.size:=by
  cases hh:c.strike.2 with
  | none=>rw [hh] at hp1;exact ⟨none,hp1,rfl⟩
  | some t =>
   rw [hh] at hp1
   obtain ⟨B,m,cp,hB,rfl,hc,hbm,hm⟩:=hp1
   exact ⟨_,rfl,B,m,cp,hB,rfl,hc,hbm,hm⟩
 clear hp1
 have hblen:=h.ok.blk_len hb
 have hsz8:=h.ok.size_le
 have hl':L'.locs[block]?=some l:=by rw [hlocs];exact hl
 have hlm:=List.mem_of_getElem? hl
 obtain ⟨vs,hvo,hv⟩:=h1.rows
 obtain ⟨l2,cap,hl2,hvi,hbi⟩:=hv block (by rw [hnb];exact hb)
 rw [hl'] at hl2
 cases hl2
 rw [hnp,hsz,hbk] at hbi
 have hgl:∀ x,G x->x≠l:=fun x hx e=>by subst e;exact h.apart _ (by simp [hlm]) hx
 have hlw:l<w.heap.size:=by
  obtain ⟨vs0,_,hv0⟩:=h.rows
  obtain ⟨l3,cap3,hl3,_,hbi3⟩:=hv0 block hb
  rw [hl] at hl3
  cases hl3
  exact OwnAt.blk hbi3 rfl
 have hpw:p<w.heap.size:=(Array.getElem?_eq_some_iff.1 h.head).1
 have hal:∀ x,w.heap.size<=x->x≠l:=fun x hx e=>by omega
 generalize hH:c.strike.2=H at *
 refine ⟨p1,rfl,fun x u=>∃ i:Nat,x=i/\i<=n/\Upd (·=l) w1 u/\OwnAt u (some ⟨l,0,none⟩) (c.np * c.sz) cap T.uint8 1 ((partBlk c block off n H want i).map bv),fun x _=>(n - x).toNat,?_,?_⟩
 .exact ⟨0,rfl,Nat.zero_le _,Upd.refl _ _,by rw [partBlk_zero];exact hbi⟩
 rintro x1 w2 ⟨i,rfl,hin,hu2,ho⟩
 refine br_dec (fun hlt=>?_) fun hge=>?_
 .have hi:i<n:=by omega
  refine ⟨fun u=>Upd (·=l) w1 u/\OwnAt u (some ⟨l,0,none⟩) (c.np * c.sz) cap T.uint8 1 ((partBlk c block off n H want (i+1)).map bv),?_,?_⟩
  .have hpbl:(partBlk c block off n H want i).length=c.np * c.sz:=by rw [partBlk_length (by omega),hblen]
   have hold:(partBlk c block off n H want i).getD (off+i) 0=(((c.blk block).drop off).take n).getD i 0:=by
    unfold partBlk
    have hpl:((c.blk block).take off).length=off:=by simp;omega
    have hM:(mixL H (((c.blk block).drop off).take n) want).length=n:=by rw [mixL_length];simp;omega
    have hMi:((mixL H (((c.blk block).drop off).take n) want).take i).length=i:=by simp;omega
    simp only [List.getD]
    rw [List.append_assoc,List.getElem?_append_right (by omega),hpl,show off+i - off=i by omega,List.append_assoc,List.getElem?_append_right (by omega),hMi,Nat.sub_self]
    rw [List.getElem?_append_left (by simp;omega)]
    simp
   have hread:∀ u,OwnAt u (some ⟨l,0,none⟩) (c.np * c.sz) cap T.uint8 1 ((partBlk c block off n H want i).map bv)->∃ S:List UInt8,BytesAt u (some ⟨l,off,none⟩) S/\S.length=n/\S.getD i 0=(((c.blk block).drop off).take n).getD i 0:=by
    intro u hou
    refine ⟨((partBlk c block off n H want i).drop off).take n,?_,by simp;omega,?_⟩
    .have:=BytesAt.take (BytesAt.drop (o:=0) hou.row off) n
     simpa using this
    .rw [<- hold];simp [List.getD,hi]
   have hwrite:∀ (u:World),Upd (·=l) w1 u->OwnAt u (some ⟨l,0,none⟩) (c.np * c.sz) cap T.uint8 1 ((partBlk c block off n H want i).map bv)->∀ x:UInt8,x=mix (maskAt H i) ((((c.blk block).drop off).take n).getD i 0) (want.getD i 0)->
     idxP (some ⟨l,off,none⟩) n (i:Int) 1 fun q=>storeP u q [bv x] fun u'=>Upd (·=l) w1 u'/\OwnAt u' (some ⟨l,0,none⟩) (c.np * c.sz) cap T.uint8 1 ((partBlk c block off n H want (i+1)).map bv):=by
    intro u huu hou x hx
    refine ⟨by omega,by omega,?_⟩
    simp only [nilC_some',add_lit,Int.toNat_natCast,Nat.mul_one]
    refine own_store hou (by simp [hpbl];omega) fun u' hu' ho'=>⟨huu.trans hu',?_⟩
    rw [<- partBlk_step hi (by omega),<- hx]
    simp only [List.map_append,List.map_take,List.map_drop,List.map_cons,List.map_nil]
    exact ho'
   have hclos:∀ u,Upd (·=l) w1 u->callT f [.int .i64 i] u fun v u'=>v=bv (want.getD i 0)/\u'=u:=by
    intro u hu
    exact hf i hi u ((hu1.mono fun x _ hx=>.inl hx).trans (hu.mono fun x _ hx=>.inr hx))
   have hu2e:endAt w2 p1 H G w.heap.size:=hend.upd hu2 hgl hal
   cases H with
   | none =>
    cases hu2e
    simp only [Option.isNone_none,Bool.not_true,br_false]
    intro w10 hdrew
    have ho10:=OwnAt.ext ho hdrew.upd
    have hu10:Upd (·=l) w1 w10:=hu2.then hdrew.upd
    obtain ⟨S,hS,hSl,hSi⟩:=hread _ ho10
    refine ⟨fun u=>u=w10,rfl,?_⟩
    subst hSl
    refine idx_byteS (l:=S) (fun u hu=>hu ▸ hS) ⟨_,rfl⟩ (by omega) (by omega) ?_
    refine wantsB (hclos w10 hu10) ⟨_,rfl,rfl,?_⟩
    rw [mix_int255,Int.toNat_natCast,hSi]
    exact hwrite w10 hu10 ho10 _ rfl
   | some t =>
    obtain ⟨B,m,cpm,hB,rfl,hc,hbm,hm⟩:=hu2e
    simp only [Option.isNone_some,Bool.not_false,br_true,nilC_some',add_lit]
    refine ⟨_,_,_,cell_of hc rfl,br_dec (fun hpos=>?_) fun hzero=>?_⟩
    .intro w3 hd3
     refine ⟨fun u=>u=w3,rfl,_,_,_,fun u hu=>hu ▸ cell_of (Ext.get hd3.upd hc) rfl,by omega,?_⟩
     have hbm3:=RowAt.ext hbm hd3.upd
     rw [tmod_nat]
     have hmod:i % t.mask.length<t.mask.length:=Nat.mod_lt _ (by omega)
     refine idx_byteS (l:=t.mask) (fun u hu=>hu ▸ hbm3) ⟨_,rfl⟩ (by omega) (by omega) ?_
     intro w4 hd4
     have ho4:=OwnAt.ext (OwnAt.ext ho hd3.upd) hd4.upd
     have hu4:Upd (·=l) w1 w4:=(hu2.then hd3.upd).then hd4.upd
     obtain ⟨S,hS,hSl,hSi⟩:=hread _ ho4
     refine ⟨fun u=>u=w4,rfl,?_⟩
     subst hSl
     refine idx_byteS (l:=S) (fun u hu=>hu ▸ hS) ⟨_,rfl⟩ (by omega) (by omega) ?_
     refine wantsB (hclos w4 hu4) ⟨_,rfl,rfl,?_⟩
     rw [mix_int]
     simp only [Int.toNat_natCast]
     rw [hSi]
     refine hwrite w4 hu4 ho4 _ ?_
     unfold maskAt
     simp only []
     rw [if_neg (by omega)]
    .intro w7 hd7
     have ho7:=OwnAt.ext ho hd7.upd
     have hu7:Upd (·=l) w1 w7:=hu2.then hd7.upd
     obtain ⟨S,hS,hSl,hSi⟩:=hread _ ho7
     refine ⟨fun u=>u=w7,rfl,?_⟩
     subst hSl
     refine idx_byteS (l:=S) (fun u hu=>hu ▸ hS) ⟨_,rfl⟩ (by omega) (by omega) ?_
     refine wantsB (hclos w7 hu7) ⟨_,rfl,rfl,?_⟩
     rw [mix_int0,Int.toNat_natCast,hSi]
     refine hwrite w7 hu7 ho7 _ ?_
     unfold maskAt
     simp only []
     rw [if_pos (by omega)]
  .rintro w13 ⟨hu13,ho13⟩
   have e:i64.wrap ((i:Int)+1)=((i+1:Nat):Int):=w64 (by omega) (by omega)
   exact ⟨⟨i+1,e,hi,hu13,ho13⟩,by rw [e];show ((n:Int) - ((i+1:Nat):Int)).toNat<((n:Int) - (i:Int)).toNat;omega⟩
 .have hin':i=n:=by omega
  subst hin'
  rw [partBlk_all (by omega)] at ho
  have h2:=h1.reblk hu2 (by rw [hnb];exact hb) hl' (b:=(c.blk block).take off ++ mixL H (((c.blk block).drop off).take i) want ++ (c.blk block).drop (off+i)) (by simp [mixL_length,hnp,hsz];omega)
   (by rw [hnp,hsz,hbk];exact hbi) (by rw [hnp,hsz];exact ho)
  have hu12:Upd (fun x=>x=p\/x=L.bb\/x=l) w w2:=(hu1.mono fun x _ hx=>.inl hx).trans (hu2.mono fun x _ hx=>.inr (.inr hx))
  have hdone:c.done block off i want=(c.strike.1.setBlk block ((c.blk block).take off ++ mixL H (((c.blk block).drop off).take i) want ++ (c.blk block).drop (off+i))).finish block H:=by
   unfold Chip.done;rw [hH]
  rw [hdone]
  have hu2e:endAt w2 p1 H G w.heap.size:=hend.upd hu2 hgl hal
  cases H with
  | none =>
   cases hu2e
   simp only [Option.isNone_none,br_true,Chip.finish]
   exact ⟨hu12,L',hsl,h2,rfl⟩
  | some t =>
   obtain ⟨B,m,cpm,hB,rfl,hc,hbm,hm⟩:=hu2e
   simp only [Option.isNone_some,br_false,nilC_some',add_lit]
   refine ⟨_,cell_of hc rfl,br_intro (fun hfl=>?_) fun hfl=>?_⟩
   .refine ⟨_,_,_,cell_of h2.head rfl,?_⟩
    have hbl:c.strike.1.bad.length=c.nb:=by rw [hbad];exact h.ok.bad
    refine ⟨by omega,by show (block:Int)<((c.strike.1.nb:Nat):Int);rw [hnb];omega,?_⟩
    simp only [nilC_some',add_lit,Int.toNat_natCast,Nat.mul_one,Nat.zero_add]
    have hob:=h2.bad
    refine own_store hob (by simp [Chip.setBlk,hbl];omega) fun w3 hu3 ho3=>?_
    have h3:=h2.rebad (b:=c.strike.1.bad.set block true) hu3 (by simp [Chip.setBlk,hbl,hnb]) (by
     have:(List.map Value.bool (c.strike.1.setBlk block ((c.blk block).take off ++ mixL (some t) (((c.blk block).drop off).take i) want ++ (c.blk block).drop (off+i))).bad).take block ++ [Value.bool true] ++ (List.map Value.bool (c.strike.1.setBlk block ((c.blk block).take off ++ mixL (some t) (((c.blk block).drop off).take i) want ++ (c.blk block).drop (off+i))).bad).drop (block+1)=(c.strike.1.bad.set block true).map Value.bool:=by
      show (List.map Value.bool c.strike.1.bad).take block ++ [Value.bool true] ++ (List.map Value.bool c.strike.1.bad).drop (block+1)=_
      rw [List.map_set,List.set_eq_take_append_cons_drop,if_pos (by simp [hbl];omega)]
      simp
     rw [<- this]
     exact ho3)
    simp only [Chip.finish,hfl,if_true]
    exact ⟨hu12.trans (hu3.mono fun x _ hx=>.inr (.inl (by rw [hx,hbb]))),L',hsl,h3,rfl⟩
   .refine store_of h2.head (by simp [chipCells]) fun w3 hput=>?_
    have h3:=h2.reh (Put.upd1 hput) c.strike.1.hits c.strike.1.since true c.strike.1.deeds L'.ha L'.ch hput.get h2.hits
    simp only [Chip.finish,hfl]
    exact ⟨hu12.trans ((Put.upd1 hput).mono fun x _ hx=>.inl hx),L',hsl,h3,rfl⟩
theorem nand_Program_1_spec {w:World} {B:Nat} {a:Option Addr} {b:List UInt8} {cp i:Nat} (hc:w.cell? ⟨B,0,none⟩= some (.slice a b.length cp)) (hb:BytesAt w a b) (hi:i<b.length) :
  CallsR prog K.nand_Chip_Program_1 #[.int .i64 i,.pointer (some ⟨B,0,none⟩)] w fun v w'=>v=bv (b.getD i 0)/\w'=w:=by
 apply nand_Chip_Program_1.sh
 refine ⟨a,b.length,cp,hc,idx_byte hb (by omega) (by omega) ?_⟩
 simp only [Int.toNat_natCast]
 exact ⟨by trivial,by trivial⟩
theorem nand_Program_spec {w:World} {p:Nat} {c:Chip} {L:Loc} {G:Nat->Prop} (h:ChipRep w p c L G) (block page:Int) {a:Option Addr} {b:List UInt8} {cp:Nat} (hb:BytesAt w a b) (hap:∀ q,a=some q->q.block ∉ p :: L.locs) :
  CallsR prog K.nand_Chip_Program #[.pointer (some ⟨p,0,none⟩),.int .i64 block,.int .i64 page,.slice a b.length cp] w fun v w' =>
   Upd (fun x=>x∈p :: L.bb :: L.locs) w w'/\∃ L',SameLoc L L'/\ChipRep w' p (c.program block page b).1 L' G/\v= .int .i64 ((c.program block page b).2:Nat):=by
 apply nand_Chip_Program.sh
 intro B w1 hnew
 have hBs:B=w.heap.size:=hnew.num
 have h1:=h.ext hnew.upd
 refine (nand_ask_spec h1 block page).mono ?_
 rintro _ _ ⟨rfl,rfl⟩
 rename_i w1
 refine ⟨_,rfl,br_ne (fun hne=>?_) fun heq=>?_⟩
 .have e:c.program block page b=(c,c.ask block page):=by unfold Chip.program;rw [if_pos (by omega)]
  rw [e]
  exact ⟨Upd.ext hnew.upd,L,SameLoc.refl _,h1,rfl⟩
 have h0:c.ask block page=0:=by omega
 obtain ⟨hd,hb0,hb1,hp0,hp1⟩:=ask_zero h0
 intro w3 hd3
 have e3:Ext w w3:=hnew.upd.trans hd3.upd
 have h3:=h.ext e3
 have hcell3:w3.heap[B]?=some (.cells #[.slice a b.length cp] T.L_uint8 (0,0)):=Ext.get hd3.upd hnew.get
 refine ⟨fun u=>u=w3,rfl,_,_,_,fun u hu=>hu ▸ cell_of hcell3 rfl,?_⟩
 simp only [nilC_some',add_lit]
 refine ⟨_,fun u hu=>hu ▸ cell_of h3.head rfl,br_ne (fun hne=>?_) fun hbl=>?_⟩
 .have e:c.program block page b=(c,2):=by unfold Chip.program;rw [if_neg (by omega),if_pos (by omega)]
  rw [e]
  exact ⟨Upd.ext e3,L,SameLoc.refl _,h3,rfl⟩
 have hbl:b.length=c.sz:=by omega
 refine ⟨_,_,_,cell_of h3.head rfl,hb0,by omega,?_⟩
 simp only [nilC_some',add_lit,Nat.mul_one,Nat.zero_add]
 have hlt:block.toNat<c.bad.length:=by rw [h.ok.bad];omega
 obtain ⟨b',o',hab,hc⟩:=RowAt.cell h3.bad.row (i:=block.toNat) (v:=.bool c.bad[block.toNat]) (by simp [hlt])
 cases hab
 simp only [Nat.zero_add] at hc
 have hbad:c.isBad block.toNat=c.bad[block.toNat]:=by simp [Chip.isBad,List.getD,hlt]
 refine ⟨_,hc,br_intro (fun ht=>?_) fun hf=>?_⟩
 .have e:c.program block page b=(c,9):=by unfold Chip.program;rw [if_neg (by omega),if_neg (by omega),if_pos (by rw [hbad];exact ht)]
  rw [e]
  exact ⟨Upd.ext e3,L,SameLoc.refl _,h3,rfl⟩
 intro w4 hd4
 have e4:Ext w w4:=e3.trans hd4.upd
 have h4:=h.ext e4
 have hcell4:=Ext.get hd4.upd hcell3
 obtain ⟨vs,ho,hv⟩:=h4.rows
 obtain ⟨l,cap,hl,hvi,hbi⟩:=hv block.toNat hb1
 refine ⟨fun u=>u=w4,rfl,_,_,_,fun u hu=>hu ▸ cell_of h4.head rfl,hb0,by omega,?_⟩
 obtain ⟨b',o',hab,hc'⟩:=RowAt.cell ho.row hvi
 cases hab
 simp only [Nat.zero_add] at hc'
 simp only [nilC_some',add_lit,Nat.mul_one,Nat.zero_add]
 refine ⟨_,_,_,fun u hu=>hu ▸ hc',_,fun u hu=>hu ▸ cell_of h4.head rfl,?_⟩
 have hps:=page_in hp1
 have hsz8:=h.ok.size_le
 have hblen:=h.ok.blk_len hb1
 have e1:i64.wrap (page * (c.sz:Int))=((page.toNat * c.sz:Nat):Int):=by
  have:page * (c.sz:Int)=((page.toNat * c.sz:Nat):Int):=by rw [Int.natCast_mul];congr 1;omega
  rw [this];exact w64 (by omega) (by omega)
 rw [e1]
 have hbb:BytesAt w4 (some ⟨l,0,none⟩) (c.blk block.toNat):=hbi.row
 have hcap:=hbi.2.1
 rw [<- hblen]
 refine slice_bytes_from hbb (by omega) (by omega) (by omega) fun a' c' ha' _ _ _ _=>?_
 simp only [Int.toNat_natCast] at ha' ⊢
 refine (seal_Blank_spec ha' (by simp;omega)).mono ?_
 rintro _ _ ⟨rfl,rfl⟩
 rename_i w4
 refine ⟨_,rfl,rfl,?_⟩
 cases hbk:isBlank ((c.blk block.toNat).drop (page.toNat * c.sz)) with
 | false =>
  have e:c.program block page b=(c,8):=by unfold Chip.program;rw [if_neg (by omega),if_neg (by omega),if_neg (by rw [hbad];simp [hf]),if_pos hbk]
  rw [e]
  simp only [Bool.not_false,br_true]
  exact ⟨Upd.ext e4,L,SameLoc.refl _,h4,rfl⟩
 | true =>
  have e:c.program block page b=c.done block.toNat (page.toNat * c.sz) c.sz b:=by unfold Chip.program;rw [if_neg (by omega),if_neg (by omega),if_neg (by rw [hbad];simp [hf]),if_neg (by rw [hbk];simp)]
  rw [e]
  simp only [Bool.not_true,br_false]
  have eb:block=(block.toNat:Int):=by omega
  have ep:page=(page.toNat:Int):=by omega
  rw [eb,ep]
  refine (nand_page_spec h4 block.toNat page.toNat hb1 hp1).mono ?_
  rintro _ w6 ⟨he6,l',hl',rfl⟩
  rw [hl] at hl'
  cases hl'
  refine ⟨_,_,_,rfl,?_⟩
  have h6:=h4.ext he6
  have hcell6:=Ext.get he6 hcell4
  have hb6:BytesAt w6 a b:=RowAt.ext (RowAt.ext hb e4) he6
  have hlm:=List.mem_of_getElem? hl
  have hpw:p<w.heap.size:=(Array.getElem?_eq_some_iff.1 h.head).1
  have hlw:l<w.heap.size:=by
   obtain ⟨vs0,_,hv0⟩:=h.rows
   obtain ⟨l3,cap3,hl3,_,hbi3⟩:=hv0 block.toNat hb1
   rw [hl] at hl3
   cases hl3
   exact OwnAt.blk hbi3 rfl
  refine (nand_done_spec h6 hb1 hps hl b fun i hi u hu=>?_).mono ?_
  .refine ⟨rfl,?_⟩
   refine nand_Program_1_spec (cell_of (hu.get hcell6 (by omega)) rfl) (RowAt.upd hb6 hu fun q hq hq'=>?_) (by omega)
   have:=hap q hq
   rcases hq' with hq' | hq'
   .exact this (by simp [hq'])
   .exact this (by rw [hq'];simp [hlm])
  .rintro _ w7 ⟨hu7,L',hs7,h7,rfl⟩
   refine ⟨_,rfl,(Upd.ext (e4.trans he6)).trans (hu7.mono fun x _ hx=>?_),L',hs7,h7,?_⟩
   .rcases hx with rfl | rfl | rfl
    .simp
    .simp
    .simp [hlm]
   .rfl
theorem nand_Erase_spec {w:World} {p:Nat} {c:Chip} {L:Loc} {G:Nat->Prop} (h:ChipRep w p c L G) (block:Int) :
  CallsR prog K.nand_Chip_Erase #[.pointer (some ⟨p,0,none⟩),.int .i64 block] w fun v w' =>
   Upd (fun x=>x∈p :: L.bb :: L.locs) w w'/\∃ L',SameLoc L L'/\ChipRep w' p (c.erase block).1 L' G/\v= .int .i64 ((c.erase block).2:Nat):=by
 apply nand_Chip_Erase.sh
 unfold nand_Chip_Erase.body
 refine (nand_ask_spec h block 0).mono ?_
 rintro _ _ ⟨rfl,rfl⟩
 rename_i w
 refine ⟨_,rfl,br_ne (fun hne=>?_) fun heq=>?_⟩
 .have e:c.erase block=(c,c.ask block 0):=by unfold Chip.erase;rw [if_pos (by omega)]
  rw [e]
  exact ⟨Upd.refl _ _,L,SameLoc.refl _,h,rfl⟩
 have h0:c.ask block 0=0:=by omega
 obtain ⟨hd,hb0,hb1,hp0,hp1⟩:=ask_zero h0
 simp only [nilC_some',add_lit]
 refine ⟨_,_,_,cell_of h.head rfl,hb0,by omega,?_⟩
 simp only [nilC_some',add_lit,Nat.mul_one,Nat.zero_add]
 have hlt:block.toNat<c.bad.length:=by rw [h.ok.bad];omega
 obtain ⟨b',o',hab,hc⟩:=RowAt.cell h.bad.row (i:=block.toNat) (v:=.bool c.bad[block.toNat]) (by simp [hlt])
 cases hab
 simp only [Nat.zero_add] at hc
 have hbad:c.isBad block.toNat=c.bad[block.toNat]:=by simp [Chip.isBad,List.getD,hlt]
 refine ⟨_,hc,br_intro (fun ht=>?_) fun hf=>?_⟩
 .have e:c.erase block=(c,9):=by unfold Chip.erase;rw [if_neg (by omega),if_pos (by rw [hbad];exact ht)]
  rw [e]
  exact ⟨Upd.refl _ _,L,SameLoc.refl _,h,rfl⟩
 obtain ⟨vs,ho,hv⟩:=h.rows
 obtain ⟨l,cap,hl,hvi,hbi⟩:=hv block.toNat hb1
 refine ⟨_,_,_,cell_of h.head rfl,hb0,by omega,?_⟩
 obtain ⟨b',o',hab,hc'⟩:=RowAt.cell ho.row hvi
 cases hab
 simp only [Nat.zero_add] at hc'
 simp only [nilC_some',add_lit,Nat.mul_one,Nat.zero_add]
 refine ⟨_,_,_,hc',?_⟩
 have e:c.erase block=c.done block.toNat 0 (c.np * c.sz) (List.replicate (c.np * c.sz) 255):=by unfold Chip.erase;rw [if_neg (by omega),if_neg (by rw [hbad];simp [hf])]
 rw [e]
 have eb:block=(block.toNat:Int):=by omega
 have hlm:=List.mem_of_getElem? hl
 rw [eb]
 refine (nand_done_spec h hb1 (off:=0) (by omega) hl (List.replicate (c.np * c.sz) 255) fun i hi u hu=>?_).mono ?_
 .refine ⟨rfl,?_⟩
  apply nand_Chip_Erase_1.sh
  refine ⟨?_,by trivial⟩
  simp [List.getD,hi]
 .rintro _ w7 ⟨hu7,L',hs7,h7,rfl⟩
  refine ⟨_,rfl,hu7.mono fun x _ hx=>?_,L',hs7,h7,rfl⟩
  rcases hx with rfl | rfl | rfl
  .simp
  .simp
  .simp [hlm]
theorem mask32 {y:Int} (h0:0<=y) (h1:y<4294967296):u64.wrap (((BitVec.ofInt (IntKind.bits .u64) y &&& BitVec.ofInt (IntKind.bits .u64) 4294967295).toNat:Nat):Int)=y:=by
 show u64.wrap (((BitVec.ofInt 64 y &&& BitVec.ofInt 64 4294967295).toNat:Nat):Int)=y
 rw [BitVec.toNat_and]
 have e1:(BitVec.ofInt 64 y).toNat=y.toNat:=by rw [BitVec.toNat_ofInt];omega
 have e2:(BitVec.ofInt 64 4294967295).toNat=2 ^ 32 - 1:=by decide
 rw [e1,e2,Nat.and_two_pow_sub_one_eq_mod]
 rw [Nat.mod_eq_of_lt (by omega)]
 rw [wu64 (by omega) (by omega)]
 omega
theorem shr32 {y:Int} (h0:0<=y) (h1:y<4294967296):Int.fdiv y (2 ^ (min (Int.toNat (32:Int)) (IntKind.bits .u64)))=0:=by
 have e:((2:Int) ^ (min (Int.toNat (32:Int)) (IntKind.bits .u64)))=4294967296:=by decide
 rw [e,Int.fdiv_eq_ediv_of_nonneg _ (by omega)]
 omega
theorem bits_Mul64_spec (n:Nat) (hn:n<1000000) (w:World):CallsR prog K.bits_Mul64 #[.int .u64 1,.int .u64 n] w fun v w'=>v= .tuple #[.int .u64 0,.int .u64 n]/\w'=w:=by
 apply bits_Mul64.sh
 unfold bits_Mul64.body
 rw [mask32 (y:=1) (by omega) (by omega),mask32 (y:=(n:Int)) (by omega) (by omega),shr32 (y:=1) (by omega) (by omega),shr32 (y:=(n:Int)) (by omega) (by omega)]
 simp only [Int.zero_mul,Int.one_mul,Int.mul_zero,Int.zero_add]
 have ew:u64.wrap (n:Int)=n:=wu64 (by omega) (by omega)
 have e0:u64.wrap 0=0:=by decide
 rw [ew,shr32 (y:=(n:Int)) (by omega) (by omega),e0]
 have e1:=mask32 (y:=0) (by omega) (by omega)
 have e3:=shr32 (y:=0) (by omega) (by omega)
 simp only [Int.add_zero,Int.zero_add,e0,e1,e3]
 exact ⟨by omega,by omega,by omega,by omega,by omega,by trivial,by trivial⟩
theorem bits_Mul_spec (n:Nat) (hn:n<1000000) (w:World):CallsR prog K.bits_Mul #[.int .u64 1,.int .u64 n] w fun v w'=>v= .tuple #[.int .u64 0,.int .u64 n]/\w'=w:=by
 apply bits_Mul.sh
 refine (bits_Mul64_spec n hn w).mono ?_
 rintro _ _ ⟨rfl,rfl⟩
 exact ⟨_,_,rfl,rfl,by trivial⟩
theorem zerosL_one (v:Value) (n:Nat):zerosL [v] n=List.replicate n v:=by
 induction n with
 | zero=>rfl
 | succ n ih=>simp [zerosL,List.replicate_succ] at ih ⊢;try exact ih
theorem slices_Repeat_spec {w:World} {a:Option Addr} {x:UInt8} {cx:Nat} (h:BytesAt w a [x]) (hc:1<=cx) {n:Nat} (hn:n<1000000) (hn1:1<=n) :
  CallsR prog K.slices_Repeat_byte #[.slice a 1 cx,.int .i64 n] w fun v w'=>Ext w w'/\∃ b,v= .slice (some ⟨b,0,none⟩) n n/\OwnAt w' (some ⟨b,0,none⟩) n n T.uint8 1 ((List.replicate n x).map bv)/\w.heap.size<=b:=by
 apply slices_Repeat_byte.sh
 refine br_dec (fun h=>by omega) fun _=>?_
 have e1:u64.wrap (((1:Nat):Int))=1:=by decide
 rw [e1,wu64 (by omega) (by omega)]
 refine (bits_Mul_spec n hn w).mono ?_
 rintro _ _ ⟨rfl,rfl⟩
 rename_i w
 refine ⟨_,_,rfl,fun u=>u=w,br_dec (fun h=>by omega) fun _=>br_dec (fun h=>by omega) fun _=>rfl,?_⟩
 rintro _ rfl
 rename_i w
 rw [w64 (by omega) (by omega)]
 refine ⟨by omega,by omega,by omega,by omega,rfl,fun b w3 hnew=>?_⟩
 have hb:b=w.heap.size:=hnew.num
 simp only [Int.toNat_natCast] at hnew ⊢
 rw [zerosL_one] at hnew
 have hx3:BytesAt w3 a [x]:=RowAt.ext h hnew.upd
 have hrep:(List.replicate n (Value.int .u8 0))=(List.replicate n (0:UInt8)).map bv:=by simp
 rw [hrep] at hnew
 refine copy_into (xs:=[x]) hnew.get hx3 (by simpa using hn1) (by simpa using hn1) fun w4 hput=>?_
 rw [splice_bytes] at hput
 refine ⟨fun m u=>∃ k:Nat,m=k/\1<=k/\k<=n/\Ext w u/\u.heap[b]?=some (.cells ((List.replicate k x ++ List.replicate (n - k) 0).map bv).toArray T.uint8 (0,0)),fun m _=>(n - m).toNat,?_,?_⟩
 .refine ⟨1,rfl,Nat.le_refl _,hn1,Put.upd hnew.upd hput (.inl (by omega)),?_⟩
  have:=hput.get
  rw [this]
  congr 3
  simp
 rintro m u ⟨k,rfl,hk1,hkn,heu,hbu⟩
 refine br_dec (fun hlt=>?_) fun hge=>?_
 .intro w6 hdrew
  have hb6:=Ext.get hdrew.upd hbu
  refine ⟨fun v=>v=w6,rfl,?_⟩
  refine slice_from (by omega) (by omega) (Nat.le_refl _) ?_
  rw [if_neg (by omega)]
  simp only [Option.map_some,add_lit,Int.toNat_natCast,Nat.mul_one,Nat.zero_add]
  have hfull:BytesAt w6 (some ⟨b,0,none⟩) (List.replicate k x ++ List.replicate (n - k) 0):=RowAt.of hb6 fun j v hj=>by simpa using hj
  have hfl:(List.replicate k x ++ List.replicate (n - k) (0:UInt8)).length=n:=by simp;omega
  have hcut:=slice_bytes_to (cap:=n) hfull (k:=(k:Int)) (mx:=none) (by omega) (by omega) (by omega) (.inl rfl) (K:=fun a3 l3 c3=>copyP 1 (some ⟨b,k,none⟩) (n - k) (Value.slice a3 l3 c3) w6 fun x5 w7 =>
   (∃ k':Nat,i64.wrap ((k:Int)+x5)=k'/\1<=k'/\k'<=n/\Ext w w7/\w7.heap[b]?=some (.cells ((List.replicate k' x ++ List.replicate (n - k') 0).map bv).toArray T.uint8 (0,0)))/\((n:Int) - i64.wrap ((k:Int)+x5)).toNat<((n:Int) - (k:Int)).toNat) ?_
  .rw [hfl] at hcut
   exact hcut
  .intro c' hb' _
   simp only [Int.toNat_natCast] at hb' ⊢
   have htk:(List.replicate k x ++ List.replicate (n - k) (0:UInt8)).take k=List.replicate k x:=by
    rw [List.take_append_of_le_length (by simp)];simp
   rw [htk] at hb' ⊢
   have hb'':BytesAt w6 (some ⟨b,0,none⟩) (List.replicate (min k (n - k)) x):=by
    have:=BytesAt.take hb' (min k (n - k))
    rwa [List.take_replicate,Nat.min_eq_left (Nat.min_le_left _ _)] at this
   refine ⟨k,by simp [lenV],(List.replicate (min k (n - k)) x).map bv,?_,oneCell_bytes,?_⟩
   .have:=read_row (cap:=c') (size:=1) hb'' (len:=min k (n - k)) (by simp)
    simp only [readP] at this ⊢
    exact ⟨by simp,RowAt.cells hb''⟩
   .refine store_of hb6 (by simp;omega) fun W7 hput7=>?_
    have e:i64.wrap ((k:Int)+((min k (n - k):Nat):Int))=((k+min k (n - k):Nat):Int):=w64 (by omega) (by omega)
    simp only []
    rw [e]
    refine ⟨⟨k+min k (n - k),rfl,by omega,by omega,Put.upd (heu.trans hdrew.upd) hput7 (.inl (by omega)),?_⟩,by omega⟩
    have:=hput7.get
    rw [this,splice_bytes]
    have q:(List.replicate k x ++ List.replicate (n - k) (0:UInt8)).take k ++ List.replicate (min k (n - k)) x ++ (List.replicate k x ++ List.replicate (n - k) (0:UInt8)).drop (k+(List.replicate (min k (n - k)) x).length)=List.replicate (k+min k (n - k)) x ++ List.replicate (n - (k+min k (n - k))) 0:=by
     rw [List.take_append_of_le_length (by simp),List.take_of_length_le (by simp),List.drop_append,List.drop_of_length_le (l:=List.replicate k x) (by simp),List.nil_append,List.drop_replicate,List.replicate_append_replicate]
     congr 2
     simp
     omega
    rw [q]
 .have:k=n:=by omega
  subst this
  refine ⟨heu,b,rfl,⟨by simp,Nat.le_refl _,.inr ⟨b,_,rfl,hbu,by simp,by simp⟩⟩,by omega⟩
def newCells (nb np sz sp:Nat) (a:Option Addr) (len cap bb cbad:Nat):Array Value :=
 #[.int .i64 nb,.int .i64 np,.int .i64 sz,.int .i64 sp,.slice a len cap,.slice (some ⟨bb,0,none⟩) nb cbad,.slice none 0 0,.int .i64 0,.bool false,.int .i64 0]
structure Built (A:Nat) (w:World) (a:Option Addr) (cap:Nat) (locs:List Nat) (bs:List (List UInt8)) (N:Nat):Prop where
 row:∃ vs,OwnAt w a bs.length cap T.L_uint8 1 vs/\∀ i,i<bs.length->∃ l cap,locs[i]?=some l/\vs[i]?=some (.slice (some ⟨l,0,none⟩) N cap)/\OwnAt w (some ⟨l,0,none⟩) N cap T.uint8 1 ((bs.getD i []).map bv)
 len:locs.length=bs.length
 at_:∀ l,l∈locs->A<=l/\l<w.heap.size
 nodup:locs.Nodup
 own:∀ b,a=some ⟨b,0,none⟩->A<=b/\b<w.heap.size/\b ∉ locs
theorem Built.nil (A:Nat) (w:World) (N:Nat):Built A w none 0 [] [] N :=
 ⟨⟨[],OwnAt.nil _ _ _,fun i hi=>by simp at hi⟩,rfl,fun l hl=>by simp at hl,List.nodup_nil,fun b hb=>by cases hb⟩
theorem Built.upd {F:Nat->Prop} {A:Nat} {w w':World} {a:Option Addr} {cap:Nat} {locs:List Nat} {bs:List (List UInt8)} {N:Nat} (h:Built A w a cap locs bs N) (k:Upd F w w') (hf:∀ x,F x->x<A):Built A w' a cap locs bs N:=by
 obtain ⟨⟨vs,ho,hv⟩,hl,hat,hn,hown⟩:=h
 refine ⟨⟨vs,OwnAt.upd ho k (fun b hb hF=>by have:=hf _ hF;have:=(hown b hb).1;omega),fun i hi=>?_⟩,hl,fun l hm=>⟨(hat l hm).1,Nat.lt_of_lt_of_le (hat l hm).2 k.size⟩,hn,fun b hb=>⟨(hown b hb).1,Nat.lt_of_lt_of_le (hown b hb).2.1 k.size,(hown b hb).2.2⟩⟩
 obtain ⟨l,cap',hli,hvi,hbi⟩:=hv i hi
 refine ⟨l,cap',hli,hvi,OwnAt.upd hbi k (fun b hb hF=>?_)⟩
 cases hb
 have:=hf _ hF
 have:=(hat l (List.mem_of_getElem? hli)).1
 omega
theorem Built.more {A:Nat} {w w1 w2:World} {a:Option Addr} {cap:Nat} {locs:List Nat} {bs:List (List UInt8)} {N:Nat} (h:Built A w a cap locs bs N) (hA:A<=w.heap.size) (he:Ext w w1) {l c:Nat} {b:List UInt8}
  (ho:OwnAt w1 (some ⟨l,0,none⟩) N c T.uint8 1 (b.map bv)) (hl:w.heap.size<=l) {B:Nat} (hn:New w1 (.cells #[.slice (some ⟨l,0,none⟩) N c] T.L_uint8) B w2) (hs:bs.length<=100) {K:Option Addr->Nat->Nat->World->Prop}
  (hk:∀ a' c' w',Upd (fun x=>A<=x) w w'->(∀ b,a=some ⟨b,0,none⟩->A<=b)->Upd (fun b=>a=some ⟨b,0,none⟩) w2 w'->Built A w' a' c' (locs ++ [l]) (bs ++ [b]) N->K a' (bs.length+1) c' w') :
  appendP T.L_uint8 1 24 [Value.slice none 0 0] a bs.length cap (.slice (some ⟨B,0,none⟩) 1 1) w2 K:=by
 obtain ⟨⟨vs,hvo,hv⟩,hlen,hat,hnd,hown⟩:=h
 have hlw:l<w1.heap.size:=OwnAt.blk ho rfl
 have e2:Ext w w2:=he.trans hn.upd
 have hB:B=w1.heap.size:=hn.num
 have hrow:RowAt w2 (some ⟨B,0,none⟩) [Value.slice (some ⟨l,0,none⟩) N c]:=RowAt.of hn.get fun j v hj=>by simpa using hj
 refine append_own (OwnAt.ext hvo e2) rfl (read_row hrow (by simp)) (by simp) (by simp;rfl) rfl (by omega) (by omega) fun a' c' w' hu ho' hf=>?_
 have hu':Upd (fun x=>A<=x) w w':=(Upd.ext e2).trans (hu.mono fun x _ hx=>(hown x hx).1)
 refine hk a' c' w' hu' (fun b hb=>(hown b hb).1) hu ⟨⟨_,by simpa using ho',fun i hi=>?_⟩,by simp [hlen],fun x hx=>?_,?_,fun x hx=>?_⟩
 .have hvl:vs.length=bs.length:=by simpa using hvo.1
  by_cases hib:i<bs.length
  .obtain ⟨l',cap',hli,hvi,hbi⟩:=hv i hib
   refine ⟨l',cap',by rw [List.getElem?_append_left (by omega)];exact hli,by rw [List.getElem?_append_left (by omega)];exact hvi,?_⟩
   have hm:=List.mem_of_getElem? hli
   have:(bs ++ [b]).getD i []=bs.getD i []:=by simp [List.getD,List.getElem?_append_left hib]
   rw [this]
   refine OwnAt.upd (OwnAt.ext hbi e2) hu (fun b' hb' hF=>?_)
   cases hb'
   exact (hown _ hF).2.2 hm
  .have hie:i=bs.length:=by simp at hi;omega
   subst hie
   refine ⟨l,c,by rw [<- hlen];simp,by rw [<- hvl];simp,?_⟩
   have:(bs ++ [b]).getD bs.length []=b:=by simp [List.getD]
   rw [this]
   refine OwnAt.upd (OwnAt.ext ho hn.upd) hu (fun b' hb' hF=>?_)
   cases hb'
   have:=(hown _ hF).2.1
   omega
 .have hs':=hu.size
  have hs1:=hn.size
  have hs0:=he.size
  rcases List.mem_append.1 hx with hx | hx
  .have:=hat x hx
   exact ⟨this.1,by omega⟩
  .simp at hx
   subst hx
   exact ⟨by omega,by omega⟩
 .rw [List.nodup_append]
  refine ⟨hnd,by simp,fun x hx y hy e=>?_⟩
  simp at hy
  have:=(hat x hx).2
  omega
 .have hs':=hu.size
  have hs1:=hn.size
  have hs0:=he.size
  have hx':x<w'.heap.size:=OwnAt.blk ho' hx
  rcases hf with rfl | ⟨b',rfl,hb'⟩
  .have:=hown x hx
   refine ⟨this.1,hx',fun hm=>?_⟩
   rcases List.mem_append.1 hm with hm | hm
   .exact this.2.2 hm
   .simp at hm;omega
  .cases hx
   refine ⟨by omega,hx',fun hm=>?_⟩
   rcases List.mem_append.1 hm with hm | hm
   .have:=(hat _ hm).2;omega
   .simp at hm;omega
theorem Built.chip {A p bb cbad:Nat} {w:World} {a:Option Addr} {cap nb np sz sp:Nat} {locs:List Nat} {bs:List (List UInt8)} {bad:List Bool} (h:Built A w a cap locs bs (np * sz)) (hb:bs.length=nb)
  (hd:w.heap[p]?=some (.cells (newCells nb np sz sp a bs.length cap bb cbad) T.nand_Chip (0,0))) (hbad:OwnAt w (some ⟨bb,0,none⟩) nb cbad T.bool 1 (bad.map Value.bool)) (hp:p<A) (hbb:bb<A) (hne:p≠bb) {Z:Nat} (hpZ:Z<=p) (hbZ:Z<=bb)
  (nb1:8<=nb) (nb2:nb<=64) (np1:4<=np) (np2:np<=32) (sz1:128<=sz) (sz2:sz<=256) (hbl:∀ b∈bs,b.length=np * sz) :
  ChipAt w p ⟨nb,np,sz,sp,bs,bad,[],0,false,0⟩ (fun x=>Z<=x/\x<w.heap.size):=by
 obtain ⟨⟨vs,hvo,hv⟩,hlen,hat,hnd,hown⟩:=h
 obtain ⟨pb,rfl⟩: ∃ pb,a=some ⟨pb,0,none⟩:=by
  obtain ⟨_,_,h⟩:=hvo
  rcases h with ⟨_,h,_⟩| ⟨b,cur,h,_⟩
  .omega
  .exact ⟨b,h⟩
 have hpb:=hown pb rfl
 have hps:p<w.heap.size:=(Array.getElem?_eq_some_iff.1 hd).1
 have hbs:bb<w.heap.size:=OwnAt.blk hbad rfl
 have hbadl:bad.length=nb:=by have:=hbad.1;simpa using this
 refine ⟨⟨bb,cbad,pb,cap,none,0,locs⟩,fun x=>x=pb,⟨⟨nb1,nb2,np1,np2,sz1,sz2,hb,hbl,hbadl⟩,?_,hbad,?_,?_,?_,?_,?_,rfl⟩,?_,?_,fun x hx=>hx.2⟩
 .rw [hd,hb];rfl
 .refine ⟨vs,by rw [<- hb];exact hvo,fun i hi=>?_⟩
  obtain ⟨l,c,h1,h2,h3⟩:=hv i (by rw [hb];exact hi)
  exact ⟨l,c,h1,h2,h3⟩
 .exact ⟨[],RowAt.nil _ _,rfl,Nat.le_refl _,fun a ha=>by cases ha⟩
 .simp only [];rw [hlen];exact hb
 .simp only []
  refine List.nodup_cons.2 ⟨fun hm=>?_,List.nodup_cons.2 ⟨fun hm=>?_,hnd⟩⟩
  .rcases List.mem_cons.1 hm with hm | hm
   .exact hne hm
   .have:=(hat _ hm).1;omega
  .have:=(hat _ hm).1;omega
 .intro x hx he
  subst he
  simp only [List.mem_cons] at hx
  rcases hx with hx | hx | hx
  .omega
  .omega
  .exact hpb.2.2 hx
 .intro x hx
  simp only [List.mem_cons] at hx
  rcases hx with rfl | rfl | hx
  .exact ⟨hpZ,hps⟩
  .exact ⟨hbZ,hbs⟩
  .have:=hat x hx;exact ⟨by omega,this.2⟩
 .rintro x rfl
  exact ⟨by omega,hpb.2.1⟩
theorem Upd.low {F:Nat->Prop} {a b c:World} (h:Upd F a b) (k:Upd (fun x=>a.heap.size<=x) b c):Upd F a c :=
 ⟨Nat.le_trans h.size k.size,fun i hi hf=>(k.blk i (Nat.lt_of_lt_of_le hi h.size) (by omega)).trans (h.blk i hi hf),k.os.trans h.os,k.tape.trans h.tape,k.output.trans h.output,fun b o hb ho=>k.book b o (h.book b o hb ho) ho⟩
theorem range_ok {w2:World} {v lo hi:Int} (h1:lo<=v) (h2:v<=hi) {X K:World->Prop} (hk:∀ w4,Ext w2 w4->K w4) (B:Nat) (w3:World) (hn:New w2 (.cells #[Value.int .i64 0,Value.int .i64 0,Value.int .i64 0] T.A3int) B w3) :
  storeP w3 ⟨B,0,none⟩ [Value.int .i64 v,Value.int .i64 lo,Value.int .i64 hi] fun w4=>0<=(0:Int)/\(0:Int)<3/\
   ∃ x6:Int,World.cell? w4 (Addr.add ⟨B,0,none⟩ (Int.toNat (0:Int) * 1))=some (Value.int .i64 x6)/\0<=(1:Int)/\(1:Int)<3/\
   ∃ x7:Int,World.cell? w4 (Addr.add ⟨B,0,none⟩ (Int.toNat (1:Int) * 1))=some (Value.int .i64 x7)/\
   br (decide (x6<x7)) (X w4) (0<=(0:Int)/\(0:Int)<3/\
    ∃ x8:Int,World.cell? w4 (Addr.add ⟨B,0,none⟩ (Int.toNat (0:Int) * 1))=some (Value.int .i64 x8)/\0<=(2:Int)/\(2:Int)<3/\
    ∃ x9:Int,World.cell? w4 (Addr.add ⟨B,0,none⟩ (Int.toNat (2:Int) * 1))=some (Value.int .i64 x9)/\
    br (decide (x8 > x9)) (X w4) (K w4)):=by
 refine store_of hn.get (by simp) fun w4 hput=>?_
 have hB:B=w2.heap.size:=hn.num
 have he:Ext w2 w4:=Put.upd hn.upd hput (.inl (by omega))
 have hg:=hput.get
 rw [splice_all _ _ (by simp)] at hg
 simp only [add_lit,tn0,tn1,tn2]
 refine ⟨by omega,by omega,_,cell_of hg rfl,by omega,by omega,_,cell_of hg rfl,br_dec (fun h=>by omega) fun _=>⟨by omega,by omega,_,cell_of hg rfl,by omega,by omega,_,cell_of hg rfl,br_dec (fun h=>by omega) fun _=>hk _ he⟩⟩
theorem nand_New_spec (w:World) {nb np sz sp:Nat} (nb1:8<=nb) (nb2:nb<=64) (np1:4<=np) (np2:np<=32) (sz1:128<=sz) (sz2:sz<=256) (sp2:sp<=4) :
  CallsR prog K.nand_New #[.agg #[.int .i64 nb,.int .i64 np,.int .i64 sz,.int .i64 sp]] w fun v w'=>Ext w w'/\∃ p,v= .tuple #[.pointer (some ⟨p,0,none⟩),.int .i64 0]/\
   ChipAt w' p ⟨nb,np,sz,sp,List.replicate nb (List.replicate (np * sz) 255),List.replicate nb false,[],0,false,0⟩ (fun x=>w.heap.size<=x/\x<w'.heap.size):=by
 apply nand_New.sh
 intro B1 w1 hn1
 have hB1:B1=w.heap.size:=hn1.num
 have hc1:=hn1.get
 simp only [add_lit]
 refine ⟨_,cell_of hc1 rfl,_,cell_of hc1 rfl,_,cell_of hc1 rfl,_,cell_of hc1 rfl,fun x u=>0<=x/\x<=4/\Ext w1 u,fun x _=>(4 - x).toNat,⟨by omega,by omega,Upd.refl _ _⟩,?_⟩
 rintro x5 W2 ⟨hx0,hx4,he2⟩
 have hnext:∀ w4,Ext W2 w4->x5<4->(0<=i64.wrap (x5+1)/\i64.wrap (x5+1)<=4/\Ext w1 w4)/\(4 - i64.wrap (x5+1)).toNat<(4 - x5).toNat:=by
  intro w4 h4 hlt
  rw [w64 (by omega) (by omega)]
  exact ⟨⟨by omega,by omega,he2.trans h4⟩,by omega⟩
 refine br_dec (fun hlt=>⟨hx0,hlt,?_⟩) fun hge=>?_
 .refine ⟨⟨⟨⟨trivial,fun _=>?_⟩,fun _=>?_⟩,fun _=>?_⟩,fun _=>?_⟩
  .exact fun B w3 hn=>range_ok (by omega) (by omega) (fun w4 h4=>hnext w4 h4 hlt) B w3 hn
  .exact fun B w3 hn=>range_ok (by omega) (by omega) (fun w4 h4=>hnext w4 h4 hlt) B w3 hn
  .exact fun B w3 hn=>range_ok (by omega) (by omega) (fun w4 h4=>hnext w4 h4 hlt) B w3 hn
  .exact fun B w3 hn=>range_ok (by omega) (by omega) (fun w4 h4=>hnext w4 h4 hlt) B w3 hn
 .intro w11 hd11
  have e11:Ext w1 w11:=he2.trans hd11.upd
  have hsz8:np * sz<=8192:=by have:=Nat.mul_le_mul np2 sz2;omega
  refine ⟨fun u=>Ext w1 u,e11,(nb:Int),(np:Int),(sz:Int),(sp:Int),fun u hu=>cellsAt_of (o:=0) (Ext.get hu hc1) (fun j v hj=>by simpa using hj),(nb:Int),fun u hu=>cell_of (Ext.get hu hc1) rfl,?_⟩
  refine ⟨by omega,by omega,by omega,by omega,rfl,fun bb w12 hn12=>?_⟩
  have e12:=e11.trans hn12.upd
  have hbb:bb=w11.heap.size:=hn12.num
  simp only [Int.toNat_natCast] at hn12 ⊢
  rw [zerosL_one] at hn12
  refine ⟨e12,fun B6 w13 hn13=>?_⟩
  have hB6:B6=w12.heap.size:=hn13.num
  have e13:=e12.trans hn13.upd
  have s1:=hn1.size
  have s11:=e11.size
  have s12:=hn12.size
  have s13:=hn13.size
  have hbad12:OwnAt w12 (some ⟨bb,0,none⟩) nb nb T.bool 1 ((List.replicate nb false).map Value.bool):=by
   have:=OwnAt.new (n:=nb) (size:=1) hn12 (by simp)
   simpa using this
  refine ⟨e13,_,cell_of (Ext.get e13 hc1) rfl,?_⟩
  refine ⟨fun x u=>∃ (i:Nat) (a:Option Addr) (cap:Nat) (locs:List Nat),x=i/\i<=nb/\Upd (·=B6) w13 u/\u.heap[B6]?=some (.cells (newCells nb np sz sp a i cap bb nb) T.nand_Chip (0,0))/\Built w13.heap.size u a cap locs (List.replicate i (List.replicate (np * sz) 255)) (np * sz),
   fun x _=>(nb - x).toNat,⟨0,none,0,[],rfl,by omega,Upd.refl _ _,hn13.get,Built.nil _ _ _⟩,?_⟩
  rintro x28 w14 ⟨i,a,cap,locs,rfl,hi,hu14,hd14,hbt⟩
  refine br_dec (fun hlt=>?_) fun hge=>?_
  .intro w15 hd15
   have hu15:Upd (·=B6) w13 w15:=hu14.then hd15.upd
   have hg15:=Ext.get hd15.upd hd14
   have hg1:w15.heap[B1]?=_:=hu15.get (Ext.get e13 hc1) (by omega)
   have hs15:=hu15.size
   have hSc:∀ {u:World},Upd (fun x=>w13.heap.size<=x) w15 u->u.heap[B6]?=some (.cells (newCells nb np sz sp a i cap bb nb) T.nand_Chip (0,0)):=fun hu=>hu.get hg15 (by omega)
   have hSg:∀ {u:World},Upd (fun x=>w13.heap.size<=x) w15 u->u.heap[B1]?=_:=fun hu=>hu.get hg1 (by omega)
   refine ⟨fun u=>Upd (fun x=>w13.heap.size<=x) w15 u,Upd.refl _ _,a,i,cap,fun u hu=>cell_of (hSc hu) rfl,(np:Int),fun u hu=>cell_of (hSg hu) rfl,(sz:Int),fun u hu=>cell_of (hSg hu) rfl,?_⟩
   intro B7 w16 hn16
   refine ⟨Upd.ext hn16.upd,?_⟩
   have eN:i64.wrap ((np:Int) * (sz:Int))=((np * sz:Nat):Int):=by rw [<- Int.natCast_mul];exact w64 (by omega) (by omega)
   rw [eN]
   have h128:4 * 128<=np * sz:=Nat.mul_le_mul np1 sz1
   refine (slices_Repeat_spec (x:=255) (a:=some ⟨B7,0,none⟩) (cx:=1) (RowAt.of hn16.get fun j v hj=>by match j,hj with | 0,hj=>exact hj | j+1,hj=>simp at hj) (Nat.le_refl _) (n:=np * sz) (by omega) (by omega)).mono ?_
   rintro _ w17 ⟨he17,l,rfl,hol,hlf⟩
   have e17:Ext w15 w17:=hn16.upd.trans he17
   refine ⟨_,_,_,rfl,Upd.ext e17,fun B8 w18 hn18=>⟨Upd.ext (e17.trans hn18.upd),?_⟩⟩
   have hbt15:Built w13.heap.size w15 a cap locs (List.replicate i (List.replicate (np * sz) 255)) (np * sz):=hbt.upd (F:=NoB) hd15.upd (fun _ hf=>hf.elim)
   have hmore:=Built.more (K:=fun a4 l4 c4 w19=>Upd (fun x=>w13.heap.size<=x) w15 w19/\storeP w19 ⟨B6,0+4,none⟩ [Value.slice a4 l4 c4] fun w20 =>
    (∃ (i':Nat) (a:Option Addr) (cap:Nat) (locs:List Nat),i64.wrap ((i:Int)+1)=i'/\i'<=nb/\Upd (·=B6) w13 w20/\w20.heap[B6]?=some (.cells (newCells nb np sz sp a i' cap bb nb) T.nand_Chip (0,0))/\Built w13.heap.size w20 a cap locs (List.replicate i' (List.replicate (np * sz) 255)) (np * sz))/\((nb:Int) - i64.wrap ((i:Int)+1)).toNat<((nb:Int) - (i:Int)).toNat) hbt15 hs15 e17 hol (by have:=hn16.size;omega) hn18 (by simp;omega) ?_
   .simp only [List.length_replicate] at hmore
    exact hmore
   .intro a' c' W19 hu19 hown hu19b hbt19
    refine ⟨hu19,?_⟩
    have hg19:=hSc hu19
    refine store_of hg19 (by simp [newCells]) fun W20 hput=>?_
    have e1:i64.wrap ((i:Int)+1)=((i+1:Nat):Int):=w64 (by omega) (by omega)
    rw [e1]
    refine ⟨⟨i+1,a',c',locs ++ [l],rfl,by omega,?_,?_,?_⟩,by omega⟩
    .exact (hu15.low hu19).trans (Put.upd1 hput)
    .have:=hput.get
     rw [this]
     simp only [List.length_replicate]
     rfl
    .have hr:List.replicate i (List.replicate (np * sz) (255:UInt8)) ++ [List.replicate (np * sz) 255]=List.replicate (i+1) (List.replicate (np * sz) 255):=by rw [<- List.replicate_append_replicate];rfl
     rw [hr] at hbt19
     exact hbt19.upd (Put.upd1 hput) (fun x hx=>by omega)
  .have hi':i=nb:=by omega
   subst hi'
   have hs14:=hu14.size
   refine ⟨?_,B6,rfl,?_⟩
   .exact Upd.beyond (hn1.upd.trans e13) hu14 (fun x hx=>by omega)
   .refine Built.chip (A:=w13.heap.size) (bb:=bb) (cbad:=i) (a:=a) (cap:=cap) (locs:=locs) (bs:=List.replicate i (List.replicate (np * sz) 255)) hbt (by simp) (by simp only [List.length_replicate];exact hd14) ?_ (by omega) (by omega) (by omega) (Z:=w.heap.size) (by omega) (by omega) nb1 nb2 np1 np2 sz1 sz2 ?_
    .exact OwnAt.upd (OwnAt.ext hbad12 hn13.upd) hu14 (fun b hb=>by cases hb;omega)
    .intro b hb
     rw [List.eq_of_mem_replicate hb]
     simp
end Go.Den
namespace Go.Den
namespace Chip
end Chip
theorem HitRow.at_ {w:World} {G:Nat->Prop}:∀ {hs:List Hit} {vs:List Value},HitRow w G vs hs->∀ i (hi:i<hs.length),∃ m c r,vs.drop (i * 3)=Value.int .i64 hs[i].after :: Value.bool hs[i].fails :: Value.slice m hs[i].mask.length c :: r/\BytesAt w m hs[i].mask/\(hs[i].mask≠[]->∀ p,m=some p->G p.block)
 | [],vs,h,i,hi=>by simp at hi
 | t :: hs,vs,⟨m,c,r,e,hb,hg,hr⟩,0,hi=>⟨m,c,r,by simpa using e,hb,hg⟩
 | t :: hs,vs,⟨m,c,r,e,hb,hg,hr⟩,i+1,hi=>by
  obtain ⟨m',c',r',e',hb',hg'⟩:=HitRow.at_ hr i (by simpa using hi)
  refine ⟨m',c',r',?_,hb',hg'⟩
  rw [e,Nat.succ_mul]
  exact e'
end Go.Den
namespace Go.Den
def SlicesAt (w:World) (a:Option Addr) (bs:List (List UInt8)):Prop :=
 ∃ vs,RowAt w a vs/\vs.length=bs.length/\∀ i,i<bs.length->∃ ai ci,vs[i]?=some (.slice ai (bs.getD i []).length ci)/\BytesAt w ai (bs.getD i [])
theorem SlicesAt.ext {w w':World} {a:Option Addr} {bs:List (List UInt8)} (h:SlicesAt w a bs) (k:Ext w w'):SlicesAt w' a bs:=by
 obtain ⟨vs,hr,hl,hv⟩:=h
 refine ⟨vs,RowAt.ext hr k,hl,fun i hi=>?_⟩
 obtain ⟨ai,ci,h1,h2⟩:=hv i hi
 exact ⟨ai,ci,h1,RowAt.ext h2 k⟩
theorem idx_slice {w:World} {a:Option Addr} {bs:List (List UInt8)} {i:Nat} {K:Option Addr->Nat->Nat->Prop} (h:SlicesAt w a bs) (hi:i<bs.length) (hk:∀ ai ci,BytesAt w ai (bs.getD i [])->K ai (bs.getD i []).length ci) :
  idxP a bs.length (i:Int) 1 fun q=>∃ (a1:Option Addr) (l1 c1:Nat),World.cell? w q=some (Value.slice a1 l1 c1)/\K a1 l1 c1:=by
 obtain ⟨vs,hr,hl,hv⟩:=h
 obtain ⟨ai,ci,h1,h2⟩:=hv i hi
 refine ⟨by omega,by omega,?_⟩
 obtain ⟨b,o,rfl,hc⟩:=RowAt.cell hr h1
 simp only [nilC_some',add_lit,Int.toNat_natCast,Nat.mul_one]
 exact ⟨_,_,_,hc,hk ai ci h2⟩
theorem flatten_take_succ (bs:List (List UInt8)) (i:Nat) (hi:i<bs.length):(bs.take (i+1)).flatten=(bs.take i).flatten ++ bs.getD i []:=by
 rw [List.take_succ_eq_append_getElem hi,List.flatten_append]
 simp [List.getD,hi]
theorem flatten_take_le (bs:List (List UInt8)) (i:Nat):(bs.take i).flatten.length<=bs.flatten.length:=by
 have h:bs.flatten=(bs.take i).flatten ++ (bs.drop i).flatten:=by rw [<- List.flatten_append,List.take_append_drop]
 rw [h];simp
theorem slices_Grow_spec (n:Nat) (hn:n<=10000000000000) (w:World) :
  CallsR prog K.slices_Grow_byte #[.slice none 0 0,.int .i64 n] w fun v w'=>Ext w w'/\∃ a c,v= .slice a 0 c/\OwnAt w' a 0 c T.uint8 1 []/\Fresh w a:=by
 apply slices_Grow_byte.sh
 unfold slices_Grow_byte.body
 refine br_dec (fun h=>by omega) fun _=>?_
 have e:i64.wrap ((n:Int) - i64.wrap (((0:Nat):Int) - ((0:Nat):Int)))=(n:Int):=by
  rw [w64 (x:=((0:Nat):Int) - ((0:Nat):Int)) (by omega) (by omega),w64 (by omega) (by omega)];omega
 rw [e]
 refine br_dec (fun hpos=>?_) fun hz=>⟨Upd.refl _ _,none,0,rfl,OwnAt.nil _ _ _,Fresh.none _⟩
 refine ⟨by simp,by simp,by simp,by simp,by simp,by simp,by simp,?_⟩
 simp only [Option.getD_some,Option.getD_none,Option.map_none,ite_self]
 refine ⟨by omega,by omega,by omega,by simp;rfl,rfl,fun h=>?_,fun _=>⟨by simp;omega,?_,[],?_,fun cap b w' hc hn=>?_⟩⟩
 .simp at h;omega
 .have:=nextcap_le (n:=0+(n:Int).toNat) (c:=0) (by simp;omega)
  simp at this ⊢
  omega
 .exact read_row (RowAt.nil _ _) (by simp)
 .have e1:Ext w w':=(drew_upd w).trans hn.upd
  have hb:b=w.heap.size:=hn.num
  have hcap:n<=cap:=by simpa using hc
  refine ⟨by simp,by simp,by simp,by simp,by simp,by simp,by simp,?_⟩
  have e2:(if (Option.getD none (cap:Int)).toNat=(Option.getD none (0:Int)).toNat then some (⟨b,0,none⟩: Addr) else Option.map (fun x=>Addr.add x ((Option.getD none (0:Int)).toNat * 1)) (some ⟨b,0,none⟩))=some ⟨b,0,none⟩:=by simp
  simp only [Option.getD_some,Option.getD_none] at e2 ⊢
  refine ⟨e1,some ⟨b,0,none⟩,cap,?_,?_,Fresh.some (by omega)⟩
  .rw [e2];simp
  .refine ⟨by simp,by omega,.inr ⟨b,_,rfl,hn.get,?_,by simp⟩⟩
   simp [zerosL_length]
   omega
theorem slices_Concat_spec {w:World} {a:Option Addr} {bs:List (List UInt8)} {cp:Nat} (h:SlicesAt w a bs) (hn:bs.length<=1000000000) (hf:bs.flatten.length<=10000000000000) :
  CallsR prog K.slices_Concat_byte #[.slice a bs.length cp] w fun v w'=>Ext w w'/\∃ a' c',v= .slice a' bs.flatten.length c'/\OwnAt w' a' bs.flatten.length c' T.uint8 1 (bs.flatten.map bv)/\Fresh w a':=by
 apply slices_Concat_byte.sh
 refine ⟨fun x y u=>∃ i:Nat,y=i/\i<=bs.length/\x=((bs.take i).flatten.length:Nat)/\u=w,fun _ y _=>(bs.length - y).toNat,⟨0,rfl,by omega,by simp,rfl⟩,?_⟩
 rintro x y u ⟨i,rfl,hi,rfl,rfl⟩
 refine br_dec (fun hlt=>?_) fun hge=>?_
 .have hi':i<bs.length:=by omega
  refine idx_slice h hi' fun ai ci hb=>?_
  have hle:=flatten_take_le bs (i+1)
  have hsucc:=flatten_take_succ bs i hi'
  have e:i64.wrap (((bs.take i).flatten.length:Int)+((bs.getD i []).length:Int))=((bs.take (i+1)).flatten.length:Nat):=by
   rw [hsucc,List.length_append,Int.natCast_add]
   have:(bs.take (i+1)).flatten.length=(bs.take i).flatten.length+(bs.getD i []).length:=by rw [hsucc,List.length_append]
   exact w64 (by omega) (by omega)
  have e1:i64.wrap ((i:Int)+1)=((i+1:Nat):Int):=w64 (by omega) (by omega)
  simp only []
  rw [e,e1]
  exact br_dec (fun h=>by omega) fun _=>⟨⟨i+1,rfl,hi',rfl,by trivial⟩,by omega⟩
 .have hi':i=bs.length:=by omega
  subst hi'
  rw [List.take_length]
  refine (slices_Grow_spec _ hf u).mono ?_
  rintro _ w2 ⟨he,a2,c2,rfl,ho,hfr⟩
  refine ⟨_,_,_,rfl,fun a3 l3 c3 x v=>∃ i:Nat,x=i/\i<=bs.length/\l3=(bs.take i).flatten.length/\OwnAt v a3 l3 c3 T.uint8 1 ((bs.take i).flatten.map bv)/\Ext u v/\Fresh u a3,fun _ _ _ x _=>(bs.length - x).toNat,⟨0,rfl,by omega,by simp,by simpa using ho,he,hfr⟩,?_⟩
  rintro a3 l3 c3 x v ⟨i,rfl,hi,rfl,ho3,he3,hf3⟩
  refine br_dec (fun hlt=>?_) fun hge=>?_
  .have hi':i<bs.length:=by omega
   refine idx_slice (h.ext he3) hi' fun ai ci hb=>?_
   have hle:=flatten_take_le bs (i+1)
   have hsucc:=flatten_take_succ bs i hi'
   have e1:i64.wrap ((i:Int)+1)=((i+1:Nat):Int):=w64 (by omega) (by omega)
   simp only []
   rw [e1]
   refine append_bytes ho3 hb (by rw [<- List.length_append,<- hsucc];omega) fun a' c' w' hu ho' hf'=>?_
   rw [<- hsucc] at ho' ⊢
   refine ⟨⟨i+1,rfl,hi',rfl,ho',Upd.beyond he3 hu (fun x hx=>hf3 _ hx),?_⟩,by omega⟩
   rcases hf' with rfl | ⟨b,rfl,hb⟩
   .exact hf3
   .exact Fresh.some (by have:=he3.size;omega)
  .have hi':i=bs.length:=by omega
   subst hi'
   rw [List.take_length] at ho3 ⊢
   exact ⟨he3,a3,c3,rfl,ho3,hf3⟩
theorem wu64n {m:Nat} (h:m<18446744073709551616):u64.wrap (m:Int)=m:=wu64 (Int.natCast_nonneg _) (by omega)
theorem w64n {m:Nat} (h:m<9223372036854775808):i64.wrap (m:Int)=m:=w64 (by have:=Int.natCast_nonneg m;omega) (by omega)
theorem tdiv_nat (i n:Nat):Int.tdiv (i:Int) (n:Int)=((i / n:Nat):Int):=by
 rw [Int.tdiv_eq_ediv_of_nonneg (by omega)];rfl
structure RReaderIn (G:Nat->Prop) (w:World) (r:Nat) (l:List UInt8) (no:Bool):Prop where
 at_:∃ a c,w.heap[r]?=some (.cells #[.slice a l.length c,.bool no] T.carrackref01_Reader (0,0))/\BytesAt w a l/\l.length<=c/\∀ p,a=some p->G p.block
abbrev RReaderAt (w:World) (r:Nat) (l:List UInt8) (no:Bool):Prop:=RReaderIn (·≠r) w r l no
theorem carrackref01_Reader_Take_in {G:Nat->Prop} (r k:Nat) (l:List UInt8) (no:Bool) (w:World) (hk:isSz k=true) (hG:¬ G r) (h:RReaderIn G w r l no) :
  CallsR prog K.carrackref01_Reader_Take #[.pointer (some ⟨r,0,none⟩),.int .i64 k] w fun v w'=>Upd (·=r) w w'/\
   if no=true\/l.length<k then v= .tuple #[.int .u64 0,.int .i64 4]/\RReaderIn G w' r l true
   else v= .tuple #[.int .u64 (fromLE (l.take k)),.int .i64 0]/\RReaderIn G w' r (l.drop k) false:=by
 have hk8:k<=8:=by rcases isSz_cases hk with rfl | rfl | rfl | rfl<;>omega
 have hk1:1<=k:=by rcases isSz_cases hk with rfl | rfl | rfl | rfl<;>omega
 obtain ⟨a,c,hr,hb,hlc,hne⟩:=h.at_
 apply carrackref01_Reader_Take.sh
 unfold carrackref01_Reader_Take.body
 refine (carrackref01_Size_spec _ w).mono ?_
 rintro _ _ ⟨rfl,rfl⟩
 rename_i w
 refine ⟨_,rfl,?_⟩
 rw [hk]
 simp only [Bool.not_true,br_false,nilC_some',add_lit,Nat.zero_add]
 have hno:∀ w',Put w r (.cells (splice #[Value.slice a l.length c,Value.bool no] 1 [Value.bool true]) T.carrackref01_Reader (0,0)) w'->RReaderIn G w' r l true:=by
  intro w' hput
  exact ⟨a,c,hput.get,RowAt.upd hb hput.upd1 fun p hp e=>hG (e ▸ hne p hp),hlc,hne⟩
 refine ⟨no,cell_of hr rfl,?_⟩
 cases no with
 | true =>
  simp only [br_true]
  refine store_of hr (by simp) fun w' hput=>⟨hput.upd1,?_⟩
  simp only [true_or,if_true]
  exact ⟨trivial,hno w' hput⟩
 | false =>
  simp only [br_false]
  refine ⟨a,l.length,c,cell_of hr rfl,br_dec (fun hlt=>?_) fun hge=>?_⟩
  .refine store_of hr (by simp) fun w' hput=>⟨hput.upd1,?_⟩
   have:l.length<k:=by omega
   simp only [this,or_true,if_true]
   exact ⟨trivial,hno w' hput⟩
  .have hkl:k<=l.length:=by omega
   have hlen:(l.take k).length=k:=by simp;omega
   have e0:i64.wrap ((k:Int) - 1)=(k:Int) - 1:=w64 (by omega) (by omega)
   rw [e0]
   refine ⟨fun x y u=>∃ i:Nat,y=(i:Int) - 1/\i<=k/\x=(fromLE ((l.take k).drop i):Nat)/\u=w,fun _ y _=>(y+1).toNat,⟨k,rfl,by omega,by rw [List.drop_of_length_le (by omega)];rfl,rfl⟩,?_⟩
   rintro x y u ⟨i,rfl,hi,rfl,rfl⟩
   refine br_dec (fun hge=>?_) fun hlt=>?_
   .refine ⟨a,l.length,c,cell_of hr rfl,idx_byte hb (by omega) (by omega) ?_⟩
    obtain ⟨j,rfl⟩: ∃ j,i=j+1:=⟨i - 1,by omega⟩
    have ej:(((j+1:Nat):Int) - 1).toNat=j:=by omega
    have e1:i64.wrap (((j+1:Nat):Int) - 1 - 1)=(j:Int) - 1:=by rw [w64 (by omega) (by omega)];omega
    have hjl:j<l.length:=by omega
    have hd:(l.take k).drop j=l.getD j 0 :: (l.take k).drop (j+1):=by
     rw [List.drop_eq_getElem_cons (by omega)]
     simp [List.getD,hjl]
    have hv:fromLE ((l.take k).drop j)=(l.getD j 0).toNat+256 * fromLE ((l.take k).drop (j+1)):=by rw [hd];rfl
    have hlt2:=fromLE_lt ((l.take k).drop j)
    have hlt3:fromLE ((l.take k).drop j)<18446744073709551616:=by
     refine Nat.lt_of_lt_of_le hlt2 ?_
     have:((l.take k).drop j).length<=8:=by simp;omega
     have:=Nat.pow_le_pow_right (n:=256) (by omega) this
     have e:(256:Nat) ^ 8=18446744073709551616:=by decide
     omega
    rw [ej,e1]
    have hbx:=(l.getD j 0).toNat_lt
    have q1:u64.wrap ((256:Int) * (fromLE ((l.take k).drop (j+1)):Nat))=(256:Int) * (fromLE ((l.take k).drop (j+1)):Nat):=wu64 (by omega) (by omega)
    have q2:u64.wrap ((l.getD j 0).toNat:Int)=((l.getD j 0).toNat:Int):=wu64 (by omega) (by omega)
    have q3:u64.wrap ((256:Int) * (fromLE ((l.take k).drop (j+1)):Nat)+((l.getD j 0).toNat:Int))=((fromLE ((l.take k).drop j):Nat):Int):=by rw [wu64 (by omega) (by omega),hv];omega
    simp only []
    rw [q1,q2,q3]
    exact ⟨⟨j,rfl,by omega,rfl,by trivial⟩,by omega⟩
   .have:i=0:=by omega
    subst this
    refine ⟨a,l.length,c,cell_of hr rfl,?_⟩
    refine slice_bytes_from hb (by omega) (by omega) hlc fun a' c' hb' hc' ha' _ _=>?_
    simp only [Int.toNat_natCast] at hb' hc' ha' ⊢
    refine store_of hr (by simp) fun w' hput=>⟨hput.upd1,?_⟩
    have hnk:¬ (false=true\/l.length<k):=by simp;omega
    rw [if_neg hnk]
    have hne':∀ p,a'=some p->G p.block:=by
     intro p hp
     rcases ha' with ha' | ha'
     .exact hne p (ha' ▸ hp)
     .rw [ha'] at hp
      cases a with
      | none=>simp at hp
      | some q =>
       simp at hp
       have:=hne q rfl
       rw [<- hp]
       unfold Addr.add
       split<;>exact this
    exact ⟨by rw [List.drop_zero],a',c',hput.get,RowAt.upd hb' hput.upd1 fun p hp e=>hG (e ▸ hne' p hp),hc',hne'⟩
theorem carrackref01_Reader_Take_spec (r k:Nat) (l:List UInt8) (no:Bool) (w:World) (hk:isSz k=true) (h:RReaderAt w r l no) :
  CallsR prog K.carrackref01_Reader_Take #[.pointer (some ⟨r,0,none⟩),.int .i64 k] w fun v w'=>Upd (·=r) w w'/\
   if no=true\/l.length<k then v= .tuple #[.int .u64 0,.int .i64 4]/\RReaderAt w' r l true
   else v= .tuple #[.int .u64 (fromLE (l.take k)),.int .i64 0]/\RReaderAt w' r (l.drop k) false:=carrackref01_Reader_Take_in r k l no w hk (fun h=>h rfl) h
def zb (b:UInt8) (j:Nat):Nat:=((List.range j).filter fun k=>b.toNat / 2 ^ k % 2 == 0).length
theorem zb_succ (b:UInt8) (j:Nat):zb b (j+1)=zb b j+if b.toNat / 2 ^ j % 2=0 then 1 else 0:=by
 unfold zb
 rw [List.range_succ,List.filter_append,List.length_append]
 congr 1
 by_cases h:b.toNat / 2 ^ j % 2=0<;>simp [h]
theorem carrackref02_Noughts_spec {a:Option Addr} {l:List UInt8} {c:Nat} {w:World} (h:BytesAt w a l) (hn:l.length<=100000) :
  CallsR prog K.carrackref02_Noughts #[.slice a l.length c] w fun v w'=>v= .int .i64 (noughts l:Nat)/\w'=w:=by
 apply carrackref02_Noughts.sh
 refine ⟨fun x y u=>∃ i:Nat,y=i/\i<=l.length/\x=(noughts (l.take i):Nat)/\u=w,fun _ y _=>((l.length:Int) - y).toNat,⟨0,rfl,by omega,by simp [noughts],rfl⟩,?_⟩
 rintro x y u ⟨i,rfl,hi,rfl,rfl⟩
 refine br_dec (fun hlt=>?_) fun hge=>?_
 .have hil:i<l.length:=by omega
  refine ⟨fun x k u'=>∃ j:Nat,k=(2 ^ j:Nat)/\j<=8/\x=(noughts (l.take i)+zb (l.getD i 0) j:Nat)/\u'=u,fun _ k _=>(256 - k).toNat,⟨0,rfl,by omega,by simp [zb],rfl⟩,?_⟩
  rintro x k u' ⟨j,rfl,hj,rfl,rfl⟩
  have hpow:j<8->2 ^ j<=128:=fun h=>by
   have:=Nat.pow_le_pow_right (n:=2) (by omega) (show j<=7 by omega)
   exact this
  have hpos:0<2 ^ j:=Nat.two_pow_pos j
  have h1:=noughts_le (l.take i)
  have h2:(l.take i).length<=i:=by simp;omega
  refine br_dec (fun hle=>?_) fun hgt=>?_
  .have hj8:j<8:=by
    rcases Nat.lt_or_ge j 8 with h | h
    .exact h
    .have:j=8:=by omega
     subst this
     have:(2:Nat) ^ 8=256:=by decide
     omega
   refine idx_byte h (by omega) (by omega) ?_
   refine ⟨by omega,by omega,?_⟩
   simp only [Int.toNat_natCast]
   have hbx:=(l.getD i 0).toNat_lt
   have hd:=Nat.div_le_self (l.getD i 0).toNat (2 ^ j)
   have q1:i64.wrap ((l.getD i 0).toNat:Int)=((l.getD i 0).toNat:Int):=w64 (by omega) (by omega)
   have q2:i64.wrap (Int.tdiv ((l.getD i 0).toNat:Int) ((2 ^ j:Nat):Int))=(((l.getD i 0).toNat / 2 ^ j:Nat):Int):=by rw [tdiv_nat];exact w64n (Nat.lt_of_le_of_lt hd (by omega))
   have q3:Int.tmod (((l.getD i 0).toNat / 2 ^ j:Nat):Int) 2=(((l.getD i 0).toNat / 2 ^ j % 2:Nat):Int):=tmod_nat _ 2
   have q4:i64.wrap ((2:Int) * ((2 ^ j:Nat):Int))=((2 ^ (j+1):Nat):Int):=by
    have:=hpow hj8
    rw [Nat.pow_succ,w64 (by omega) (by omega)];omega
   have hz:zb (l.getD i 0) j<=j:=by unfold zb;exact Nat.le_trans (List.length_filter_le _ _) (by simp)
   have q5:i64.wrap (((noughts (l.take i)+zb (l.getD i 0) j:Nat):Int)+1)=((noughts (l.take i)+(zb (l.getD i 0) j+1):Nat):Int):=by rw [w64 (by omega) (by omega)];omega
   have hlt256:2 ^ j<2 ^ (j+1):=by rw [Nat.pow_succ];omega
   have hle128:=hpow hj8
   rw [q1,q2,q3,q4,q5]
   have hs:=zb_succ (l.getD i 0) j
   refine br_eq (fun h0=>?_) fun h0=>?_
   .rw [if_pos (by omega)] at hs
    exact ⟨⟨j+1,rfl,hj8,by rw [hs],by trivial⟩,by omega⟩
   .rw [if_neg (by omega)] at hs
    exact ⟨⟨j+1,rfl,hj8,by rw [hs];rfl,by trivial⟩,by omega⟩
  .have hj8:j=8:=by
    rcases Nat.lt_or_ge j 8 with h | h
    .have:=hpow h;omega
    .omega
   subst hj8
   have e:i64.wrap ((i:Int)+1)=((i+1:Nat):Int):=w64 (by omega) (by omega)
   rw [e]
   refine ⟨⟨i+1,rfl,hil,?_,by trivial⟩,by simp only [];omega⟩
   rw [noughts_take_succ l i hil]
   rfl
 .have:i=l.length:=by omega
  subst this
  rw [List.take_length]
  exact ⟨rfl,by trivial⟩
theorem carrackref02_Blank_spec {a:Option Addr} {l:List UInt8} {c:Nat} {w:World} (h:BytesAt w a l) (hn:l.length<=100000) :
  CallsR prog K.carrackref02_Blank #[.slice a l.length c] w fun v w'=>v= .bool (isBlank l)/\w'=w:=by
 apply carrackref02_Blank.sh
 refine (carrackref02_Noughts_spec h hn).mono ?_
 rintro _ _ ⟨rfl,rfl⟩
 refine ⟨_,rfl,?_,by trivial⟩
 have:=noughts_zero l
 cases hb:isBlank l with
 | true=>rw [this.2 hb];rfl
 | false =>
  have:noughts l≠0:=fun e=>by rw [this.1 e] at hb;cases hb
  congr 1
  exact beq_eq_false_iff_ne.2 (by omega)
theorem carrackref02_Get_spec {a:Option Addr} {b:List UInt8} {c:Nat} {w:World} (h:BytesAt w a b) (hc:b.length<=c) :
  CallsR prog K.carrackref02_Get #[.slice a b.length c] w fun v w'=>Ext w w'/\GetIs w' v (getPage b):=by
 apply carrackref02_Get.sh
 unfold carrackref02_Get.body
 refine (carrackref02_Size_spec _ w).mono ?_
 rintro _ _ ⟨rfl,rfl⟩
 rename_i w
 refine ⟨_,rfl,?_⟩
 unfold getPage
 cases hs:isSize b.length with
 | false =>
  simp only [Bool.not_false,br_true,if_true]
  exact ⟨Upd.refl _ _,none,0,rfl,BytesAt.nil _ _,by simp⟩
 | true =>
 simp only [Bool.not_true,br_false]
 rw [if_neg (by simp)]
 have hs':=hs
 simp [isSize] at hs'
 refine (carrackref02_Blank_spec h (by omega)).mono ?_
 rintro _ _ ⟨rfl,rfl⟩
 rename_i w
 refine ⟨_,rfl,br_intro (fun hb=>?_) fun hb=>?_⟩
 .rw [if_pos hb]
  exact ⟨Upd.refl _ _,none,0,rfl,BytesAt.nil _ _,by simp⟩
 rw [if_neg (by rw [hb];simp)]
 intro w3 hd3
 have hb3:=RowAt.ext h hd3.upd
 refine ⟨fun u=>u=w3,rfl,idx_byteS (l:=b) (fun u hu=>hu ▸ hb3) ⟨_,rfl⟩ (by omega) (by omega) (idx_byteS (l:=b) (fun u hu=>hu ▸ hb3) ⟨_,rfl⟩ (by omega) (by omega) ?_)⟩
 refine slice_bytes_from hb3 (by omega) (by omega) hc fun a1 c1 hb1 _ _ _ _=>?_
 rw [tn2] at hb1 ⊢
 refine (carrackref02_Noughts_spec hb1 (by simp;omega)).mono ?_
 rintro _ _ ⟨rfl,rfl⟩
 rename_i w3
 refine ⟨_,rfl,rfl,?_⟩
 rw [tn0,tn1]
 have hbyte:∀ i:Nat,(b.getD i 0).toNat<256:=fun i=>(b.getD i 0).toNat_lt
 have two:∀ i:Nat,i+1<b.length->i64.wrap (i64.wrap ((b.getD i 0).toNat:Int)+i64.wrap ((256:Int) * i64.wrap ((b.getD (i+1) 0).toNat:Int)))=((fromLE ((b.drop i).take 2):Nat):Int):=by
  intro i hi
  have h1:=hbyte i
  have h2:=hbyte (i+1)
  have q1:i64.wrap ((b.getD i 0).toNat:Int)=((b.getD i 0).toNat:Int):=w64n (by omega)
  have q2:i64.wrap ((b.getD (i+1) 0).toNat:Int)=((b.getD (i+1) 0).toNat:Int):=w64n (by omega)
  have q3:i64.wrap ((256:Int) * ((b.getD (i+1) 0).toNat:Int))=(256:Int) * ((b.getD (i+1) 0).toNat:Int):=w64 (by omega) (by omega)
  rw [q1,q2,q3,w64 (by omega) (by omega)]
  have hd:(b.drop i).take 2=[b.getD i 0,b.getD (i+1) 0]:=by
   rw [List.drop_eq_getElem_cons (by omega),List.drop_eq_getElem_cons (by omega),List.take_succ_cons,List.take_succ_cons,List.take_zero]
   simp [List.getD,hi,show i<b.length by omega]
  rw [hd]
  simp only [fromLE]
  omega
 have t0:=two 0 (by omega)
 rw [List.drop_zero] at t0
 have t3:=two 3 (by omega)
 rw [t0]
 refine br_ne (fun hne=>?_) fun heq=>?_
 .rw [if_pos (by omega)]
  exact ⟨hd3.upd,none,0,rfl,BytesAt.nil _ _,by simp⟩
 rw [if_neg (by omega)]
 intro w5 hd5
 have e5:Ext w w5:=hd3.upd.trans hd5.upd
 have hb5:=RowAt.ext h e5
 have e1:b.getD 2 0<1 ↔ ((b.getD 2 0).toNat:Int)<1:=by rw [UInt8.lt_iff_toNat_lt];show (b.getD 2 0).toNat<1 ↔ _;omega
 have e7:b.getD 2 0 > 7 ↔ ((b.getD 2 0).toNat:Int) > 7:=by show (7:UInt8)<b.getD 2 0 ↔ _;rw [UInt8.lt_iff_toNat_lt];show 7<(b.getD 2 0).toNat ↔ _;omega
 refine ⟨fun u=>u=w5,rfl,idx_byteS (l:=b) (fun u hu=>hu ▸ hb5) ⟨_,rfl⟩ (by omega) (by omega) (idx_byteS (l:=b) (fun u hu=>hu ▸ hb5) ⟨_,rfl⟩ (by omega) (by omega) ?_)⟩
 rw [show Int.toNat 3=3 from rfl,show Int.toNat 4=4 from rfl]
 rw [t3]
 generalize hn:fromLE ((b.drop 3).take 2)=n
 refine idx_byte hb5 (by omega) (by omega) ?_
 rw [tn2]
 refine br_dec (fun h1=>?_) fun h1=>?_
 .rw [if_pos (.inl (e1.2 h1))]
  exact ⟨e5,none,0,rfl,BytesAt.nil _ _,by simp⟩
 refine idx_byte hb5 (by omega) (by omega) ?_
 rw [tn2]
 refine br_dec (fun h7=>?_) fun h7=>?_
 .rw [if_pos (.inr (.inl (e7.2 h7)))]
  exact ⟨e5,none,0,rfl,BytesAt.nil _ _,by simp⟩
 have q5:i64.wrap (((b.length:Nat):Int) - 5)=(b.length:Int) - 5:=w64 (by omega) (by omega)
 rw [q5]
 refine br_dec (fun hl=>?_) fun hl=>?_
 .rw [if_pos (.inr (.inr (.inl (by omega))))]
  exact ⟨e5,none,0,rfl,BytesAt.nil _ _,by simp⟩
 have q6:i64.wrap ((5:Int)+(n:Int))=((5+n:Nat):Int):=by rw [w64 (by omega) (by omega)];omega
 rw [q6]
 refine slice_bytes_from hb5 (by omega) (by omega) hc fun a2 c2 hb2 _ _ _ _=>?_
 rw [Int.toNat_natCast] at hb2 ⊢
 refine (carrackref02_Blank_spec hb2 (by simp;omega)).mono ?_
 rintro _ _ ⟨rfl,rfl⟩
 rename_i w5
 refine ⟨_,rfl,br_intro (fun hb=>?_) fun hb=>?_⟩
 .rw [if_pos (.inr (.inr (.inr (by simpa using hb))))]
  exact ⟨e5,none,0,rfl,BytesAt.nil _ _,by simp⟩
 have hcond:¬ (b.getD 2 0<1\/b.getD 2 0 > 7\/n > b.length - 5\/isBlank (b.drop (5+n))=false):=by
  rintro (h | h | h | h)
  .exact h1 (e1.1 h)
  .exact h7 (e7.1 h)
  .omega
  .rw [h] at hb;cases hb
 rw [if_neg hcond]
 intro w7 hd7
 have e7':Ext w w7:=e5.trans hd7.upd
 have hb7:=RowAt.ext h e7'
 refine ⟨fun u=>Ext w7 u,Upd.refl _ _,idx_byteS (l:=b) (fun u hu=>RowAt.ext hb7 hu) ⟨_,Upd.refl _ _⟩ (by omega) (by omega) ?_⟩
 refine slice_bytes_mid hb7 (by omega) (by omega) (by omega) hc (.inl rfl) fun a3 c3 hb3' _=>?_
 rw [Int.toNat_natCast,show Int.toNat 5=5 from rfl] at hb3' ⊢
 refine append_copy hb3' (by simp;omega) fun a4 c4 w8 he8 hb8 hc8 _ _=>?_
 refine ⟨he8,e7'.trans he8,a4,c4,by rw [tn2];rfl,hb8,hc8⟩
end Go.Den
namespace Go.Den
structure Head where
 kind:UInt8
 era:Nat
 seq:Nat
 deriving DecidableEq
namespace Head
def Ok (h:Head):Prop:=h.era<4294967296/\h.seq<18446744073709551616
def may (h:Head):Bool:=decide (1<=h.kind.toNat) && decide (h.kind.toNat<=3) && decide (1<=h.era) && decide (1<=h.seq)
def body (h:Head):List UInt8:=h.kind :: (leB h.era 4 ++ leB h.seq 8)
def none:Head:=⟨0,0,0⟩
def vals (h:Head):List Value:=[bv h.kind,.int .u32 h.era,.int .u64 h.seq]
end Head
abbrev headV (h:Head):Value:=.agg #[bv h.kind,.int .u32 h.era,.int .u64 h.seq]
def putHead (size:Int) (h:Head):List UInt8×Nat :=
 if h.may=false\/isSize size=false then ([],2) else (pageOf size.toNat 1 h.body,0)
def getHead (b:List UInt8):Head×Nat :=
 if (getPage b).2.2≠0 then (Head.none,(getPage b).2.2)
 else if (getPage b).1≠1\/(getPage b).2.1.length≠13 then (Head.none,5)
 else if (Head.mk ((getPage b).2.1.getD 0 0) (fromLE (((getPage b).2.1.drop 1).take 4)) (fromLE (((getPage b).2.1.drop 5).take 8))).may then
  (⟨(getPage b).2.1.getD 0 0,fromLE (((getPage b).2.1.drop 1).take 4),fromLE (((getPage b).2.1.drop 5).take 8)⟩,0) else (Head.none,5)
theorem Head.body_length (h:Head):h.body.length=13:=by simp [Head.body,leB_length]
theorem fromLE_lt4 (l:List UInt8):fromLE (l.take 4)<4294967296:=by
 have h:=fromLE_lt (l.take 4)
 have h2:(l.take 4).length<=4:=by simp;omega
 have h3:=Nat.pow_le_pow_right (n:=256) (by omega) h2
 have e:(256:Nat) ^ 4=4294967296:=by decide
 omega
theorem fromLE_take1 (l:List UInt8):fromLE (l.take 1)=(l.getD 0 0).toNat:=by
 cases l<;>simp [fromLE]
def PutIs (w w':World) (v:Value) (r:List UInt8×Nat):Prop :=
 ∃ a c,v= .tuple #[.slice a r.1.length c,.int .i64 (r.2:Nat)]/\BytesAt w' a r.1/\Fresh w a/\r.1.length<=c
theorem carrackref04_MayHead_spec (h:Head) (w:World) :
  CallsR prog K.carrackref04_MayHead #[headV h] w fun v w'=>v= .bool h.may/\Ext w w':=by
 apply carrackref04_MayHead.sh
 intro B w1 hn
 have hc:=hn.get
 simp only [add_lit]
 refine ⟨_,cell_of hc rfl,br_dec (fun h1=>⟨_,cell_of hc rfl,br_dec (fun h2=>⟨_,cell_of hc rfl,br_dec (fun h3=>⟨_,cell_of hc rfl,?_,hn.upd⟩) fun h3=>⟨?_,hn.upd⟩⟩) fun h2=>⟨?_,hn.upd⟩⟩) fun h1=>⟨?_,hn.upd⟩⟩
 .have a1:decide (1<=h.kind.toNat)=true:=decide_eq_true (by omega)
  have a2:decide (h.kind.toNat<=3)=true:=decide_eq_true (by omega)
  have a3:decide (1<=h.era)=true:=decide_eq_true (by omega)
  simp only [Head.may,a1,a2,a3,Bool.true_and]
  congr 1
  exact decide_eq_decide.2 (by omega)
 .have a3:decide (1<=h.era)=false:=decide_eq_false (by omega)
  simp [Head.may,a3]
 .have a3:decide (h.kind.toNat<=3)=false:=decide_eq_false (by omega)
  simp [Head.may,a3]
 .have a3:decide (1<=h.kind.toNat)=false:=decide_eq_false (by omega)
  simp [Head.may,a3]
theorem putHead_size {size:Int} (h:isSize size=true):(13:Int)<=size - 5:=by simp [isSize] at h;omega
theorem seal_put_head {size:Int} {h:Head} (hm:h.may=true) {w w0 w':World} {v:Value} (hf:w0.heap.size<=w.heap.size)
  (hv:if isSize size=false\/(1:UInt8)<1\/(1:UInt8) > 7 then v= .tuple #[.slice none 0 0,.int .i64 2]
   else if (h.body.length:Int) > size - 5 then v= .tuple #[.slice none 0 0,.int .i64 3]
   else ∃ a c,v= .tuple #[.slice a size.toNat c,.int .i64 0]/\BytesAt w' a (pageOf size.toNat 1 h.body)/\Fresh w a/\size.toNat<=c) :
  PutIs w0 w' v (putHead size h)/\∃ (a4:Option Addr) (l4 c4:Nat) (x10:Int),v=Value.tuple #[Value.slice a4 l4 c4,Value.int .i64 x10]:=by
 have hk:¬ ((1:UInt8)<1\/(1:UInt8) > 7):=by decide
 have hbl:=h.body_length
 unfold putHead
 cases hs:isSize size with
 | false =>
  rw [if_pos (.inl hs)] at hv
  rw [if_pos (.inr rfl),hv]
  exact ⟨⟨none,0,rfl,BytesAt.nil _ _,Fresh.none _,Nat.le_refl _⟩,_,_,_,_,rfl⟩
 | true =>
  have hsz:=putHead_size hs
  rw [if_neg (by rw [hs];simp only [Bool.true_eq_false,false_or];exact hk),if_neg (by omega)] at hv
  rw [if_neg (by rw [hm];simp)]
  obtain ⟨a,c,rfl,hb,hfr,hcp⟩:=hv
  have hl:(pageOf size.toNat 1 h.body).length=size.toNat:=pageOf_length _ _ _ (by omega)
  refine ⟨⟨a,c,?_,hb,Fresh.mono hfr hf,by rw [<- hl] at hcp;exact hcp⟩,_,_,_,_,rfl⟩
  simp only [hl]
  rfl
theorem pool_PutHead_spec (size:Int) (h:Head) (ho:h.Ok) (w:World) :
  CallsR prog K.pool_PutHead #[.int .i64 size,headV h] w fun v w'=>Ext w w'/\PutIs w w' v (putHead size h):=by
 apply pool_PutHead.sh
 intro B w1 hn
 have hc:=hn.get
 simp only [add_lit]
 have hno:h.may=false->∀ u,Ext w u->Ext w u/\PutIs w u (Value.tuple #[Value.slice none 0 0,Value.int .i64 2]) (putHead size h):=by
  intro hm u hu
  refine ⟨hu,?_⟩
  unfold putHead
  rw [if_pos (.inl hm)]
  exact ⟨none,0,rfl,BytesAt.nil _ _,Fresh.none _,Nat.le_refl _⟩
 refine ⟨fun u=>u=w1/\h.may=true,?_,?_⟩
 .refine ⟨_,cell_of hc rfl,br_dec (fun h1=>hno ?_ _ hn.upd) fun h1=>⟨_,cell_of hc rfl,br_dec (fun h2=>hno ?_ _ hn.upd) fun h2=>⟨_,cell_of hc rfl,br_dec (fun h3=>hno ?_ _ hn.upd) fun h3=>⟨_,cell_of hc rfl,br_dec (fun h4=>hno ?_ _ hn.upd) fun h4=>⟨by trivial,?_⟩⟩⟩⟩⟩
  .have a3:decide (1<=h.kind.toNat)=false:=decide_eq_false (by omega)
   simp [Head.may,a3]
  .have a3:decide (h.kind.toNat<=3)=false:=decide_eq_false (by omega)
   simp [Head.may,a3]
  .have a3:decide (1<=h.era)=false:=decide_eq_false (by omega)
   simp [Head.may,a3]
  .have a3:decide (1<=h.seq)=false:=decide_eq_false (by omega)
   simp [Head.may,a3]
  .simp [Head.may]
   omega
 rintro w2 ⟨rfl,hm⟩
 refine ⟨_,cell_of hc rfl,?_⟩
 have q:u64.wrap (h.era:Int)=(h.era:Int):=wu64n (by have:=ho.1;omega)
 rw [q]
 refine (ends_Put_spec h.era 4 w2 (by rfl) (by
     have:(256:Nat) ^ 4=4294967296:=by decide
     have:=ho.1;omega)).mono ?_
 rintro _ w3 ⟨a1,c1,rfl,hb1,hf1,he3⟩
 refine ⟨_,_,_,_,rfl,_,cell_of (Ext.get he3 hc) rfl,?_⟩
 refine (ends_Put_spec h.seq 8 w3 (by rfl) (by
     have:(256:Nat) ^ 8=18446744073709551616:=by decide
     have:=ho.2;omega)).mono ?_
 rintro _ w4 ⟨a2,c2,rfl,hb2,hf2,he4⟩
 refine ⟨_,_,_,_,rfl,_,cell_of (Ext.get he4 (Ext.get he3 hc)) rfl,fun B2 w5 hn5 B3 w6 hn6=>?_⟩
 have e4:=(hn.upd.trans he3).trans he4
 have e6:=(e4.trans hn5.upd).trans hn6.upd
 have hs:SlicesAt w6 (some ⟨B3,0,none⟩) [[h.kind],leB h.era 4,leB h.seq 8]:=by
  refine ⟨_,RowAt.of hn6.get (vs:=[Value.slice (some ⟨B2,0,none⟩) 1 1,Value.slice a1 4 c1,Value.slice a2 8 c2]) (fun j v hj=>by simpa using hj),rfl,fun i hi=>?_⟩
  match i,hi with
  | 0,_=>exact ⟨_,_,rfl,RowAt.ext (RowAt.of hn5.get fun j v hj=>by simpa using hj) hn6.upd⟩
  | 1,_=>exact ⟨a1,c1,by simp [leB_length],RowAt.ext (RowAt.ext (RowAt.ext hb1 he4) hn5.upd) hn6.upd⟩
  | 2,_=>exact ⟨a2,c2,by simp [leB_length],RowAt.ext (RowAt.ext hb2 hn5.upd) hn6.upd⟩
 have hfl:([[h.kind],leB h.era 4,leB h.seq 8]:List (List UInt8)).flatten=h.body:=by simp [Head.body]
 have hcat:=slices_Concat_spec (cp:=3) hs (by simp) (by rw [hfl,h.body_length];omega)
 rw [hfl] at hcat
 refine hcat.mono ?_
 rintro _ w7 ⟨he7,a3,c3,rfl,ho3,hf3⟩
 refine ⟨_,_,_,rfl,?_⟩
 refine (seal_Put_spec size 1 1 rfl ho3.row (by rw [h.body_length];omega)).mono ?_
 rintro v w8 ⟨he8,hv⟩
 obtain ⟨hput,a,l,c,x,rfl⟩:=seal_put_head hm (e6.trans he7).size hv
 exact ⟨_,_,_,_,rfl,(e6.trans he7).trans he8,hput⟩
end Go.Den
namespace Go.Den
theorem take_any (r k:Nat) (l:List UInt8) (no:Bool) (w:World) (hk:isSz k=true) (h:ReaderAt w r l no) :
  CallsR prog K.ends_Reader_Take #[.pointer (some ⟨r,0,none⟩),.int .i64 k] w fun v w'=>Upd (·=r) w w'/\∃ (x e:Nat) (l':List UInt8) (no':Bool),v= .tuple #[.int .u64 x,.int .i64 e]/\ReaderAt w' r l' no'/\x<256 ^ k/\
   (no=false->k<=l.length->x=fromLE (l.take k)/\l'=l.drop k/\no'=false):=by
 refine (ends_Reader_Take_spec r k l no w hk h).mono ?_
 rintro v w' ⟨hu,hv⟩
 refine ⟨hu,?_⟩
 split at hv
 .rename_i hc
  refine ⟨0,4,l,true,hv.1,hv.2,Nat.pow_pos (by omega),fun h1 h2=>?_⟩
  rcases hc with hc | hc
  .rw [h1] at hc;cases hc
  .omega
 .rename_i hc
  have hkl:k<=l.length:=by
   rcases Nat.lt_or_ge l.length k with h' | h'
   .exact absurd (.inr h') hc
   .exact h'
  refine ⟨fromLE (l.take k),0,l.drop k,false,hv.1,hv.2,?_,fun h1 h2=>⟨rfl,rfl,rfl⟩⟩
  have:=fromLE_lt (l.take k)
  simpa [Nat.min_eq_left hkl] using this
theorem wrap8 {x:Nat} (h:x<256):Value.int .u8 (u8.wrap (x:Int))=bv (UInt8.ofNat x):=by
 rw [bv_mod,Nat.mod_eq_of_lt h]
theorem wrap32 {x:Nat} (h:x<4294967296):u32.wrap (x:Int)=(x:Int):=wu32 (by omega) (by omega)
theorem head_put {w:World} {B:Nat} {cs:Array Value} {h:Head} {K:World->Prop} (hc:w.heap[B]?=some (.cells cs T.api_Head (0,0))) (hs:cs.size=3) (hk:∀ w',Put w B (.cells h.vals.toArray T.api_Head (0,0)) w'->K w') :
  storeP w ⟨B,0,none⟩ [bv h.kind,.int .u32 h.era,.int .u64 h.seq] K:=by
 refine store_of hc (by simp [hs]) fun w' hput=>?_
 rw [splice_all _ _ (by simp [hs])] at hput
 exact hk w' hput
theorem head_cells {w:World} {B:Nat} {h:Head} (hc:w.heap[B]?=some (.cells h.vals.toArray T.api_Head (0,0))):cellsAt w ⟨B,0,none⟩ [bv h.kind,.int .u32 h.era,.int .u64 h.seq] 0 :=
 cellsAt_of (o:=0) hc (fun j v hj=>by simpa [Head.vals] using hj)
theorem head_zero:(#[Value.int .u8 0,Value.int .u32 0,Value.int .u64 0]:Array Value)=Head.none.vals.toArray:=rfl
theorem pool_GetHead_spec {a:Option Addr} {b:List UInt8} {c:Nat} {w:World} (h:BytesAt w a b) (hc:b.length<=c) :
  CallsR prog K.pool_GetHead #[.slice a b.length c] w fun v w'=>Ext w w'/\v= .tuple #[headV (getHead b).1,.int .i64 ((getHead b).2:Nat)]:=by
 apply pool_GetHead.sh
 intro B w1 hn
 have hB:B=w.heap.size:=hn.num
 rw [head_zero] at hn
 have hcB:=hn.get
 refine (seal_Get_spec (h.ext hn.upd) hc).mono ?_
 rintro _ w2 ⟨he2,a1,c1,rfl,hb2,hc2⟩
 have e2:Ext w w2:=hn.upd.trans he2
 have hcB2:=Ext.get he2 hcB
 have fin:∀ {u u':World} {h':Head},Ext w u->Put u B (.cells h'.vals.toArray T.api_Head (0,0)) u'->Ext w u':=fun hu hp=>Put.upd hu hp (.inl (by omega))
 refine ⟨_,_,_,_,_,rfl,br_ne (fun hne=>?_) fun heq=>?_⟩
 .refine head_put (h:=Head.none) hcB2 rfl fun w3 hput=>⟨_,_,_,head_cells hput.get,fin e2 hput,?_⟩
  unfold getHead
  rw [if_pos (by omega)]
 have he0:(getPage b).2.2=0:=by omega
 have hgb:isSize b.length=true:=by
  cases hs:isSize b.length with
  | true=>rfl
  | false =>
   have:(getPage b).2.2=2:=by unfold getPage;rw [if_pos hs]
   omega
 have hbb:=hgb
 simp [isSize] at hbb
 have hbl:(getPage b).2.1.length<=1000:=by
  unfold getPage
  split
  .simp
  .split
   .simp
   .split
    .simp
    .split
     .simp
     .simp;omega
 generalize hG:getPage b=G at *
 obtain ⟨kd,body,er⟩:=G
 simp only [] at *
 refine (ends_New_spec a1 body c1 w2 hb2 (by omega)).mono ?_
 rintro _ w4 ⟨r,rfl,hr,hra,he4⟩
 refine ⟨_,rfl,?_⟩
 refine (take_any r 1 body false w4 rfl hra).mono ?_
 rintro _ w5 ⟨hu5,x6,x7,l5,no5,rfl,hr5,hx6,hg5⟩
 refine ⟨_,_,rfl,?_⟩
 refine (take_any r 4 l5 no5 w5 rfl hr5).mono ?_
 rintro _ w6 ⟨hu6,x8,x9,l6,no6,rfl,hr6,hx8,hg6⟩
 refine ⟨_,_,rfl,?_⟩
 refine (take_any r 8 l6 no6 w6 rfl hr6).mono ?_
 rintro _ w7 ⟨hu7,x10,x11,l7,no7,rfl,hr7,hx10,hg7⟩
 refine ⟨_,_,rfl,fun B2 w8 hn8=>?_⟩
 have e4:Ext w w4:=e2.trans he4
 have hs2:=e2.size
 have hu57:Upd (·=r) w4 w7:=(hu5.trans hu6).trans hu7
 have e7:Ext w w7:=Upd.beyond e4 hu57 (fun x hx=>by omega)
 have hs0:=hn.size
 have hs1:=he2.size
 have hcB7:w7.heap[B]?=_:=hu57.get (Ext.get he4 hcB2) (by omega)
 rw [show (256:Nat) ^ 1=256 by decide] at hx6
 rw [show (256:Nat) ^ 4=4294967296 by decide] at hx8
 rw [show (256:Nat) ^ 8=18446744073709551616 by decide] at hx10
 rw [wrap8 hx6,wrap32 hx8]
 rw [head_zero] at hn8
 have hHok:(Head.mk (UInt8.ofNat x6) x8 x10).Ok:=⟨hx8,hx10⟩
 generalize hH:Head.mk (UInt8.ofNat x6) x8 x10=H at hHok
 have hH1:bv (UInt8.ofNat x6)=bv H.kind:=by rw [<- hH]
 have hH2:(x8:Int)=H.era:=by rw [<- hH]
 have hH3:(x10:Int)=H.seq:=by rw [<- hH]
 rw [hH1,hH2,hH3]
 refine head_put (h:=H) hn8.get rfl fun w9 hput9=>⟨_,_,_,head_cells hput9.get,?_⟩
 have hB2:B2=w7.heap.size:=hn8.num
 have hs7:=e7.size
 have e9:Ext w w9:=Put.upd (e7.trans hn8.upd) hput9 (.inl (by omega))
 have hsu57:=hu57.size
 have hs4:=he4.size
 have hcB9:w9.heap[B]?=_:=hput9.upd1.get (Ext.get hn8.upd hcB7) (by omega)
 refine (pool_PutHead_spec b.length H hHok w9).mono ?_
 rintro _ w10 ⟨he10,a2,c2,rfl,_,_⟩
 have e10:=e9.trans he10
 have hcB10:=Ext.get he10 hcB9
 have hpe:(putHead b.length H).2=if H.may=false then 2 else 0:=by
  unfold putHead
  rw [hgb]
  cases H.may<;>simp
 have hcond:¬ er≠0:=by omega
 have hgen:kd=1->body.length=13->H=⟨body.getD 0 0,fromLE ((body.drop 1).take 4),fromLE ((body.drop 5).take 8)⟩:=by
  intro hkd hbl
  obtain ⟨g1,g2,g3⟩:=hg5 rfl (by omega)
  obtain ⟨g4,g5,g6⟩:=hg6 g3 (by rw [g2];simp;omega)
  obtain ⟨g7,g8,g9⟩:=hg7 g6 (by rw [g5,g2];simp;omega)
  rw [<- hH,g1,g4,g7,g5,g2,fromLE_take1]
  simp [List.drop_drop]
 have hcondG:getHead b=if kd≠1\/body.length≠13 then (Head.none,5) else if H.may=true then (H,0) else (Head.none,5):=by
  unfold getHead
  rw [hG]
  simp only []
  rw [if_neg hcond]
  by_cases hk:kd≠1\/body.length≠13
  .rw [if_pos hk,if_pos hk]
  .rw [if_neg hk,if_neg hk]
   have hk':kd=1/\body.length=13:=⟨Classical.byContradiction fun h=>hk (.inl h),Classical.byContradiction fun h=>hk (.inr h)⟩
   rw [hgen hk'.1 hk'.2]
 refine ⟨_,_,_,_,rfl,br_ne (fun hne=>?_) fun heq=>?_⟩
 .refine head_put (h:=Head.none) hcB10 rfl fun w3 hput=>⟨_,_,_,head_cells hput.get,fin e10 hput,?_⟩
  have hm:H.may=false:=by
   cases hm:H.may with
   | false=>rfl
   | true=>rw [hpe,hm] at hne;simp at hne
  rw [hcondG,hm]
  split<;>rfl
 have hm:H.may=true:=by
  cases hm:H.may with
  | true=>rfl
  | false=>rw [hpe,hm] at heq;simp at heq
 have hkd:kd=1 ↔ (kd.toNat:Int)=1:=by
  constructor
  .rintro rfl;rfl
  .intro h;exact UInt8.toNat_inj.1 (by show kd.toNat=1;omega)
 refine br_ne (fun hne=>?_) fun heq1=>?_
 .refine head_put (h:=Head.none) hcB10 rfl fun w3 hput=>⟨_,_,_,head_cells hput.get,fin e10 hput,?_⟩
  rw [hcondG,if_pos (.inl (fun h=>hne (hkd.1 h)))]
  rfl
 refine br_ne (fun hne=>?_) fun heq2=>?_
 .refine head_put (h:=Head.none) hcB10 rfl fun w3 hput=>⟨_,_,_,head_cells hput.get,fin e10 hput,?_⟩
  rw [hcondG,if_pos (.inr (by omega))]
  rfl
 have hc9:=Ext.get he10 hput9.get
 refine ⟨_,_,_,head_cells hc9,head_put hcB10 rfl fun W11 hput=>⟨_,_,_,head_cells hput.get,fin e10 hput,?_⟩⟩
 have hk:¬ (kd≠1\/body.length≠13):=by
  rintro (h | h)
  .exact h (hkd.2 heq1)
  .omega
 rw [hcondG,if_neg hk,if_pos hm]
 rfl
theorem rtake_any (r k:Nat) (l:List UInt8) (no:Bool) (w:World) (hk:isSz k=true) (h:RReaderAt w r l no) (hkl:no=false/\k<=l.length) :
  CallsR prog K.carrackref01_Reader_Take #[.pointer (some ⟨r,0,none⟩),.int .i64 k] w fun v w'=>Upd (·=r) w w'/\v= .tuple #[.int .u64 (fromLE (l.take k)),.int .i64 0]/\RReaderAt w' r (l.drop k) false:=by
 refine (carrackref01_Reader_Take_spec r k l no w hk h).mono ?_
 rintro v w' ⟨hu,hv⟩
 rw [if_neg (by rw [hkl.1];simp;omega)] at hv
 exact ⟨hu,hv⟩
theorem carrackref04_GetHead_spec {a:Option Addr} {b:List UInt8} {c:Nat} {w:World} (h:BytesAt w a b) (hc:b.length<=c) :
  CallsR prog K.carrackref04_GetHead #[.slice a b.length c] w fun v w'=>Ext w w'/\v= .tuple #[headV (getHead b).1,.int .i64 ((getHead b).2:Nat)]:=by
 apply carrackref04_GetHead.sh
 intro B w1 hn
 have hB:B=w.heap.size:=hn.num
 rw [head_zero] at hn
 have hcB:=hn.get
 refine (carrackref02_Get_spec (h.ext hn.upd) hc).mono ?_
 rintro _ w2 ⟨he2,a1,c1,rfl,hb2,hc2⟩
 have e2:Ext w w2:=hn.upd.trans he2
 have hcB2:=Ext.get he2 hcB
 have fin:∀ {u u':World} {h':Head},Ext w u->Put u B (.cells h'.vals.toArray T.api_Head (0,0)) u'->Ext w u':=fun hu hp=>Put.upd hu hp (.inl (by omega))
 refine ⟨_,_,_,_,_,rfl,br_ne (fun hne=>?_) fun heq=>?_⟩
 .refine head_put (h:=Head.none) hcB2 rfl fun w3 hput=>⟨_,_,_,head_cells hput.get,fin e2 hput,?_⟩
  unfold getHead
  rw [if_pos (by omega)]
 have he0:(getPage b).2.2=0:=by omega
 generalize hG:getPage b=G at *
 obtain ⟨kd,body,er⟩:=G
 simp only [] at *
 have hcond:¬ er≠0:=by omega
 have hkd:kd=1 ↔ (kd.toNat:Int)=1:=by
  constructor
  .rintro rfl;rfl
  .intro h;exact UInt8.toNat_inj.1 (by show kd.toNat=1;omega)
 refine br_ne (fun hne=>?_) fun heq1=>?_
 .refine head_put (h:=Head.none) hcB2 rfl fun w3 hput=>⟨_,_,_,head_cells hput.get,fin e2 hput,?_⟩
  unfold getHead
  rw [hG]
  simp only []
  rw [if_neg hcond,if_pos (.inl (fun h=>hne (hkd.1 h)))]
  rfl
 refine br_ne (fun hne=>?_) fun heq2=>?_
 .refine head_put (h:=Head.none) hcB2 rfl fun w3 hput=>⟨_,_,_,head_cells hput.get,fin e2 hput,?_⟩
  unfold getHead
  rw [hG]
  simp only []
  rw [if_neg hcond,if_pos (.inr (by omega))]
  rfl
 have hbl:body.length=13:=by omega
 intro r w6 hn6
 have hs0:=hn.size
 have hs1:=he2.size
 have hr:r=w2.heap.size:=hn6.num
 have hra:RReaderAt w6 r body false:=by
  refine ⟨a1,c1,hn6.get,hb2.ext hn6.upd,hc2,fun p hp=>?_⟩
  obtain ⟨b',o',hab,hlt⟩:=RowAt.blk hb2 (List.ne_nil_of_length_pos (by simp [hbl]))
  rw [hp] at hab
  cases hab
  show b'≠r
  omega
 refine (rtake_any r 1 body false w6 rfl hra ⟨rfl,by omega⟩).mono ?_
 rintro _ w7 ⟨hu7,rfl,hr7⟩
 refine ⟨_,_,rfl,?_⟩
 refine (rtake_any r 4 _ false w7 rfl hr7 ⟨rfl,by simp;omega⟩).mono ?_
 rintro _ w8 ⟨hu8,rfl,hr8⟩
 refine ⟨_,_,rfl,?_⟩
 refine (rtake_any r 8 _ false w8 rfl hr8 ⟨rfl,by simp;omega⟩).mono ?_
 rintro _ w9 ⟨hu9,rfl,hr9⟩
 refine ⟨_,_,rfl,fun B2 w10 hn10=>?_⟩
 have hu69:Upd (·=r) w6 w9:=(hu7.trans hu8).trans hu9
 have e6:=e2.trans hn6.upd
 have hs2:=e2.size
 have e9:Ext w w9:=Upd.beyond e6 hu69 (fun x hx=>by omega)
 have hcB9:w9.heap[B]?=_:=hu69.get (Ext.get hn6.upd hcB2) (by omega)
 have hx1:fromLE (body.take 1)<256:=by rw [fromLE_take1];exact (body.getD 0 0).toNat_lt
 rw [wrap8 hx1,wrap32 (fromLE_lt4 _)]
 have hH1:UInt8.ofNat (fromLE (body.take 1))=body.getD 0 0:=by rw [fromLE_take1];simp
 rw [hH1,List.drop_drop]
 rw [head_zero] at hn10
 have hcondG:getHead b=if (Head.mk (body.getD 0 0) (fromLE ((body.drop 1).take 4)) (fromLE ((body.drop 5).take 8))).may then (⟨body.getD 0 0,fromLE ((body.drop 1).take 4),fromLE ((body.drop 5).take 8)⟩,0) else (Head.none,5):=by
  unfold getHead
  rw [hG]
  simp only []
  rw [if_neg hcond,if_neg (fun h=>h.elim (fun h=>h (hkd.2 heq1)) (fun h=>h hbl))]
 generalize hH:Head.mk (body.getD 0 0) (fromLE ((body.drop 1).take 4)) (fromLE ((body.drop 5).take 8))=H at *
 have q1:bv (body.getD 0 0)=bv H.kind:=by rw [<- hH]
 have q2:(fromLE ((body.drop 1).take 4):Int)=H.era:=by rw [<- hH]
 have q3:(fromLE ((body.drop (4+1)).take 8):Int)=H.seq:=by rw [<- hH]
 have q3':(fromLE ((body.drop (1+4)).take 8):Int)=H.seq:=by rw [<- hH]
 have hB2:B2=w9.heap.size:=hn10.num
 have hs69:=hu69.size
 have hs6:=hn6.size
 have main:storeP w10 ⟨B2,0,none⟩ [bv H.kind,.int .u32 H.era,.int .u64 H.seq] fun w11 =>
   ∃ x18:Int,∃ x19:Int,∃ x20:Int,cellsAt w11 ⟨B2,0,none⟩ [Value.int .u8 x18,Value.int .u32 x19,Value.int .u64 x20] 0/\
   CallsR prog K.carrackref04_MayHead #[Value.agg #[Value.int .u8 x18,Value.int .u32 x19,Value.int .u64 x20]] w11 fun v5 w12 =>
   ∃ b1:Bool,v5=Value.bool b1/\
   br (!b1) (
    storeP w12 ⟨B,0,none⟩ [Value.int .u8 0,Value.int .u32 0,Value.int .u64 0] fun w13 =>
    ∃ x21:Int,∃ x22:Int,∃ x23:Int,cellsAt w13 ⟨B,0,none⟩ [Value.int .u8 x21,Value.int .u32 x22,Value.int .u64 x23] 0/\(Ext w w13/\Value.tuple #[Value.agg #[Value.int .u8 x21,Value.int .u32 x22,Value.int .u64 x23],Value.int .i64 5]= .tuple #[headV (getHead b).1,.int .i64 ((getHead b).2:Nat)])) (
    ∃ x24:Int,∃ x25:Int,∃ x26:Int,cellsAt w12 ⟨B2,0,none⟩ [Value.int .u8 x24,Value.int .u32 x25,Value.int .u64 x26] 0/\
    storeP w12 ⟨B,0,none⟩ [Value.int .u8 x24,Value.int .u32 x25,Value.int .u64 x26] fun w14 =>
    ∃ x27:Int,∃ x28:Int,∃ x29:Int,cellsAt w14 ⟨B,0,none⟩ [Value.int .u8 x27,Value.int .u32 x28,Value.int .u64 x29] 0/\(Ext w w14/\Value.tuple #[Value.agg #[Value.int .u8 x27,Value.int .u32 x28,Value.int .u64 x29],Value.int .i64 0]= .tuple #[headV (getHead b).1,.int .i64 ((getHead b).2:Nat)])):=by
  refine head_put (h:=H) hn10.get rfl fun W11 hput11=>⟨_,_,_,head_cells hput11.get,?_⟩
  have e11:Ext w W11:=Put.upd (e9.trans hn10.upd) hput11 (.inl (by have:=e9.size;omega))
  have hcB11:W11.heap[B]?=_:=hput11.upd1.get (Ext.get hn10.upd hcB9) (by omega)
  refine (carrackref04_MayHead_spec H W11).mono ?_
  rintro _ W12 ⟨rfl,he12⟩
  have e12:=e11.trans he12
  have hcB12:=Ext.get he12 hcB11
  refine ⟨_,rfl,?_⟩
  cases hm:H.may with
  | false =>
   simp only [Bool.not_false,br_true]
   refine head_put (h:=Head.none) hcB12 rfl fun w3 hput=>⟨_,_,_,head_cells hput.get,fin e12 hput,?_⟩
   rw [hcondG,hm]
   rfl
  | true =>
   simp only [Bool.not_true,br_false]
   have hc12:=Ext.get he12 hput11.get
   refine ⟨_,_,_,head_cells hc12,head_put hcB12 rfl fun W11 hput=>⟨_,_,_,head_cells hput.get,fin e12 hput,?_⟩⟩
   rw [hcondG,hm]
   rfl
 rw [<- q1,<- q2,<- q3] at main
 exact main
section
theorem meas {n i:Nat} (h:i<n):((n:Int) - ((i+1:Nat):Int)).toNat<((n:Int) - (i:Int)).toNat:=by omega
variable {α:Type} {f:α->List Value} {k:Nat}
theorem flat_len (hf:∀ x,(f x).length=k) (l:List α):(l.flatMap f).length=l.length * k:=by
 induction l with
 | nil=>simp
 | cons x l ih=>simp [hf,ih,Nat.succ_mul,Nat.add_comm]
theorem flat_drop (hf:∀ x,(f x).length=k) (l:List α) (i:Nat):(l.flatMap f).drop (i * k)=(l.drop i).flatMap f:=by
 induction i generalizing l with
 | zero=>simp
 | succ i ih =>
  cases l with
  | nil=>simp
  | cons x l =>
   rw [List.flatMap_cons,List.drop_succ_cons,<- ih,Nat.succ_mul,Nat.add_comm,<- List.drop_drop]
   congr 1
   rw [<- hf x];simp
theorem flat_take (hf:∀ x,(f x).length=k) (l:List α) (i:Nat):(l.flatMap f).take (i * k)=(l.take i).flatMap f:=by
 induction i generalizing l with
 | zero=>simp
 | succ i ih =>
  cases l with
  | nil=>simp
  | cons x l =>
   rw [List.flatMap_cons,List.take_succ_cons,List.flatMap_cons,<- ih,Nat.succ_mul,Nat.add_comm,List.take_append,hf x]
   rw [List.take_of_length_le (by rw [hf];omega)]
   congr 2
   omega
theorem flat_set (hf:∀ x,(f x).length=k) (l:List α) {i:Nat} (hi:i<l.length) (x:α):(l.flatMap f).take (i * k) ++ f x ++ (l.flatMap f).drop (i * k+k)=(l.set i x).flatMap f:=by
 have e:i * k+k=(i+1) * k:=by rw [Nat.succ_mul]
 rw [e,flat_drop hf,flat_take hf,List.set_eq_take_append_cons_drop,if_pos hi]
 simp
theorem flat_get (hf:∀ x,(f x).length=k) (l:List α) {i:Nat} (hi:i<l.length):((l.flatMap f).drop (i * k)).take k=f l[i]:=by
 rw [flat_drop hf,List.drop_eq_getElem_cons hi,List.flatMap_cons,<- hf l[i]]
 simp
theorem idx_flat (hf:∀ x,(f x).length=k) (hk:1<=k) {w:World} {a:Option Addr} {l:List α} {n i:Nat} (hr:RowAt w a (l.flatMap f)) (hn:n=l.length) (hi:i<l.length) {K:Addr->Prop}
  (h:∀ b o,a=some ⟨b,o,none⟩->RowAt w (some ⟨b,o+i * k,none⟩) (f l[i])->K ⟨b,o+i * k,none⟩):idxP a n (i:Int) k K:=by
 subst hn
 refine ⟨by omega,by omega,?_⟩
 have hne:l.flatMap f≠[]:=List.ne_nil_of_length_pos (by rw [flat_len hf];exact Nat.mul_pos (by omega) (by omega))
 obtain ⟨b,o,rfl,_⟩:=RowAt.blk hr hne
 simp only [nilC_some',add_lit,Int.toNat_natCast]
 refine h b o rfl ?_
 rw [<- flat_get hf l hi]
 exact RowAt.take (RowAt.drop hr (i * k)) k
theorem append_flat (hf:∀ x,(f x).length=k) {w0 w1:World} {a:Option Addr} {l:List α} {cap n bytes:Nat} {e:TypeId} {z:List Value} (h:OwnAt w1 a l.length cap e k (l.flatMap f)) {B:Nat} {x:α} {cs:Array Value} (hcs:cs.toList=f x) (hn:New w0 (.cells cs e) B w1) (hnl:n=l.length)
  (h1:∀ v∈f x,v.oneCell'=true) (hz:z.length=k) (hb:l.length<=1000000000) (hby:bytes<=10000) {K:Option Addr->Nat->Nat->World->Prop}
  (hk:∀ a' c' w',Upd (fun b=>a=some ⟨b,0,none⟩) w1 w'->OwnAt w' a' (l ++ [x]).length c' e k ((l ++ [x]).flatMap f)->(a'=a\/∃ b,a'=some ⟨b,0,none⟩/\w1.heap.size<=b)->K a' (l ++ [x]).length c' w') :
  appendP e k bytes z a n cap (.slice (some ⟨B,0,none⟩) 1 1) w1 K:=by
 subst hnl
 have hrow:RowAt w1 (some ⟨B,0,none⟩) (f x):=RowAt.of hn.get fun j v hj=>by rw [<- hcs] at hj;simpa using hj
 refine append_own h rfl (read_row hrow (by rw [hf];omega)) (by rw [hf];omega) h1 hz ?_ (by omega) fun a' c' w' hu ho hf'=>?_
 .have:(2 * (l.length+1)+192) * bytes<=(2 * (1000000000+1)+192) * 10000:=Nat.mul_le_mul (by omega) hby
  omega
 .have:=hk a' c' w' hu (by simpa using ho) hf'
  simpa using this
theorem append_rows (hf:∀ x,(f x).length=k) {w1:World} {a ax:Option Addr} {l xs:List α} {cap cx n m bytes:Nat} {e:TypeId} {z:List Value} (h:OwnAt w1 a l.length cap e k (l.flatMap f)) (hx:RowAt w1 ax (xs.flatMap f)) (hnl:n=l.length) (hm:m=xs.length)
  (h1:∀ x∈xs,∀ v∈f x,v.oneCell'=true) (hz:z.length=k) (hb:l.length+xs.length<=1000000000) (hby:bytes<=10000) {K:Option Addr->Nat->Nat->World->Prop}
  (hk:∀ a' c' w',Upd (fun b=>a=some ⟨b,0,none⟩) w1 w'->OwnAt w' a' (l ++ xs).length c' e k ((l ++ xs).flatMap f)->(a'=a\/∃ b,a'=some ⟨b,0,none⟩/\w1.heap.size<=b)->K a' (l ++ xs).length c' w') :
  appendP e k bytes z a n cap (.slice ax m cx) w1 K:=by
 subst hnl;subst hm
 refine append_own h rfl (read_row hx (by rw [flat_len hf])) (by rw [flat_len hf]) (fun v hv=>?_) hz ?_ (by omega) fun a' c' w' hu ho hf'=>?_
 .obtain ⟨x,hx,hv⟩:=List.mem_flatMap.1 hv
  exact h1 x hx v hv
 .have:(2 * (l.length+xs.length)+192) * bytes<=(2 * 1000000000+192) * 10000:=Nat.mul_le_mul (by omega) hby
  omega
 .have:=hk a' c' w' hu (by simpa using ho) hf'
  simpa using this
theorem slice_to {size:Nat} {a:Option Addr} {len cap:Nat} {j:Int} {K:Option Addr->Nat->Nat->Prop} (h0:0<=j) (h1:j<=len) (h2:len<=cap) (hk:K a j.toNat cap):sliceP size a len cap none (some j) none K:=by
 refine ⟨by simp,by simp,by simpa using h0,by simp;omega,by simp,by simpa using h0,by simp,?_⟩
 have e2:(if (Option.getD none (cap:Int)).toNat=(Option.getD none (0:Int)).toNat then a else Option.map (fun x=>Addr.add x ((Option.getD none (0:Int)).toNat * size)) a)=a:=by
  cases a<;>simp [add_zero]
 rw [e2]
 simpa using hk
theorem row_from {w:World} {a:Option Addr} {vs:List Value} {len cap size j:Nat} (h:RowAt w a vs) (hl:vs.length=len * size) (hc:len<=cap):RowAt w (if cap=j then a else a.map (·.add (j * size))) (vs.drop (j * size)):=by
 split
 .rename_i e
  have:vs.drop (j * size)=[]:=List.drop_of_length_le (by rw [hl];exact Nat.mul_le_mul_right _ (by omega))
  rw [this];exact RowAt.nil _ _
 .by_cases hv:vs=[]
  .subst hv
   simp only [List.drop_nil]
   exact RowAt.nil _ _
  .obtain ⟨b,o,rfl,_⟩:=RowAt.blk h hv
   simp only [Option.map_some,add_lit]
   exact RowAt.drop h _
end
end Go.Den
namespace Go.Den
structure Blk where
 what:Nat
 head:Head
namespace Blk
def vals (b:Blk):List Value:=[.int .i64 b.what,bv b.head.kind,.int .u32 b.head.era,.int .u64 b.head.seq]
def zero:Blk:=⟨0,Head.none⟩
end Blk
structure Pool where
 blocks:List Blk
 last:Nat
 turn:Nat
structure Taken where
 block:Nat
 head:Head
 bad:Bool
 deriving DecidableEq
namespace Taken
def vals (t:Taken):List Value:=[.int .i64 t.block,bv t.head.kind,.int .u32 t.head.era,.int .u64 t.head.seq,.bool t.bad]
end Taken
def lookAt (c:Chip) (i:Nat) (old:Blk):Blk :=
 if c.dead then old
 else if (getHead (c.page i 0)).2=0 then ⟨2,(getHead (c.page i 0)).1⟩
 else if isBlank (c.blk i) then ⟨0,Head.none⟩ else ⟨1,Head.none⟩
namespace Pool
def blk (P:Pool) (i:Nat):Blk:=P.blocks.getD i Blk.zero
def setBlk (P:Pool) (i:Nat) (b:Blk):Pool:={ P with blocks:=P.blocks.set i b }
def relook (P:Pool) (c:Chip) (i:Nat):Pool:=P.setBlk i (lookAt c i (P.blk i))
def raise (P:Pool):Pool:={ P with last:=(P.last+1) % 18446744073709551616 }
end Pool
def writeHead (P:Pool) (c:Chip) (i:Nat) (kind:UInt8) (era:Nat):Pool×Chip×Nat :=
 (P.raise.relook (c.program i 0 (putHead c.sz ⟨kind,era,P.raise.last⟩).1).1 i,(c.program i 0 (putHead c.sz ⟨kind,era,P.raise.last⟩).1).1,(c.program i 0 (putHead c.sz ⟨kind,era,P.raise.last⟩).1).2)
def tryBlk (P:Pool) (c:Chip) (i:Nat) (kind:UInt8) (era:Nat):Pool×Chip×Nat :=
 if (P.blk i).what=1 then
  if (c.erase i).2≠0 then (P.relook (c.erase i).1 i,(c.erase i).1,(c.erase i).2)
  else writeHead (P.relook (c.erase i).1 i) (c.erase i).1 i kind era
 else writeHead P c i kind era
structure TakeR where
 pool:Pool
 chip:Chip
 block:Nat
 err:Nat
def takeGo (kind:UInt8) (era:Nat) (P:Pool) (c:Chip):List Nat->TakeR
 | []=>⟨P,c,0,11⟩
 | k :: ks =>
  if c.isBad ((P.turn+k) % c.nb)=true\/(P.blk ((P.turn+k) % c.nb)).what=2 then takeGo kind era P c ks
  else
   if (tryBlk P c ((P.turn+k) % c.nb) kind era).2.2=0 then ⟨{ (tryBlk P c ((P.turn+k) % c.nb) kind era).1 with turn:=(P.turn+k) % c.nb+1 },(tryBlk P c ((P.turn+k) % c.nb) kind era).2.1,(P.turn+k) % c.nb,0⟩
   else if (tryBlk P c ((P.turn+k) % c.nb) kind era).2.2=10 then ⟨(tryBlk P c ((P.turn+k) % c.nb) kind era).1,(tryBlk P c ((P.turn+k) % c.nb) kind era).2.1,0,10⟩
   else takeGo kind era (tryBlk P c ((P.turn+k) % c.nb) kind era).1 (tryBlk P c ((P.turn+k) % c.nb) kind era).2.1 ks
def takePool (P:Pool) (c:Chip) (kind:UInt8) (era:Nat):TakeR :=
 if kind.toNat<1\/kind.toNat > 3\/era<1 then ⟨P,c,0,2⟩
 else if c.ask 0 0≠0 then ⟨P,c,0,c.ask 0 0⟩
 else takeGo kind era P c (List.range c.nb)
def freePool (P:Pool) (c:Chip) (i:Int):Pool×Chip×Nat :=
 if i<0\/i≥c.nb\/(P.blk i.toNat).what≠2\/c.isBad i.toNat=true then (P,c,12)
 else (P.relook (c.erase i).1 i.toNat,(c.erase i).1,if (c.erase i).2=9 then 0 else (c.erase i).2)
def sink {α:Type} (lt:α->α->Bool) (x:α):List α->List α
 | []=>[x]
 | y :: ys=>if lt x y then y :: sink lt x ys else x :: y :: ys
def takenLt (a b:Taken):Bool:=decide (a.head.seq<b.head.seq) || (decide (a.head.seq=b.head.seq) && decide (a.block<b.block))
def isort {α:Type} (lt:α->α->Bool) (l:List α):List α:=(l.foldl (fun acc x=>sink lt x acc) []).reverse
def takenRaw (P:Pool) (c:Chip) (n:Nat):List Taken:=(List.range n).filterMap fun i=>if (P.blk i).what=2 then some ⟨i,(P.blk i).head,c.isBad i⟩ else none
def takenPool (P:Pool) (c:Chip):List Taken:=isort takenLt (takenRaw P c c.nb)
def blanksPool (P:Pool) (c:Chip):Nat:=((List.range c.nb).filter fun i=>decide ((P.blk i).what≠2) && !c.isBad i).length
def scanGo (c:Chip):Nat->Pool
 | 0=>⟨List.replicate c.nb Blk.zero,0,0⟩
 | i+1 =>
  if (((scanGo c i).relook c i).blk i).head.seq > (scanGo c i).last\/((((scanGo c i).relook c i).blk i).head.seq=(scanGo c i).last/\(((scanGo c i).relook c i).blk i).head.seq > 0) then
   { (scanGo c i).relook c i with last:=(((scanGo c i).relook c i).blk i).head.seq,turn:=i+1 }
  else (scanGo c i).relook c i
def scanPool (c:Chip):Pool:=scanGo c c.nb
def Chip.SameGeo (c d:Chip):Prop:=d.nb=c.nb/\d.np=c.np/\d.sz=c.sz/\d.sp=c.sp
theorem Chip.SameGeo.refl (c:Chip):c.SameGeo c:=⟨rfl,rfl,rfl,rfl⟩
theorem Chip.SameGeo.trans {a b c:Chip} (h:a.SameGeo b) (k:b.SameGeo c):a.SameGeo c:=⟨k.1.trans h.1,k.2.1.trans h.2.1,k.2.2.1.trans h.2.2.1,k.2.2.2.trans h.2.2.2⟩
theorem Chip.strike_geo (c:Chip):c.SameGeo c.strike.1:=by
 unfold Chip.strike
 split
 .exact ⟨rfl,rfl,rfl,rfl⟩
 .split<;>exact ⟨rfl,rfl,rfl,rfl⟩
theorem Chip.finish_geo (c:Chip) (b:Nat) (h:Option Hit):c.SameGeo (c.finish b h).1:=by
 unfold Chip.finish
 split
 .exact ⟨rfl,rfl,rfl,rfl⟩
 .split<;>exact ⟨rfl,rfl,rfl,rfl⟩
theorem Chip.done_geo (c:Chip) (b off n:Nat) (new:List UInt8):c.SameGeo (c.done b off n new).1:=by
 unfold Chip.done
 refine (c.strike_geo).trans (Chip.SameGeo.trans ?_ (Chip.finish_geo _ _ _))
 exact ⟨rfl,rfl,rfl,rfl⟩
theorem Chip.program_geo (c:Chip) (b p:Int) (x:List UInt8):c.SameGeo (c.program b p x).1:=by
 unfold Chip.program
 split
 .exact .refl _
 .split
  .exact .refl _
  .split
   .exact .refl _
   .split
    .exact .refl _
    .exact c.done_geo _ _ _ _
theorem Chip.erase_geo (c:Chip) (b:Int):c.SameGeo (c.erase b).1:=by
 unfold Chip.erase
 split
 .exact .refl _
 .split
  .exact .refl _
  .exact c.done_geo _ _ _ _
end Go.Den
namespace Go.Den
theorem Blk.vals_length (b:Blk):b.vals.length=4:=rfl
theorem Taken.vals_length (b:Taken):b.vals.length=5:=rfl
structure PLoc where
 q:Nat
 pb:Nat
 cap:Nat
 p:Nat
abbrev poolCells (P:Pool) (c:Chip) (M:PLoc):Array Value:=#[.pointer (some ⟨M.p,0,none⟩),.slice (some ⟨M.pb,0,none⟩) c.nb M.cap,.int .u64 P.last,.int .i64 P.turn]
structure PC (w:World) (M:PLoc) (P:Pool) (c:Chip) (L:Loc) (G:Nat->Prop):Prop where
 chip:ChipRep w M.p c L G
 head:w.heap[M.q]?=some (.cells (poolCells P c M) T.pool_Pool (0,0))
 own:OwnAt w (some ⟨M.pb,0,none⟩) c.nb M.cap T.pool_block 4 (P.blocks.flatMap Blk.vals)
 turn:P.turn<=c.nb
 apart:∀ x,x=M.q\/x=M.pb->x ∉ M.p :: L.bb :: L.locs/\¬ G x
 ne:M.q≠M.pb
def PF (M:PLoc) (L:Loc):Nat->Prop:=fun x=>x=M.q\/x=M.pb\/x∈M.p :: L.bb :: L.locs
theorem PF.same {M:PLoc} {L L':Loc} (h:SameLoc L L'):PF M L'=PF M L:=by
 unfold PF
 rw [h.1,h.2.2.2.2]
theorem PC.len {w:World} {M:PLoc} {P:Pool} {c:Chip} {L:Loc} {G:Nat->Prop} (h:PC w M P c L G):P.blocks.length=c.nb:=by
 have:=h.own.1
 rw [flat_len Blk.vals_length] at this
 exact Nat.eq_of_mul_eq_mul_right (by omega) this
theorem PC.upd {F:Nat->Prop} {w w':World} {M:PLoc} {P:Pool} {c:Chip} {L:Loc} {G:Nat->Prop} (h:PC w M P c L G) (k:Upd F w w') (hf:∀ x,PF M L x->¬ F x) (hg:∀ x,G x->¬ F x):PC w' M P c L G :=
 ⟨h.chip.upd k (fun x hx=>hf x (.inr (.inr hx))) hg,k.get h.head (hf _ (.inl rfl)),OwnAt.upd h.own k (fun b hb=>by cases hb;exact hf _ (.inr (.inl rfl))),h.turn,h.apart,h.ne⟩
theorem PC.ext {w w':World} {M:PLoc} {P:Pool} {c:Chip} {L:Loc} {G:Nat->Prop} (h:PC w M P c L G) (k:Ext w w'):PC w' M P c L G:=h.upd k (fun _ _ hf=>hf) (fun _ _ hf=>hf)
theorem PC.rechip {w w':World} {M:PLoc} {P:Pool} {c c':Chip} {L L':Loc} {G G':Nat->Prop} (h:PC w M P c L G) (k:Upd (fun x=>x∈M.p :: L.bb :: L.locs) w w') (hc:ChipRep w' M.p c' L' G') (hs:SameLoc L L') (hg:c.SameGeo c')
  (hG:∀ x,x=M.q\/x=M.pb->¬ G' x):PC w' M P c' L' G':=by
 refine ⟨hc,?_,?_,by rw [hg.1];exact h.turn,fun x hx=>⟨?_,hG x hx⟩,h.ne⟩
 .have:=k.get h.head (h.apart _ (.inl rfl)).1
  rw [this]
  simp only [poolCells,hg.1]
 .rw [hg.1];exact OwnAt.upd h.own k (fun b hb=>by cases hb;exact (h.apart _ (.inr rfl)).1)
 .rw [hs.1,hs.2.2.2.2];exact (h.apart x hx).1
theorem PC.rehead {w w':World} {M:PLoc} {P:Pool} {c:Chip} {L:Loc} {G:Nat->Prop} (h:PC w M P c L G) (k:Upd (·=M.q) w w') {last turn:Nat} (ht:turn<=c.nb)
  (hd:w'.heap[M.q]?=some (.cells (poolCells { P with last:=last,turn:=turn } c M) T.pool_Pool (0,0))):PC w' M { P with last:=last,turn:=turn } c L G:=by
 have ha:=h.apart _ (.inl rfl)
 exact ⟨h.chip.upd k (fun x hx e=>ha.1 (e ▸ hx)) (fun x hx e=>ha.2 (e ▸ hx)),hd,OwnAt.upd h.own k (fun b hb=>by cases hb;exact fun e=>h.ne e.symm),ht,h.apart,h.ne⟩
theorem PC.reblk {w w':World} {M:PLoc} {P:Pool} {c:Chip} {L:Loc} {G:Nat->Prop} (h:PC w M P c L G) (k:Upd (·=M.pb) w w') {i:Nat} {b:Blk}
  (ho:OwnAt w' (some ⟨M.pb,0,none⟩) c.nb M.cap T.pool_block 4 ((P.setBlk i b).blocks.flatMap Blk.vals)):PC w' M (P.setBlk i b) c L G:=by
 have ha:=h.apart _ (.inr rfl)
 exact ⟨h.chip.upd k (fun x hx e=>ha.1 (e ▸ hx)) (fun x hx e=>ha.2 (e ▸ hx)),k.get h.head h.ne,ho,h.turn,h.apart,h.ne⟩
theorem PC.blk {w:World} {M:PLoc} {P:Pool} {c:Chip} {L:Loc} {G:Nat->Prop} (h:PC w M P c L G) {i:Nat} (hi:i<c.nb):∃ hl:i<P.blocks.length,P.blk i=P.blocks[i]:=by
 have hl:i<P.blocks.length:=by rw [h.len];exact hi
 exact ⟨hl,by simp [Pool.blk,List.getD,hl]⟩
theorem PC.idx {w:World} {M:PLoc} {P:Pool} {c:Chip} {L:Loc} {G:Nat->Prop} (h:PC w M P c L G) {i:Nat} (hi:i<c.nb) {K:Addr->Prop}
  (hk:RowAt w (some ⟨M.pb,i * 4,none⟩) (P.blk i).vals->K ⟨M.pb,i * 4,none⟩):idxP (some ⟨M.pb,0,none⟩) c.nb (i:Int) 4 K:=by
 obtain ⟨hl,e⟩:=h.blk hi
 refine idx_flat (f:=Blk.vals) Blk.vals_length (by omega) h.own.row h.len.symm hl fun b o ha hr=>?_
 cases ha
 rw [Nat.zero_add] at hr ⊢
 rw [<- e] at hr
 exact hk hr
theorem PC.store {w:World} {M:PLoc} {P:Pool} {c:Chip} {L:Loc} {G:Nat->Prop} (h:PC w M P c L G) {i:Nat} (hi:i<c.nb) (b:Blk) {K:World->Prop}
  (hk:∀ w',Upd (·=M.pb) w w'->PC w' M (P.setBlk i b) c L G->K w'):storeP w ⟨M.pb,i * 4,none⟩ b.vals K:=by
 obtain ⟨hl,_⟩:=h.blk hi
 refine own_store h.own (by rw [flat_len Blk.vals_length,Blk.vals_length];omega) fun w' hu ho=>hk w' hu (h.reblk hu ?_)
 have:=flat_set Blk.vals_length P.blocks hl b
 rw [Blk.vals_length] at ho
 rw [this] at ho
 exact ho
theorem ask_ok {c:Chip} {i k:Nat} (hd:c.dead=false) (hi:i<c.nb) (hk:k<c.np):c.ask i k=0:=by
 unfold Chip.ask
 rw [if_neg (by rw [hd];simp),if_neg (by omega)]
theorem ask_dead {c:Chip} {i k:Int} (hd:c.dead=true):c.ask i k=10:=by unfold Chip.ask;rw [if_pos hd]
theorem ask00 {c:Chip} (h:c.Ok):c.ask 0 0=if c.dead then 10 else 0:=by
 cases hd:c.dead with
 | true=>rw [ask_dead hd];rfl
 | false =>
  have:=h.nb1
  have:=h.np1
  exact ask_ok (i:=0) (k:=0) hd (by omega) (by omega)
theorem pool_off_spec {w:World} {M:PLoc} {P:Pool} {c:Chip} {L:Loc} {G:Nat->Prop} (h:PC w M P c L G) :
  CallsR prog K.pool_Pool_off #[.pointer (some ⟨M.q,0,none⟩)] w fun v w'=>v= .bool false/\w'=w:=by
 apply pool_Pool_off.sh
 simp only [pool_Pool_off.body,Option.isNone_some,br_false,nilC_some',add_lit]
 exact ⟨_,_,_,cell_of h.head rfl,rfl,by trivial⟩
theorem pool_alive_spec {w:World} {M:PLoc} {P:Pool} {c:Chip} {L:Loc} {G:Nat->Prop} (h:PC w M P c L G) :
  CallsR prog K.pool_Pool_alive #[.pointer (some ⟨M.q,0,none⟩)] w fun v w'=>v= .int .i64 (c.ask 0 0:Nat)/\Ext w w':=by
 apply pool_Pool_alive.sh
 unfold pool_Pool_alive.body
 refine (pool_off_spec h).mono ?_
 rintro _ _ ⟨rfl,rfl⟩
 rename_i w
 refine ⟨_,rfl,?_⟩
 simp only [br_false,nilC_some',add_lit]
 refine ⟨_,cell_of h.head rfl,?_⟩
 refine (nand_Read_spec h.chip 0 0).mono ?_
 rintro v w2 ⟨he,hv⟩
 split at hv
 .rename_i h0
  obtain ⟨a,cp,rfl,_⟩:=hv
  exact ⟨_,_,_,_,rfl,by rw [h0];rfl,he⟩
 .subst hv
  exact ⟨_,_,_,_,rfl,rfl,he⟩
theorem setBlk_self (P:Pool) (i:Nat) (hi:i<P.blocks.length):P.setBlk i (P.blk i)=P:=by
 have:P.blk i=P.blocks[i]:=by simp [Pool.blk,List.getD,hi]
 unfold Pool.setBlk
 rw [this,List.set_getElem_self]
theorem isBlank_append (l m:List UInt8):isBlank (l ++ m)=(isBlank l && isBlank m):=by simp [isBlank]
theorem page_take (c:Chip) (i k:Nat):(c.blk i).take ((k+1) * c.sz)=(c.blk i).take (k * c.sz) ++ c.page i k:=by
 rw [Nat.succ_mul,List.take_add];rfl
theorem page_len {c:Chip} (h:c.Ok) {i k:Nat} (hi:i<c.nb) (hk:k<c.np):(c.page i k).length=c.sz:=by
 have h1:=h.blk_len hi
 have h2:=page_in hk
 simp [Chip.page,h1]
 omega
theorem pool_look_spec {w:World} {M:PLoc} {P:Pool} {c:Chip} {L:Loc} {G:Nat->Prop} (h:PC w M P c L G) {i:Nat} (hi:i<c.nb) :
  CallsR prog K.pool_Pool_look #[.pointer (some ⟨M.q,0,none⟩),.int .i64 i] w fun v w'=>v= .tuple #[]/\Upd (·=M.pb) w w'/\PC w' M (P.relook c i) c L G:=by
 have hok:=h.chip.ok
 have hnp1:=hok.np1
 have hnp2:=hok.np2
 have hnb2:=hok.nb2
 have hsz1:=hok.sz1
 have hsz2:=hok.sz2
 have hblen:=hok.blk_len hi
 obtain ⟨hil,_⟩:=h.blk hi
 apply pool_Pool_look.sh
 intro B w1 hn
 have hB:B=w.heap.size:=hn.num
 refine store_of hn.get (by simp) fun w2 hput=>?_
 have e2:Ext w w2:=Put.upd hn.upd hput (.inl (by omega))
 have hgB:=hput.get
 rw [splice_all _ _ (by simp)] at hgB
 have h2:=h.ext e2
 simp only [nilC_some',add_lit]
 refine ⟨_,cell_of h2.head rfl,?_⟩
 refine (nand_Geo_spec h2.chip).mono ?_
 rintro _ w3 ⟨rfl,he3⟩
 have e3:=e2.trans he3
 have hgB3:=Ext.get he3 hgB
 refine ⟨_,_,_,_,rfl,?_⟩
 refine ⟨fun x u=>∃ k:Nat,x=k/\k<=c.np/\Ext w u/\u.heap[B]?=some (.cells #[.int .i64 (if isBlank ((c.blk i).take (k * c.sz)) then 0 else 1),.int .u8 0,.int .u32 0,.int .u64 0] T.pool_block (0,0))/\(0<k->c.dead=false/\(getHead (c.page i 0)).2≠0),
  fun x _=>(c.np - x).toNat,⟨0,rfl,by omega,e3,by simpa [isBlank] using hgB3,fun h=>by omega⟩,?_⟩
 rintro x u ⟨k,rfl,hk,heu,hgu,hpos⟩
 have hu:=h.ext heu
 have hsu:=heu.size
 refine br_dec (fun hlt=>?_) fun hge=>?_
 .have hk':k<c.np:=by omega
  refine ⟨_,cell_of hu.head rfl,?_⟩
  refine (nand_Read_spec hu.chip i k).mono ?_
  rintro v w5 ⟨he5,hv⟩
  have e5:=heu.trans he5
  rcases Bool.eq_false_or_eq_true c.dead with hd | hd
  .rw [if_neg (by rw [ask_dead hd];omega),ask_dead hd] at hv
   subst hv
   refine ⟨_,_,_,_,rfl,?_⟩
   refine br_ne (fun _=>⟨by trivial,Upd.ext e5,?_⟩) fun h=>by omega
   have:P.relook c i=P:=by unfold Pool.relook lookAt;rw [if_pos hd];exact setBlk_self P i hil
   rw [this]
   exact h.ext e5
  rw [if_pos (ask_ok hd hi hk')] at hv
  obtain ⟨a,cp,rfl,hba,hcp,hfa⟩:=hv
  simp only [Int.toNat_natCast] at hba
  have hpl:=page_len hok hi hk'
  refine ⟨_,_,_,_,rfl,br_ne (fun h=>by omega) fun _=>?_⟩
  have hgh:=pool_GetHead_spec (c:=cp) hba (by omega)
  rw [hpl] at hgh
  refine hgh.mono ?_
  rintro _ w6 ⟨he6,rfl⟩
  have e6:=e5.trans he6
  refine ⟨_,_,_,_,rfl,fun B2 w7 hn7=>?_⟩
  have hB2:B2=w6.heap.size:=hn7.num
  have hs6:=e6.size
  have hs56:=(he5.trans he6).size
  rw [head_zero] at hn7
  refine head_put (h:=(getHead (c.page i k)).1) hn7.get rfl fun w8 hput8=>?_
  have e8:Ext w w8:=Put.upd (e6.trans hn7.upd) hput8 (.inl (by omega))
  have hBs:B<u.heap.size:=(Array.getElem?_eq_some_iff.1 hgu).1
  have hg8:w8.heap[B]?=_:=hput8.upd1.get (Ext.get ((he5.trans he6).trans hn7.upd) hgu) (by omega)
  have hblank:∀ {X:Prop},(0<k\/(getHead (c.page i 0)).2≠0)->(∀ u',Ext w u'->u'.heap[B]?=some (.cells #[.int .i64 (if isBlank ((c.blk i).take ((k+1) * c.sz)) then 0 else 1),.int .u8 0,.int .u32 0,.int .u64 0] T.pool_block (0,0))->
    (∃ k':Nat,i64.wrap ((k:Int)+1)=k'/\k'<=c.np/\Ext w u'/\u'.heap[B]?=some (.cells #[.int .i64 (if isBlank ((c.blk i).take (k' * c.sz)) then 0 else 1),.int .u8 0,.int .u32 0,.int .u64 0] T.pool_block (0,0))/\(0<k'->c.dead=false/\(getHead (c.page i 0)).2≠0))/\
     ((c.np:Int) - i64.wrap ((k:Int)+1)).toNat<((c.np:Int) - (k:Int)).toNat):=by
   intro _ hno u' hu' hg'
   have e1:i64.wrap ((k:Int)+1)=((k+1:Nat):Int):=w64 (by omega) (by omega)
   rw [e1]
   refine ⟨⟨k+1,rfl,hk',hu',hg',fun _=>⟨hd,?_⟩⟩,by omega⟩
   rcases hno with hno | hno
   .exact (hpos hno).2
   .exact hno
  have hstep:(0<k\/(getHead (c.page i 0)).2≠0)->CallsR prog K.seal_Blank #[Value.slice a c.sz cp] w8 fun v4 w11 =>
    ∃ b1:Bool,v4=Value.bool b1/\
    br (!b1) (
     storeP w11 ⟨B,0,none⟩ [Value.int .i64 1] fun w12=>(∃ k':Nat,i64.wrap ((k:Int)+1)=k'/\k'<=c.np/\Ext w w12/\w12.heap[B]?=some (.cells #[.int .i64 (if isBlank ((c.blk i).take (k' * c.sz)) then 0 else 1),.int .u8 0,.int .u32 0,.int .u64 0] T.pool_block (0,0))/\(0<k'->c.dead=false/\(getHead (c.page i 0)).2≠0))/\
      ((c.np:Int) - i64.wrap ((k:Int)+1)).toNat<((c.np:Int) - (k:Int)).toNat)
     ((∃ k':Nat,i64.wrap ((k:Int)+1)=k'/\k'<=c.np/\Ext w w11/\w11.heap[B]?=some (.cells #[.int .i64 (if isBlank ((c.blk i).take (k' * c.sz)) then 0 else 1),.int .u8 0,.int .u32 0,.int .u64 0] T.pool_block (0,0))/\(0<k'->c.dead=false/\(getHead (c.page i 0)).2≠0))/\
      ((c.np:Int) - i64.wrap ((k:Int)+1)).toNat<((c.np:Int) - (k:Int)).toNat):=by
   intro hno
   have hba8:BytesAt w8 a (c.page i k):=RowAt.upd (RowAt.ext (RowAt.ext hba he6) hn7.upd) hput8.upd1 (fun p hp e=>by
    obtain ⟨b',o',hab,hlt⟩:=RowAt.blk hba (List.ne_nil_of_length_pos (by simp [hpl];omega))
    rw [hp] at hab
    cases hab
    have:b'=B2:=e
    have:=he6.size
    omega)
   have hsb:=seal_Blank_spec (c:=cp) hba8 (by omega)
   rw [hpl] at hsb
   refine hsb.mono ?_
   rintro _ _ ⟨rfl,rfl⟩
   rename_i w8
   refine ⟨_,rfl,?_⟩
   have hpt:=page_take c i k
   cases hbp:isBlank (c.page i k) with
   | false =>
    simp only [Bool.not_false,br_true]
    refine store_of hg8 (by simp) fun W12 hput12=>?_
    refine hblank (X:=True) hno W12 (Put.upd e8 hput12 (.inl (by omega))) ?_
    have:=hput12.get
    rw [this,hpt,isBlank_append,hbp,Bool.and_false]
    rfl
   | true =>
    simp only [Bool.not_true,br_false]
    refine hblank (X:=True) hno w8 e8 ?_
    rw [hg8,hpt,isBlank_append,hbp,Bool.and_true]
  refine br_eq (fun hk0=>?_) fun hk0=>hstep (.inl (by omega))
  have hk0':k=0:=by omega
  subst hk0'
  refine br_eq (fun hz=>?_) fun hz=>hstep (.inr (by omega))
  intro w9 hd9
  have e9:=e8.trans hd9.upd
  have h9:=h.ext e9
  refine ⟨fun u=>u=w9,rfl,_,_,_,fun u hu=>hu ▸ cell_of h9.head rfl,_,_,_,fun u hu=>hu ▸ head_cells (Ext.get hd9.upd hput8.get),?_⟩
  refine h9.idx hi fun _=>?_
  refine h9.store hi ⟨2,(getHead (c.page i 0)).1⟩ fun w' hu' hp'=>⟨by trivial,(Upd.ext e9).trans hu',?_⟩
  have:P.relook c i=P.setBlk i ⟨2,(getHead (c.page i 0)).1⟩:=by
   unfold Pool.relook lookAt
   rw [if_neg (by rw [hd];simp),if_pos (by omega)]
  rw [this]
  exact hp'
 .have hk':k=c.np:=by omega
  subst hk'
  obtain ⟨hd,hno⟩:=hpos (by omega)
  rw [List.take_of_length_le (by omega)] at hgu
  intro w15 hd15
  have e15:=heu.trans hd15.upd
  have h15:=h.ext e15
  refine ⟨fun u=>u=w15,rfl,_,_,_,fun u hu=>hu ▸ cell_of h15.head rfl,(if isBlank (c.blk i) then 0 else 1),0,0,0,fun u hu=>hu ▸ cellsAt_of (o:=0) (Ext.get hd15.upd hgu) (fun j v hj=>by simpa using hj),?_⟩
  refine h15.idx hi fun _=>?_
  have hv:(if isBlank (c.blk i)=true then (0:Int) else 1)=(((if isBlank (c.blk i)=true then 0 else 1):Nat):Int):=by split<;>rfl
  have hval:[Value.int .i64 (if isBlank (c.blk i)=true then (0:Int) else 1),Value.int .u8 0,Value.int .u32 0,Value.int .u64 0]=Blk.vals ⟨if isBlank (c.blk i)=true then 0 else 1,Head.none⟩:=by rw [hv];rfl
  rw [hval]
  refine h15.store hi _ fun w' hu' hp'=>⟨by trivial,(Upd.ext e15).trans hu',?_⟩
  have:P.relook c i=P.setBlk i ⟨if isBlank (c.blk i)=true then 0 else 1,Head.none⟩:=by
   unfold Pool.relook lookAt
   rw [if_neg (by rw [hd];simp),if_neg hno]
   split<;>rfl
  rw [this]
  exact hp'
end Go.Den
