/- THE QUESTIONS, part 4: printed by a program of ours from the program's functions; each equation is checked by the kernel. -/
import Derived.Test.YtemkcbopbinfmaaGreatDoorVKP
set_option linter.all false
set_option linter.unusedVariables false
set_option maxRecDepth 100000
namespace Go.VK
open Go
open Go.Proofs

/- codicil/value.each -/
def q130 (Z : List PanicEntry → Heap → Prop) (p0 : Int) (p1 : Bool) (p2 : Int) (p3 : ByteArray) (p4 : Sl) (p5 : Sl) (p6 : Sl) (h0 : Heap) (Q : Cur (flat [.one (.oq)]) (Heap → Prop)) : Prop :=
 ALLOC [.int .u8 p0, .bool p1, .int .i64 p2, .string p3, p4.v, p5.v, p6.v] 27 h0 fun b1 h1 =>
 Q (.func (.func 159) #[] #[.pointer (some ⟨b1, 0, none⟩)]) h1
def pl130 : Plan := ⟨[], [], [], [], [], []⟩
theorem q130_eq (Z : List PanicEntry → Heap → Prop) (p0 : Int) (p1 : Bool) (p2 : Int) (p3 : ByteArray) (p4 : Sl) (p5 : Sl) (p6 : Sl) (h0 : Heap) (Q : Cur (flat [.one (.oq)]) (Heap → Prop)) : q130 Z p0 p1 p2 p3 p4 p5 p6 h0 Q = (WPF P Z Tryz.f130 pl130 [.agg [.nt .u8, .bl, .nt .i64, .tx, .sl, .sl, .sl]] h0 Q) p0 p1 p2 p3 p4 p5 p6 := by kernel_rfl

/- codicil/value.own -/
def q131 (Z : List PanicEntry → Heap → Prop) (p0 : Int) (p1 : Bool) (p2 : Int) (p3 : ByteArray) (p4 : Sl) (p5 : Sl) (p6 : Sl) (h0 : Heap) (Q : Cur (flat [.one (.nt .u16)]) (Heap → Prop)) : Prop :=
 ALLOC [.int .u8 p0, .bool p1, .int .i64 p2, .string p3, p4.v, p5.v, p6.v] 27 h0 fun b1 h1 =>
 CALL P Z 161 [.agg #[.int .u8 p0, .bool p1, .int .i64 p2, .string p3, p4.v, p5.v, p6.v]] [.agg [.nt .u8, .bl, .nt .i64, .tx, .sl, .sl, .sl]] h1 [b1] fun v9_0 v9_1 v9_2 v9_3 v9_4 v9_5 v9_6 h2 =>
 ALLOC [.int .u8 0, .bool false, .int .i64 0, .string ByteArray.empty, .slice none 0 0, .slice none 0 0, .slice none 0 0] 27 h2 fun b3 h3 =>
 PUTN b3 [.int .u8 v9_0, .bool v9_1, .int .i64 v9_2, .string v9_3, v9_4.v, v9_5.v, v9_6.v] 0 h3 fun h4 =>
 JOIN [.bl] (fun k5 => COND ((p1 == v9_1)) (COND (p2 == v9_2) (k5 (p3.toList == v9_3.toList) h4)
 (k5 false h4))
 (k5 false h4))
 fun x4 h6 =>
 JOIN [.bl] (fun k7 => COND ((p4.len : Int) == 0) (COND ((p5.len : Int) == 0) (COND ((p6.len : Int) == 0) (k7 true h6)
 (k7 (p0 == 7) h6))
 (COND (p0 == 6) (COND ((p6.len : Int) == 0) (k7 true h6)
 (k7 (p0 == 7) h6))
 (k7 false h6)))
 (COND (p0 == 5) (COND ((p5.len : Int) == 0) (COND ((p6.len : Int) == 0) (k7 true h6)
 (k7 (p0 == 7) h6))
 (COND (p0 == 6) (COND ((p6.len : Int) == 0) (k7 true h6)
 (k7 (p0 == 7) h6))
 (k7 false h6)))
 (k7 false h6)))
 fun x5 h8 =>
 JOIN [.bl] (fun k9 => COND (decide (p0 < 1)) (k9 true h8)
 (COND (decide (p0 > 7)) (k9 true h8)
 (COND (!x4) (k9 true h8)
 (k9 (!x5) h8))))
 fun x75 h10 =>
 COND x75 (Q 30 h10)
 (LOOP [.nt .i64] (fun x79 h12 nx11 =>
 COND (decide (x79 < (p6.len : Int))) (IXA 8 p6.a p6.len x79 fun a82 =>
 LDN [.tx, .nt .u8, .bl, .nt .i64, .tx, .sl, .sl, .sl] a82 0 (EQ h12) fun v83_0 v83_1 v83_2 v83_3 v83_4 v83_5 v83_6 v83_7 =>
 ALLOC [.string ByteArray.empty, .int .u8 0, .bool false, .int .i64 0, .string ByteArray.empty, .slice none 0 0, .slice none 0 0, .slice none 0 0] 132 h12 fun b7 h13 =>
 PUTN b7 [.string v83_0, .int .u8 v83_1, .bool v83_2, .int .i64 v83_3, .string v83_4, v83_5.v, v83_6.v, v83_7.v] 0 h13 fun h14 =>
 JOIN [.bl] (fun k15 => DRAW h14 [b1, b7] fun S17 =>
 CALL P (fun _ _ => False) 162 [.string v83_0] [.one (.bl)] h14 [b1, b7] fun v86 h18 =>
 SS S17 h18 (
 COND (!v86) (k15 true h18)
 (COND (decide (x79 > 0)) (IXA 8 p6.a p6.len (IntKind.wrap .i64 (x79 - 1)) fun a98 =>
 LD (.tx) (a98.add 0) S17 fun v100 =>
 k15 (Op.bytesLess v83_0.toList v100.toList || v83_0.toList == v100.toList) h18)
 (k15 false h18))))
 fun x103 h16 =>
 COND x103 (Q 30 h16)
 (nx11 (IntKind.wrap .i64 (x79 + 1)) h16))
 (CALL P Z 163 [.string p3] [.one (.bl)] h12 [b1] fun v108 h19 =>
 COND (!v108) (Q 34 h19)
 (JOIN [.bl] (fun k20 => CALL P Z 164 [.string p3] [.one (.nt .i64)] h19 [b1] fun v113 h22 =>
 COND (decide (v113 > 1000)) (k20 true h22)
 (k20 (decide ((p4.len : Int) > 4000)) h22))
 fun x110 h21 =>
 COND x110 (Q 33 h21)
 (Q 0 h21)))) 0 h10)
def pl131 : Plan := ⟨[], [(7, ⟨[(79, .nt .i64)], [1, 77, 78], [1]⟩)], [], [(14, ⟨[(110, .bl)], [], []⟩), (9, ⟨[(103, .bl)], [1, 77, 78, 79], [1]⟩), (4, ⟨[(75, .bl)], [1], [1]⟩), (3, ⟨[(5, .bl)], [1, 4], [1]⟩), (2, ⟨[(4, .bl)], [1], [1]⟩)], [(9, false, [0, 1, 2, 3, 4, 5, 6, 7, 8, 9, 10, 11, 12, 13, 14, 15, 16, 17, 18, 19])], []⟩
theorem q131_eq (Z : List PanicEntry → Heap → Prop) (p0 : Int) (p1 : Bool) (p2 : Int) (p3 : ByteArray) (p4 : Sl) (p5 : Sl) (p6 : Sl) (h0 : Heap) (Q : Cur (flat [.one (.nt .u16)]) (Heap → Prop)) : q131 Z p0 p1 p2 p3 p4 p5 p6 h0 Q = (WPF P Z Tryz.f131 pl131 [.agg [.nt .u8, .bl, .nt .i64, .tx, .sl, .sl, .sl]] h0 Q) p0 p1 p2 p3 p4 p5 p6 := by kernel_rfl

/- codicil/doc.write -/
def q132 (Z : List PanicEntry → Heap → Prop) (p0 : Option Addr) (p1 : Int) (p2 : Bool) (p3 : Int) (p4 : ByteArray) (p5 : Sl) (p6 : Sl) (p7 : Sl) (h0 : Heap) (Q : Cur (flat []) (Heap → Prop)) : Prop :=
 ALLOC [.pointer p0] 77 h0 fun b2 h1 =>
 ALLOC [.int .u8 p1, .bool p2, .int .i64 p3, .string p4, p5.v, p6.v, p7.v] 27 h1 fun b3 h2 =>
 JOIN [] (fun k3 => COND (p1 == 1) (CALL P Z 27 [.pointer p0, .int .u8 1] [] h2 [b2, b3] fun h5 =>
 k3 h5)
 (COND (p1 == 2) (JOIN [.nt .u8] (fun k6 => COND p2 (k6 3 h2)
 (k6 2 h2))
 fun x4 h7 =>
 CALL P Z 27 [.pointer p0, .int .u8 x4] [] h7 [b2] fun h8 =>
 k3 h8)
 (COND (p1 == 3) (CALL P Z 27 [.pointer p0, .int .u8 4] [] h2 [b2, b3] fun h9 =>
 CALL P Z 165 [.pointer p0, .int .i64 p3] [] h9 [b2, b3] fun h10 =>
 k3 h10)
 (COND (p1 == 4) (CALL P Z 27 [.pointer p0, .int .u8 5] [] h2 [b2, b3] fun h11 =>
 CALL P Z 28 [.pointer p0, .string p4] [] h11 [b2, b3] fun h12 =>
 k3 h12)
 (COND (p1 == 5) (CALL P Z 27 [.pointer p0, .int .u8 6] [] h2 [b2, b3] fun h13 =>
 BTS p5.a p5.len (EQ h13) fun v41 =>
 CALL P Z 28 [.pointer p0, .string v41] [] h13 [b2, b3] fun h14 =>
 k3 h14)
 (COND (p1 == 6) (CALL P Z 27 [.pointer p0, .int .u8 7] [] h2 [b2, b3] fun h15 =>
 CALL P Z 166 [.pointer p0, p6.v, .func (.func 167) #[] #[.pointer (some ⟨b2, 0, none⟩)]] [] h15 [b3] fun h16 =>
 k3 h16)
 (COND (p1 == 7) (CALL P Z 27 [.pointer p0, .int .u8 8] [] h2 [b2, b3] fun h17 =>
 CALL P Z 168 [.pointer p0, p7.v, .func (.func 169) #[] #[.pointer (some ⟨b2, 0, none⟩)]] [] h17 [b3] fun h18 =>
 k3 h18)
 (k3 h2))))))))
 fun h4 =>
 Q h4
def pl132 : Plan := ⟨[(8, ⟨[(4, .nt .u8)], [2], [2]⟩)], [], [(0, ⟨[], [], []⟩)], [], [], []⟩
theorem q132_eq (Z : List PanicEntry → Heap → Prop) (p0 : Option Addr) (p1 : Int) (p2 : Bool) (p3 : Int) (p4 : ByteArray) (p5 : Sl) (p6 : Sl) (p7 : Sl) (h0 : Heap) (Q : Cur (flat []) (Heap → Prop)) : q132 Z p0 p1 p2 p3 p4 p5 p6 p7 h0 Q = (WPF P Z Tryz.f132 pl132 [.one (.pt), .agg [.nt .u8, .bl, .nt .i64, .tx, .sl, .sl, .sl]] h0 Q) p0 p1 p2 p3 p4 p5 p6 p7 := by kernel_rfl

/- codicil/code.varint -/
def q133 (Z : List PanicEntry → Heap → Prop) (p0 : Sl) (h0 : Heap) (Q : Cur (flat [.one (.nt .u64), .one (.nt .i64), .one (.nt .u16)]) (Heap → Prop)) : Prop :=
 JOIN [.nt .u16] (fun k1 => LOOP [.nt .u64, .nt .u16, .nt .i64] (fun x2 x4 x9 h4 nx3 =>
 COND (decide (x9 < (p0.len : Int))) (IXA 1 p0.a p0.len x9 fun a12 =>
 LD (.nt .u8) a12 (EQ h4) fun v13 =>
 JOIN [.bl] (fun k5 => JOIN [.bl] (fun k7 => COND (x9 == 9) (k7 (v13 != 1) h4)
 (k7 false h4))
 fun x14 h8 =>
 COND x14 (k5 x14 h8)
 (JOIN [.bl] (fun k9 => COND (decide (x9 > 0)) (k9 (v13 == 0) h8)
 (k9 false h8))
 fun x14 h10 =>
 k5 x14 h10))
 fun x14 h6 =>
 COND x14 (k1 21 h6)
 (SHI (IntKind.wrap .i64 (7 * x9)) (COND (decide (v13 < 128)) (Q (ior .u64 x2 (ishl .u64 (IntKind.wrap .u64 ((iand .u8 v13 127))) (IntKind.wrap .i64 (7 * x9)))) (IntKind.wrap .i64 (x9 + 1)) 0 h6)
 (nx3 (ior .u64 x2 (ishl .u64 (IntKind.wrap .u64 ((iand .u8 v13 127))) (IntKind.wrap .i64 (7 * x9)))) x4 (IntKind.wrap .i64 (x9 + 1)) h6))))
 (k1 x4 h4)) 0 20 0 h0)
 fun x4 h2 =>
 Q 0 0 x4 h2
def pl133 : Plan := ⟨[(7, ⟨[(14, .bl)], [2, 4, 5, 6, 7, 8, 9], []⟩)], [(3, ⟨[(2, .nt .u64), (4, .nt .u16), (9, .nt .i64)], [7, 8], []⟩)], [(0, ⟨[(4, .nt .u16)], [], []⟩)], [(6, ⟨[(14, .bl)], [2, 4, 5, 6, 7, 8, 9], []⟩), (5, ⟨[(14, .bl)], [2, 4, 5, 6, 7, 8, 9], []⟩)], [], []⟩
theorem q133_eq (Z : List PanicEntry → Heap → Prop) (p0 : Sl) (h0 : Heap) (Q : Cur (flat [.one (.nt .u64), .one (.nt .i64), .one (.nt .u16)]) (Heap → Prop)) : q133 Z p0 h0 Q = (WPF P Z Tryz.f133 pl133 [.one (.sl)] h0 Q) p0 := by kernel_rfl

/- (*codicil/doc.reader).value -/
def q134 (Z : List PanicEntry → Heap → Prop) (p0 : Option Addr) (p1 : Int) (h0 : Heap) (Q : Cur (flat [.agg [.nt .u8, .bl, .nt .i64, .tx, .sl, .sl, .sl]]) (Heap → Prop)) : Prop :=
 ALLOC [.int .u8 0, .bool false, .int .i64 0, .string ByteArray.empty, .slice none 0 0, .slice none 0 0, .slice none 0 0] 27 h0 fun b4 h1 =>
 NN p0 fun a10 =>
 LD (.pt) (a10.add 0) (EQ h1) fun v12 =>
 CALL P Z 36 [.pointer v12] [.one (.nt .u8)] h1 [b4] fun v13 h2 =>
 JOIN [.bl] (fun k3 => COND (p1 == 0) (k3 true h2)
 (CALL P Z 170 [.pointer p0] [.one (.bl)] h2 [b4] fun v18 h5 =>
 k3 v18 h5))
 fun x19 h4 =>
 COND x19 (NN p0 fun a120 =>
 STN (a120.add 1) [.bool true] 0 h4 [b4] fun h6 =>
 PUTN b4 [.int .u8 0, .bool false, .int .i64 0, .string ByteArray.empty, .slice none 0 0, .slice none 0 0, .slice none 0 0] 0 h6 fun h7 =>
 Q 0 false 0 ByteArray.empty ⟨none, 0, 0⟩ ⟨none, 0, 0⟩ ⟨none, 0, 0⟩ h7)
 (JOIN [] (fun k8 => COND (v13 == 1) (PUTN b4 [.int .u8 1] 0 h4 fun h10 =>
 k8 h10)
 (JOIN [.bl] (fun k11 => COND (v13 == 2) (k11 (v13 == 2) h4)
 (k11 (v13 == 3) h4))
 fun x24 h12 =>
 COND x24 (PUTN b4 [.int .u8 2] 0 h12 fun h13 =>
 PUTN b4 [.bool (v13 == 3)] 1 h13 fun h14 =>
 k8 h14)
 (COND (v13 == 4) (NN p0 fun a34 =>
 LD (.pt) (a34.add 0) (EQ h12) fun v36 =>
 CALL P Z 171 [.pointer v36] [.one (.nt .i64)] h12 [b4] fun v37 h15 =>
 PUTN b4 [.int .u8 3] 0 h15 fun h16 =>
 PUTN b4 [.int .i64 v37] 2 h16 fun h17 =>
 k8 h17)
 (COND (v13 == 5) (NN p0 fun a43 =>
 LD (.pt) (a43.add 0) (EQ h12) fun v45 =>
 CALL P Z 37 [.pointer v45] [.one (.tx)] h12 [b4] fun v46 h18 =>
 PUTN b4 [.int .u8 4] 0 h18 fun h19 =>
 PUTN b4 [.string v46] 3 h19 fun h20 =>
 k8 h20)
 (COND (v13 == 6) (NN p0 fun a52 =>
 LD (.pt) (a52.add 0) (EQ h12) fun v54 =>
 CALL P Z 37 [.pointer v54] [.one (.tx)] h12 [b4] fun v55 h21 =>
 STB v55 5 h21 fun v56 h22 =>
 PUTN b4 [.int .u8 5] 0 h22 fun h23 =>
 PUTN b4 [v56.v] 4 h23 fun h24 =>
 k8 h24)
 (COND (v13 == 7) (PUTN b4 [.int .u8 6] 0 h12 fun h25 =>
 NN p0 fun a63 =>
 LD (.pt) (a63.add 0) (EQ h25) fun v65 =>
 CALL P Z 92 [.pointer v65] [.one (.nt .u64)] h25 [b4] fun v66 h26 =>
 LOOP [.nt .u64] (fun x6 h28 nx27 =>
 JOIN [.bl] (fun k29 => COND (decide (x6 > 0)) (CALL P Z 170 [.pointer p0] [.one (.bl)] h28 [] fun v71 h31 =>
 k29 (!v71) h31)
 (k29 false h28))
 fun x73 h30 =>
 COND x73 (DRAW h30 [] fun S32 =>
 LD (.sl) ⟨b4, 5, none⟩ S32 fun v77 =>
 CALL P (fun _ _ => False) 134 [.pointer p0, .int .i64 (IntKind.wrap .i64 (p1 - 1))] [.agg [.nt .u8, .bl, .nt .i64, .tx, .sl, .sl, .sl]] h30 [] fun v81_0 v81_1 v81_2 v81_3 v81_4 v81_5 v81_6 h33 =>
 SS S32 h33 (
 ALLOC [.int .u8 v81_0, .bool v81_1, .int .i64 v81_2, .string v81_3, v81_4.v, v81_5.v, v81_6.v] 27 h33 fun b82 h34 =>
 SS S32 h34 (
 APPEND 7 104 27 [.int .u8 0, .bool false, .int .i64 0, .string ByteArray.empty, .slice none 0 0, .slice none 0 0, .slice none 0 0] v77.a v77.len v77.cap (some ⟨b82, 0, none⟩) 1 h34 [] fun v83 h35 =>
 SS S32 h35 (
 STN ⟨b4, 5, none⟩ [v83.v] 0 h35 [] fun h36 =>
 nx27 (IntKind.wrap .u64 (x6 - 1)) h36))))
 (k8 h30)) v66 h26)
 (COND (v13 == 8) (PUTN b4 [.int .u8 7] 0 h12 fun h37 =>
 NN p0 fun a89 =>
 LD (.pt) (a89.add 0) (EQ h37) fun v91 =>
 CALL P Z 92 [.pointer v91] [.one (.nt .u64)] h37 [b4] fun v92 h38 =>
 LOOP [.nt .u64] (fun x7 h40 nx39 =>
 JOIN [.bl] (fun k41 => COND (decide (x7 > 0)) (CALL P Z 170 [.pointer p0] [.one (.bl)] h40 [] fun v97 h43 =>
 k41 (!v97) h43)
 (k41 false h40))
 fun x99 h42 =>
 COND x99 (NN p0 fun a103 =>
 LD (.pt) (a103.add 0) (EQ h42) fun v105 =>
 CALL P Z 37 [.pointer v105] [.one (.tx)] h42 [] fun v106 h44 =>
 DRAW h44 [] fun S45 =>
 LD (.sl) ⟨b4, 6, none⟩ S45 fun v108 =>
 CALL P (fun _ _ => False) 134 [.pointer p0, .int .i64 (IntKind.wrap .i64 (p1 - 1))] [.agg [.nt .u8, .bl, .nt .i64, .tx, .sl, .sl, .sl]] h44 [] fun v113_0 v113_1 v113_2 v113_3 v113_4 v113_5 v113_6 h46 =>
 SS S45 h46 (
 ALLOC [.string v106, .int .u8 v113_0, .bool v113_1, .int .i64 v113_2, .string v113_3, v113_4.v, v113_5.v, v113_6.v] 132 h46 fun b115 h47 =>
 SS S45 h47 (
 APPEND 8 120 132 [.string ByteArray.empty, .int .u8 0, .bool false, .int .i64 0, .string ByteArray.empty, .slice none 0 0, .slice none 0 0, .slice none 0 0] v108.a v108.len v108.cap (some ⟨b115, 0, none⟩) 1 h47 [] fun v116 h48 =>
 SS S45 h48 (
 STN ⟨b4, 6, none⟩ [v116.v] 0 h48 [] fun h49 =>
 nx39 (IntKind.wrap .u64 (x7 - 1)) h49))))
 (k8 h42)) v92 h38)
 (NN p0 fun a120 =>
 STN (a120.add 1) [.bool true] 0 h12 [b4] fun h50 =>
 PUTN b4 [.int .u8 0, .bool false, .int .i64 0, .string ByteArray.empty, .slice none 0 0, .slice none 0 0, .slice none 0 0] 0 h50 fun h51 =>
 Q 0 false 0 ByteArray.empty ⟨none, 0, 0⟩ ⟨none, 0, 0⟩ ⟨none, 0, 0⟩ h51))))))))
 fun h9 =>
 LDN [.nt .u8, .bl, .nt .i64, .tx, .sl, .sl, .sl] ⟨b4, 0, none⟩ 0 (EQ h9) fun v118_0 v118_1 v118_2 v118_3 v118_4 v118_5 v118_6 =>
 STN ⟨b4, 0, none⟩ [.int .u8 v118_0, .bool v118_1, .int .i64 v118_2, .string v118_3, v118_4.v, v118_5.v, v118_6.v] 0 h9 [] fun h52 =>
 LDN [.nt .u8, .bl, .nt .i64, .tx, .sl, .sl, .sl] ⟨b4, 0, none⟩ 0 (EQ h52) fun r4_0 r4_1 r4_2 r4_3 r4_4 r4_5 r4_6 =>
 Q r4_0 r4_1 r4_2 r4_3 r4_4 r4_5 r4_6 h52)
def pl134 : Plan := ⟨[(8, ⟨[(24, .bl)], [0, 1, 4, 5, 20], [4]⟩)], [(24, ⟨[(7, .nt .u64)], [0, 1, 4], []⟩), (18, ⟨[(6, .nt .u64)], [0, 1, 4], []⟩)], [(0, ⟨[], [4], []⟩)], [(24, ⟨[(99, .bl)], [0, 1, 4, 7], []⟩), (18, ⟨[(73, .bl)], [0, 1, 4, 6], []⟩), (2, ⟨[(19, .bl)], [0, 1, 4, 5], [4]⟩)], [(27, false, [0, 1, 2, 3, 4, 5, 6, 7, 8, 9, 10, 11]), (20, false, [0, 1, 2, 3, 4, 5, 6, 7, 8, 9])], []⟩
theorem q134_eq (Z : List PanicEntry → Heap → Prop) (p0 : Option Addr) (p1 : Int) (h0 : Heap) (Q : Cur (flat [.agg [.nt .u8, .bl, .nt .i64, .tx, .sl, .sl, .sl]]) (Heap → Prop)) : q134 Z p0 p1 h0 Q = (WPF P Z Tryz.f134 pl134 [.one (.pt), .one (.nt .i64)] h0 Q) p0 p1 := by kernel_rfl

/- codicil/codicilref00.WholeField -/
def q135 (Z : List PanicEntry → Heap → Prop) (p0 : ByteArray) (p1 : Int) (p2 : Bool) (p3 : Int) (p4 : ByteArray) (p5 : Sl) (p6 : Sl) (p7 : Sl) (p8 : ByteArray) (p9 : Int) (p10 : Bool) (p11 : Int) (p12 : ByteArray) (p13 : Sl) (p14 : Sl) (p15 : Sl) (h0 : Heap) (Q : Cur (flat [.one (.bl)]) (Heap → Prop)) : Prop :=
 ALLOC [.string p0, .int .u8 p1, .bool p2, .int .i64 p3, .string p4, p5.v, p6.v, p7.v] 132 h0 fun b2 h1 =>
 ALLOC [.string p8, .int .u8 p9, .bool p10, .int .i64 p11, .string p12, p13.v, p14.v, p15.v] 132 h1 fun b3 h2 =>
 JOIN [.bl] (fun k3 => COND (p0.toList == p8.toList) (CALL P Z 43 [.agg #[.int .u8 p1, .bool p2, .int .i64 p3, .string p4, p5.v, p6.v, p7.v], .agg #[.int .u8 p9, .bool p10, .int .i64 p11, .string p12, p13.v, p14.v, p15.v]] [.one (.bl)] h2 [b2, b3] fun v15 h5 =>
 k3 v15 h5)
 (k3 false h2))
 fun x4 h4 =>
 Q x4 h4
def pl135 : Plan := ⟨[], [], [], [(1, ⟨[(4, .bl)], [], []⟩)], [], []⟩
theorem q135_eq (Z : List PanicEntry → Heap → Prop) (p0 : ByteArray) (p1 : Int) (p2 : Bool) (p3 : Int) (p4 : ByteArray) (p5 : Sl) (p6 : Sl) (p7 : Sl) (p8 : ByteArray) (p9 : Int) (p10 : Bool) (p11 : Int) (p12 : ByteArray) (p13 : Sl) (p14 : Sl) (p15 : Sl) (h0 : Heap) (Q : Cur (flat [.one (.bl)]) (Heap → Prop)) : q135 Z p0 p1 p2 p3 p4 p5 p6 p7 p8 p9 p10 p11 p12 p13 p14 p15 h0 Q = (WPF P Z Tryz.f135 pl135 [.agg [.tx, .nt .u8, .bl, .nt .i64, .tx, .sl, .sl, .sl], .agg [.tx, .nt .u8, .bl, .nt .i64, .tx, .sl, .sl, .sl]] h0 Q) p0 p1 p2 p3 p4 p5 p6 p7 p8 p9 p10 p11 p12 p13 p14 p15 := by kernel_rfl

/- codicil/codicilref00.SpoilField -/
def q136 (Z : List PanicEntry → Heap → Prop) (p0 : ByteArray) (p1 : Int) (p2 : Bool) (p3 : Int) (p4 : ByteArray) (p5 : Sl) (p6 : Sl) (p7 : Sl) (h0 : Heap) (Q : Cur (flat []) (Heap → Prop)) : Prop :=
 ALLOC [.string p0, .int .u8 p1, .bool p2, .int .i64 p3, .string p4, p5.v, p6.v, p7.v] 132 h0 fun b1 h1 =>
 CALL P Z 44 [.agg #[.int .u8 p1, .bool p2, .int .i64 p3, .string p4, p5.v, p6.v, p7.v]] [] h1 [b1] fun h2 =>
 Q h2
def pl136 : Plan := ⟨[], [], [], [], [], []⟩
theorem q136_eq (Z : List PanicEntry → Heap → Prop) (p0 : ByteArray) (p1 : Int) (p2 : Bool) (p3 : Int) (p4 : ByteArray) (p5 : Sl) (p6 : Sl) (p7 : Sl) (h0 : Heap) (Q : Cur (flat []) (Heap → Prop)) : q136 Z p0 p1 p2 p3 p4 p5 p6 p7 h0 Q = (WPF P Z Tryz.f136 pl136 [.agg [.tx, .nt .u8, .bl, .nt .i64, .tx, .sl, .sl, .sl]] h0 Q) p0 p1 p2 p3 p4 p5 p6 p7 := by kernel_rfl

/- codicil/codicilref04.keyed -/
def q137 (Z : List PanicEntry → Heap → Prop) (p0 : Int) (p1 : Bool) (p2 : Int) (p3 : ByteArray) (p4 : Sl) (p5 : Sl) (p6 : Sl) (h0 : Heap) (Q : Cur (flat [.one (.bl)]) (Heap → Prop)) : Prop :=
 ALLOC [.int .u8 p0, .bool p1, .int .i64 p2, .string p3, p4.v, p5.v, p6.v] 27 h0 fun b1 h1 =>
 COND (p0 == 7) (Q false h1)
 (LOOP [.nt .i64] (fun x3 h3 nx2 =>
 COND (decide (x3 < (p5.len : Int))) (IXA 7 p5.a p5.len x3 fun a17 =>
 LDN [.nt .u8, .bl, .nt .i64, .tx, .sl, .sl, .sl] a17 0 (EQ h3) fun v18_0 v18_1 v18_2 v18_3 v18_4 v18_5 v18_6 =>
 CALL P Z 137 [.agg #[.int .u8 v18_0, .bool v18_1, .int .i64 v18_2, .string v18_3, v18_4.v, v18_5.v, v18_6.v]] [.one (.bl)] h3 [b1] fun v19 h4 =>
 COND (!v19) (Q false h4)
 (nx2 (IntKind.wrap .i64 (x3 + 1)) h4))
 (Q true h3)) 0 h1)
def pl137 : Plan := ⟨[], [(4, ⟨[(3, .nt .i64)], [1], [1]⟩)], [], [], [], []⟩
theorem q137_eq (Z : List PanicEntry → Heap → Prop) (p0 : Int) (p1 : Bool) (p2 : Int) (p3 : ByteArray) (p4 : Sl) (p5 : Sl) (p6 : Sl) (h0 : Heap) (Q : Cur (flat [.one (.bl)]) (Heap → Prop)) : q137 Z p0 p1 p2 p3 p4 p5 p6 h0 Q = (WPF P Z Tryz.f137 pl137 [.agg [.nt .u8, .bl, .nt .i64, .tx, .sl, .sl, .sl]] h0 Q) p0 p1 p2 p3 p4 p5 p6 := by kernel_rfl

/- codicil/codicilref04.turned -/
def q138 (Z : List PanicEntry → Heap → Prop) (p0 : Sl) (p1 : Bool) (h0 : Heap) (Q : Cur (flat [.one (.sl)]) (Heap → Prop)) : Prop :=
 LOOP [.sl, .nt .i64] (fun x5 x6 h2 nx1 =>
 COND (decide (x6 < (p0.len : Int))) (IXA 1 p0.a p0.len x6 fun a16 =>
 LD (.nt .u8) a16 (EQ h2) fun v17 =>
 JOIN [.nt .u8] (fun k3 => COND p1 (k3 (IntKind.wrap .u8 (255 - v17)) h2)
 (k3 v17 h2))
 fun x7 h4 =>
 ALLOC [.int .u8 x7] 5 h4 fun b23 h5 =>
 APPEND 1 1 5 [.int .u8 0] x5.a x5.len x5.cap (some ⟨b23, 0, none⟩) 1 h5 [] fun v24 h6 =>
 nx1 v24 (IntKind.wrap .i64 (x6 + 1)) h6)
 (Q x5 h2)) ⟨none, 0, 0⟩ 0 h0
def pl138 : Plan := ⟨[(8, ⟨[(7, .nt .u8)], [0, 1, 5, 6], []⟩)], [(3, ⟨[(5, .sl), (6, .nt .i64)], [0, 1], []⟩)], [], [], [], []⟩
theorem q138_eq (Z : List PanicEntry → Heap → Prop) (p0 : Sl) (p1 : Bool) (h0 : Heap) (Q : Cur (flat [.one (.sl)]) (Heap → Prop)) : q138 Z p0 p1 h0 Q = (WPF P Z Tryz.f138 pl138 [.one (.sl), .one (.bl)] h0 Q) p0 p1 := by kernel_rfl

/- codicil/codicilref04.Bytes -/
def q139 (Z : List PanicEntry → Heap → Prop) (p0 : Int) (p1 : Bool) (p2 : Int) (p3 : ByteArray) (p4 : Sl) (p5 : Sl) (p6 : Sl) (h0 : Heap) (Q : Cur (flat [.one (.sl)]) (Heap → Prop)) : Prop :=
 ALLOC [.int .u8 p0, .bool p1, .int .i64 p2, .string p3, p4.v, p5.v, p6.v] 27 h0 fun b1 h1 =>
 COND (p0 == 1) (ALLOC [.int .u8 16] 5 h1 fun b13 h2 =>
 APPEND 1 1 5 [.int .u8 0] none 0 0 (some ⟨b13, 0, none⟩) 1 h2 [b1] fun v14 h3 =>
 Q v14 h3)
 (COND (p0 == 2) (COND p1 (ALLOC [.int .u8 33] 5 h1 fun b20 h4 =>
 APPEND 1 1 5 [.int .u8 0] none 0 0 (some ⟨b20, 0, none⟩) 1 h4 [b1] fun v21 h5 =>
 Q v21 h5)
 (ALLOC [.int .u8 32] 5 h1 fun b23 h6 =>
 APPEND 1 1 5 [.int .u8 0] none 0 0 (some ⟨b23, 0, none⟩) 1 h6 [b1] fun v24 h7 =>
 Q v24 h7))
 (COND (p0 == 3) (ALLOC [.int .u8 48] 5 h1 fun b28 h8 =>
 APPEND 1 1 5 [.int .u8 0] none 0 0 (some ⟨b28, 0, none⟩) 1 h8 [b1] fun v29 h9 =>
 LOOP [.sl, .nt .i64] (fun x3 x5 h11 nx10 =>
 COND (decide (x5 ≥ 0)) (SHI (IntKind.wrap .u64 ((IntKind.wrap .i64 (8 * x5)))) (ALLOC [.int .u8 (IntKind.wrap .u8 ((iand .u64 (ishr .u64 (IntKind.wrap .u64 ((IntKind.wrap .u64 (p2)) + 9223372036854775808)) (IntKind.wrap .u64 ((IntKind.wrap .i64 (8 * x5))))) 255)))] 5 h11 fun b46 h12 =>
 APPEND 1 1 5 [.int .u8 0] x3.a x3.len x3.cap (some ⟨b46, 0, none⟩) 1 h12 [] fun v47 h13 =>
 nx10 v47 (IntKind.wrap .i64 (x5 - 1)) h13))
 (Q x3 h11)) v29 7 h9)
 (COND (p0 == 4) (ALLOC [.int .u8 64] 5 h1 fun b52 h14 =>
 APPEND 1 1 5 [.int .u8 0] none 0 0 (some ⟨b52, 0, none⟩) 1 h14 [b1] fun v53 h15 =>
 CALL P Z 172 [v53.v, .string p3] [.one (.sl)] h15 [b1] fun v57 h16 =>
 Q v57 h16)
 (COND (p0 == 5) (ALLOC [.int .u8 80] 5 h1 fun b61 h17 =>
 APPEND 1 1 5 [.int .u8 0] none 0 0 (some ⟨b61, 0, none⟩) 1 h17 [b1] fun v62 h18 =>
 BTS p4.a p4.len (EQ h18) fun v66 =>
 CALL P Z 172 [v62.v, .string v66] [.one (.sl)] h18 [b1] fun v67 h19 =>
 Q v67 h19)
 (ALLOC [.int .u8 96] 5 h1 fun b69 h20 =>
 APPEND 1 1 5 [.int .u8 0] none 0 0 (some ⟨b69, 0, none⟩) 1 h20 [b1] fun v70 h21 =>
 LOOP [.sl, .nt .i64] (fun x3 x6 h23 nx22 =>
 COND (decide (x6 < (p5.len : Int))) (IXA 7 p5.a p5.len x6 fun a81 =>
 LDN [.nt .u8, .bl, .nt .i64, .tx, .sl, .sl, .sl] a81 0 (EQ h23) fun v82_0 v82_1 v82_2 v82_3 v82_4 v82_5 v82_6 =>
 CALL P Z 139 [.agg #[.int .u8 v82_0, .bool v82_1, .int .i64 v82_2, .string v82_3, v82_4.v, v82_5.v, v82_6.v]] [.one (.sl)] h23 [b1] fun v83 h24 =>
 APPEND 1 1 5 [.int .u8 0] x3.a x3.len x3.cap v83.a v83.len h24 [b1] fun v86 h25 =>
 nx22 v86 (IntKind.wrap .i64 (x6 + 1)) h25)
 (ALLOC [.int .u8 1] 5 h23 fun b88 h26 =>
 APPEND 1 1 5 [.int .u8 0] x3.a x3.len x3.cap (some ⟨b88, 0, none⟩) 1 h26 [b1] fun v89 h27 =>
 Q v89 h27)) v70 0 h21)))))
def pl139 : Plan := ⟨[], [(25, ⟨[(3, .sl), (6, .nt .i64)], [1], [1]⟩), (13, ⟨[(3, .sl), (5, .nt .i64)], [4], []⟩)], [], [], [], []⟩
theorem q139_eq (Z : List PanicEntry → Heap → Prop) (p0 : Int) (p1 : Bool) (p2 : Int) (p3 : ByteArray) (p4 : Sl) (p5 : Sl) (p6 : Sl) (h0 : Heap) (Q : Cur (flat [.one (.sl)]) (Heap → Prop)) : q139 Z p0 p1 p2 p3 p4 p5 p6 h0 Q = (WPF P Z Tryz.f139 pl139 [.agg [.nt .u8, .bl, .nt .i64, .tx, .sl, .sl, .sl]] h0 Q) p0 p1 p2 p3 p4 p5 p6 := by kernel_rfl

/- codicil/codicilref03.deep -/
def q140 (Z : List PanicEntry → Heap → Prop) (p0 : Int) (p1 : Bool) (p2 : Int) (p3 : ByteArray) (p4 : Sl) (p5 : Sl) (p6 : Sl) (p7 : Int) (h0 : Heap) (Q : Cur (flat [.one (.bl)]) (Heap → Prop)) : Prop :=
 ALLOC [.int .u8 p0, .bool p1, .int .i64 p2, .string p3, p4.v, p5.v, p6.v] 27 h0 fun b2 h1 =>
 COND (p7 == 0) (Q true h1)
 (CALL P Z 173 [.agg #[.int .u8 p0, .bool p1, .int .i64 p2, .string p3, p4.v, p5.v, p6.v]] [.one (.sl)] h1 [b2] fun v10 h2 =>
 LOOP [.nt .i64] (fun x6 h4 nx3 =>
 COND (decide (x6 < (v10.len : Int))) (IXA 7 v10.a v10.len x6 fun a19 =>
 LDN [.nt .u8, .bl, .nt .i64, .tx, .sl, .sl, .sl] a19 0 (EQ h4) fun v20_0 v20_1 v20_2 v20_3 v20_4 v20_5 v20_6 =>
 CALL P Z 140 [.agg #[.int .u8 v20_0, .bool v20_1, .int .i64 v20_2, .string v20_3, v20_4.v, v20_5.v, v20_6.v], .int .i64 (IntKind.wrap .i64 (p7 - 1))] [.one (.bl)] h4 [] fun v23 h5 =>
 COND v23 (Q true h5)
 (nx3 (IntKind.wrap .i64 (x6 + 1)) h5))
 (Q false h4)) 0 h2)
def pl140 : Plan := ⟨[], [(5, ⟨[(6, .nt .i64)], [1, 5], []⟩)], [], [], [], []⟩
theorem q140_eq (Z : List PanicEntry → Heap → Prop) (p0 : Int) (p1 : Bool) (p2 : Int) (p3 : ByteArray) (p4 : Sl) (p5 : Sl) (p6 : Sl) (p7 : Int) (h0 : Heap) (Q : Cur (flat [.one (.bl)]) (Heap → Prop)) : q140 Z p0 p1 p2 p3 p4 p5 p6 p7 h0 Q = (WPF P Z Tryz.f140 pl140 [.agg [.nt .u8, .bl, .nt .i64, .tx, .sl, .sl, .sl], .one (.nt .i64)] h0 Q) p0 p1 p2 p3 p4 p5 p6 p7 := by kernel_rfl

/- codicil/codicilref03.parts -/
def q141 (Z : List PanicEntry → Heap → Prop) (p0 : Int) (p1 : Bool) (p2 : Int) (p3 : ByteArray) (p4 : Sl) (p5 : Sl) (p6 : Sl) (p7 : Int) (h0 : Heap) (Q : Cur (flat [.one (.nt .i64)]) (Heap → Prop)) : Prop :=
 ALLOC [.int .u8 p0, .bool p1, .int .i64 p2, .string p3, p4.v, p5.v, p6.v] 27 h0 fun b2 h1 =>
 CALL P Z 173 [.agg #[.int .u8 p0, .bool p1, .int .i64 p2, .string p3, p4.v, p5.v, p6.v]] [.one (.sl)] h1 [b2] fun v10 h2 =>
 LOOP [.nt .i64, .nt .i64] (fun x1 x6 h4 nx3 =>
 JOIN [.bl] (fun k5 => COND (decide (x6 < (v10.len : Int))) (k5 (decide (x1 ≤ 512)) h4)
 (k5 false h4))
 fun x18 h6 =>
 COND x18 (IXA 7 v10.a v10.len x6 fun a23 =>
 LDN [.nt .u8, .bl, .nt .i64, .tx, .sl, .sl, .sl] a23 0 (EQ h6) fun v24_0 v24_1 v24_2 v24_3 v24_4 v24_5 v24_6 =>
 CALL P Z 141 [.agg #[.int .u8 v24_0, .bool v24_1, .int .i64 v24_2, .string v24_3, v24_4.v, v24_5.v, v24_6.v], .int .i64 x1] [.one (.nt .i64)] h6 [] fun v26 h7 =>
 nx3 v26 (IntKind.wrap .i64 (x6 + 1)) h7)
 (Q x1 h6)) (IntKind.wrap .i64 (p7 + 1)) 0 h2
def pl141 : Plan := ⟨[], [(4, ⟨[(1, .nt .i64), (6, .nt .i64)], [5], []⟩)], [], [(4, ⟨[(18, .bl)], [1, 5, 6], []⟩)], [], []⟩
theorem q141_eq (Z : List PanicEntry → Heap → Prop) (p0 : Int) (p1 : Bool) (p2 : Int) (p3 : ByteArray) (p4 : Sl) (p5 : Sl) (p6 : Sl) (p7 : Int) (h0 : Heap) (Q : Cur (flat [.one (.nt .i64)]) (Heap → Prop)) : q141 Z p0 p1 p2 p3 p4 p5 p6 p7 h0 Q = (WPF P Z Tryz.f141 pl141 [.agg [.nt .u8, .bl, .nt .i64, .tx, .sl, .sl, .sl], .one (.nt .i64)] h0 Q) p0 p1 p2 p3 p4 p5 p6 p7 := by kernel_rfl

/- codicil/codicilref03.all -/
def q142 (Z : List PanicEntry → Heap → Prop) (p0 : Int) (p1 : Bool) (p2 : Int) (p3 : ByteArray) (p4 : Sl) (p5 : Sl) (p6 : Sl) (h0 : Heap) (Q : Cur (flat [.one (.nt .i64)]) (Heap → Prop)) : Prop :=
 ALLOC [.int .u8 p0, .bool p1, .int .i64 p2, .string p3, p4.v, p5.v, p6.v] 27 h0 fun b1 h1 =>
 CALL P Z 174 [.agg #[.int .u8 p0, .bool p1, .int .i64 p2, .string p3, p4.v, p5.v, p6.v]] [.one (.nt .i64)] h1 [b1] fun v7 h2 =>
 CALL P Z 173 [.agg #[.int .u8 p0, .bool p1, .int .i64 p2, .string p3, p4.v, p5.v, p6.v]] [.one (.sl)] h2 [b1] fun v9 h3 =>
 LOOP [.nt .i64, .nt .i64] (fun x3 x5 h5 nx4 =>
 JOIN [.bl] (fun k6 => COND (decide (x5 < (v9.len : Int))) (k6 (x3 == 0) h5)
 (k6 false h5))
 fun x17 h7 =>
 COND x17 (IXA 7 v9.a v9.len x5 fun a22 =>
 LDN [.nt .u8, .bl, .nt .i64, .tx, .sl, .sl, .sl] a22 0 (EQ h7) fun v23_0 v23_1 v23_2 v23_3 v23_4 v23_5 v23_6 =>
 CALL P Z 142 [.agg #[.int .u8 v23_0, .bool v23_1, .int .i64 v23_2, .string v23_3, v23_4.v, v23_5.v, v23_6.v]] [.one (.nt .i64)] h7 [] fun v24 h8 =>
 nx4 v24 (IntKind.wrap .i64 (x5 + 1)) h8)
 (Q x3 h7)) v7 0 h3
def pl142 : Plan := ⟨[], [(4, ⟨[(3, .nt .i64), (5, .nt .i64)], [4], []⟩)], [], [(4, ⟨[(17, .bl)], [3, 4, 5], []⟩)], [], []⟩
theorem q142_eq (Z : List PanicEntry → Heap → Prop) (p0 : Int) (p1 : Bool) (p2 : Int) (p3 : ByteArray) (p4 : Sl) (p5 : Sl) (p6 : Sl) (h0 : Heap) (Q : Cur (flat [.one (.nt .i64)]) (Heap → Prop)) : q142 Z p0 p1 p2 p3 p4 p5 p6 h0 Q = (WPF P Z Tryz.f142 pl142 [.agg [.nt .u8, .bl, .nt .i64, .tx, .sl, .sl, .sl]] h0 Q) p0 p1 p2 p3 p4 p5 p6 := by kernel_rfl

/- codicil/codicilref02.varint -/
def q143 (Z : List PanicEntry → Heap → Prop) (p0 : Sl) (h0 : Heap) (Q : Cur (flat [.one (.nt .u64), .one (.nt .i64), .one (.nt .i64)]) (Heap → Prop)) : Prop :=
 LOOP [.nt .u64, .nt .i64] (fun x5 x6 h2 nx1 =>
 COND (decide (x6 < 10)) (COND (decide (x6 ≥ (p0.len : Int))) (Q 0 0 20 h2)
 (IXA 1 p0.a p0.len x6 fun a18 =>
 LD (.nt .u8) a18 (EQ h2) fun v19 =>
 JOIN [.bl] (fun k3 => COND (x6 == 9) (COND (v19 != 1) (k3 true h2)
 (COND (decide (x6 > 0)) (k3 (v19 == 0) h2)
 (k3 false h2)))
 (COND (decide (x6 > 0)) (k3 (v19 == 0) h2)
 (k3 false h2)))
 fun x33 h4 =>
 COND x33 (Q 0 0 21 h4)
 (SHI (IntKind.wrap .u64 ((IntKind.wrap .i64 (7 * x6)))) (COND (decide (v19 < 128)) (Q (ior .u64 x5 (ishl .u64 (IntKind.wrap .u64 ((iand .u8 v19 127))) (IntKind.wrap .u64 ((IntKind.wrap .i64 (7 * x6)))))) (IntKind.wrap .i64 (x6 + 1)) 0 h4)
 (nx1 (ior .u64 x5 (ishl .u64 (IntKind.wrap .u64 ((iand .u8 v19 127))) (IntKind.wrap .u64 ((IntKind.wrap .i64 (7 * x6)))))) (IntKind.wrap .i64 (x6 + 1)) h4)))))
 (Q 0 0 21 h2)) 0 0 h0
def pl143 : Plan := ⟨[], [(3, ⟨[(5, .nt .u64), (6, .nt .i64)], [0], []⟩)], [], [(8, ⟨[(33, .bl)], [0, 5, 6, 7], []⟩)], [], []⟩
theorem q143_eq (Z : List PanicEntry → Heap → Prop) (p0 : Sl) (h0 : Heap) (Q : Cur (flat [.one (.nt .u64), .one (.nt .i64), .one (.nt .i64)]) (Heap → Prop)) : q143 Z p0 h0 Q = (WPF P Z Tryz.f143 pl143 [.one (.sl)] h0 Q) p0 := by kernel_rfl

/- (*codicil/codicilref02.Reader).Signed -/
def q144 (Z : List PanicEntry → Heap → Prop) (p0 : Option Addr) (h0 : Heap) (Q : Cur (flat [.one (.nt .i64)]) (Heap → Prop)) : Prop :=
 CALL P Z 107 [.pointer p0] [.one (.nt .u64)] h0 [] fun v4 h1 =>
 CALL P Z 175 [.int .u64 v4] [.one (.nt .i64)] h1 [] fun v5 h2 =>
 Q v5 h2
def pl144 : Plan := ⟨[], [], [], [], [], []⟩
theorem q144_eq (Z : List PanicEntry → Heap → Prop) (p0 : Option Addr) (h0 : Heap) (Q : Cur (flat [.one (.nt .i64)]) (Heap → Prop)) : q144 Z p0 h0 Q = (WPF P Z Tryz.f144 pl144 [.one (.pt)] h0 Q) p0 := by kernel_rfl

/- (*codicil/codicilref00.Book).Field -/
def q145 (Z : List PanicEntry → Heap → Prop) (p0 : Option Addr) (p1 : ByteArray) (p2 : Int) (p3 : Bool) (p4 : Int) (p5 : ByteArray) (p6 : Sl) (p7 : Sl) (p8 : Sl) (h0 : Heap) (Q : Cur (flat []) (Heap → Prop)) : Prop :=
 ALLOC [.string p1, .int .u8 p2, .bool p3, .int .i64 p4, .string p5, p6.v, p7.v, p8.v] 132 h0 fun b3 h1 =>
 CALL P Z 52 [.pointer p0, .agg #[.int .u8 p2, .bool p3, .int .i64 p4, .string p5, p6.v, p7.v, p8.v]] [] h1 [b3] fun h2 =>
 Q h2
def pl145 : Plan := ⟨[], [], [], [], [], []⟩
theorem q145_eq (Z : List PanicEntry → Heap → Prop) (p0 : Option Addr) (p1 : ByteArray) (p2 : Int) (p3 : Bool) (p4 : Int) (p5 : ByteArray) (p6 : Sl) (p7 : Sl) (p8 : Sl) (h0 : Heap) (Q : Cur (flat []) (Heap → Prop)) : q145 Z p0 p1 p2 p3 p4 p5 p6 p7 p8 h0 Q = (WPF P Z Tryz.f145 pl145 [.one (.pt), .agg [.tx, .nt .u8, .bl, .nt .i64, .tx, .sl, .sl, .sl]] h0 Q) p0 p1 p2 p3 p4 p5 p6 p7 p8 := by kernel_rfl

/- codicil/codicilref00.SameField -/
def q146 (Z : List PanicEntry → Heap → Prop) (p0 : ByteArray) (p1 : Int) (p2 : Bool) (p3 : Int) (p4 : ByteArray) (p5 : Sl) (p6 : Sl) (p7 : Sl) (p8 : ByteArray) (p9 : Int) (p10 : Bool) (p11 : Int) (p12 : ByteArray) (p13 : Sl) (p14 : Sl) (p15 : Sl) (h0 : Heap) (Q : Cur (flat [.one (.bl)]) (Heap → Prop)) : Prop :=
 ALLOC [.string p0, .int .u8 p1, .bool p2, .int .i64 p3, .string p4, p5.v, p6.v, p7.v] 132 h0 fun b2 h1 =>
 ALLOC [.string p8, .int .u8 p9, .bool p10, .int .i64 p11, .string p12, p13.v, p14.v, p15.v] 132 h1 fun b3 h2 =>
 JOIN [.bl] (fun k3 => COND (p0.toList == p8.toList) (CALL P Z 53 [.agg #[.int .u8 p1, .bool p2, .int .i64 p3, .string p4, p5.v, p6.v, p7.v], .agg #[.int .u8 p9, .bool p10, .int .i64 p11, .string p12, p13.v, p14.v, p15.v]] [.one (.bl)] h2 [b2, b3] fun v15 h5 =>
 k3 v15 h5)
 (k3 false h2))
 fun x4 h4 =>
 Q x4 h4
def pl146 : Plan := ⟨[], [], [], [(1, ⟨[(4, .bl)], [], []⟩)], [], []⟩
theorem q146_eq (Z : List PanicEntry → Heap → Prop) (p0 : ByteArray) (p1 : Int) (p2 : Bool) (p3 : Int) (p4 : ByteArray) (p5 : Sl) (p6 : Sl) (p7 : Sl) (p8 : ByteArray) (p9 : Int) (p10 : Bool) (p11 : Int) (p12 : ByteArray) (p13 : Sl) (p14 : Sl) (p15 : Sl) (h0 : Heap) (Q : Cur (flat [.one (.bl)]) (Heap → Prop)) : q146 Z p0 p1 p2 p3 p4 p5 p6 p7 p8 p9 p10 p11 p12 p13 p14 p15 h0 Q = (WPF P Z Tryz.f146 pl146 [.agg [.tx, .nt .u8, .bl, .nt .i64, .tx, .sl, .sl, .sl], .agg [.tx, .nt .u8, .bl, .nt .i64, .tx, .sl, .sl, .sl]] h0 Q) p0 p1 p2 p3 p4 p5 p6 p7 p8 p9 p10 p11 p12 p13 p14 p15 := by kernel_rfl

/- codicil/value.All -/
def q147 (Z : List PanicEntry → Heap → Prop) (p0 : Int) (p1 : Bool) (p2 : Int) (p3 : ByteArray) (p4 : Sl) (p5 : Sl) (p6 : Sl) (h0 : Heap) (Q : Cur (flat [.one (.oq)]) (Heap → Prop)) : Prop :=
 ALLOC [.int .u8 p0, .bool p1, .int .i64 p2, .string p3, p4.v, p5.v, p6.v] 27 h0 fun b1 h1 =>
 CALL P Z 128 [.agg #[.int .u8 p0, .bool p1, .int .i64 p2, .string p3, p4.v, p5.v, p6.v]] [.agg [.nt .u8, .bl, .nt .i64, .tx, .sl, .sl, .sl]] h1 [b1] fun v4_0 v4_1 v4_2 v4_3 v4_4 v4_5 v4_6 h2 =>
 PUTN b1 [.int .u8 v4_0, .bool v4_1, .int .i64 v4_2, .string v4_3, v4_4.v, v4_5.v, v4_6.v] 0 h2 fun h3 =>
 Q (.func (.func 176) #[] #[.pointer (some ⟨b1, 0, none⟩)]) h3
def pl147 : Plan := ⟨[], [], [], [], [], []⟩
theorem q147_eq (Z : List PanicEntry → Heap → Prop) (p0 : Int) (p1 : Bool) (p2 : Int) (p3 : ByteArray) (p4 : Sl) (p5 : Sl) (p6 : Sl) (h0 : Heap) (Q : Cur (flat [.one (.oq)]) (Heap → Prop)) : q147 Z p0 p1 p2 p3 p4 p5 p6 h0 Q = (WPF P Z Tryz.f147 pl147 [.agg [.nt .u8, .bl, .nt .i64, .tx, .sl, .sl, .sl]] h0 Q) p0 p1 p2 p3 p4 p5 p6 := by kernel_rfl

/- codicil/catalog.isName -/
def q148 (Z : List PanicEntry → Heap → Prop) (p0 : ByteArray) (h0 : Heap) (Q : Cur (flat [.one (.bl)]) (Heap → Prop)) : Prop :=
 ITER p0 h0 fun b7 h1 =>
 LOOP [] (fun h3 nx2 =>
 NEXTS b7 h3 (fun h4 => JOIN [.bl] (fun k5 => COND (!(p0.toList == ByteArray.empty.toList)) (k5 (decide ((p0.size : Int) ≤ 32)) h4)
 (k5 false h4))
 fun x2 h6 =>
 Q x2 h6)
 fun v8_p v8_c h4 =>
 JOIN [.bl] (fun k7 => COND (decide (97 ≤ v8_c)) (k7 (decide (v8_c ≤ 122)) h4)
 (k7 false h4))
 fun x5 h8 =>
 JOIN [.bl] (fun k9 => COND (!x5) (COND (v8_p == 0) (k9 true h8)
 (COND (v8_c != 95) (COND (v8_c != 45) (COND (decide (v8_c < 48)) (k9 true h8)
 (k9 (decide (v8_c > 57)) h8))
 (k9 false h8))
 (k9 false h8)))
 (k9 false h8))
 fun x39 h10 =>
 COND x39 (Q false h10)
 (nx2 h10)) h1
def pl148 : Plan := ⟨[], [(2, ⟨[], [0, 7], []⟩)], [], [(5, ⟨[(39, .bl)], [0, 7], []⟩), (4, ⟨[(5, .bl)], [0, 3, 4, 7], []⟩), (7, ⟨[(2, .bl)], [], []⟩)], [], []⟩
theorem q148_eq (Z : List PanicEntry → Heap → Prop) (p0 : ByteArray) (h0 : Heap) (Q : Cur (flat [.one (.bl)]) (Heap → Prop)) : q148 Z p0 h0 Q = (WPF P Z Tryz.f148 pl148 [.one (.tx)] h0 Q) p0 := by kernel_rfl

/- codicil/catalog.isPath -/
def q149 (Z : List PanicEntry → Heap → Prop) (p0 : ByteArray) (h0 : Heap) (Q : Cur (flat [.one (.bl)]) (Heap → Prop)) : Prop :=
 CALL P Z 177 [.string p0] [.one (.sl), .one (.nt .u16), .one (.nt .i64)] h0 [] fun v8_0 v8_1 v8_2 h1 =>
 Q (v8_1 == 0) h1
def pl149 : Plan := ⟨[], [], [], [], [], []⟩
theorem q149_eq (Z : List PanicEntry → Heap → Prop) (p0 : ByteArray) (h0 : Heap) (Q : Cur (flat [.one (.bl)]) (Heap → Prop)) : q149 Z p0 h0 Q = (WPF P Z Tryz.f149 pl149 [.one (.tx)] h0 Q) p0 := by kernel_rfl

/- codicil/catalog.lookIndex -/
def q150 (Z : List PanicEntry → Heap → Prop) (p0 : ByteArray) (p1 : Int) (p2 : Sl) (p3 : Bool) (p4 : Int) (p5 : Sl) (p6 : ByteArray) (h0 : Heap) (Q : Cur (flat [.one (.nt .u16)]) (Heap → Prop)) : Prop :=
 ALLOC [.string p0, .int .u32 p1, p2.v, .bool p3, .int .u8 p4, p5.v] 195 h0 fun b2 h1 =>
 JOIN [.bl] (fun k2 => CALL P Z 148 [.string p0] [.one (.bl)] h1 [b2] fun v8 h4 =>
 COND (!v8) (k2 true h4)
 (k2 (Op.bytesLess p0.toList p6.toList || p0.toList == p6.toList) h4))
 fun x5 h3 =>
 COND x5 (Q 190 h3)
 (JOIN [.bl] (fun k5 => COND (p1 == 0) (k5 true h3)
 (COND ((p2.len : Int) == 0) (k5 true h3)
 (COND (decide ((p2.len : Int) > 3)) (k5 true h3)
 (k5 (decide ((p5.len : Int) > 60)) h3))))
 fun x16 h6 =>
 COND x16 (Q 194 h6)
 (CALL P Z 178 [p2.v, .func (.func 179) #[] #[]] [.one (.bl)] h6 [b2] fun v41 h7 =>
 COND v41 (Q 194 h7)
 (JOIN [.bl] (fun k8 => JOIN [.bl] (fun k10 => COND (p4 == 2) (k10 ((p5.len : Int) == 0) h7)
 (k10 false h7))
 fun x42 h11 =>
 COND x42 (k8 x42 h11)
 (k8 (p4 == 1) h11))
 fun x42 h9 =>
 COND x42 (Q 0 h9)
 (Q 194 h9))))
def pl150 : Plan := ⟨[(9, ⟨[(42, .bl)], [], []⟩)], [], [], [(7, ⟨[(42, .bl)], [2], [2]⟩), (3, ⟨[(16, .bl)], [2], [2]⟩), (1, ⟨[(5, .bl)], [2], [2]⟩)], [], []⟩
theorem q150_eq (Z : List PanicEntry → Heap → Prop) (p0 : ByteArray) (p1 : Int) (p2 : Sl) (p3 : Bool) (p4 : Int) (p5 : Sl) (p6 : ByteArray) (h0 : Heap) (Q : Cur (flat [.one (.nt .u16)]) (Heap → Prop)) : q150 Z p0 p1 p2 p3 p4 p5 p6 h0 Q = (WPF P Z Tryz.f150 pl150 [.agg [.tx, .nt .u32, .sl, .bl, .nt .u8, .sl], .one (.tx)] h0 Q) p0 p1 p2 p3 p4 p5 p6 := by kernel_rfl

/- slices.Clip[[]codicil/api.Value,codicil/api.Value] -/
def q151 (Z : List PanicEntry → Heap → Prop) (p0 : Sl) (h0 : Heap) (Q : Cur (flat [.one (.sl)]) (Heap → Prop)) : Prop :=
 SLI 7 p0.a p0.len p0.cap none (some (p0.len : Int)) (some (p0.len : Int)) fun v8 =>
 Q v8 h0
def pl151 : Plan := ⟨[], [], [], [], [], []⟩
theorem q151_eq (Z : List PanicEntry → Heap → Prop) (p0 : Sl) (h0 : Heap) (Q : Cur (flat [.one (.sl)]) (Heap → Prop)) : q151 Z p0 h0 Q = (WPF P Z Tryz.f151 pl151 [.one (.sl)] h0 Q) p0 := by kernel_rfl

/- slices.Clone[[]codicil/api.Value,codicil/api.Value] -/
def q152 (Z : List PanicEntry → Heap → Prop) (p0 : Sl) (h0 : Heap) (Q : Cur (flat [.one (.sl)]) (Heap → Prop)) : Prop :=
 COND (p0.a.isNone) (Q ⟨none, 0, 0⟩ h0)
 (ALLOC [] 27 h0 fun b5 h1 =>
 APPEND 7 104 27 [.int .u8 0, .bool false, .int .i64 0, .string ByteArray.empty, .slice none 0 0, .slice none 0 0, .slice none 0 0] (some ⟨b5, 0, none⟩) 0 0 p0.a p0.len h1 [] fun v7 h2 =>
 Q v7 h2)
def pl152 : Plan := ⟨[], [], [], [], [], []⟩
theorem q152_eq (Z : List PanicEntry → Heap → Prop) (p0 : Sl) (h0 : Heap) (Q : Cur (flat [.one (.sl)]) (Heap → Prop)) : q152 Z p0 h0 Q = (WPF P Z Tryz.f152 pl152 [.one (.sl)] h0 Q) p0 := by kernel_rfl

/- slices.Clip[[]codicil/api.Field,codicil/api.Field] -/
def q153 (Z : List PanicEntry → Heap → Prop) (p0 : Sl) (h0 : Heap) (Q : Cur (flat [.one (.sl)]) (Heap → Prop)) : Prop :=
 SLI 8 p0.a p0.len p0.cap none (some (p0.len : Int)) (some (p0.len : Int)) fun v8 =>
 Q v8 h0
def pl153 : Plan := ⟨[], [], [], [], [], []⟩
theorem q153_eq (Z : List PanicEntry → Heap → Prop) (p0 : Sl) (h0 : Heap) (Q : Cur (flat [.one (.sl)]) (Heap → Prop)) : q153 Z p0 h0 Q = (WPF P Z Tryz.f153 pl153 [.one (.sl)] h0 Q) p0 := by kernel_rfl

/- slices.Clone[[]codicil/api.Field,codicil/api.Field] -/
def q154 (Z : List PanicEntry → Heap → Prop) (p0 : Sl) (h0 : Heap) (Q : Cur (flat [.one (.sl)]) (Heap → Prop)) : Prop :=
 COND (p0.a.isNone) (Q ⟨none, 0, 0⟩ h0)
 (ALLOC [] 132 h0 fun b5 h1 =>
 APPEND 8 120 132 [.string ByteArray.empty, .int .u8 0, .bool false, .int .i64 0, .string ByteArray.empty, .slice none 0 0, .slice none 0 0, .slice none 0 0] (some ⟨b5, 0, none⟩) 0 0 p0.a p0.len h1 [] fun v7 h2 =>
 Q v7 h2)
def pl154 : Plan := ⟨[], [], [], [], [], []⟩
theorem q154_eq (Z : List PanicEntry → Heap → Prop) (p0 : Sl) (h0 : Heap) (Q : Cur (flat [.one (.sl)]) (Heap → Prop)) : q154 Z p0 h0 Q = (WPF P Z Tryz.f154 pl154 [.one (.sl)] h0 Q) p0 := by kernel_rfl

/- slices.ContainsFunc[[]codicil/api.Value,codicil/api.Value] -/
def q155 (Z : List PanicEntry → Heap → Prop) (p0 : Sl) (p1 : Value) (h0 : Heap) (Q : Cur (flat [.one (.bl)]) (Heap → Prop)) : Prop :=
 CALL P Z 180 [p0.v, p1] [.one (.nt .i64)] h0 [] fun v7 h1 =>
 Q (decide (v7 ≥ 0)) h1
def pl155 : Plan := ⟨[], [], [], [], [], []⟩
theorem q155_eq (Z : List PanicEntry → Heap → Prop) (p0 : Sl) (p1 : Value) (h0 : Heap) (Q : Cur (flat [.one (.bl)]) (Heap → Prop)) : q155 Z p0 p1 h0 Q = (WPF P Z Tryz.f155 pl155 [.one (.sl), .one (.oq)] h0 Q) p0 p1 := by kernel_rfl

/- codicil/value.deep$1 -/
def q156 (Z : List PanicEntry → Heap → Prop) (p0 : Int) (p1 : Bool) (p2 : Int) (p3 : ByteArray) (p4 : Sl) (p5 : Sl) (p6 : Sl) (p7 : Addr) (h0 : Heap) (Q : Cur (flat [.one (.bl)]) (Heap → Prop)) : Prop :=
 ALLOC [.int .u8 p0, .bool p1, .int .i64 p2, .string p3, p4.v, p5.v, p6.v] 27 h0 fun b2 h1 =>
 LD (.nt .i64) p7 (EQ h1) fun v5 =>
 CALL P Z 129 [.agg #[.int .u8 p0, .bool p1, .int .i64 p2, .string p3, p4.v, p5.v, p6.v], .int .i64 (IntKind.wrap .i64 (v5 - 1))] [.one (.bl)] h1 [b2] fun v7 h2 =>
 Q v7 h2
def pl156 : Plan := ⟨[], [], [], [], [], []⟩
theorem q156_eq (Z : List PanicEntry → Heap → Prop) (p0 : Int) (p1 : Bool) (p2 : Int) (p3 : ByteArray) (p4 : Sl) (p5 : Sl) (p6 : Sl) (p7 : Addr) (h0 : Heap) (Q : Cur (flat [.one (.bl)]) (Heap → Prop)) : q156 Z p0 p1 p2 p3 p4 p5 p6 p7 h0 Q = (WPF P Z Tryz.f156 pl156 [.agg [.nt .u8, .bl, .nt .i64, .tx, .sl, .sl, .sl], .one (.ad)] h0 Q) p0 p1 p2 p3 p4 p5 p6 p7 := by kernel_rfl

/- slices.ContainsFunc[[]codicil/api.Field,codicil/api.Field] -/
def q157 (Z : List PanicEntry → Heap → Prop) (p0 : Sl) (p1 : Value) (h0 : Heap) (Q : Cur (flat [.one (.bl)]) (Heap → Prop)) : Prop :=
 CALL P Z 181 [p0.v, p1] [.one (.nt .i64)] h0 [] fun v7 h1 =>
 Q (decide (v7 ≥ 0)) h1
def pl157 : Plan := ⟨[], [], [], [], [], []⟩
theorem q157_eq (Z : List PanicEntry → Heap → Prop) (p0 : Sl) (p1 : Value) (h0 : Heap) (Q : Cur (flat [.one (.bl)]) (Heap → Prop)) : q157 Z p0 p1 h0 Q = (WPF P Z Tryz.f157 pl157 [.one (.sl), .one (.oq)] h0 Q) p0 p1 := by kernel_rfl

/- codicil/value.deep$2 -/
def q158 (Z : List PanicEntry → Heap → Prop) (p0 : ByteArray) (p1 : Int) (p2 : Bool) (p3 : Int) (p4 : ByteArray) (p5 : Sl) (p6 : Sl) (p7 : Sl) (p8 : Addr) (h0 : Heap) (Q : Cur (flat [.one (.bl)]) (Heap → Prop)) : Prop :=
 ALLOC [.string p0, .int .u8 p1, .bool p2, .int .i64 p3, .string p4, p5.v, p6.v, p7.v] 132 h0 fun b2 h1 =>
 LD (.nt .i64) p8 (EQ h1) fun v6 =>
 CALL P Z 129 [.agg #[.int .u8 p1, .bool p2, .int .i64 p3, .string p4, p5.v, p6.v, p7.v], .int .i64 (IntKind.wrap .i64 (v6 - 1))] [.one (.bl)] h1 [b2] fun v8 h2 =>
 Q v8 h2
def pl158 : Plan := ⟨[], [], [], [], [], []⟩
theorem q158_eq (Z : List PanicEntry → Heap → Prop) (p0 : ByteArray) (p1 : Int) (p2 : Bool) (p3 : Int) (p4 : ByteArray) (p5 : Sl) (p6 : Sl) (p7 : Sl) (p8 : Addr) (h0 : Heap) (Q : Cur (flat [.one (.bl)]) (Heap → Prop)) : q158 Z p0 p1 p2 p3 p4 p5 p6 p7 p8 h0 Q = (WPF P Z Tryz.f158 pl158 [.agg [.tx, .nt .u8, .bl, .nt .i64, .tx, .sl, .sl, .sl], .one (.ad)] h0 Q) p0 p1 p2 p3 p4 p5 p6 p7 p8 := by kernel_rfl

/- codicil/value.each$1 -/
def q159 (Z : List PanicEntry → Heap → Prop) (p0 : Value) (p1 : Addr) (h0 : Heap) (Q : Cur (flat []) (Heap → Prop)) : Prop :=
 LDN [.nt .u8, .bl, .nt .i64, .tx, .sl, .sl, .sl] p1 0 (EQ h0) fun v3_0 v3_1 v3_2 v3_3 v3_4 v3_5 v3_6 =>
 CALL P Z 160 [.agg #[.int .u8 v3_0, .bool v3_1, .int .i64 v3_2, .string v3_3, v3_4.v, v3_5.v, v3_6.v], .int .i64 1, p0] [.one (.bl)] h0 [] fun v5 h1 =>
 Q h1
def pl159 : Plan := ⟨[], [], [], [], [], []⟩
theorem q159_eq (Z : List PanicEntry → Heap → Prop) (p0 : Value) (p1 : Addr) (h0 : Heap) (Q : Cur (flat []) (Heap → Prop)) : q159 Z p0 p1 h0 Q = (WPF P Z Tryz.f159 pl159 [.one (.oq), .one (.ad)] h0 Q) p0 p1 := by kernel_rfl

/- codicil/value.walk -/
def q160 (Z : List PanicEntry → Heap → Prop) (p0 : Int) (p1 : Bool) (p2 : Int) (p3 : ByteArray) (p4 : Sl) (p5 : Sl) (p6 : Sl) (p7 : Int) (p8 : Value) (h0 : Heap) (Q : Cur (flat [.one (.bl)]) (Heap → Prop)) : Prop :=
 ALLOC [.int .u8 p0, .bool p1, .int .i64 p2, .string p3, p4.v, p5.v, p6.v] 27 h0 fun b3 h1 =>
 CALLV P Z p8 [.int .i64 p7, .agg #[.int .u8 p0, .bool p1, .int .i64 p2, .string p3, p4.v, p5.v, p6.v]] [.one (.bl)] h1 [b3] fun v14 h2 =>
 COND (!v14) (Q false h2)
 (LOOP [.nt .i64] (fun x19 h4 nx3 =>
 COND (decide (x19 < (p5.len : Int))) (IXA 7 p5.a p5.len x19 fun a21 =>
 LDN [.nt .u8, .bl, .nt .i64, .tx, .sl, .sl, .sl] a21 0 (EQ h4) fun v22_0 v22_1 v22_2 v22_3 v22_4 v22_5 v22_6 =>
 ALLOC [.int .u8 0, .bool false, .int .i64 0, .string ByteArray.empty, .slice none 0 0, .slice none 0 0, .slice none 0 0] 27 h4 fun b8 h5 =>
 PUTN b8 [.int .u8 v22_0, .bool v22_1, .int .i64 v22_2, .string v22_3, v22_4.v, v22_5.v, v22_6.v] 0 h5 fun h6 =>
 CALL P Z 160 [.agg #[.int .u8 v22_0, .bool v22_1, .int .i64 v22_2, .string v22_3, v22_4.v, v22_5.v, v22_6.v], .int .i64 (IntKind.wrap .i64 (p7 + 1)), p8] [.one (.bl)] h6 [b3, b8] fun v27 h7 =>
 COND (!v27) (Q false h7)
 (nx3 (IntKind.wrap .i64 (x19 + 1)) h7))
 (LOOP [.nt .i64] (fun x33 h9 nx8 =>
 COND (decide (x33 < (p6.len : Int))) (IXA 8 p6.a p6.len x33 fun a35 =>
 LDN [.tx, .nt .u8, .bl, .nt .i64, .tx, .sl, .sl, .sl] a35 0 (EQ h9) fun v36_0 v36_1 v36_2 v36_3 v36_4 v36_5 v36_6 v36_7 =>
 ALLOC [.string ByteArray.empty, .int .u8 0, .bool false, .int .i64 0, .string ByteArray.empty, .slice none 0 0, .slice none 0 0, .slice none 0 0] 132 h9 fun b10 h10 =>
 PUTN b10 [.string v36_0, .int .u8 v36_1, .bool v36_2, .int .i64 v36_3, .string v36_4, v36_5.v, v36_6.v, v36_7.v] 0 h10 fun h11 =>
 CALL P Z 160 [.agg #[.int .u8 v36_1, .bool v36_2, .int .i64 v36_3, .string v36_4, v36_5.v, v36_6.v, v36_7.v], .int .i64 (IntKind.wrap .i64 (p7 + 1)), p8] [.one (.bl)] h11 [b10] fun v42 h12 =>
 COND (!v42) (Q false h12)
 (nx8 (IntKind.wrap .i64 (x33 + 1)) h12))
 (Q true h9)) 0 h4)) 0 h2)
def pl160 : Plan := ⟨[], [(10, ⟨[(33, .nt .i64)], [1, 2, 31, 32], []⟩), (4, ⟨[(19, .nt .i64)], [1, 2, 3, 17, 18], [3]⟩)], [], [], [], []⟩
theorem q160_eq (Z : List PanicEntry → Heap → Prop) (p0 : Int) (p1 : Bool) (p2 : Int) (p3 : ByteArray) (p4 : Sl) (p5 : Sl) (p6 : Sl) (p7 : Int) (p8 : Value) (h0 : Heap) (Q : Cur (flat [.one (.bl)]) (Heap → Prop)) : q160 Z p0 p1 p2 p3 p4 p5 p6 p7 p8 h0 Q = (WPF P Z Tryz.f160 pl160 [.agg [.nt .u8, .bl, .nt .i64, .tx, .sl, .sl, .sl], .one (.nt .i64), .one (.oq)] h0 Q) p0 p1 p2 p3 p4 p5 p6 p7 p8 := by kernel_rfl

/- codicil/value.bare -/
def q161 (Z : List PanicEntry → Heap → Prop) (p0 : Int) (p1 : Bool) (p2 : Int) (p3 : ByteArray) (p4 : Sl) (p5 : Sl) (p6 : Sl) (h0 : Heap) (Q : Cur (flat [.agg [.nt .u8, .bl, .nt .i64, .tx, .sl, .sl, .sl]]) (Heap → Prop)) : Prop :=
 ALLOC [.int .u8 p0, .bool p1, .int .i64 p2, .string p3, p4.v, p5.v, p6.v] 27 h0 fun b1 h1 =>
 ALLOC [.int .u8 0, .bool false, .int .i64 0, .string ByteArray.empty, .slice none 0 0, .slice none 0 0, .slice none 0 0] 27 h1 fun b2 h2 =>
 ALLOC [.int .u8 0, .bool false, .int .i64 0, .string ByteArray.empty, .slice none 0 0, .slice none 0 0, .slice none 0 0] 27 h2 fun b3 h3 =>
 PUTN b3 [.int .u8 p0, .bool false, .int .i64 0, .string ByteArray.empty, .slice none 0 0, .slice none 0 0, .slice none 0 0] 0 h3 fun h4 =>
 JOIN [] (fun k5 => COND (p0 == 2) (PUTN b3 [.bool p1] 1 h4 fun h7 =>
 k5 h7)
 (COND (p0 == 3) (PUTN b3 [.int .i64 p2] 2 h4 fun h8 =>
 k5 h8)
 (COND (p0 == 4) (PUTN b3 [.string p3] 3 h4 fun h9 =>
 k5 h9)
 (k5 h4))))
 fun h6 =>
 LDN [.nt .u8, .bl, .nt .i64, .tx, .sl, .sl, .sl] ⟨b3, 0, none⟩ 0 (EQ h6) fun v24_0 v24_1 v24_2 v24_3 v24_4 v24_5 v24_6 =>
 PUTN b2 [.int .u8 v24_0, .bool v24_1, .int .i64 v24_2, .string v24_3, v24_4.v, v24_5.v, v24_6.v] 0 h6 fun h10 =>
 Q v24_0 v24_1 v24_2 v24_3 v24_4 v24_5 v24_6 h10
def pl161 : Plan := ⟨[], [], [(0, ⟨[], [2, 3], [2]⟩)], [], [], []⟩
theorem q161_eq (Z : List PanicEntry → Heap → Prop) (p0 : Int) (p1 : Bool) (p2 : Int) (p3 : ByteArray) (p4 : Sl) (p5 : Sl) (p6 : Sl) (h0 : Heap) (Q : Cur (flat [.agg [.nt .u8, .bl, .nt .i64, .tx, .sl, .sl, .sl]]) (Heap → Prop)) : q161 Z p0 p1 p2 p3 p4 p5 p6 h0 Q = (WPF P Z Tryz.f161 pl161 [.agg [.nt .u8, .bl, .nt .i64, .tx, .sl, .sl, .sl]] h0 Q) p0 p1 p2 p3 p4 p5 p6 := by kernel_rfl

/- codicil/value.Name -/
def q162 (Z : List PanicEntry → Heap → Prop) (p0 : ByteArray) (h0 : Heap) (Q : Cur (flat [.one (.bl)]) (Heap → Prop)) : Prop :=
 JOIN [.bl] (fun k1 => CALL P Z 163 [.string p0] [.one (.bl)] h0 [] fun v6 h3 =>
 COND (!v6) (k1 true h3)
 (CALL P Z 164 [.string p0] [.one (.nt .i64)] h3 [] fun v10 h4 =>
 k1 (decide (v10 > 32)) h4))
 fun x12 h2 =>
 COND x12 (Q false h2)
 (ITER p0 h2 fun b14 h5 =>
 LOOP [] (fun h7 nx6 =>
 NEXTS b14 h7 (fun h8 => Q (!(p0.toList == ByteArray.empty.toList)) h8)
 fun v15_p v15_c h8 =>
 JOIN [.bl] (fun k9 => CALL P Z 182 [.int .i32 v15_c] [.one (.bl)] h8 [] fun v20 h11 =>
 COND (!v20) (COND (v15_p == 0) (k9 true h11)
 (COND (decide (v15_c < 48)) (k9 true h11)
 (k9 (decide (v15_c > 57)) h11)))
 (k9 false h11))
 fun x33 h10 =>
 COND x33 (Q false h10)
 (nx6 h10)) h5)
def pl162 : Plan := ⟨[], [(4, ⟨[], [0, 14], []⟩)], [], [(6, ⟨[(33, .bl)], [0, 14], []⟩), (1, ⟨[(12, .bl)], [0], []⟩)], [], []⟩
theorem q162_eq (Z : List PanicEntry → Heap → Prop) (p0 : ByteArray) (h0 : Heap) (Q : Cur (flat [.one (.bl)]) (Heap → Prop)) : q162 Z p0 h0 Q = (WPF P Z Tryz.f162 pl162 [.one (.tx)] h0 Q) p0 := by kernel_rfl

/- unicode/utf8.ValidString -/
def q163 (Z : List PanicEntry → Heap → Prop) (p0 : ByteArray) (h0 : Heap) (Q : Cur (flat [.one (.bl)]) (Heap → Prop)) : Prop :=
 LOOP [.tx] (fun x0 h2 nx1 =>
 COND (decide ((x0.size : Int) > 0)) (JOIN [.tx] (fun k3 => STRIX x0 0 fun v11 =>
 COND (decide (v11 < 128)) (SLS x0 (some 1) none fun v15 =>
 JOIN [.bl] (fun k5 => COND (decide ((v15.size : Int) > 8)) (CALL P Z 183 [.string v15] [.one (.nt .u64)] h2 [] fun v21 h7 =>
 k5 ((iand .u64 v21 9259542123273814144) == 0) h7)
 (k5 false h2))
 fun x24 h6 =>
 COND x24 (SLS v15 (some 8) none fun v26 =>
 JOIN [.bl] (fun k8 => DRAW h6 [] fun S10 =>
 COND (decide ((v26.size : Int) > 16)) (SLS v26 (some 8) none fun v34 =>
 CALL P (fun _ _ => False) 183 [.string v26] [.one (.nt .u64)] h6 [] fun v32 h11 =>
 SS S10 h11 (
 CALL P (fun _ _ => False) 183 [.string v34] [.one (.nt .u64)] h11 [] fun v35 h12 =>
 SS S10 h12 (
 k8 ((iand .u64 (ior .u64 v32 v35) 9259542123273814144) == 0) h12)))
 (SS S10 h6 (
 SS S10 h6 (
 k8 false h6))))
 fun x39 h9 =>
 COND x39 (SLS v26 (some 16) none fun v41 =>
 LOOP [.tx] (fun x0 h14 nx13 =>
 JOIN [.bl] (fun k15 => DRAW h14 [] fun S17 =>
 COND (decide ((x0.size : Int) > 32)) (SLS x0 (some 8) none fun v49 =>
 SLS x0 (some 16) none fun v53 =>
 SLS x0 (some 24) none fun v56 =>
 CALL P (fun _ _ => False) 183 [.string x0] [.one (.nt .u64)] h14 [] fun v47 h18 =>
 SS S17 h18 (
 CALL P (fun _ _ => False) 183 [.string v49] [.one (.nt .u64)] h18 [] fun v50 h19 =>
 SS S17 h19 (
 CALL P (fun _ _ => False) 183 [.string v53] [.one (.nt .u64)] h19 [] fun v54 h20 =>
 SS S17 h20 (
 CALL P (fun _ _ => False) 183 [.string v56] [.one (.nt .u64)] h20 [] fun v57 h21 =>
 SS S17 h21 (
 k15 ((iand .u64 (ior .u64 (ior .u64 v47 v50) (ior .u64 v54 v57)) 9259542123273814144) == 0) h21)))))
 (SS S17 h14 (
 SS S17 h14 (
 SS S17 h14 (
 SS S17 h14 (
 k15 false h14))))))
 fun x62 h16 =>
 COND x62 (SLS x0 (some 32) none fun v64 =>
 nx13 v64 h16)
 (k3 x0 h16)) v41 h9)
 (k3 v26 h9))
 (k3 v15 h6))
 (IXA 1 (some (⟨0, 0, none⟩ : Addr)) 256 v11 fun a66 =>
 LD (.nt .u8) a66 (EQ h2) fun v67 =>
 SHI 4 (IXA 2 (some (⟨1, 0, none⟩ : Addr)) 16 (ishr .u8 v67 4) fun a73 =>
 LDN [.nt .u8, .nt .u8] a73 0 (EQ h2) fun v74_0 v74_1 =>
 ALLOC [.int .u8 0, .int .u8 0] 259 h2 fun b6 h22 =>
 PUTN b6 [.int .u8 v74_0, .int .u8 v74_1] 0 h22 fun h23 =>
 JOIN [.tx] (fun k24 => COND ((IntKind.wrap .i64 ((iand .u8 v67 7))) == 2) (JOIN [.bl] (fun k26 => COND (decide ((x0.size : Int) < 2)) (k26 true h23)
 (STRIX x0 1 fun v83 =>
 COND (decide (v83 < v74_0)) (k26 true h23)
 (STRIX x0 1 fun v92 =>
 k26 (decide (v74_1 < v92)) h23)))
 fun x94 h27 =>
 COND x94 (Q false h27)
 (SLS x0 (some 2) none fun v96 =>
 k24 v96 h27))
 (COND ((IntKind.wrap .i64 ((iand .u8 v67 7))) == 3) (JOIN [.bl] (fun k28 => COND (decide ((x0.size : Int) < 3)) (k28 true h23)
 (STRIX x0 1 fun v104 =>
 COND (decide (v104 < v74_0)) (k28 true h23)
 (STRIX x0 1 fun v113 =>
 COND (decide (v74_1 < v113)) (k28 true h23)
 (STRIX x0 2 fun v118 =>
 COND (decide (v118 < 128)) (k28 true h23)
 (STRIX x0 2 fun v123 =>
 k28 (decide (191 < v123)) h23)))))
 fun x125 h29 =>
 COND x125 (Q false h29)
 (SLS x0 (some 3) none fun v127 =>
 k24 v127 h29))
 (COND ((IntKind.wrap .i64 ((iand .u8 v67 7))) == 4) (JOIN [.bl] (fun k30 => COND (decide ((x0.size : Int) < 4)) (k30 true h23)
 (STRIX x0 1 fun v135 =>
 COND (decide (v135 < v74_0)) (k30 true h23)
 (STRIX x0 1 fun v144 =>
 COND (decide (v74_1 < v144)) (k30 true h23)
 (STRIX x0 2 fun v149 =>
 COND (decide (v149 < 128)) (k30 true h23)
 (STRIX x0 2 fun v154 =>
 COND (decide (191 < v154)) (k30 true h23)
 (STRIX x0 3 fun v159 =>
 COND (decide (v159 < 128)) (k30 true h23)
 (STRIX x0 3 fun v164 =>
 k30 (decide (191 < v164)) h23)))))))
 fun x166 h31 =>
 COND x166 (Q false h31)
 (SLS x0 (some 4) none fun v168 =>
 k24 v168 h31))
 (Q false h23))))
 fun x0 h25 =>
 k3 x0 h25)))
 fun x0 h4 =>
 nx1 x0 h4)
 (Q true h2)) p0 h0
def pl163 : Plan := ⟨[], [(9, ⟨[(0, .tx)], [], []⟩), (1, ⟨[(0, .tx)], [], []⟩)], [(4, ⟨[(0, .tx)], [], []⟩), (1, ⟨[(0, .tx)], [], []⟩)], [(25, ⟨[(166, .bl)], [0], []⟩), (21, ⟨[(125, .bl)], [0], []⟩), (17, ⟨[(94, .bl)], [0], []⟩), (9, ⟨[(62, .bl)], [0], []⟩), (7, ⟨[(39, .bl)], [0], []⟩), (5, ⟨[(24, .bl)], [0], []⟩)], [(25, true, [0, 1, 2, 3, 4, 5, 6, 7, 8, 9, 10, 11, 12, 13, 14, 15, 16, 17, 18, 19, 20, 21, 22, 23, 24, 25, 26, 27, 28, 29, 30, 31, 32, 33, 34, 35, 36]), (21, true, [0, 1, 2, 3, 4, 5, 6, 7, 8, 9, 10, 11, 12, 13, 14, 15, 16, 17, 18, 19, 20, 21, 22, 23, 24, 25, 26]), (17, true, [0, 1, 2, 3, 4, 5, 6, 7, 8, 9, 10, 11, 12, 13, 14, 15, 16]), (9, false, [0, 1, 2, 3, 4, 6, 7, 10, 11, 13, 14, 5, 8, 9, 12, 15, 16, 17, 18, 19, 20]), (7, false, [0, 1, 2, 3, 4, 6, 7, 5, 8, 9, 10, 11, 12])], []⟩
theorem q163_eq (Z : List PanicEntry → Heap → Prop) (p0 : ByteArray) (h0 : Heap) (Q : Cur (flat [.one (.bl)]) (Heap → Prop)) : q163 Z p0 h0 Q = (WPF P Z Tryz.f163 pl163 [.one (.tx)] h0 Q) p0 := by kernel_rfl

/- unicode/utf8.RuneCountInString -/
def q164 (Z : List PanicEntry → Heap → Prop) (p0 : ByteArray) (h0 : Heap) (Q : Cur (flat [.one (.nt .i64)]) (Heap → Prop)) : Prop :=
 ITER p0 h0 fun b4 h1 =>
 LOOP [.nt .i64] (fun x2 h3 nx2 =>
 NEXTS b4 h3 (fun h4 => Q x2 h4)
 fun v5_p v5_c h4 =>
 nx2 (IntKind.wrap .i64 (x2 + 1)) h4) 0 h1
def pl164 : Plan := ⟨[], [(2, ⟨[(2, .nt .i64)], [4], []⟩)], [], [], [], []⟩
theorem q164_eq (Z : List PanicEntry → Heap → Prop) (p0 : ByteArray) (h0 : Heap) (Q : Cur (flat [.one (.nt .i64)]) (Heap → Prop)) : q164 Z p0 h0 Q = (WPF P Z Tryz.f164 pl164 [.one (.tx)] h0 Q) p0 := by kernel_rfl

/- (*codicil/code.Writer).Signed -/
def q165 (Z : List PanicEntry → Heap → Prop) (p0 : Option Addr) (p1 : Int) (h0 : Heap) (Q : Cur (flat []) (Heap → Prop)) : Prop :=
 SHI 1 (SHI 63 (CALL P Z 86 [.pointer p0, .int .u64 (ixor .u64 (ishl .u64 (IntKind.wrap .u64 (p1)) 1) (IntKind.wrap .u64 ((ishr .i64 p1 63))))] [] h0 [] fun h1 =>
 Q h1))
def pl165 : Plan := ⟨[], [], [], [], [], []⟩
theorem q165_eq (Z : List PanicEntry → Heap → Prop) (p0 : Option Addr) (p1 : Int) (h0 : Heap) (Q : Cur (flat []) (Heap → Prop)) : q165 Z p0 p1 h0 Q = (WPF P Z Tryz.f165 pl165 [.one (.pt), .one (.nt .i64)] h0 Q) p0 p1 := by kernel_rfl

/- codicil/doc.many[codicil/api.Value] -/
def q166 (Z : List PanicEntry → Heap → Prop) (p0 : Option Addr) (p1 : Sl) (p2 : Value) (h0 : Heap) (Q : Cur (flat []) (Heap → Prop)) : Prop :=
 CALL P Z 86 [.pointer p0, .int .u64 (IntKind.wrap .u64 ((p1.len : Int)))] [] h0 [] fun h1 =>
 LOOP [.nt .i64] (fun x15 h3 nx2 =>
 COND (decide (x15 < (p1.len : Int))) (IXA 7 p1.a p1.len x15 fun a17 =>
 LDN [.nt .u8, .bl, .nt .i64, .tx, .sl, .sl, .sl] a17 0 (EQ h3) fun v18_0 v18_1 v18_2 v18_3 v18_4 v18_5 v18_6 =>
 ALLOC [.int .u8 0, .bool false, .int .i64 0, .string ByteArray.empty, .slice none 0 0, .slice none 0 0, .slice none 0 0] 27 h3 fun b7 h4 =>
 PUTN b7 [.int .u8 v18_0, .bool v18_1, .int .i64 v18_2, .string v18_3, v18_4.v, v18_5.v, v18_6.v] 0 h4 fun h5 =>
 CALLV P Z p2 [.agg #[.int .u8 v18_0, .bool v18_1, .int .i64 v18_2, .string v18_3, v18_4.v, v18_5.v, v18_6.v]] [] h5 [b7] fun h6 =>
 nx2 (IntKind.wrap .i64 (x15 + 1)) h6)
 (Q h3)) 0 h1
def pl166 : Plan := ⟨[], [(2, ⟨[(15, .nt .i64)], [2, 13, 14], []⟩)], [], [], [], []⟩
theorem q166_eq (Z : List PanicEntry → Heap → Prop) (p0 : Option Addr) (p1 : Sl) (p2 : Value) (h0 : Heap) (Q : Cur (flat []) (Heap → Prop)) : q166 Z p0 p1 p2 h0 Q = (WPF P Z Tryz.f166 pl166 [.one (.pt), .one (.sl), .one (.oq)] h0 Q) p0 p1 p2 := by kernel_rfl

/- codicil/doc.write$1 -/
def q167 (Z : List PanicEntry → Heap → Prop) (p0 : Int) (p1 : Bool) (p2 : Int) (p3 : ByteArray) (p4 : Sl) (p5 : Sl) (p6 : Sl) (p7 : Addr) (h0 : Heap) (Q : Cur (flat []) (Heap → Prop)) : Prop :=
 ALLOC [.int .u8 p0, .bool p1, .int .i64 p2, .string p3, p4.v, p5.v, p6.v] 27 h0 fun b2 h1 =>
 LD (.pt) p7 (EQ h1) fun v3 =>
 CALL P Z 132 [.pointer v3, .agg #[.int .u8 p0, .bool p1, .int .i64 p2, .string p3, p4.v, p5.v, p6.v]] [] h1 [b2] fun h2 =>
 Q h2
def pl167 : Plan := ⟨[], [], [], [], [], []⟩
theorem q167_eq (Z : List PanicEntry → Heap → Prop) (p0 : Int) (p1 : Bool) (p2 : Int) (p3 : ByteArray) (p4 : Sl) (p5 : Sl) (p6 : Sl) (p7 : Addr) (h0 : Heap) (Q : Cur (flat []) (Heap → Prop)) : q167 Z p0 p1 p2 p3 p4 p5 p6 p7 h0 Q = (WPF P Z Tryz.f167 pl167 [.agg [.nt .u8, .bl, .nt .i64, .tx, .sl, .sl, .sl], .one (.ad)] h0 Q) p0 p1 p2 p3 p4 p5 p6 p7 := by kernel_rfl

/- codicil/doc.many[codicil/api.Field] -/
def q168 (Z : List PanicEntry → Heap → Prop) (p0 : Option Addr) (p1 : Sl) (p2 : Value) (h0 : Heap) (Q : Cur (flat []) (Heap → Prop)) : Prop :=
 CALL P Z 86 [.pointer p0, .int .u64 (IntKind.wrap .u64 ((p1.len : Int)))] [] h0 [] fun h1 =>
 LOOP [.nt .i64] (fun x15 h3 nx2 =>
 COND (decide (x15 < (p1.len : Int))) (IXA 8 p1.a p1.len x15 fun a17 =>
 LDN [.tx, .nt .u8, .bl, .nt .i64, .tx, .sl, .sl, .sl] a17 0 (EQ h3) fun v18_0 v18_1 v18_2 v18_3 v18_4 v18_5 v18_6 v18_7 =>
 ALLOC [.string ByteArray.empty, .int .u8 0, .bool false, .int .i64 0, .string ByteArray.empty, .slice none 0 0, .slice none 0 0, .slice none 0 0] 132 h3 fun b7 h4 =>
 PUTN b7 [.string v18_0, .int .u8 v18_1, .bool v18_2, .int .i64 v18_3, .string v18_4, v18_5.v, v18_6.v, v18_7.v] 0 h4 fun h5 =>
 CALLV P Z p2 [.agg #[.string v18_0, .int .u8 v18_1, .bool v18_2, .int .i64 v18_3, .string v18_4, v18_5.v, v18_6.v, v18_7.v]] [] h5 [b7] fun h6 =>
 nx2 (IntKind.wrap .i64 (x15 + 1)) h6)
 (Q h3)) 0 h1
def pl168 : Plan := ⟨[], [(2, ⟨[(15, .nt .i64)], [2, 13, 14], []⟩)], [], [], [], []⟩
theorem q168_eq (Z : List PanicEntry → Heap → Prop) (p0 : Option Addr) (p1 : Sl) (p2 : Value) (h0 : Heap) (Q : Cur (flat []) (Heap → Prop)) : q168 Z p0 p1 p2 h0 Q = (WPF P Z Tryz.f168 pl168 [.one (.pt), .one (.sl), .one (.oq)] h0 Q) p0 p1 p2 := by kernel_rfl

/- codicil/doc.write$2 -/
def q169 (Z : List PanicEntry → Heap → Prop) (p0 : ByteArray) (p1 : Int) (p2 : Bool) (p3 : Int) (p4 : ByteArray) (p5 : Sl) (p6 : Sl) (p7 : Sl) (p8 : Addr) (h0 : Heap) (Q : Cur (flat []) (Heap → Prop)) : Prop :=
 ALLOC [.string p0, .int .u8 p1, .bool p2, .int .i64 p3, .string p4, p5.v, p6.v, p7.v] 132 h0 fun b2 h1 =>
 LD (.pt) p8 (EQ h1) fun v3 =>
 CALL P Z 28 [.pointer v3, .string p0] [] h1 [b2] fun h2 =>
 LD (.pt) p8 (EQ h2) fun v7 =>
 CALL P Z 132 [.pointer v7, .agg #[.int .u8 p1, .bool p2, .int .i64 p3, .string p4, p5.v, p6.v, p7.v]] [] h2 [b2] fun h3 =>
 Q h3
def pl169 : Plan := ⟨[], [], [], [], [], []⟩
theorem q169_eq (Z : List PanicEntry → Heap → Prop) (p0 : ByteArray) (p1 : Int) (p2 : Bool) (p3 : Int) (p4 : ByteArray) (p5 : Sl) (p6 : Sl) (p7 : Sl) (p8 : Addr) (h0 : Heap) (Q : Cur (flat []) (Heap → Prop)) : q169 Z p0 p1 p2 p3 p4 p5 p6 p7 p8 h0 Q = (WPF P Z Tryz.f169 pl169 [.agg [.tx, .nt .u8, .bl, .nt .i64, .tx, .sl, .sl, .sl], .one (.ad)] h0 Q) p0 p1 p2 p3 p4 p5 p6 p7 p8 := by kernel_rfl

/- (*codicil/doc.reader).wrong -/
def q170 (Z : List PanicEntry → Heap → Prop) (p0 : Option Addr) (h0 : Heap) (Q : Cur (flat [.one (.bl)]) (Heap → Prop)) : Prop :=
 NN p0 fun a7 =>
 LD (.pt) (a7.add 0) (EQ h0) fun v9 =>
 CALL P Z 38 [.pointer v9] [.one (.nt .u16), .one (.nt .i64)] h0 [] fun v10_0 v10_1 h1 =>
 JOIN [.bl] (fun k2 => NN p0 fun a14 =>
 LD (.bl) (a14.add 1) (EQ h1) fun v16 =>
 COND v16 (k2 true h1)
 (k2 (v10_0 != 0) h1))
 fun x2 h3 =>
 Q x2 h3
def pl170 : Plan := ⟨[], [], [], [(2, ⟨[(2, .bl)], [], []⟩)], [], []⟩
theorem q170_eq (Z : List PanicEntry → Heap → Prop) (p0 : Option Addr) (h0 : Heap) (Q : Cur (flat [.one (.bl)]) (Heap → Prop)) : q170 Z p0 h0 Q = (WPF P Z Tryz.f170 pl170 [.one (.pt)] h0 Q) p0 := by kernel_rfl

/- (*codicil/code.Reader).Signed -/
def q171 (Z : List PanicEntry → Heap → Prop) (p0 : Option Addr) (h0 : Heap) (Q : Cur (flat [.one (.nt .i64)]) (Heap → Prop)) : Prop :=
 CALL P Z 92 [.pointer p0] [.one (.nt .u64)] h0 [] fun v5 h1 =>
 SHI 1 (Q (ixor .i64 (IntKind.wrap .i64 ((ishr .u64 v5 1))) (IntKind.wrap .i64 (0 - (IntKind.wrap .i64 ((iand .u64 v5 1)))))) h1)
def pl171 : Plan := ⟨[], [], [], [], [], []⟩
theorem q171_eq (Z : List PanicEntry → Heap → Prop) (p0 : Option Addr) (h0 : Heap) (Q : Cur (flat [.one (.nt .i64)]) (Heap → Prop)) : q171 Z p0 h0 Q = (WPF P Z Tryz.f171 pl171 [.one (.pt)] h0 Q) p0 := by kernel_rfl

/- codicil/codicilref04.escaped -/
def q172 (Z : List PanicEntry → Heap → Prop) (p0 : Sl) (p1 : ByteArray) (h0 : Heap) (Q : Cur (flat [.one (.sl)]) (Heap → Prop)) : Prop :=
 LOOP [.sl, .nt .i64] (fun x0 x5 h2 nx1 =>
 COND (decide (x5 < (p1.size : Int))) (JOIN [.sl] (fun k3 => STRIX p1 x5 fun v15 =>
 ALLOC [.int .u8 v15] 5 h2 fun b16 h5 =>
 APPEND 1 1 5 [.int .u8 0] x0.a x0.len x0.cap (some ⟨b16, 0, none⟩) 1 h5 [] fun v17 h6 =>
 STRIX p1 x5 fun v20 =>
 COND (v20 == 0) (ALLOC [.int .u8 255] 5 h6 fun b23 h7 =>
 APPEND 1 1 5 [.int .u8 0] v17.a v17.len v17.cap (some ⟨b23, 0, none⟩) 1 h7 [] fun v24 h8 =>
 k3 v24 h8)
 (k3 v17 h6))
 fun x0 h4 =>
 nx1 x0 (IntKind.wrap .i64 (x5 + 1)) h4)
 (ALLOC [.int .u8 0, .int .u8 1] 5 h2 fun b26 h9 =>
 APPEND 1 1 5 [.int .u8 0] x0.a x0.len x0.cap (some ⟨b26, 0, none⟩) 2 h9 [] fun v27 h10 =>
 Q v27 h10)) p0 0 h0
def pl172 : Plan := ⟨[], [(2, ⟨[(0, .sl), (5, .nt .i64)], [1], []⟩)], [(1, ⟨[(0, .sl)], [1, 5], []⟩)], [], [], []⟩
theorem q172_eq (Z : List PanicEntry → Heap → Prop) (p0 : Sl) (p1 : ByteArray) (h0 : Heap) (Q : Cur (flat [.one (.sl)]) (Heap → Prop)) : q172 Z p0 p1 h0 Q = (WPF P Z Tryz.f172 pl172 [.one (.sl), .one (.tx)] h0 Q) p0 p1 := by kernel_rfl

/- codicil/codicilref03.kids -/
def q173 (Z : List PanicEntry → Heap → Prop) (p0 : Int) (p1 : Bool) (p2 : Int) (p3 : ByteArray) (p4 : Sl) (p5 : Sl) (p6 : Sl) (h0 : Heap) (Q : Cur (flat [.one (.sl)]) (Heap → Prop)) : Prop :=
 ALLOC [.int .u8 p0, .bool p1, .int .i64 p2, .string p3, p4.v, p5.v, p6.v] 27 h0 fun b1 h1 =>
 APPEND 7 104 27 [.int .u8 0, .bool false, .int .i64 0, .string ByteArray.empty, .slice none 0 0, .slice none 0 0, .slice none 0 0] none 0 0 p5.a p5.len h1 [b1] fun v8 h2 =>
 LOOP [.sl, .nt .i64] (fun x3 x4 h4 nx3 =>
 COND (decide (x4 < (p6.len : Int))) (IXA 8 p6.a p6.len x4 fun a20 =>
 LDN [.nt .u8, .bl, .nt .i64, .tx, .sl, .sl, .sl] (a20.add 1) 0 (EQ h4) fun v22_0 v22_1 v22_2 v22_3 v22_4 v22_5 v22_6 =>
 ALLOC [.int .u8 v22_0, .bool v22_1, .int .i64 v22_2, .string v22_3, v22_4.v, v22_5.v, v22_6.v] 27 h4 fun b23 h5 =>
 APPEND 7 104 27 [.int .u8 0, .bool false, .int .i64 0, .string ByteArray.empty, .slice none 0 0, .slice none 0 0, .slice none 0 0] x3.a x3.len x3.cap (some ⟨b23, 0, none⟩) 1 h5 [b1] fun v24 h6 =>
 nx3 v24 (IntKind.wrap .i64 (x4 + 1)) h6)
 (Q x3 h4)) v8 0 h2
def pl173 : Plan := ⟨[], [(4, ⟨[(3, .sl), (4, .nt .i64)], [1], [1]⟩)], [], [], [], []⟩
theorem q173_eq (Z : List PanicEntry → Heap → Prop) (p0 : Int) (p1 : Bool) (p2 : Int) (p3 : ByteArray) (p4 : Sl) (p5 : Sl) (p6 : Sl) (h0 : Heap) (Q : Cur (flat [.one (.sl)]) (Heap → Prop)) : q173 Z p0 p1 p2 p3 p4 p5 p6 h0 Q = (WPF P Z Tryz.f173 pl173 [.agg [.nt .u8, .bl, .nt .i64, .tx, .sl, .sl, .sl]] h0 Q) p0 p1 p2 p3 p4 p5 p6 := by kernel_rfl

/- codicil/codicilref03.own -/
def q174 (Z : List PanicEntry → Heap → Prop) (p0 : Int) (p1 : Bool) (p2 : Int) (p3 : ByteArray) (p4 : Sl) (p5 : Sl) (p6 : Sl) (h0 : Heap) (Q : Cur (flat [.one (.nt .i64)]) (Heap → Prop)) : Prop :=
 ALLOC [.int .u8 p0, .bool p1, .int .i64 p2, .string p3, p4.v, p5.v, p6.v] 27 h0 fun b1 h1 =>
 JOIN [.bl] (fun k2 => COND (decide (p0 < 1)) (k2 true h1)
 (COND (decide (p0 > 7)) (k2 true h1)
 (COND p1 (COND (p0 != 2) (k2 true h1)
 (COND (p2 != 0) (COND (p0 != 3) (k2 true h1)
 (COND (!(p3.toList == ByteArray.empty.toList)) (k2 (p0 != 4) h1)
 (k2 false h1)))
 (COND (!(p3.toList == ByteArray.empty.toList)) (k2 (p0 != 4) h1)
 (k2 false h1))))
 (COND (p2 != 0) (COND (p0 != 3) (k2 true h1)
 (COND (!(p3.toList == ByteArray.empty.toList)) (k2 (p0 != 4) h1)
 (k2 false h1)))
 (COND (!(p3.toList == ByteArray.empty.toList)) (k2 (p0 != 4) h1)
 (k2 false h1))))))
 fun x41 h3 =>
 COND x41 (Q 30 h3)
 (JOIN [.bl] (fun k4 => COND (decide ((p4.len : Int) > 0)) (COND (p0 != 5) (k4 true h3)
 (COND (decide ((p5.len : Int) > 0)) (COND (p0 != 6) (k4 true h3)
 (COND (decide ((p6.len : Int) > 0)) (k4 (p0 != 7) h3)
 (k4 false h3)))
 (COND (decide ((p6.len : Int) > 0)) (k4 (p0 != 7) h3)
 (k4 false h3))))
 (COND (decide ((p5.len : Int) > 0)) (COND (p0 != 6) (k4 true h3)
 (COND (decide ((p6.len : Int) > 0)) (k4 (p0 != 7) h3)
 (k4 false h3)))
 (COND (decide ((p6.len : Int) > 0)) (k4 (p0 != 7) h3)
 (k4 false h3))))
 fun x72 h5 =>
 COND x72 (Q 30 h5)
 (LOOP [.nt .i64] (fun x3 h7 nx6 =>
 COND (decide (x3 < (p6.len : Int))) (JOIN [.bl] (fun k8 => DRAW h7 [b1] fun S10 =>
 IXA 8 p6.a p6.len x3 fun a83 =>
 LD (.tx) (a83.add 0) S10 fun v85 =>
 CALL P (fun _ _ => False) 184 [.string v85] [.one (.bl)] h7 [b1] fun v86 h11 =>
 SS S10 h11 (
 COND (!v86) (k8 true h11)
 (COND (decide (x3 > 0)) (IXA 8 p6.a p6.len x3 fun a95 =>
 LD (.tx) (a95.add 0) S10 fun v97 =>
 IXA 8 p6.a p6.len (IntKind.wrap .i64 (x3 - 1)) fun a102 =>
 LD (.tx) (a102.add 0) S10 fun v104 =>
 k8 (Op.bytesLess v97.toList v104.toList || v97.toList == v104.toList) h11)
 (k8 false h11))))
 fun x107 h9 =>
 COND x107 (Q 30 h9)
 (nx6 (IntKind.wrap .i64 (x3 + 1)) h9))
 (CALL P Z 185 [.string p3] [.one (.nt .i64)] h7 [b1] fun v110 h12 =>
 COND (decide (v110 < 0)) (Q 34 h12)
 (JOIN [.bl] (fun k13 => COND (decide (v110 > 1000)) (k13 true h12)
 (k13 (decide ((p4.len : Int) > 4000)) h12))
 fun x120 h14 =>
 COND x120 (Q 33 h14)
 (Q 0 h14)))) 0 h5))
def pl174 : Plan := ⟨[], [(6, ⟨[(3, .nt .i64)], [1], [1]⟩)], [], [(13, ⟨[(120, .bl)], [], []⟩), (8, ⟨[(107, .bl)], [1, 3], [1]⟩), (3, ⟨[(72, .bl)], [1], [1]⟩), (1, ⟨[(41, .bl)], [1], [1]⟩)], [(8, false, [0, 1, 2, 3, 4, 5, 6, 7, 8, 9, 10, 11, 12, 13, 14, 15, 16, 17, 18, 19, 20, 21, 22, 23, 24, 25, 26, 27])], []⟩
theorem q174_eq (Z : List PanicEntry → Heap → Prop) (p0 : Int) (p1 : Bool) (p2 : Int) (p3 : ByteArray) (p4 : Sl) (p5 : Sl) (p6 : Sl) (h0 : Heap) (Q : Cur (flat [.one (.nt .i64)]) (Heap → Prop)) : q174 Z p0 p1 p2 p3 p4 p5 p6 h0 Q = (WPF P Z Tryz.f174 pl174 [.agg [.nt .u8, .bl, .nt .i64, .tx, .sl, .sl, .sl]] h0 Q) p0 p1 p2 p3 p4 p5 p6 := by kernel_rfl

/- codicil/codicilref02.Zagzig -/
def q175 (Z : List PanicEntry → Heap → Prop) (p0 : Int) (h0 : Heap) (Q : Cur (flat [.one (.nt .i64)]) (Heap → Prop)) : Prop :=
 DIVI 2 (COND ((Int.tmod p0 2) == 1) (DIVI 2 (Q (IntKind.wrap .i64 ((IntKind.wrap .i64 (0 - (IntKind.wrap .i64 ((IntKind.wrap .u64 (Int.tdiv p0 2)))))) - 1)) h0))
 (DIVI 2 (Q (IntKind.wrap .i64 ((IntKind.wrap .u64 (Int.tdiv p0 2)))) h0)))
def pl175 : Plan := ⟨[], [], [], [], [], []⟩
theorem q175_eq (Z : List PanicEntry → Heap → Prop) (p0 : Int) (h0 : Heap) (Q : Cur (flat [.one (.nt .i64)]) (Heap → Prop)) : q175 Z p0 h0 Q = (WPF P Z Tryz.f175 pl175 [.one (.nt .u64)] h0 Q) p0 := by kernel_rfl

/- codicil/value.All$1 -/
def q176 (Z : List PanicEntry → Heap → Prop) (p0 : Value) (p1 : Addr) (h0 : Heap) (Q : Cur (flat []) (Heap → Prop)) : Prop :=
 ONE p0 (ALLOC [p0] 240 h0 fun b2 h1 =>
 LDN [.nt .u8, .bl, .nt .i64, .tx, .sl, .sl, .sl] p1 0 (EQ h1) fun v5_0 v5_1 v5_2 v5_3 v5_4 v5_5 v5_6 =>
 CALL P Z 130 [.agg #[.int .u8 v5_0, .bool v5_1, .int .i64 v5_2, .string v5_3, v5_4.v, v5_5.v, v5_6.v]] [.one (.oq)] h1 [b2] fun v6 h2 =>
 RANGEF P v6 [.one (.nt .i64), .agg [.nt .u8, .bl, .nt .i64, .tx, .sl, .sl, .sl]] h2 [b2] (fun v7 v8_0 v8_1 v8_2 v8_3 v8_4 v8_5 v8_6 l4 ready5 busy6 done7 R8 h3 => ALLOC [.int .u8 0, .bool false, .int .i64 0, .string ByteArray.empty, .slice none 0 0, .slice none 0 0, .slice none 0 0] 27 h3 fun b4 h9 =>
 PUTN b4 [.int .u8 v8_0, .bool v8_1, .int .i64 v8_2, .string v8_3, v8_4.v, v8_5.v, v8_6.v] 0 h9 fun h10 =>
 BEGIN l4 ready5 busy6 h10 fun h11 =>
 DRAW h11 [b2, b4] fun S12 =>
 CALL P (fun _ _ => False) 128 [.agg #[.int .u8 v8_0, .bool v8_1, .int .i64 v8_2, .string v8_3, v8_4.v, v8_5.v, v8_6.v]] [.agg [.nt .u8, .bl, .nt .i64, .tx, .sl, .sl, .sl]] h11 [b2, b4] fun v12_0 v12_1 v12_2 v12_3 v12_4 v12_5 v12_6 h13 =>
 SS S12 h13 (
 CALLV P (fun _ _ => False) p0 [.int .i64 v7, .agg #[.int .u8 v12_0, .bool v12_1, .int .i64 v12_2, .string v12_3, v12_4.v, v12_5.v, v12_6.v]] [.one (.bl)] h13 [b2, b4] fun v13 h14 =>
 SS S12 h14 (
 COND (!v13) ((h14[l4]? = some busy6 ∧ R8 (.returned (.bool false)) (h14.setIfInBounds l4 (done7 .ret))))
 ((h14[l4]? = some busy6 ∧ R8 (.returned (.bool true)) (h14.setIfInBounds l4 ready5))))))
 (fun h15 => LEAVE P Z (fun h => Q h) [.mk h2.size] .returning h15)
 [(.ret, fun h15 => LEAVE P Z (fun h => Q h) [.mk h2.size] .returning h15)])
def pl176 : Plan := ⟨[], [(4, ⟨[], [], [2]⟩)], [], [], [(4, false, [0, 1, 2, 3, 4, 5])], [(4, [.one (.nt .i64), .agg [.nt .u8, .bl, .nt .i64, .tx, .sl, .sl, .sl]])]⟩
theorem q176_eq (Z : List PanicEntry → Heap → Prop) (p0 : Value) (p1 : Addr) (h0 : Heap) (Q : Cur (flat []) (Heap → Prop)) : q176 Z p0 p1 h0 Q = (WPF P Z Tryz.f176 pl176 [.one (.oq), .one (.ad)] h0 Q) p0 p1 := by kernel_rfl

/- codicil/path.Parse -/
def q177 (Z : List PanicEntry → Heap → Prop) (p0 : ByteArray) (h0 : Heap) (Q : Cur (flat [.one (.sl), .one (.nt .u16), .one (.nt .i64)]) (Heap → Prop)) : Prop :=
 LOOP [.sl, .nt .i64] (fun x5 x6 h2 nx1 =>
 JOIN [.bl] (fun k3 => COND (decide (x6 < (p0.size : Int))) (k3 true h2)
 (k3 ((x5.len : Int) == 0) h2))
 fun x21 h4 =>
 COND x21 (JOIN [.sl, .nt .i64] (fun k5 => SLS p0 (some x6) none fun v24 =>
 JOIN [.sl, .nt .i64, .tx] (fun k7 => COND ((x5.len : Int) == 16) (Q ⟨none, 0, 0⟩ 60 x6 h4)
 (CALL P Z 186 [.string v24, .string (ByteArray.mk #[91])] [.one (.bl)] h4 [] fun v32 h9 =>
 COND v32 (SLS v24 (some 1) none fun v35 =>
 CALL P Z 187 [.string v35] [.one (.nt .i64), .one (.nt .i64), .one (.bl)] h9 [] fun v36_0 v36_1 v36_2 h10 =>
 COND (!v36_2) (Q ⟨none, 0, 0⟩ 60 (IntKind.wrap .i64 ((IntKind.wrap .i64 (x6 + 1)) + v36_1)) h10)
 (ALLOC [.string ByteArray.empty, .int .i64 v36_0] 173 h10 fun b49 h11 =>
 APPEND 2 24 173 [.string ByteArray.empty, .int .i64 0] x5.a x5.len x5.cap (some ⟨b49, 0, none⟩) 1 h11 [] fun v50 h12 =>
 k5 v50 (IntKind.wrap .i64 (x6 + (IntKind.wrap .i64 (1 + v36_1)))) h12))
 (JOIN [.bl] (fun k13 => COND (decide ((x5.len : Int) > 0)) (CALL P Z 186 [.string v24, .string (ByteArray.mk #[46])] [.one (.bl)] h9 [] fun v61 h15 =>
 k13 (!v61) h15)
 (k13 false h9))
 fun x55 h14 =>
 COND x55 (Q ⟨none, 0, 0⟩ 60 x6 h14)
 (COND (decide ((x5.len : Int) > 0)) (SLS v24 (some 1) none fun v72 =>
 k7 x5 (IntKind.wrap .i64 (x6 + 1)) v72 h14)
 (k7 x5 x6 v24 h14)))))
 fun x5 x6 x7 h8 =>
 JOIN [.tx] (fun k16 => CALL P Z 188 [.string x7, .string (ByteArray.mk #[46, 91, 93])] [.one (.nt .i64)] h8 [] fun v75 h18 =>
 COND (decide (v75 ≥ 0)) (SLS x7 none (some v75) fun v80 =>
 k16 v80 h18)
 (k16 x7 h18))
 fun x11 h17 =>
 CALL P Z 162 [.string x11] [.one (.bl)] h17 [] fun v82 h19 =>
 COND (!v82) (Q ⟨none, 0, 0⟩ 60 x6 h19)
 (ALLOC [.string x11, .int .i64 (-1)] 173 h19 fun b88 h20 =>
 APPEND 2 24 173 [.string ByteArray.empty, .int .i64 0] x5.a x5.len x5.cap (some ⟨b88, 0, none⟩) 1 h20 [] fun v89 h21 =>
 k5 v89 (IntKind.wrap .i64 (x6 + (x11.size : Int))) h21))
 fun x5 x6 h6 =>
 nx1 x5 x6 h6)
 (CALL P Z 189 [x5.v] [.one (.sl)] h4 [] fun v95 h22 =>
 Q v95 0 0 h22)) ⟨none, 0, 0⟩ 0 h0
def pl177 : Plan := ⟨[(22, ⟨[(11, .tx)], [0, 5, 6], []⟩)], [(3, ⟨[(5, .sl), (6, .nt .i64)], [0], []⟩)], [(2, ⟨[(5, .sl), (6, .nt .i64), (7, .tx)], [0], []⟩), (1, ⟨[(5, .sl), (6, .nt .i64)], [0], []⟩)], [(13, ⟨[(55, .bl)], [0, 5, 6, 7], []⟩), (3, ⟨[(21, .bl)], [0, 5, 6], []⟩)], [], []⟩
theorem q177_eq (Z : List PanicEntry → Heap → Prop) (p0 : ByteArray) (h0 : Heap) (Q : Cur (flat [.one (.sl), .one (.nt .u16), .one (.nt .i64)]) (Heap → Prop)) : q177 Z p0 h0 Q = (WPF P Z Tryz.f177 pl177 [.one (.tx)] h0 Q) p0 := by kernel_rfl

/- slices.ContainsFunc[[]codicil/api.Part,codicil/api.Part] -/
def q178 (Z : List PanicEntry → Heap → Prop) (p0 : Sl) (p1 : Value) (h0 : Heap) (Q : Cur (flat [.one (.bl)]) (Heap → Prop)) : Prop :=
 CALL P Z 190 [p0.v, p1] [.one (.nt .i64)] h0 [] fun v7 h1 =>
 Q (decide (v7 ≥ 0)) h1
def pl178 : Plan := ⟨[], [], [], [], [], []⟩
theorem q178_eq (Z : List PanicEntry → Heap → Prop) (p0 : Sl) (p1 : Value) (h0 : Heap) (Q : Cur (flat [.one (.bl)]) (Heap → Prop)) : q178 Z p0 p1 h0 Q = (WPF P Z Tryz.f178 pl178 [.one (.sl), .one (.oq)] h0 Q) p0 p1 := by kernel_rfl

/- codicil/catalog.lookIndex$1 -/
def q179 (Z : List PanicEntry → Heap → Prop) (p0 : ByteArray) (p1 : Bool) (h0 : Heap) (Q : Cur (flat [.one (.bl)]) (Heap → Prop)) : Prop :=
 ALLOC [.string p0, .bool p1] 176 h0 fun b1 h1 =>
 CALL P Z 149 [.string p0] [.one (.bl)] h1 [b1] fun v5 h2 =>
 Q (!v5) h2
def pl179 : Plan := ⟨[], [], [], [], [], []⟩
theorem q179_eq (Z : List PanicEntry → Heap → Prop) (p0 : ByteArray) (p1 : Bool) (h0 : Heap) (Q : Cur (flat [.one (.bl)]) (Heap → Prop)) : q179 Z p0 p1 h0 Q = (WPF P Z Tryz.f179 pl179 [.agg [.tx, .bl]] h0 Q) p0 p1 := by kernel_rfl

/- slices.IndexFunc[[]codicil/api.Value,codicil/api.Value] -/
def q180 (Z : List PanicEntry → Heap → Prop) (p0 : Sl) (p1 : Value) (h0 : Heap) (Q : Cur (flat [.one (.nt .i64)]) (Heap → Prop)) : Prop :=
 LOOP [.nt .i64] (fun x8 h2 nx1 =>
 COND (decide (x8 < (p0.len : Int))) (IXA 7 p0.a p0.len x8 fun a14 =>
 LDN [.nt .u8, .bl, .nt .i64, .tx, .sl, .sl, .sl] a14 0 (EQ h2) fun v15_0 v15_1 v15_2 v15_3 v15_4 v15_5 v15_6 =>
 CALLV P Z p1 [.agg #[.int .u8 v15_0, .bool v15_1, .int .i64 v15_2, .string v15_3, v15_4.v, v15_5.v, v15_6.v]] [.one (.bl)] h2 [] fun v16 h3 =>
 COND v16 (Q x8 h3)
 (nx1 (IntKind.wrap .i64 (x8 + 1)) h3))
 (Q (-1) h2)) 0 h0
def pl180 : Plan := ⟨[], [(2, ⟨[(8, .nt .i64)], [0, 1, 7], []⟩)], [], [], [], []⟩
theorem q180_eq (Z : List PanicEntry → Heap → Prop) (p0 : Sl) (p1 : Value) (h0 : Heap) (Q : Cur (flat [.one (.nt .i64)]) (Heap → Prop)) : q180 Z p0 p1 h0 Q = (WPF P Z Tryz.f180 pl180 [.one (.sl), .one (.oq)] h0 Q) p0 p1 := by kernel_rfl

/- slices.IndexFunc[[]codicil/api.Field,codicil/api.Field] -/
def q181 (Z : List PanicEntry → Heap → Prop) (p0 : Sl) (p1 : Value) (h0 : Heap) (Q : Cur (flat [.one (.nt .i64)]) (Heap → Prop)) : Prop :=
 LOOP [.nt .i64] (fun x8 h2 nx1 =>
 COND (decide (x8 < (p0.len : Int))) (IXA 8 p0.a p0.len x8 fun a14 =>
 LDN [.tx, .nt .u8, .bl, .nt .i64, .tx, .sl, .sl, .sl] a14 0 (EQ h2) fun v15_0 v15_1 v15_2 v15_3 v15_4 v15_5 v15_6 v15_7 =>
 CALLV P Z p1 [.agg #[.string v15_0, .int .u8 v15_1, .bool v15_2, .int .i64 v15_3, .string v15_4, v15_5.v, v15_6.v, v15_7.v]] [.one (.bl)] h2 [] fun v16 h3 =>
 COND v16 (Q x8 h3)
 (nx1 (IntKind.wrap .i64 (x8 + 1)) h3))
 (Q (-1) h2)) 0 h0
def pl181 : Plan := ⟨[], [(2, ⟨[(8, .nt .i64)], [0, 1, 7], []⟩)], [], [], [], []⟩
theorem q181_eq (Z : List PanicEntry → Heap → Prop) (p0 : Sl) (p1 : Value) (h0 : Heap) (Q : Cur (flat [.one (.nt .i64)]) (Heap → Prop)) : q181 Z p0 p1 h0 Q = (WPF P Z Tryz.f181 pl181 [.one (.sl), .one (.oq)] h0 Q) p0 p1 := by kernel_rfl

/- codicil/value.letter -/
def q182 (Z : List PanicEntry → Heap → Prop) (p0 : Int) (h0 : Heap) (Q : Cur (flat [.one (.bl)]) (Heap → Prop)) : Prop :=
 JOIN [.bl] (fun k1 => COND (decide (97 ≤ p0)) (COND (decide (p0 ≤ 122)) (k1 true h0)
 (COND (decide (65 ≤ p0)) (COND (decide (p0 ≤ 90)) (k1 true h0)
 (COND (p0 == 95) (k1 true h0)
 (k1 (decide (p0 ≥ 128)) h0)))
 (COND (p0 == 95) (k1 true h0)
 (k1 (decide (p0 ≥ 128)) h0))))
 (COND (decide (65 ≤ p0)) (COND (decide (p0 ≤ 90)) (k1 true h0)
 (COND (p0 == 95) (k1 true h0)
 (k1 (decide (p0 ≥ 128)) h0)))
 (COND (p0 == 95) (k1 true h0)
 (k1 (decide (p0 ≥ 128)) h0))))
 fun x2 h2 =>
 Q x2 h2
def pl182 : Plan := ⟨[], [], [], [(1, ⟨[(2, .bl)], [], []⟩)], [], []⟩
theorem q182_eq (Z : List PanicEntry → Heap → Prop) (p0 : Int) (h0 : Heap) (Q : Cur (flat [.one (.bl)]) (Heap → Prop)) : q182 Z p0 h0 Q = (WPF P Z Tryz.f182 pl182 [.one (.nt .i32)] h0 Q) p0 := by kernel_rfl

/- unicode/utf8.word[string] -/
def q183 (Z : List PanicEntry → Heap → Prop) (p0 : ByteArray) (h0 : Heap) (Q : Cur (flat [.one (.nt .u64)]) (Heap → Prop)) : Prop :=
 STRIX p0 0 fun v22 =>
 STRIX p0 1 fun v25 =>
 SHI 8 (STRIX p0 2 fun v30 =>
 SHI 16 (STRIX p0 3 fun v35 =>
 SHI 24 (STRIX p0 4 fun v40 =>
 SHI 32 (STRIX p0 5 fun v45 =>
 SHI 40 (STRIX p0 6 fun v50 =>
 SHI 48 (STRIX p0 7 fun v55 =>
 SHI 56 (Q (ior .u64 (ior .u64 (ior .u64 (ior .u64 (ior .u64 (ior .u64 (ior .u64 (IntKind.wrap .u64 (v22)) (ishl .u64 (IntKind.wrap .u64 (v25)) 8)) (ishl .u64 (IntKind.wrap .u64 (v30)) 16)) (ishl .u64 (IntKind.wrap .u64 (v35)) 24)) (ishl .u64 (IntKind.wrap .u64 (v40)) 32)) (ishl .u64 (IntKind.wrap .u64 (v45)) 40)) (ishl .u64 (IntKind.wrap .u64 (v50)) 48)) (ishl .u64 (IntKind.wrap .u64 (v55)) 56)) h0)))))))
def pl183 : Plan := ⟨[], [], [], [], [(2, true, [0, 1, 2, 3, 4, 5, 6, 7, 8, 9, 10, 11, 12, 13, 14, 15, 16, 17, 18, 19, 20, 21, 22, 23, 24, 25, 26, 27, 28, 29, 30, 31, 32, 33, 34, 35, 36, 37, 38])], []⟩
theorem q183_eq (Z : List PanicEntry → Heap → Prop) (p0 : ByteArray) (h0 : Heap) (Q : Cur (flat [.one (.nt .u64)]) (Heap → Prop)) : q183 Z p0 h0 Q = (WPF P Z Tryz.f183 pl183 [.one (.tx)] h0 Q) p0 := by kernel_rfl

/- codicil/codicilref03.Name -/
def q184 (Z : List PanicEntry → Heap → Prop) (p0 : ByteArray) (h0 : Heap) (Q : Cur (flat [.one (.bl)]) (Heap → Prop)) : Prop :=
 CALL P Z 185 [.string p0] [.one (.nt .i64)] h0 [] fun v8 h1 =>
 JOIN [.bl] (fun k2 => COND (decide (v8 < 1)) (k2 true h1)
 (k2 (decide (v8 > 32)) h1))
 fun x14 h3 =>
 COND x14 (Q false h3)
 (LOOP [.nt .i64] (fun x4 h5 nx4 =>
 COND (decide (x4 < (p0.size : Int))) (STRIX p0 x4 fun v23 =>
 JOIN [.bl] (fun k6 => COND (decide (v23 ≥ 97)) (COND (decide (v23 ≤ 122)) (k6 true h5)
 (COND (decide (v23 ≥ 65)) (COND (decide (v23 ≤ 90)) (k6 true h5)
 (COND (v23 == 95) (k6 true h5)
 (k6 (decide (v23 ≥ 128)) h5)))
 (COND (v23 == 95) (k6 true h5)
 (k6 (decide (v23 ≥ 128)) h5))))
 (COND (decide (v23 ≥ 65)) (COND (decide (v23 ≤ 90)) (k6 true h5)
 (COND (v23 == 95) (k6 true h5)
 (k6 (decide (v23 ≥ 128)) h5)))
 (COND (v23 == 95) (k6 true h5)
 (k6 (decide (v23 ≥ 128)) h5))))
 fun x6 h7 =>
 JOIN [.bl] (fun k8 => COND (!x6) (COND (decide (v23 < 48)) (k8 true h7)
 (COND (decide (v23 > 57)) (k8 true h7)
 (k8 (x4 == 0) h7)))
 (k8 false h7))
 fun x59 h9 =>
 COND x59 (Q false h9)
 (nx4 (IntKind.wrap .i64 (x4 + 1)) h9))
 (Q true h5)) 0 h3)
def pl184 : Plan := ⟨[], [(5, ⟨[(4, .nt .i64)], [0], []⟩)], [], [(9, ⟨[(59, .bl)], [0, 4], []⟩), (8, ⟨[(6, .bl)], [0, 4, 5], []⟩), (2, ⟨[(14, .bl)], [0], []⟩)], [], []⟩
theorem q184_eq (Z : List PanicEntry → Heap → Prop) (p0 : ByteArray) (h0 : Heap) (Q : Cur (flat [.one (.bl)]) (Heap → Prop)) : q184 Z p0 h0 Q = (WPF P Z Tryz.f184 pl184 [.one (.tx)] h0 Q) p0 := by kernel_rfl

/- codicil/codicilref03.Runes -/
def q185 (Z : List PanicEntry → Heap → Prop) (p0 : ByteArray) (h0 : Heap) (Q : Cur (flat [.one (.nt .i64)]) (Heap → Prop)) : Prop :=
 LOOP [.tx, .nt .i64] (fun x0 x3 h2 nx1 =>
 COND (decide ((x0.size : Int) > 0)) (CALL P Z 191 [.string x0] [.one (.nt .i64), .one (.nt .i64)] h2 [] fun v11_0 v11_1 h3 =>
 COND (v11_1 == 0) (Q (-1) h3)
 (SLS x0 (some v11_1) none fun v20 =>
 nx1 v20 (IntKind.wrap .i64 (x3 + 1)) h3))
 (Q x3 h2)) p0 0 h0
def pl185 : Plan := ⟨[], [(2, ⟨[(0, .tx), (3, .nt .i64)], [], []⟩)], [], [], [], []⟩
theorem q185_eq (Z : List PanicEntry → Heap → Prop) (p0 : ByteArray) (h0 : Heap) (Q : Cur (flat [.one (.nt .i64)]) (Heap → Prop)) : q185 Z p0 h0 Q = (WPF P Z Tryz.f185 pl185 [.one (.tx)] h0 Q) p0 := by kernel_rfl

/- strings.HasPrefix -/
def q186 (Z : List PanicEntry → Heap → Prop) (p0 : ByteArray) (p1 : ByteArray) (h0 : Heap) (Q : Cur (flat [.one (.bl)]) (Heap → Prop)) : Prop :=
 CALL P Z 192 [.string p0, .string p1] [.one (.bl)] h0 [] fun v7 h1 =>
 Q v7 h1
def pl186 : Plan := ⟨[], [], [], [], [], []⟩
theorem q186_eq (Z : List PanicEntry → Heap → Prop) (p0 : ByteArray) (p1 : ByteArray) (h0 : Heap) (Q : Cur (flat [.one (.bl)]) (Heap → Prop)) : q186 Z p0 p1 h0 Q = (WPF P Z Tryz.f186 pl186 [.one (.tx), .one (.tx)] h0 Q) p0 p1 := by kernel_rfl

/- codicil/path.place -/
def q187 (Z : List PanicEntry → Heap → Prop) (p0 : ByteArray) (h0 : Heap) (Q : Cur (flat [.one (.nt .i64), .one (.nt .i64), .one (.bl)]) (Heap → Prop)) : Prop :=
 ITER p0 h0 fun b8 h1 =>
 LOOP [.nt .i64] (fun x2 h3 nx2 =>
 NEXTS b8 h3 (fun h4 => Q 0 (p0.size : Int) false h4)
 fun v9_p v9_c h4 =>
 JOIN [.bl] (fun k5 => COND (v9_c == 93) (k5 (decide (v9_p > 0)) h4)
 (k5 false h4))
 fun x13 h6 =>
 COND x13 (Q x2 (IntKind.wrap .i64 (v9_p + 1)) true h6)
 (JOIN [.bl] (fun k7 => COND (decide (v9_c < 48)) (k7 true h6)
 (COND (decide (v9_c > 57)) (k7 true h6)
 (COND (v9_p == 3) (k7 true h6)
 (COND (decide (v9_p > 0)) (STRIX p0 0 fun v39 =>
 k7 (v39 == 48) h6)
 (k7 false h6)))))
 fun x23 h8 =>
 COND x23 (Q 0 v9_p false h8)
 (nx2 (IntKind.wrap .i64 ((IntKind.wrap .i64 (10 * x2)) + (IntKind.wrap .i64 ((IntKind.wrap .i32 (v9_c - 48)))))) h8))) 0 h1
def pl187 : Plan := ⟨[], [(2, ⟨[(2, .nt .i64)], [0, 8], []⟩)], [], [(6, ⟨[(23, .bl)], [0, 2, 5, 6, 8], []⟩), (4, ⟨[(13, .bl)], [0, 2, 5, 6, 8], []⟩)], [], []⟩
theorem q187_eq (Z : List PanicEntry → Heap → Prop) (p0 : ByteArray) (h0 : Heap) (Q : Cur (flat [.one (.nt .i64), .one (.nt .i64), .one (.bl)]) (Heap → Prop)) : q187 Z p0 h0 Q = (WPF P Z Tryz.f187 pl187 [.one (.tx)] h0 Q) p0 := by kernel_rfl

/- slices.Clip[[]codicil/api.Step,codicil/api.Step] -/
def q189 (Z : List PanicEntry → Heap → Prop) (p0 : Sl) (h0 : Heap) (Q : Cur (flat [.one (.sl)]) (Heap → Prop)) : Prop :=
 SLI 2 p0.a p0.len p0.cap none (some (p0.len : Int)) (some (p0.len : Int)) fun v8 =>
 Q v8 h0
def pl189 : Plan := ⟨[], [], [], [], [], []⟩
theorem q189_eq (Z : List PanicEntry → Heap → Prop) (p0 : Sl) (h0 : Heap) (Q : Cur (flat [.one (.sl)]) (Heap → Prop)) : q189 Z p0 h0 Q = (WPF P Z Tryz.f189 pl189 [.one (.sl)] h0 Q) p0 := by kernel_rfl

/- slices.IndexFunc[[]codicil/api.Part,codicil/api.Part] -/
def q190 (Z : List PanicEntry → Heap → Prop) (p0 : Sl) (p1 : Value) (h0 : Heap) (Q : Cur (flat [.one (.nt .i64)]) (Heap → Prop)) : Prop :=
 LOOP [.nt .i64] (fun x8 h2 nx1 =>
 COND (decide (x8 < (p0.len : Int))) (IXA 2 p0.a p0.len x8 fun a14 =>
 LDN [.tx, .bl] a14 0 (EQ h2) fun v15_0 v15_1 =>
 CALLV P Z p1 [.agg #[.string v15_0, .bool v15_1]] [.one (.bl)] h2 [] fun v16 h3 =>
 COND v16 (Q x8 h3)
 (nx1 (IntKind.wrap .i64 (x8 + 1)) h3))
 (Q (-1) h2)) 0 h0
def pl190 : Plan := ⟨[], [(2, ⟨[(8, .nt .i64)], [0, 1, 7], []⟩)], [], [], [], []⟩
theorem q190_eq (Z : List PanicEntry → Heap → Prop) (p0 : Sl) (p1 : Value) (h0 : Heap) (Q : Cur (flat [.one (.nt .i64)]) (Heap → Prop)) : q190 Z p0 p1 h0 Q = (WPF P Z Tryz.f190 pl190 [.one (.sl), .one (.oq)] h0 Q) p0 p1 := by kernel_rfl

/- codicil/codicilref03.Rune -/
def q191 (Z : List PanicEntry → Heap → Prop) (p0 : ByteArray) (h0 : Heap) (Q : Cur (flat [.one (.nt .i64), .one (.nt .i64)]) (Heap → Prop)) : Prop :=
 COND ((p0.size : Int) == 0) (Q 0 0 h0)
 (STRIX p0 0 fun v14 =>
 JOIN [.nt .i64, .nt .i64, .nt .i64] (fun k1 => COND (decide ((IntKind.wrap .i64 (v14)) < 128)) (Q (IntKind.wrap .i64 (v14)) 1 h0)
 (JOIN [.bl] (fun k3 => COND (decide ((IntKind.wrap .i64 (v14)) ≥ 192)) (k3 (decide ((IntKind.wrap .i64 (v14)) < 224)) h0)
 (k3 false h0))
 fun x20 h4 =>
 COND x20 (k1 2 (IntKind.wrap .i64 ((IntKind.wrap .i64 (v14)) - 192)) 128 h4)
 (JOIN [.bl] (fun k5 => COND (decide ((IntKind.wrap .i64 (v14)) ≥ 224)) (k5 (decide ((IntKind.wrap .i64 (v14)) < 240)) h4)
 (k5 false h4))
 fun x29 h6 =>
 COND x29 (k1 3 (IntKind.wrap .i64 ((IntKind.wrap .i64 (v14)) - 224)) 2048 h6)
 (JOIN [.bl] (fun k7 => COND (decide ((IntKind.wrap .i64 (v14)) ≥ 240)) (k7 (decide ((IntKind.wrap .i64 (v14)) < 248)) h6)
 (k7 false h6))
 fun x38 h8 =>
 COND x38 (k1 4 (IntKind.wrap .i64 ((IntKind.wrap .i64 (v14)) - 240)) 65536 h8)
 (Q 0 0 h8)))))
 fun x5 x6 x7 h2 =>
 COND (decide ((p0.size : Int) < x5)) (Q 0 0 h2)
 (LOOP [.nt .i64, .nt .i64] (fun x6 x8 h10 nx9 =>
 COND (decide (x8 < x5)) (STRIX p0 x8 fun v58 =>
 JOIN [.bl] (fun k11 => COND (decide ((IntKind.wrap .i64 (v58)) < 128)) (k11 true h10)
 (k11 (decide ((IntKind.wrap .i64 (v58)) ≥ 192)) h10))
 fun x65 h12 =>
 COND x65 (Q 0 0 h12)
 (nx9 (IntKind.wrap .i64 ((IntKind.wrap .i64 ((IntKind.wrap .i64 (64 * x6)) + (IntKind.wrap .i64 (v58)))) - 128)) (IntKind.wrap .i64 (x8 + 1)) h12))
 (JOIN [.bl] (fun k13 => COND (decide (x6 < x7)) (k13 true h10)
 (CALL P Z 197 [.int .i64 x6] [.one (.bl)] h10 [] fun v76 h15 =>
 k13 (!v76) h15))
 fun x78 h14 =>
 COND x78 (Q 0 0 h14)
 (Q x6 x5 h14))) x6 1 h2))
def pl191 : Plan := ⟨[], [(17, ⟨[(6, .nt .i64), (8, .nt .i64)], [0, 5, 7], []⟩)], [(0, ⟨[(5, .nt .i64), (6, .nt .i64), (7, .nt .i64)], [0], []⟩)], [(23, ⟨[(78, .bl)], [5, 6], []⟩), (20, ⟨[(65, .bl)], [0, 5, 6, 7, 8, 9], []⟩), (12, ⟨[(38, .bl)], [0, 4], []⟩), (10, ⟨[(29, .bl)], [0, 4], []⟩), (8, ⟨[(20, .bl)], [0, 4], []⟩)], [], []⟩
theorem q191_eq (Z : List PanicEntry → Heap → Prop) (p0 : ByteArray) (h0 : Heap) (Q : Cur (flat [.one (.nt .i64), .one (.nt .i64)]) (Heap → Prop)) : q191 Z p0 h0 Q = (WPF P Z Tryz.f191 pl191 [.one (.tx)] h0 Q) p0 := by kernel_rfl

/- internal/stringslite.HasPrefix -/
def q192 (Z : List PanicEntry → Heap → Prop) (p0 : ByteArray) (p1 : ByteArray) (h0 : Heap) (Q : Cur (flat [.one (.bl)]) (Heap → Prop)) : Prop :=
 JOIN [.bl] (fun k1 => COND (decide ((p0.size : Int) ≥ (p1.size : Int))) (SLS p0 none (some (p1.size : Int)) fun v14 =>
 k1 (v14.toList == p1.toList) h0)
 (k1 false h0))
 fun x4 h2 =>
 Q x4 h2
def pl192 : Plan := ⟨[], [], [], [(1, ⟨[(4, .bl)], [], []⟩)], [], []⟩
theorem q192_eq (Z : List PanicEntry → Heap → Prop) (p0 : ByteArray) (p1 : ByteArray) (h0 : Heap) (Q : Cur (flat [.one (.bl)]) (Heap → Prop)) : q192 Z p0 p1 h0 Q = (WPF P Z Tryz.f192 pl192 [.one (.tx), .one (.tx)] h0 Q) p0 p1 := by kernel_rfl

/- codicil/codicilref03.IsRune -/
def q197 (Z : List PanicEntry → Heap → Prop) (p0 : Int) (h0 : Heap) (Q : Cur (flat [.one (.bl)]) (Heap → Prop)) : Prop :=
 JOIN [.bl] (fun k1 => COND (decide (p0 ≥ 0)) (COND (decide (p0 ≤ 1114111)) (COND (decide (p0 < 55296)) (k1 true h0)
 (k1 (decide (p0 > 57343)) h0))
 (k1 false h0))
 (k1 false h0))
 fun x2 h2 =>
 Q x2 h2
def pl197 : Plan := ⟨[], [], [], [(1, ⟨[(2, .bl)], [], []⟩)], [], []⟩
theorem q197_eq (Z : List PanicEntry → Heap → Prop) (p0 : Int) (h0 : Heap) (Q : Cur (flat [.one (.bl)]) (Heap → Prop)) : q197 Z p0 h0 Q = (WPF P Z Tryz.f197 pl197 [.one (.nt .i64)] h0 Q) p0 := by kernel_rfl

/- strings.IndexByte -/
def q198 (Z : List PanicEntry → Heap → Prop) (p0 : ByteArray) (p1 : Int) (h0 : Heap) (Q : Cur (flat [.one (.nt .i64)]) (Heap → Prop)) : Prop :=
 CALL P Z 202 [.string p0, .int .u8 p1] [.one (.nt .i64)] h0 [] fun v7 h1 =>
 Q v7 h1
def pl198 : Plan := ⟨[], [], [], [], [], []⟩
theorem q198_eq (Z : List PanicEntry → Heap → Prop) (p0 : ByteArray) (p1 : Int) (h0 : Heap) (Q : Cur (flat [.one (.nt .i64)]) (Heap → Prop)) : q198 Z p0 p1 h0 Q = (WPF P Z Tryz.f198 pl198 [.one (.tx), .one (.nt .u8)] h0 Q) p0 p1 := by kernel_rfl

/- unicode/utf8.ValidRune -/
def q199 (Z : List PanicEntry → Heap → Prop) (p0 : Int) (h0 : Heap) (Q : Cur (flat [.one (.bl)]) (Heap → Prop)) : Prop :=
 JOIN [.bl] (fun k1 => COND (decide (0 ≤ p0)) (k1 (decide (p0 < 55296)) h0)
 (k1 false h0))
 fun x3 h2 =>
 COND x3 (Q true h2)
 (JOIN [.bl] (fun k3 => COND (decide (57343 < p0)) (k3 (decide (p0 ≤ 1114111)) h2)
 (k3 false h2))
 fun x10 h4 =>
 COND x10 (Q true h4)
 (Q false h4))
def pl199 : Plan := ⟨[], [], [], [(3, ⟨[(10, .bl)], [], []⟩), (1, ⟨[(3, .bl)], [0], []⟩)], [], []⟩
theorem q199_eq (Z : List PanicEntry → Heap → Prop) (p0 : Int) (h0 : Heap) (Q : Cur (flat [.one (.bl)]) (Heap → Prop)) : q199 Z p0 h0 Q = (WPF P Z Tryz.f199 pl199 [.one (.nt .i32)] h0 Q) p0 := by kernel_rfl

/- internal/bytealg.Cutover -/
def q200 (Z : List PanicEntry → Heap → Prop) (p0 : Int) (h0 : Heap) (Q : Cur (flat [.one (.nt .i64)]) (Heap → Prop)) : Prop :=
 DIVI 8 (Q (IntKind.wrap .i64 (Int.tdiv (IntKind.wrap .i64 (p0 + 16)) 8)) h0)
def pl200 : Plan := ⟨[], [], [], [], [], []⟩
theorem q200_eq (Z : List PanicEntry → Heap → Prop) (p0 : Int) (h0 : Heap) (Q : Cur (flat [.one (.nt .i64)]) (Heap → Prop)) : q200 Z p0 h0 Q = (WPF P Z Tryz.f200 pl200 [.one (.nt .i64)] h0 Q) p0 := by kernel_rfl


end Go.VK
