/- THE QUESTIONS, part 1: printed by a program of ours from the program's functions; each equation is checked by the kernel. -/
import Derived.Test.YtemkcbopbinfmaaGreatDoorVKP
set_option linter.all false
set_option linter.unusedVariables false
set_option maxRecDepth 100000
namespace Go.VK
open Go
open Go.Proofs

/- codicil/codicillaw21.EventBytes -/
def q3 (Z : List PanicEntry → Heap → Prop) (p0 : Int) (p1 : ByteArray) (p2 : Int) (p3 : Bool) (p4 : Int) (p5 : ByteArray) (p6 : Sl) (p7 : Sl) (p8 : Sl) (p9 : Int) (p10 : Bool) (p11 : Int) (p12 : ByteArray) (p13 : Sl) (p14 : Sl) (p15 : Sl) (p16 : Sl) (h0 : Heap) (Q : Cur (flat [.one (.bl)]) (Heap → Prop)) : Prop :=
 ALLOC [.int .u8 p0, .string p1, .int .u8 p2, .bool p3, .int .i64 p4, .string p5, p6.v, p7.v, p8.v, .int .u8 p9, .bool p10, .int .i64 p11, .string p12, p13.v, p14.v, p15.v] 29 h0 fun b2 h1 =>
 JOIN [.bl] (fun k2 => CALL P Z 6 [.agg #[.int .u8 p0, .string p1, .int .u8 p2, .bool p3, .int .i64 p4, .string p5, p6.v, p7.v, p8.v, .int .u8 p9, .bool p10, .int .i64 p11, .string p12, p13.v, p14.v, p15.v]] [.one (.bl)] h1 [b2] fun v22 h4 =>
 COND v22 (k2 true h4)
 (k2 (decide ((p16.len : Int) > 20000)) h4))
 fun x27 h3 =>
 COND x27 (Q true h3)
 (CALL P Z 7 [.agg #[.int .u8 p0, .string p1, .int .u8 p2, .bool p3, .int .i64 p4, .string p5, p6.v, p7.v, p8.v, .int .u8 p9, .bool p10, .int .i64 p11, .string p12, p13.v, p14.v, p15.v]] [.agg [.nt .u8, .tx, .nt .u8, .bl, .nt .i64, .tx, .sl, .sl, .sl, .nt .u8, .bl, .nt .i64, .tx, .sl, .sl, .sl]] h3 [b2] fun v29_0 v29_1 v29_2 v29_3 v29_4 v29_5 v29_6 v29_7 v29_8 v29_9 v29_10 v29_11 v29_12 v29_13 v29_14 v29_15 h5 =>
 ALLOC [.int .u8 0, .string ByteArray.empty, .int .u8 0, .bool false, .int .i64 0, .string ByteArray.empty, .slice none 0 0, .slice none 0 0, .slice none 0 0, .int .u8 0, .bool false, .int .i64 0, .string ByteArray.empty, .slice none 0 0, .slice none 0 0, .slice none 0 0] 29 h5 fun b5 h6 =>
 PUTN b5 [.int .u8 v29_0, .string v29_1, .int .u8 v29_2, .bool v29_3, .int .i64 v29_4, .string v29_5, v29_6.v, v29_7.v, v29_8.v, .int .u8 v29_9, .bool v29_10, .int .i64 v29_11, .string v29_12, v29_13.v, v29_14.v, v29_15.v] 0 h6 fun h7 =>
 CALL P Z 8 [p16.v] [.one (.sl)] h7 [b2, b5] fun v31 h8 =>
 CALL P Z 9 [.agg #[.int .u8 v29_0, .string v29_1, .int .u8 v29_2, .bool v29_3, .int .i64 v29_4, .string v29_5, v29_6.v, v29_7.v, v29_8.v, .int .u8 v29_9, .bool v29_10, .int .i64 v29_11, .string v29_12, v29_13.v, v29_14.v, v29_15.v]] [.one (.sl), .one (.nt .u16)] h8 [b2, b5] fun v34_0 v34_1 h9 =>
 CALL P Z 10 [v31.v] [.agg [.nt .u8, .tx, .nt .u8, .bl, .nt .i64, .tx, .sl, .sl, .sl, .nt .u8, .bl, .nt .i64, .tx, .sl, .sl, .sl], .one (.nt .u16)] h9 [b2, b5] fun v39_0 v39_1 v39_2 v39_3 v39_4 v39_5 v39_6 v39_7 v39_8 v39_9 v39_10 v39_11 v39_12 v39_13 v39_14 v39_15 v39_16 h10 =>
 ALLOC [.int .u8 0, .string ByteArray.empty, .int .u8 0, .bool false, .int .i64 0, .string ByteArray.empty, .slice none 0 0, .slice none 0 0, .slice none 0 0, .int .u8 0, .bool false, .int .i64 0, .string ByteArray.empty, .slice none 0 0, .slice none 0 0, .slice none 0 0] 29 h10 fun b9 h11 =>
 PUTN b9 [.int .u8 v39_0, .string v39_1, .int .u8 v39_2, .bool v39_3, .int .i64 v39_4, .string v39_5, v39_6.v, v39_7.v, v39_8.v, .int .u8 v39_9, .bool v39_10, .int .i64 v39_11, .string v39_12, v39_13.v, v39_14.v, v39_15.v] 0 h11 fun h12 =>
 CALL P Z 10 [v31.v] [.agg [.nt .u8, .tx, .nt .u8, .bl, .nt .i64, .tx, .sl, .sl, .sl, .nt .u8, .bl, .nt .i64, .tx, .sl, .sl, .sl], .one (.nt .u16)] h12 [b2, b5, b9] fun v44_0 v44_1 v44_2 v44_3 v44_4 v44_5 v44_6 v44_7 v44_8 v44_9 v44_10 v44_11 v44_12 v44_13 v44_14 v44_15 v44_16 h13 =>
 ALLOC [.int .u8 0, .string ByteArray.empty, .int .u8 0, .bool false, .int .i64 0, .string ByteArray.empty, .slice none 0 0, .slice none 0 0, .slice none 0 0, .int .u8 0, .bool false, .int .i64 0, .string ByteArray.empty, .slice none 0 0, .slice none 0 0, .slice none 0 0] 29 h13 fun b11 h14 =>
 PUTN b11 [.int .u8 v44_0, .string v44_1, .int .u8 v44_2, .bool v44_3, .int .i64 v44_4, .string v44_5, v44_6.v, v44_7.v, v44_8.v, .int .u8 v44_9, .bool v44_10, .int .i64 v44_11, .string v44_12, v44_13.v, v44_14.v, v44_15.v] 0 h14 fun h15 =>
 JOIN [.bl] (fun k16 => CALL P Z 11 [.agg #[.int .u8 v29_0, .string v29_1, .int .u8 v29_2, .bool v29_3, .int .i64 v29_4, .string v29_5, v29_6.v, v29_7.v, v29_8.v, .int .u8 v29_9, .bool v29_10, .int .i64 v29_11, .string v29_12, v29_13.v, v29_14.v, v29_15.v], .agg #[.int .u8 p0, .string p1, .int .u8 p2, .bool p3, .int .i64 p4, .string p5, p6.v, p7.v, p8.v, .int .u8 p9, .bool p10, .int .i64 p11, .string p12, p13.v, p14.v, p15.v]] [.one (.bl)] h15 [b2, b5, b9, b11] fun v49 h18 =>
 COND v49 (CALL P Z 12 [v31.v, p16.v] [.one (.bl)] h18 [b2, b5, b9, b11] fun v53 h19 =>
 k16 v53 h19)
 (k16 false h18))
 fun x13 h17 =>
 CALL P Z 13 [.agg #[.int .u8 v29_0, .string v29_1, .int .u8 v29_2, .bool v29_3, .int .i64 v29_4, .string v29_5, v29_6.v, v29_7.v, v29_8.v, .int .u8 v29_9, .bool v29_10, .int .i64 v29_11, .string v29_12, v29_13.v, v29_14.v, v29_15.v]] [] h17 [b2, b5, b9, b11] fun h20 =>
 CALL P Z 14 [v31.v] [] h20 [b2, b5, b9, b11] fun h21 =>
 CALL P Z 15 [.agg #[.int .u8 p0, .string p1, .int .u8 p2, .bool p3, .int .i64 p4, .string p5, p6.v, p7.v, p8.v, .int .u8 p9, .bool p10, .int .i64 p11, .string p12, p13.v, p14.v, p15.v]] [.one (.sl), .one (.nt .i64)] h21 [b2, b5, b9, b11] fun v61_0 v61_1 h22 =>
 CALL P Z 16 [p16.v] [.agg [.nt .u8, .tx, .nt .u8, .bl, .nt .i64, .tx, .sl, .sl, .sl, .nt .u8, .bl, .nt .i64, .tx, .sl, .sl, .sl], .one (.nt .i64)] h22 [b2, b5, b9, b11] fun v66_0 v66_1 v66_2 v66_3 v66_4 v66_5 v66_6 v66_7 v66_8 v66_9 v66_10 v66_11 v66_12 v66_13 v66_14 v66_15 v66_16 h23 =>
 ALLOC [.int .u8 0, .string ByteArray.empty, .int .u8 0, .bool false, .int .i64 0, .string ByteArray.empty, .slice none 0 0, .slice none 0 0, .slice none 0 0, .int .u8 0, .bool false, .int .i64 0, .string ByteArray.empty, .slice none 0 0, .slice none 0 0, .slice none 0 0] 29 h23 fun b16 h24 =>
 PUTN b16 [.int .u8 v66_0, .string v66_1, .int .u8 v66_2, .bool v66_3, .int .i64 v66_4, .string v66_5, v66_6.v, v66_7.v, v66_8.v, .int .u8 v66_9, .bool v66_10, .int .i64 v66_11, .string v66_12, v66_13.v, v66_14.v, v66_15.v] 0 h24 fun h25 =>
 ALLOC [.slice none 0 0, .slice none 0 0, .slice none 0 0, .slice none 0 0, .slice none 0 0, .slice none 0 0, .slice none 0 0, .slice none 0 0, .slice none 0 0, .slice none 0 0, .slice none 0 0, .slice none 0 0, .slice none 0 0, .slice none 0 0, .slice none 0 0, .slice none 0 0, .slice none 0 0, .slice none 0 0, .slice none 0 0, .slice none 0 0, .slice none 0 0, .slice none 0 0, .slice none 0 0] 72 h25 fun b70 h26 =>
 CALL P Z 17 [.pointer (some ⟨b70, 0, none⟩), v34_0.v] [] h26 [b2, b5, b9, b11, b16] fun h27 =>
 CALL P Z 18 [.pointer (some ⟨b70, 0, none⟩), .agg #[.int .u8 v39_0, .string v39_1, .int .u8 v39_2, .bool v39_3, .int .i64 v39_4, .string v39_5, v39_6.v, v39_7.v, v39_8.v, .int .u8 v39_9, .bool v39_10, .int .i64 v39_11, .string v39_12, v39_13.v, v39_14.v, v39_15.v]] [] h27 [b2, b5, b9, b11, b16] fun h28 =>
 CALL P Z 18 [.pointer (some ⟨b70, 0, none⟩), .agg #[.int .u8 v44_0, .string v44_1, .int .u8 v44_2, .bool v44_3, .int .i64 v44_4, .string v44_5, v44_6.v, v44_7.v, v44_8.v, .int .u8 v44_9, .bool v44_10, .int .i64 v44_11, .string v44_12, v44_13.v, v44_14.v, v44_15.v]] [] h28 [b2, b5, b9, b11, b16] fun h29 =>
 JOIN [.bl] (fun k30 => COND ((IntKind.wrap .i64 (v34_1)) == v61_1) (CALL P Z 19 [v34_0.v, v61_0.v] [.one (.bl)] h29 [b2, b5, b9, b11, b16] fun v87 h32 =>
 k30 v87 h32)
 (k30 false h29))
 fun x19 h31 =>
 JOIN [.bl] (fun k33 => COND ((IntKind.wrap .i64 (v39_16)) == v66_16) (COND ((IntKind.wrap .i64 (v44_16)) == v66_16) (CALL P Z 20 [.agg #[.int .u8 v39_0, .string v39_1, .int .u8 v39_2, .bool v39_3, .int .i64 v39_4, .string v39_5, v39_6.v, v39_7.v, v39_8.v, .int .u8 v39_9, .bool v39_10, .int .i64 v39_11, .string v39_12, v39_13.v, v39_14.v, v39_15.v], .agg #[.int .u8 v66_0, .string v66_1, .int .u8 v66_2, .bool v66_3, .int .i64 v66_4, .string v66_5, v66_6.v, v66_7.v, v66_8.v, .int .u8 v66_9, .bool v66_10, .int .i64 v66_11, .string v66_12, v66_13.v, v66_14.v, v66_15.v]] [.one (.bl)] h31 [b9, b11, b16] fun v102 h35 =>
 COND v102 (CALL P Z 20 [.agg #[.int .u8 v44_0, .string v44_1, .int .u8 v44_2, .bool v44_3, .int .i64 v44_4, .string v44_5, v44_6.v, v44_7.v, v44_8.v, .int .u8 v44_9, .bool v44_10, .int .i64 v44_11, .string v44_12, v44_13.v, v44_14.v, v44_15.v], .agg #[.int .u8 v66_0, .string v66_1, .int .u8 v66_2, .bool v66_3, .int .i64 v66_4, .string v66_5, v66_6.v, v66_7.v, v66_8.v, .int .u8 v66_9, .bool v66_10, .int .i64 v66_11, .string v66_12, v66_13.v, v66_14.v, v66_15.v]] [.one (.bl)] h35 [b9, b11, b16] fun v107 h36 =>
 k33 v107 h36)
 (k33 false h35))
 (k33 false h31))
 (k33 false h31))
 fun x20 h34 =>
 JOIN [.bl] (fun k37 => CALL P Z 21 [] [.one (.bl)] h34 [] fun v109 h39 =>
 COND v109 (COND x13 (COND x19 (COND x20 (CALL P Z 22 [.pointer (some ⟨b70, 0, none⟩)] [.one (.bl)] h39 [] fun v121 h40 =>
 k37 v121 h40)
 (k37 false h39))
 (k37 false h39))
 (k37 false h39))
 (k37 false h39))
 fun x4 h38 =>
 Q x4 h38)
def pl3 : Plan := ⟨[], [], [], [(19, ⟨[(4, .bl)], [], []⟩), (18, ⟨[(20, .bl)], [13, 18, 19], []⟩), (17, ⟨[(19, .bl)], [9, 10, 11, 12, 13, 16, 17, 18], [9, 11, 16]⟩), (8, ⟨[(13, .bl)], [1, 2, 5, 6, 7, 8, 9, 10, 11, 12], [2, 5, 9, 11]⟩), (1, ⟨[(27, .bl)], [1, 2], [2]⟩)], [], []⟩
theorem q3_eq (Z : List PanicEntry → Heap → Prop) (p0 : Int) (p1 : ByteArray) (p2 : Int) (p3 : Bool) (p4 : Int) (p5 : ByteArray) (p6 : Sl) (p7 : Sl) (p8 : Sl) (p9 : Int) (p10 : Bool) (p11 : Int) (p12 : ByteArray) (p13 : Sl) (p14 : Sl) (p15 : Sl) (p16 : Sl) (h0 : Heap) (Q : Cur (flat [.one (.bl)]) (Heap → Prop)) : q3 Z p0 p1 p2 p3 p4 p5 p6 p7 p8 p9 p10 p11 p12 p13 p14 p15 p16 h0 Q = (WPF P Z Tryz.f3 pl3 [.agg [.nt .u8, .tx, .nt .u8, .bl, .nt .i64, .tx, .sl, .sl, .sl, .nt .u8, .bl, .nt .i64, .tx, .sl, .sl, .sl], .one (.sl)] h0 Q) p0 p1 p2 p3 p4 p5 p6 p7 p8 p9 p10 p11 p12 p13 p14 p15 p16 := by kernel_rfl

/- codicil/codicillaw21.EventBack -/
def q4 (Z : List PanicEntry → Heap → Prop) (p0 : Int) (p1 : ByteArray) (p2 : Int) (p3 : Bool) (p4 : Int) (p5 : ByteArray) (p6 : Sl) (p7 : Sl) (p8 : Sl) (p9 : Int) (p10 : Bool) (p11 : Int) (p12 : ByteArray) (p13 : Sl) (p14 : Sl) (p15 : Sl) (p16 : Sl) (h0 : Heap) (Q : Cur (flat [.one (.bl)]) (Heap → Prop)) : Prop :=
 ALLOC [.int .u8 p0, .string p1, .int .u8 p2, .bool p3, .int .i64 p4, .string p5, p6.v, p7.v, p8.v, .int .u8 p9, .bool p10, .int .i64 p11, .string p12, p13.v, p14.v, p15.v] 29 h0 fun b2 h1 =>
 JOIN [.bl] (fun k2 => CALL P Z 6 [.agg #[.int .u8 p0, .string p1, .int .u8 p2, .bool p3, .int .i64 p4, .string p5, p6.v, p7.v, p8.v, .int .u8 p9, .bool p10, .int .i64 p11, .string p12, p13.v, p14.v, p15.v]] [.one (.bl)] h1 [b2] fun v14 h4 =>
 COND v14 (k2 true h4)
 (k2 (decide ((p16.len : Int) > 20000)) h4))
 fun x19 h3 =>
 COND x19 (Q true h3)
 (CALL P Z 9 [.agg #[.int .u8 p0, .string p1, .int .u8 p2, .bool p3, .int .i64 p4, .string p5, p6.v, p7.v, p8.v, .int .u8 p9, .bool p10, .int .i64 p11, .string p12, p13.v, p14.v, p15.v]] [.one (.sl), .one (.nt .u16)] h3 [b2] fun v22_0 v22_1 h5 =>
 CALL P Z 10 [p16.v] [.agg [.nt .u8, .tx, .nt .u8, .bl, .nt .i64, .tx, .sl, .sl, .sl, .nt .u8, .bl, .nt .i64, .tx, .sl, .sl, .sl], .one (.nt .u16)] h5 [b2] fun v27_0 v27_1 v27_2 v27_3 v27_4 v27_5 v27_6 v27_7 v27_8 v27_9 v27_10 v27_11 v27_12 v27_13 v27_14 v27_15 v27_16 h6 =>
 ALLOC [.int .u8 0, .string ByteArray.empty, .int .u8 0, .bool false, .int .i64 0, .string ByteArray.empty, .slice none 0 0, .slice none 0 0, .slice none 0 0, .int .u8 0, .bool false, .int .i64 0, .string ByteArray.empty, .slice none 0 0, .slice none 0 0, .slice none 0 0] 29 h6 fun b7 h7 =>
 PUTN b7 [.int .u8 v27_0, .string v27_1, .int .u8 v27_2, .bool v27_3, .int .i64 v27_4, .string v27_5, v27_6.v, v27_7.v, v27_8.v, .int .u8 v27_9, .bool v27_10, .int .i64 v27_11, .string v27_12, v27_13.v, v27_14.v, v27_15.v] 0 h7 fun h8 =>
 CALL P Z 21 [] [.one (.bl)] h8 [b2, b7] fun v30 h9 =>
 COND (!v30) (Q false h9)
 (JOIN [] (fun k10 => COND (v22_1 == 0) (CALL P Z 10 [v22_0.v] [.agg [.nt .u8, .tx, .nt .u8, .bl, .nt .i64, .tx, .sl, .sl, .sl, .nt .u8, .bl, .nt .i64, .tx, .sl, .sl, .sl], .one (.nt .u16)] h9 [b2, b7] fun v36_0 v36_1 v36_2 v36_3 v36_4 v36_5 v36_6 v36_7 v36_8 v36_9 v36_10 v36_11 v36_12 v36_13 v36_14 v36_15 v36_16 h12 =>
 ALLOC [.int .u8 0, .string ByteArray.empty, .int .u8 0, .bool false, .int .i64 0, .string ByteArray.empty, .slice none 0 0, .slice none 0 0, .slice none 0 0, .int .u8 0, .bool false, .int .i64 0, .string ByteArray.empty, .slice none 0 0, .slice none 0 0, .slice none 0 0] 29 h12 fun b9 h13 =>
 PUTN b9 [.int .u8 v36_0, .string v36_1, .int .u8 v36_2, .bool v36_3, .int .i64 v36_4, .string v36_5, v36_6.v, v36_7.v, v36_8.v, .int .u8 v36_9, .bool v36_10, .int .i64 v36_11, .string v36_12, v36_13.v, v36_14.v, v36_15.v] 0 h13 fun h14 =>
 JOIN [.bl] (fun k15 => COND (v36_16 != 0) (k15 true h14)
 (CALL P Z 20 [.agg #[.int .u8 v36_0, .string v36_1, .int .u8 v36_2, .bool v36_3, .int .i64 v36_4, .string v36_5, v36_6.v, v36_7.v, v36_8.v, .int .u8 v36_9, .bool v36_10, .int .i64 v36_11, .string v36_12, v36_13.v, v36_14.v, v36_15.v], .agg #[.int .u8 p0, .string p1, .int .u8 p2, .bool p3, .int .i64 p4, .string p5, p6.v, p7.v, p8.v, .int .u8 p9, .bool p10, .int .i64 p11, .string p12, p13.v, p14.v, p15.v]] [.one (.bl)] h14 [b2, b7, b9] fun v44 h17 =>
 k15 (!v44) h17))
 fun x46 h16 =>
 COND x46 (Q false h16)
 (k10 h16))
 (k10 h9))
 fun h11 =>
 COND (v27_16 != 0) (JOIN [.bl] (fun k18 => CALL P Z 20 [.agg #[.int .u8 v27_0, .string v27_1, .int .u8 v27_2, .bool v27_3, .int .i64 v27_4, .string v27_5, v27_6.v, v27_7.v, v27_8.v, .int .u8 v27_9, .bool v27_10, .int .i64 v27_11, .string v27_12, v27_13.v, v27_14.v, v27_15.v], .agg #[.int .u8 0, .string ByteArray.empty, .int .u8 0, .bool false, .int .i64 0, .string ByteArray.empty, .slice none 0 0, .slice none 0 0, .slice none 0 0, .int .u8 0, .bool false, .int .i64 0, .string ByteArray.empty, .slice none 0 0, .slice none 0 0, .slice none 0 0]] [.one (.bl)] h11 [b7] fun v51 h20 =>
 COND v51 (COND (v22_1 != 0) (k18 true h20)
 (CALL P Z 19 [v22_0.v, p16.v] [.one (.bl)] h20 [b7] fun v58 h21 =>
 k18 (!v58) h21))
 (k18 false h20))
 fun x4 h19 =>
 Q x4 h19)
 (CALL P Z 9 [.agg #[.int .u8 v27_0, .string v27_1, .int .u8 v27_2, .bool v27_3, .int .i64 v27_4, .string v27_5, v27_6.v, v27_7.v, v27_8.v, .int .u8 v27_9, .bool v27_10, .int .i64 v27_11, .string v27_12, v27_13.v, v27_14.v, v27_15.v]] [.one (.sl), .one (.nt .u16)] h11 [b7] fun v64_0 v64_1 h22 =>
 JOIN [.bl] (fun k23 => COND (v64_1 == 0) (CALL P Z 19 [v64_0.v, p16.v] [.one (.bl)] h22 [b7] fun v72 h25 =>
 k23 v72 h25)
 (k23 false h22))
 fun x4 h24 =>
 Q x4 h24)))
def pl4 : Plan := ⟨[(11, ⟨[], [1, 5, 6, 7, 8], [7]⟩)], [], [], [(14, ⟨[(4, .bl)], [], []⟩), (12, ⟨[(4, .bl)], [], []⟩), (9, ⟨[(46, .bl)], [1, 5, 6, 7, 8], [7]⟩), (1, ⟨[(19, .bl)], [1, 2], [2]⟩)], [], []⟩
theorem q4_eq (Z : List PanicEntry → Heap → Prop) (p0 : Int) (p1 : ByteArray) (p2 : Int) (p3 : Bool) (p4 : Int) (p5 : ByteArray) (p6 : Sl) (p7 : Sl) (p8 : Sl) (p9 : Int) (p10 : Bool) (p11 : Int) (p12 : ByteArray) (p13 : Sl) (p14 : Sl) (p15 : Sl) (p16 : Sl) (h0 : Heap) (Q : Cur (flat [.one (.bl)]) (Heap → Prop)) : q4 Z p0 p1 p2 p3 p4 p5 p6 p7 p8 p9 p10 p11 p12 p13 p14 p15 p16 h0 Q = (WPF P Z Tryz.f4 pl4 [.agg [.nt .u8, .tx, .nt .u8, .bl, .nt .i64, .tx, .sl, .sl, .sl, .nt .u8, .bl, .nt .i64, .tx, .sl, .sl, .sl], .one (.sl)] h0 Q) p0 p1 p2 p3 p4 p5 p6 p7 p8 p9 p10 p11 p12 p13 p14 p15 p16 := by kernel_rfl

/- codicil/codicillaw21.EventOne -/
def q5 (Z : List PanicEntry → Heap → Prop) (p0 : Int) (p1 : ByteArray) (p2 : Int) (p3 : Bool) (p4 : Int) (p5 : ByteArray) (p6 : Sl) (p7 : Sl) (p8 : Sl) (p9 : Int) (p10 : Bool) (p11 : Int) (p12 : ByteArray) (p13 : Sl) (p14 : Sl) (p15 : Sl) (p16 : Int) (p17 : ByteArray) (p18 : Int) (p19 : Bool) (p20 : Int) (p21 : ByteArray) (p22 : Sl) (p23 : Sl) (p24 : Sl) (p25 : Int) (p26 : Bool) (p27 : Int) (p28 : ByteArray) (p29 : Sl) (p30 : Sl) (p31 : Sl) (h0 : Heap) (Q : Cur (flat [.one (.bl)]) (Heap → Prop)) : Prop :=
 ALLOC [.int .u8 p0, .string p1, .int .u8 p2, .bool p3, .int .i64 p4, .string p5, p6.v, p7.v, p8.v, .int .u8 p9, .bool p10, .int .i64 p11, .string p12, p13.v, p14.v, p15.v] 29 h0 fun b2 h1 =>
 ALLOC [.int .u8 p16, .string p17, .int .u8 p18, .bool p19, .int .i64 p20, .string p21, p22.v, p23.v, p24.v, .int .u8 p25, .bool p26, .int .i64 p27, .string p28, p29.v, p30.v, p31.v] 29 h1 fun b3 h2 =>
 JOIN [.bl] (fun k3 => CALL P Z 6 [.agg #[.int .u8 p0, .string p1, .int .u8 p2, .bool p3, .int .i64 p4, .string p5, p6.v, p7.v, p8.v, .int .u8 p9, .bool p10, .int .i64 p11, .string p12, p13.v, p14.v, p15.v]] [.one (.bl)] h2 [b2, b3] fun v10 h5 =>
 COND v10 (k3 true h5)
 (CALL P Z 6 [.agg #[.int .u8 p16, .string p17, .int .u8 p18, .bool p19, .int .i64 p20, .string p21, p22.v, p23.v, p24.v, .int .u8 p25, .bool p26, .int .i64 p27, .string p28, p29.v, p30.v, p31.v]] [.one (.bl)] h5 [b2, b3] fun v13 h6 =>
 COND v13 (k3 true h6)
 (CALL P Z 21 [] [.one (.bl)] h6 [b2, b3] fun v16 h7 =>
 k3 (!v16) h7)))
 fun x18 h4 =>
 COND x18 (CALL P Z 21 [] [.one (.bl)] h4 [b2, b3] fun v19 h8 =>
 Q v19 h8)
 (CALL P Z 9 [.agg #[.int .u8 p0, .string p1, .int .u8 p2, .bool p3, .int .i64 p4, .string p5, p6.v, p7.v, p8.v, .int .u8 p9, .bool p10, .int .i64 p11, .string p12, p13.v, p14.v, p15.v]] [.one (.sl), .one (.nt .u16)] h4 [b2, b3] fun v22_0 v22_1 h9 =>
 CALL P Z 9 [.agg #[.int .u8 p16, .string p17, .int .u8 p18, .bool p19, .int .i64 p20, .string p21, p22.v, p23.v, p24.v, .int .u8 p25, .bool p26, .int .i64 p27, .string p28, p29.v, p30.v, p31.v]] [.one (.sl), .one (.nt .u16)] h9 [b2, b3] fun v27_0 v27_1 h10 =>
 JOIN [.bl] (fun k11 => DRAW h10 [b2, b3] fun S13 =>
 COND (v22_1 != 0) (SS S13 h10 (
 SS S13 h10 (
 k11 true h10)))
 (COND (v27_1 != 0) (SS S13 h10 (
 SS S13 h10 (
 k11 true h10)))
 (CALL P (fun _ _ => False) 19 [v22_0.v, v27_0.v] [.one (.bl)] h10 [b2, b3] fun v39 h14 =>
 SS S13 h14 (
 CALL P (fun _ _ => False) 20 [.agg #[.int .u8 p0, .string p1, .int .u8 p2, .bool p3, .int .i64 p4, .string p5, p6.v, p7.v, p8.v, .int .u8 p9, .bool p10, .int .i64 p11, .string p12, p13.v, p14.v, p15.v], .agg #[.int .u8 p16, .string p17, .int .u8 p18, .bool p19, .int .i64 p20, .string p21, p22.v, p23.v, p24.v, .int .u8 p25, .bool p26, .int .i64 p27, .string p28, p29.v, p30.v, p31.v]] [.one (.bl)] h14 [b2, b3] fun v42 h15 =>
 SS S13 h15 (
 k11 ((v39 == v42)) h15)))))
 fun x4 h12 =>
 Q x4 h12)
def pl5 : Plan := ⟨[], [], [], [(5, ⟨[(4, .bl)], [], []⟩), (1, ⟨[(18, .bl)], [2, 3], [2, 3]⟩)], [(5, false, [0, 1, 2, 3, 4, 5, 6, 7, 8, 10, 11, 9, 12, 13, 14, 15])], []⟩
theorem q5_eq (Z : List PanicEntry → Heap → Prop) (p0 : Int) (p1 : ByteArray) (p2 : Int) (p3 : Bool) (p4 : Int) (p5 : ByteArray) (p6 : Sl) (p7 : Sl) (p8 : Sl) (p9 : Int) (p10 : Bool) (p11 : Int) (p12 : ByteArray) (p13 : Sl) (p14 : Sl) (p15 : Sl) (p16 : Int) (p17 : ByteArray) (p18 : Int) (p19 : Bool) (p20 : Int) (p21 : ByteArray) (p22 : Sl) (p23 : Sl) (p24 : Sl) (p25 : Int) (p26 : Bool) (p27 : Int) (p28 : ByteArray) (p29 : Sl) (p30 : Sl) (p31 : Sl) (h0 : Heap) (Q : Cur (flat [.one (.bl)]) (Heap → Prop)) : q5 Z p0 p1 p2 p3 p4 p5 p6 p7 p8 p9 p10 p11 p12 p13 p14 p15 p16 p17 p18 p19 p20 p21 p22 p23 p24 p25 p26 p27 p28 p29 p30 p31 h0 Q = (WPF P Z Tryz.f5 pl5 [.agg [.nt .u8, .tx, .nt .u8, .bl, .nt .i64, .tx, .sl, .sl, .sl, .nt .u8, .bl, .nt .i64, .tx, .sl, .sl, .sl], .agg [.nt .u8, .tx, .nt .u8, .bl, .nt .i64, .tx, .sl, .sl, .sl, .nt .u8, .bl, .nt .i64, .tx, .sl, .sl, .sl]] h0 Q) p0 p1 p2 p3 p4 p5 p6 p7 p8 p9 p10 p11 p12 p13 p14 p15 p16 p17 p18 p19 p20 p21 p22 p23 p24 p25 p26 p27 p28 p29 p30 p31 := by kernel_rfl

/- codicil/codicillaw21.much -/
def q6 (Z : List PanicEntry → Heap → Prop) (p0 : Int) (p1 : ByteArray) (p2 : Int) (p3 : Bool) (p4 : Int) (p5 : ByteArray) (p6 : Sl) (p7 : Sl) (p8 : Sl) (p9 : Int) (p10 : Bool) (p11 : Int) (p12 : ByteArray) (p13 : Sl) (p14 : Sl) (p15 : Sl) (h0 : Heap) (Q : Cur (flat [.one (.bl)]) (Heap → Prop)) : Prop :=
 ALLOC [.int .u8 p0, .string p1, .int .u8 p2, .bool p3, .int .i64 p4, .string p5, p6.v, p7.v, p8.v, .int .u8 p9, .bool p10, .int .i64 p11, .string p12, p13.v, p14.v, p15.v] 29 h0 fun b1 h1 =>
 DRAW h1 [b1] fun S2 =>
 DIVI 64 (CALL P (fun _ _ => False) 23 [.agg #[.int .u8 p9, .bool p10, .int .i64 p11, .string p12, p13.v, p14.v, p15.v], .int .i64 (IntKind.wrap .i64 (Int.tdiv (p1.size : Int) 64))] [.one (.nt .i64)] h1 [b1] fun v11 h3 =>
 SS S2 h3 (
 CALL P (fun _ _ => False) 23 [.agg #[.int .u8 p2, .bool p3, .int .i64 p4, .string p5, p6.v, p7.v, p8.v], .int .i64 v11] [.one (.nt .i64)] h3 [b1] fun v12 h4 =>
 SS S2 h4 (
 Q (decide (v12 > 20000)) h4)))
def pl6 : Plan := ⟨[], [], [], [], [(1, false, [0, 1, 2, 3, 4, 5, 6, 7, 8, 9, 10, 11])], []⟩
theorem q6_eq (Z : List PanicEntry → Heap → Prop) (p0 : Int) (p1 : ByteArray) (p2 : Int) (p3 : Bool) (p4 : Int) (p5 : ByteArray) (p6 : Sl) (p7 : Sl) (p8 : Sl) (p9 : Int) (p10 : Bool) (p11 : Int) (p12 : ByteArray) (p13 : Sl) (p14 : Sl) (p15 : Sl) (h0 : Heap) (Q : Cur (flat [.one (.bl)]) (Heap → Prop)) : q6 Z p0 p1 p2 p3 p4 p5 p6 p7 p8 p9 p10 p11 p12 p13 p14 p15 h0 Q = (WPF P Z Tryz.f6 pl6 [.agg [.nt .u8, .tx, .nt .u8, .bl, .nt .i64, .tx, .sl, .sl, .sl, .nt .u8, .bl, .nt .i64, .tx, .sl, .sl, .sl]] h0 Q) p0 p1 p2 p3 p4 p5 p6 p7 p8 p9 p10 p11 p12 p13 p14 p15 := by kernel_rfl

/- codicil/codicilref00.LentEvent -/
def q7 (Z : List PanicEntry → Heap → Prop) (p0 : Int) (p1 : ByteArray) (p2 : Int) (p3 : Bool) (p4 : Int) (p5 : ByteArray) (p6 : Sl) (p7 : Sl) (p8 : Sl) (p9 : Int) (p10 : Bool) (p11 : Int) (p12 : ByteArray) (p13 : Sl) (p14 : Sl) (p15 : Sl) (h0 : Heap) (Q : Cur (flat [.agg [.nt .u8, .tx, .nt .u8, .bl, .nt .i64, .tx, .sl, .sl, .sl, .nt .u8, .bl, .nt .i64, .tx, .sl, .sl, .sl]]) (Heap → Prop)) : Prop :=
 ALLOC [.int .u8 p0, .string p1, .int .u8 p2, .bool p3, .int .i64 p4, .string p5, p6.v, p7.v, p8.v, .int .u8 p9, .bool p10, .int .i64 p11, .string p12, p13.v, p14.v, p15.v] 29 h0 fun b1 h1 =>
 ALLOC [.int .u8 0, .string ByteArray.empty, .int .u8 0, .bool false, .int .i64 0, .string ByteArray.empty, .slice none 0 0, .slice none 0 0, .slice none 0 0, .int .u8 0, .bool false, .int .i64 0, .string ByteArray.empty, .slice none 0 0, .slice none 0 0, .slice none 0 0] 29 h1 fun b2 h2 =>
 DRAW h2 [b1, b2] fun S3 =>
 CALL P (fun _ _ => False) 24 [.agg #[.int .u8 p2, .bool p3, .int .i64 p4, .string p5, p6.v, p7.v, p8.v]] [.agg [.nt .u8, .bl, .nt .i64, .tx, .sl, .sl, .sl]] h2 [b1, b2] fun v9_0 v9_1 v9_2 v9_3 v9_4 v9_5 v9_6 h4 =>
 SS S3 h4 (
 CALL P (fun _ _ => False) 24 [.agg #[.int .u8 p9, .bool p10, .int .i64 p11, .string p12, p13.v, p14.v, p15.v]] [.agg [.nt .u8, .bl, .nt .i64, .tx, .sl, .sl, .sl]] h4 [b1, b2] fun v12_0 v12_1 v12_2 v12_3 v12_4 v12_5 v12_6 h5 =>
 SS S3 h5 (
 PUTN b2 [.int .u8 p0, .string p1, .int .u8 v9_0, .bool v9_1, .int .i64 v9_2, .string v9_3, v9_4.v, v9_5.v, v9_6.v, .int .u8 v12_0, .bool v12_1, .int .i64 v12_2, .string v12_3, v12_4.v, v12_5.v, v12_6.v] 0 h5 fun h6 =>
 Q p0 p1 v9_0 v9_1 v9_2 v9_3 v9_4 v9_5 v9_6 v12_0 v12_1 v12_2 v12_3 v12_4 v12_5 v12_6 h6))
def pl7 : Plan := ⟨[], [], [], [], [(1, false, [0, 1, 2, 3, 4, 5, 7, 8, 6, 9, 10, 11])], []⟩
theorem q7_eq (Z : List PanicEntry → Heap → Prop) (p0 : Int) (p1 : ByteArray) (p2 : Int) (p3 : Bool) (p4 : Int) (p5 : ByteArray) (p6 : Sl) (p7 : Sl) (p8 : Sl) (p9 : Int) (p10 : Bool) (p11 : Int) (p12 : ByteArray) (p13 : Sl) (p14 : Sl) (p15 : Sl) (h0 : Heap) (Q : Cur (flat [.agg [.nt .u8, .tx, .nt .u8, .bl, .nt .i64, .tx, .sl, .sl, .sl, .nt .u8, .bl, .nt .i64, .tx, .sl, .sl, .sl]]) (Heap → Prop)) : q7 Z p0 p1 p2 p3 p4 p5 p6 p7 p8 p9 p10 p11 p12 p13 p14 p15 h0 Q = (WPF P Z Tryz.f7 pl7 [.agg [.nt .u8, .tx, .nt .u8, .bl, .nt .i64, .tx, .sl, .sl, .sl, .nt .u8, .bl, .nt .i64, .tx, .sl, .sl, .sl]] h0 Q) p0 p1 p2 p3 p4 p5 p6 p7 p8 p9 p10 p11 p12 p13 p14 p15 := by kernel_rfl

/- codicil/codicilref00.LentBytes -/
def q8 (Z : List PanicEntry → Heap → Prop) (p0 : Sl) (h0 : Heap) (Q : Cur (flat [.one (.sl)]) (Heap → Prop)) : Prop :=
 MKS 1 5 [.int .u8 0] 0 (IntKind.wrap .i64 ((p0.len : Int) + 2)) h0 fun v8 h1 =>
 APPEND 1 1 5 [.int .u8 0] v8.a v8.len v8.cap p0.a p0.len h1 [] fun v10 h2 =>
 ALLOC [.int .u8 91, .int .u8 92] 5 h2 fun b12 h3 =>
 APPEND 1 1 5 [.int .u8 0] v10.a v10.len v10.cap (some ⟨b12, 0, none⟩) 2 h3 [] fun v13 h4 =>
 SLI 1 v13.a v13.len v13.cap none (some (p0.len : Int)) none fun v17 =>
 Q v17 h4
def pl8 : Plan := ⟨[], [], [], [], [], []⟩
theorem q8_eq (Z : List PanicEntry → Heap → Prop) (p0 : Sl) (h0 : Heap) (Q : Cur (flat [.one (.sl)]) (Heap → Prop)) : q8 Z p0 h0 Q = (WPF P Z Tryz.f8 pl8 [.one (.sl)] h0 Q) p0 := by kernel_rfl

/- codicil/event.Encode -/
def q9 (Z : List PanicEntry → Heap → Prop) (p0 : Int) (p1 : ByteArray) (p2 : Int) (p3 : Bool) (p4 : Int) (p5 : ByteArray) (p6 : Sl) (p7 : Sl) (p8 : Sl) (p9 : Int) (p10 : Bool) (p11 : Int) (p12 : ByteArray) (p13 : Sl) (p14 : Sl) (p15 : Sl) (h0 : Heap) (Q : Cur (flat [.one (.sl), .one (.nt .u16)]) (Heap → Prop)) : Prop :=
 ALLOC [.int .u8 p0, .string p1, .int .u8 p2, .bool p3, .int .i64 p4, .string p5, p6.v, p7.v, p8.v, .int .u8 p9, .bool p10, .int .i64 p11, .string p12, p13.v, p14.v, p15.v] 29 h0 fun b1 h1 =>
 CALL P Z 25 [.agg #[.int .u8 p0, .string p1, .int .u8 p2, .bool p3, .int .i64 p4, .string p5, p6.v, p7.v, p8.v, .int .u8 p9, .bool p10, .int .i64 p11, .string p12, p13.v, p14.v, p15.v]] [.one (.bl)] h1 [b1] fun v6 h2 =>
 COND (!v6) (Q ⟨none, 0, 0⟩ 210 h2)
 (CALL P Z 26 [] [.one (.pt)] h2 [b1] fun v8 h3 =>
 CALL P Z 27 [.pointer v8, .int .u8 p0] [] h3 [b1] fun h4 =>
 CALL P Z 28 [.pointer v8, .string p1] [] h4 [b1] fun h5 =>
 CALL P Z 29 [.agg #[.int .u8 p2, .bool p3, .int .i64 p4, .string p5, p6.v, p7.v, p8.v]] [.one (.sl)] h5 [b1] fun v20 h6 =>
 BTS v20.a v20.len (EQ h6) fun v21 =>
 CALL P Z 28 [.pointer v8, .string v21] [] h6 [b1] fun h7 =>
 JOIN [] (fun k8 => COND (p0 == 1) (CALL P Z 29 [.agg #[.int .u8 p9, .bool p10, .int .i64 p11, .string p12, p13.v, p14.v, p15.v]] [.one (.sl)] h7 [b1] fun v29 h10 =>
 CALL P Z 30 [.pointer v8, v29.v] [] h10 [b1] fun h11 =>
 k8 h11)
 (k8 h7))
 fun h9 =>
 CALL P Z 31 [.pointer v8] [.one (.nt .i64)] h9 [] fun v32 h12 =>
 COND (decide (v32 > 8192)) (Q ⟨none, 0, 0⟩ 51 h12)
 (CALL P Z 32 [.pointer v8] [.one (.sl)] h12 [] fun v35 h13 =>
 Q v35 0 h13))
def pl9 : Plan := ⟨[(9, ⟨[], [4], []⟩)], [], [], [], [], []⟩
theorem q9_eq (Z : List PanicEntry → Heap → Prop) (p0 : Int) (p1 : ByteArray) (p2 : Int) (p3 : Bool) (p4 : Int) (p5 : ByteArray) (p6 : Sl) (p7 : Sl) (p8 : Sl) (p9 : Int) (p10 : Bool) (p11 : Int) (p12 : ByteArray) (p13 : Sl) (p14 : Sl) (p15 : Sl) (h0 : Heap) (Q : Cur (flat [.one (.sl), .one (.nt .u16)]) (Heap → Prop)) : q9 Z p0 p1 p2 p3 p4 p5 p6 p7 p8 p9 p10 p11 p12 p13 p14 p15 h0 Q = (WPF P Z Tryz.f9 pl9 [.agg [.nt .u8, .tx, .nt .u8, .bl, .nt .i64, .tx, .sl, .sl, .sl, .nt .u8, .bl, .nt .i64, .tx, .sl, .sl, .sl]] h0 Q) p0 p1 p2 p3 p4 p5 p6 p7 p8 p9 p10 p11 p12 p13 p14 p15 := by kernel_rfl

/- codicil/event.Decode -/
def q10 (Z : List PanicEntry → Heap → Prop) (p0 : Sl) (h0 : Heap) (Q : Cur (flat [.agg [.nt .u8, .tx, .nt .u8, .bl, .nt .i64, .tx, .sl, .sl, .sl, .nt .u8, .bl, .nt .i64, .tx, .sl, .sl, .sl], .one (.nt .u16)]) (Heap → Prop)) : Prop :=
 ALLOC [.int .u8 0, .string ByteArray.empty, .int .u8 0, .bool false, .int .i64 0, .string ByteArray.empty, .slice none 0 0, .slice none 0 0, .slice none 0 0, .int .u8 0, .bool false, .int .i64 0, .string ByteArray.empty, .slice none 0 0, .slice none 0 0, .slice none 0 0] 29 h0 fun b2 h1 =>
 ALLOC [.int .u16 0] 34 h1 fun b3 h2 =>
 CALL P (fun c h => LEAVE P Z (fun h => LDN [.nt .u8, .tx, .nt .u8, .bl, .nt .i64, .tx, .sl, .sl, .sl, .nt .u8, .bl, .nt .i64, .tx, .sl, .sl, .sl] ⟨b2, 0, none⟩ 0 (EQ h) fun r2_0 r2_1 r2_2 r2_3 r2_4 r2_5 r2_6 r2_7 r2_8 r2_9 r2_10 r2_11 r2_12 r2_13 r2_14 r2_15 =>
 LD (.nt .u16) ⟨b3, 0, none⟩ (EQ h) fun r3 =>
 Q r2_0 r2_1 r2_2 r2_3 r2_4 r2_5 r2_6 r2_7 r2_8 r2_9 r2_10 r2_11 r2_12 r2_13 r2_14 r2_15 r3 h) [.fn 33 [] [.pointer (some ⟨b2, 0, none⟩), .pointer (some ⟨b3, 0, none⟩)]] (.panicking c) h) 34 [.bool (decide ((p0.len : Int) ≤ 8192))] [] h2 [] fun h3 =>
 CALL P (fun c h => LEAVE P Z (fun h => LDN [.nt .u8, .tx, .nt .u8, .bl, .nt .i64, .tx, .sl, .sl, .sl, .nt .u8, .bl, .nt .i64, .tx, .sl, .sl, .sl] ⟨b2, 0, none⟩ 0 (EQ h) fun r2_0 r2_1 r2_2 r2_3 r2_4 r2_5 r2_6 r2_7 r2_8 r2_9 r2_10 r2_11 r2_12 r2_13 r2_14 r2_15 =>
 LD (.nt .u16) ⟨b3, 0, none⟩ (EQ h) fun r3 =>
 Q r2_0 r2_1 r2_2 r2_3 r2_4 r2_5 r2_6 r2_7 r2_8 r2_9 r2_10 r2_11 r2_12 r2_13 r2_14 r2_15 r3 h) [.fn 33 [] [.pointer (some ⟨b2, 0, none⟩), .pointer (some ⟨b3, 0, none⟩)]] (.panicking c) h) 35 [p0.v] [.one (.pt)] h3 [] fun v14 h4 =>
 CALL P (fun c h => LEAVE P Z (fun h => LDN [.nt .u8, .tx, .nt .u8, .bl, .nt .i64, .tx, .sl, .sl, .sl, .nt .u8, .bl, .nt .i64, .tx, .sl, .sl, .sl] ⟨b2, 0, none⟩ 0 (EQ h) fun r2_0 r2_1 r2_2 r2_3 r2_4 r2_5 r2_6 r2_7 r2_8 r2_9 r2_10 r2_11 r2_12 r2_13 r2_14 r2_15 =>
 LD (.nt .u16) ⟨b3, 0, none⟩ (EQ h) fun r3 =>
 Q r2_0 r2_1 r2_2 r2_3 r2_4 r2_5 r2_6 r2_7 r2_8 r2_9 r2_10 r2_11 r2_12 r2_13 r2_14 r2_15 r3 h) [.fn 33 [] [.pointer (some ⟨b2, 0, none⟩), .pointer (some ⟨b3, 0, none⟩)]] (.panicking c) h) 36 [.pointer v14] [.one (.nt .u8)] h4 [] fun v16 h5 =>
 CALL P (fun c h => LEAVE P Z (fun h => LDN [.nt .u8, .tx, .nt .u8, .bl, .nt .i64, .tx, .sl, .sl, .sl, .nt .u8, .bl, .nt .i64, .tx, .sl, .sl, .sl] ⟨b2, 0, none⟩ 0 (EQ h) fun r2_0 r2_1 r2_2 r2_3 r2_4 r2_5 r2_6 r2_7 r2_8 r2_9 r2_10 r2_11 r2_12 r2_13 r2_14 r2_15 =>
 LD (.nt .u16) ⟨b3, 0, none⟩ (EQ h) fun r3 =>
 Q r2_0 r2_1 r2_2 r2_3 r2_4 r2_5 r2_6 r2_7 r2_8 r2_9 r2_10 r2_11 r2_12 r2_13 r2_14 r2_15 r3 h) [.fn 33 [] [.pointer (some ⟨b2, 0, none⟩), .pointer (some ⟨b3, 0, none⟩)]] (.panicking c) h) 37 [.pointer v14] [.one (.tx)] h5 [] fun v18 h6 =>
 STN ⟨b2, 0, none⟩ [.int .u8 v16] 0 h6 [] fun h7 =>
 STN ⟨b2, 1, none⟩ [.string v18] 0 h7 [] fun h8 =>
 CALL P (fun c h => LEAVE P Z (fun h => LDN [.nt .u8, .tx, .nt .u8, .bl, .nt .i64, .tx, .sl, .sl, .sl, .nt .u8, .bl, .nt .i64, .tx, .sl, .sl, .sl] ⟨b2, 0, none⟩ 0 (EQ h) fun r2_0 r2_1 r2_2 r2_3 r2_4 r2_5 r2_6 r2_7 r2_8 r2_9 r2_10 r2_11 r2_12 r2_13 r2_14 r2_15 =>
 LD (.nt .u16) ⟨b3, 0, none⟩ (EQ h) fun r3 =>
 Q r2_0 r2_1 r2_2 r2_3 r2_4 r2_5 r2_6 r2_7 r2_8 r2_9 r2_10 r2_11 r2_12 r2_13 r2_14 r2_15 r3 h) [.fn 33 [] [.pointer (some ⟨b2, 0, none⟩), .pointer (some ⟨b3, 0, none⟩)]] (.panicking c) h) 37 [.pointer v14] [.one (.tx)] h8 [] fun v22 h9 =>
 CALL P (fun c h => LEAVE P Z (fun h => LDN [.nt .u8, .tx, .nt .u8, .bl, .nt .i64, .tx, .sl, .sl, .sl, .nt .u8, .bl, .nt .i64, .tx, .sl, .sl, .sl] ⟨b2, 0, none⟩ 0 (EQ h) fun r2_0 r2_1 r2_2 r2_3 r2_4 r2_5 r2_6 r2_7 r2_8 r2_9 r2_10 r2_11 r2_12 r2_13 r2_14 r2_15 =>
 LD (.nt .u16) ⟨b3, 0, none⟩ (EQ h) fun r3 =>
 Q r2_0 r2_1 r2_2 r2_3 r2_4 r2_5 r2_6 r2_7 r2_8 r2_9 r2_10 r2_11 r2_12 r2_13 r2_14 r2_15 r3 h) [.fn 33 [] [.pointer (some ⟨b2, 0, none⟩), .pointer (some ⟨b3, 0, none⟩)]] (.panicking c) h) 38 [.pointer v14] [.one (.nt .u16), .one (.nt .i64)] h9 [] fun v25_0 v25_1 h10 =>
 CALL P (fun c h => LEAVE P Z (fun h => LDN [.nt .u8, .tx, .nt .u8, .bl, .nt .i64, .tx, .sl, .sl, .sl, .nt .u8, .bl, .nt .i64, .tx, .sl, .sl, .sl] ⟨b2, 0, none⟩ 0 (EQ h) fun r2_0 r2_1 r2_2 r2_3 r2_4 r2_5 r2_6 r2_7 r2_8 r2_9 r2_10 r2_11 r2_12 r2_13 r2_14 r2_15 =>
 LD (.nt .u16) ⟨b3, 0, none⟩ (EQ h) fun r3 =>
 Q r2_0 r2_1 r2_2 r2_3 r2_4 r2_5 r2_6 r2_7 r2_8 r2_9 r2_10 r2_11 r2_12 r2_13 r2_14 r2_15 r3 h) [.fn 33 [] [.pointer (some ⟨b2, 0, none⟩), .pointer (some ⟨b3, 0, none⟩)]] (.panicking c) h) 34 [.bool (v25_0 == 0)] [] h10 [] fun h11 =>
 STB v22 5 h11 fun v32 h12 =>
 CALL P (fun c h => LEAVE P Z (fun h => LDN [.nt .u8, .tx, .nt .u8, .bl, .nt .i64, .tx, .sl, .sl, .sl, .nt .u8, .bl, .nt .i64, .tx, .sl, .sl, .sl] ⟨b2, 0, none⟩ 0 (EQ h) fun r2_0 r2_1 r2_2 r2_3 r2_4 r2_5 r2_6 r2_7 r2_8 r2_9 r2_10 r2_11 r2_12 r2_13 r2_14 r2_15 =>
 LD (.nt .u16) ⟨b3, 0, none⟩ (EQ h) fun r3 =>
 Q r2_0 r2_1 r2_2 r2_3 r2_4 r2_5 r2_6 r2_7 r2_8 r2_9 r2_10 r2_11 r2_12 r2_13 r2_14 r2_15 r3 h) [.fn 33 [] [.pointer (some ⟨b2, 0, none⟩), .pointer (some ⟨b3, 0, none⟩)]] (.panicking c) h) 39 [v32.v] [.agg [.nt .u8, .bl, .nt .i64, .tx, .sl, .sl, .sl]] h12 [] fun v33_0 v33_1 v33_2 v33_3 v33_4 v33_5 v33_6 h13 =>
 STN ⟨b2, 2, none⟩ [.int .u8 v33_0, .bool v33_1, .int .i64 v33_2, .string v33_3, v33_4.v, v33_5.v, v33_6.v] 0 h13 [] fun h14 =>
 JOIN [] (fun k15 => LD (.nt .u8) ⟨b2, 0, none⟩ (EQ h14) fun v36 =>
 COND (v36 == 1) (CALL P (fun c h => LEAVE P Z (fun h => LDN [.nt .u8, .tx, .nt .u8, .bl, .nt .i64, .tx, .sl, .sl, .sl, .nt .u8, .bl, .nt .i64, .tx, .sl, .sl, .sl] ⟨b2, 0, none⟩ 0 (EQ h) fun r2_0 r2_1 r2_2 r2_3 r2_4 r2_5 r2_6 r2_7 r2_8 r2_9 r2_10 r2_11 r2_12 r2_13 r2_14 r2_15 =>
 LD (.nt .u16) ⟨b3, 0, none⟩ (EQ h) fun r3 =>
 Q r2_0 r2_1 r2_2 r2_3 r2_4 r2_5 r2_6 r2_7 r2_8 r2_9 r2_10 r2_11 r2_12 r2_13 r2_14 r2_15 r3 h) [.fn 33 [] [.pointer (some ⟨b2, 0, none⟩), .pointer (some ⟨b3, 0, none⟩)]] (.panicking c) h) 41 [.pointer v14] [.one (.nt .i64)] h14 [] fun v40 h17 =>
 CALL P (fun c h => LEAVE P Z (fun h => LDN [.nt .u8, .tx, .nt .u8, .bl, .nt .i64, .tx, .sl, .sl, .sl, .nt .u8, .bl, .nt .i64, .tx, .sl, .sl, .sl] ⟨b2, 0, none⟩ 0 (EQ h) fun r2_0 r2_1 r2_2 r2_3 r2_4 r2_5 r2_6 r2_7 r2_8 r2_9 r2_10 r2_11 r2_12 r2_13 r2_14 r2_15 =>
 LD (.nt .u16) ⟨b3, 0, none⟩ (EQ h) fun r3 =>
 Q r2_0 r2_1 r2_2 r2_3 r2_4 r2_5 r2_6 r2_7 r2_8 r2_9 r2_10 r2_11 r2_12 r2_13 r2_14 r2_15 r3 h) [.fn 33 [] [.pointer (some ⟨b2, 0, none⟩), .pointer (some ⟨b3, 0, none⟩)]] (.panicking c) h) 40 [.pointer v14, .int .i64 v40] [.one (.sl)] h17 [] fun v41 h18 =>
 CALL P (fun c h => LEAVE P Z (fun h => LDN [.nt .u8, .tx, .nt .u8, .bl, .nt .i64, .tx, .sl, .sl, .sl, .nt .u8, .bl, .nt .i64, .tx, .sl, .sl, .sl] ⟨b2, 0, none⟩ 0 (EQ h) fun r2_0 r2_1 r2_2 r2_3 r2_4 r2_5 r2_6 r2_7 r2_8 r2_9 r2_10 r2_11 r2_12 r2_13 r2_14 r2_15 =>
 LD (.nt .u16) ⟨b3, 0, none⟩ (EQ h) fun r3 =>
 Q r2_0 r2_1 r2_2 r2_3 r2_4 r2_5 r2_6 r2_7 r2_8 r2_9 r2_10 r2_11 r2_12 r2_13 r2_14 r2_15 r3 h) [.fn 33 [] [.pointer (some ⟨b2, 0, none⟩), .pointer (some ⟨b3, 0, none⟩)]] (.panicking c) h) 39 [v41.v] [.agg [.nt .u8, .bl, .nt .i64, .tx, .sl, .sl, .sl]] h18 [] fun v42_0 v42_1 v42_2 v42_3 v42_4 v42_5 v42_6 h19 =>
 STN ⟨b2, 9, none⟩ [.int .u8 v42_0, .bool v42_1, .int .i64 v42_2, .string v42_3, v42_4.v, v42_5.v, v42_6.v] 0 h19 [] fun h20 =>
 k15 h20)
 (k15 h14))
 fun h16 =>
 JOIN [] (fun k21 => CALL P (fun c h => LEAVE P Z (fun h => LDN [.nt .u8, .tx, .nt .u8, .bl, .nt .i64, .tx, .sl, .sl, .sl, .nt .u8, .bl, .nt .i64, .tx, .sl, .sl, .sl] ⟨b2, 0, none⟩ 0 (EQ h) fun r2_0 r2_1 r2_2 r2_3 r2_4 r2_5 r2_6 r2_7 r2_8 r2_9 r2_10 r2_11 r2_12 r2_13 r2_14 r2_15 =>
 LD (.nt .u16) ⟨b3, 0, none⟩ (EQ h) fun r3 =>
 Q r2_0 r2_1 r2_2 r2_3 r2_4 r2_5 r2_6 r2_7 r2_8 r2_9 r2_10 r2_11 r2_12 r2_13 r2_14 r2_15 r3 h) [.fn 33 [] [.pointer (some ⟨b2, 0, none⟩), .pointer (some ⟨b3, 0, none⟩)]] (.panicking c) h) 42 [.pointer v14] [.one (.nt .u16)] h16 [] fun v45 h23 =>
 COND (v45 == 0) (LDN [.nt .u8, .tx, .nt .u8, .bl, .nt .i64, .tx, .sl, .sl, .sl, .nt .u8, .bl, .nt .i64, .tx, .sl, .sl, .sl] ⟨b2, 0, none⟩ 0 (EQ h23) fun v48_0 v48_1 v48_2 v48_3 v48_4 v48_5 v48_6 v48_7 v48_8 v48_9 v48_10 v48_11 v48_12 v48_13 v48_14 v48_15 =>
 CALL P (fun c h => LEAVE P Z (fun h => LDN [.nt .u8, .tx, .nt .u8, .bl, .nt .i64, .tx, .sl, .sl, .sl, .nt .u8, .bl, .nt .i64, .tx, .sl, .sl, .sl] ⟨b2, 0, none⟩ 0 (EQ h) fun r2_0 r2_1 r2_2 r2_3 r2_4 r2_5 r2_6 r2_7 r2_8 r2_9 r2_10 r2_11 r2_12 r2_13 r2_14 r2_15 =>
 LD (.nt .u16) ⟨b3, 0, none⟩ (EQ h) fun r3 =>
 Q r2_0 r2_1 r2_2 r2_3 r2_4 r2_5 r2_6 r2_7 r2_8 r2_9 r2_10 r2_11 r2_12 r2_13 r2_14 r2_15 r3 h) [.fn 33 [] [.pointer (some ⟨b2, 0, none⟩), .pointer (some ⟨b3, 0, none⟩)]] (.panicking c) h) 25 [.agg #[.int .u8 v48_0, .string v48_1, .int .u8 v48_2, .bool v48_3, .int .i64 v48_4, .string v48_5, v48_6.v, v48_7.v, v48_8.v, .int .u8 v48_9, .bool v48_10, .int .i64 v48_11, .string v48_12, v48_13.v, v48_14.v, v48_15.v]] [.one (.bl)] h23 [] fun v49 h24 =>
 CALL P (fun c h => LEAVE P Z (fun h => LDN [.nt .u8, .tx, .nt .u8, .bl, .nt .i64, .tx, .sl, .sl, .sl, .nt .u8, .bl, .nt .i64, .tx, .sl, .sl, .sl] ⟨b2, 0, none⟩ 0 (EQ h) fun r2_0 r2_1 r2_2 r2_3 r2_4 r2_5 r2_6 r2_7 r2_8 r2_9 r2_10 r2_11 r2_12 r2_13 r2_14 r2_15 =>
 LD (.nt .u16) ⟨b3, 0, none⟩ (EQ h) fun r3 =>
 Q r2_0 r2_1 r2_2 r2_3 r2_4 r2_5 r2_6 r2_7 r2_8 r2_9 r2_10 r2_11 r2_12 r2_13 r2_14 r2_15 r3 h) [.fn 33 [] [.pointer (some ⟨b2, 0, none⟩), .pointer (some ⟨b3, 0, none⟩)]] (.panicking c) h) 34 [.bool v49] [] h24 [] fun h25 =>
 k21 h25)
 (CALL P (fun c h => LEAVE P Z (fun h => LDN [.nt .u8, .tx, .nt .u8, .bl, .nt .i64, .tx, .sl, .sl, .sl, .nt .u8, .bl, .nt .i64, .tx, .sl, .sl, .sl] ⟨b2, 0, none⟩ 0 (EQ h) fun r2_0 r2_1 r2_2 r2_3 r2_4 r2_5 r2_6 r2_7 r2_8 r2_9 r2_10 r2_11 r2_12 r2_13 r2_14 r2_15 =>
 LD (.nt .u16) ⟨b3, 0, none⟩ (EQ h) fun r3 =>
 Q r2_0 r2_1 r2_2 r2_3 r2_4 r2_5 r2_6 r2_7 r2_8 r2_9 r2_10 r2_11 r2_12 r2_13 r2_14 r2_15 r3 h) [.fn 33 [] [.pointer (some ⟨b2, 0, none⟩), .pointer (some ⟨b3, 0, none⟩)]] (.panicking c) h) 34 [.bool false] [] h23 [] fun h26 =>
 k21 h26))
 fun h22 =>
 LDN [.nt .u8, .tx, .nt .u8, .bl, .nt .i64, .tx, .sl, .sl, .sl, .nt .u8, .bl, .nt .i64, .tx, .sl, .sl, .sl] ⟨b2, 0, none⟩ 0 (EQ h22) fun v52_0 v52_1 v52_2 v52_3 v52_4 v52_5 v52_6 v52_7 v52_8 v52_9 v52_10 v52_11 v52_12 v52_13 v52_14 v52_15 =>
 STN ⟨b2, 0, none⟩ [.int .u8 v52_0, .string v52_1, .int .u8 v52_2, .bool v52_3, .int .i64 v52_4, .string v52_5, v52_6.v, v52_7.v, v52_8.v, .int .u8 v52_9, .bool v52_10, .int .i64 v52_11, .string v52_12, v52_13.v, v52_14.v, v52_15.v] 0 h22 [] fun h27 =>
 STN ⟨b3, 0, none⟩ [.int .u16 0] 0 h27 [] fun h28 =>
 LEAVE P Z (fun h => LDN [.nt .u8, .tx, .nt .u8, .bl, .nt .i64, .tx, .sl, .sl, .sl, .nt .u8, .bl, .nt .i64, .tx, .sl, .sl, .sl] ⟨b2, 0, none⟩ 0 (EQ h) fun r2_0 r2_1 r2_2 r2_3 r2_4 r2_5 r2_6 r2_7 r2_8 r2_9 r2_10 r2_11 r2_12 r2_13 r2_14 r2_15 =>
 LD (.nt .u16) ⟨b3, 0, none⟩ (EQ h) fun r3 =>
 Q r2_0 r2_1 r2_2 r2_3 r2_4 r2_5 r2_6 r2_7 r2_8 r2_9 r2_10 r2_11 r2_12 r2_13 r2_14 r2_15 r3 h) [.fn 33 [] [.pointer (some ⟨b2, 0, none⟩), .pointer (some ⟨b3, 0, none⟩)]] .returning h28
def pl10 : Plan := ⟨[(11, ⟨[], [2, 3, 4], []⟩)], [], [], [(11, ⟨[], [2, 3], []⟩)], [], []⟩
theorem q10_eq (Z : List PanicEntry → Heap → Prop) (p0 : Sl) (h0 : Heap) (Q : Cur (flat [.agg [.nt .u8, .tx, .nt .u8, .bl, .nt .i64, .tx, .sl, .sl, .sl, .nt .u8, .bl, .nt .i64, .tx, .sl, .sl, .sl], .one (.nt .u16)]) (Heap → Prop)) : q10 Z p0 h0 Q = (WPF P Z Tryz.f10 pl10 [.one (.sl)] h0 Q) p0 := by kernel_rfl

/- codicil/codicilref00.WholeEvent -/
def q11 (Z : List PanicEntry → Heap → Prop) (p0 : Int) (p1 : ByteArray) (p2 : Int) (p3 : Bool) (p4 : Int) (p5 : ByteArray) (p6 : Sl) (p7 : Sl) (p8 : Sl) (p9 : Int) (p10 : Bool) (p11 : Int) (p12 : ByteArray) (p13 : Sl) (p14 : Sl) (p15 : Sl) (p16 : Int) (p17 : ByteArray) (p18 : Int) (p19 : Bool) (p20 : Int) (p21 : ByteArray) (p22 : Sl) (p23 : Sl) (p24 : Sl) (p25 : Int) (p26 : Bool) (p27 : Int) (p28 : ByteArray) (p29 : Sl) (p30 : Sl) (p31 : Sl) (h0 : Heap) (Q : Cur (flat [.one (.bl)]) (Heap → Prop)) : Prop :=
 ALLOC [.int .u8 p0, .string p1, .int .u8 p2, .bool p3, .int .i64 p4, .string p5, p6.v, p7.v, p8.v, .int .u8 p9, .bool p10, .int .i64 p11, .string p12, p13.v, p14.v, p15.v] 29 h0 fun b2 h1 =>
 ALLOC [.int .u8 p16, .string p17, .int .u8 p18, .bool p19, .int .i64 p20, .string p21, p22.v, p23.v, p24.v, .int .u8 p25, .bool p26, .int .i64 p27, .string p28, p29.v, p30.v, p31.v] 29 h1 fun b3 h2 =>
 JOIN [.bl] (fun k3 => COND (p0 == p16) (COND (p1.toList == p17.toList) (CALL P Z 43 [.agg #[.int .u8 p2, .bool p3, .int .i64 p4, .string p5, p6.v, p7.v, p8.v], .agg #[.int .u8 p18, .bool p19, .int .i64 p20, .string p21, p22.v, p23.v, p24.v]] [.one (.bl)] h2 [b2, b3] fun v22 h5 =>
 COND v22 (CALL P Z 43 [.agg #[.int .u8 p9, .bool p10, .int .i64 p11, .string p12, p13.v, p14.v, p15.v], .agg #[.int .u8 p25, .bool p26, .int .i64 p27, .string p28, p29.v, p30.v, p31.v]] [.one (.bl)] h5 [b2, b3] fun v29 h6 =>
 k3 v29 h6)
 (k3 false h5))
 (k3 false h2))
 (k3 false h2))
 fun x4 h4 =>
 Q x4 h4
def pl11 : Plan := ⟨[], [], [], [(1, ⟨[(4, .bl)], [], []⟩)], [], []⟩
theorem q11_eq (Z : List PanicEntry → Heap → Prop) (p0 : Int) (p1 : ByteArray) (p2 : Int) (p3 : Bool) (p4 : Int) (p5 : ByteArray) (p6 : Sl) (p7 : Sl) (p8 : Sl) (p9 : Int) (p10 : Bool) (p11 : Int) (p12 : ByteArray) (p13 : Sl) (p14 : Sl) (p15 : Sl) (p16 : Int) (p17 : ByteArray) (p18 : Int) (p19 : Bool) (p20 : Int) (p21 : ByteArray) (p22 : Sl) (p23 : Sl) (p24 : Sl) (p25 : Int) (p26 : Bool) (p27 : Int) (p28 : ByteArray) (p29 : Sl) (p30 : Sl) (p31 : Sl) (h0 : Heap) (Q : Cur (flat [.one (.bl)]) (Heap → Prop)) : q11 Z p0 p1 p2 p3 p4 p5 p6 p7 p8 p9 p10 p11 p12 p13 p14 p15 p16 p17 p18 p19 p20 p21 p22 p23 p24 p25 p26 p27 p28 p29 p30 p31 h0 Q = (WPF P Z Tryz.f11 pl11 [.agg [.nt .u8, .tx, .nt .u8, .bl, .nt .i64, .tx, .sl, .sl, .sl, .nt .u8, .bl, .nt .i64, .tx, .sl, .sl, .sl], .agg [.nt .u8, .tx, .nt .u8, .bl, .nt .i64, .tx, .sl, .sl, .sl, .nt .u8, .bl, .nt .i64, .tx, .sl, .sl, .sl]] h0 Q) p0 p1 p2 p3 p4 p5 p6 p7 p8 p9 p10 p11 p12 p13 p14 p15 p16 p17 p18 p19 p20 p21 p22 p23 p24 p25 p26 p27 p28 p29 p30 p31 := by kernel_rfl

/- codicil/codicilref00.WholeBytes -/
def q12 (Z : List PanicEntry → Heap → Prop) (p0 : Sl) (p1 : Sl) (h0 : Heap) (Q : Cur (flat [.one (.bl)]) (Heap → Prop)) : Prop :=
 COND (decide ((p0.cap : Int) < (IntKind.wrap .i64 ((p0.len : Int) + 2)))) (Q false h0)
 (SLI 1 p0.a p0.len p0.cap none (some (IntKind.wrap .i64 ((p0.len : Int) + 2))) none fun v16 =>
 JOIN [.bl] (fun k1 => IXA 1 v16.a v16.len (p0.len : Int) fun a20 =>
 LD (.nt .u8) a20 (EQ h0) fun v21 =>
 COND (v21 == 91) (IXA 1 v16.a v16.len (IntKind.wrap .i64 ((p0.len : Int) + 1)) fun a28 =>
 LD (.nt .u8) a28 (EQ h0) fun v29 =>
 COND (v29 == 92) (CALL P Z 19 [p0.v, p1.v] [.one (.bl)] h0 [] fun v35 h3 =>
 k1 v35 h3)
 (k1 false h0))
 (k1 false h0))
 fun x4 h2 =>
 Q x4 h2)
def pl12 : Plan := ⟨[], [], [], [(4, ⟨[(4, .bl)], [], []⟩)], [], []⟩
theorem q12_eq (Z : List PanicEntry → Heap → Prop) (p0 : Sl) (p1 : Sl) (h0 : Heap) (Q : Cur (flat [.one (.bl)]) (Heap → Prop)) : q12 Z p0 p1 h0 Q = (WPF P Z Tryz.f12 pl12 [.one (.sl), .one (.sl)] h0 Q) p0 p1 := by kernel_rfl

/- codicil/codicilref00.SpoilEvent -/
def q13 (Z : List PanicEntry → Heap → Prop) (p0 : Int) (p1 : ByteArray) (p2 : Int) (p3 : Bool) (p4 : Int) (p5 : ByteArray) (p6 : Sl) (p7 : Sl) (p8 : Sl) (p9 : Int) (p10 : Bool) (p11 : Int) (p12 : ByteArray) (p13 : Sl) (p14 : Sl) (p15 : Sl) (h0 : Heap) (Q : Cur (flat []) (Heap → Prop)) : Prop :=
 ALLOC [.int .u8 p0, .string p1, .int .u8 p2, .bool p3, .int .i64 p4, .string p5, p6.v, p7.v, p8.v, .int .u8 p9, .bool p10, .int .i64 p11, .string p12, p13.v, p14.v, p15.v] 29 h0 fun b1 h1 =>
 CALL P Z 44 [.agg #[.int .u8 p2, .bool p3, .int .i64 p4, .string p5, p6.v, p7.v, p8.v]] [] h1 [b1] fun h2 =>
 CALL P Z 44 [.agg #[.int .u8 p9, .bool p10, .int .i64 p11, .string p12, p13.v, p14.v, p15.v]] [] h2 [b1] fun h3 =>
 Q h3
def pl13 : Plan := ⟨[], [], [], [], [], []⟩
theorem q13_eq (Z : List PanicEntry → Heap → Prop) (p0 : Int) (p1 : ByteArray) (p2 : Int) (p3 : Bool) (p4 : Int) (p5 : ByteArray) (p6 : Sl) (p7 : Sl) (p8 : Sl) (p9 : Int) (p10 : Bool) (p11 : Int) (p12 : ByteArray) (p13 : Sl) (p14 : Sl) (p15 : Sl) (h0 : Heap) (Q : Cur (flat []) (Heap → Prop)) : q13 Z p0 p1 p2 p3 p4 p5 p6 p7 p8 p9 p10 p11 p12 p13 p14 p15 h0 Q = (WPF P Z Tryz.f13 pl13 [.agg [.nt .u8, .tx, .nt .u8, .bl, .nt .i64, .tx, .sl, .sl, .sl, .nt .u8, .bl, .nt .i64, .tx, .sl, .sl, .sl]] h0 Q) p0 p1 p2 p3 p4 p5 p6 p7 p8 p9 p10 p11 p12 p13 p14 p15 := by kernel_rfl

/- codicil/codicilref00.SpoilBytes -/
def q14 (Z : List PanicEntry → Heap → Prop) (p0 : Sl) (h0 : Heap) (Q : Cur (flat []) (Heap → Prop)) : Prop :=
 SLI 1 p0.a p0.len p0.cap none (some (p0.cap : Int)) none fun v7 =>
 LOOP [.nt .i64] (fun x3 h2 nx1 =>
 COND (decide (x3 < (v7.len : Int))) (IXA 1 v7.a v7.len x3 fun a16 =>
 STN a16 [.int .u8 238] 0 h2 [] fun h3 =>
 nx1 (IntKind.wrap .i64 (x3 + 1)) h3)
 (Q h2)) 0 h0
def pl14 : Plan := ⟨[], [(2, ⟨[(3, .nt .i64)], [2], []⟩)], [], [], [], []⟩
theorem q14_eq (Z : List PanicEntry → Heap → Prop) (p0 : Sl) (h0 : Heap) (Q : Cur (flat []) (Heap → Prop)) : q14 Z p0 h0 Q = (WPF P Z Tryz.f14 pl14 [.one (.sl)] h0 Q) p0 := by kernel_rfl

/- codicil/codicilref21.Encode -/
def q15 (Z : List PanicEntry → Heap → Prop) (p0 : Int) (p1 : ByteArray) (p2 : Int) (p3 : Bool) (p4 : Int) (p5 : ByteArray) (p6 : Sl) (p7 : Sl) (p8 : Sl) (p9 : Int) (p10 : Bool) (p11 : Int) (p12 : ByteArray) (p13 : Sl) (p14 : Sl) (p15 : Sl) (h0 : Heap) (Q : Cur (flat [.one (.sl), .one (.nt .i64)]) (Heap → Prop)) : Prop :=
 ALLOC [.int .u8 p0, .string p1, .int .u8 p2, .bool p3, .int .i64 p4, .string p5, p6.v, p7.v, p8.v, .int .u8 p9, .bool p10, .int .i64 p11, .string p12, p13.v, p14.v, p15.v] 29 h0 fun b1 h1 =>
 CALL P Z 45 [.agg #[.int .u8 p0, .string p1, .int .u8 p2, .bool p3, .int .i64 p4, .string p5, p6.v, p7.v, p8.v, .int .u8 p9, .bool p10, .int .i64 p11, .string p12, p13.v, p14.v, p15.v]] [.one (.bl)] h1 [b1] fun v6 h2 =>
 COND (!v6) (Q ⟨none, 0, 0⟩ 210 h2)
 (ALLOC [.int .u8 p0] 5 h2 fun b10 h3 =>
 CALL P Z 46 [.string p1] [.one (.sl)] h3 [b1] fun v14 h4 =>
 APPEND 1 1 5 [.int .u8 0] (some ⟨b10, 0, none⟩) 1 1 v14.a v14.len h4 [b1] fun v15 h5 =>
 CALL P Z 47 [.agg #[.int .u8 p2, .bool p3, .int .i64 p4, .string p5, p6.v, p7.v, p8.v]] [.one (.sl)] h5 [b1] fun v19 h6 =>
 BTS v19.a v19.len (EQ h6) fun v20 =>
 CALL P Z 46 [.string v20] [.one (.sl)] h6 [b1] fun v21 h7 =>
 APPEND 1 1 5 [.int .u8 0] v15.a v15.len v15.cap v21.a v21.len h7 [b1] fun v22 h8 =>
 JOIN [.sl] (fun k9 => COND (p0 == 1) (CALL P Z 47 [.agg #[.int .u8 p9, .bool p10, .int .i64 p11, .string p12, p13.v, p14.v, p15.v]] [.one (.sl)] h8 [b1] fun v29 h11 =>
 APPEND 1 1 5 [.int .u8 0] v22.a v22.len v22.cap v29.a v29.len h11 [b1] fun v30 h12 =>
 k9 v30 h12)
 (k9 v22 h8))
 fun x4 h10 =>
 COND (decide ((x4.len : Int) > 8192)) (Q ⟨none, 0, 0⟩ 51 h10)
 (Q x4 0 h10))
def pl15 : Plan := ⟨[(8, ⟨[(4, .sl)], [], []⟩)], [], [], [], [], []⟩
theorem q15_eq (Z : List PanicEntry → Heap → Prop) (p0 : Int) (p1 : ByteArray) (p2 : Int) (p3 : Bool) (p4 : Int) (p5 : ByteArray) (p6 : Sl) (p7 : Sl) (p8 : Sl) (p9 : Int) (p10 : Bool) (p11 : Int) (p12 : ByteArray) (p13 : Sl) (p14 : Sl) (p15 : Sl) (h0 : Heap) (Q : Cur (flat [.one (.sl), .one (.nt .i64)]) (Heap → Prop)) : q15 Z p0 p1 p2 p3 p4 p5 p6 p7 p8 p9 p10 p11 p12 p13 p14 p15 h0 Q = (WPF P Z Tryz.f15 pl15 [.agg [.nt .u8, .tx, .nt .u8, .bl, .nt .i64, .tx, .sl, .sl, .sl, .nt .u8, .bl, .nt .i64, .tx, .sl, .sl, .sl]] h0 Q) p0 p1 p2 p3 p4 p5 p6 p7 p8 p9 p10 p11 p12 p13 p14 p15 := by kernel_rfl

/- codicil/codicilref21.Decode -/
def q16 (Z : List PanicEntry → Heap → Prop) (p0 : Sl) (h0 : Heap) (Q : Cur (flat [.agg [.nt .u8, .tx, .nt .u8, .bl, .nt .i64, .tx, .sl, .sl, .sl, .nt .u8, .bl, .nt .i64, .tx, .sl, .sl, .sl], .one (.nt .i64)]) (Heap → Prop)) : Prop :=
 ALLOC [.int .u8 0, .string ByteArray.empty, .int .u8 0, .bool false, .int .i64 0, .string ByteArray.empty, .slice none 0 0, .slice none 0 0, .slice none 0 0, .int .u8 0, .bool false, .int .i64 0, .string ByteArray.empty, .slice none 0 0, .slice none 0 0, .slice none 0 0] 29 h0 fun b2 h1 =>
 ALLOC [.int .u8 0, .string ByteArray.empty, .int .u8 0, .bool false, .int .i64 0, .string ByteArray.empty, .slice none 0 0, .slice none 0 0, .slice none 0 0, .int .u8 0, .bool false, .int .i64 0, .string ByteArray.empty, .slice none 0 0, .slice none 0 0, .slice none 0 0] 29 h1 fun b4 h2 =>
 PUTN b4 [.int .u8 0, .string ByteArray.empty, .int .u8 0, .bool false, .int .i64 0, .string ByteArray.empty, .slice none 0 0, .slice none 0 0, .slice none 0 0, .int .u8 0, .bool false, .int .i64 0, .string ByteArray.empty, .slice none 0 0, .slice none 0 0, .slice none 0 0] 0 h2 fun h3 =>
 COND (decide ((p0.len : Int) > 8192)) (PUTN b2 [.int .u8 0, .string ByteArray.empty, .int .u8 0, .bool false, .int .i64 0, .string ByteArray.empty, .slice none 0 0, .slice none 0 0, .slice none 0 0, .int .u8 0, .bool false, .int .i64 0, .string ByteArray.empty, .slice none 0 0, .slice none 0 0, .slice none 0 0] 0 h3 fun h4 =>
 Q 0 ByteArray.empty 0 false 0 ByteArray.empty ⟨none, 0, 0⟩ ⟨none, 0, 0⟩ ⟨none, 0, 0⟩ 0 false 0 ByteArray.empty ⟨none, 0, 0⟩ ⟨none, 0, 0⟩ ⟨none, 0, 0⟩ 210 h4)
 (ALLOC [p0.v, .int .i64 0, .int .i64 0, .int .i64 0] 102 h3 fun b19 h5 =>
 CALL P Z 48 [.pointer (some ⟨b19, 0, none⟩), .int .i64 1] [.one (.nt .u64)] h5 [b2, b4] fun v21 h6 =>
 CALL P Z 49 [.pointer (some ⟨b19, 0, none⟩)] [.one (.tx)] h6 [b2, b4] fun v24 h7 =>
 ALLOC [.int .u8 0, .string ByteArray.empty, .int .u8 0, .bool false, .int .i64 0, .string ByteArray.empty, .slice none 0 0, .slice none 0 0, .slice none 0 0, .int .u8 0, .bool false, .int .i64 0, .string ByteArray.empty, .slice none 0 0, .slice none 0 0, .slice none 0 0] 29 h7 fun b6 h8 =>
 PUTN b6 [.int .u8 (IntKind.wrap .u8 (v21)), .string v24, .int .u8 0, .bool false, .int .i64 0, .string ByteArray.empty, .slice none 0 0, .slice none 0 0, .slice none 0 0, .int .u8 0, .bool false, .int .i64 0, .string ByteArray.empty, .slice none 0 0, .slice none 0 0, .slice none 0 0] 0 h8 fun h9 =>
 CALL P Z 49 [.pointer (some ⟨b19, 0, none⟩)] [.one (.tx)] h9 [b2, b4, b6] fun v27 h10 =>
 LD (.nt .i64) ⟨b19, 2, none⟩ (EQ h10) fun v31 =>
 COND (v31 != 0) (PUTN b2 [.int .u8 0, .string ByteArray.empty, .int .u8 0, .bool false, .int .i64 0, .string ByteArray.empty, .slice none 0 0, .slice none 0 0, .slice none 0 0, .int .u8 0, .bool false, .int .i64 0, .string ByteArray.empty, .slice none 0 0, .slice none 0 0, .slice none 0 0] 0 h10 fun h11 =>
 Q 0 ByteArray.empty 0 false 0 ByteArray.empty ⟨none, 0, 0⟩ ⟨none, 0, 0⟩ ⟨none, 0, 0⟩ 0 false 0 ByteArray.empty ⟨none, 0, 0⟩ ⟨none, 0, 0⟩ ⟨none, 0, 0⟩ 210 h11)
 (STB v27 5 h10 fun v36 h12 =>
 CALL P Z 50 [v36.v] [.agg [.nt .u8, .bl, .nt .i64, .tx, .sl, .sl, .sl], .one (.nt .i64)] h12 [b2, b4, b6] fun v37_0 v37_1 v37_2 v37_3 v37_4 v37_5 v37_6 v37_7 h13 =>
 ALLOC [.int .u8 0, .bool false, .int .i64 0, .string ByteArray.empty, .slice none 0 0, .slice none 0 0, .slice none 0 0] 27 h13 fun b8 h14 =>
 PUTN b8 [.int .u8 v37_0, .bool v37_1, .int .i64 v37_2, .string v37_3, v37_4.v, v37_5.v, v37_6.v] 0 h14 fun h15 =>
 COND (v37_7 != 0) (PUTN b2 [.int .u8 0, .string ByteArray.empty, .int .u8 0, .bool false, .int .i64 0, .string ByteArray.empty, .slice none 0 0, .slice none 0 0, .slice none 0 0, .int .u8 0, .bool false, .int .i64 0, .string ByteArray.empty, .slice none 0 0, .slice none 0 0, .slice none 0 0] 0 h15 fun h16 =>
 Q 0 ByteArray.empty 0 false 0 ByteArray.empty ⟨none, 0, 0⟩ ⟨none, 0, 0⟩ ⟨none, 0, 0⟩ 0 false 0 ByteArray.empty ⟨none, 0, 0⟩ ⟨none, 0, 0⟩ ⟨none, 0, 0⟩ 210 h16)
 (PUTN b6 [.int .u8 v37_0, .bool v37_1, .int .i64 v37_2, .string v37_3, v37_4.v, v37_5.v, v37_6.v] 2 h15 fun h17 =>
 JOIN [] (fun k18 => COND ((IntKind.wrap .u8 (v21)) == 1) (LD (.nt .i64) ⟨b19, 1, none⟩ (EQ h17) fun v53 =>
 SLI 1 p0.a p0.len p0.cap (some v53) none none fun v54 =>
 CALL P Z 50 [v54.v] [.agg [.nt .u8, .bl, .nt .i64, .tx, .sl, .sl, .sl], .one (.nt .i64)] h17 [b2, b4, b6, b8] fun v55_0 v55_1 v55_2 v55_3 v55_4 v55_5 v55_6 v55_7 h20 =>
 ALLOC [.int .u8 0, .bool false, .int .i64 0, .string ByteArray.empty, .slice none 0 0, .slice none 0 0, .slice none 0 0] 27 h20 fun b10 h21 =>
 PUTN b10 [.int .u8 v55_0, .bool v55_1, .int .i64 v55_2, .string v55_3, v55_4.v, v55_5.v, v55_6.v] 0 h21 fun h22 =>
 COND (v55_7 != 0) (PUTN b2 [.int .u8 0, .string ByteArray.empty, .int .u8 0, .bool false, .int .i64 0, .string ByteArray.empty, .slice none 0 0, .slice none 0 0, .slice none 0 0, .int .u8 0, .bool false, .int .i64 0, .string ByteArray.empty, .slice none 0 0, .slice none 0 0, .slice none 0 0] 0 h22 fun h23 =>
 Q 0 ByteArray.empty 0 false 0 ByteArray.empty ⟨none, 0, 0⟩ ⟨none, 0, 0⟩ ⟨none, 0, 0⟩ 0 false 0 ByteArray.empty ⟨none, 0, 0⟩ ⟨none, 0, 0⟩ ⟨none, 0, 0⟩ 210 h23)
 (PUTN b6 [.int .u8 v55_0, .bool v55_1, .int .i64 v55_2, .string v55_3, v55_4.v, v55_5.v, v55_6.v] 9 h22 fun h24 =>
 STN ⟨b19, 1, none⟩ [.int .i64 (p0.len : Int)] 0 h24 [b2, b4, b6, b8, b10] fun h25 =>
 k18 h25))
 (k18 h17))
 fun h19 =>
 JOIN [.bl] (fun k26 => CALL P Z 51 [.pointer (some ⟨b19, 0, none⟩)] [.one (.nt .i64)] h19 [b4] fun v69 h28 =>
 COND (v69 != 0) (k26 true h28)
 (LDN [.nt .u8, .tx, .nt .u8, .bl, .nt .i64, .tx, .sl, .sl, .sl, .nt .u8, .bl, .nt .i64, .tx, .sl, .sl, .sl] ⟨b6, 0, none⟩ 0 (EQ h28) fun v72_0 v72_1 v72_2 v72_3 v72_4 v72_5 v72_6 v72_7 v72_8 v72_9 v72_10 v72_11 v72_12 v72_13 v72_14 v72_15 =>
 CALL P Z 45 [.agg #[.int .u8 v72_0, .string v72_1, .int .u8 v72_2, .bool v72_3, .int .i64 v72_4, .string v72_5, v72_6.v, v72_7.v, v72_8.v, .int .u8 v72_9, .bool v72_10, .int .i64 v72_11, .string v72_12, v72_13.v, v72_14.v, v72_15.v]] [.one (.bl)] h28 [b4] fun v73 h29 =>
 k26 (!v73) h29))
 fun x75 h27 =>
 COND x75 (STN ⟨b2, 0, none⟩ [.int .u8 0, .string ByteArray.empty, .int .u8 0, .bool false, .int .i64 0, .string ByteArray.empty, .slice none 0 0, .slice none 0 0, .slice none 0 0, .int .u8 0, .bool false, .int .i64 0, .string ByteArray.empty, .slice none 0 0, .slice none 0 0, .slice none 0 0] 0 h27 [b4] fun h30 =>
 LDN [.nt .u8, .tx, .nt .u8, .bl, .nt .i64, .tx, .sl, .sl, .sl, .nt .u8, .bl, .nt .i64, .tx, .sl, .sl, .sl] ⟨b2, 0, none⟩ 0 (EQ h30) fun r2_0 r2_1 r2_2 r2_3 r2_4 r2_5 r2_6 r2_7 r2_8 r2_9 r2_10 r2_11 r2_12 r2_13 r2_14 r2_15 =>
 Q r2_0 r2_1 r2_2 r2_3 r2_4 r2_5 r2_6 r2_7 r2_8 r2_9 r2_10 r2_11 r2_12 r2_13 r2_14 r2_15 210 h30)
 (LDN [.nt .u8, .tx, .nt .u8, .bl, .nt .i64, .tx, .sl, .sl, .sl, .nt .u8, .bl, .nt .i64, .tx, .sl, .sl, .sl] ⟨b6, 0, none⟩ 0 (EQ h27) fun v77_0 v77_1 v77_2 v77_3 v77_4 v77_5 v77_6 v77_7 v77_8 v77_9 v77_10 v77_11 v77_12 v77_13 v77_14 v77_15 =>
 STN ⟨b2, 0, none⟩ [.int .u8 v77_0, .string v77_1, .int .u8 v77_2, .bool v77_3, .int .i64 v77_4, .string v77_5, v77_6.v, v77_7.v, v77_8.v, .int .u8 v77_9, .bool v77_10, .int .i64 v77_11, .string v77_12, v77_13.v, v77_14.v, v77_15.v] 0 h27 [b4] fun h31 =>
 LDN [.nt .u8, .tx, .nt .u8, .bl, .nt .i64, .tx, .sl, .sl, .sl, .nt .u8, .bl, .nt .i64, .tx, .sl, .sl, .sl] ⟨b2, 0, none⟩ 0 (EQ h31) fun r2_0 r2_1 r2_2 r2_3 r2_4 r2_5 r2_6 r2_7 r2_8 r2_9 r2_10 r2_11 r2_12 r2_13 r2_14 r2_15 =>
 Q r2_0 r2_1 r2_2 r2_3 r2_4 r2_5 r2_6 r2_7 r2_8 r2_9 r2_10 r2_11 r2_12 r2_13 r2_14 r2_15 0 h31))))
def pl16 : Plan := ⟨[(19, ⟨[], [2, 4, 5, 6], [4]⟩)], [], [], [(19, ⟨[(75, .bl)], [2, 4, 6], [4]⟩)], [], []⟩
theorem q16_eq (Z : List PanicEntry → Heap → Prop) (p0 : Sl) (h0 : Heap) (Q : Cur (flat [.agg [.nt .u8, .tx, .nt .u8, .bl, .nt .i64, .tx, .sl, .sl, .sl, .nt .u8, .bl, .nt .i64, .tx, .sl, .sl, .sl], .one (.nt .i64)]) (Heap → Prop)) : q16 Z p0 h0 Q = (WPF P Z Tryz.f16 pl16 [.one (.sl)] h0 Q) p0 := by kernel_rfl

/- (*codicil/codicilref00.Book).Bytes -/
def q17 (Z : List PanicEntry → Heap → Prop) (p0 : Option Addr) (p1 : Sl) (h0 : Heap) (Q : Cur (flat []) (Heap → Prop)) : Prop :=
 NN p0 fun a6 =>
 LD (.sl) (a6.add 0) (EQ h0) fun v8 =>
 ALLOC [p1.v] 23 h0 fun b10 h1 =>
 APPEND 1 24 23 [.slice none 0 0] v8.a v8.len v8.cap (some ⟨b10, 0, none⟩) 1 h1 [] fun v11 h2 =>
 NN p0 fun a12 =>
 STN (a12.add 0) [v11.v] 0 h2 [] fun h3 =>
 Q h3
def pl17 : Plan := ⟨[], [], [], [], [], []⟩
theorem q17_eq (Z : List PanicEntry → Heap → Prop) (p0 : Option Addr) (p1 : Sl) (h0 : Heap) (Q : Cur (flat []) (Heap → Prop)) : q17 Z p0 p1 h0 Q = (WPF P Z Tryz.f17 pl17 [.one (.pt), .one (.sl)] h0 Q) p0 p1 := by kernel_rfl

/- (*codicil/codicilref00.Book).Event -/
def q18 (Z : List PanicEntry → Heap → Prop) (p0 : Option Addr) (p1 : Int) (p2 : ByteArray) (p3 : Int) (p4 : Bool) (p5 : Int) (p6 : ByteArray) (p7 : Sl) (p8 : Sl) (p9 : Sl) (p10 : Int) (p11 : Bool) (p12 : Int) (p13 : ByteArray) (p14 : Sl) (p15 : Sl) (p16 : Sl) (h0 : Heap) (Q : Cur (flat []) (Heap → Prop)) : Prop :=
 ALLOC [.int .u8 p1, .string p2, .int .u8 p3, .bool p4, .int .i64 p5, .string p6, p7.v, p8.v, p9.v, .int .u8 p10, .bool p11, .int .i64 p12, .string p13, p14.v, p15.v, p16.v] 29 h0 fun b3 h1 =>
 CALL P Z 52 [.pointer p0, .agg #[.int .u8 p3, .bool p4, .int .i64 p5, .string p6, p7.v, p8.v, p9.v]] [] h1 [b3] fun h2 =>
 CALL P Z 52 [.pointer p0, .agg #[.int .u8 p10, .bool p11, .int .i64 p12, .string p13, p14.v, p15.v, p16.v]] [] h2 [b3] fun h3 =>
 Q h3
def pl18 : Plan := ⟨[], [], [], [], [], []⟩
theorem q18_eq (Z : List PanicEntry → Heap → Prop) (p0 : Option Addr) (p1 : Int) (p2 : ByteArray) (p3 : Int) (p4 : Bool) (p5 : Int) (p6 : ByteArray) (p7 : Sl) (p8 : Sl) (p9 : Sl) (p10 : Int) (p11 : Bool) (p12 : Int) (p13 : ByteArray) (p14 : Sl) (p15 : Sl) (p16 : Sl) (h0 : Heap) (Q : Cur (flat []) (Heap → Prop)) : q18 Z p0 p1 p2 p3 p4 p5 p6 p7 p8 p9 p10 p11 p12 p13 p14 p15 p16 h0 Q = (WPF P Z Tryz.f18 pl18 [.one (.pt), .agg [.nt .u8, .tx, .nt .u8, .bl, .nt .i64, .tx, .sl, .sl, .sl, .nt .u8, .bl, .nt .i64, .tx, .sl, .sl, .sl]] h0 Q) p0 p1 p2 p3 p4 p5 p6 p7 p8 p9 p10 p11 p12 p13 p14 p15 p16 := by kernel_rfl

/- codicil/codicilref00.SameBytes -/
def q19 (Z : List PanicEntry → Heap → Prop) (p0 : Sl) (p1 : Sl) (h0 : Heap) (Q : Cur (flat [.one (.bl)]) (Heap → Prop)) : Prop :=
 COND ((p0.len : Int) != (p1.len : Int)) (Q false h0)
 (LOOP [.nt .i64] (fun x5 h2 nx1 =>
 COND (decide (x5 < (p0.len : Int))) (IXA 1 p0.a p0.len x5 fun a19 =>
 LD (.nt .u8) a19 (EQ h2) fun v20 =>
 IXA 1 p1.a p1.len x5 fun a23 =>
 LD (.nt .u8) a23 (EQ h2) fun v24 =>
 COND (v20 != v24) (Q false h2)
 (nx1 (IntKind.wrap .i64 (x5 + 1)) h2))
 (Q true h2)) 0 h0)
def pl19 : Plan := ⟨[], [(4, ⟨[(5, .nt .i64)], [0, 1], []⟩)], [], [], [(6, true, [0, 1, 2, 3, 4, 5, 6, 7, 8])], []⟩
theorem q19_eq (Z : List PanicEntry → Heap → Prop) (p0 : Sl) (p1 : Sl) (h0 : Heap) (Q : Cur (flat [.one (.bl)]) (Heap → Prop)) : q19 Z p0 p1 h0 Q = (WPF P Z Tryz.f19 pl19 [.one (.sl), .one (.sl)] h0 Q) p0 p1 := by kernel_rfl

/- codicil/codicilref00.SameEvent -/
def q20 (Z : List PanicEntry → Heap → Prop) (p0 : Int) (p1 : ByteArray) (p2 : Int) (p3 : Bool) (p4 : Int) (p5 : ByteArray) (p6 : Sl) (p7 : Sl) (p8 : Sl) (p9 : Int) (p10 : Bool) (p11 : Int) (p12 : ByteArray) (p13 : Sl) (p14 : Sl) (p15 : Sl) (p16 : Int) (p17 : ByteArray) (p18 : Int) (p19 : Bool) (p20 : Int) (p21 : ByteArray) (p22 : Sl) (p23 : Sl) (p24 : Sl) (p25 : Int) (p26 : Bool) (p27 : Int) (p28 : ByteArray) (p29 : Sl) (p30 : Sl) (p31 : Sl) (h0 : Heap) (Q : Cur (flat [.one (.bl)]) (Heap → Prop)) : Prop :=
 ALLOC [.int .u8 p0, .string p1, .int .u8 p2, .bool p3, .int .i64 p4, .string p5, p6.v, p7.v, p8.v, .int .u8 p9, .bool p10, .int .i64 p11, .string p12, p13.v, p14.v, p15.v] 29 h0 fun b2 h1 =>
 ALLOC [.int .u8 p16, .string p17, .int .u8 p18, .bool p19, .int .i64 p20, .string p21, p22.v, p23.v, p24.v, .int .u8 p25, .bool p26, .int .i64 p27, .string p28, p29.v, p30.v, p31.v] 29 h1 fun b3 h2 =>
 JOIN [.bl] (fun k3 => COND (p0 == p16) (COND (p1.toList == p17.toList) (CALL P Z 53 [.agg #[.int .u8 p2, .bool p3, .int .i64 p4, .string p5, p6.v, p7.v, p8.v], .agg #[.int .u8 p18, .bool p19, .int .i64 p20, .string p21, p22.v, p23.v, p24.v]] [.one (.bl)] h2 [b2, b3] fun v22 h5 =>
 COND v22 (CALL P Z 53 [.agg #[.int .u8 p9, .bool p10, .int .i64 p11, .string p12, p13.v, p14.v, p15.v], .agg #[.int .u8 p25, .bool p26, .int .i64 p27, .string p28, p29.v, p30.v, p31.v]] [.one (.bl)] h5 [b2, b3] fun v29 h6 =>
 k3 v29 h6)
 (k3 false h5))
 (k3 false h2))
 (k3 false h2))
 fun x4 h4 =>
 Q x4 h4
def pl20 : Plan := ⟨[], [], [], [(1, ⟨[(4, .bl)], [], []⟩)], [], []⟩
theorem q20_eq (Z : List PanicEntry → Heap → Prop) (p0 : Int) (p1 : ByteArray) (p2 : Int) (p3 : Bool) (p4 : Int) (p5 : ByteArray) (p6 : Sl) (p7 : Sl) (p8 : Sl) (p9 : Int) (p10 : Bool) (p11 : Int) (p12 : ByteArray) (p13 : Sl) (p14 : Sl) (p15 : Sl) (p16 : Int) (p17 : ByteArray) (p18 : Int) (p19 : Bool) (p20 : Int) (p21 : ByteArray) (p22 : Sl) (p23 : Sl) (p24 : Sl) (p25 : Int) (p26 : Bool) (p27 : Int) (p28 : ByteArray) (p29 : Sl) (p30 : Sl) (p31 : Sl) (h0 : Heap) (Q : Cur (flat [.one (.bl)]) (Heap → Prop)) : q20 Z p0 p1 p2 p3 p4 p5 p6 p7 p8 p9 p10 p11 p12 p13 p14 p15 p16 p17 p18 p19 p20 p21 p22 p23 p24 p25 p26 p27 p28 p29 p30 p31 h0 Q = (WPF P Z Tryz.f20 pl20 [.agg [.nt .u8, .tx, .nt .u8, .bl, .nt .i64, .tx, .sl, .sl, .sl, .nt .u8, .bl, .nt .i64, .tx, .sl, .sl, .sl], .agg [.nt .u8, .tx, .nt .u8, .bl, .nt .i64, .tx, .sl, .sl, .sl, .nt .u8, .bl, .nt .i64, .tx, .sl, .sl, .sl]] h0 Q) p0 p1 p2 p3 p4 p5 p6 p7 p8 p9 p10 p11 p12 p13 p14 p15 p16 p17 p18 p19 p20 p21 p22 p23 p24 p25 p26 p27 p28 p29 p30 p31 := by kernel_rfl

/- codicil/codicillaw21.known -/
def q21 (Z : List PanicEntry → Heap → Prop)  (h0 : Heap) (Q : Cur (flat [.one (.bl)]) (Heap → Prop)) : Prop :=
 CALL P Z 54 [] [.agg [.nt .u8, .tx, .nt .u8, .bl, .nt .i64, .tx, .sl, .sl, .sl, .nt .u8, .bl, .nt .i64, .tx, .sl, .sl, .sl]] h0 [] fun v6_0 v6_1 v6_2 v6_3 v6_4 v6_5 v6_6 v6_7 v6_8 v6_9 v6_10 v6_11 v6_12 v6_13 v6_14 v6_15 h1 =>
 CALL P Z 9 [.agg #[.int .u8 v6_0, .string v6_1, .int .u8 v6_2, .bool v6_3, .int .i64 v6_4, .string v6_5, v6_6.v, v6_7.v, v6_8.v, .int .u8 v6_9, .bool v6_10, .int .i64 v6_11, .string v6_12, v6_13.v, v6_14.v, v6_15.v]] [.one (.sl), .one (.nt .u16)] h1 [] fun v7_0 v7_1 h2 =>
 CALL P Z 10 [v7_0.v] [.agg [.nt .u8, .tx, .nt .u8, .bl, .nt .i64, .tx, .sl, .sl, .sl, .nt .u8, .bl, .nt .i64, .tx, .sl, .sl, .sl], .one (.nt .u16)] h2 [] fun v12_0 v12_1 v12_2 v12_3 v12_4 v12_5 v12_6 v12_7 v12_8 v12_9 v12_10 v12_11 v12_12 v12_13 v12_14 v12_15 v12_16 h3 =>
 ALLOC [.int .u8 0, .string ByteArray.empty, .int .u8 0, .bool false, .int .i64 0, .string ByteArray.empty, .slice none 0 0, .slice none 0 0, .slice none 0 0, .int .u8 0, .bool false, .int .i64 0, .string ByteArray.empty, .slice none 0 0, .slice none 0 0, .slice none 0 0] 29 h3 fun b3 h4 =>
 PUTN b3 [.int .u8 v12_0, .string v12_1, .int .u8 v12_2, .bool v12_3, .int .i64 v12_4, .string v12_5, v12_6.v, v12_7.v, v12_8.v, .int .u8 v12_9, .bool v12_10, .int .i64 v12_11, .string v12_12, v12_13.v, v12_14.v, v12_15.v] 0 h4 fun h5 =>
 JOIN [.bl] (fun k6 => DRAW h5 [b3] fun S8 =>
 COND (v7_1 == 0) (COND (v12_16 == 0) (CALL P (fun _ _ => False) 54 [] [.agg [.nt .u8, .tx, .nt .u8, .bl, .nt .i64, .tx, .sl, .sl, .sl, .nt .u8, .bl, .nt .i64, .tx, .sl, .sl, .sl]] h5 [b3] fun v23_0 v23_1 v23_2 v23_3 v23_4 v23_5 v23_6 v23_7 v23_8 v23_9 v23_10 v23_11 v23_12 v23_13 v23_14 v23_15 h9 =>
 SS S8 h9 (
 CALL P (fun _ _ => False) 20 [.agg #[.int .u8 v12_0, .string v12_1, .int .u8 v12_2, .bool v12_3, .int .i64 v12_4, .string v12_5, v12_6.v, v12_7.v, v12_8.v, .int .u8 v12_9, .bool v12_10, .int .i64 v12_11, .string v12_12, v12_13.v, v12_14.v, v12_15.v], .agg #[.int .u8 v23_0, .string v23_1, .int .u8 v23_2, .bool v23_3, .int .i64 v23_4, .string v23_5, v23_6.v, v23_7.v, v23_8.v, .int .u8 v23_9, .bool v23_10, .int .i64 v23_11, .string v23_12, v23_13.v, v23_14.v, v23_15.v]] [.one (.bl)] h9 [b3] fun v24 h10 =>
 SS S8 h10 (
 COND v24 (ALLOC [.int .u8 1, .int .u8 1, .int .u8 97, .int .u8 2, .int .u8 4, .int .u8 2, .int .u8 8, .int .u8 1, .int .u8 3, .int .u8 95, .int .u8 105, .int .u8 100, .int .u8 4, .int .u8 2] 5 h10 fun b28 h11 =>
 SS S8 h11 (
 CALL P (fun _ _ => False) 19 [v7_0.v, .slice (some ⟨b28, 0, none⟩) 14 14] [.one (.bl)] h11 [b3] fun v29 h12 =>
 SS S8 h12 (
 k6 v29 h12)))
 (SS S8 h10 (
 SS S8 h10 (
 k6 false h10))))))
 (SS S8 h5 (
 SS S8 h5 (
 SS S8 h5 (
 SS S8 h5 (
 k6 false h5))))))
 (SS S8 h5 (
 SS S8 h5 (
 SS S8 h5 (
 SS S8 h5 (
 k6 false h5))))))
 fun x0 h7 =>
 Q x0 h7
def pl21 : Plan := ⟨[], [], [], [(3, ⟨[(0, .bl)], [], []⟩)], [(3, false, [0, 1, 2, 3, 4, 5, 6, 7, 8, 9, 10, 11, 12, 13, 14, 15, 16])], []⟩
theorem q21_eq (Z : List PanicEntry → Heap → Prop)  (h0 : Heap) (Q : Cur (flat [.one (.bl)]) (Heap → Prop)) : q21 Z  h0 Q = (WPF P Z Tryz.f21 pl21 [] h0 Q)  := by kernel_rfl

/- (*codicil/codicilref00.Book).Own -/
def q22 (Z : List PanicEntry → Heap → Prop) (p0 : Option Addr) (h0 : Heap) (Q : Cur (flat [.one (.bl)]) (Heap → Prop)) : Prop :=
 JOIN [.bl] (fun k1 => NN p0 fun a6 =>
 LD (.sl) (a6.add 0) (EQ h0) fun v8 =>
 CALL P Z 55 [v8.v] [.one (.bl)] h0 [] fun v9 h3 =>
 COND v9 (NN p0 fun a12 =>
 LD (.sl) (a12.add 1) (EQ h3) fun v14 =>
 CALL P Z 56 [v14.v] [.one (.bl)] h3 [] fun v15 h4 =>
 COND v15 (NN p0 fun a19 =>
 LD (.sl) (a19.add 2) (EQ h4) fun v21 =>
 CALL P Z 57 [v21.v] [.one (.bl)] h4 [] fun v22 h5 =>
 COND v22 (NN p0 fun a26 =>
 LD (.sl) (a26.add 3) (EQ h5) fun v28 =>
 CALL P Z 58 [v28.v] [.one (.bl)] h5 [] fun v29 h6 =>
 COND v29 (NN p0 fun a33 =>
 LD (.sl) (a33.add 4) (EQ h6) fun v35 =>
 CALL P Z 59 [v35.v] [.one (.bl)] h6 [] fun v36 h7 =>
 COND v36 (NN p0 fun a40 =>
 LD (.sl) (a40.add 5) (EQ h7) fun v42 =>
 CALL P Z 60 [v42.v] [.one (.bl)] h7 [] fun v43 h8 =>
 COND v43 (NN p0 fun a47 =>
 LD (.sl) (a47.add 6) (EQ h8) fun v49 =>
 CALL P Z 61 [v49.v] [.one (.bl)] h8 [] fun v50 h9 =>
 COND v50 (NN p0 fun a54 =>
 LD (.sl) (a54.add 7) (EQ h9) fun v56 =>
 CALL P Z 62 [v56.v] [.one (.bl)] h9 [] fun v57 h10 =>
 COND v57 (NN p0 fun a61 =>
 LD (.sl) (a61.add 8) (EQ h10) fun v63 =>
 CALL P Z 63 [v63.v] [.one (.bl)] h10 [] fun v64 h11 =>
 k1 v64 h11)
 (k1 false h10))
 (k1 false h9))
 (k1 false h8))
 (k1 false h7))
 (k1 false h6))
 (k1 false h5))
 (k1 false h4))
 (k1 false h3))
 fun x3 h2 =>
 JOIN [.bl] (fun k12 => COND x3 (NN p0 fun a69 =>
 LD (.sl) (a69.add 9) (EQ h2) fun v71 =>
 CALL P Z 64 [v71.v] [.one (.bl)] h2 [] fun v72 h14 =>
 COND v72 (NN p0 fun a76 =>
 LD (.sl) (a76.add 10) (EQ h14) fun v78 =>
 CALL P Z 65 [v78.v] [.one (.bl)] h14 [] fun v79 h15 =>
 COND v79 (NN p0 fun a83 =>
 LD (.sl) (a83.add 11) (EQ h15) fun v85 =>
 CALL P Z 66 [v85.v] [.one (.bl)] h15 [] fun v86 h16 =>
 COND v86 (NN p0 fun a90 =>
 LD (.sl) (a90.add 12) (EQ h16) fun v92 =>
 CALL P Z 67 [v92.v] [.one (.bl)] h16 [] fun v93 h17 =>
 COND v93 (NN p0 fun a97 =>
 LD (.sl) (a97.add 13) (EQ h17) fun v99 =>
 CALL P Z 68 [v99.v] [.one (.bl)] h17 [] fun v100 h18 =>
 COND v100 (NN p0 fun a104 =>
 LD (.sl) (a104.add 14) (EQ h18) fun v106 =>
 CALL P Z 69 [v106.v] [.one (.bl)] h18 [] fun v107 h19 =>
 COND v107 (NN p0 fun a111 =>
 LD (.sl) (a111.add 15) (EQ h19) fun v113 =>
 CALL P Z 70 [v113.v] [.one (.bl)] h19 [] fun v114 h20 =>
 COND v114 (NN p0 fun a118 =>
 LD (.sl) (a118.add 16) (EQ h20) fun v120 =>
 CALL P Z 71 [v120.v] [.one (.bl)] h20 [] fun v121 h21 =>
 k12 v121 h21)
 (k12 false h20))
 (k12 false h19))
 (k12 false h18))
 (k12 false h17))
 (k12 false h16))
 (k12 false h15))
 (k12 false h14))
 (k12 false h2))
 fun x4 h13 =>
 JOIN [.bl] (fun k22 => COND x4 (NN p0 fun a126 =>
 LD (.sl) (a126.add 17) (EQ h13) fun v128 =>
 CALL P Z 72 [v128.v] [.one (.bl)] h13 [] fun v129 h24 =>
 COND v129 (NN p0 fun a133 =>
 LD (.sl) (a133.add 18) (EQ h24) fun v135 =>
 CALL P Z 73 [v135.v] [.one (.bl)] h24 [] fun v136 h25 =>
 COND v136 (NN p0 fun a140 =>
 LD (.sl) (a140.add 19) (EQ h25) fun v142 =>
 CALL P Z 74 [v142.v] [.one (.bl)] h25 [] fun v143 h26 =>
 COND v143 (NN p0 fun a147 =>
 LD (.sl) (a147.add 20) (EQ h26) fun v149 =>
 CALL P Z 75 [v149.v] [.one (.bl)] h26 [] fun v150 h27 =>
 COND v150 (NN p0 fun a154 =>
 LD (.sl) (a154.add 21) (EQ h27) fun v156 =>
 CALL P Z 76 [v156.v] [.one (.bl)] h27 [] fun v157 h28 =>
 COND v157 (NN p0 fun a161 =>
 LD (.sl) (a161.add 22) (EQ h28) fun v163 =>
 CALL P Z 77 [v163.v] [.one (.bl)] h28 [] fun v164 h29 =>
 k22 v164 h29)
 (k22 false h28))
 (k22 false h27))
 (k22 false h26))
 (k22 false h25))
 (k22 false h24))
 (k22 false h13))
 fun x2 h23 =>
 Q x2 h23
def pl22 : Plan := ⟨[], [], [], [(3, ⟨[(2, .bl)], [], []⟩), (2, ⟨[(4, .bl)], [0], []⟩), (1, ⟨[(3, .bl)], [0], []⟩)], [], []⟩
theorem q22_eq (Z : List PanicEntry → Heap → Prop) (p0 : Option Addr) (h0 : Heap) (Q : Cur (flat [.one (.bl)]) (Heap → Prop)) : q22 Z p0 h0 Q = (WPF P Z Tryz.f22 pl22 [.one (.pt)] h0 Q) p0 := by kernel_rfl

/- codicil/codicillaw21.weight -/
def q23 (Z : List PanicEntry → Heap → Prop) (p0 : Int) (p1 : Bool) (p2 : Int) (p3 : ByteArray) (p4 : Sl) (p5 : Sl) (p6 : Sl) (p7 : Int) (h0 : Heap) (Q : Cur (flat [.one (.nt .i64)]) (Heap → Prop)) : Prop :=
 ALLOC [.int .u8 p0, .bool p1, .int .i64 p2, .string p3, p4.v, p5.v, p6.v] 27 h0 fun b2 h1 =>
 DIVI 64 (DIVI 64 (LOOP [.nt .i64, .nt .i64] (fun x1 x5 h3 nx2 =>
 JOIN [.bl] (fun k4 => COND (decide (x5 < (p5.len : Int))) (k4 (decide (x1 ≤ 20000)) h3)
 (k4 false h3))
 fun x27 h5 =>
 COND x27 (IXA 7 p5.a p5.len x5 fun a33 =>
 LDN [.nt .u8, .bl, .nt .i64, .tx, .sl, .sl, .sl] a33 0 (EQ h5) fun v34_0 v34_1 v34_2 v34_3 v34_4 v34_5 v34_6 =>
 CALL P Z 23 [.agg #[.int .u8 v34_0, .bool v34_1, .int .i64 v34_2, .string v34_3, v34_4.v, v34_5.v, v34_6.v], .int .i64 x1] [.one (.nt .i64)] h5 [b2] fun v36 h6 =>
 nx2 v36 (IntKind.wrap .i64 (x5 + 1)) h6)
 (LOOP [.nt .i64, .nt .i64] (fun x1 x6 h8 nx7 =>
 JOIN [.bl] (fun k9 => COND (decide (x6 < (p6.len : Int))) (k9 (decide (x1 ≤ 20000)) h8)
 (k9 false h8))
 fun x45 h10 =>
 COND x45 (DRAW h10 [b2] fun S11 =>
 IXA 8 p6.a p6.len x6 fun a51 =>
 LDN [.nt .u8, .bl, .nt .i64, .tx, .sl, .sl, .sl] (a51.add 1) 0 S11 fun v53_0 v53_1 v53_2 v53_3 v53_4 v53_5 v53_6 =>
 IXA 8 p6.a p6.len x6 fun a58 =>
 LD (.tx) (a58.add 0) S11 fun v60 =>
 DIVI 64 (CALL P (fun _ _ => False) 23 [.agg #[.int .u8 v53_0, .bool v53_1, .int .i64 v53_2, .string v53_3, v53_4.v, v53_5.v, v53_6.v], .int .i64 (IntKind.wrap .i64 (x1 + (IntKind.wrap .i64 (Int.tdiv (v60.size : Int) 64))))] [.one (.nt .i64)] h10 [b2] fun v64 h12 =>
 SS S11 h12 (
 nx7 v64 (IntKind.wrap .i64 (x6 + 1)) h12)))
 (Q x1 h10)) x1 0 h5)) (IntKind.wrap .i64 ((IntKind.wrap .i64 ((IntKind.wrap .i64 (p7 + 1)) + (IntKind.wrap .i64 (Int.tdiv (p3.size : Int) 64)))) + (IntKind.wrap .i64 (Int.tdiv (p4.len : Int) 64)))) 0 h1))
def pl23 : Plan := ⟨[], [(7, ⟨[(1, .nt .i64), (6, .nt .i64)], [2], [2]⟩), (3, ⟨[(1, .nt .i64), (5, .nt .i64)], [2], [2]⟩)], [], [(7, ⟨[(45, .bl)], [1, 2, 6], [2]⟩), (3, ⟨[(27, .bl)], [1, 2, 5], [2]⟩)], [(9, false, [0, 1, 2, 3, 4, 5, 6, 7, 8, 9, 10, 11, 12, 13, 14, 15, 16, 17])], []⟩
theorem q23_eq (Z : List PanicEntry → Heap → Prop) (p0 : Int) (p1 : Bool) (p2 : Int) (p3 : ByteArray) (p4 : Sl) (p5 : Sl) (p6 : Sl) (p7 : Int) (h0 : Heap) (Q : Cur (flat [.one (.nt .i64)]) (Heap → Prop)) : q23 Z p0 p1 p2 p3 p4 p5 p6 p7 h0 Q = (WPF P Z Tryz.f23 pl23 [.agg [.nt .u8, .bl, .nt .i64, .tx, .sl, .sl, .sl], .one (.nt .i64)] h0 Q) p0 p1 p2 p3 p4 p5 p6 p7 := by kernel_rfl

/- codicil/codicilref00.LentValue -/
def q24 (Z : List PanicEntry → Heap → Prop) (p0 : Int) (p1 : Bool) (p2 : Int) (p3 : ByteArray) (p4 : Sl) (p5 : Sl) (p6 : Sl) (h0 : Heap) (Q : Cur (flat [.agg [.nt .u8, .bl, .nt .i64, .tx, .sl, .sl, .sl]]) (Heap → Prop)) : Prop :=
 ALLOC [.int .u8 p0, .bool p1, .int .i64 p2, .string p3, p4.v, p5.v, p6.v] 27 h0 fun b1 h1 =>
 ALLOC [.int .u8 0, .bool false, .int .i64 0, .string ByteArray.empty, .slice none 0 0, .slice none 0 0, .slice none 0 0] 27 h1 fun b2 h2 =>
 DRAW h2 [b1, b2] fun S3 =>
 CALL P (fun _ _ => False) 8 [p4.v] [.one (.sl)] h2 [b1, b2] fun v13 h4 =>
 SS S3 h4 (
 CALL P (fun _ _ => False) 78 [p5.v] [.one (.sl)] h4 [b1, b2] fun v16 h5 =>
 SS S3 h5 (
 CALL P (fun _ _ => False) 79 [p6.v] [.one (.sl)] h5 [b1, b2] fun v19 h6 =>
 SS S3 h6 (
 PUTN b2 [.int .u8 p0, .bool p1, .int .i64 p2, .string p3, v13.v, v16.v, v19.v] 0 h6 fun h7 =>
 Q p0 p1 p2 p3 v13 v16 v19 h7)))
def pl24 : Plan := ⟨[], [], [], [], [(1, false, [0, 1, 2, 3, 4, 5, 6, 7, 8, 9, 11, 12, 14, 15, 10, 13, 16, 17, 18])], []⟩
theorem q24_eq (Z : List PanicEntry → Heap → Prop) (p0 : Int) (p1 : Bool) (p2 : Int) (p3 : ByteArray) (p4 : Sl) (p5 : Sl) (p6 : Sl) (h0 : Heap) (Q : Cur (flat [.agg [.nt .u8, .bl, .nt .i64, .tx, .sl, .sl, .sl]]) (Heap → Prop)) : q24 Z p0 p1 p2 p3 p4 p5 p6 h0 Q = (WPF P Z Tryz.f24 pl24 [.agg [.nt .u8, .bl, .nt .i64, .tx, .sl, .sl, .sl]] h0 Q) p0 p1 p2 p3 p4 p5 p6 := by kernel_rfl

/- codicil/event.may -/
def q25 (Z : List PanicEntry → Heap → Prop) (p0 : Int) (p1 : ByteArray) (p2 : Int) (p3 : Bool) (p4 : Int) (p5 : ByteArray) (p6 : Sl) (p7 : Sl) (p8 : Sl) (p9 : Int) (p10 : Bool) (p11 : Int) (p12 : ByteArray) (p13 : Sl) (p14 : Sl) (p15 : Sl) (h0 : Heap) (Q : Cur (flat [.one (.bl)]) (Heap → Prop)) : Prop :=
 ALLOC [.int .u8 p0, .string p1, .int .u8 p2, .bool p3, .int .i64 p4, .string p5, p6.v, p7.v, p8.v, .int .u8 p9, .bool p10, .int .i64 p11, .string p12, p13.v, p14.v, p15.v] 29 h0 fun b1 h1 =>
 CALL P Z 80 [.agg #[.int .u8 p2, .bool p3, .int .i64 p4, .string p5, p6.v, p7.v, p8.v], .bool false] [.one (.sl), .one (.nt .u16)] h1 [b1] fun v10_0 v10_1 h2 =>
 JOIN [.bl] (fun k3 => COND (v10_1 != 0) (k3 true h2)
 (COND (decide ((v10_0.len : Int) > 60)) (k3 true h2)
 (CALL P Z 81 [.string p1] [.one (.bl)] h2 [b1] fun v23 h5 =>
 k3 (!v23) h5)))
 fun x25 h4 =>
 COND x25 (Q false h4)
 (COND (p0 == 2) (CALL P Z 82 [.agg #[.int .u8 p9, .bool p10, .int .i64 p11, .string p12, p13.v, p14.v, p15.v], .agg #[.int .u8 0, .bool false, .int .i64 0, .string ByteArray.empty, .slice none 0 0, .slice none 0 0, .slice none 0 0]] [.one (.bl)] h4 [b1] fun v33 h6 =>
 Q v33 h6)
 (COND (p0 == 1) (CALL P Z 83 [.agg #[.int .u8 p9, .bool p10, .int .i64 p11, .string p12, p13.v, p14.v, p15.v], .string (ByteArray.mk #[95, 105, 100])] [.agg [.nt .u8, .bl, .nt .i64, .tx, .sl, .sl, .sl], .one (.bl)] h4 [b1] fun v39_0 v39_1 v39_2 v39_3 v39_4 v39_5 v39_6 v39_7 h7 =>
 ALLOC [.int .u8 0, .bool false, .int .i64 0, .string ByteArray.empty, .slice none 0 0, .slice none 0 0, .slice none 0 0] 27 h7 fun b5 h8 =>
 PUTN b5 [.int .u8 v39_0, .bool v39_1, .int .i64 v39_2, .string v39_3, v39_4.v, v39_5.v, v39_6.v] 0 h8 fun h9 =>
 JOIN [.bl] (fun k10 => COND v39_7 (CALL P Z 82 [.agg #[.int .u8 v39_0, .bool v39_1, .int .i64 v39_2, .string v39_3, v39_4.v, v39_5.v, v39_6.v], .agg #[.int .u8 p2, .bool p3, .int .i64 p4, .string p5, p6.v, p7.v, p8.v]] [.one (.bl)] h9 [b1, b5] fun v47 h12 =>
 COND v47 (CALL P Z 84 [.agg #[.int .u8 p9, .bool p10, .int .i64 p11, .string p12, p13.v, p14.v, p15.v]] [.one (.nt .u16)] h12 [b1, b5] fun v52 h13 =>
 k10 (v52 == 0) h13)
 (k10 false h12))
 (k10 false h9))
 fun x2 h11 =>
 Q x2 h11)
 (Q false h4)))
def pl25 : Plan := ⟨[], [], [], [(9, ⟨[(2, .bl)], [], []⟩), (2, ⟨[(25, .bl)], [1], [1]⟩)], [], []⟩
theorem q25_eq (Z : List PanicEntry → Heap → Prop) (p0 : Int) (p1 : ByteArray) (p2 : Int) (p3 : Bool) (p4 : Int) (p5 : ByteArray) (p6 : Sl) (p7 : Sl) (p8 : Sl) (p9 : Int) (p10 : Bool) (p11 : Int) (p12 : ByteArray) (p13 : Sl) (p14 : Sl) (p15 : Sl) (h0 : Heap) (Q : Cur (flat [.one (.bl)]) (Heap → Prop)) : q25 Z p0 p1 p2 p3 p4 p5 p6 p7 p8 p9 p10 p11 p12 p13 p14 p15 h0 Q = (WPF P Z Tryz.f25 pl25 [.agg [.nt .u8, .tx, .nt .u8, .bl, .nt .i64, .tx, .sl, .sl, .sl, .nt .u8, .bl, .nt .i64, .tx, .sl, .sl, .sl]] h0 Q) p0 p1 p2 p3 p4 p5 p6 p7 p8 p9 p10 p11 p12 p13 p14 p15 := by kernel_rfl

/- codicil/code.New -/
def q26 (Z : List PanicEntry → Heap → Prop)  (h0 : Heap) (Q : Cur (flat [.one (.pt)]) (Heap → Prop)) : Prop :=
 ALLOC [.slice none 0 0] 141 h0 fun b2 h1 =>
 Q (some ⟨b2, 0, none⟩) h1
def pl26 : Plan := ⟨[], [], [], [], [], []⟩
theorem q26_eq (Z : List PanicEntry → Heap → Prop)  (h0 : Heap) (Q : Cur (flat [.one (.pt)]) (Heap → Prop)) : q26 Z  h0 Q = (WPF P Z Tryz.f26 pl26 [] h0 Q)  := by kernel_rfl

/- (*codicil/code.Writer).U8 -/
def q27 (Z : List PanicEntry → Heap → Prop) (p0 : Option Addr) (p1 : Int) (h0 : Heap) (Q : Cur (flat []) (Heap → Prop)) : Prop :=
 CALL P Z 85 [.pointer p0, .int .u64 (IntKind.wrap .u64 (p1)), .int .i64 1] [] h0 [] fun h1 =>
 Q h1
def pl27 : Plan := ⟨[], [], [], [], [], []⟩
theorem q27_eq (Z : List PanicEntry → Heap → Prop) (p0 : Option Addr) (p1 : Int) (h0 : Heap) (Q : Cur (flat []) (Heap → Prop)) : q27 Z p0 p1 h0 Q = (WPF P Z Tryz.f27 pl27 [.one (.pt), .one (.nt .u8)] h0 Q) p0 p1 := by kernel_rfl

/- (*codicil/code.Writer).Text -/
def q28 (Z : List PanicEntry → Heap → Prop) (p0 : Option Addr) (p1 : ByteArray) (h0 : Heap) (Q : Cur (flat []) (Heap → Prop)) : Prop :=
 CALL P Z 86 [.pointer p0, .int .u64 (IntKind.wrap .u64 ((p1.size : Int)))] [] h0 [] fun h1 =>
 NN p0 fun a11 =>
 LD (.sl) (a11.add 0) (EQ h1) fun v13 =>
 APPSTR 5 v13.a v13.len v13.cap p1 h1 [] fun v15 h2 =>
 NN p0 fun a16 =>
 STN (a16.add 0) [v15.v] 0 h2 [] fun h3 =>
 Q h3
def pl28 : Plan := ⟨[], [], [], [], [], []⟩
theorem q28_eq (Z : List PanicEntry → Heap → Prop) (p0 : Option Addr) (p1 : ByteArray) (h0 : Heap) (Q : Cur (flat []) (Heap → Prop)) : q28 Z p0 p1 h0 Q = (WPF P Z Tryz.f28 pl28 [.one (.pt), .one (.tx)] h0 Q) p0 p1 := by kernel_rfl

/- codicil/event.wide -/
def q29 (Z : List PanicEntry → Heap → Prop) (p0 : Int) (p1 : Bool) (p2 : Int) (p3 : ByteArray) (p4 : Sl) (p5 : Sl) (p6 : Sl) (h0 : Heap) (Q : Cur (flat [.one (.sl)]) (Heap → Prop)) : Prop :=
 ALLOC [.int .u8 p0, .bool p1, .int .i64 p2, .string p3, p4.v, p5.v, p6.v] 27 h0 fun b1 h1 =>
 CALL P Z 87 [.agg #[.int .u8 p0, .bool p1, .int .i64 p2, .string p3, p4.v, p5.v, p6.v]] [.one (.sl), .one (.nt .u16)] h1 [b1] fun v7_0 v7_1 h2 =>
 COND (v7_1 == 0) (Q v7_0 h2)
 (MKS 1 5 [.int .u8 0] 8193 8193 h2 fun v13 h3 =>
 Q v13 h3)
def pl29 : Plan := ⟨[], [], [], [], [], []⟩
theorem q29_eq (Z : List PanicEntry → Heap → Prop) (p0 : Int) (p1 : Bool) (p2 : Int) (p3 : ByteArray) (p4 : Sl) (p5 : Sl) (p6 : Sl) (h0 : Heap) (Q : Cur (flat [.one (.sl)]) (Heap → Prop)) : q29 Z p0 p1 p2 p3 p4 p5 p6 h0 Q = (WPF P Z Tryz.f29 pl29 [.agg [.nt .u8, .bl, .nt .i64, .tx, .sl, .sl, .sl]] h0 Q) p0 p1 p2 p3 p4 p5 p6 := by kernel_rfl

/- (*codicil/code.Writer).Raw -/
def q30 (Z : List PanicEntry → Heap → Prop) (p0 : Option Addr) (p1 : Sl) (h0 : Heap) (Q : Cur (flat []) (Heap → Prop)) : Prop :=
 NN p0 fun a6 =>
 LD (.sl) (a6.add 0) (EQ h0) fun v8 =>
 APPEND 1 1 5 [.int .u8 0] v8.a v8.len v8.cap p1.a p1.len h0 [] fun v10 h1 =>
 NN p0 fun a11 =>
 STN (a11.add 0) [v10.v] 0 h1 [] fun h2 =>
 Q h2
def pl30 : Plan := ⟨[], [], [], [], [], []⟩
theorem q30_eq (Z : List PanicEntry → Heap → Prop) (p0 : Option Addr) (p1 : Sl) (h0 : Heap) (Q : Cur (flat []) (Heap → Prop)) : q30 Z p0 p1 h0 Q = (WPF P Z Tryz.f30 pl30 [.one (.pt), .one (.sl)] h0 Q) p0 p1 := by kernel_rfl

/- (*codicil/code.Writer).Len -/
def q31 (Z : List PanicEntry → Heap → Prop) (p0 : Option Addr) (h0 : Heap) (Q : Cur (flat [.one (.nt .i64)]) (Heap → Prop)) : Prop :=
 NN p0 fun a4 =>
 LD (.sl) (a4.add 0) (EQ h0) fun v6 =>
 Q (v6.len : Int) h0
def pl31 : Plan := ⟨[], [], [], [], [], []⟩
theorem q31_eq (Z : List PanicEntry → Heap → Prop) (p0 : Option Addr) (h0 : Heap) (Q : Cur (flat [.one (.nt .i64)]) (Heap → Prop)) : q31 Z p0 h0 Q = (WPF P Z Tryz.f31 pl31 [.one (.pt)] h0 Q) p0 := by kernel_rfl

/- (*codicil/code.Writer).Bytes -/
def q32 (Z : List PanicEntry → Heap → Prop) (p0 : Option Addr) (h0 : Heap) (Q : Cur (flat [.one (.sl)]) (Heap → Prop)) : Prop :=
 NN p0 fun a4 =>
 LD (.sl) (a4.add 0) (EQ h0) fun v6 =>
 CALL P Z 89 [v6.v] [.one (.sl)] h0 [] fun v7 h1 =>
 CALL P Z 88 [v7.v] [.one (.sl)] h1 [] fun v8 h2 =>
 Q v8 h2
def pl32 : Plan := ⟨[], [], [], [], [], []⟩
theorem q32_eq (Z : List PanicEntry → Heap → Prop) (p0 : Option Addr) (h0 : Heap) (Q : Cur (flat [.one (.sl)]) (Heap → Prop)) : q32 Z p0 h0 Q = (WPF P Z Tryz.f32 pl32 [.one (.pt)] h0 Q) p0 := by kernel_rfl

/- codicil/event.must -/
def q34 (Z : List PanicEntry → Heap → Prop) (p0 : Bool) (h0 : Heap) (Q : Cur (flat []) (Heap → Prop)) : Prop :=
 COND (!p0) (Z [⟨.iface 85 (.agg #[]), false, false⟩] h0)
 (Q h0)
def pl34 : Plan := ⟨[], [], [], [], [], []⟩
theorem q34_eq (Z : List PanicEntry → Heap → Prop) (p0 : Bool) (h0 : Heap) (Q : Cur (flat []) (Heap → Prop)) : q34 Z p0 h0 Q = (WPF P Z Tryz.f34 pl34 [.one (.bl)] h0 Q) p0 := by kernel_rfl

/- codicil/code.Read -/
def q35 (Z : List PanicEntry → Heap → Prop) (p0 : Sl) (h0 : Heap) (Q : Cur (flat [.one (.pt)]) (Heap → Prop)) : Prop :=
 CALL P Z 89 [p0.v] [.one (.sl)] h0 [] fun v4 h1 =>
 ALLOC [v4.v, .int .i64 0, .int .u16 0, .int .i64 0] 146 h1 fun b6 h2 =>
 Q (some ⟨b6, 0, none⟩) h2
def pl35 : Plan := ⟨[], [], [], [], [], []⟩
theorem q35_eq (Z : List PanicEntry → Heap → Prop) (p0 : Sl) (h0 : Heap) (Q : Cur (flat [.one (.pt)]) (Heap → Prop)) : q35 Z p0 h0 Q = (WPF P Z Tryz.f35 pl35 [.one (.sl)] h0 Q) p0 := by kernel_rfl

/- (*codicil/code.Reader).U8 -/
def q36 (Z : List PanicEntry → Heap → Prop) (p0 : Option Addr) (h0 : Heap) (Q : Cur (flat [.one (.nt .u8)]) (Heap → Prop)) : Prop :=
 CALL P Z 90 [.int .i64 1, .func (.func 91) #[.pointer p0] #[]] [.one (.nt .u64)] h0 [] fun v5 h1 =>
 Q (IntKind.wrap .u8 (v5)) h1
def pl36 : Plan := ⟨[], [], [], [], [], []⟩
theorem q36_eq (Z : List PanicEntry → Heap → Prop) (p0 : Option Addr) (h0 : Heap) (Q : Cur (flat [.one (.nt .u8)]) (Heap → Prop)) : q36 Z p0 h0 Q = (WPF P Z Tryz.f36 pl36 [.one (.pt)] h0 Q) p0 := by kernel_rfl

/- (*codicil/code.Reader).Text -/
def q37 (Z : List PanicEntry → Heap → Prop) (p0 : Option Addr) (h0 : Heap) (Q : Cur (flat [.one (.tx)]) (Heap → Prop)) : Prop :=
 NN p0 fun a6 =>
 LD (.nt .i64) (a6.add 1) (EQ h0) fun v8 =>
 CALL P Z 92 [.pointer p0] [.one (.nt .u64)] h0 [] fun v10 h1 =>
 NN p0 fun a13 =>
 LD (.sl) (a13.add 0) (EQ h1) fun v15 =>
 NN p0 fun a18 =>
 LD (.nt .i64) (a18.add 1) (EQ h1) fun v20 =>
 COND (decide (v10 > (IntKind.wrap .u64 ((IntKind.wrap .i64 ((v15.len : Int) - v20)))))) (NN p0 fun a26 =>
 STN (a26.add 1) [.int .i64 v8] 0 h1 [] fun h2 =>
 CALL P Z 93 [.pointer p0, .int .u16 20] [] h2 [] fun h3 =>
 Q ByteArray.empty h3)
 (CALL P Z 91 [.pointer p0, .int .i64 (IntKind.wrap .i64 (v10))] [.one (.sl)] h1 [] fun v33 h4 =>
 BTS v33.a v33.len (EQ h4) fun v34 =>
 Q v34 h4)
def pl37 : Plan := ⟨[], [], [], [], [(3, true, [0, 1, 2, 3, 4, 5, 6, 7, 8, 9, 10, 11, 12])], []⟩
theorem q37_eq (Z : List PanicEntry → Heap → Prop) (p0 : Option Addr) (h0 : Heap) (Q : Cur (flat [.one (.tx)]) (Heap → Prop)) : q37 Z p0 h0 Q = (WPF P Z Tryz.f37 pl37 [.one (.pt)] h0 Q) p0 := by kernel_rfl

/- (*codicil/code.Reader).Err -/
def q38 (Z : List PanicEntry → Heap → Prop) (p0 : Option Addr) (h0 : Heap) (Q : Cur (flat [.one (.nt .u16), .one (.nt .i64)]) (Heap → Prop)) : Prop :=
 NN p0 fun a5 =>
 LD (.nt .u16) (a5.add 2) (EQ h0) fun v7 =>
 NN p0 fun a9 =>
 LD (.nt .i64) (a9.add 3) (EQ h0) fun v11 =>
 Q v7 v11 h0
def pl38 : Plan := ⟨[], [], [], [], [(1, true, [0, 1, 2, 3, 4, 5, 6, 7, 8, 9])], []⟩
theorem q38_eq (Z : List PanicEntry → Heap → Prop) (p0 : Option Addr) (h0 : Heap) (Q : Cur (flat [.one (.nt .u16), .one (.nt .i64)]) (Heap → Prop)) : q38 Z p0 h0 Q = (WPF P Z Tryz.f38 pl38 [.one (.pt)] h0 Q) p0 := by kernel_rfl

/- codicil/event.whole -/
def q39 (Z : List PanicEntry → Heap → Prop) (p0 : Sl) (h0 : Heap) (Q : Cur (flat [.agg [.nt .u8, .bl, .nt .i64, .tx, .sl, .sl, .sl]]) (Heap → Prop)) : Prop :=
 ALLOC [.int .u8 0, .bool false, .int .i64 0, .string ByteArray.empty, .slice none 0 0, .slice none 0 0, .slice none 0 0] 27 h0 fun b2 h1 =>
 CALL P Z 94 [p0.v] [.agg [.nt .u8, .bl, .nt .i64, .tx, .sl, .sl, .sl], .one (.nt .u16)] h1 [b2] fun v7_0 v7_1 v7_2 v7_3 v7_4 v7_5 v7_6 v7_7 h2 =>
 ALLOC [.int .u8 0, .bool false, .int .i64 0, .string ByteArray.empty, .slice none 0 0, .slice none 0 0, .slice none 0 0] 27 h2 fun b3 h3 =>
 PUTN b3 [.int .u8 v7_0, .bool v7_1, .int .i64 v7_2, .string v7_3, v7_4.v, v7_5.v, v7_6.v] 0 h3 fun h4 =>
 CALL P Z 34 [.bool (v7_7 == 0)] [] h4 [b2, b3] fun h5 =>
 PUTN b2 [.int .u8 v7_0, .bool v7_1, .int .i64 v7_2, .string v7_3, v7_4.v, v7_5.v, v7_6.v] 0 h5 fun h6 =>
 Q v7_0 v7_1 v7_2 v7_3 v7_4 v7_5 v7_6 h6
def pl39 : Plan := ⟨[], [], [], [], [], []⟩
theorem q39_eq (Z : List PanicEntry → Heap → Prop) (p0 : Sl) (h0 : Heap) (Q : Cur (flat [.agg [.nt .u8, .bl, .nt .i64, .tx, .sl, .sl, .sl]]) (Heap → Prop)) : q39 Z p0 h0 Q = (WPF P Z Tryz.f39 pl39 [.one (.sl)] h0 Q) p0 := by kernel_rfl

/- (*codicil/code.Reader).Raw -/
def q40 (Z : List PanicEntry → Heap → Prop) (p0 : Option Addr) (p1 : Int) (h0 : Heap) (Q : Cur (flat [.one (.sl)]) (Heap → Prop)) : Prop :=
 CALL P Z 91 [.pointer p0, .int .i64 p1] [.one (.sl)] h0 [] fun v7 h1 =>
 CALL P Z 89 [v7.v] [.one (.sl)] h1 [] fun v8 h2 =>
 CALL P Z 88 [v8.v] [.one (.sl)] h2 [] fun v9 h3 =>
 Q v9 h3
def pl40 : Plan := ⟨[], [], [], [], [], []⟩
theorem q40_eq (Z : List PanicEntry → Heap → Prop) (p0 : Option Addr) (p1 : Int) (h0 : Heap) (Q : Cur (flat [.one (.sl)]) (Heap → Prop)) : q40 Z p0 p1 h0 Q = (WPF P Z Tryz.f40 pl40 [.one (.pt), .one (.nt .i64)] h0 Q) p0 p1 := by kernel_rfl

/- (*codicil/code.Reader).Left -/
def q41 (Z : List PanicEntry → Heap → Prop) (p0 : Option Addr) (h0 : Heap) (Q : Cur (flat [.one (.nt .i64)]) (Heap → Prop)) : Prop :=
 NN p0 fun a4 =>
 LD (.sl) (a4.add 0) (EQ h0) fun v6 =>
 NN p0 fun a9 =>
 LD (.nt .i64) (a9.add 1) (EQ h0) fun v11 =>
 Q (IntKind.wrap .i64 ((v6.len : Int) - v11)) h0
def pl41 : Plan := ⟨[], [], [], [], [(1, true, [0, 1, 2, 3, 4, 5, 6, 7, 8, 9, 10])], []⟩
theorem q41_eq (Z : List PanicEntry → Heap → Prop) (p0 : Option Addr) (h0 : Heap) (Q : Cur (flat [.one (.nt .i64)]) (Heap → Prop)) : q41 Z p0 h0 Q = (WPF P Z Tryz.f41 pl41 [.one (.pt)] h0 Q) p0 := by kernel_rfl

/- (*codicil/code.Reader).End -/
def q42 (Z : List PanicEntry → Heap → Prop) (p0 : Option Addr) (h0 : Heap) (Q : Cur (flat [.one (.nt .u16)]) (Heap → Prop)) : Prop :=
 JOIN [.bl] (fun k1 => NN p0 fun a4 =>
 LD (.nt .u16) (a4.add 2) (EQ h0) fun v6 =>
 COND (v6 == 0) (NN p0 fun a10 =>
 LD (.nt .i64) (a10.add 1) (EQ h0) fun v12 =>
 NN p0 fun a14 =>
 LD (.sl) (a14.add 0) (EQ h0) fun v16 =>
 k1 (decide (v12 < (v16.len : Int))) h0)
 (k1 false h0))
 fun x19 h2 =>
 COND x19 (Q 21 h2)
 (NN p0 fun a21 =>
 LD (.nt .u16) (a21.add 2) (EQ h2) fun v23 =>
 Q v23 h2)
def pl42 : Plan := ⟨[], [], [], [(1, ⟨[(19, .bl)], [0], []⟩)], [(1, true, [0, 1, 2, 3, 4, 5, 6, 7, 8, 9, 10, 11, 12, 13, 14, 15, 16])], []⟩
theorem q42_eq (Z : List PanicEntry → Heap → Prop) (p0 : Option Addr) (h0 : Heap) (Q : Cur (flat [.one (.nt .u16)]) (Heap → Prop)) : q42 Z p0 h0 Q = (WPF P Z Tryz.f42 pl42 [.one (.pt)] h0 Q) p0 := by kernel_rfl

/- codicil/codicilref00.WholeValue -/
def q43 (Z : List PanicEntry → Heap → Prop) (p0 : Int) (p1 : Bool) (p2 : Int) (p3 : ByteArray) (p4 : Sl) (p5 : Sl) (p6 : Sl) (p7 : Int) (p8 : Bool) (p9 : Int) (p10 : ByteArray) (p11 : Sl) (p12 : Sl) (p13 : Sl) (h0 : Heap) (Q : Cur (flat [.one (.bl)]) (Heap → Prop)) : Prop :=
 ALLOC [.int .u8 p0, .bool p1, .int .i64 p2, .string p3, p4.v, p5.v, p6.v] 27 h0 fun b2 h1 =>
 ALLOC [.int .u8 p7, .bool p8, .int .i64 p9, .string p10, p11.v, p12.v, p13.v] 27 h1 fun b3 h2 =>
 JOIN [.bl] (fun k3 => COND (p0 == p7) (COND ((p1 == p8)) (COND (p2 == p9) (COND (p3.toList == p10.toList) (CALL P Z 12 [p4.v, p11.v] [.one (.bl)] h2 [b2, b3] fun v36 h5 =>
 COND v36 (CALL P Z 95 [p5.v, p12.v] [.one (.bl)] h5 [b2, b3] fun v43 h6 =>
 COND v43 (CALL P Z 96 [p6.v, p13.v] [.one (.bl)] h6 [b2, b3] fun v50 h7 =>
 k3 v50 h7)
 (k3 false h6))
 (k3 false h5))
 (k3 false h2))
 (k3 false h2))
 (k3 false h2))
 (k3 false h2))
 fun x4 h4 =>
 Q x4 h4
def pl43 : Plan := ⟨[], [], [], [(1, ⟨[(4, .bl)], [], []⟩)], [], []⟩
theorem q43_eq (Z : List PanicEntry → Heap → Prop) (p0 : Int) (p1 : Bool) (p2 : Int) (p3 : ByteArray) (p4 : Sl) (p5 : Sl) (p6 : Sl) (p7 : Int) (p8 : Bool) (p9 : Int) (p10 : ByteArray) (p11 : Sl) (p12 : Sl) (p13 : Sl) (h0 : Heap) (Q : Cur (flat [.one (.bl)]) (Heap → Prop)) : q43 Z p0 p1 p2 p3 p4 p5 p6 p7 p8 p9 p10 p11 p12 p13 h0 Q = (WPF P Z Tryz.f43 pl43 [.agg [.nt .u8, .bl, .nt .i64, .tx, .sl, .sl, .sl], .agg [.nt .u8, .bl, .nt .i64, .tx, .sl, .sl, .sl]] h0 Q) p0 p1 p2 p3 p4 p5 p6 p7 p8 p9 p10 p11 p12 p13 := by kernel_rfl

/- codicil/codicilref00.SpoilValue -/
def q44 (Z : List PanicEntry → Heap → Prop) (p0 : Int) (p1 : Bool) (p2 : Int) (p3 : ByteArray) (p4 : Sl) (p5 : Sl) (p6 : Sl) (h0 : Heap) (Q : Cur (flat []) (Heap → Prop)) : Prop :=
 ALLOC [.int .u8 p0, .bool p1, .int .i64 p2, .string p3, p4.v, p5.v, p6.v] 27 h0 fun b1 h1 =>
 CALL P Z 14 [p4.v] [] h1 [b1] fun h2 =>
 CALL P Z 97 [p5.v] [] h2 [b1] fun h3 =>
 CALL P Z 98 [p6.v] [] h3 [b1] fun h4 =>
 Q h4
def pl44 : Plan := ⟨[], [], [], [], [], []⟩
theorem q44_eq (Z : List PanicEntry → Heap → Prop) (p0 : Int) (p1 : Bool) (p2 : Int) (p3 : ByteArray) (p4 : Sl) (p5 : Sl) (p6 : Sl) (h0 : Heap) (Q : Cur (flat []) (Heap → Prop)) : q44 Z p0 p1 p2 p3 p4 p5 p6 h0 Q = (WPF P Z Tryz.f44 pl44 [.agg [.nt .u8, .bl, .nt .i64, .tx, .sl, .sl, .sl]] h0 Q) p0 p1 p2 p3 p4 p5 p6 := by kernel_rfl

/- codicil/codicilref21.may -/
def q45 (Z : List PanicEntry → Heap → Prop) (p0 : Int) (p1 : ByteArray) (p2 : Int) (p3 : Bool) (p4 : Int) (p5 : ByteArray) (p6 : Sl) (p7 : Sl) (p8 : Sl) (p9 : Int) (p10 : Bool) (p11 : Int) (p12 : ByteArray) (p13 : Sl) (p14 : Sl) (p15 : Sl) (h0 : Heap) (Q : Cur (flat [.one (.bl)]) (Heap → Prop)) : Prop :=
 ALLOC [.int .u8 p0, .string p1, .int .u8 p2, .bool p3, .int .i64 p4, .string p5, p6.v, p7.v, p8.v, .int .u8 p9, .bool p10, .int .i64 p11, .string p12, p13.v, p14.v, p15.v] 29 h0 fun b1 h1 =>
 JOIN [.bl] (fun k2 => COND (p0 != 1) (COND (p0 != 2) (k2 true h1)
 (CALL P Z 99 [.string p1] [.one (.bl)] h1 [b1] fun v18 h4 =>
 k2 (!v18) h4))
 (CALL P Z 99 [.string p1] [.one (.bl)] h1 [b1] fun v18 h5 =>
 k2 (!v18) h5))
 fun x20 h3 =>
 COND x20 (Q false h3)
 (CALL P Z 100 [.agg #[.int .u8 p2, .bool p3, .int .i64 p4, .string p5, p6.v, p7.v, p8.v], .bool false] [.one (.sl), .one (.nt .i64)] h3 [b1] fun v24_0 v24_1 h6 =>
 JOIN [.bl] (fun k7 => COND (v24_1 != 0) (k7 true h6)
 (k7 (decide ((v24_0.len : Int) > 60)) h6))
 fun x33 h8 =>
 COND x33 (Q false h8)
 (COND (p0 == 2) (CALL P Z 101 [.agg #[.int .u8 p9, .bool p10, .int .i64 p11, .string p12, p13.v, p14.v, p15.v]] [.one (.bl)] h8 [b1] fun v39 h9 =>
 Q v39 h9)
 (CALL P Z 102 [.agg #[.int .u8 p9, .bool p10, .int .i64 p11, .string p12, p13.v, p14.v, p15.v], .string (ByteArray.mk #[95, 105, 100])] [.agg [.nt .u8, .bl, .nt .i64, .tx, .sl, .sl, .sl], .one (.bl)] h8 [b1] fun v43_0 v43_1 v43_2 v43_3 v43_4 v43_5 v43_6 v43_7 h10 =>
 ALLOC [.int .u8 0, .bool false, .int .i64 0, .string ByteArray.empty, .slice none 0 0, .slice none 0 0, .slice none 0 0] 27 h10 fun b5 h11 =>
 PUTN b5 [.int .u8 v43_0, .bool v43_1, .int .i64 v43_2, .string v43_3, v43_4.v, v43_5.v, v43_6.v] 0 h11 fun h12 =>
 JOIN [.bl] (fun k13 => COND v43_7 (CALL P Z 53 [.agg #[.int .u8 v43_0, .bool v43_1, .int .i64 v43_2, .string v43_3, v43_4.v, v43_5.v, v43_6.v], .agg #[.int .u8 p2, .bool p3, .int .i64 p4, .string p5, p6.v, p7.v, p8.v]] [.one (.bl)] h12 [b1, b5] fun v51 h15 =>
 COND v51 (CALL P Z 103 [.agg #[.int .u8 p9, .bool p10, .int .i64 p11, .string p12, p13.v, p14.v, p15.v]] [.one (.nt .i64)] h15 [b1, b5] fun v56 h16 =>
 k13 (v56 == 0) h16)
 (k13 false h15))
 (k13 false h12))
 fun x2 h14 =>
 Q x2 h14)))
def pl45 : Plan := ⟨[], [], [], [(9, ⟨[(2, .bl)], [], []⟩), (4, ⟨[(33, .bl)], [1], [1]⟩), (1, ⟨[(20, .bl)], [1], [1]⟩)], [], []⟩
theorem q45_eq (Z : List PanicEntry → Heap → Prop) (p0 : Int) (p1 : ByteArray) (p2 : Int) (p3 : Bool) (p4 : Int) (p5 : ByteArray) (p6 : Sl) (p7 : Sl) (p8 : Sl) (p9 : Int) (p10 : Bool) (p11 : Int) (p12 : ByteArray) (p13 : Sl) (p14 : Sl) (p15 : Sl) (h0 : Heap) (Q : Cur (flat [.one (.bl)]) (Heap → Prop)) : q45 Z p0 p1 p2 p3 p4 p5 p6 p7 p8 p9 p10 p11 p12 p13 p14 p15 h0 Q = (WPF P Z Tryz.f45 pl45 [.agg [.nt .u8, .tx, .nt .u8, .bl, .nt .i64, .tx, .sl, .sl, .sl, .nt .u8, .bl, .nt .i64, .tx, .sl, .sl, .sl]] h0 Q) p0 p1 p2 p3 p4 p5 p6 p7 p8 p9 p10 p11 p12 p13 p14 p15 := by kernel_rfl

/- codicil/codicilref02.Text -/
def q46 (Z : List PanicEntry → Heap → Prop) (p0 : ByteArray) (h0 : Heap) (Q : Cur (flat [.one (.sl)]) (Heap → Prop)) : Prop :=
 CALL P Z 104 [.int .u64 (IntKind.wrap .u64 ((p0.size : Int)))] [.one (.sl)] h0 [] fun v7 h1 =>
 APPSTR 5 v7.a v7.len v7.cap p0 h1 [] fun v10 h2 =>
 Q v10 h2
def pl46 : Plan := ⟨[], [], [], [], [], []⟩
theorem q46_eq (Z : List PanicEntry → Heap → Prop) (p0 : ByteArray) (h0 : Heap) (Q : Cur (flat [.one (.sl)]) (Heap → Prop)) : q46 Z p0 h0 Q = (WPF P Z Tryz.f46 pl46 [.one (.tx)] h0 Q) p0 := by kernel_rfl

end Go.VK
