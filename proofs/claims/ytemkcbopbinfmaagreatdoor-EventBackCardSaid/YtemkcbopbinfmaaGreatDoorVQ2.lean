/- THE QUESTIONS, part 2: printed by a program of ours from the program's functions; each equation is checked by the kernel. -/
import Derived.Test.YtemkcbopbinfmaaGreatDoorVKP
set_option linter.all false
set_option linter.unusedVariables false
set_option maxRecDepth 100000
namespace Go.VK
open Go
open Go.Proofs

/- codicil/codicilref05.Bytes -/
def q47 (Z : List PanicEntry → Heap → Prop) (p0 : Int) (p1 : Bool) (p2 : Int) (p3 : ByteArray) (p4 : Sl) (p5 : Sl) (p6 : Sl) (h0 : Heap) (Q : Cur (flat [.one (.sl)]) (Heap → Prop)) : Prop :=
 ALLOC [.int .u8 p0, .bool p1, .int .i64 p2, .string p3, p4.v, p5.v, p6.v] 27 h0 fun b1 h1 =>
 COND (p0 == 1) (ALLOC [.int .u8 1] 5 h1 fun b19 h2 =>
 APPEND 1 1 5 [.int .u8 0] none 0 0 (some ⟨b19, 0, none⟩) 1 h2 [b1] fun v20 h3 =>
 Q v20 h3)
 (COND (p0 == 2) (COND p1 (ALLOC [.int .u8 3] 5 h1 fun b26 h4 =>
 APPEND 1 1 5 [.int .u8 0] none 0 0 (some ⟨b26, 0, none⟩) 1 h4 [b1] fun v27 h5 =>
 Q v27 h5)
 (ALLOC [.int .u8 2] 5 h1 fun b29 h6 =>
 APPEND 1 1 5 [.int .u8 0] none 0 0 (some ⟨b29, 0, none⟩) 1 h6 [b1] fun v30 h7 =>
 Q v30 h7))
 (COND (p0 == 3) (ALLOC [.int .u8 4] 5 h1 fun b34 h8 =>
 APPEND 1 1 5 [.int .u8 0] none 0 0 (some ⟨b34, 0, none⟩) 1 h8 [b1] fun v35 h9 =>
 CALL P Z 105 [.int .i64 p2] [.one (.nt .u64)] h9 [b1] fun v38 h10 =>
 CALL P Z 104 [.int .u64 v38] [.one (.sl)] h10 [b1] fun v39 h11 =>
 APPEND 1 1 5 [.int .u8 0] v35.a v35.len v35.cap v39.a v39.len h11 [b1] fun v42 h12 =>
 Q v42 h12)
 (COND (p0 == 4) (ALLOC [.int .u8 5] 5 h1 fun b46 h13 =>
 APPEND 1 1 5 [.int .u8 0] none 0 0 (some ⟨b46, 0, none⟩) 1 h13 [b1] fun v47 h14 =>
 CALL P Z 46 [.string p3] [.one (.sl)] h14 [b1] fun v50 h15 =>
 APPEND 1 1 5 [.int .u8 0] v47.a v47.len v47.cap v50.a v50.len h15 [b1] fun v53 h16 =>
 Q v53 h16)
 (COND (p0 == 5) (ALLOC [.int .u8 6] 5 h1 fun b57 h17 =>
 APPEND 1 1 5 [.int .u8 0] none 0 0 (some ⟨b57, 0, none⟩) 1 h17 [b1] fun v58 h18 =>
 BTS p4.a p4.len (EQ h18) fun v61 =>
 CALL P Z 46 [.string v61] [.one (.sl)] h18 [b1] fun v62 h19 =>
 APPEND 1 1 5 [.int .u8 0] v58.a v58.len v58.cap v62.a v62.len h19 [b1] fun v65 h20 =>
 Q v65 h20)
 (COND (p0 == 6) (ALLOC [.int .u8 7] 5 h1 fun b69 h21 =>
 APPEND 1 1 5 [.int .u8 0] none 0 0 (some ⟨b69, 0, none⟩) 1 h21 [b1] fun v70 h22 =>
 CALL P Z 104 [.int .u64 (IntKind.wrap .u64 ((p5.len : Int)))] [.one (.sl)] h22 [b1] fun v75 h23 =>
 APPEND 1 1 5 [.int .u8 0] v70.a v70.len v70.cap v75.a v75.len h23 [b1] fun v78 h24 =>
 LOOP [.sl, .nt .i64] (fun x3 x8 h26 nx25 =>
 COND (decide (x8 < (p5.len : Int))) (IXA 7 p5.a p5.len x8 fun a89 =>
 LDN [.nt .u8, .bl, .nt .i64, .tx, .sl, .sl, .sl] a89 0 (EQ h26) fun v90_0 v90_1 v90_2 v90_3 v90_4 v90_5 v90_6 =>
 CALL P Z 47 [.agg #[.int .u8 v90_0, .bool v90_1, .int .i64 v90_2, .string v90_3, v90_4.v, v90_5.v, v90_6.v]] [.one (.sl)] h26 [b1] fun v91 h27 =>
 APPEND 1 1 5 [.int .u8 0] x3.a x3.len x3.cap v91.a v91.len h27 [b1] fun v94 h28 =>
 nx25 v94 (IntKind.wrap .i64 (x8 + 1)) h28)
 (Q x3 h26)) v78 0 h24)
 (ALLOC [.int .u8 8] 5 h1 fun b97 h29 =>
 APPEND 1 1 5 [.int .u8 0] none 0 0 (some ⟨b97, 0, none⟩) 1 h29 [b1] fun v98 h30 =>
 CALL P Z 104 [.int .u64 (IntKind.wrap .u64 ((p6.len : Int)))] [.one (.sl)] h30 [b1] fun v103 h31 =>
 APPEND 1 1 5 [.int .u8 0] v98.a v98.len v98.cap v103.a v103.len h31 [b1] fun v106 h32 =>
 LOOP [.sl, .nt .i64] (fun x3 x11 h34 nx33 =>
 COND (decide (x11 < (p6.len : Int))) (IXA 8 p6.a p6.len x11 fun a117 =>
 LD (.tx) (a117.add 0) (EQ h34) fun v119 =>
 CALL P Z 46 [.string v119] [.one (.sl)] h34 [b1] fun v120 h35 =>
 APPEND 1 1 5 [.int .u8 0] x3.a x3.len x3.cap v120.a v120.len h35 [b1] fun v123 h36 =>
 IXA 8 p6.a p6.len x11 fun a127 =>
 LDN [.nt .u8, .bl, .nt .i64, .tx, .sl, .sl, .sl] (a127.add 1) 0 (EQ h36) fun v129_0 v129_1 v129_2 v129_3 v129_4 v129_5 v129_6 =>
 CALL P Z 47 [.agg #[.int .u8 v129_0, .bool v129_1, .int .i64 v129_2, .string v129_3, v129_4.v, v129_5.v, v129_6.v]] [.one (.sl)] h36 [b1] fun v130 h37 =>
 APPEND 1 1 5 [.int .u8 0] v123.a v123.len v123.cap v130.a v130.len h37 [b1] fun v133 h38 =>
 nx33 v133 (IntKind.wrap .i64 (x11 + 1)) h38)
 (Q x3 h34)) v106 0 h32))))))
def pl47 : Plan := ⟨[], [(35, ⟨[(3, .sl), (11, .nt .i64)], [1], [1]⟩), (26, ⟨[(3, .sl), (8, .nt .i64)], [1], [1]⟩)], [], [], [], []⟩
theorem q47_eq (Z : List PanicEntry → Heap → Prop) (p0 : Int) (p1 : Bool) (p2 : Int) (p3 : ByteArray) (p4 : Sl) (p5 : Sl) (p6 : Sl) (h0 : Heap) (Q : Cur (flat [.one (.sl)]) (Heap → Prop)) : q47 Z p0 p1 p2 p3 p4 p5 p6 h0 Q = (WPF P Z Tryz.f47 pl47 [.agg [.nt .u8, .bl, .nt .i64, .tx, .sl, .sl, .sl]] h0 Q) p0 p1 p2 p3 p4 p5 p6 := by kernel_rfl

/- (*codicil/codicilref02.Reader).Fixed -/
def q48 (Z : List PanicEntry → Heap → Prop) (p0 : Option Addr) (p1 : Int) (h0 : Heap) (Q : Cur (flat [.one (.nt .u64)]) (Heap → Prop)) : Prop :=
 CALL P Z 106 [.pointer p0, .int .i64 p1] [.one (.sl)] h0 [] fun v10 h1 =>
 LOOP [.nt .u64, .nt .i64] (fun x5 x7 h3 nx2 =>
 COND (decide (x7 < (v10.len : Int))) (SHI 8 (IXA 1 v10.a v10.len x7 fun a21 =>
 LD (.nt .u8) a21 (EQ h3) fun v22 =>
 nx2 (ior .u64 (ishl .u64 x5 8) (IntKind.wrap .u64 (v22))) (IntKind.wrap .i64 (x7 + 1)) h3))
 (Q x5 h3)) 0 0 h1
def pl48 : Plan := ⟨[], [(4, ⟨[(5, .nt .u64), (7, .nt .i64)], [6], []⟩)], [], [], [], []⟩
theorem q48_eq (Z : List PanicEntry → Heap → Prop) (p0 : Option Addr) (p1 : Int) (h0 : Heap) (Q : Cur (flat [.one (.nt .u64)]) (Heap → Prop)) : q48 Z p0 p1 h0 Q = (WPF P Z Tryz.f48 pl48 [.one (.pt), .one (.nt .i64)] h0 Q) p0 p1 := by kernel_rfl

/- (*codicil/codicilref02.Reader).Text -/
def q49 (Z : List PanicEntry → Heap → Prop) (p0 : Option Addr) (h0 : Heap) (Q : Cur (flat [.one (.tx)]) (Heap → Prop)) : Prop :=
 NN p0 fun a7 =>
 LD (.nt .i64) (a7.add 1) (EQ h0) fun v9 =>
 CALL P Z 107 [.pointer p0] [.one (.nt .u64)] h0 [] fun v11 h1 =>
 NN p0 fun a13 =>
 LD (.nt .i64) (a13.add 2) (EQ h1) fun v15 =>
 COND (v15 != 0) (Q ByteArray.empty h1)
 (NN p0 fun a19 =>
 LD (.sl) (a19.add 0) (EQ h1) fun v21 =>
 NN p0 fun a24 =>
 LD (.nt .i64) (a24.add 1) (EQ h1) fun v26 =>
 COND (decide (v11 > (IntKind.wrap .u64 ((IntKind.wrap .i64 ((v21.len : Int) - v26)))))) (NN p0 fun a32 =>
 STN (a32.add 1) [.int .i64 v9] 0 h1 [] fun h2 =>
 CALL P Z 108 [.pointer p0, .int .i64 20, .int .i64 v9] [] h2 [] fun h3 =>
 Q ByteArray.empty h3)
 (CALL P Z 106 [.pointer p0, .int .i64 (IntKind.wrap .i64 (v11))] [.one (.sl)] h1 [] fun v40 h4 =>
 BTS v40.a v40.len (EQ h4) fun v42 =>
 Q v42 h4))
def pl49 : Plan := ⟨[], [], [], [], [(5, true, [0, 1, 2, 3, 4, 5, 6, 7, 8, 9, 10, 11, 12])], []⟩
theorem q49_eq (Z : List PanicEntry → Heap → Prop) (p0 : Option Addr) (h0 : Heap) (Q : Cur (flat [.one (.tx)]) (Heap → Prop)) : q49 Z p0 h0 Q = (WPF P Z Tryz.f49 pl49 [.one (.pt)] h0 Q) p0 := by kernel_rfl

/- codicil/codicilref05.Decode -/
def q50 (Z : List PanicEntry → Heap → Prop) (p0 : Sl) (h0 : Heap) (Q : Cur (flat [.agg [.nt .u8, .bl, .nt .i64, .tx, .sl, .sl, .sl], .one (.nt .i64)]) (Heap → Prop)) : Prop :=
 ALLOC [.int .u8 0, .bool false, .int .i64 0, .string ByteArray.empty, .slice none 0 0, .slice none 0 0, .slice none 0 0] 27 h0 fun b2 h1 =>
 COND (decide ((p0.len : Int) > 8192)) (PUTN b2 [.int .u8 0, .bool false, .int .i64 0, .string ByteArray.empty, .slice none 0 0, .slice none 0 0, .slice none 0 0] 0 h1 fun h2 =>
 Q 0 false 0 ByteArray.empty ⟨none, 0, 0⟩ ⟨none, 0, 0⟩ ⟨none, 0, 0⟩ 50 h2)
 (ALLOC [p0.v, .int .i64 0, .int .i64 0, .int .i64 0] 102 h1 fun b12 h3 =>
 CALL P Z 109 [.pointer (some ⟨b12, 0, none⟩), .int .i64 9] [.agg [.nt .u8, .bl, .nt .i64, .tx, .sl, .sl, .sl]] h3 [b2] fun v14_0 v14_1 v14_2 v14_3 v14_4 v14_5 v14_6 h4 =>
 ALLOC [.int .u8 0, .bool false, .int .i64 0, .string ByteArray.empty, .slice none 0 0, .slice none 0 0, .slice none 0 0] 27 h4 fun b5 h5 =>
 PUTN b5 [.int .u8 v14_0, .bool v14_1, .int .i64 v14_2, .string v14_3, v14_4.v, v14_5.v, v14_6.v] 0 h5 fun h6 =>
 JOIN [.bl] (fun k7 => CALL P Z 51 [.pointer (some ⟨b12, 0, none⟩)] [.one (.nt .i64)] h6 [b2, b5] fun v16 h9 =>
 COND (v16 != 0) (k7 true h9)
 (CALL P Z 103 [.agg #[.int .u8 v14_0, .bool v14_1, .int .i64 v14_2, .string v14_3, v14_4.v, v14_5.v, v14_6.v]] [.one (.nt .i64)] h9 [b2, b5] fun v20 h10 =>
 k7 (v20 != 0) h10))
 fun x22 h8 =>
 COND x22 (PUTN b2 [.int .u8 0, .bool false, .int .i64 0, .string ByteArray.empty, .slice none 0 0, .slice none 0 0, .slice none 0 0] 0 h8 fun h11 =>
 Q 0 false 0 ByteArray.empty ⟨none, 0, 0⟩ ⟨none, 0, 0⟩ ⟨none, 0, 0⟩ 50 h11)
 (PUTN b2 [.int .u8 v14_0, .bool v14_1, .int .i64 v14_2, .string v14_3, v14_4.v, v14_5.v, v14_6.v] 0 h8 fun h12 =>
 Q v14_0 v14_1 v14_2 v14_3 v14_4 v14_5 v14_6 0 h12))
def pl50 : Plan := ⟨[], [], [], [(5, ⟨[(22, .bl)], [2, 5], [2, 5]⟩)], [], []⟩
theorem q50_eq (Z : List PanicEntry → Heap → Prop) (p0 : Sl) (h0 : Heap) (Q : Cur (flat [.agg [.nt .u8, .bl, .nt .i64, .tx, .sl, .sl, .sl], .one (.nt .i64)]) (Heap → Prop)) : q50 Z p0 h0 Q = (WPF P Z Tryz.f50 pl50 [.one (.sl)] h0 Q) p0 := by kernel_rfl

/- (*codicil/codicilref02.Reader).End -/
def q51 (Z : List PanicEntry → Heap → Prop) (p0 : Option Addr) (h0 : Heap) (Q : Cur (flat [.one (.nt .i64)]) (Heap → Prop)) : Prop :=
 NN p0 fun a4 =>
 LD (.nt .i64) (a4.add 2) (EQ h0) fun v6 =>
 COND (v6 != 0) (NN p0 fun a9 =>
 LD (.nt .i64) (a9.add 2) (EQ h0) fun v11 =>
 Q v11 h0)
 (NN p0 fun a13 =>
 LD (.nt .i64) (a13.add 1) (EQ h0) fun v15 =>
 NN p0 fun a17 =>
 LD (.sl) (a17.add 0) (EQ h0) fun v19 =>
 COND (decide (v15 < (v19.len : Int))) (Q 21 h0)
 (Q 0 h0))
def pl51 : Plan := ⟨[], [], [], [], [(3, true, [0, 1, 2, 3, 4, 5, 6, 7, 8, 9])], []⟩
theorem q51_eq (Z : List PanicEntry → Heap → Prop) (p0 : Option Addr) (h0 : Heap) (Q : Cur (flat [.one (.nt .i64)]) (Heap → Prop)) : q51 Z p0 h0 Q = (WPF P Z Tryz.f51 pl51 [.one (.pt)] h0 Q) p0 := by kernel_rfl

/- (*codicil/codicilref00.Book).Value -/
def q52 (Z : List PanicEntry → Heap → Prop) (p0 : Option Addr) (p1 : Int) (p2 : Bool) (p3 : Int) (p4 : ByteArray) (p5 : Sl) (p6 : Sl) (p7 : Sl) (h0 : Heap) (Q : Cur (flat []) (Heap → Prop)) : Prop :=
 ALLOC [.int .u8 p1, .bool p2, .int .i64 p3, .string p4, p5.v, p6.v, p7.v] 27 h0 fun b3 h1 =>
 CALL P Z 17 [.pointer p0, p5.v] [] h1 [b3] fun h2 =>
 CALL P Z 110 [.pointer p0, p6.v] [] h2 [b3] fun h3 =>
 CALL P Z 111 [.pointer p0, p7.v] [] h3 [b3] fun h4 =>
 Q h4
def pl52 : Plan := ⟨[], [], [], [], [], []⟩
theorem q52_eq (Z : List PanicEntry → Heap → Prop) (p0 : Option Addr) (p1 : Int) (p2 : Bool) (p3 : Int) (p4 : ByteArray) (p5 : Sl) (p6 : Sl) (p7 : Sl) (h0 : Heap) (Q : Cur (flat []) (Heap → Prop)) : q52 Z p0 p1 p2 p3 p4 p5 p6 p7 h0 Q = (WPF P Z Tryz.f52 pl52 [.one (.pt), .agg [.nt .u8, .bl, .nt .i64, .tx, .sl, .sl, .sl]] h0 Q) p0 p1 p2 p3 p4 p5 p6 p7 := by kernel_rfl

/- codicil/codicilref00.SameValue -/
def q53 (Z : List PanicEntry → Heap → Prop) (p0 : Int) (p1 : Bool) (p2 : Int) (p3 : ByteArray) (p4 : Sl) (p5 : Sl) (p6 : Sl) (p7 : Int) (p8 : Bool) (p9 : Int) (p10 : ByteArray) (p11 : Sl) (p12 : Sl) (p13 : Sl) (h0 : Heap) (Q : Cur (flat [.one (.bl)]) (Heap → Prop)) : Prop :=
 ALLOC [.int .u8 p0, .bool p1, .int .i64 p2, .string p3, p4.v, p5.v, p6.v] 27 h0 fun b2 h1 =>
 ALLOC [.int .u8 p7, .bool p8, .int .i64 p9, .string p10, p11.v, p12.v, p13.v] 27 h1 fun b3 h2 =>
 JOIN [.bl] (fun k3 => COND (p0 == p7) (COND ((p1 == p8)) (COND (p2 == p9) (COND (p3.toList == p10.toList) (CALL P Z 19 [p4.v, p11.v] [.one (.bl)] h2 [b2, b3] fun v36 h5 =>
 COND v36 (CALL P Z 112 [p5.v, p12.v] [.one (.bl)] h5 [b2, b3] fun v43 h6 =>
 COND v43 (CALL P Z 113 [p6.v, p13.v] [.one (.bl)] h6 [b2, b3] fun v50 h7 =>
 k3 v50 h7)
 (k3 false h6))
 (k3 false h5))
 (k3 false h2))
 (k3 false h2))
 (k3 false h2))
 (k3 false h2))
 fun x4 h4 =>
 Q x4 h4
def pl53 : Plan := ⟨[], [], [], [(1, ⟨[(4, .bl)], [], []⟩)], [], []⟩
theorem q53_eq (Z : List PanicEntry → Heap → Prop) (p0 : Int) (p1 : Bool) (p2 : Int) (p3 : ByteArray) (p4 : Sl) (p5 : Sl) (p6 : Sl) (p7 : Int) (p8 : Bool) (p9 : Int) (p10 : ByteArray) (p11 : Sl) (p12 : Sl) (p13 : Sl) (h0 : Heap) (Q : Cur (flat [.one (.bl)]) (Heap → Prop)) : q53 Z p0 p1 p2 p3 p4 p5 p6 p7 p8 p9 p10 p11 p12 p13 h0 Q = (WPF P Z Tryz.f53 pl53 [.agg [.nt .u8, .bl, .nt .i64, .tx, .sl, .sl, .sl], .agg [.nt .u8, .bl, .nt .i64, .tx, .sl, .sl, .sl]] h0 Q) p0 p1 p2 p3 p4 p5 p6 p7 p8 p9 p10 p11 p12 p13 := by kernel_rfl

/- codicil/codicillaw21.sample -/
def q54 (Z : List PanicEntry → Heap → Prop)  (h0 : Heap) (Q : Cur (flat [.agg [.nt .u8, .tx, .nt .u8, .bl, .nt .i64, .tx, .sl, .sl, .sl, .nt .u8, .bl, .nt .i64, .tx, .sl, .sl, .sl]]) (Heap → Prop)) : Prop :=
 ALLOC [.int .u8 0, .string ByteArray.empty, .int .u8 0, .bool false, .int .i64 0, .string ByteArray.empty, .slice none 0 0, .slice none 0 0, .slice none 0 0, .int .u8 0, .bool false, .int .i64 0, .string ByteArray.empty, .slice none 0 0, .slice none 0 0, .slice none 0 0] 29 h0 fun b0 h1 =>
 ALLOC [.int .u8 0, .bool false, .int .i64 0, .string ByteArray.empty, .slice none 0 0, .slice none 0 0, .slice none 0 0] 27 h1 fun b1 h2 =>
 PUTN b1 [.int .u8 3, .bool false, .int .i64 1, .string ByteArray.empty, .slice none 0 0, .slice none 0 0, .slice none 0 0] 0 h2 fun h3 =>
 ALLOC [.string (ByteArray.mk #[95, 105, 100]), .int .u8 3, .bool false, .int .i64 1, .string ByteArray.empty, .slice none 0 0, .slice none 0 0, .slice none 0 0] 132 h3 fun b6 h4 =>
 PUTN b0 [.int .u8 1, .string (ByteArray.mk #[97]), .int .u8 3, .bool false, .int .i64 1, .string ByteArray.empty, .slice none 0 0, .slice none 0 0, .slice none 0 0, .int .u8 7, .bool false, .int .i64 0, .string ByteArray.empty, .slice none 0 0, .slice none 0 0, .slice (some ⟨b6, 0, none⟩) 1 1] 0 h4 fun h5 =>
 Q 1 (ByteArray.mk #[97]) 3 false 1 ByteArray.empty ⟨none, 0, 0⟩ ⟨none, 0, 0⟩ ⟨none, 0, 0⟩ 7 false 0 ByteArray.empty ⟨none, 0, 0⟩ ⟨none, 0, 0⟩ ⟨(some ⟨b6, 0, none⟩), 1, 1⟩ h5
def pl54 : Plan := ⟨[], [], [], [], [], []⟩
theorem q54_eq (Z : List PanicEntry → Heap → Prop)  (h0 : Heap) (Q : Cur (flat [.agg [.nt .u8, .tx, .nt .u8, .bl, .nt .i64, .tx, .sl, .sl, .sl, .nt .u8, .bl, .nt .i64, .tx, .sl, .sl, .sl]]) (Heap → Prop)) : q54 Z  h0 Q = (WPF P Z Tryz.f54 pl54 [] h0 Q)  := by kernel_rfl

/- codicil/codicilref00.ownBytes -/
def q55 (Z : List PanicEntry → Heap → Prop) (p0 : Sl) (h0 : Heap) (Q : Cur (flat [.one (.bl)]) (Heap → Prop)) : Prop :=
 LOOP [.nt .i64] (fun x3 h2 nx1 =>
 COND (decide (x3 < (p0.len : Int))) (LOOP [.nt .i64] (fun x4 h4 nx3 =>
 IXA 1 p0.a p0.len x3 fun a22 =>
 LD (.sl) a22 (EQ h4) fun v23 =>
 COND (decide (x4 < (v23.len : Int))) (IXA 1 p0.a p0.len x3 fun a30 =>
 LD (.sl) a30 (EQ h4) fun v31 =>
 IXA 1 v31.a v31.len x4 fun a39 =>
 STN a39 [.int .u8 (IntKind.wrap .u8 ((IntKind.wrap .i64 ((IntKind.wrap .i64 (x3 * 97)) + (IntKind.wrap .i64 (x4 * 13))))))] 0 h4 [] fun h5 =>
 nx3 (IntKind.wrap .i64 (x4 + 1)) h5)
 (nx1 (IntKind.wrap .i64 (x3 + 1)) h4)) 0 h2)
 (LOOP [.sl, .nt .i64] (fun x5 x6 h7 nx6 =>
 COND (decide (x6 < (p0.len : Int))) (IXA 1 p0.a p0.len x6 fun a48 =>
 LD (.sl) a48 (EQ h7) fun v49 =>
 LOOP [.sl, .nt .i64] (fun x7 x8 h9 nx8 =>
 COND (decide (x8 < 16)) (ALLOC [.int .u8 (IntKind.wrap .u8 ((IntKind.wrap .i64 ((IntKind.wrap .i64 ((IntKind.wrap .i64 ((-1) - x6)) * 97)) + (IntKind.wrap .i64 (x8 * 13))))))] 5 h9 fun b62 h10 =>
 APPEND 1 1 5 [.int .u8 0] x7.a x7.len x7.cap (some ⟨b62, 0, none⟩) 1 h10 [] fun v63 h11 =>
 nx8 v63 (IntKind.wrap .i64 (x8 + 1)) h11)
 (ALLOC [x7.v] 23 h9 fun b66 h12 =>
 APPEND 1 24 23 [.slice none 0 0] x5.a x5.len x5.cap (some ⟨b66, 0, none⟩) 1 h12 [] fun v67 h13 =>
 nx6 v67 (IntKind.wrap .i64 (x6 + 1)) h13)) v49 0 h7)
 (LOOP [.nt .i64] (fun x9 h15 nx14 =>
 COND (decide (x9 < (p0.len : Int))) (IXA 1 p0.a p0.len x9 fun a76 =>
 LD (.sl) a76 (EQ h15) fun v77 =>
 LOOP [.nt .i64] (fun x11 h17 nx16 =>
 COND (decide (x11 < (v77.len : Int))) (JOIN [.bl] (fun k18 => IXA 1 p0.a p0.len x9 fun a86 =>
 LD (.sl) a86 (EQ h17) fun v87 =>
 IXA 1 v87.a v87.len x11 fun a89 =>
 LD (.nt .u8) a89 (EQ h17) fun v90 =>
 COND (v90 != (IntKind.wrap .u8 ((IntKind.wrap .i64 ((IntKind.wrap .i64 (x9 * 97)) + (IntKind.wrap .i64 (x11 * 13))))))) (k18 true h17)
 (IXA 1 x5.a x5.len x9 fun a101 =>
 LD (.sl) a101 (EQ h17) fun v102 =>
 IXA 1 v102.a v102.len x11 fun a104 =>
 LD (.nt .u8) a104 (EQ h17) fun v105 =>
 k18 (v105 != (IntKind.wrap .u8 ((IntKind.wrap .i64 ((IntKind.wrap .i64 (x9 * 97)) + (IntKind.wrap .i64 (x11 * 13))))))) h17))
 fun x113 h19 =>
 COND x113 (Q false h19)
 (nx16 (IntKind.wrap .i64 (x11 + 1)) h19))
 (LOOP [.nt .i64] (fun x12 h21 nx20 =>
 COND (decide (x12 < 16)) (IXA 1 x5.a x5.len x9 fun a120 =>
 LD (.sl) a120 (EQ h21) fun v121 =>
 IXA 1 v121.a v121.len (IntKind.wrap .i64 ((v77.len : Int) + x12)) fun a125 =>
 LD (.nt .u8) a125 (EQ h21) fun v126 =>
 COND (v126 != (IntKind.wrap .u8 ((IntKind.wrap .i64 ((IntKind.wrap .i64 ((IntKind.wrap .i64 ((-1) - x9)) * 97)) + (IntKind.wrap .i64 (x12 * 13))))))) (Q false h21)
 (nx20 (IntKind.wrap .i64 (x12 + 1)) h21))
 (nx14 (IntKind.wrap .i64 (x9 + 1)) h21)) 0 h17)) 0 h15)
 (Q true h15)) 0 h7)) ⟨none, 0, 0⟩ 0 h2)) 0 h0
def pl55 : Plan := ⟨[], [(28, ⟨[(12, .nt .i64)], [0, 5, 9, 10], []⟩), (23, ⟨[(11, .nt .i64)], [0, 5, 9, 10], []⟩), (19, ⟨[(9, .nt .i64)], [0, 5], []⟩), (14, ⟨[(7, .sl), (8, .nt .i64)], [0, 5, 6], []⟩), (10, ⟨[(5, .sl), (6, .nt .i64)], [0], []⟩), (5, ⟨[(4, .nt .i64)], [0, 3], []⟩), (2, ⟨[(3, .nt .i64)], [0], []⟩)], [], [(25, ⟨[(113, .bl)], [0, 5, 9, 10, 11], []⟩)], [], []⟩
theorem q55_eq (Z : List PanicEntry → Heap → Prop) (p0 : Sl) (h0 : Heap) (Q : Cur (flat [.one (.bl)]) (Heap → Prop)) : q55 Z p0 h0 Q = (WPF P Z Tryz.f55 pl55 [.one (.sl)] h0 Q) p0 := by kernel_rfl

/- codicil/codicilref00.ownTexts -/
def q56 (Z : List PanicEntry → Heap → Prop) (p0 : Sl) (h0 : Heap) (Q : Cur (flat [.one (.bl)]) (Heap → Prop)) : Prop :=
 LOOP [.nt .i64] (fun x3 h2 nx1 =>
 COND (decide (x3 < (p0.len : Int))) (LOOP [.nt .i64] (fun x4 h4 nx3 =>
 IXA 1 p0.a p0.len x3 fun a22 =>
 LD (.sl) a22 (EQ h4) fun v23 =>
 COND (decide (x4 < (v23.len : Int))) (DRAW h4 [] fun S5 =>
 IXA 1 p0.a p0.len x3 fun a30 =>
 LD (.sl) a30 S5 fun v31 =>
 CALL P (fun _ _ => False) 114 [.int .i64 x3, .int .i64 x4] [.one (.tx)] h4 [] fun v35 h6 =>
 SS S5 h6 (
 IXA 1 v31.a v31.len x4 fun a36 =>
 STN a36 [.string v35] 0 h6 [] fun h7 =>
 nx3 (IntKind.wrap .i64 (x4 + 1)) h7))
 (nx1 (IntKind.wrap .i64 (x3 + 1)) h4)) 0 h2)
 (LOOP [.sl, .nt .i64] (fun x5 x6 h9 nx8 =>
 COND (decide (x6 < (p0.len : Int))) (IXA 1 p0.a p0.len x6 fun a45 =>
 LD (.sl) a45 (EQ h9) fun v46 =>
 LOOP [.sl, .nt .i64] (fun x7 x8 h11 nx10 =>
 COND (decide (x8 < 16)) (CALL P Z 114 [.int .i64 (IntKind.wrap .i64 ((-1) - x6)), .int .i64 x8] [.one (.tx)] h11 [] fun v55 h12 =>
 ALLOC [.string v55] 9 h12 fun b56 h13 =>
 APPEND 1 16 9 [.string ByteArray.empty] x7.a x7.len x7.cap (some ⟨b56, 0, none⟩) 1 h13 [] fun v57 h14 =>
 nx10 v57 (IntKind.wrap .i64 (x8 + 1)) h14)
 (ALLOC [x7.v] 164 h11 fun b60 h15 =>
 APPEND 1 24 164 [.slice none 0 0] x5.a x5.len x5.cap (some ⟨b60, 0, none⟩) 1 h15 [] fun v61 h16 =>
 nx8 v61 (IntKind.wrap .i64 (x6 + 1)) h16)) v46 0 h9)
 (LOOP [.nt .i64] (fun x9 h18 nx17 =>
 COND (decide (x9 < (p0.len : Int))) (IXA 1 p0.a p0.len x9 fun a70 =>
 LD (.sl) a70 (EQ h18) fun v71 =>
 LOOP [.nt .i64] (fun x11 h20 nx19 =>
 COND (decide (x11 < (v71.len : Int))) (JOIN [.bl] (fun k21 => DRAW h20 [] fun S23 =>
 IXA 1 p0.a p0.len x9 fun a80 =>
 LD (.sl) a80 S23 fun v81 =>
 IXA 1 v81.a v81.len x11 fun a83 =>
 LD (.tx) a83 S23 fun v84 =>
 CALL P (fun _ _ => False) 114 [.int .i64 x9, .int .i64 x11] [.one (.tx)] h20 [] fun v87 h24 =>
 SS S23 h24 (
 COND (!(v84.toList == v87.toList)) (SS S23 h24 (
 k21 true h24))
 (IXA 1 x5.a x5.len x9 fun a92 =>
 LD (.sl) a92 S23 fun v93 =>
 IXA 1 v93.a v93.len x11 fun a95 =>
 LD (.tx) a95 S23 fun v96 =>
 CALL P (fun _ _ => False) 114 [.int .i64 x9, .int .i64 x11] [.one (.tx)] h24 [] fun v99 h25 =>
 SS S23 h25 (
 k21 (!(v96.toList == v99.toList)) h25))))
 fun x101 h22 =>
 COND x101 (Q false h22)
 (nx19 (IntKind.wrap .i64 (x11 + 1)) h22))
 (LOOP [.nt .i64] (fun x12 h27 nx26 =>
 COND (decide (x12 < 16)) (DRAW h27 [] fun S28 =>
 IXA 1 x5.a x5.len x9 fun a108 =>
 LD (.sl) a108 S28 fun v109 =>
 IXA 1 v109.a v109.len (IntKind.wrap .i64 ((v71.len : Int) + x12)) fun a113 =>
 LD (.tx) a113 S28 fun v114 =>
 CALL P (fun _ _ => False) 114 [.int .i64 (IntKind.wrap .i64 ((-1) - x9)), .int .i64 x12] [.one (.tx)] h27 [] fun v118 h29 =>
 SS S28 h29 (
 COND (!(v114.toList == v118.toList)) (Q false h29)
 (nx26 (IntKind.wrap .i64 (x12 + 1)) h29)))
 (nx17 (IntKind.wrap .i64 (x9 + 1)) h27)) 0 h20)) 0 h18)
 (Q true h18)) 0 h9)) ⟨none, 0, 0⟩ 0 h2)) 0 h0
def pl56 : Plan := ⟨[], [(28, ⟨[(12, .nt .i64)], [0, 5, 9, 10], []⟩), (23, ⟨[(11, .nt .i64)], [0, 5, 9, 10], []⟩), (19, ⟨[(9, .nt .i64)], [0, 5], []⟩), (14, ⟨[(7, .sl), (8, .nt .i64)], [0, 5, 6], []⟩), (10, ⟨[(5, .sl), (6, .nt .i64)], [0], []⟩), (5, ⟨[(4, .nt .i64)], [0, 3], []⟩), (2, ⟨[(3, .nt .i64)], [0], []⟩)], [], [(25, ⟨[(101, .bl)], [0, 5, 9, 10, 11], []⟩)], [(30, false, [0, 1, 2, 3, 4, 5, 6, 7, 8, 9, 10, 11, 12, 13]), (25, false, [0, 1, 2, 3, 4, 5, 6, 7, 8, 9, 10, 11, 12, 13, 14, 15, 16, 17, 18, 19, 20, 21, 22, 23]), (7, false, [0, 1, 2, 3, 4, 5, 6, 7, 8, 9])], []⟩
theorem q56_eq (Z : List PanicEntry → Heap → Prop) (p0 : Sl) (h0 : Heap) (Q : Cur (flat [.one (.bl)]) (Heap → Prop)) : q56 Z p0 h0 Q = (WPF P Z Tryz.f56 pl56 [.one (.sl)] h0 Q) p0 := by kernel_rfl

/- codicil/codicilref00.ownInts -/
def q57 (Z : List PanicEntry → Heap → Prop) (p0 : Sl) (h0 : Heap) (Q : Cur (flat [.one (.bl)]) (Heap → Prop)) : Prop :=
 LOOP [.nt .i64] (fun x3 h2 nx1 =>
 COND (decide (x3 < (p0.len : Int))) (LOOP [.nt .i64] (fun x4 h4 nx3 =>
 IXA 1 p0.a p0.len x3 fun a22 =>
 LD (.sl) a22 (EQ h4) fun v23 =>
 COND (decide (x4 < (v23.len : Int))) (IXA 1 p0.a p0.len x3 fun a30 =>
 LD (.sl) a30 (EQ h4) fun v31 =>
 IXA 1 v31.a v31.len x4 fun a37 =>
 STN a37 [.int .i64 (IntKind.wrap .i64 ((IntKind.wrap .i64 (x3 * 1000)) + x4))] 0 h4 [] fun h5 =>
 nx3 (IntKind.wrap .i64 (x4 + 1)) h5)
 (nx1 (IntKind.wrap .i64 (x3 + 1)) h4)) 0 h2)
 (LOOP [.sl, .nt .i64] (fun x5 x6 h7 nx6 =>
 COND (decide (x6 < (p0.len : Int))) (IXA 1 p0.a p0.len x6 fun a46 =>
 LD (.sl) a46 (EQ h7) fun v47 =>
 LOOP [.sl, .nt .i64] (fun x7 x8 h9 nx8 =>
 COND (decide (x8 < 16)) (ALLOC [.int .i64 (IntKind.wrap .i64 ((IntKind.wrap .i64 ((IntKind.wrap .i64 ((-1) - x6)) * 1000)) + x8))] 3 h9 fun b58 h10 =>
 APPEND 1 8 3 [.int .i64 0] x7.a x7.len x7.cap (some ⟨b58, 0, none⟩) 1 h10 [] fun v59 h11 =>
 nx8 v59 (IntKind.wrap .i64 (x8 + 1)) h11)
 (ALLOC [x7.v] 166 h9 fun b62 h12 =>
 APPEND 1 24 166 [.slice none 0 0] x5.a x5.len x5.cap (some ⟨b62, 0, none⟩) 1 h12 [] fun v63 h13 =>
 nx6 v63 (IntKind.wrap .i64 (x6 + 1)) h13)) v47 0 h7)
 (LOOP [.nt .i64] (fun x9 h15 nx14 =>
 COND (decide (x9 < (p0.len : Int))) (IXA 1 p0.a p0.len x9 fun a72 =>
 LD (.sl) a72 (EQ h15) fun v73 =>
 LOOP [.nt .i64] (fun x11 h17 nx16 =>
 COND (decide (x11 < (v73.len : Int))) (JOIN [.bl] (fun k18 => IXA 1 p0.a p0.len x9 fun a82 =>
 LD (.sl) a82 (EQ h17) fun v83 =>
 IXA 1 v83.a v83.len x11 fun a85 =>
 LD (.nt .i64) a85 (EQ h17) fun v86 =>
 COND (v86 != (IntKind.wrap .i64 ((IntKind.wrap .i64 (x9 * 1000)) + x11))) (k18 true h17)
 (IXA 1 x5.a x5.len x9 fun a95 =>
 LD (.sl) a95 (EQ h17) fun v96 =>
 IXA 1 v96.a v96.len x11 fun a98 =>
 LD (.nt .i64) a98 (EQ h17) fun v99 =>
 k18 (v99 != (IntKind.wrap .i64 ((IntKind.wrap .i64 (x9 * 1000)) + x11))) h17))
 fun x105 h19 =>
 COND x105 (Q false h19)
 (nx16 (IntKind.wrap .i64 (x11 + 1)) h19))
 (LOOP [.nt .i64] (fun x12 h21 nx20 =>
 COND (decide (x12 < 16)) (IXA 1 x5.a x5.len x9 fun a112 =>
 LD (.sl) a112 (EQ h21) fun v113 =>
 IXA 1 v113.a v113.len (IntKind.wrap .i64 ((v73.len : Int) + x12)) fun a117 =>
 LD (.nt .i64) a117 (EQ h21) fun v118 =>
 COND (v118 != (IntKind.wrap .i64 ((IntKind.wrap .i64 ((IntKind.wrap .i64 ((-1) - x9)) * 1000)) + x12))) (Q false h21)
 (nx20 (IntKind.wrap .i64 (x12 + 1)) h21))
 (nx14 (IntKind.wrap .i64 (x9 + 1)) h21)) 0 h17)) 0 h15)
 (Q true h15)) 0 h7)) ⟨none, 0, 0⟩ 0 h2)) 0 h0
def pl57 : Plan := ⟨[], [(28, ⟨[(12, .nt .i64)], [0, 5, 9, 10], []⟩), (23, ⟨[(11, .nt .i64)], [0, 5, 9, 10], []⟩), (19, ⟨[(9, .nt .i64)], [0, 5], []⟩), (14, ⟨[(7, .sl), (8, .nt .i64)], [0, 5, 6], []⟩), (10, ⟨[(5, .sl), (6, .nt .i64)], [0], []⟩), (5, ⟨[(4, .nt .i64)], [0, 3], []⟩), (2, ⟨[(3, .nt .i64)], [0], []⟩)], [], [(25, ⟨[(105, .bl)], [0, 5, 9, 10, 11], []⟩)], [], []⟩
theorem q57_eq (Z : List PanicEntry → Heap → Prop) (p0 : Sl) (h0 : Heap) (Q : Cur (flat [.one (.bl)]) (Heap → Prop)) : q57 Z p0 h0 Q = (WPF P Z Tryz.f57 pl57 [.one (.sl)] h0 Q) p0 := by kernel_rfl

/- codicil/codicilref00.ownLongs -/
def q58 (Z : List PanicEntry → Heap → Prop) (p0 : Sl) (h0 : Heap) (Q : Cur (flat [.one (.bl)]) (Heap → Prop)) : Prop :=
 LOOP [.nt .i64] (fun x3 h2 nx1 =>
 COND (decide (x3 < (p0.len : Int))) (LOOP [.nt .i64] (fun x4 h4 nx3 =>
 IXA 1 p0.a p0.len x3 fun a22 =>
 LD (.sl) a22 (EQ h4) fun v23 =>
 COND (decide (x4 < (v23.len : Int))) (IXA 1 p0.a p0.len x3 fun a30 =>
 LD (.sl) a30 (EQ h4) fun v31 =>
 IXA 1 v31.a v31.len x4 fun a37 =>
 STN a37 [.int .i64 (IntKind.wrap .i64 ((IntKind.wrap .i64 (x3 * 1000)) + x4))] 0 h4 [] fun h5 =>
 nx3 (IntKind.wrap .i64 (x4 + 1)) h5)
 (nx1 (IntKind.wrap .i64 (x3 + 1)) h4)) 0 h2)
 (LOOP [.sl, .nt .i64] (fun x5 x6 h7 nx6 =>
 COND (decide (x6 < (p0.len : Int))) (IXA 1 p0.a p0.len x6 fun a46 =>
 LD (.sl) a46 (EQ h7) fun v47 =>
 LOOP [.sl, .nt .i64] (fun x7 x8 h9 nx8 =>
 COND (decide (x8 < 16)) (ALLOC [.int .i64 (IntKind.wrap .i64 ((IntKind.wrap .i64 ((IntKind.wrap .i64 ((-1) - x6)) * 1000)) + x8))] 2 h9 fun b58 h10 =>
 APPEND 1 8 2 [.int .i64 0] x7.a x7.len x7.cap (some ⟨b58, 0, none⟩) 1 h10 [] fun v59 h11 =>
 nx8 v59 (IntKind.wrap .i64 (x8 + 1)) h11)
 (ALLOC [x7.v] 167 h9 fun b62 h12 =>
 APPEND 1 24 167 [.slice none 0 0] x5.a x5.len x5.cap (some ⟨b62, 0, none⟩) 1 h12 [] fun v63 h13 =>
 nx6 v63 (IntKind.wrap .i64 (x6 + 1)) h13)) v47 0 h7)
 (LOOP [.nt .i64] (fun x9 h15 nx14 =>
 COND (decide (x9 < (p0.len : Int))) (IXA 1 p0.a p0.len x9 fun a72 =>
 LD (.sl) a72 (EQ h15) fun v73 =>
 LOOP [.nt .i64] (fun x11 h17 nx16 =>
 COND (decide (x11 < (v73.len : Int))) (JOIN [.bl] (fun k18 => IXA 1 p0.a p0.len x9 fun a82 =>
 LD (.sl) a82 (EQ h17) fun v83 =>
 IXA 1 v83.a v83.len x11 fun a85 =>
 LD (.nt .i64) a85 (EQ h17) fun v86 =>
 COND (v86 != (IntKind.wrap .i64 ((IntKind.wrap .i64 (x9 * 1000)) + x11))) (k18 true h17)
 (IXA 1 x5.a x5.len x9 fun a95 =>
 LD (.sl) a95 (EQ h17) fun v96 =>
 IXA 1 v96.a v96.len x11 fun a98 =>
 LD (.nt .i64) a98 (EQ h17) fun v99 =>
 k18 (v99 != (IntKind.wrap .i64 ((IntKind.wrap .i64 (x9 * 1000)) + x11))) h17))
 fun x105 h19 =>
 COND x105 (Q false h19)
 (nx16 (IntKind.wrap .i64 (x11 + 1)) h19))
 (LOOP [.nt .i64] (fun x12 h21 nx20 =>
 COND (decide (x12 < 16)) (IXA 1 x5.a x5.len x9 fun a112 =>
 LD (.sl) a112 (EQ h21) fun v113 =>
 IXA 1 v113.a v113.len (IntKind.wrap .i64 ((v73.len : Int) + x12)) fun a117 =>
 LD (.nt .i64) a117 (EQ h21) fun v118 =>
 COND (v118 != (IntKind.wrap .i64 ((IntKind.wrap .i64 ((IntKind.wrap .i64 ((-1) - x9)) * 1000)) + x12))) (Q false h21)
 (nx20 (IntKind.wrap .i64 (x12 + 1)) h21))
 (nx14 (IntKind.wrap .i64 (x9 + 1)) h21)) 0 h17)) 0 h15)
 (Q true h15)) 0 h7)) ⟨none, 0, 0⟩ 0 h2)) 0 h0
def pl58 : Plan := ⟨[], [(28, ⟨[(12, .nt .i64)], [0, 5, 9, 10], []⟩), (23, ⟨[(11, .nt .i64)], [0, 5, 9, 10], []⟩), (19, ⟨[(9, .nt .i64)], [0, 5], []⟩), (14, ⟨[(7, .sl), (8, .nt .i64)], [0, 5, 6], []⟩), (10, ⟨[(5, .sl), (6, .nt .i64)], [0], []⟩), (5, ⟨[(4, .nt .i64)], [0, 3], []⟩), (2, ⟨[(3, .nt .i64)], [0], []⟩)], [], [(25, ⟨[(105, .bl)], [0, 5, 9, 10, 11], []⟩)], [], []⟩
theorem q58_eq (Z : List PanicEntry → Heap → Prop) (p0 : Sl) (h0 : Heap) (Q : Cur (flat [.one (.bl)]) (Heap → Prop)) : q58 Z p0 h0 Q = (WPF P Z Tryz.f58 pl58 [.one (.sl)] h0 Q) p0 := by kernel_rfl

/- codicil/codicilref00.ownNumbers -/
def q59 (Z : List PanicEntry → Heap → Prop) (p0 : Sl) (h0 : Heap) (Q : Cur (flat [.one (.bl)]) (Heap → Prop)) : Prop :=
 LOOP [.nt .i64] (fun x3 h2 nx1 =>
 COND (decide (x3 < (p0.len : Int))) (LOOP [.nt .i64] (fun x4 h4 nx3 =>
 IXA 1 p0.a p0.len x3 fun a22 =>
 LD (.sl) a22 (EQ h4) fun v23 =>
 COND (decide (x4 < (v23.len : Int))) (IXA 1 p0.a p0.len x3 fun a30 =>
 LD (.sl) a30 (EQ h4) fun v31 =>
 IXA 1 v31.a v31.len x4 fun a39 =>
 STN a39 [.int .u64 (IntKind.wrap .u64 ((IntKind.wrap .i64 ((IntKind.wrap .i64 ((IntKind.wrap .i64 (x3 * 1000)) + x4)) + 7000000))))] 0 h4 [] fun h5 =>
 nx3 (IntKind.wrap .i64 (x4 + 1)) h5)
 (nx1 (IntKind.wrap .i64 (x3 + 1)) h4)) 0 h2)
 (LOOP [.sl, .nt .i64] (fun x5 x6 h7 nx6 =>
 COND (decide (x6 < (p0.len : Int))) (IXA 1 p0.a p0.len x6 fun a48 =>
 LD (.sl) a48 (EQ h7) fun v49 =>
 LOOP [.sl, .nt .i64] (fun x7 x8 h9 nx8 =>
 COND (decide (x8 < 16)) (ALLOC [.int .u64 (IntKind.wrap .u64 ((IntKind.wrap .i64 ((IntKind.wrap .i64 ((IntKind.wrap .i64 ((IntKind.wrap .i64 ((-1) - x6)) * 1000)) + x8)) + 7000000))))] 103 h9 fun b62 h10 =>
 APPEND 1 8 103 [.int .u64 0] x7.a x7.len x7.cap (some ⟨b62, 0, none⟩) 1 h10 [] fun v63 h11 =>
 nx8 v63 (IntKind.wrap .i64 (x8 + 1)) h11)
 (ALLOC [x7.v] 168 h9 fun b66 h12 =>
 APPEND 1 24 168 [.slice none 0 0] x5.a x5.len x5.cap (some ⟨b66, 0, none⟩) 1 h12 [] fun v67 h13 =>
 nx6 v67 (IntKind.wrap .i64 (x6 + 1)) h13)) v49 0 h7)
 (LOOP [.nt .i64] (fun x9 h15 nx14 =>
 COND (decide (x9 < (p0.len : Int))) (IXA 1 p0.a p0.len x9 fun a76 =>
 LD (.sl) a76 (EQ h15) fun v77 =>
 LOOP [.nt .i64] (fun x11 h17 nx16 =>
 COND (decide (x11 < (v77.len : Int))) (JOIN [.bl] (fun k18 => IXA 1 p0.a p0.len x9 fun a86 =>
 LD (.sl) a86 (EQ h17) fun v87 =>
 IXA 1 v87.a v87.len x11 fun a89 =>
 LD (.nt .u64) a89 (EQ h17) fun v90 =>
 COND (v90 != (IntKind.wrap .u64 ((IntKind.wrap .i64 ((IntKind.wrap .i64 ((IntKind.wrap .i64 (x9 * 1000)) + x11)) + 7000000))))) (k18 true h17)
 (IXA 1 x5.a x5.len x9 fun a101 =>
 LD (.sl) a101 (EQ h17) fun v102 =>
 IXA 1 v102.a v102.len x11 fun a104 =>
 LD (.nt .u64) a104 (EQ h17) fun v105 =>
 k18 (v105 != (IntKind.wrap .u64 ((IntKind.wrap .i64 ((IntKind.wrap .i64 ((IntKind.wrap .i64 (x9 * 1000)) + x11)) + 7000000))))) h17))
 fun x113 h19 =>
 COND x113 (Q false h19)
 (nx16 (IntKind.wrap .i64 (x11 + 1)) h19))
 (LOOP [.nt .i64] (fun x12 h21 nx20 =>
 COND (decide (x12 < 16)) (IXA 1 x5.a x5.len x9 fun a120 =>
 LD (.sl) a120 (EQ h21) fun v121 =>
 IXA 1 v121.a v121.len (IntKind.wrap .i64 ((v77.len : Int) + x12)) fun a125 =>
 LD (.nt .u64) a125 (EQ h21) fun v126 =>
 COND (v126 != (IntKind.wrap .u64 ((IntKind.wrap .i64 ((IntKind.wrap .i64 ((IntKind.wrap .i64 ((IntKind.wrap .i64 ((-1) - x9)) * 1000)) + x12)) + 7000000))))) (Q false h21)
 (nx20 (IntKind.wrap .i64 (x12 + 1)) h21))
 (nx14 (IntKind.wrap .i64 (x9 + 1)) h21)) 0 h17)) 0 h15)
 (Q true h15)) 0 h7)) ⟨none, 0, 0⟩ 0 h2)) 0 h0
def pl59 : Plan := ⟨[], [(28, ⟨[(12, .nt .i64)], [0, 5, 9, 10], []⟩), (23, ⟨[(11, .nt .i64)], [0, 5, 9, 10], []⟩), (19, ⟨[(9, .nt .i64)], [0, 5], []⟩), (14, ⟨[(7, .sl), (8, .nt .i64)], [0, 5, 6], []⟩), (10, ⟨[(5, .sl), (6, .nt .i64)], [0], []⟩), (5, ⟨[(4, .nt .i64)], [0, 3], []⟩), (2, ⟨[(3, .nt .i64)], [0], []⟩)], [], [(25, ⟨[(113, .bl)], [0, 5, 9, 10, 11], []⟩)], [], []⟩
theorem q59_eq (Z : List PanicEntry → Heap → Prop) (p0 : Sl) (h0 : Heap) (Q : Cur (flat [.one (.bl)]) (Heap → Prop)) : q59 Z p0 h0 Q = (WPF P Z Tryz.f59 pl59 [.one (.sl)] h0 Q) p0 := by kernel_rfl

/- codicil/codicilref00.ownWords -/
def q60 (Z : List PanicEntry → Heap → Prop) (p0 : Sl) (h0 : Heap) (Q : Cur (flat [.one (.bl)]) (Heap → Prop)) : Prop :=
 LOOP [.nt .i64] (fun x3 h2 nx1 =>
 COND (decide (x3 < (p0.len : Int))) (LOOP [.nt .i64] (fun x4 h4 nx3 =>
 IXA 1 p0.a p0.len x3 fun a22 =>
 LD (.sl) a22 (EQ h4) fun v23 =>
 COND (decide (x4 < (v23.len : Int))) (IXA 1 p0.a p0.len x3 fun a30 =>
 LD (.sl) a30 (EQ h4) fun v31 =>
 IXA 1 v31.a v31.len x4 fun a39 =>
 STN a39 [.int .u32 (IntKind.wrap .u32 ((IntKind.wrap .i64 ((IntKind.wrap .i64 ((IntKind.wrap .i64 (x3 * 1000)) + x4)) + 7000000))))] 0 h4 [] fun h5 =>
 nx3 (IntKind.wrap .i64 (x4 + 1)) h5)
 (nx1 (IntKind.wrap .i64 (x3 + 1)) h4)) 0 h2)
 (LOOP [.sl, .nt .i64] (fun x5 x6 h7 nx6 =>
 COND (decide (x6 < (p0.len : Int))) (IXA 1 p0.a p0.len x6 fun a48 =>
 LD (.sl) a48 (EQ h7) fun v49 =>
 LOOP [.sl, .nt .i64] (fun x7 x8 h9 nx8 =>
 COND (decide (x8 < 16)) (ALLOC [.int .u32 (IntKind.wrap .u32 ((IntKind.wrap .i64 ((IntKind.wrap .i64 ((IntKind.wrap .i64 ((IntKind.wrap .i64 ((-1) - x6)) * 1000)) + x8)) + 7000000))))] 170 h9 fun b62 h10 =>
 APPEND 1 4 170 [.int .u32 0] x7.a x7.len x7.cap (some ⟨b62, 0, none⟩) 1 h10 [] fun v63 h11 =>
 nx8 v63 (IntKind.wrap .i64 (x8 + 1)) h11)
 (ALLOC [x7.v] 169 h9 fun b66 h12 =>
 APPEND 1 24 169 [.slice none 0 0] x5.a x5.len x5.cap (some ⟨b66, 0, none⟩) 1 h12 [] fun v67 h13 =>
 nx6 v67 (IntKind.wrap .i64 (x6 + 1)) h13)) v49 0 h7)
 (LOOP [.nt .i64] (fun x9 h15 nx14 =>
 COND (decide (x9 < (p0.len : Int))) (IXA 1 p0.a p0.len x9 fun a76 =>
 LD (.sl) a76 (EQ h15) fun v77 =>
 LOOP [.nt .i64] (fun x11 h17 nx16 =>
 COND (decide (x11 < (v77.len : Int))) (JOIN [.bl] (fun k18 => IXA 1 p0.a p0.len x9 fun a86 =>
 LD (.sl) a86 (EQ h17) fun v87 =>
 IXA 1 v87.a v87.len x11 fun a89 =>
 LD (.nt .u32) a89 (EQ h17) fun v90 =>
 COND (v90 != (IntKind.wrap .u32 ((IntKind.wrap .i64 ((IntKind.wrap .i64 ((IntKind.wrap .i64 (x9 * 1000)) + x11)) + 7000000))))) (k18 true h17)
 (IXA 1 x5.a x5.len x9 fun a101 =>
 LD (.sl) a101 (EQ h17) fun v102 =>
 IXA 1 v102.a v102.len x11 fun a104 =>
 LD (.nt .u32) a104 (EQ h17) fun v105 =>
 k18 (v105 != (IntKind.wrap .u32 ((IntKind.wrap .i64 ((IntKind.wrap .i64 ((IntKind.wrap .i64 (x9 * 1000)) + x11)) + 7000000))))) h17))
 fun x113 h19 =>
 COND x113 (Q false h19)
 (nx16 (IntKind.wrap .i64 (x11 + 1)) h19))
 (LOOP [.nt .i64] (fun x12 h21 nx20 =>
 COND (decide (x12 < 16)) (IXA 1 x5.a x5.len x9 fun a120 =>
 LD (.sl) a120 (EQ h21) fun v121 =>
 IXA 1 v121.a v121.len (IntKind.wrap .i64 ((v77.len : Int) + x12)) fun a125 =>
 LD (.nt .u32) a125 (EQ h21) fun v126 =>
 COND (v126 != (IntKind.wrap .u32 ((IntKind.wrap .i64 ((IntKind.wrap .i64 ((IntKind.wrap .i64 ((IntKind.wrap .i64 ((-1) - x9)) * 1000)) + x12)) + 7000000))))) (Q false h21)
 (nx20 (IntKind.wrap .i64 (x12 + 1)) h21))
 (nx14 (IntKind.wrap .i64 (x9 + 1)) h21)) 0 h17)) 0 h15)
 (Q true h15)) 0 h7)) ⟨none, 0, 0⟩ 0 h2)) 0 h0
def pl60 : Plan := ⟨[], [(28, ⟨[(12, .nt .i64)], [0, 5, 9, 10], []⟩), (23, ⟨[(11, .nt .i64)], [0, 5, 9, 10], []⟩), (19, ⟨[(9, .nt .i64)], [0, 5], []⟩), (14, ⟨[(7, .sl), (8, .nt .i64)], [0, 5, 6], []⟩), (10, ⟨[(5, .sl), (6, .nt .i64)], [0], []⟩), (5, ⟨[(4, .nt .i64)], [0, 3], []⟩), (2, ⟨[(3, .nt .i64)], [0], []⟩)], [], [(25, ⟨[(113, .bl)], [0, 5, 9, 10, 11], []⟩)], [], []⟩
theorem q60_eq (Z : List PanicEntry → Heap → Prop) (p0 : Sl) (h0 : Heap) (Q : Cur (flat [.one (.bl)]) (Heap → Prop)) : q60 Z p0 h0 Q = (WPF P Z Tryz.f60 pl60 [.one (.sl)] h0 Q) p0 := by kernel_rfl

/- codicil/codicilref00.ownSteps -/
def q61 (Z : List PanicEntry → Heap → Prop) (p0 : Sl) (h0 : Heap) (Q : Cur (flat [.one (.bl)]) (Heap → Prop)) : Prop :=
 LOOP [.nt .i64] (fun x3 h2 nx1 =>
 COND (decide (x3 < (p0.len : Int))) (LOOP [.nt .i64] (fun x4 h4 nx3 =>
 IXA 1 p0.a p0.len x3 fun a22 =>
 LD (.sl) a22 (EQ h4) fun v23 =>
 COND (decide (x4 < (v23.len : Int))) (IXA 1 p0.a p0.len x3 fun a30 =>
 LD (.sl) a30 (EQ h4) fun v31 =>
 IXA 2 v31.a v31.len x4 fun a38 =>
 STN a38 [.string ByteArray.empty, .int .i64 (IntKind.wrap .i64 ((IntKind.wrap .i64 (x3 * 1000)) + x4))] 0 h4 [] fun h5 =>
 nx3 (IntKind.wrap .i64 (x4 + 1)) h5)
 (nx1 (IntKind.wrap .i64 (x3 + 1)) h4)) 0 h2)
 (LOOP [.sl, .nt .i64] (fun x5 x6 h7 nx6 =>
 COND (decide (x6 < (p0.len : Int))) (IXA 1 p0.a p0.len x6 fun a47 =>
 LD (.sl) a47 (EQ h7) fun v48 =>
 LOOP [.sl, .nt .i64] (fun x7 x8 h9 nx8 =>
 COND (decide (x8 < 16)) (ALLOC [.string ByteArray.empty, .int .i64 (IntKind.wrap .i64 ((IntKind.wrap .i64 ((IntKind.wrap .i64 ((-1) - x6)) * 1000)) + x8))] 173 h9 fun b60 h10 =>
 APPEND 2 24 173 [.string ByteArray.empty, .int .i64 0] x7.a x7.len x7.cap (some ⟨b60, 0, none⟩) 1 h10 [] fun v61 h11 =>
 nx8 v61 (IntKind.wrap .i64 (x8 + 1)) h11)
 (ALLOC [x7.v] 171 h9 fun b64 h12 =>
 APPEND 1 24 171 [.slice none 0 0] x5.a x5.len x5.cap (some ⟨b64, 0, none⟩) 1 h12 [] fun v65 h13 =>
 nx6 v65 (IntKind.wrap .i64 (x6 + 1)) h13)) v48 0 h7)
 (LOOP [.nt .i64] (fun x9 h15 nx14 =>
 COND (decide (x9 < (p0.len : Int))) (IXA 1 p0.a p0.len x9 fun a74 =>
 LD (.sl) a74 (EQ h15) fun v75 =>
 LOOP [.nt .i64] (fun x11 h17 nx16 =>
 COND (decide (x11 < (v75.len : Int))) (JOIN [.bl] (fun k18 => IXA 1 p0.a p0.len x9 fun a84 =>
 LD (.sl) a84 (EQ h17) fun v85 =>
 IXA 2 v85.a v85.len x11 fun a87 =>
 LDN [.tx, .nt .i64] a87 0 (EQ h17) fun v88_0 v88_1 =>
 False)
 fun x109 h19 =>
 COND x109 (Q false h19)
 (nx16 (IntKind.wrap .i64 (x11 + 1)) h19))
 (LOOP [.nt .i64] (fun x12 h21 nx20 =>
 COND (decide (x12 < 16)) (IXA 1 x5.a x5.len x9 fun a116 =>
 LD (.sl) a116 (EQ h21) fun v117 =>
 IXA 2 v117.a v117.len (IntKind.wrap .i64 ((v75.len : Int) + x12)) fun a121 =>
 LDN [.tx, .nt .i64] a121 0 (EQ h21) fun v122_0 v122_1 =>
 False)
 (nx14 (IntKind.wrap .i64 (x9 + 1)) h21)) 0 h17)) 0 h15)
 (Q true h15)) 0 h7)) ⟨none, 0, 0⟩ 0 h2)) 0 h0
def pl61 : Plan := ⟨[], [(28, ⟨[(12, .nt .i64)], [0, 5, 9, 10], []⟩), (23, ⟨[(11, .nt .i64)], [0, 5, 9, 10], []⟩), (19, ⟨[(9, .nt .i64)], [0, 5], []⟩), (14, ⟨[(7, .sl), (8, .nt .i64)], [0, 5, 6], []⟩), (10, ⟨[(5, .sl), (6, .nt .i64)], [0], []⟩), (5, ⟨[(4, .nt .i64)], [0, 3], []⟩), (2, ⟨[(3, .nt .i64)], [0], []⟩)], [], [(25, ⟨[(109, .bl)], [0, 5, 9, 10, 11], []⟩)], [], []⟩
theorem q61_eq (Z : List PanicEntry → Heap → Prop) (p0 : Sl) (h0 : Heap) (Q : Cur (flat [.one (.bl)]) (Heap → Prop)) : q61 Z p0 h0 Q = (WPF P Z Tryz.f61 pl61 [.one (.sl)] h0 Q) p0 := by kernel_rfl

/- codicil/codicilref00.ownParts -/
def q62 (Z : List PanicEntry → Heap → Prop) (p0 : Sl) (h0 : Heap) (Q : Cur (flat [.one (.bl)]) (Heap → Prop)) : Prop :=
 LOOP [.nt .i64] (fun x3 h2 nx1 =>
 COND (decide (x3 < (p0.len : Int))) (LOOP [.nt .i64] (fun x4 h4 nx3 =>
 IXA 1 p0.a p0.len x3 fun a22 =>
 LD (.sl) a22 (EQ h4) fun v23 =>
 COND (decide (x4 < (v23.len : Int))) (DRAW h4 [] fun S5 =>
 IXA 1 p0.a p0.len x3 fun a30 =>
 LD (.sl) a30 S5 fun v31 =>
 CALL P (fun _ _ => False) 114 [.int .i64 x3, .int .i64 x4] [.one (.tx)] h4 [] fun v35 h6 =>
 SS S5 h6 (
 IXA 2 v31.a v31.len x4 fun a37 =>
 STN a37 [.string v35, .bool false] 0 h6 [] fun h7 =>
 nx3 (IntKind.wrap .i64 (x4 + 1)) h7))
 (nx1 (IntKind.wrap .i64 (x3 + 1)) h4)) 0 h2)
 (LOOP [.sl, .nt .i64] (fun x5 x6 h9 nx8 =>
 COND (decide (x6 < (p0.len : Int))) (IXA 1 p0.a p0.len x6 fun a46 =>
 LD (.sl) a46 (EQ h9) fun v47 =>
 LOOP [.sl, .nt .i64] (fun x7 x8 h11 nx10 =>
 COND (decide (x8 < 16)) (CALL P Z 114 [.int .i64 (IntKind.wrap .i64 ((-1) - x6)), .int .i64 x8] [.one (.tx)] h11 [] fun v56 h12 =>
 ALLOC [.string v56, .bool false] 176 h12 fun b58 h13 =>
 APPEND 2 24 176 [.string ByteArray.empty, .bool false] x7.a x7.len x7.cap (some ⟨b58, 0, none⟩) 1 h13 [] fun v59 h14 =>
 nx10 v59 (IntKind.wrap .i64 (x8 + 1)) h14)
 (ALLOC [x7.v] 174 h11 fun b62 h15 =>
 APPEND 1 24 174 [.slice none 0 0] x5.a x5.len x5.cap (some ⟨b62, 0, none⟩) 1 h15 [] fun v63 h16 =>
 nx8 v63 (IntKind.wrap .i64 (x6 + 1)) h16)) v47 0 h9)
 (LOOP [.nt .i64] (fun x9 h18 nx17 =>
 COND (decide (x9 < (p0.len : Int))) (IXA 1 p0.a p0.len x9 fun a72 =>
 LD (.sl) a72 (EQ h18) fun v73 =>
 LOOP [.nt .i64] (fun x11 h20 nx19 =>
 COND (decide (x11 < (v73.len : Int))) (JOIN [.bl] (fun k21 => DRAW h20 [] fun S23 =>
 IXA 1 p0.a p0.len x9 fun a82 =>
 LD (.sl) a82 S23 fun v83 =>
 IXA 2 v83.a v83.len x11 fun a85 =>
 LDN [.tx, .bl] a85 0 S23 fun v86_0 v86_1 =>
 CALL P (fun _ _ => False) 114 [.int .i64 x9, .int .i64 x11] [.one (.tx)] h20 [] fun v89 h24 =>
 SS S23 h24 (
 False))
 fun x105 h22 =>
 COND x105 (Q false h22)
 (nx19 (IntKind.wrap .i64 (x11 + 1)) h22))
 (LOOP [.nt .i64] (fun x12 h26 nx25 =>
 COND (decide (x12 < 16)) (DRAW h26 [] fun S27 =>
 IXA 1 x5.a x5.len x9 fun a112 =>
 LD (.sl) a112 S27 fun v113 =>
 IXA 2 v113.a v113.len (IntKind.wrap .i64 ((v73.len : Int) + x12)) fun a117 =>
 LDN [.tx, .bl] a117 0 S27 fun v118_0 v118_1 =>
 CALL P (fun _ _ => False) 114 [.int .i64 (IntKind.wrap .i64 ((-1) - x9)), .int .i64 x12] [.one (.tx)] h26 [] fun v122 h28 =>
 SS S27 h28 (
 False))
 (nx17 (IntKind.wrap .i64 (x9 + 1)) h26)) 0 h20)) 0 h18)
 (Q true h18)) 0 h9)) ⟨none, 0, 0⟩ 0 h2)) 0 h0
def pl62 : Plan := ⟨[], [(28, ⟨[(12, .nt .i64)], [0, 5, 9, 10], []⟩), (23, ⟨[(11, .nt .i64)], [0, 5, 9, 10], []⟩), (19, ⟨[(9, .nt .i64)], [0, 5], []⟩), (14, ⟨[(7, .sl), (8, .nt .i64)], [0, 5, 6], []⟩), (10, ⟨[(5, .sl), (6, .nt .i64)], [0], []⟩), (5, ⟨[(4, .nt .i64)], [0, 3], []⟩), (2, ⟨[(3, .nt .i64)], [0], []⟩)], [], [(25, ⟨[(105, .bl)], [0, 5, 9, 10, 11], []⟩)], [(30, false, [0, 1, 2, 3, 4, 5, 6, 7, 8, 9, 10, 11, 12, 13, 14]), (25, false, [0, 1, 2, 3, 4, 5, 6, 7, 8, 9, 10, 11, 12, 13, 14, 15, 16, 17, 18, 19, 20, 21, 22, 23, 24, 25]), (7, false, [0, 1, 2, 3, 4, 5, 6, 7, 8, 9, 10])], []⟩
theorem q62_eq (Z : List PanicEntry → Heap → Prop) (p0 : Sl) (h0 : Heap) (Q : Cur (flat [.one (.bl)]) (Heap → Prop)) : q62 Z p0 h0 Q = (WPF P Z Tryz.f62 pl62 [.one (.sl)] h0 Q) p0 := by kernel_rfl

/- codicil/codicilref00.ownDones -/
def q63 (Z : List PanicEntry → Heap → Prop) (p0 : Sl) (h0 : Heap) (Q : Cur (flat [.one (.bl)]) (Heap → Prop)) : Prop :=
 LOOP [.nt .i64] (fun x3 h2 nx1 =>
 COND (decide (x3 < (p0.len : Int))) (LOOP [.nt .i64] (fun x4 h4 nx3 =>
 IXA 1 p0.a p0.len x3 fun a22 =>
 LD (.sl) a22 (EQ h4) fun v23 =>
 COND (decide (x4 < (v23.len : Int))) (IXA 1 p0.a p0.len x3 fun a30 =>
 LD (.sl) a30 (EQ h4) fun v31 =>
 IXA 3 v31.a v31.len x4 fun a38 =>
 STN a38 [.int .i64 (IntKind.wrap .i64 ((IntKind.wrap .i64 (x3 * 1000)) + x4)), .int .u64 0, .int .u16 0] 0 h4 [] fun h5 =>
 nx3 (IntKind.wrap .i64 (x4 + 1)) h5)
 (nx1 (IntKind.wrap .i64 (x3 + 1)) h4)) 0 h2)
 (LOOP [.sl, .nt .i64] (fun x5 x6 h7 nx6 =>
 COND (decide (x6 < (p0.len : Int))) (IXA 1 p0.a p0.len x6 fun a47 =>
 LD (.sl) a47 (EQ h7) fun v48 =>
 LOOP [.sl, .nt .i64] (fun x7 x8 h9 nx8 =>
 COND (decide (x8 < 16)) (ALLOC [.int .i64 (IntKind.wrap .i64 ((IntKind.wrap .i64 ((IntKind.wrap .i64 ((-1) - x6)) * 1000)) + x8)), .int .u64 0, .int .u16 0] 179 h9 fun b60 h10 =>
 APPEND 3 24 179 [.int .i64 0, .int .u64 0, .int .u16 0] x7.a x7.len x7.cap (some ⟨b60, 0, none⟩) 1 h10 [] fun v61 h11 =>
 nx8 v61 (IntKind.wrap .i64 (x8 + 1)) h11)
 (ALLOC [x7.v] 177 h9 fun b64 h12 =>
 APPEND 1 24 177 [.slice none 0 0] x5.a x5.len x5.cap (some ⟨b64, 0, none⟩) 1 h12 [] fun v65 h13 =>
 nx6 v65 (IntKind.wrap .i64 (x6 + 1)) h13)) v48 0 h7)
 (LOOP [.nt .i64] (fun x9 h15 nx14 =>
 COND (decide (x9 < (p0.len : Int))) (IXA 1 p0.a p0.len x9 fun a74 =>
 LD (.sl) a74 (EQ h15) fun v75 =>
 LOOP [.nt .i64] (fun x11 h17 nx16 =>
 COND (decide (x11 < (v75.len : Int))) (JOIN [.bl] (fun k18 => IXA 1 p0.a p0.len x9 fun a84 =>
 LD (.sl) a84 (EQ h17) fun v85 =>
 IXA 3 v85.a v85.len x11 fun a87 =>
 LDN [.nt .i64, .nt .u64, .nt .u16] a87 0 (EQ h17) fun v88_0 v88_1 v88_2 =>
 False)
 fun x109 h19 =>
 COND x109 (Q false h19)
 (nx16 (IntKind.wrap .i64 (x11 + 1)) h19))
 (LOOP [.nt .i64] (fun x12 h21 nx20 =>
 COND (decide (x12 < 16)) (IXA 1 x5.a x5.len x9 fun a116 =>
 LD (.sl) a116 (EQ h21) fun v117 =>
 IXA 3 v117.a v117.len (IntKind.wrap .i64 ((v75.len : Int) + x12)) fun a121 =>
 LDN [.nt .i64, .nt .u64, .nt .u16] a121 0 (EQ h21) fun v122_0 v122_1 v122_2 =>
 False)
 (nx14 (IntKind.wrap .i64 (x9 + 1)) h21)) 0 h17)) 0 h15)
 (Q true h15)) 0 h7)) ⟨none, 0, 0⟩ 0 h2)) 0 h0
def pl63 : Plan := ⟨[], [(28, ⟨[(12, .nt .i64)], [0, 5, 9, 10], []⟩), (23, ⟨[(11, .nt .i64)], [0, 5, 9, 10], []⟩), (19, ⟨[(9, .nt .i64)], [0, 5], []⟩), (14, ⟨[(7, .sl), (8, .nt .i64)], [0, 5, 6], []⟩), (10, ⟨[(5, .sl), (6, .nt .i64)], [0], []⟩), (5, ⟨[(4, .nt .i64)], [0, 3], []⟩), (2, ⟨[(3, .nt .i64)], [0], []⟩)], [], [(25, ⟨[(109, .bl)], [0, 5, 9, 10, 11], []⟩)], [], []⟩
theorem q63_eq (Z : List PanicEntry → Heap → Prop) (p0 : Sl) (h0 : Heap) (Q : Cur (flat [.one (.bl)]) (Heap → Prop)) : q63 Z p0 h0 Q = (WPF P Z Tryz.f63 pl63 [.one (.sl)] h0 Q) p0 := by kernel_rfl

/- codicil/codicilref00.ownRows -/
def q64 (Z : List PanicEntry → Heap → Prop) (p0 : Sl) (h0 : Heap) (Q : Cur (flat [.one (.bl)]) (Heap → Prop)) : Prop :=
 LOOP [.nt .i64] (fun x3 h2 nx1 =>
 COND (decide (x3 < (p0.len : Int))) (LOOP [.nt .i64] (fun x4 h4 nx3 =>
 IXA 1 p0.a p0.len x3 fun a22 =>
 LD (.sl) a22 (EQ h4) fun v23 =>
 COND (decide (x4 < (v23.len : Int))) (IXA 1 p0.a p0.len x3 fun a30 =>
 LD (.sl) a30 (EQ h4) fun v31 =>
 ALLOC [.int .u8 (IntKind.wrap .u8 ((IntKind.wrap .i64 ((IntKind.wrap .i64 (x3 * 97)) + (IntKind.wrap .i64 (x4 * 13))))))] 5 h4 fun b39 h5 =>
 IXA 1 v31.a v31.len x4 fun a40 =>
 STN a40 [.slice (some ⟨b39, 0, none⟩) 1 1] 0 h5 [] fun h6 =>
 nx3 (IntKind.wrap .i64 (x4 + 1)) h6)
 (nx1 (IntKind.wrap .i64 (x3 + 1)) h4)) 0 h2)
 (LOOP [.sl, .nt .i64] (fun x5 x6 h8 nx7 =>
 COND (decide (x6 < (p0.len : Int))) (IXA 1 p0.a p0.len x6 fun a49 =>
 LD (.sl) a49 (EQ h8) fun v50 =>
 LOOP [.sl, .nt .i64] (fun x7 x8 h10 nx9 =>
 COND (decide (x8 < 8)) (ALLOC [.int .u8 (IntKind.wrap .u8 ((IntKind.wrap .i64 ((IntKind.wrap .i64 ((IntKind.wrap .i64 ((-1) - x6)) * 97)) + (IntKind.wrap .i64 (x8 * 13))))))] 5 h10 fun b63 h11 =>
 ALLOC [.slice (some ⟨b63, 0, none⟩) 1 1] 23 h11 fun b64 h12 =>
 APPEND 1 24 23 [.slice none 0 0] x7.a x7.len x7.cap (some ⟨b64, 0, none⟩) 1 h12 [] fun v65 h13 =>
 nx9 v65 (IntKind.wrap .i64 (x8 + 1)) h13)
 (ALLOC [x7.v] 48 h10 fun b68 h14 =>
 APPEND 1 24 48 [.slice none 0 0] x5.a x5.len x5.cap (some ⟨b68, 0, none⟩) 1 h14 [] fun v69 h15 =>
 nx7 v69 (IntKind.wrap .i64 (x6 + 1)) h15)) v50 0 h8)
 (LOOP [.nt .i64] (fun x9 h17 nx16 =>
 COND (decide (x9 < (p0.len : Int))) (IXA 1 p0.a p0.len x9 fun a78 =>
 LD (.sl) a78 (EQ h17) fun v79 =>
 LOOP [.nt .i64] (fun x11 h19 nx18 =>
 COND (decide (x11 < (v79.len : Int))) (JOIN [.bl] (fun k20 => IXA 1 p0.a p0.len x9 fun a88 =>
 LD (.sl) a88 (EQ h19) fun v89 =>
 IXA 1 v89.a v89.len x11 fun a91 =>
 LD (.sl) a91 (EQ h19) fun v92 =>
 COND ((v92.len : Int) != 1) (k20 true h19)
 (IXA 1 x5.a x5.len x9 fun a98 =>
 LD (.sl) a98 (EQ h19) fun v99 =>
 IXA 1 v99.a v99.len x11 fun a101 =>
 LD (.sl) a101 (EQ h19) fun v102 =>
 COND ((v102.len : Int) != 1) (k20 true h19)
 (IXA 1 p0.a p0.len x9 fun a109 =>
 LD (.sl) a109 (EQ h19) fun v110 =>
 IXA 1 v110.a v110.len x11 fun a112 =>
 LD (.sl) a112 (EQ h19) fun v113 =>
 IXA 1 v113.a v113.len 0 fun a114 =>
 LD (.nt .u8) a114 (EQ h19) fun v115 =>
 COND (v115 != (IntKind.wrap .u8 ((IntKind.wrap .i64 ((IntKind.wrap .i64 (x9 * 97)) + (IntKind.wrap .i64 (x11 * 13))))))) (k20 true h19)
 (IXA 1 x5.a x5.len x9 fun a127 =>
 LD (.sl) a127 (EQ h19) fun v128 =>
 IXA 1 v128.a v128.len x11 fun a130 =>
 LD (.sl) a130 (EQ h19) fun v131 =>
 IXA 1 v131.a v131.len 0 fun a132 =>
 LD (.nt .u8) a132 (EQ h19) fun v133 =>
 k20 (v133 != (IntKind.wrap .u8 ((IntKind.wrap .i64 ((IntKind.wrap .i64 (x9 * 97)) + (IntKind.wrap .i64 (x11 * 13))))))) h19))))
 fun x141 h21 =>
 COND x141 (Q false h21)
 (nx18 (IntKind.wrap .i64 (x11 + 1)) h21))
 (LOOP [.nt .i64] (fun x12 h23 nx22 =>
 COND (decide (x12 < 8)) (JOIN [.bl] (fun k24 => IXA 1 x5.a x5.len x9 fun a148 =>
 LD (.sl) a148 (EQ h23) fun v149 =>
 IXA 1 v149.a v149.len (IntKind.wrap .i64 ((v79.len : Int) + x12)) fun a153 =>
 LD (.sl) a153 (EQ h23) fun v154 =>
 COND ((v154.len : Int) != 1) (k24 true h23)
 (IXA 1 x5.a x5.len x9 fun a160 =>
 LD (.sl) a160 (EQ h23) fun v161 =>
 IXA 1 v161.a v161.len (IntKind.wrap .i64 ((v79.len : Int) + x12)) fun a165 =>
 LD (.sl) a165 (EQ h23) fun v166 =>
 IXA 1 v166.a v166.len 0 fun a167 =>
 LD (.nt .u8) a167 (EQ h23) fun v168 =>
 k24 (v168 != (IntKind.wrap .u8 ((IntKind.wrap .i64 ((IntKind.wrap .i64 ((IntKind.wrap .i64 ((-1) - x9)) * 97)) + (IntKind.wrap .i64 (x12 * 13))))))) h23))
 fun x177 h25 =>
 COND x177 (Q false h25)
 (nx22 (IntKind.wrap .i64 (x12 + 1)) h25))
 (nx16 (IntKind.wrap .i64 (x9 + 1)) h23)) 0 h19)) 0 h17)
 (Q true h17)) 0 h8)) ⟨none, 0, 0⟩ 0 h2)) 0 h0
def pl64 : Plan := ⟨[], [(28, ⟨[(12, .nt .i64)], [0, 5, 9, 10], []⟩), (23, ⟨[(11, .nt .i64)], [0, 5, 9, 10], []⟩), (19, ⟨[(9, .nt .i64)], [0, 5], []⟩), (14, ⟨[(7, .sl), (8, .nt .i64)], [0, 5, 6], []⟩), (10, ⟨[(5, .sl), (6, .nt .i64)], [0], []⟩), (5, ⟨[(4, .nt .i64)], [0, 3], []⟩), (2, ⟨[(3, .nt .i64)], [0], []⟩)], [], [(30, ⟨[(177, .bl)], [0, 5, 9, 10, 12], []⟩), (25, ⟨[(141, .bl)], [0, 5, 9, 10, 11], []⟩)], [], []⟩
theorem q64_eq (Z : List PanicEntry → Heap → Prop) (p0 : Sl) (h0 : Heap) (Q : Cur (flat [.one (.bl)]) (Heap → Prop)) : q64 Z p0 h0 Q = (WPF P Z Tryz.f64 pl64 [.one (.sl)] h0 Q) p0 := by kernel_rfl

/- codicil/codicilref00.ownLists -/
def q65 (Z : List PanicEntry → Heap → Prop) (p0 : Sl) (h0 : Heap) (Q : Cur (flat [.one (.bl)]) (Heap → Prop)) : Prop :=
 LOOP [.nt .i64] (fun x3 h2 nx1 =>
 COND (decide (x3 < (p0.len : Int))) (LOOP [.nt .i64] (fun x4 h4 nx3 =>
 IXA 1 p0.a p0.len x3 fun a22 =>
 LD (.sl) a22 (EQ h4) fun v23 =>
 COND (decide (x4 < (v23.len : Int))) (DRAW h4 [] fun S5 =>
 IXA 1 p0.a p0.len x3 fun a30 =>
 LD (.sl) a30 S5 fun v31 =>
 CALL P (fun _ _ => False) 114 [.int .i64 x3, .int .i64 x4] [.one (.tx)] h4 [] fun v35 h6 =>
 SS S5 h6 (
 ALLOC [.string v35] 9 h6 fun b36 h7 =>
 SS S5 h7 (
 IXA 1 v31.a v31.len x4 fun a37 =>
 STN a37 [.slice (some ⟨b36, 0, none⟩) 1 1] 0 h7 [] fun h8 =>
 nx3 (IntKind.wrap .i64 (x4 + 1)) h8)))
 (nx1 (IntKind.wrap .i64 (x3 + 1)) h4)) 0 h2)
 (LOOP [.sl, .nt .i64] (fun x5 x6 h10 nx9 =>
 COND (decide (x6 < (p0.len : Int))) (IXA 1 p0.a p0.len x6 fun a46 =>
 LD (.sl) a46 (EQ h10) fun v47 =>
 LOOP [.sl, .nt .i64] (fun x7 x8 h12 nx11 =>
 COND (decide (x8 < 8)) (CALL P Z 114 [.int .i64 (IntKind.wrap .i64 ((-1) - x6)), .int .i64 x8] [.one (.tx)] h12 [] fun v56 h13 =>
 ALLOC [.string v56] 9 h13 fun b57 h14 =>
 ALLOC [.slice (some ⟨b57, 0, none⟩) 1 1] 164 h14 fun b58 h15 =>
 APPEND 1 24 164 [.slice none 0 0] x7.a x7.len x7.cap (some ⟨b58, 0, none⟩) 1 h15 [] fun v59 h16 =>
 nx11 v59 (IntKind.wrap .i64 (x8 + 1)) h16)
 (ALLOC [x7.v] 49 h12 fun b62 h17 =>
 APPEND 1 24 49 [.slice none 0 0] x5.a x5.len x5.cap (some ⟨b62, 0, none⟩) 1 h17 [] fun v63 h18 =>
 nx9 v63 (IntKind.wrap .i64 (x6 + 1)) h18)) v47 0 h10)
 (LOOP [.nt .i64] (fun x9 h20 nx19 =>
 COND (decide (x9 < (p0.len : Int))) (IXA 1 p0.a p0.len x9 fun a72 =>
 LD (.sl) a72 (EQ h20) fun v73 =>
 LOOP [.nt .i64] (fun x11 h22 nx21 =>
 COND (decide (x11 < (v73.len : Int))) (JOIN [.bl] (fun k23 => DRAW h22 [] fun S25 =>
 IXA 1 p0.a p0.len x9 fun a82 =>
 LD (.sl) a82 S25 fun v83 =>
 IXA 1 v83.a v83.len x11 fun a85 =>
 LD (.sl) a85 S25 fun v86 =>
 COND ((v86.len : Int) != 1) (SS S25 h22 (
 SS S25 h22 (
 k23 true h22)))
 (IXA 1 x5.a x5.len x9 fun a92 =>
 LD (.sl) a92 S25 fun v93 =>
 IXA 1 v93.a v93.len x11 fun a95 =>
 LD (.sl) a95 S25 fun v96 =>
 COND ((v96.len : Int) != 1) (SS S25 h22 (
 SS S25 h22 (
 k23 true h22)))
 (IXA 1 p0.a p0.len x9 fun a103 =>
 LD (.sl) a103 S25 fun v104 =>
 IXA 1 v104.a v104.len x11 fun a106 =>
 LD (.sl) a106 S25 fun v107 =>
 IXA 1 v107.a v107.len 0 fun a108 =>
 LD (.tx) a108 S25 fun v109 =>
 CALL P (fun _ _ => False) 114 [.int .i64 x9, .int .i64 x11] [.one (.tx)] h22 [] fun v112 h26 =>
 SS S25 h26 (
 COND (!(v109.toList == v112.toList)) (SS S25 h26 (
 k23 true h26))
 (IXA 1 x5.a x5.len x9 fun a118 =>
 LD (.sl) a118 S25 fun v119 =>
 IXA 1 v119.a v119.len x11 fun a121 =>
 LD (.sl) a121 S25 fun v122 =>
 IXA 1 v122.a v122.len 0 fun a123 =>
 LD (.tx) a123 S25 fun v124 =>
 CALL P (fun _ _ => False) 114 [.int .i64 x9, .int .i64 x11] [.one (.tx)] h26 [] fun v127 h27 =>
 SS S25 h27 (
 k23 (!(v124.toList == v127.toList)) h27))))))
 fun x129 h24 =>
 COND x129 (Q false h24)
 (nx21 (IntKind.wrap .i64 (x11 + 1)) h24))
 (LOOP [.nt .i64] (fun x12 h29 nx28 =>
 COND (decide (x12 < 8)) (JOIN [.bl] (fun k30 => DRAW h29 [] fun S32 =>
 IXA 1 x5.a x5.len x9 fun a136 =>
 LD (.sl) a136 S32 fun v137 =>
 IXA 1 v137.a v137.len (IntKind.wrap .i64 ((v73.len : Int) + x12)) fun a141 =>
 LD (.sl) a141 S32 fun v142 =>
 COND ((v142.len : Int) != 1) (SS S32 h29 (
 k30 true h29))
 (IXA 1 x5.a x5.len x9 fun a148 =>
 LD (.sl) a148 S32 fun v149 =>
 IXA 1 v149.a v149.len (IntKind.wrap .i64 ((v73.len : Int) + x12)) fun a153 =>
 LD (.sl) a153 S32 fun v154 =>
 IXA 1 v154.a v154.len 0 fun a155 =>
 LD (.tx) a155 S32 fun v156 =>
 CALL P (fun _ _ => False) 114 [.int .i64 (IntKind.wrap .i64 ((-1) - x9)), .int .i64 x12] [.one (.tx)] h29 [] fun v160 h33 =>
 SS S32 h33 (
 k30 (!(v156.toList == v160.toList)) h33)))
 fun x162 h31 =>
 COND x162 (Q false h31)
 (nx28 (IntKind.wrap .i64 (x12 + 1)) h31))
 (nx19 (IntKind.wrap .i64 (x9 + 1)) h29)) 0 h22)) 0 h20)
 (Q true h20)) 0 h10)) ⟨none, 0, 0⟩ 0 h2)) 0 h0
def pl65 : Plan := ⟨[], [(28, ⟨[(12, .nt .i64)], [0, 5, 9, 10], []⟩), (23, ⟨[(11, .nt .i64)], [0, 5, 9, 10], []⟩), (19, ⟨[(9, .nt .i64)], [0, 5], []⟩), (14, ⟨[(7, .sl), (8, .nt .i64)], [0, 5, 6], []⟩), (10, ⟨[(5, .sl), (6, .nt .i64)], [0], []⟩), (5, ⟨[(4, .nt .i64)], [0, 3], []⟩), (2, ⟨[(3, .nt .i64)], [0], []⟩)], [], [(30, ⟨[(162, .bl)], [0, 5, 9, 10, 12], []⟩), (25, ⟨[(129, .bl)], [0, 5, 9, 10, 11], []⟩)], [(30, false, [0, 1, 2, 3, 4, 5, 6, 7, 8, 9, 10, 11, 12, 13, 14, 15, 16, 17, 18, 19, 20, 21, 22, 23, 24, 25, 26, 27, 28]), (25, false, [0, 1, 2, 3, 4, 5, 6, 7, 8, 9, 10, 11, 12, 13, 14, 15, 16, 17, 18, 19, 20, 21, 22, 23, 24, 25, 26, 27, 28, 29, 30, 31, 32, 33, 34, 35, 36, 37, 38, 39, 40, 41, 42, 43, 44, 45, 46, 47, 48, 49]), (7, false, [0, 1, 2, 3, 4, 5, 6, 7, 8, 9, 10])], []⟩
theorem q65_eq (Z : List PanicEntry → Heap → Prop) (p0 : Sl) (h0 : Heap) (Q : Cur (flat [.one (.bl)]) (Heap → Prop)) : q65 Z p0 h0 Q = (WPF P Z Tryz.f65 pl65 [.one (.sl)] h0 Q) p0 := by kernel_rfl

/- codicil/codicilref00.ownIntLists -/
def q66 (Z : List PanicEntry → Heap → Prop) (p0 : Sl) (h0 : Heap) (Q : Cur (flat [.one (.bl)]) (Heap → Prop)) : Prop :=
 LOOP [.nt .i64] (fun x3 h2 nx1 =>
 COND (decide (x3 < (p0.len : Int))) (LOOP [.nt .i64] (fun x4 h4 nx3 =>
 IXA 1 p0.a p0.len x3 fun a22 =>
 LD (.sl) a22 (EQ h4) fun v23 =>
 COND (decide (x4 < (v23.len : Int))) (IXA 1 p0.a p0.len x3 fun a30 =>
 LD (.sl) a30 (EQ h4) fun v31 =>
 ALLOC [.int .i64 (IntKind.wrap .i64 ((IntKind.wrap .i64 (x3 * 1000)) + x4))] 3 h4 fun b37 h5 =>
 IXA 1 v31.a v31.len x4 fun a38 =>
 STN a38 [.slice (some ⟨b37, 0, none⟩) 1 1] 0 h5 [] fun h6 =>
 nx3 (IntKind.wrap .i64 (x4 + 1)) h6)
 (nx1 (IntKind.wrap .i64 (x3 + 1)) h4)) 0 h2)
 (LOOP [.sl, .nt .i64] (fun x5 x6 h8 nx7 =>
 COND (decide (x6 < (p0.len : Int))) (IXA 1 p0.a p0.len x6 fun a47 =>
 LD (.sl) a47 (EQ h8) fun v48 =>
 LOOP [.sl, .nt .i64] (fun x7 x8 h10 nx9 =>
 COND (decide (x8 < 8)) (ALLOC [.int .i64 (IntKind.wrap .i64 ((IntKind.wrap .i64 ((IntKind.wrap .i64 ((-1) - x6)) * 1000)) + x8))] 3 h10 fun b59 h11 =>
 ALLOC [.slice (some ⟨b59, 0, none⟩) 1 1] 166 h11 fun b60 h12 =>
 APPEND 1 24 166 [.slice none 0 0] x7.a x7.len x7.cap (some ⟨b60, 0, none⟩) 1 h12 [] fun v61 h13 =>
 nx9 v61 (IntKind.wrap .i64 (x8 + 1)) h13)
 (ALLOC [x7.v] 50 h10 fun b64 h14 =>
 APPEND 1 24 50 [.slice none 0 0] x5.a x5.len x5.cap (some ⟨b64, 0, none⟩) 1 h14 [] fun v65 h15 =>
 nx7 v65 (IntKind.wrap .i64 (x6 + 1)) h15)) v48 0 h8)
 (LOOP [.nt .i64] (fun x9 h17 nx16 =>
 COND (decide (x9 < (p0.len : Int))) (IXA 1 p0.a p0.len x9 fun a74 =>
 LD (.sl) a74 (EQ h17) fun v75 =>
 LOOP [.nt .i64] (fun x11 h19 nx18 =>
 COND (decide (x11 < (v75.len : Int))) (JOIN [.bl] (fun k20 => IXA 1 p0.a p0.len x9 fun a84 =>
 LD (.sl) a84 (EQ h19) fun v85 =>
 IXA 1 v85.a v85.len x11 fun a87 =>
 LD (.sl) a87 (EQ h19) fun v88 =>
 COND ((v88.len : Int) != 1) (k20 true h19)
 (IXA 1 x5.a x5.len x9 fun a94 =>
 LD (.sl) a94 (EQ h19) fun v95 =>
 IXA 1 v95.a v95.len x11 fun a97 =>
 LD (.sl) a97 (EQ h19) fun v98 =>
 COND ((v98.len : Int) != 1) (k20 true h19)
 (IXA 1 p0.a p0.len x9 fun a105 =>
 LD (.sl) a105 (EQ h19) fun v106 =>
 IXA 1 v106.a v106.len x11 fun a108 =>
 LD (.sl) a108 (EQ h19) fun v109 =>
 IXA 1 v109.a v109.len 0 fun a110 =>
 LD (.nt .i64) a110 (EQ h19) fun v111 =>
 COND (v111 != (IntKind.wrap .i64 ((IntKind.wrap .i64 (x9 * 1000)) + x11))) (k20 true h19)
 (IXA 1 x5.a x5.len x9 fun a121 =>
 LD (.sl) a121 (EQ h19) fun v122 =>
 IXA 1 v122.a v122.len x11 fun a124 =>
 LD (.sl) a124 (EQ h19) fun v125 =>
 IXA 1 v125.a v125.len 0 fun a126 =>
 LD (.nt .i64) a126 (EQ h19) fun v127 =>
 k20 (v127 != (IntKind.wrap .i64 ((IntKind.wrap .i64 (x9 * 1000)) + x11))) h19))))
 fun x133 h21 =>
 COND x133 (Q false h21)
 (nx18 (IntKind.wrap .i64 (x11 + 1)) h21))
 (LOOP [.nt .i64] (fun x12 h23 nx22 =>
 COND (decide (x12 < 8)) (JOIN [.bl] (fun k24 => IXA 1 x5.a x5.len x9 fun a140 =>
 LD (.sl) a140 (EQ h23) fun v141 =>
 IXA 1 v141.a v141.len (IntKind.wrap .i64 ((v75.len : Int) + x12)) fun a145 =>
 LD (.sl) a145 (EQ h23) fun v146 =>
 COND ((v146.len : Int) != 1) (k24 true h23)
 (IXA 1 x5.a x5.len x9 fun a152 =>
 LD (.sl) a152 (EQ h23) fun v153 =>
 IXA 1 v153.a v153.len (IntKind.wrap .i64 ((v75.len : Int) + x12)) fun a157 =>
 LD (.sl) a157 (EQ h23) fun v158 =>
 IXA 1 v158.a v158.len 0 fun a159 =>
 LD (.nt .i64) a159 (EQ h23) fun v160 =>
 k24 (v160 != (IntKind.wrap .i64 ((IntKind.wrap .i64 ((IntKind.wrap .i64 ((-1) - x9)) * 1000)) + x12))) h23))
 fun x167 h25 =>
 COND x167 (Q false h25)
 (nx22 (IntKind.wrap .i64 (x12 + 1)) h25))
 (nx16 (IntKind.wrap .i64 (x9 + 1)) h23)) 0 h19)) 0 h17)
 (Q true h17)) 0 h8)) ⟨none, 0, 0⟩ 0 h2)) 0 h0
def pl66 : Plan := ⟨[], [(28, ⟨[(12, .nt .i64)], [0, 5, 9, 10], []⟩), (23, ⟨[(11, .nt .i64)], [0, 5, 9, 10], []⟩), (19, ⟨[(9, .nt .i64)], [0, 5], []⟩), (14, ⟨[(7, .sl), (8, .nt .i64)], [0, 5, 6], []⟩), (10, ⟨[(5, .sl), (6, .nt .i64)], [0], []⟩), (5, ⟨[(4, .nt .i64)], [0, 3], []⟩), (2, ⟨[(3, .nt .i64)], [0], []⟩)], [], [(30, ⟨[(167, .bl)], [0, 5, 9, 10, 12], []⟩), (25, ⟨[(133, .bl)], [0, 5, 9, 10, 11], []⟩)], [], []⟩
theorem q66_eq (Z : List PanicEntry → Heap → Prop) (p0 : Sl) (h0 : Heap) (Q : Cur (flat [.one (.bl)]) (Heap → Prop)) : q66 Z p0 h0 Q = (WPF P Z Tryz.f66 pl66 [.one (.sl)] h0 Q) p0 := by kernel_rfl

/- codicil/codicilref00.ownPaths -/
def q67 (Z : List PanicEntry → Heap → Prop) (p0 : Sl) (h0 : Heap) (Q : Cur (flat [.one (.bl)]) (Heap → Prop)) : Prop :=
 LOOP [.nt .i64] (fun x3 h2 nx1 =>
 COND (decide (x3 < (p0.len : Int))) (LOOP [.nt .i64] (fun x4 h4 nx3 =>
 IXA 1 p0.a p0.len x3 fun a22 =>
 LD (.sl) a22 (EQ h4) fun v23 =>
 COND (decide (x4 < (v23.len : Int))) (IXA 1 p0.a p0.len x3 fun a30 =>
 LD (.sl) a30 (EQ h4) fun v31 =>
 ALLOC [.string ByteArray.empty, .int .i64 (IntKind.wrap .i64 ((IntKind.wrap .i64 (x3 * 1000)) + x4))] 173 h4 fun b38 h5 =>
 IXA 1 v31.a v31.len x4 fun a39 =>
 STN a39 [.slice (some ⟨b38, 0, none⟩) 1 1] 0 h5 [] fun h6 =>
 nx3 (IntKind.wrap .i64 (x4 + 1)) h6)
 (nx1 (IntKind.wrap .i64 (x3 + 1)) h4)) 0 h2)
 (LOOP [.sl, .nt .i64] (fun x5 x6 h8 nx7 =>
 COND (decide (x6 < (p0.len : Int))) (IXA 1 p0.a p0.len x6 fun a48 =>
 LD (.sl) a48 (EQ h8) fun v49 =>
 LOOP [.sl, .nt .i64] (fun x7 x8 h10 nx9 =>
 COND (decide (x8 < 8)) (ALLOC [.string ByteArray.empty, .int .i64 (IntKind.wrap .i64 ((IntKind.wrap .i64 ((IntKind.wrap .i64 ((-1) - x6)) * 1000)) + x8))] 173 h10 fun b61 h11 =>
 ALLOC [.slice (some ⟨b61, 0, none⟩) 1 1] 171 h11 fun b62 h12 =>
 APPEND 1 24 171 [.slice none 0 0] x7.a x7.len x7.cap (some ⟨b62, 0, none⟩) 1 h12 [] fun v63 h13 =>
 nx9 v63 (IntKind.wrap .i64 (x8 + 1)) h13)
 (ALLOC [x7.v] 54 h10 fun b66 h14 =>
 APPEND 1 24 54 [.slice none 0 0] x5.a x5.len x5.cap (some ⟨b66, 0, none⟩) 1 h14 [] fun v67 h15 =>
 nx7 v67 (IntKind.wrap .i64 (x6 + 1)) h15)) v49 0 h8)
 (LOOP [.nt .i64] (fun x9 h17 nx16 =>
 COND (decide (x9 < (p0.len : Int))) (IXA 1 p0.a p0.len x9 fun a76 =>
 LD (.sl) a76 (EQ h17) fun v77 =>
 LOOP [.nt .i64] (fun x11 h19 nx18 =>
 COND (decide (x11 < (v77.len : Int))) (JOIN [.bl] (fun k20 => IXA 1 p0.a p0.len x9 fun a86 =>
 LD (.sl) a86 (EQ h19) fun v87 =>
 IXA 1 v87.a v87.len x11 fun a89 =>
 LD (.sl) a89 (EQ h19) fun v90 =>
 COND ((v90.len : Int) != 1) (k20 true h19)
 (IXA 1 x5.a x5.len x9 fun a96 =>
 LD (.sl) a96 (EQ h19) fun v97 =>
 IXA 1 v97.a v97.len x11 fun a99 =>
 LD (.sl) a99 (EQ h19) fun v100 =>
 COND ((v100.len : Int) != 1) (k20 true h19)
 (IXA 1 p0.a p0.len x9 fun a107 =>
 LD (.sl) a107 (EQ h19) fun v108 =>
 IXA 1 v108.a v108.len x11 fun a110 =>
 LD (.sl) a110 (EQ h19) fun v111 =>
 IXA 2 v111.a v111.len 0 fun a112 =>
 LDN [.tx, .nt .i64] a112 0 (EQ h19) fun v113_0 v113_1 =>
 False)))
 fun x137 h21 =>
 COND x137 (Q false h21)
 (nx18 (IntKind.wrap .i64 (x11 + 1)) h21))
 (LOOP [.nt .i64] (fun x12 h23 nx22 =>
 COND (decide (x12 < 8)) (JOIN [.bl] (fun k24 => IXA 1 x5.a x5.len x9 fun a144 =>
 LD (.sl) a144 (EQ h23) fun v145 =>
 IXA 1 v145.a v145.len (IntKind.wrap .i64 ((v77.len : Int) + x12)) fun a149 =>
 LD (.sl) a149 (EQ h23) fun v150 =>
 COND ((v150.len : Int) != 1) (k24 true h23)
 (IXA 1 x5.a x5.len x9 fun a156 =>
 LD (.sl) a156 (EQ h23) fun v157 =>
 IXA 1 v157.a v157.len (IntKind.wrap .i64 ((v77.len : Int) + x12)) fun a161 =>
 LD (.sl) a161 (EQ h23) fun v162 =>
 IXA 2 v162.a v162.len 0 fun a163 =>
 LDN [.tx, .nt .i64] a163 0 (EQ h23) fun v164_0 v164_1 =>
 False))
 fun x172 h25 =>
 COND x172 (Q false h25)
 (nx22 (IntKind.wrap .i64 (x12 + 1)) h25))
 (nx16 (IntKind.wrap .i64 (x9 + 1)) h23)) 0 h19)) 0 h17)
 (Q true h17)) 0 h8)) ⟨none, 0, 0⟩ 0 h2)) 0 h0
def pl67 : Plan := ⟨[], [(28, ⟨[(12, .nt .i64)], [0, 5, 9, 10], []⟩), (23, ⟨[(11, .nt .i64)], [0, 5, 9, 10], []⟩), (19, ⟨[(9, .nt .i64)], [0, 5], []⟩), (14, ⟨[(7, .sl), (8, .nt .i64)], [0, 5, 6], []⟩), (10, ⟨[(5, .sl), (6, .nt .i64)], [0], []⟩), (5, ⟨[(4, .nt .i64)], [0, 3], []⟩), (2, ⟨[(3, .nt .i64)], [0], []⟩)], [], [(30, ⟨[(172, .bl)], [0, 5, 9, 10, 12], []⟩), (25, ⟨[(137, .bl)], [0, 5, 9, 10, 11], []⟩)], [], []⟩
theorem q67_eq (Z : List PanicEntry → Heap → Prop) (p0 : Sl) (h0 : Heap) (Q : Cur (flat [.one (.bl)]) (Heap → Prop)) : q67 Z p0 h0 Q = (WPF P Z Tryz.f67 pl67 [.one (.sl)] h0 Q) p0 := by kernel_rfl

/- codicil/codicilref00.ownPairs -/
def q68 (Z : List PanicEntry → Heap → Prop) (p0 : Sl) (h0 : Heap) (Q : Cur (flat [.one (.bl)]) (Heap → Prop)) : Prop :=
 LOOP [.nt .i64] (fun x3 h2 nx1 =>
 COND (decide (x3 < (p0.len : Int))) (LOOP [.nt .i64] (fun x4 h4 nx3 =>
 IXA 1 p0.a p0.len x3 fun a22 =>
 LD (.sl) a22 (EQ h4) fun v23 =>
 COND (decide (x4 < (v23.len : Int))) (IXA 1 p0.a p0.len x3 fun a30 =>
 LD (.sl) a30 (EQ h4) fun v31 =>
 ALLOC [.int .u8 (IntKind.wrap .u8 ((IntKind.wrap .i64 ((IntKind.wrap .i64 (x3 * 97)) + (IntKind.wrap .i64 (x4 * 13))))))] 5 h4 fun b39 h5 =>
 IXA 2 v31.a v31.len x4 fun a41 =>
 STN a41 [.slice (some ⟨b39, 0, none⟩) 1 1, .slice none 0 0] 0 h5 [] fun h6 =>
 nx3 (IntKind.wrap .i64 (x4 + 1)) h6)
 (nx1 (IntKind.wrap .i64 (x3 + 1)) h4)) 0 h2)
 (LOOP [.sl, .nt .i64] (fun x5 x6 h8 nx7 =>
 COND (decide (x6 < (p0.len : Int))) (IXA 1 p0.a p0.len x6 fun a50 =>
 LD (.sl) a50 (EQ h8) fun v51 =>
 LOOP [.sl, .nt .i64] (fun x7 x8 h10 nx9 =>
 COND (decide (x8 < 8)) (ALLOC [.int .u8 (IntKind.wrap .u8 ((IntKind.wrap .i64 ((IntKind.wrap .i64 ((IntKind.wrap .i64 ((-1) - x6)) * 97)) + (IntKind.wrap .i64 (x8 * 13))))))] 5 h10 fun b64 h11 =>
 ALLOC [.slice (some ⟨b64, 0, none⟩) 1 1, .slice none 0 0] 182 h11 fun b66 h12 =>
 APPEND 2 48 182 [.slice none 0 0, .slice none 0 0] x7.a x7.len x7.cap (some ⟨b66, 0, none⟩) 1 h12 [] fun v67 h13 =>
 nx9 v67 (IntKind.wrap .i64 (x8 + 1)) h13)
 (ALLOC [x7.v] 180 h10 fun b70 h14 =>
 APPEND 1 24 180 [.slice none 0 0] x5.a x5.len x5.cap (some ⟨b70, 0, none⟩) 1 h14 [] fun v71 h15 =>
 nx7 v71 (IntKind.wrap .i64 (x6 + 1)) h15)) v51 0 h8)
 (LOOP [.nt .i64] (fun x9 h17 nx16 =>
 COND (decide (x9 < (p0.len : Int))) (IXA 1 p0.a p0.len x9 fun a80 =>
 LD (.sl) a80 (EQ h17) fun v81 =>
 LOOP [.nt .i64] (fun x11 h19 nx18 =>
 COND (decide (x11 < (v81.len : Int))) (JOIN [.bl] (fun k20 => IXA 1 p0.a p0.len x9 fun a90 =>
 LD (.sl) a90 (EQ h19) fun v91 =>
 IXA 2 v91.a v91.len x11 fun a93 =>
 LD (.sl) (a93.add 0) (EQ h19) fun v95 =>
 COND ((v95.len : Int) != 1) (k20 true h19)
 (IXA 1 p0.a p0.len x9 fun a101 =>
 LD (.sl) a101 (EQ h19) fun v102 =>
 IXA 2 v102.a v102.len x11 fun a104 =>
 LD (.sl) (a104.add 0) (EQ h19) fun v106 =>
 IXA 1 v106.a v106.len 0 fun a107 =>
 LD (.nt .u8) a107 (EQ h19) fun v108 =>
 COND (v108 != (IntKind.wrap .u8 ((IntKind.wrap .i64 ((IntKind.wrap .i64 (x9 * 97)) + (IntKind.wrap .i64 (x11 * 13))))))) (k20 true h19)
 (IXA 1 x5.a x5.len x9 fun a120 =>
 LD (.sl) a120 (EQ h19) fun v121 =>
 IXA 2 v121.a v121.len x11 fun a123 =>
 LD (.sl) (a123.add 0) (EQ h19) fun v125 =>
 COND ((v125.len : Int) != 1) (k20 true h19)
 (IXA 1 x5.a x5.len x9 fun a132 =>
 LD (.sl) a132 (EQ h19) fun v133 =>
 IXA 2 v133.a v133.len x11 fun a135 =>
 LD (.sl) (a135.add 0) (EQ h19) fun v137 =>
 IXA 1 v137.a v137.len 0 fun a138 =>
 LD (.nt .u8) a138 (EQ h19) fun v139 =>
 k20 (v139 != (IntKind.wrap .u8 ((IntKind.wrap .i64 ((IntKind.wrap .i64 (x9 * 97)) + (IntKind.wrap .i64 (x11 * 13))))))) h19))))
 fun x147 h21 =>
 COND x147 (Q false h21)
 (nx18 (IntKind.wrap .i64 (x11 + 1)) h21))
 (LOOP [.nt .i64] (fun x12 h23 nx22 =>
 COND (decide (x12 < 8)) (JOIN [.bl] (fun k24 => IXA 1 x5.a x5.len x9 fun a154 =>
 LD (.sl) a154 (EQ h23) fun v155 =>
 IXA 2 v155.a v155.len (IntKind.wrap .i64 ((v81.len : Int) + x12)) fun a159 =>
 LD (.sl) (a159.add 0) (EQ h23) fun v161 =>
 COND ((v161.len : Int) != 1) (k24 true h23)
 (IXA 1 x5.a x5.len x9 fun a167 =>
 LD (.sl) a167 (EQ h23) fun v168 =>
 IXA 2 v168.a v168.len (IntKind.wrap .i64 ((v81.len : Int) + x12)) fun a172 =>
 LD (.sl) (a172.add 0) (EQ h23) fun v174 =>
 IXA 1 v174.a v174.len 0 fun a175 =>
 LD (.nt .u8) a175 (EQ h23) fun v176 =>
 k24 (v176 != (IntKind.wrap .u8 ((IntKind.wrap .i64 ((IntKind.wrap .i64 ((IntKind.wrap .i64 ((-1) - x9)) * 97)) + (IntKind.wrap .i64 (x12 * 13))))))) h23))
 fun x185 h25 =>
 COND x185 (Q false h25)
 (nx22 (IntKind.wrap .i64 (x12 + 1)) h25))
 (nx16 (IntKind.wrap .i64 (x9 + 1)) h23)) 0 h19)) 0 h17)
 (Q true h17)) 0 h8)) ⟨none, 0, 0⟩ 0 h2)) 0 h0
def pl68 : Plan := ⟨[], [(28, ⟨[(12, .nt .i64)], [0, 5, 9, 10], []⟩), (23, ⟨[(11, .nt .i64)], [0, 5, 9, 10], []⟩), (19, ⟨[(9, .nt .i64)], [0, 5], []⟩), (14, ⟨[(7, .sl), (8, .nt .i64)], [0, 5, 6], []⟩), (10, ⟨[(5, .sl), (6, .nt .i64)], [0], []⟩), (5, ⟨[(4, .nt .i64)], [0, 3], []⟩), (2, ⟨[(3, .nt .i64)], [0], []⟩)], [], [(30, ⟨[(185, .bl)], [0, 5, 9, 10, 12], []⟩), (25, ⟨[(147, .bl)], [0, 5, 9, 10, 11], []⟩)], [], []⟩
theorem q68_eq (Z : List PanicEntry → Heap → Prop) (p0 : Sl) (h0 : Heap) (Q : Cur (flat [.one (.bl)]) (Heap → Prop)) : q68 Z p0 h0 Q = (WPF P Z Tryz.f68 pl68 [.one (.sl)] h0 Q) p0 := by kernel_rfl

/- codicil/codicilref00.ownChanges -/
def q69 (Z : List PanicEntry → Heap → Prop) (p0 : Sl) (h0 : Heap) (Q : Cur (flat [.one (.bl)]) (Heap → Prop)) : Prop :=
 LOOP [.nt .i64] (fun x3 h2 nx1 =>
 COND (decide (x3 < (p0.len : Int))) (LOOP [.nt .i64] (fun x4 h4 nx3 =>
 IXA 1 p0.a p0.len x3 fun a22 =>
 LD (.sl) a22 (EQ h4) fun v23 =>
 COND (decide (x4 < (v23.len : Int))) (IXA 1 p0.a p0.len x3 fun a30 =>
 LD (.sl) a30 (EQ h4) fun v31 =>
 ALLOC [.int .u8 (IntKind.wrap .u8 ((IntKind.wrap .i64 ((IntKind.wrap .i64 (x3 * 97)) + (IntKind.wrap .i64 (x4 * 13))))))] 5 h4 fun b39 h5 =>
 IXA 3 v31.a v31.len x4 fun a41 =>
 STN a41 [.slice (some ⟨b39, 0, none⟩) 1 1, .slice none 0 0, .bool false] 0 h5 [] fun h6 =>
 nx3 (IntKind.wrap .i64 (x4 + 1)) h6)
 (nx1 (IntKind.wrap .i64 (x3 + 1)) h4)) 0 h2)
 (LOOP [.sl, .nt .i64] (fun x5 x6 h8 nx7 =>
 COND (decide (x6 < (p0.len : Int))) (IXA 1 p0.a p0.len x6 fun a50 =>
 LD (.sl) a50 (EQ h8) fun v51 =>
 LOOP [.sl, .nt .i64] (fun x7 x8 h10 nx9 =>
 COND (decide (x8 < 8)) (ALLOC [.int .u8 (IntKind.wrap .u8 ((IntKind.wrap .i64 ((IntKind.wrap .i64 ((IntKind.wrap .i64 ((-1) - x6)) * 97)) + (IntKind.wrap .i64 (x8 * 13))))))] 5 h10 fun b64 h11 =>
 ALLOC [.slice (some ⟨b64, 0, none⟩) 1 1, .slice none 0 0, .bool false] 185 h11 fun b66 h12 =>
 APPEND 3 56 185 [.slice none 0 0, .slice none 0 0, .bool false] x7.a x7.len x7.cap (some ⟨b66, 0, none⟩) 1 h12 [] fun v67 h13 =>
 nx9 v67 (IntKind.wrap .i64 (x8 + 1)) h13)
 (ALLOC [x7.v] 183 h10 fun b70 h14 =>
 APPEND 1 24 183 [.slice none 0 0] x5.a x5.len x5.cap (some ⟨b70, 0, none⟩) 1 h14 [] fun v71 h15 =>
 nx7 v71 (IntKind.wrap .i64 (x6 + 1)) h15)) v51 0 h8)
 (LOOP [.nt .i64] (fun x9 h17 nx16 =>
 COND (decide (x9 < (p0.len : Int))) (IXA 1 p0.a p0.len x9 fun a80 =>
 LD (.sl) a80 (EQ h17) fun v81 =>
 LOOP [.nt .i64] (fun x11 h19 nx18 =>
 COND (decide (x11 < (v81.len : Int))) (JOIN [.bl] (fun k20 => IXA 1 p0.a p0.len x9 fun a90 =>
 LD (.sl) a90 (EQ h19) fun v91 =>
 IXA 3 v91.a v91.len x11 fun a93 =>
 LD (.sl) (a93.add 0) (EQ h19) fun v95 =>
 COND ((v95.len : Int) != 1) (k20 true h19)
 (IXA 1 p0.a p0.len x9 fun a101 =>
 LD (.sl) a101 (EQ h19) fun v102 =>
 IXA 3 v102.a v102.len x11 fun a104 =>
 LD (.sl) (a104.add 0) (EQ h19) fun v106 =>
 IXA 1 v106.a v106.len 0 fun a107 =>
 LD (.nt .u8) a107 (EQ h19) fun v108 =>
 COND (v108 != (IntKind.wrap .u8 ((IntKind.wrap .i64 ((IntKind.wrap .i64 (x9 * 97)) + (IntKind.wrap .i64 (x11 * 13))))))) (k20 true h19)
 (IXA 1 x5.a x5.len x9 fun a120 =>
 LD (.sl) a120 (EQ h19) fun v121 =>
 IXA 3 v121.a v121.len x11 fun a123 =>
 LD (.sl) (a123.add 0) (EQ h19) fun v125 =>
 COND ((v125.len : Int) != 1) (k20 true h19)
 (IXA 1 x5.a x5.len x9 fun a132 =>
 LD (.sl) a132 (EQ h19) fun v133 =>
 IXA 3 v133.a v133.len x11 fun a135 =>
 LD (.sl) (a135.add 0) (EQ h19) fun v137 =>
 IXA 1 v137.a v137.len 0 fun a138 =>
 LD (.nt .u8) a138 (EQ h19) fun v139 =>
 k20 (v139 != (IntKind.wrap .u8 ((IntKind.wrap .i64 ((IntKind.wrap .i64 (x9 * 97)) + (IntKind.wrap .i64 (x11 * 13))))))) h19))))
 fun x147 h21 =>
 COND x147 (Q false h21)
 (nx18 (IntKind.wrap .i64 (x11 + 1)) h21))
 (LOOP [.nt .i64] (fun x12 h23 nx22 =>
 COND (decide (x12 < 8)) (JOIN [.bl] (fun k24 => IXA 1 x5.a x5.len x9 fun a154 =>
 LD (.sl) a154 (EQ h23) fun v155 =>
 IXA 3 v155.a v155.len (IntKind.wrap .i64 ((v81.len : Int) + x12)) fun a159 =>
 LD (.sl) (a159.add 0) (EQ h23) fun v161 =>
 COND ((v161.len : Int) != 1) (k24 true h23)
 (IXA 1 x5.a x5.len x9 fun a167 =>
 LD (.sl) a167 (EQ h23) fun v168 =>
 IXA 3 v168.a v168.len (IntKind.wrap .i64 ((v81.len : Int) + x12)) fun a172 =>
 LD (.sl) (a172.add 0) (EQ h23) fun v174 =>
 IXA 1 v174.a v174.len 0 fun a175 =>
 LD (.nt .u8) a175 (EQ h23) fun v176 =>
 k24 (v176 != (IntKind.wrap .u8 ((IntKind.wrap .i64 ((IntKind.wrap .i64 ((IntKind.wrap .i64 ((-1) - x9)) * 97)) + (IntKind.wrap .i64 (x12 * 13))))))) h23))
 fun x185 h25 =>
 COND x185 (Q false h25)
 (nx22 (IntKind.wrap .i64 (x12 + 1)) h25))
 (nx16 (IntKind.wrap .i64 (x9 + 1)) h23)) 0 h19)) 0 h17)
 (Q true h17)) 0 h8)) ⟨none, 0, 0⟩ 0 h2)) 0 h0
def pl69 : Plan := ⟨[], [(28, ⟨[(12, .nt .i64)], [0, 5, 9, 10], []⟩), (23, ⟨[(11, .nt .i64)], [0, 5, 9, 10], []⟩), (19, ⟨[(9, .nt .i64)], [0, 5], []⟩), (14, ⟨[(7, .sl), (8, .nt .i64)], [0, 5, 6], []⟩), (10, ⟨[(5, .sl), (6, .nt .i64)], [0], []⟩), (5, ⟨[(4, .nt .i64)], [0, 3], []⟩), (2, ⟨[(3, .nt .i64)], [0], []⟩)], [], [(30, ⟨[(185, .bl)], [0, 5, 9, 10, 12], []⟩), (25, ⟨[(147, .bl)], [0, 5, 9, 10, 11], []⟩)], [], []⟩
theorem q69_eq (Z : List PanicEntry → Heap → Prop) (p0 : Sl) (h0 : Heap) (Q : Cur (flat [.one (.bl)]) (Heap → Prop)) : q69 Z p0 h0 Q = (WPF P Z Tryz.f69 pl69 [.one (.sl)] h0 Q) p0 := by kernel_rfl

/- codicil/codicilref00.ownSpans -/
def q70 (Z : List PanicEntry → Heap → Prop) (p0 : Sl) (h0 : Heap) (Q : Cur (flat [.one (.bl)]) (Heap → Prop)) : Prop :=
 LOOP [.nt .i64] (fun x3 h2 nx1 =>
 COND (decide (x3 < (p0.len : Int))) (LOOP [.nt .i64] (fun x4 h4 nx3 =>
 IXA 1 p0.a p0.len x3 fun a22 =>
 LD (.sl) a22 (EQ h4) fun v23 =>
 COND (decide (x4 < (v23.len : Int))) (IXA 1 p0.a p0.len x3 fun a30 =>
 LD (.sl) a30 (EQ h4) fun v31 =>
 ALLOC [.int .u8 (IntKind.wrap .u8 ((IntKind.wrap .i64 ((IntKind.wrap .i64 (x3 * 97)) + (IntKind.wrap .i64 (x4 * 13))))))] 5 h4 fun b39 h5 =>
 IXA 3 v31.a v31.len x4 fun a41 =>
 STN a41 [.slice (some ⟨b39, 0, none⟩) 1 1, .slice none 0 0, .bool false] 0 h5 [] fun h6 =>
 nx3 (IntKind.wrap .i64 (x4 + 1)) h6)
 (nx1 (IntKind.wrap .i64 (x3 + 1)) h4)) 0 h2)
 (LOOP [.sl, .nt .i64] (fun x5 x6 h8 nx7 =>
 COND (decide (x6 < (p0.len : Int))) (IXA 1 p0.a p0.len x6 fun a50 =>
 LD (.sl) a50 (EQ h8) fun v51 =>
 LOOP [.sl, .nt .i64] (fun x7 x8 h10 nx9 =>
 COND (decide (x8 < 8)) (ALLOC [.int .u8 (IntKind.wrap .u8 ((IntKind.wrap .i64 ((IntKind.wrap .i64 ((IntKind.wrap .i64 ((-1) - x6)) * 97)) + (IntKind.wrap .i64 (x8 * 13))))))] 5 h10 fun b64 h11 =>
 ALLOC [.slice (some ⟨b64, 0, none⟩) 1 1, .slice none 0 0, .bool false] 188 h11 fun b66 h12 =>
 APPEND 3 56 188 [.slice none 0 0, .slice none 0 0, .bool false] x7.a x7.len x7.cap (some ⟨b66, 0, none⟩) 1 h12 [] fun v67 h13 =>
 nx9 v67 (IntKind.wrap .i64 (x8 + 1)) h13)
 (ALLOC [x7.v] 186 h10 fun b70 h14 =>
 APPEND 1 24 186 [.slice none 0 0] x5.a x5.len x5.cap (some ⟨b70, 0, none⟩) 1 h14 [] fun v71 h15 =>
 nx7 v71 (IntKind.wrap .i64 (x6 + 1)) h15)) v51 0 h8)
 (LOOP [.nt .i64] (fun x9 h17 nx16 =>
 COND (decide (x9 < (p0.len : Int))) (IXA 1 p0.a p0.len x9 fun a80 =>
 LD (.sl) a80 (EQ h17) fun v81 =>
 LOOP [.nt .i64] (fun x11 h19 nx18 =>
 COND (decide (x11 < (v81.len : Int))) (JOIN [.bl] (fun k20 => IXA 1 p0.a p0.len x9 fun a90 =>
 LD (.sl) a90 (EQ h19) fun v91 =>
 IXA 3 v91.a v91.len x11 fun a93 =>
 LD (.sl) (a93.add 0) (EQ h19) fun v95 =>
 COND ((v95.len : Int) != 1) (k20 true h19)
 (IXA 1 p0.a p0.len x9 fun a101 =>
 LD (.sl) a101 (EQ h19) fun v102 =>
 IXA 3 v102.a v102.len x11 fun a104 =>
 LD (.sl) (a104.add 0) (EQ h19) fun v106 =>
 IXA 1 v106.a v106.len 0 fun a107 =>
 LD (.nt .u8) a107 (EQ h19) fun v108 =>
 COND (v108 != (IntKind.wrap .u8 ((IntKind.wrap .i64 ((IntKind.wrap .i64 (x9 * 97)) + (IntKind.wrap .i64 (x11 * 13))))))) (k20 true h19)
 (IXA 1 x5.a x5.len x9 fun a120 =>
 LD (.sl) a120 (EQ h19) fun v121 =>
 IXA 3 v121.a v121.len x11 fun a123 =>
 LD (.sl) (a123.add 0) (EQ h19) fun v125 =>
 COND ((v125.len : Int) != 1) (k20 true h19)
 (IXA 1 x5.a x5.len x9 fun a132 =>
 LD (.sl) a132 (EQ h19) fun v133 =>
 IXA 3 v133.a v133.len x11 fun a135 =>
 LD (.sl) (a135.add 0) (EQ h19) fun v137 =>
 IXA 1 v137.a v137.len 0 fun a138 =>
 LD (.nt .u8) a138 (EQ h19) fun v139 =>
 k20 (v139 != (IntKind.wrap .u8 ((IntKind.wrap .i64 ((IntKind.wrap .i64 (x9 * 97)) + (IntKind.wrap .i64 (x11 * 13))))))) h19))))
 fun x147 h21 =>
 COND x147 (Q false h21)
 (nx18 (IntKind.wrap .i64 (x11 + 1)) h21))
 (LOOP [.nt .i64] (fun x12 h23 nx22 =>
 COND (decide (x12 < 8)) (JOIN [.bl] (fun k24 => IXA 1 x5.a x5.len x9 fun a154 =>
 LD (.sl) a154 (EQ h23) fun v155 =>
 IXA 3 v155.a v155.len (IntKind.wrap .i64 ((v81.len : Int) + x12)) fun a159 =>
 LD (.sl) (a159.add 0) (EQ h23) fun v161 =>
 COND ((v161.len : Int) != 1) (k24 true h23)
 (IXA 1 x5.a x5.len x9 fun a167 =>
 LD (.sl) a167 (EQ h23) fun v168 =>
 IXA 3 v168.a v168.len (IntKind.wrap .i64 ((v81.len : Int) + x12)) fun a172 =>
 LD (.sl) (a172.add 0) (EQ h23) fun v174 =>
 IXA 1 v174.a v174.len 0 fun a175 =>
 LD (.nt .u8) a175 (EQ h23) fun v176 =>
 k24 (v176 != (IntKind.wrap .u8 ((IntKind.wrap .i64 ((IntKind.wrap .i64 ((IntKind.wrap .i64 ((-1) - x9)) * 97)) + (IntKind.wrap .i64 (x12 * 13))))))) h23))
 fun x185 h25 =>
 COND x185 (Q false h25)
 (nx22 (IntKind.wrap .i64 (x12 + 1)) h25))
 (nx16 (IntKind.wrap .i64 (x9 + 1)) h23)) 0 h19)) 0 h17)
 (Q true h17)) 0 h8)) ⟨none, 0, 0⟩ 0 h2)) 0 h0
def pl70 : Plan := ⟨[], [(28, ⟨[(12, .nt .i64)], [0, 5, 9, 10], []⟩), (23, ⟨[(11, .nt .i64)], [0, 5, 9, 10], []⟩), (19, ⟨[(9, .nt .i64)], [0, 5], []⟩), (14, ⟨[(7, .sl), (8, .nt .i64)], [0, 5, 6], []⟩), (10, ⟨[(5, .sl), (6, .nt .i64)], [0], []⟩), (5, ⟨[(4, .nt .i64)], [0, 3], []⟩), (2, ⟨[(3, .nt .i64)], [0], []⟩)], [], [(30, ⟨[(185, .bl)], [0, 5, 9, 10, 12], []⟩), (25, ⟨[(147, .bl)], [0, 5, 9, 10, 11], []⟩)], [], []⟩
theorem q70_eq (Z : List PanicEntry → Heap → Prop) (p0 : Sl) (h0 : Heap) (Q : Cur (flat [.one (.bl)]) (Heap → Prop)) : q70 Z p0 h0 Q = (WPF P Z Tryz.f70 pl70 [.one (.sl)] h0 Q) p0 := by kernel_rfl

/- codicil/codicilref00.ownEntries -/
def q71 (Z : List PanicEntry → Heap → Prop) (p0 : Sl) (h0 : Heap) (Q : Cur (flat [.one (.bl)]) (Heap → Prop)) : Prop :=
 LOOP [.nt .i64] (fun x3 h2 nx1 =>
 COND (decide (x3 < (p0.len : Int))) (LOOP [.nt .i64] (fun x4 h4 nx3 =>
 IXA 1 p0.a p0.len x3 fun a22 =>
 LD (.sl) a22 (EQ h4) fun v23 =>
 COND (decide (x4 < (v23.len : Int))) (IXA 1 p0.a p0.len x3 fun a30 =>
 LD (.sl) a30 (EQ h4) fun v31 =>
 IXA 4 v31.a v31.len x4 fun a40 =>
 STN a40 [.slice none 0 0, .slice none 0 0, .int .u32 (IntKind.wrap .u32 ((IntKind.wrap .i64 ((IntKind.wrap .i64 ((IntKind.wrap .i64 (x3 * 1000)) + x4)) + 7000000)))), .int .u32 0] 0 h4 [] fun h5 =>
 nx3 (IntKind.wrap .i64 (x4 + 1)) h5)
 (nx1 (IntKind.wrap .i64 (x3 + 1)) h4)) 0 h2)
 (LOOP [.sl, .nt .i64] (fun x5 x6 h7 nx6 =>
 COND (decide (x6 < (p0.len : Int))) (IXA 1 p0.a p0.len x6 fun a49 =>
 LD (.sl) a49 (EQ h7) fun v50 =>
 LOOP [.sl, .nt .i64] (fun x7 x8 h9 nx8 =>
 COND (decide (x8 < 8)) (ALLOC [.slice none 0 0, .slice none 0 0, .int .u32 (IntKind.wrap .u32 ((IntKind.wrap .i64 ((IntKind.wrap .i64 ((IntKind.wrap .i64 ((IntKind.wrap .i64 ((-1) - x6)) * 1000)) + x8)) + 7000000)))), .int .u32 0] 191 h9 fun b64 h10 =>
 APPEND 4 56 191 [.slice none 0 0, .slice none 0 0, .int .u32 0, .int .u32 0] x7.a x7.len x7.cap (some ⟨b64, 0, none⟩) 1 h10 [] fun v65 h11 =>
 nx8 v65 (IntKind.wrap .i64 (x8 + 1)) h11)
 (ALLOC [x7.v] 189 h9 fun b68 h12 =>
 APPEND 1 24 189 [.slice none 0 0] x5.a x5.len x5.cap (some ⟨b68, 0, none⟩) 1 h12 [] fun v69 h13 =>
 nx6 v69 (IntKind.wrap .i64 (x6 + 1)) h13)) v50 0 h7)
 (LOOP [.nt .i64] (fun x9 h15 nx14 =>
 COND (decide (x9 < (p0.len : Int))) (IXA 1 p0.a p0.len x9 fun a78 =>
 LD (.sl) a78 (EQ h15) fun v79 =>
 LOOP [.nt .i64] (fun x11 h17 nx16 =>
 COND (decide (x11 < (v79.len : Int))) (JOIN [.bl] (fun k18 => IXA 1 p0.a p0.len x9 fun a88 =>
 LD (.sl) a88 (EQ h17) fun v89 =>
 IXA 4 v89.a v89.len x11 fun a91 =>
 LD (.nt .u32) (a91.add 2) (EQ h17) fun v93 =>
 COND (v93 != (IntKind.wrap .u32 ((IntKind.wrap .i64 ((IntKind.wrap .i64 ((IntKind.wrap .i64 (x9 * 1000)) + x11)) + 7000000))))) (k18 true h17)
 (IXA 1 x5.a x5.len x9 fun a104 =>
 LD (.sl) a104 (EQ h17) fun v105 =>
 IXA 4 v105.a v105.len x11 fun a107 =>
 LD (.nt .u32) (a107.add 2) (EQ h17) fun v109 =>
 k18 (v109 != (IntKind.wrap .u32 ((IntKind.wrap .i64 ((IntKind.wrap .i64 ((IntKind.wrap .i64 (x9 * 1000)) + x11)) + 7000000))))) h17))
 fun x117 h19 =>
 COND x117 (Q false h19)
 (nx16 (IntKind.wrap .i64 (x11 + 1)) h19))
 (LOOP [.nt .i64] (fun x12 h21 nx20 =>
 COND (decide (x12 < 8)) (IXA 1 x5.a x5.len x9 fun a124 =>
 LD (.sl) a124 (EQ h21) fun v125 =>
 IXA 4 v125.a v125.len (IntKind.wrap .i64 ((v79.len : Int) + x12)) fun a129 =>
 LD (.nt .u32) (a129.add 2) (EQ h21) fun v131 =>
 COND (v131 != (IntKind.wrap .u32 ((IntKind.wrap .i64 ((IntKind.wrap .i64 ((IntKind.wrap .i64 ((IntKind.wrap .i64 ((-1) - x9)) * 1000)) + x12)) + 7000000))))) (Q false h21)
 (nx20 (IntKind.wrap .i64 (x12 + 1)) h21))
 (nx14 (IntKind.wrap .i64 (x9 + 1)) h21)) 0 h17)) 0 h15)
 (Q true h15)) 0 h7)) ⟨none, 0, 0⟩ 0 h2)) 0 h0
def pl71 : Plan := ⟨[], [(28, ⟨[(12, .nt .i64)], [0, 5, 9, 10], []⟩), (23, ⟨[(11, .nt .i64)], [0, 5, 9, 10], []⟩), (19, ⟨[(9, .nt .i64)], [0, 5], []⟩), (14, ⟨[(7, .sl), (8, .nt .i64)], [0, 5, 6], []⟩), (10, ⟨[(5, .sl), (6, .nt .i64)], [0], []⟩), (5, ⟨[(4, .nt .i64)], [0, 3], []⟩), (2, ⟨[(3, .nt .i64)], [0], []⟩)], [], [(25, ⟨[(117, .bl)], [0, 5, 9, 10, 11], []⟩)], [], []⟩
theorem q71_eq (Z : List PanicEntry → Heap → Prop) (p0 : Sl) (h0 : Heap) (Q : Cur (flat [.one (.bl)]) (Heap → Prop)) : q71 Z p0 h0 Q = (WPF P Z Tryz.f71 pl71 [.one (.sl)] h0 Q) p0 := by kernel_rfl

/- codicil/codicilref00.ownBools -/
def q72 (Z : List PanicEntry → Heap → Prop) (p0 : Sl) (h0 : Heap) (Q : Cur (flat [.one (.bl)]) (Heap → Prop)) : Prop :=
 MKS 24 192 [.slice none 0 0] (p0.len : Int) (p0.len : Int) h0 fun v14 h1 =>
 LOOP [.nt .i64] (fun x4 h3 nx2 =>
 JOIN [.bl] (fun k4 => COND (decide (x4 < 20)) (SHI (IntKind.wrap .u64 (x4)) (k4 (decide ((ishl .i64 1 (IntKind.wrap .u64 (x4))) ≤ (IntKind.wrap .i64 (2 * (p0.len : Int))))) h3))
 (k4 false h3))
 fun x25 h5 =>
 COND x25 (LOOP [.nt .i64] (fun x5 h7 nx6 =>
 COND (decide (x5 < (p0.len : Int))) (LOOP [.nt .i64] (fun x6 h9 nx8 =>
 IXA 1 p0.a p0.len x5 fun a37 =>
 LD (.sl) a37 (EQ h9) fun v38 =>
 COND (decide (x6 < (v38.len : Int))) (IXA 1 p0.a p0.len x5 fun a45 =>
 LD (.sl) a45 (EQ h9) fun v46 =>
 SHI (IntKind.wrap .u64 (x4)) (IXA 1 v46.a v46.len x6 fun a54 =>
 STN a54 [.bool ((iand .i64 (ishr .i64 x5 (IntKind.wrap .u64 (x4))) 1) == 1)] 0 h9 [] fun h10 =>
 nx8 (IntKind.wrap .i64 (x6 + 1)) h10))
 (nx6 (IntKind.wrap .i64 (x5 + 1)) h9)) 0 h7)
 (LOOP [.nt .i64] (fun x7 h12 nx11 =>
 COND (decide (x7 < (p0.len : Int))) (IXA 1 p0.a p0.len x7 fun a63 =>
 LD (.sl) a63 (EQ h12) fun v64 =>
 LOOP [.sl, .nt .i64] (fun x8 x9 h14 nx13 =>
 COND (decide (x9 < 16)) (SHI (IntKind.wrap .u64 (x4)) (ALLOC [.bool ((iand .i64 (ishr .i64 x7 (IntKind.wrap .u64 (x4))) 1) == 1)] 4 h14 fun b76 h15 =>
 APPEND 1 1 4 [.bool false] x8.a x8.len x8.cap (some ⟨b76, 0, none⟩) 1 h15 [] fun v77 h16 =>
 nx13 v77 (IntKind.wrap .i64 (x9 + 1)) h16))
 (IXA 1 v14.a v14.len x7 fun a81 =>
 STN a81 [x8.v] 0 h14 [] fun h17 =>
 nx11 (IntKind.wrap .i64 (x7 + 1)) h17)) v64 0 h12)
 (LOOP [.nt .i64] (fun x10 h19 nx18 =>
 COND (decide (x10 < (p0.len : Int))) (LOOP [.nt .i64] (fun x11 h21 nx20 =>
 IXA 1 v14.a v14.len x10 fun a91 =>
 LD (.sl) a91 (EQ h21) fun v92 =>
 COND (decide (x11 < (v92.len : Int))) (JOIN [.bl] (fun k22 => IXA 1 v14.a v14.len x10 fun a99 =>
 LD (.sl) a99 (EQ h21) fun v100 =>
 IXA 1 v100.a v100.len x11 fun a102 =>
 LD (.bl) a102 (EQ h21) fun v103 =>
 SHI (IntKind.wrap .u64 (x4)) (COND (!(v103 == ((iand .i64 (ishr .i64 x10 (IntKind.wrap .u64 (x4))) 1) == 1))) (k22 true h21)
 (IXA 1 p0.a p0.len x10 fun a115 =>
 LD (.sl) a115 (EQ h21) fun v116 =>
 COND (decide (x11 < (v116.len : Int))) (IXA 1 p0.a p0.len x10 fun a122 =>
 LD (.sl) a122 (EQ h21) fun v123 =>
 IXA 1 v123.a v123.len x11 fun a125 =>
 LD (.bl) a125 (EQ h21) fun v126 =>
 SHI (IntKind.wrap .u64 (x4)) (k22 (!(v126 == ((iand .i64 (ishr .i64 x10 (IntKind.wrap .u64 (x4))) 1) == 1))) h21))
 (k22 false h21))))
 fun x135 h23 =>
 COND x135 (Q false h23)
 (nx20 (IntKind.wrap .i64 (x11 + 1)) h23))
 (nx18 (IntKind.wrap .i64 (x10 + 1)) h21)) 0 h19)
 (nx2 (IntKind.wrap .i64 (x4 + 1)) h19)) 0 h12)) 0 h7)) 0 h5)
 (Q true h5)) 0 h1
def pl72 : Plan := ⟨[], [(25, ⟨[(11, .nt .i64)], [0, 3, 4, 10], []⟩), (22, ⟨[(10, .nt .i64)], [0, 3, 4], []⟩), (17, ⟨[(8, .sl), (9, .nt .i64)], [0, 3, 4, 7], []⟩), (13, ⟨[(7, .nt .i64)], [0, 3, 4], []⟩), (9, ⟨[(6, .nt .i64)], [0, 3, 4, 5], []⟩), (6, ⟨[(5, .nt .i64)], [0, 3, 4], []⟩), (3, ⟨[(4, .nt .i64)], [0, 3], []⟩)], [], [(27, ⟨[(135, .bl)], [0, 3, 4, 10, 11], []⟩), (3, ⟨[(25, .bl)], [0, 3, 4], []⟩)], [], []⟩
theorem q72_eq (Z : List PanicEntry → Heap → Prop) (p0 : Sl) (h0 : Heap) (Q : Cur (flat [.one (.bl)]) (Heap → Prop)) : q72 Z p0 h0 Q = (WPF P Z Tryz.f72 pl72 [.one (.sl)] h0 Q) p0 := by kernel_rfl

/- codicil/codicilref00.ownValues -/
def q73 (Z : List PanicEntry → Heap → Prop) (p0 : Sl) (h0 : Heap) (Q : Cur (flat [.one (.bl)]) (Heap → Prop)) : Prop :=
 LOOP [.nt .i64] (fun x3 h2 nx1 =>
 COND (decide (x3 < (p0.len : Int))) (LOOP [.nt .i64] (fun x4 h4 nx3 =>
 IXA 1 p0.a p0.len x3 fun a22 =>
 LD (.sl) a22 (EQ h4) fun v23 =>
 COND (decide (x4 < (v23.len : Int))) (IXA 1 p0.a p0.len x3 fun a30 =>
 LD (.sl) a30 (EQ h4) fun v31 =>
 IXA 7 v31.a v31.len x4 fun a38 =>
 STN a38 [.int .u8 0, .bool false, .int .i64 (IntKind.wrap .i64 ((IntKind.wrap .i64 (x3 * 1000)) + x4)), .string ByteArray.empty, .slice none 0 0, .slice none 0 0, .slice none 0 0] 0 h4 [] fun h5 =>
 nx3 (IntKind.wrap .i64 (x4 + 1)) h5)
 (nx1 (IntKind.wrap .i64 (x3 + 1)) h4)) 0 h2)
 (LOOP [.sl, .nt .i64] (fun x5 x6 h7 nx6 =>
 COND (decide (x6 < (p0.len : Int))) (IXA 1 p0.a p0.len x6 fun a47 =>
 LD (.sl) a47 (EQ h7) fun v48 =>
 LOOP [.sl, .nt .i64] (fun x7 x8 h9 nx8 =>
 COND (decide (x8 < 4)) (ALLOC [.int .u8 0, .bool false, .int .i64 (IntKind.wrap .i64 ((IntKind.wrap .i64 ((IntKind.wrap .i64 ((-1) - x6)) * 1000)) + x8)), .string ByteArray.empty, .slice none 0 0, .slice none 0 0, .slice none 0 0] 27 h9 fun b60 h10 =>
 APPEND 7 104 27 [.int .u8 0, .bool false, .int .i64 0, .string ByteArray.empty, .slice none 0 0, .slice none 0 0, .slice none 0 0] x7.a x7.len x7.cap (some ⟨b60, 0, none⟩) 1 h10 [] fun v61 h11 =>
 nx8 v61 (IntKind.wrap .i64 (x8 + 1)) h11)
 (ALLOC [x7.v] 24 h9 fun b64 h12 =>
 APPEND 1 24 24 [.slice none 0 0] x5.a x5.len x5.cap (some ⟨b64, 0, none⟩) 1 h12 [] fun v65 h13 =>
 nx6 v65 (IntKind.wrap .i64 (x6 + 1)) h13)) v48 0 h7)
 (LOOP [.nt .i64] (fun x9 h15 nx14 =>
 COND (decide (x9 < (p0.len : Int))) (IXA 1 p0.a p0.len x9 fun a74 =>
 LD (.sl) a74 (EQ h15) fun v75 =>
 LOOP [.nt .i64] (fun x11 h17 nx16 =>
 COND (decide (x11 < (v75.len : Int))) (JOIN [.bl] (fun k18 => IXA 1 p0.a p0.len x9 fun a84 =>
 LD (.sl) a84 (EQ h17) fun v85 =>
 IXA 7 v85.a v85.len x11 fun a87 =>
 LD (.nt .i64) (a87.add 2) (EQ h17) fun v89 =>
 COND (v89 != (IntKind.wrap .i64 ((IntKind.wrap .i64 (x9 * 1000)) + x11))) (k18 true h17)
 (IXA 1 x5.a x5.len x9 fun a98 =>
 LD (.sl) a98 (EQ h17) fun v99 =>
 IXA 7 v99.a v99.len x11 fun a101 =>
 LD (.nt .i64) (a101.add 2) (EQ h17) fun v103 =>
 k18 (v103 != (IntKind.wrap .i64 ((IntKind.wrap .i64 (x9 * 1000)) + x11))) h17))
 fun x109 h19 =>
 COND x109 (Q false h19)
 (nx16 (IntKind.wrap .i64 (x11 + 1)) h19))
 (LOOP [.nt .i64] (fun x12 h21 nx20 =>
 COND (decide (x12 < 4)) (IXA 1 x5.a x5.len x9 fun a116 =>
 LD (.sl) a116 (EQ h21) fun v117 =>
 IXA 7 v117.a v117.len (IntKind.wrap .i64 ((v75.len : Int) + x12)) fun a121 =>
 LD (.nt .i64) (a121.add 2) (EQ h21) fun v123 =>
 COND (v123 != (IntKind.wrap .i64 ((IntKind.wrap .i64 ((IntKind.wrap .i64 ((-1) - x9)) * 1000)) + x12))) (Q false h21)
 (nx20 (IntKind.wrap .i64 (x12 + 1)) h21))
 (nx14 (IntKind.wrap .i64 (x9 + 1)) h21)) 0 h17)) 0 h15)
 (Q true h15)) 0 h7)) ⟨none, 0, 0⟩ 0 h2)) 0 h0
def pl73 : Plan := ⟨[], [(28, ⟨[(12, .nt .i64)], [0, 5, 9, 10], []⟩), (23, ⟨[(11, .nt .i64)], [0, 5, 9, 10], []⟩), (19, ⟨[(9, .nt .i64)], [0, 5], []⟩), (14, ⟨[(7, .sl), (8, .nt .i64)], [0, 5, 6], []⟩), (10, ⟨[(5, .sl), (6, .nt .i64)], [0], []⟩), (5, ⟨[(4, .nt .i64)], [0, 3], []⟩), (2, ⟨[(3, .nt .i64)], [0], []⟩)], [], [(25, ⟨[(109, .bl)], [0, 5, 9, 10, 11], []⟩)], [], []⟩
theorem q73_eq (Z : List PanicEntry → Heap → Prop) (p0 : Sl) (h0 : Heap) (Q : Cur (flat [.one (.bl)]) (Heap → Prop)) : q73 Z p0 h0 Q = (WPF P Z Tryz.f73 pl73 [.one (.sl)] h0 Q) p0 := by kernel_rfl

/- codicil/codicilref00.ownFields -/
def q74 (Z : List PanicEntry → Heap → Prop) (p0 : Sl) (h0 : Heap) (Q : Cur (flat [.one (.bl)]) (Heap → Prop)) : Prop :=
 LOOP [.nt .i64] (fun x3 h2 nx1 =>
 COND (decide (x3 < (p0.len : Int))) (LOOP [.nt .i64] (fun x4 h4 nx3 =>
 IXA 1 p0.a p0.len x3 fun a22 =>
 LD (.sl) a22 (EQ h4) fun v23 =>
 COND (decide (x4 < (v23.len : Int))) (DRAW h4 [] fun S5 =>
 IXA 1 p0.a p0.len x3 fun a30 =>
 LD (.sl) a30 S5 fun v31 =>
 CALL P (fun _ _ => False) 114 [.int .i64 x3, .int .i64 x4] [.one (.tx)] h4 [] fun v35 h6 =>
 SS S5 h6 (
 IXA 8 v31.a v31.len x4 fun a37 =>
 STN a37 [.string v35, .int .u8 0, .bool false, .int .i64 0, .string ByteArray.empty, .slice none 0 0, .slice none 0 0, .slice none 0 0] 0 h6 [] fun h7 =>
 nx3 (IntKind.wrap .i64 (x4 + 1)) h7))
 (nx1 (IntKind.wrap .i64 (x3 + 1)) h4)) 0 h2)
 (LOOP [.sl, .nt .i64] (fun x5 x6 h9 nx8 =>
 COND (decide (x6 < (p0.len : Int))) (IXA 1 p0.a p0.len x6 fun a46 =>
 LD (.sl) a46 (EQ h9) fun v47 =>
 LOOP [.sl, .nt .i64] (fun x7 x8 h11 nx10 =>
 COND (decide (x8 < 4)) (CALL P Z 114 [.int .i64 (IntKind.wrap .i64 ((-1) - x6)), .int .i64 x8] [.one (.tx)] h11 [] fun v56 h12 =>
 ALLOC [.string v56, .int .u8 0, .bool false, .int .i64 0, .string ByteArray.empty, .slice none 0 0, .slice none 0 0, .slice none 0 0] 132 h12 fun b58 h13 =>
 APPEND 8 120 132 [.string ByteArray.empty, .int .u8 0, .bool false, .int .i64 0, .string ByteArray.empty, .slice none 0 0, .slice none 0 0, .slice none 0 0] x7.a x7.len x7.cap (some ⟨b58, 0, none⟩) 1 h13 [] fun v59 h14 =>
 nx10 v59 (IntKind.wrap .i64 (x8 + 1)) h14)
 (ALLOC [x7.v] 25 h11 fun b62 h15 =>
 APPEND 1 24 25 [.slice none 0 0] x5.a x5.len x5.cap (some ⟨b62, 0, none⟩) 1 h15 [] fun v63 h16 =>
 nx8 v63 (IntKind.wrap .i64 (x6 + 1)) h16)) v47 0 h9)
 (LOOP [.nt .i64] (fun x9 h18 nx17 =>
 COND (decide (x9 < (p0.len : Int))) (IXA 1 p0.a p0.len x9 fun a72 =>
 LD (.sl) a72 (EQ h18) fun v73 =>
 LOOP [.nt .i64] (fun x11 h20 nx19 =>
 COND (decide (x11 < (v73.len : Int))) (JOIN [.bl] (fun k21 => DRAW h20 [] fun S23 =>
 IXA 1 p0.a p0.len x9 fun a82 =>
 LD (.sl) a82 S23 fun v83 =>
 IXA 8 v83.a v83.len x11 fun a85 =>
 LD (.tx) (a85.add 0) S23 fun v87 =>
 CALL P (fun _ _ => False) 114 [.int .i64 x9, .int .i64 x11] [.one (.tx)] h20 [] fun v90 h24 =>
 SS S23 h24 (
 COND (!(v87.toList == v90.toList)) (SS S23 h24 (
 k21 true h24))
 (IXA 1 x5.a x5.len x9 fun a95 =>
 LD (.sl) a95 S23 fun v96 =>
 IXA 8 v96.a v96.len x11 fun a98 =>
 LD (.tx) (a98.add 0) S23 fun v100 =>
 CALL P (fun _ _ => False) 114 [.int .i64 x9, .int .i64 x11] [.one (.tx)] h24 [] fun v103 h25 =>
 SS S23 h25 (
 k21 (!(v100.toList == v103.toList)) h25))))
 fun x105 h22 =>
 COND x105 (Q false h22)
 (nx19 (IntKind.wrap .i64 (x11 + 1)) h22))
 (LOOP [.nt .i64] (fun x12 h27 nx26 =>
 COND (decide (x12 < 4)) (DRAW h27 [] fun S28 =>
 IXA 1 x5.a x5.len x9 fun a112 =>
 LD (.sl) a112 S28 fun v113 =>
 IXA 8 v113.a v113.len (IntKind.wrap .i64 ((v73.len : Int) + x12)) fun a117 =>
 LD (.tx) (a117.add 0) S28 fun v119 =>
 CALL P (fun _ _ => False) 114 [.int .i64 (IntKind.wrap .i64 ((-1) - x9)), .int .i64 x12] [.one (.tx)] h27 [] fun v123 h29 =>
 SS S28 h29 (
 COND (!(v119.toList == v123.toList)) (Q false h29)
 (nx26 (IntKind.wrap .i64 (x12 + 1)) h29)))
 (nx17 (IntKind.wrap .i64 (x9 + 1)) h27)) 0 h20)) 0 h18)
 (Q true h18)) 0 h9)) ⟨none, 0, 0⟩ 0 h2)) 0 h0
def pl74 : Plan := ⟨[], [(28, ⟨[(12, .nt .i64)], [0, 5, 9, 10], []⟩), (23, ⟨[(11, .nt .i64)], [0, 5, 9, 10], []⟩), (19, ⟨[(9, .nt .i64)], [0, 5], []⟩), (14, ⟨[(7, .sl), (8, .nt .i64)], [0, 5, 6], []⟩), (10, ⟨[(5, .sl), (6, .nt .i64)], [0], []⟩), (5, ⟨[(4, .nt .i64)], [0, 3], []⟩), (2, ⟨[(3, .nt .i64)], [0], []⟩)], [], [(25, ⟨[(105, .bl)], [0, 5, 9, 10, 11], []⟩)], [(30, false, [0, 1, 2, 3, 4, 5, 6, 7, 8, 9, 10, 11, 12, 13, 14]), (25, false, [0, 1, 2, 3, 4, 5, 6, 7, 8, 9, 10, 11, 12, 13, 14, 15, 16, 17, 18, 19, 20, 21, 22, 23, 24, 25]), (7, false, [0, 1, 2, 3, 4, 5, 6, 7, 8, 9, 10])], []⟩
theorem q74_eq (Z : List PanicEntry → Heap → Prop) (p0 : Sl) (h0 : Heap) (Q : Cur (flat [.one (.bl)]) (Heap → Prop)) : q74 Z p0 h0 Q = (WPF P Z Tryz.f74 pl74 [.one (.sl)] h0 Q) p0 := by kernel_rfl

end Go.VK
