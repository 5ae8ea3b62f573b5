/- THE QUESTIONS, part 3: printed by a program of ours from the program's functions; each equation is checked by the kernel. -/
import Derived.Test.YtemkcbopbinfmaaGreatDoorVKP
set_option linter.all false
set_option linter.unusedVariables false
set_option maxRecDepth 100000
namespace Go.VK
open Go
open Go.Proofs

/- codicil/codicilref00.ownIndexes -/
def q75 (Z : List PanicEntry → Heap → Prop) (p0 : Sl) (h0 : Heap) (Q : Cur (flat [.one (.bl)]) (Heap → Prop)) : Prop :=
 LOOP [.nt .i64] (fun x3 h2 nx1 =>
 COND (decide (x3 < (p0.len : Int))) (LOOP [.nt .i64] (fun x4 h4 nx3 =>
 IXA 1 p0.a p0.len x3 fun a22 =>
 LD (.sl) a22 (EQ h4) fun v23 =>
 COND (decide (x4 < (v23.len : Int))) (DRAW h4 [] fun S5 =>
 IXA 1 p0.a p0.len x3 fun a30 =>
 LD (.sl) a30 S5 fun v31 =>
 CALL P (fun _ _ => False) 114 [.int .i64 x3, .int .i64 x4] [.one (.tx)] h4 [] fun v35 h6 =>
 SS S5 h6 (
 IXA 6 v31.a v31.len x4 fun a37 =>
 STN a37 [.string v35, .int .u32 0, .slice none 0 0, .bool false, .int .u8 0, .slice none 0 0] 0 h6 [] fun h7 =>
 nx3 (IntKind.wrap .i64 (x4 + 1)) h7))
 (nx1 (IntKind.wrap .i64 (x3 + 1)) h4)) 0 h2)
 (LOOP [.sl, .nt .i64] (fun x5 x6 h9 nx8 =>
 COND (decide (x6 < (p0.len : Int))) (IXA 1 p0.a p0.len x6 fun a46 =>
 LD (.sl) a46 (EQ h9) fun v47 =>
 LOOP [.sl, .nt .i64] (fun x7 x8 h11 nx10 =>
 COND (decide (x8 < 4)) (CALL P Z 114 [.int .i64 (IntKind.wrap .i64 ((-1) - x6)), .int .i64 x8] [.one (.tx)] h11 [] fun v56 h12 =>
 ALLOC [.string v56, .int .u32 0, .slice none 0 0, .bool false, .int .u8 0, .slice none 0 0] 195 h12 fun b58 h13 =>
 APPEND 6 80 195 [.string ByteArray.empty, .int .u32 0, .slice none 0 0, .bool false, .int .u8 0, .slice none 0 0] x7.a x7.len x7.cap (some ⟨b58, 0, none⟩) 1 h13 [] fun v59 h14 =>
 nx10 v59 (IntKind.wrap .i64 (x8 + 1)) h14)
 (ALLOC [x7.v] 193 h11 fun b62 h15 =>
 APPEND 1 24 193 [.slice none 0 0] x5.a x5.len x5.cap (some ⟨b62, 0, none⟩) 1 h15 [] fun v63 h16 =>
 nx8 v63 (IntKind.wrap .i64 (x6 + 1)) h16)) v47 0 h9)
 (LOOP [.nt .i64] (fun x9 h18 nx17 =>
 COND (decide (x9 < (p0.len : Int))) (IXA 1 p0.a p0.len x9 fun a72 =>
 LD (.sl) a72 (EQ h18) fun v73 =>
 LOOP [.nt .i64] (fun x11 h20 nx19 =>
 COND (decide (x11 < (v73.len : Int))) (JOIN [.bl] (fun k21 => DRAW h20 [] fun S23 =>
 IXA 1 p0.a p0.len x9 fun a82 =>
 LD (.sl) a82 S23 fun v83 =>
 IXA 6 v83.a v83.len x11 fun a85 =>
 LD (.tx) (a85.add 0) S23 fun v87 =>
 CALL P (fun _ _ => False) 114 [.int .i64 x9, .int .i64 x11] [.one (.tx)] h20 [] fun v90 h24 =>
 SS S23 h24 (
 COND (!(v87.toList == v90.toList)) (SS S23 h24 (
 k21 true h24))
 (IXA 1 x5.a x5.len x9 fun a95 =>
 LD (.sl) a95 S23 fun v96 =>
 IXA 6 v96.a v96.len x11 fun a98 =>
 LD (.tx) (a98.add 0) S23 fun v100 =>
 CALL P (fun _ _ => False) 114 [.int .i64 x9, .int .i64 x11] [.one (.tx)] h24 [] fun v103 h25 =>
 SS S23 h25 (
 k21 (!(v100.toList == v103.toList)) h25))))
 fun x105 h22 =>
 COND x105 (Q false h22)
 (nx19 (IntKind.wrap .i64 (x11 + 1)) h22))
 (LOOP [.nt .i64] (fun x12 h27 nx26 =>
 COND (decide (x12 < 4)) (DRAW h27 [] fun S28 =>
 IXA 1 x5.a x5.len x9 fun a112 =>
 LD (.sl) a112 S28 fun v113 =>
 IXA 6 v113.a v113.len (IntKind.wrap .i64 ((v73.len : Int) + x12)) fun a117 =>
 LD (.tx) (a117.add 0) S28 fun v119 =>
 CALL P (fun _ _ => False) 114 [.int .i64 (IntKind.wrap .i64 ((-1) - x9)), .int .i64 x12] [.one (.tx)] h27 [] fun v123 h29 =>
 SS S28 h29 (
 COND (!(v119.toList == v123.toList)) (Q false h29)
 (nx26 (IntKind.wrap .i64 (x12 + 1)) h29)))
 (nx17 (IntKind.wrap .i64 (x9 + 1)) h27)) 0 h20)) 0 h18)
 (Q true h18)) 0 h9)) ⟨none, 0, 0⟩ 0 h2)) 0 h0
def pl75 : Plan := ⟨[], [(28, ⟨[(12, .nt .i64)], [0, 5, 9, 10], []⟩), (23, ⟨[(11, .nt .i64)], [0, 5, 9, 10], []⟩), (19, ⟨[(9, .nt .i64)], [0, 5], []⟩), (14, ⟨[(7, .sl), (8, .nt .i64)], [0, 5, 6], []⟩), (10, ⟨[(5, .sl), (6, .nt .i64)], [0], []⟩), (5, ⟨[(4, .nt .i64)], [0, 3], []⟩), (2, ⟨[(3, .nt .i64)], [0], []⟩)], [], [(25, ⟨[(105, .bl)], [0, 5, 9, 10, 11], []⟩)], [(30, false, [0, 1, 2, 3, 4, 5, 6, 7, 8, 9, 10, 11, 12, 13, 14]), (25, false, [0, 1, 2, 3, 4, 5, 6, 7, 8, 9, 10, 11, 12, 13, 14, 15, 16, 17, 18, 19, 20, 21, 22, 23, 24, 25]), (7, false, [0, 1, 2, 3, 4, 5, 6, 7, 8, 9, 10])], []⟩
theorem q75_eq (Z : List PanicEntry → Heap → Prop) (p0 : Sl) (h0 : Heap) (Q : Cur (flat [.one (.bl)]) (Heap → Prop)) : q75 Z p0 h0 Q = (WPF P Z Tryz.f75 pl75 [.one (.sl)] h0 Q) p0 := by kernel_rfl

/- codicil/codicilref00.ownEvents -/
def q76 (Z : List PanicEntry → Heap → Prop) (p0 : Sl) (h0 : Heap) (Q : Cur (flat [.one (.bl)]) (Heap → Prop)) : Prop :=
 LOOP [.nt .i64] (fun x3 h2 nx1 =>
 COND (decide (x3 < (p0.len : Int))) (LOOP [.nt .i64] (fun x4 h4 nx3 =>
 IXA 1 p0.a p0.len x3 fun a22 =>
 LD (.sl) a22 (EQ h4) fun v23 =>
 COND (decide (x4 < (v23.len : Int))) (DRAW h4 [] fun S5 =>
 IXA 1 p0.a p0.len x3 fun a30 =>
 LD (.sl) a30 S5 fun v31 =>
 CALL P (fun _ _ => False) 114 [.int .i64 x3, .int .i64 x4] [.one (.tx)] h4 [] fun v35 h6 =>
 SS S5 h6 (
 IXA 16 v31.a v31.len x4 fun a37 =>
 STN a37 [.int .u8 0, .string v35, .int .u8 0, .bool false, .int .i64 0, .string ByteArray.empty, .slice none 0 0, .slice none 0 0, .slice none 0 0, .int .u8 0, .bool false, .int .i64 0, .string ByteArray.empty, .slice none 0 0, .slice none 0 0, .slice none 0 0] 0 h6 [] fun h7 =>
 nx3 (IntKind.wrap .i64 (x4 + 1)) h7))
 (nx1 (IntKind.wrap .i64 (x3 + 1)) h4)) 0 h2)
 (LOOP [.sl, .nt .i64] (fun x5 x6 h9 nx8 =>
 COND (decide (x6 < (p0.len : Int))) (IXA 1 p0.a p0.len x6 fun a46 =>
 LD (.sl) a46 (EQ h9) fun v47 =>
 LOOP [.sl, .nt .i64] (fun x7 x8 h11 nx10 =>
 COND (decide (x8 < 4)) (CALL P Z 114 [.int .i64 (IntKind.wrap .i64 ((-1) - x6)), .int .i64 x8] [.one (.tx)] h11 [] fun v56 h12 =>
 ALLOC [.int .u8 0, .string v56, .int .u8 0, .bool false, .int .i64 0, .string ByteArray.empty, .slice none 0 0, .slice none 0 0, .slice none 0 0, .int .u8 0, .bool false, .int .i64 0, .string ByteArray.empty, .slice none 0 0, .slice none 0 0, .slice none 0 0] 29 h12 fun b58 h13 =>
 APPEND 16 232 29 [.int .u8 0, .string ByteArray.empty, .int .u8 0, .bool false, .int .i64 0, .string ByteArray.empty, .slice none 0 0, .slice none 0 0, .slice none 0 0, .int .u8 0, .bool false, .int .i64 0, .string ByteArray.empty, .slice none 0 0, .slice none 0 0, .slice none 0 0] x7.a x7.len x7.cap (some ⟨b58, 0, none⟩) 1 h13 [] fun v59 h14 =>
 nx10 v59 (IntKind.wrap .i64 (x8 + 1)) h14)
 (ALLOC [x7.v] 196 h11 fun b62 h15 =>
 APPEND 1 24 196 [.slice none 0 0] x5.a x5.len x5.cap (some ⟨b62, 0, none⟩) 1 h15 [] fun v63 h16 =>
 nx8 v63 (IntKind.wrap .i64 (x6 + 1)) h16)) v47 0 h9)
 (LOOP [.nt .i64] (fun x9 h18 nx17 =>
 COND (decide (x9 < (p0.len : Int))) (IXA 1 p0.a p0.len x9 fun a72 =>
 LD (.sl) a72 (EQ h18) fun v73 =>
 LOOP [.nt .i64] (fun x11 h20 nx19 =>
 COND (decide (x11 < (v73.len : Int))) (JOIN [.bl] (fun k21 => DRAW h20 [] fun S23 =>
 IXA 1 p0.a p0.len x9 fun a82 =>
 LD (.sl) a82 S23 fun v83 =>
 IXA 16 v83.a v83.len x11 fun a85 =>
 LD (.tx) (a85.add 1) S23 fun v87 =>
 CALL P (fun _ _ => False) 114 [.int .i64 x9, .int .i64 x11] [.one (.tx)] h20 [] fun v90 h24 =>
 SS S23 h24 (
 COND (!(v87.toList == v90.toList)) (SS S23 h24 (
 k21 true h24))
 (IXA 1 x5.a x5.len x9 fun a95 =>
 LD (.sl) a95 S23 fun v96 =>
 IXA 16 v96.a v96.len x11 fun a98 =>
 LD (.tx) (a98.add 1) S23 fun v100 =>
 CALL P (fun _ _ => False) 114 [.int .i64 x9, .int .i64 x11] [.one (.tx)] h24 [] fun v103 h25 =>
 SS S23 h25 (
 k21 (!(v100.toList == v103.toList)) h25))))
 fun x105 h22 =>
 COND x105 (Q false h22)
 (nx19 (IntKind.wrap .i64 (x11 + 1)) h22))
 (LOOP [.nt .i64] (fun x12 h27 nx26 =>
 COND (decide (x12 < 4)) (DRAW h27 [] fun S28 =>
 IXA 1 x5.a x5.len x9 fun a112 =>
 LD (.sl) a112 S28 fun v113 =>
 IXA 16 v113.a v113.len (IntKind.wrap .i64 ((v73.len : Int) + x12)) fun a117 =>
 LD (.tx) (a117.add 1) S28 fun v119 =>
 CALL P (fun _ _ => False) 114 [.int .i64 (IntKind.wrap .i64 ((-1) - x9)), .int .i64 x12] [.one (.tx)] h27 [] fun v123 h29 =>
 SS S28 h29 (
 COND (!(v119.toList == v123.toList)) (Q false h29)
 (nx26 (IntKind.wrap .i64 (x12 + 1)) h29)))
 (nx17 (IntKind.wrap .i64 (x9 + 1)) h27)) 0 h20)) 0 h18)
 (Q true h18)) 0 h9)) ⟨none, 0, 0⟩ 0 h2)) 0 h0
def pl76 : Plan := ⟨[], [(28, ⟨[(12, .nt .i64)], [0, 5, 9, 10], []⟩), (23, ⟨[(11, .nt .i64)], [0, 5, 9, 10], []⟩), (19, ⟨[(9, .nt .i64)], [0, 5], []⟩), (14, ⟨[(7, .sl), (8, .nt .i64)], [0, 5, 6], []⟩), (10, ⟨[(5, .sl), (6, .nt .i64)], [0], []⟩), (5, ⟨[(4, .nt .i64)], [0, 3], []⟩), (2, ⟨[(3, .nt .i64)], [0], []⟩)], [], [(25, ⟨[(105, .bl)], [0, 5, 9, 10, 11], []⟩)], [(30, false, [0, 1, 2, 3, 4, 5, 6, 7, 8, 9, 10, 11, 12, 13, 14]), (25, false, [0, 1, 2, 3, 4, 5, 6, 7, 8, 9, 10, 11, 12, 13, 14, 15, 16, 17, 18, 19, 20, 21, 22, 23, 24, 25]), (7, false, [0, 1, 2, 3, 4, 5, 6, 7, 8, 9, 10])], []⟩
theorem q76_eq (Z : List PanicEntry → Heap → Prop) (p0 : Sl) (h0 : Heap) (Q : Cur (flat [.one (.bl)]) (Heap → Prop)) : q76 Z p0 h0 Q = (WPF P Z Tryz.f76 pl76 [.one (.sl)] h0 Q) p0 := by kernel_rfl

/- codicil/codicilref00.ownCommits -/
def q77 (Z : List PanicEntry → Heap → Prop) (p0 : Sl) (h0 : Heap) (Q : Cur (flat [.one (.bl)]) (Heap → Prop)) : Prop :=
 LOOP [.nt .i64] (fun x3 h2 nx1 =>
 COND (decide (x3 < (p0.len : Int))) (LOOP [.nt .i64] (fun x4 h4 nx3 =>
 IXA 1 p0.a p0.len x3 fun a22 =>
 LD (.sl) a22 (EQ h4) fun v23 =>
 COND (decide (x4 < (v23.len : Int))) (IXA 1 p0.a p0.len x3 fun a30 =>
 LD (.sl) a30 (EQ h4) fun v31 =>
 IXA 2 v31.a v31.len x4 fun a40 =>
 STN a40 [.int .u64 (IntKind.wrap .u64 ((IntKind.wrap .i64 ((IntKind.wrap .i64 ((IntKind.wrap .i64 (x3 * 1000)) + x4)) + 7000000)))), .slice none 0 0] 0 h4 [] fun h5 =>
 nx3 (IntKind.wrap .i64 (x4 + 1)) h5)
 (nx1 (IntKind.wrap .i64 (x3 + 1)) h4)) 0 h2)
 (LOOP [.sl, .nt .i64] (fun x5 x6 h7 nx6 =>
 COND (decide (x6 < (p0.len : Int))) (IXA 1 p0.a p0.len x6 fun a49 =>
 LD (.sl) a49 (EQ h7) fun v50 =>
 LOOP [.sl, .nt .i64] (fun x7 x8 h9 nx8 =>
 COND (decide (x8 < 4)) (ALLOC [.int .u64 (IntKind.wrap .u64 ((IntKind.wrap .i64 ((IntKind.wrap .i64 ((IntKind.wrap .i64 ((IntKind.wrap .i64 ((-1) - x6)) * 1000)) + x8)) + 7000000)))), .slice none 0 0] 199 h9 fun b64 h10 =>
 APPEND 2 32 199 [.int .u64 0, .slice none 0 0] x7.a x7.len x7.cap (some ⟨b64, 0, none⟩) 1 h10 [] fun v65 h11 =>
 nx8 v65 (IntKind.wrap .i64 (x8 + 1)) h11)
 (ALLOC [x7.v] 197 h9 fun b68 h12 =>
 APPEND 1 24 197 [.slice none 0 0] x5.a x5.len x5.cap (some ⟨b68, 0, none⟩) 1 h12 [] fun v69 h13 =>
 nx6 v69 (IntKind.wrap .i64 (x6 + 1)) h13)) v50 0 h7)
 (LOOP [.nt .i64] (fun x9 h15 nx14 =>
 COND (decide (x9 < (p0.len : Int))) (IXA 1 p0.a p0.len x9 fun a78 =>
 LD (.sl) a78 (EQ h15) fun v79 =>
 LOOP [.nt .i64] (fun x11 h17 nx16 =>
 COND (decide (x11 < (v79.len : Int))) (JOIN [.bl] (fun k18 => IXA 1 p0.a p0.len x9 fun a88 =>
 LD (.sl) a88 (EQ h17) fun v89 =>
 IXA 2 v89.a v89.len x11 fun a91 =>
 LD (.nt .u64) (a91.add 0) (EQ h17) fun v93 =>
 COND (v93 != (IntKind.wrap .u64 ((IntKind.wrap .i64 ((IntKind.wrap .i64 ((IntKind.wrap .i64 (x9 * 1000)) + x11)) + 7000000))))) (k18 true h17)
 (IXA 1 x5.a x5.len x9 fun a104 =>
 LD (.sl) a104 (EQ h17) fun v105 =>
 IXA 2 v105.a v105.len x11 fun a107 =>
 LD (.nt .u64) (a107.add 0) (EQ h17) fun v109 =>
 k18 (v109 != (IntKind.wrap .u64 ((IntKind.wrap .i64 ((IntKind.wrap .i64 ((IntKind.wrap .i64 (x9 * 1000)) + x11)) + 7000000))))) h17))
 fun x117 h19 =>
 COND x117 (Q false h19)
 (nx16 (IntKind.wrap .i64 (x11 + 1)) h19))
 (LOOP [.nt .i64] (fun x12 h21 nx20 =>
 COND (decide (x12 < 4)) (IXA 1 x5.a x5.len x9 fun a124 =>
 LD (.sl) a124 (EQ h21) fun v125 =>
 IXA 2 v125.a v125.len (IntKind.wrap .i64 ((v79.len : Int) + x12)) fun a129 =>
 LD (.nt .u64) (a129.add 0) (EQ h21) fun v131 =>
 COND (v131 != (IntKind.wrap .u64 ((IntKind.wrap .i64 ((IntKind.wrap .i64 ((IntKind.wrap .i64 ((IntKind.wrap .i64 ((-1) - x9)) * 1000)) + x12)) + 7000000))))) (Q false h21)
 (nx20 (IntKind.wrap .i64 (x12 + 1)) h21))
 (nx14 (IntKind.wrap .i64 (x9 + 1)) h21)) 0 h17)) 0 h15)
 (Q true h15)) 0 h7)) ⟨none, 0, 0⟩ 0 h2)) 0 h0
def pl77 : Plan := ⟨[], [(28, ⟨[(12, .nt .i64)], [0, 5, 9, 10], []⟩), (23, ⟨[(11, .nt .i64)], [0, 5, 9, 10], []⟩), (19, ⟨[(9, .nt .i64)], [0, 5], []⟩), (14, ⟨[(7, .sl), (8, .nt .i64)], [0, 5, 6], []⟩), (10, ⟨[(5, .sl), (6, .nt .i64)], [0], []⟩), (5, ⟨[(4, .nt .i64)], [0, 3], []⟩), (2, ⟨[(3, .nt .i64)], [0], []⟩)], [], [(25, ⟨[(117, .bl)], [0, 5, 9, 10, 11], []⟩)], [], []⟩
theorem q77_eq (Z : List PanicEntry → Heap → Prop) (p0 : Sl) (h0 : Heap) (Q : Cur (flat [.one (.bl)]) (Heap → Prop)) : q77 Z p0 h0 Q = (WPF P Z Tryz.f77 pl77 [.one (.sl)] h0 Q) p0 := by kernel_rfl

/- codicil/codicilref00.LentValues -/
def q78 (Z : List PanicEntry → Heap → Prop) (p0 : Sl) (h0 : Heap) (Q : Cur (flat [.one (.sl)]) (Heap → Prop)) : Prop :=
 MKS 104 27 [.int .u8 0, .bool false, .int .i64 0, .string ByteArray.empty, .slice none 0 0, .slice none 0 0, .slice none 0 0] 0 (IntKind.wrap .i64 ((p0.len : Int) + 1)) h0 fun v9 h1 =>
 LOOP [.sl, .nt .i64] (fun x3 x4 h3 nx2 =>
 COND (decide (x4 < (p0.len : Int))) (IXA 7 p0.a p0.len x4 fun a19 =>
 LDN [.nt .u8, .bl, .nt .i64, .tx, .sl, .sl, .sl] a19 0 (EQ h3) fun v20_0 v20_1 v20_2 v20_3 v20_4 v20_5 v20_6 =>
 CALL P Z 24 [.agg #[.int .u8 v20_0, .bool v20_1, .int .i64 v20_2, .string v20_3, v20_4.v, v20_5.v, v20_6.v]] [.agg [.nt .u8, .bl, .nt .i64, .tx, .sl, .sl, .sl]] h3 [] fun v21_0 v21_1 v21_2 v21_3 v21_4 v21_5 v21_6 h4 =>
 ALLOC [.int .u8 v21_0, .bool v21_1, .int .i64 v21_2, .string v21_3, v21_4.v, v21_5.v, v21_6.v] 27 h4 fun b22 h5 =>
 APPEND 7 104 27 [.int .u8 0, .bool false, .int .i64 0, .string ByteArray.empty, .slice none 0 0, .slice none 0 0, .slice none 0 0] x3.a x3.len x3.cap (some ⟨b22, 0, none⟩) 1 h5 [] fun v23 h6 =>
 nx2 v23 (IntKind.wrap .i64 (x4 + 1)) h6)
 (ALLOC [.int .u8 0, .bool false, .int .i64 (-777), .string ByteArray.empty, .slice none 0 0, .slice none 0 0, .slice none 0 0] 27 h3 fun b26 h7 =>
 APPEND 7 104 27 [.int .u8 0, .bool false, .int .i64 0, .string ByteArray.empty, .slice none 0 0, .slice none 0 0, .slice none 0 0] x3.a x3.len x3.cap (some ⟨b26, 0, none⟩) 1 h7 [] fun v27 h8 =>
 SLI 7 v27.a v27.len v27.cap none (some (p0.len : Int)) none fun v31 =>
 Q v31 h8)) v9 0 h1
def pl78 : Plan := ⟨[], [(3, ⟨[(3, .sl), (4, .nt .i64)], [0], []⟩)], [], [], [], []⟩
theorem q78_eq (Z : List PanicEntry → Heap → Prop) (p0 : Sl) (h0 : Heap) (Q : Cur (flat [.one (.sl)]) (Heap → Prop)) : q78 Z p0 h0 Q = (WPF P Z Tryz.f78 pl78 [.one (.sl)] h0 Q) p0 := by kernel_rfl

/- codicil/codicilref00.LentFields -/
def q79 (Z : List PanicEntry → Heap → Prop) (p0 : Sl) (h0 : Heap) (Q : Cur (flat [.one (.sl)]) (Heap → Prop)) : Prop :=
 MKS 120 132 [.string ByteArray.empty, .int .u8 0, .bool false, .int .i64 0, .string ByteArray.empty, .slice none 0 0, .slice none 0 0, .slice none 0 0] 0 (IntKind.wrap .i64 ((p0.len : Int) + 1)) h0 fun v9 h1 =>
 LOOP [.sl, .nt .i64] (fun x3 x4 h3 nx2 =>
 COND (decide (x4 < (p0.len : Int))) (IXA 8 p0.a p0.len x4 fun a19 =>
 LDN [.tx, .nt .u8, .bl, .nt .i64, .tx, .sl, .sl, .sl] a19 0 (EQ h3) fun v20_0 v20_1 v20_2 v20_3 v20_4 v20_5 v20_6 v20_7 =>
 CALL P Z 115 [.agg #[.string v20_0, .int .u8 v20_1, .bool v20_2, .int .i64 v20_3, .string v20_4, v20_5.v, v20_6.v, v20_7.v]] [.agg [.tx, .nt .u8, .bl, .nt .i64, .tx, .sl, .sl, .sl]] h3 [] fun v21_0 v21_1 v21_2 v21_3 v21_4 v21_5 v21_6 v21_7 h4 =>
 ALLOC [.string v21_0, .int .u8 v21_1, .bool v21_2, .int .i64 v21_3, .string v21_4, v21_5.v, v21_6.v, v21_7.v] 132 h4 fun b22 h5 =>
 APPEND 8 120 132 [.string ByteArray.empty, .int .u8 0, .bool false, .int .i64 0, .string ByteArray.empty, .slice none 0 0, .slice none 0 0, .slice none 0 0] x3.a x3.len x3.cap (some ⟨b22, 0, none⟩) 1 h5 [] fun v23 h6 =>
 nx2 v23 (IntKind.wrap .i64 (x4 + 1)) h6)
 (ALLOC [.string (ByteArray.mk #[116, 104, 101, 32, 111, 119, 110, 101, 114, 39, 115]), .int .u8 0, .bool false, .int .i64 0, .string ByteArray.empty, .slice none 0 0, .slice none 0 0, .slice none 0 0] 132 h3 fun b26 h7 =>
 APPEND 8 120 132 [.string ByteArray.empty, .int .u8 0, .bool false, .int .i64 0, .string ByteArray.empty, .slice none 0 0, .slice none 0 0, .slice none 0 0] x3.a x3.len x3.cap (some ⟨b26, 0, none⟩) 1 h7 [] fun v27 h8 =>
 SLI 8 v27.a v27.len v27.cap none (some (p0.len : Int)) none fun v31 =>
 Q v31 h8)) v9 0 h1
def pl79 : Plan := ⟨[], [(3, ⟨[(3, .sl), (4, .nt .i64)], [0], []⟩)], [], [], [], []⟩
theorem q79_eq (Z : List PanicEntry → Heap → Prop) (p0 : Sl) (h0 : Heap) (Q : Cur (flat [.one (.sl)]) (Heap → Prop)) : q79 Z p0 h0 Q = (WPF P Z Tryz.f79 pl79 [.one (.sl)] h0 Q) p0 := by kernel_rfl

/- codicil/key.One -/
def q80 (Z : List PanicEntry → Heap → Prop) (p0 : Int) (p1 : Bool) (p2 : Int) (p3 : ByteArray) (p4 : Sl) (p5 : Sl) (p6 : Sl) (p7 : Bool) (h0 : Heap) (Q : Cur (flat [.one (.sl), .one (.nt .u16)]) (Heap → Prop)) : Prop :=
 ALLOC [.int .u8 p0, .bool p1, .int .i64 p2, .string p3, p4.v, p5.v, p6.v] 27 h0 fun b2 h1 =>
 CALL P Z 84 [.agg #[.int .u8 p0, .bool p1, .int .i64 p2, .string p3, p4.v, p5.v, p6.v]] [.one (.nt .u16)] h1 [b2] fun v11 h2 =>
 COND (v11 != 0) (Q ⟨none, 0, 0⟩ 40 h2)
 (CALL P Z 116 [.agg #[.int .u8 p0, .bool p1, .int .i64 p2, .string p3, p4.v, p5.v, p6.v]] [.one (.bl)] h2 [b2] fun v15 h3 =>
 COND (!v15) (Q ⟨none, 0, 0⟩ 41 h3)
 (ALLOC [.slice none 0 0] 23 h3 fun b6 h4 =>
 JOIN [.oq] (fun k5 => COND p7 (ALLOC [.nilFunc] 79 h4 fun b8 h7 =>
 ONE (.func (.func 117) #[] #[.pointer (some ⟨b6, 0, none⟩)]) (PUTN b8 [.func (.func 117) #[] #[.pointer (some ⟨b6, 0, none⟩)]] 0 h7 fun h8 =>
 k5 (.func (.func 118) #[] #[.pointer (some ⟨b8, 0, none⟩)]) h8))
 (k5 (.func (.func 117) #[] #[.pointer (some ⟨b6, 0, none⟩)]) h4))
 fun x7 h6 =>
 CALL P Z 119 [.agg #[.int .u8 p0, .bool p1, .int .i64 p2, .string p3, p4.v, p5.v, p6.v], x7] [] h6 [b2] fun h9 =>
 LD (.sl) ⟨b6, 0, none⟩ (EQ h9) fun v24 =>
 COND (decide ((v24.len : Int) > 160)) (Q ⟨none, 0, 0⟩ 42 h9)
 (LD (.sl) ⟨b6, 0, none⟩ (EQ h9) fun v27 =>
 CALL P Z 88 [v27.v] [.one (.sl)] h9 [b2] fun v28 h10 =>
 Q v28 0 h10)))
def pl80 : Plan := ⟨[(10, ⟨[(7, .oq)], [2, 6], [2]⟩)], [], [], [], [], []⟩
theorem q80_eq (Z : List PanicEntry → Heap → Prop) (p0 : Int) (p1 : Bool) (p2 : Int) (p3 : ByteArray) (p4 : Sl) (p5 : Sl) (p6 : Sl) (p7 : Bool) (h0 : Heap) (Q : Cur (flat [.one (.sl), .one (.nt .u16)]) (Heap → Prop)) : q80 Z p0 p1 p2 p3 p4 p5 p6 p7 h0 Q = (WPF P Z Tryz.f80 pl80 [.agg [.nt .u8, .bl, .nt .i64, .tx, .sl, .sl, .sl], .one (.bl)] h0 Q) p0 p1 p2 p3 p4 p5 p6 p7 := by kernel_rfl

/- codicil/event.isName -/
def q81 (Z : List PanicEntry → Heap → Prop) (p0 : ByteArray) (h0 : Heap) (Q : Cur (flat [.one (.bl)]) (Heap → Prop)) : Prop :=
 CALL P Z 120 [.agg #[.string p0, .int .u32 1, .string ByteArray.empty, .slice none 0 0]] [.one (.nt .u16)] h0 [] fun v5 h1 =>
 Q (v5 == 0) h1
def pl81 : Plan := ⟨[], [], [], [], [], []⟩
theorem q81_eq (Z : List PanicEntry → Heap → Prop) (p0 : ByteArray) (h0 : Heap) (Q : Cur (flat [.one (.bl)]) (Heap → Prop)) : q81 Z p0 h0 Q = (WPF P Z Tryz.f81 pl81 [.one (.tx)] h0 Q) p0 := by kernel_rfl

/- codicil/value.Same -/
def q82 (Z : List PanicEntry → Heap → Prop) (p0 : Int) (p1 : Bool) (p2 : Int) (p3 : ByteArray) (p4 : Sl) (p5 : Sl) (p6 : Sl) (p7 : Int) (p8 : Bool) (p9 : Int) (p10 : ByteArray) (p11 : Sl) (p12 : Sl) (p13 : Sl) (h0 : Heap) (Q : Cur (flat [.one (.bl)]) (Heap → Prop)) : Prop :=
 ALLOC [.int .u8 p0, .bool p1, .int .i64 p2, .string p3, p4.v, p5.v, p6.v] 27 h0 fun b2 h1 =>
 ALLOC [.int .u8 p7, .bool p8, .int .i64 p9, .string p10, p11.v, p12.v, p13.v] 27 h1 fun b3 h2 =>
 JOIN [.bl] (fun k3 => COND (p0 == p7) (COND ((p1 == p8)) (COND (p2 == p9) (COND (p3.toList == p10.toList) (CALL P Z 121 [p4.v, p11.v] [.one (.bl)] h2 [b2, b3] fun v36 h5 =>
 COND v36 (CALL P Z 122 [p5.v, p12.v, .func (.func 82) #[] #[]] [.one (.bl)] h5 [b2, b3] fun v43 h6 =>
 COND v43 (CALL P Z 123 [p6.v, p13.v, .func (.func 124) #[] #[]] [.one (.bl)] h6 [b2, b3] fun v50 h7 =>
 k3 v50 h7)
 (k3 false h6))
 (k3 false h5))
 (k3 false h2))
 (k3 false h2))
 (k3 false h2))
 (k3 false h2))
 fun x4 h4 =>
 Q x4 h4
def pl82 : Plan := ⟨[], [], [], [(1, ⟨[(4, .bl)], [], []⟩)], [], []⟩
theorem q82_eq (Z : List PanicEntry → Heap → Prop) (p0 : Int) (p1 : Bool) (p2 : Int) (p3 : ByteArray) (p4 : Sl) (p5 : Sl) (p6 : Sl) (p7 : Int) (p8 : Bool) (p9 : Int) (p10 : ByteArray) (p11 : Sl) (p12 : Sl) (p13 : Sl) (h0 : Heap) (Q : Cur (flat [.one (.bl)]) (Heap → Prop)) : q82 Z p0 p1 p2 p3 p4 p5 p6 p7 p8 p9 p10 p11 p12 p13 h0 Q = (WPF P Z Tryz.f82 pl82 [.agg [.nt .u8, .bl, .nt .i64, .tx, .sl, .sl, .sl], .agg [.nt .u8, .bl, .nt .i64, .tx, .sl, .sl, .sl]] h0 Q) p0 p1 p2 p3 p4 p5 p6 p7 p8 p9 p10 p11 p12 p13 := by kernel_rfl

/- codicil/value.Get -/
def q83 (Z : List PanicEntry → Heap → Prop) (p0 : Int) (p1 : Bool) (p2 : Int) (p3 : ByteArray) (p4 : Sl) (p5 : Sl) (p6 : Sl) (p7 : ByteArray) (h0 : Heap) (Q : Cur (flat [.agg [.nt .u8, .bl, .nt .i64, .tx, .sl, .sl, .sl], .one (.bl)]) (Heap → Prop)) : Prop :=
 ALLOC [.int .u8 p0, .bool p1, .int .i64 p2, .string p3, p4.v, p5.v, p6.v] 27 h0 fun b2 h1 =>
 ALLOC [.string p7] 9 h1 fun b3 h2 =>
 ALLOC [.int .u8 0, .bool false, .int .i64 0, .string ByteArray.empty, .slice none 0 0, .slice none 0 0, .slice none 0 0] 27 h2 fun b4 h3 =>
 CALL P Z 125 [.agg #[.int .u8 p0, .bool p1, .int .i64 p2, .string p3, p4.v, p5.v, p6.v]] [.one (.oq)] h3 [b2, b3, b4] fun v11 h4 =>
 TAC 208 (.one (.sl)) v11 (fun v12 => CALL P Z 126 [v12.v, .func (.func 127) #[] #[.pointer (some ⟨b3, 0, none⟩)]] [.one (.nt .i64)] h4 [b2, b4] fun v20 h5 =>
 COND (decide (v20 < 0)) (PUTN b4 [.int .u8 0, .bool false, .int .i64 0, .string ByteArray.empty, .slice none 0 0, .slice none 0 0, .slice none 0 0] 0 h5 fun h6 =>
 Q 0 false 0 ByteArray.empty ⟨none, 0, 0⟩ ⟨none, 0, 0⟩ ⟨none, 0, 0⟩ false h6)
 (IXA 8 v12.a v12.len v20 fun a26 =>
 LDN [.nt .u8, .bl, .nt .i64, .tx, .sl, .sl, .sl] (a26.add 1) 0 (EQ h5) fun v28_0 v28_1 v28_2 v28_3 v28_4 v28_5 v28_6 =>
 CALL P Z 128 [.agg #[.int .u8 v28_0, .bool v28_1, .int .i64 v28_2, .string v28_3, v28_4.v, v28_5.v, v28_6.v]] [.agg [.nt .u8, .bl, .nt .i64, .tx, .sl, .sl, .sl]] h5 [b2, b4] fun v29_0 v29_1 v29_2 v29_3 v29_4 v29_5 v29_6 h7 =>
 PUTN b4 [.int .u8 v29_0, .bool v29_1, .int .i64 v29_2, .string v29_3, v29_4.v, v29_5.v, v29_6.v] 0 h7 fun h8 =>
 Q v29_0 v29_1 v29_2 v29_3 v29_4 v29_5 v29_6 true h8))
 (PUTN b4 [.int .u8 0, .bool false, .int .i64 0, .string ByteArray.empty, .slice none 0 0, .slice none 0 0, .slice none 0 0] 0 h4 fun h9 =>
 Q 0 false 0 ByteArray.empty ⟨none, 0, 0⟩ ⟨none, 0, 0⟩ ⟨none, 0, 0⟩ false h9)
def pl83 : Plan := ⟨[], [], [], [], [], []⟩
theorem q83_eq (Z : List PanicEntry → Heap → Prop) (p0 : Int) (p1 : Bool) (p2 : Int) (p3 : ByteArray) (p4 : Sl) (p5 : Sl) (p6 : Sl) (p7 : ByteArray) (h0 : Heap) (Q : Cur (flat [.agg [.nt .u8, .bl, .nt .i64, .tx, .sl, .sl, .sl], .one (.bl)]) (Heap → Prop)) : q83 Z p0 p1 p2 p3 p4 p5 p6 p7 h0 Q = (WPF P Z Tryz.f83 pl83 [.agg [.nt .u8, .bl, .nt .i64, .tx, .sl, .sl, .sl], .one (.tx)] h0 Q) p0 p1 p2 p3 p4 p5 p6 p7 := by kernel_rfl

/- codicil/value.Check -/
def q84 (Z : List PanicEntry → Heap → Prop) (p0 : Int) (p1 : Bool) (p2 : Int) (p3 : ByteArray) (p4 : Sl) (p5 : Sl) (p6 : Sl) (h0 : Heap) (Q : Cur (flat [.one (.nt .u16)]) (Heap → Prop)) : Prop :=
 ALLOC [.int .u8 p0, .bool p1, .int .i64 p2, .string p3, p4.v, p5.v, p6.v] 27 h0 fun b1 h1 =>
 ALLOC [.int .u16 0] 34 h1 fun b2 h2 =>
 CALL P Z 129 [.agg #[.int .u8 p0, .bool p1, .int .i64 p2, .string p3, p4.v, p5.v, p6.v], .int .i64 8] [.one (.bl)] h2 [b1, b2] fun v8 h3 =>
 COND v8 (PUTN b2 [.int .u16 31] 0 h3 fun h4 =>
 Q 31 h4)
 (ALLOC [.int .i64 0] 3 h3 fun b3 h5 =>
 PUTN b3 [.int .i64 0] 0 h5 fun h6 =>
 CALL P Z 130 [.agg #[.int .u8 p0, .bool p1, .int .i64 p2, .string p3, p4.v, p5.v, p6.v]] [.one (.oq)] h6 [b1, b2, b3] fun v10 h7 =>
 RANGEF P v10 [.one (.nt .i64), .agg [.nt .u8, .bl, .nt .i64, .tx, .sl, .sl, .sl]] h7 [b1] (fun v11 v12_0 v12_1 v12_2 v12_3 v12_4 v12_5 v12_6 l9 ready10 busy11 done12 R13 h8 => BEGIN l9 ready10 busy11 h8 fun h14 =>
 LD (.nt .i64) ⟨b3, 0, none⟩ (EQ h14) fun v13 =>
 STN ⟨b3, 0, none⟩ [.int .i64 (IntKind.wrap .i64 (v13 + 1))] 0 h14 [b1] fun h15 =>
 LD (.nt .i64) ⟨b3, 0, none⟩ (EQ h15) fun v15 =>
 COND (decide (v15 > 512)) (STN ⟨b2, 0, none⟩ [.int .u16 32] 0 h15 [b1] fun h16 =>
 (h16[l9]? = some busy11 ∧ R13 (.returned (.bool false)) (h16.setIfInBounds l9 (done12 .ret))))
 ((h15[l9]? = some busy11 ∧ R13 (.returned (.bool true)) (h15.setIfInBounds l9 ready10))))
 (fun h17 => CALL P (fun c h => LEAVE P Z (fun h => LD (.nt .u16) ⟨b2, 0, none⟩ (EQ h) fun r2 =>
 Q r2 h) [.mk h7.size] (.panicking c) h) 130 [.agg #[.int .u8 p0, .bool p1, .int .i64 p2, .string p3, p4.v, p5.v, p6.v]] [.one (.oq)] h17 [b1] fun v18 h18 =>
 RANGEF P v18 [.one (.nt .i64), .agg [.nt .u8, .bl, .nt .i64, .tx, .sl, .sl, .sl]] h18 [b1] (fun v19 v20_0 v20_1 v20_2 v20_3 v20_4 v20_5 v20_6 l20 ready21 busy22 done23 R24 h19 => ALLOC [.int .u8 0, .bool false, .int .i64 0, .string ByteArray.empty, .slice none 0 0, .slice none 0 0, .slice none 0 0] 27 h19 fun b5 h25 =>
 PUTN b5 [.int .u8 v20_0, .bool v20_1, .int .i64 v20_2, .string v20_3, v20_4.v, v20_5.v, v20_6.v] 0 h25 fun h26 =>
 BEGIN l20 ready21 busy22 h26 fun h27 =>
 CALL P (fun _ _ => False) 131 [.agg #[.int .u8 v20_0, .bool v20_1, .int .i64 v20_2, .string v20_3, v20_4.v, v20_5.v, v20_6.v]] [.one (.nt .u16)] h27 [b1, b5] fun v22 h28 =>
 COND (v22 != 0) (STN ⟨b2, 0, none⟩ [.int .u16 v22] 0 h28 [b1, b5] fun h29 =>
 (h29[l20]? = some busy22 ∧ R24 (.returned (.bool false)) (h29.setIfInBounds l20 (done23 .ret))))
 ((h28[l20]? = some busy22 ∧ R24 (.returned (.bool true)) (h28.setIfInBounds l20 ready21))))
 (fun h30 => STN ⟨b2, 0, none⟩ [.int .u16 0] 0 h30 [b1] fun h31 =>
 LEAVE P Z (fun h => LD (.nt .u16) ⟨b2, 0, none⟩ (EQ h) fun r2 =>
 Q r2 h) [.mk h18.size, .mk h7.size] .returning h31)
 [(.ret, fun h30 => LEAVE P Z (fun h => LD (.nt .u16) ⟨b2, 0, none⟩ (EQ h) fun r2 =>
 Q r2 h) [.mk h18.size, .mk h7.size] .returning h30)])
 [(.ret, fun h17 => LEAVE P Z (fun h => LD (.nt .u16) ⟨b2, 0, none⟩ (EQ h) fun r2 =>
 Q r2 h) [.mk h7.size] .returning h17)])
def pl84 : Plan := ⟨[], [(10, ⟨[], [], [1]⟩), (5, ⟨[], [], [1]⟩)], [], [], [], [(10, [.one (.nt .i64), .agg [.nt .u8, .bl, .nt .i64, .tx, .sl, .sl, .sl]]), (5, [.one (.nt .i64), .agg [.nt .u8, .bl, .nt .i64, .tx, .sl, .sl, .sl]])]⟩
theorem q84_eq (Z : List PanicEntry → Heap → Prop) (p0 : Int) (p1 : Bool) (p2 : Int) (p3 : ByteArray) (p4 : Sl) (p5 : Sl) (p6 : Sl) (h0 : Heap) (Q : Cur (flat [.one (.nt .u16)]) (Heap → Prop)) : q84 Z p0 p1 p2 p3 p4 p5 p6 h0 Q = (WPF P Z Tryz.f84 pl84 [.agg [.nt .u8, .bl, .nt .i64, .tx, .sl, .sl, .sl]] h0 Q) p0 p1 p2 p3 p4 p5 p6 := by kernel_rfl

/- (*codicil/code.Writer).fixed -/
def q85 (Z : List PanicEntry → Heap → Prop) (p0 : Option Addr) (p1 : Int) (p2 : Int) (h0 : Heap) (Q : Cur (flat []) (Heap → Prop)) : Prop :=
 LOOP [.nt .i64] (fun x2 h2 nx1 =>
 COND (decide (x2 ≥ 0)) (DRAW h2 [] fun S3 =>
 NN p0 fun a14 =>
 LD (.sl) (a14.add 0) S3 fun v16 =>
 SHI (IntKind.wrap .i64 (8 * x2)) (ALLOC [.int .u8 (IntKind.wrap .u8 ((ishr .u64 p1 (IntKind.wrap .i64 (8 * x2)))))] 5 h2 fun b22 h4 =>
 SS S3 h4 (
 APPEND 1 1 5 [.int .u8 0] v16.a v16.len v16.cap (some ⟨b22, 0, none⟩) 1 h4 [] fun v23 h5 =>
 SS S3 h5 (
 NN p0 fun a24 =>
 STN (a24.add 0) [v23.v] 0 h5 [] fun h6 =>
 nx1 (IntKind.wrap .i64 (x2 - 1)) h6))))
 (Q h2)) (IntKind.wrap .i64 (p2 - 1)) h0
def pl85 : Plan := ⟨[], [(1, ⟨[(2, .nt .i64)], [0, 1], []⟩)], [], [], [(3, false, [0, 1, 2, 3, 4, 5, 6, 7, 8, 9, 10, 11, 12, 13, 14])], []⟩
theorem q85_eq (Z : List PanicEntry → Heap → Prop) (p0 : Option Addr) (p1 : Int) (p2 : Int) (h0 : Heap) (Q : Cur (flat []) (Heap → Prop)) : q85 Z p0 p1 p2 h0 Q = (WPF P Z Tryz.f85 pl85 [.one (.pt), .one (.nt .u64), .one (.nt .i64)] h0 Q) p0 p1 p2 := by kernel_rfl

/- (*codicil/code.Writer).Varint -/
def q86 (Z : List PanicEntry → Heap → Prop) (p0 : Option Addr) (p1 : Int) (h0 : Heap) (Q : Cur (flat []) (Heap → Prop)) : Prop :=
 LOOP [.nt .u64] (fun x1 h2 nx1 =>
 COND (decide (x1 ≥ 128)) (NN p0 fun a10 =>
 LD (.sl) (a10.add 0) (EQ h2) fun v12 =>
 ALLOC [.int .u8 (ior .u8 (IntKind.wrap .u8 (x1)) 128)] 5 h2 fun b16 h3 =>
 APPEND 1 1 5 [.int .u8 0] v12.a v12.len v12.cap (some ⟨b16, 0, none⟩) 1 h3 [] fun v17 h4 =>
 NN p0 fun a18 =>
 STN (a18.add 0) [v17.v] 0 h4 [] fun h5 =>
 SHI 7 (nx1 (ishr .u64 x1 7) h5))
 (NN p0 fun a22 =>
 LD (.sl) (a22.add 0) (EQ h2) fun v24 =>
 ALLOC [.int .u8 (IntKind.wrap .u8 (x1))] 5 h2 fun b27 h6 =>
 APPEND 1 1 5 [.int .u8 0] v24.a v24.len v24.cap (some ⟨b27, 0, none⟩) 1 h6 [] fun v28 h7 =>
 NN p0 fun a29 =>
 STN (a29.add 0) [v28.v] 0 h7 [] fun h8 =>
 Q h8)) p1 h0
def pl86 : Plan := ⟨[], [(0, ⟨[(1, .nt .u64)], [0], []⟩)], [], [], [], []⟩
theorem q86_eq (Z : List PanicEntry → Heap → Prop) (p0 : Option Addr) (p1 : Int) (h0 : Heap) (Q : Cur (flat []) (Heap → Prop)) : q86 Z p0 p1 h0 Q = (WPF P Z Tryz.f86 pl86 [.one (.pt), .one (.nt .u64)] h0 Q) p0 p1 := by kernel_rfl

/- codicil/doc.Encode -/
def q87 (Z : List PanicEntry → Heap → Prop) (p0 : Int) (p1 : Bool) (p2 : Int) (p3 : ByteArray) (p4 : Sl) (p5 : Sl) (p6 : Sl) (h0 : Heap) (Q : Cur (flat [.one (.sl), .one (.nt .u16)]) (Heap → Prop)) : Prop :=
 ALLOC [.int .u8 p0, .bool p1, .int .i64 p2, .string p3, p4.v, p5.v, p6.v] 27 h0 fun b1 h1 =>
 CALL P Z 84 [.agg #[.int .u8 p0, .bool p1, .int .i64 p2, .string p3, p4.v, p5.v, p6.v]] [.one (.nt .u16)] h1 [b1] fun v7 h2 =>
 COND (v7 != 0) (Q ⟨none, 0, 0⟩ v7 h2)
 (CALL P Z 26 [] [.one (.pt)] h2 [b1] fun v11 h3 =>
 CALL P Z 132 [.pointer v11, .agg #[.int .u8 p0, .bool p1, .int .i64 p2, .string p3, p4.v, p5.v, p6.v]] [] h3 [b1] fun h4 =>
 CALL P Z 31 [.pointer v11] [.one (.nt .i64)] h4 [b1] fun v16 h5 =>
 COND (decide (v16 > 8192)) (Q ⟨none, 0, 0⟩ 51 h5)
 (CALL P Z 32 [.pointer v11] [.one (.sl)] h5 [b1] fun v19 h6 =>
 Q v19 0 h6))
def pl87 : Plan := ⟨[], [], [], [], [], []⟩
theorem q87_eq (Z : List PanicEntry → Heap → Prop) (p0 : Int) (p1 : Bool) (p2 : Int) (p3 : ByteArray) (p4 : Sl) (p5 : Sl) (p6 : Sl) (h0 : Heap) (Q : Cur (flat [.one (.sl), .one (.nt .u16)]) (Heap → Prop)) : q87 Z p0 p1 p2 p3 p4 p5 p6 h0 Q = (WPF P Z Tryz.f87 pl87 [.agg [.nt .u8, .bl, .nt .i64, .tx, .sl, .sl, .sl]] h0 Q) p0 p1 p2 p3 p4 p5 p6 := by kernel_rfl

/- slices.Clip[[]byte,byte] -/
def q88 (Z : List PanicEntry → Heap → Prop) (p0 : Sl) (h0 : Heap) (Q : Cur (flat [.one (.sl)]) (Heap → Prop)) : Prop :=
 SLI 1 p0.a p0.len p0.cap none (some (p0.len : Int)) (some (p0.len : Int)) fun v8 =>
 Q v8 h0
def pl88 : Plan := ⟨[], [], [], [], [], []⟩
theorem q88_eq (Z : List PanicEntry → Heap → Prop) (p0 : Sl) (h0 : Heap) (Q : Cur (flat [.one (.sl)]) (Heap → Prop)) : q88 Z p0 h0 Q = (WPF P Z Tryz.f88 pl88 [.one (.sl)] h0 Q) p0 := by kernel_rfl

/- slices.Clone[[]byte,byte] -/
def q89 (Z : List PanicEntry → Heap → Prop) (p0 : Sl) (h0 : Heap) (Q : Cur (flat [.one (.sl)]) (Heap → Prop)) : Prop :=
 COND (p0.a.isNone) (Q ⟨none, 0, 0⟩ h0)
 (ALLOC [] 5 h0 fun b5 h1 =>
 APPEND 1 1 5 [.int .u8 0] (some ⟨b5, 0, none⟩) 0 0 p0.a p0.len h1 [] fun v7 h2 =>
 Q v7 h2)
def pl89 : Plan := ⟨[], [], [], [], [], []⟩
theorem q89_eq (Z : List PanicEntry → Heap → Prop) (p0 : Sl) (h0 : Heap) (Q : Cur (flat [.one (.sl)]) (Heap → Prop)) : q89 Z p0 h0 Q = (WPF P Z Tryz.f89 pl89 [.one (.sl)] h0 Q) p0 := by kernel_rfl

/- codicil/code.whole -/
def q90 (Z : List PanicEntry → Heap → Prop) (p0 : Int) (p1 : Value) (h0 : Heap) (Q : Cur (flat [.one (.nt .u64)]) (Heap → Prop)) : Prop :=
 CALLV P Z p1 [.int .i64 p0] [.one (.sl)] h0 [] fun v9 h1 =>
 LOOP [.nt .u64, .nt .i64] (fun x4 x11 h3 nx2 =>
 COND (decide (x11 < (v9.len : Int))) (IXA 1 v9.a v9.len x11 fun a13 =>
 LD (.nt .u8) a13 (EQ h3) fun v14 =>
 SHI 8 (nx2 (ior .u64 (ishl .u64 x4 8) (IntKind.wrap .u64 (v14))) (IntKind.wrap .i64 (x11 + 1)) h3))
 (Q x4 h3)) 0 0 h1
def pl90 : Plan := ⟨[], [(2, ⟨[(4, .nt .u64), (11, .nt .i64)], [9, 10], []⟩)], [], [], [], []⟩
theorem q90_eq (Z : List PanicEntry → Heap → Prop) (p0 : Int) (p1 : Value) (h0 : Heap) (Q : Cur (flat [.one (.nt .u64)]) (Heap → Prop)) : q90 Z p0 p1 h0 Q = (WPF P Z Tryz.f90 pl90 [.one (.nt .i64), .one (.oq)] h0 Q) p0 p1 := by kernel_rfl

/- (*codicil/code.Reader).take -/
def q91 (Z : List PanicEntry → Heap → Prop) (p0 : Option Addr) (p1 : Int) (h0 : Heap) (Q : Cur (flat [.one (.sl)]) (Heap → Prop)) : Prop :=
 NN p0 fun a8 =>
 LD (.nt .u16) (a8.add 2) (EQ h0) fun v10 =>
 COND (v10 != 0) (Q ⟨none, 0, 0⟩ h0)
 (COND (decide (p1 < 0)) (CALL P Z 93 [.pointer p0, .int .u16 1] [] h0 [] fun h1 =>
 Q ⟨none, 0, 0⟩ h1)
 (NN p0 fun a20 =>
 LD (.sl) (a20.add 0) (EQ h0) fun v22 =>
 NN p0 fun a25 =>
 LD (.nt .i64) (a25.add 1) (EQ h0) fun v27 =>
 COND (decide (p1 > (IntKind.wrap .i64 ((v22.len : Int) - v27)))) (CALL P Z 93 [.pointer p0, .int .u16 20] [] h0 [] fun h2 =>
 Q ⟨none, 0, 0⟩ h2)
 (NN p0 fun a33 =>
 LD (.sl) (a33.add 0) (EQ h0) fun v35 =>
 NN p0 fun a37 =>
 LD (.nt .i64) (a37.add 1) (EQ h0) fun v39 =>
 NN p0 fun a41 =>
 LD (.nt .i64) (a41.add 1) (EQ h0) fun v43 =>
 SLI 1 v35.a v35.len v35.cap (some v39) (some (IntKind.wrap .i64 (v43 + p1))) none fun v46 =>
 NN p0 fun a48 =>
 LD (.nt .i64) (a48.add 1) (EQ h0) fun v50 =>
 NN p0 fun a53 =>
 STN (a53.add 1) [.int .i64 (IntKind.wrap .i64 (v50 + p1))] 0 h0 [] fun h3 =>
 Q v46 h3)))
def pl91 : Plan := ⟨[], [], [], [], [(9, true, [0, 1, 2, 3, 4, 5, 6, 7, 8, 9, 10, 11, 12, 13, 14, 15]), (6, true, [0, 1, 2, 3, 4, 5, 6, 7, 8, 9, 10, 11, 12])], []⟩
theorem q91_eq (Z : List PanicEntry → Heap → Prop) (p0 : Option Addr) (p1 : Int) (h0 : Heap) (Q : Cur (flat [.one (.sl)]) (Heap → Prop)) : q91 Z p0 p1 h0 Q = (WPF P Z Tryz.f91 pl91 [.one (.pt), .one (.nt .i64)] h0 Q) p0 p1 := by kernel_rfl

/- (*codicil/code.Reader).Varint -/
def q92 (Z : List PanicEntry → Heap → Prop) (p0 : Option Addr) (h0 : Heap) (Q : Cur (flat [.one (.nt .u64)]) (Heap → Prop)) : Prop :=
 NN p0 fun a7 =>
 LD (.nt .u16) (a7.add 2) (EQ h0) fun v9 =>
 COND (v9 != 0) (Q 0 h0)
 (DRAW h0 [] fun S1 =>
 NN p0 fun a13 =>
 LD (.sl) (a13.add 0) S1 fun v15 =>
 NN p0 fun a17 =>
 LD (.nt .i64) (a17.add 1) S1 fun v19 =>
 SLI 1 v15.a v15.len v15.cap (some v19) none none fun v20 =>
 CALL P (fun _ _ => False) 133 [v20.v] [.one (.nt .u64), .one (.nt .i64), .one (.nt .u16)] h0 [] fun v21_0 v21_1 v21_2 h2 =>
 SS S1 h2 (
 COND (v21_2 != 0) (CALL P Z 93 [.pointer p0, .int .u16 v21_2] [] h2 [] fun h3 =>
 Q 0 h3)
 (NN p0 fun a31 =>
 LD (.nt .i64) (a31.add 1) (EQ h2) fun v33 =>
 NN p0 fun a36 =>
 STN (a36.add 1) [.int .i64 (IntKind.wrap .i64 (v33 + v21_1))] 0 h2 [] fun h4 =>
 Q v21_0 h4)))
def pl92 : Plan := ⟨[], [], [], [], [(3, false, [0, 1, 2, 3, 4, 5, 6, 7, 8, 9, 10, 11, 12, 13, 14, 15, 16])], []⟩
theorem q92_eq (Z : List PanicEntry → Heap → Prop) (p0 : Option Addr) (h0 : Heap) (Q : Cur (flat [.one (.nt .u64)]) (Heap → Prop)) : q92 Z p0 h0 Q = (WPF P Z Tryz.f92 pl92 [.one (.pt)] h0 Q) p0 := by kernel_rfl

/- (*codicil/code.Reader).fail -/
def q93 (Z : List PanicEntry → Heap → Prop) (p0 : Option Addr) (p1 : Int) (h0 : Heap) (Q : Cur (flat []) (Heap → Prop)) : Prop :=
 NN p0 fun a5 =>
 LD (.nt .u16) (a5.add 2) (EQ h0) fun v7 =>
 COND (v7 == 0) (NN p0 fun a13 =>
 LD (.nt .i64) (a13.add 1) (EQ h0) fun v15 =>
 NN p0 fun a16 =>
 STN (a16.add 2) [.int .u16 p1] 0 h0 [] fun h1 =>
 NN p0 fun a18 =>
 STN (a18.add 3) [.int .i64 v15] 0 h1 [] fun h2 =>
 Q h2)
 (Q h0)
def pl93 : Plan := ⟨[], [], [], [], [], []⟩
theorem q93_eq (Z : List PanicEntry → Heap → Prop) (p0 : Option Addr) (p1 : Int) (h0 : Heap) (Q : Cur (flat []) (Heap → Prop)) : q93 Z p0 p1 h0 Q = (WPF P Z Tryz.f93 pl93 [.one (.pt), .one (.nt .u16)] h0 Q) p0 p1 := by kernel_rfl

/- codicil/doc.Decode -/
def q94 (Z : List PanicEntry → Heap → Prop) (p0 : Sl) (h0 : Heap) (Q : Cur (flat [.agg [.nt .u8, .bl, .nt .i64, .tx, .sl, .sl, .sl], .one (.nt .u16)]) (Heap → Prop)) : Prop :=
 ALLOC [.int .u8 0, .bool false, .int .i64 0, .string ByteArray.empty, .slice none 0 0, .slice none 0 0, .slice none 0 0] 27 h0 fun b2 h1 =>
 COND (decide ((p0.len : Int) > 8192)) (PUTN b2 [.int .u8 0, .bool false, .int .i64 0, .string ByteArray.empty, .slice none 0 0, .slice none 0 0, .slice none 0 0] 0 h1 fun h2 =>
 Q 0 false 0 ByteArray.empty ⟨none, 0, 0⟩ ⟨none, 0, 0⟩ ⟨none, 0, 0⟩ 50 h2)
 (CALL P Z 35 [p0.v] [.one (.pt)] h1 [b2] fun v11 h3 =>
 ALLOC [.pointer v11, .bool false] 224 h3 fun b13 h4 =>
 CALL P Z 134 [.pointer (some ⟨b13, 0, none⟩), .int .i64 9] [.agg [.nt .u8, .bl, .nt .i64, .tx, .sl, .sl, .sl]] h4 [b2] fun v15_0 v15_1 v15_2 v15_3 v15_4 v15_5 v15_6 h5 =>
 ALLOC [.int .u8 0, .bool false, .int .i64 0, .string ByteArray.empty, .slice none 0 0, .slice none 0 0, .slice none 0 0] 27 h5 fun b5 h6 =>
 PUTN b5 [.int .u8 v15_0, .bool v15_1, .int .i64 v15_2, .string v15_3, v15_4.v, v15_5.v, v15_6.v] 0 h6 fun h7 =>
 JOIN [.bl] (fun k8 => LD (.bl) ⟨b13, 1, none⟩ (EQ h7) fun v19 =>
 COND v19 (k8 true h7)
 (LD (.pt) ⟨b13, 0, none⟩ (EQ h7) fun v24 =>
 CALL P Z 42 [.pointer v24] [.one (.nt .u16)] h7 [b2, b5] fun v25 h10 =>
 COND (v25 != 0) (k8 true h10)
 (CALL P Z 84 [.agg #[.int .u8 v15_0, .bool v15_1, .int .i64 v15_2, .string v15_3, v15_4.v, v15_5.v, v15_6.v]] [.one (.nt .u16)] h10 [b2, b5] fun v30 h11 =>
 k8 (v30 != 0) h11)))
 fun x32 h9 =>
 COND x32 (PUTN b2 [.int .u8 0, .bool false, .int .i64 0, .string ByteArray.empty, .slice none 0 0, .slice none 0 0, .slice none 0 0] 0 h9 fun h12 =>
 Q 0 false 0 ByteArray.empty ⟨none, 0, 0⟩ ⟨none, 0, 0⟩ ⟨none, 0, 0⟩ 50 h12)
 (CALL P Z 128 [.agg #[.int .u8 v15_0, .bool v15_1, .int .i64 v15_2, .string v15_3, v15_4.v, v15_5.v, v15_6.v]] [.agg [.nt .u8, .bl, .nt .i64, .tx, .sl, .sl, .sl]] h9 [b2, b5] fun v35_0 v35_1 v35_2 v35_3 v35_4 v35_5 v35_6 h13 =>
 PUTN b2 [.int .u8 v35_0, .bool v35_1, .int .i64 v35_2, .string v35_3, v35_4.v, v35_5.v, v35_6.v] 0 h13 fun h14 =>
 Q v35_0 v35_1 v35_2 v35_3 v35_4 v35_5 v35_6 0 h14))
def pl94 : Plan := ⟨[], [], [], [(5, ⟨[(32, .bl)], [2, 5], [2, 5]⟩)], [], []⟩
theorem q94_eq (Z : List PanicEntry → Heap → Prop) (p0 : Sl) (h0 : Heap) (Q : Cur (flat [.agg [.nt .u8, .bl, .nt .i64, .tx, .sl, .sl, .sl], .one (.nt .u16)]) (Heap → Prop)) : q94 Z p0 h0 Q = (WPF P Z Tryz.f94 pl94 [.one (.sl)] h0 Q) p0 := by kernel_rfl

/- codicil/codicilref00.WholeValues -/
def q95 (Z : List PanicEntry → Heap → Prop) (p0 : Sl) (p1 : Sl) (h0 : Heap) (Q : Cur (flat [.one (.bl)]) (Heap → Prop)) : Prop :=
 JOIN [.bl] (fun k1 => COND ((p0.len : Int) != (p1.len : Int)) (k1 true h0)
 (COND (decide ((p0.cap : Int) < (IntKind.wrap .i64 ((p0.len : Int) + 1)))) (k1 true h0)
 (SLI 7 p0.a p0.len p0.cap none (some (IntKind.wrap .i64 ((p0.len : Int) + 1))) none fun v24 =>
 IXA 7 v24.a v24.len (p0.len : Int) fun a27 =>
 LD (.nt .i64) (a27.add 2) (EQ h0) fun v29 =>
 k1 (v29 != (-777)) h0)))
 fun x31 h2 =>
 COND x31 (Q false h2)
 (LOOP [.nt .i64] (fun x5 h4 nx3 =>
 COND (decide (x5 < (p1.len : Int))) (DRAW h4 [] fun S5 =>
 IXA 7 p0.a p0.len x5 fun a40 =>
 LDN [.nt .u8, .bl, .nt .i64, .tx, .sl, .sl, .sl] a40 0 S5 fun v41_0 v41_1 v41_2 v41_3 v41_4 v41_5 v41_6 =>
 IXA 7 p1.a p1.len x5 fun a44 =>
 LDN [.nt .u8, .bl, .nt .i64, .tx, .sl, .sl, .sl] a44 0 S5 fun v45_0 v45_1 v45_2 v45_3 v45_4 v45_5 v45_6 =>
 CALL P (fun _ _ => False) 43 [.agg #[.int .u8 v41_0, .bool v41_1, .int .i64 v41_2, .string v41_3, v41_4.v, v41_5.v, v41_6.v], .agg #[.int .u8 v45_0, .bool v45_1, .int .i64 v45_2, .string v45_3, v45_4.v, v45_5.v, v45_6.v]] [.one (.bl)] h4 [] fun v46 h6 =>
 SS S5 h6 (
 COND (!v46) (Q false h6)
 (nx3 (IntKind.wrap .i64 (x5 + 1)) h6)))
 (Q true h4)) 0 h2)
def pl95 : Plan := ⟨[], [(4, ⟨[(5, .nt .i64)], [0, 1], []⟩)], [], [(1, ⟨[(31, .bl)], [0, 1], []⟩)], [(6, false, [0, 1, 2, 3, 4, 5, 6, 7, 8, 9])], []⟩
theorem q95_eq (Z : List PanicEntry → Heap → Prop) (p0 : Sl) (p1 : Sl) (h0 : Heap) (Q : Cur (flat [.one (.bl)]) (Heap → Prop)) : q95 Z p0 p1 h0 Q = (WPF P Z Tryz.f95 pl95 [.one (.sl), .one (.sl)] h0 Q) p0 p1 := by kernel_rfl

/- codicil/codicilref00.WholeFields -/
def q96 (Z : List PanicEntry → Heap → Prop) (p0 : Sl) (p1 : Sl) (h0 : Heap) (Q : Cur (flat [.one (.bl)]) (Heap → Prop)) : Prop :=
 JOIN [.bl] (fun k1 => COND ((p0.len : Int) != (p1.len : Int)) (k1 true h0)
 (COND (decide ((p0.cap : Int) < (IntKind.wrap .i64 ((p0.len : Int) + 1)))) (k1 true h0)
 (SLI 8 p0.a p0.len p0.cap none (some (IntKind.wrap .i64 ((p0.len : Int) + 1))) none fun v24 =>
 IXA 8 v24.a v24.len (p0.len : Int) fun a27 =>
 LD (.tx) (a27.add 0) (EQ h0) fun v29 =>
 k1 (!(v29.toList == (ByteArray.mk #[116, 104, 101, 32, 111, 119, 110, 101, 114, 39, 115]).toList)) h0)))
 fun x31 h2 =>
 COND x31 (Q false h2)
 (LOOP [.nt .i64] (fun x5 h4 nx3 =>
 COND (decide (x5 < (p1.len : Int))) (DRAW h4 [] fun S5 =>
 IXA 8 p0.a p0.len x5 fun a40 =>
 LDN [.tx, .nt .u8, .bl, .nt .i64, .tx, .sl, .sl, .sl] a40 0 S5 fun v41_0 v41_1 v41_2 v41_3 v41_4 v41_5 v41_6 v41_7 =>
 IXA 8 p1.a p1.len x5 fun a44 =>
 LDN [.tx, .nt .u8, .bl, .nt .i64, .tx, .sl, .sl, .sl] a44 0 S5 fun v45_0 v45_1 v45_2 v45_3 v45_4 v45_5 v45_6 v45_7 =>
 CALL P (fun _ _ => False) 135 [.agg #[.string v41_0, .int .u8 v41_1, .bool v41_2, .int .i64 v41_3, .string v41_4, v41_5.v, v41_6.v, v41_7.v], .agg #[.string v45_0, .int .u8 v45_1, .bool v45_2, .int .i64 v45_3, .string v45_4, v45_5.v, v45_6.v, v45_7.v]] [.one (.bl)] h4 [] fun v46 h6 =>
 SS S5 h6 (
 COND (!v46) (Q false h6)
 (nx3 (IntKind.wrap .i64 (x5 + 1)) h6)))
 (Q true h4)) 0 h2)
def pl96 : Plan := ⟨[], [(4, ⟨[(5, .nt .i64)], [0, 1], []⟩)], [], [(1, ⟨[(31, .bl)], [0, 1], []⟩)], [(6, false, [0, 1, 2, 3, 4, 5, 6, 7, 8, 9])], []⟩
theorem q96_eq (Z : List PanicEntry → Heap → Prop) (p0 : Sl) (p1 : Sl) (h0 : Heap) (Q : Cur (flat [.one (.bl)]) (Heap → Prop)) : q96 Z p0 p1 h0 Q = (WPF P Z Tryz.f96 pl96 [.one (.sl), .one (.sl)] h0 Q) p0 p1 := by kernel_rfl

/- codicil/codicilref00.SpoilValues -/
def q97 (Z : List PanicEntry → Heap → Prop) (p0 : Sl) (h0 : Heap) (Q : Cur (flat []) (Heap → Prop)) : Prop :=
 LOOP [.nt .i64] (fun x2 h2 nx1 =>
 COND (decide (x2 < (p0.len : Int))) (IXA 7 p0.a p0.len x2 fun a13 =>
 LDN [.nt .u8, .bl, .nt .i64, .tx, .sl, .sl, .sl] a13 0 (EQ h2) fun v14_0 v14_1 v14_2 v14_3 v14_4 v14_5 v14_6 =>
 CALL P Z 44 [.agg #[.int .u8 v14_0, .bool v14_1, .int .i64 v14_2, .string v14_3, v14_4.v, v14_5.v, v14_6.v]] [] h2 [] fun h3 =>
 nx1 (IntKind.wrap .i64 (x2 + 1)) h3)
 (SLI 7 p0.a p0.len p0.cap none (some (p0.cap : Int)) none fun v19 =>
 LOOP [.nt .i64] (fun x4 h5 nx4 =>
 COND (decide (x4 < (v19.len : Int))) (IXA 7 v19.a v19.len x4 fun a29 =>
 STN a29 [.int .u8 0, .bool false, .int .i64 0, .string ByteArray.empty, .slice none 0 0, .slice none 0 0, .slice none 0 0] 0 h5 [] fun h6 =>
 nx4 (IntKind.wrap .i64 (x4 + 1)) h6)
 (Q h5)) 0 h2)) 0 h0
def pl97 : Plan := ⟨[], [(6, ⟨[(4, .nt .i64)], [3], []⟩), (1, ⟨[(2, .nt .i64)], [0], []⟩)], [], [], [], []⟩
theorem q97_eq (Z : List PanicEntry → Heap → Prop) (p0 : Sl) (h0 : Heap) (Q : Cur (flat []) (Heap → Prop)) : q97 Z p0 h0 Q = (WPF P Z Tryz.f97 pl97 [.one (.sl)] h0 Q) p0 := by kernel_rfl

/- codicil/codicilref00.SpoilFields -/
def q98 (Z : List PanicEntry → Heap → Prop) (p0 : Sl) (h0 : Heap) (Q : Cur (flat []) (Heap → Prop)) : Prop :=
 LOOP [.nt .i64] (fun x2 h2 nx1 =>
 COND (decide (x2 < (p0.len : Int))) (IXA 8 p0.a p0.len x2 fun a13 =>
 LDN [.tx, .nt .u8, .bl, .nt .i64, .tx, .sl, .sl, .sl] a13 0 (EQ h2) fun v14_0 v14_1 v14_2 v14_3 v14_4 v14_5 v14_6 v14_7 =>
 CALL P Z 136 [.agg #[.string v14_0, .int .u8 v14_1, .bool v14_2, .int .i64 v14_3, .string v14_4, v14_5.v, v14_6.v, v14_7.v]] [] h2 [] fun h3 =>
 nx1 (IntKind.wrap .i64 (x2 + 1)) h3)
 (SLI 8 p0.a p0.len p0.cap none (some (p0.cap : Int)) none fun v19 =>
 LOOP [.nt .i64] (fun x4 h5 nx4 =>
 COND (decide (x4 < (v19.len : Int))) (IXA 8 v19.a v19.len x4 fun a29 =>
 STN a29 [.string ByteArray.empty, .int .u8 0, .bool false, .int .i64 0, .string ByteArray.empty, .slice none 0 0, .slice none 0 0, .slice none 0 0] 0 h5 [] fun h6 =>
 nx4 (IntKind.wrap .i64 (x4 + 1)) h6)
 (Q h5)) 0 h2)) 0 h0
def pl98 : Plan := ⟨[], [(6, ⟨[(4, .nt .i64)], [3], []⟩), (1, ⟨[(2, .nt .i64)], [0], []⟩)], [], [], [], []⟩
theorem q98_eq (Z : List PanicEntry → Heap → Prop) (p0 : Sl) (h0 : Heap) (Q : Cur (flat []) (Heap → Prop)) : q98 Z p0 h0 Q = (WPF P Z Tryz.f98 pl98 [.one (.sl)] h0 Q) p0 := by kernel_rfl

/- codicil/codicilref19.Name -/
def q99 (Z : List PanicEntry → Heap → Prop) (p0 : ByteArray) (h0 : Heap) (Q : Cur (flat [.one (.bl)]) (Heap → Prop)) : Prop :=
 JOIN [.bl] (fun k1 => COND (decide ((p0.size : Int) < 1)) (k1 true h0)
 (k1 (decide ((p0.size : Int) > 32)) h0))
 fun x13 h2 =>
 COND x13 (Q false h2)
 (LOOP [.nt .i64] (fun x3 h4 nx3 =>
 COND (decide (x3 < (p0.size : Int))) (STRIX p0 x3 fun v22 =>
 JOIN [.bl] (fun k5 => COND (decide (v22 ≥ 97)) (k5 (decide (v22 ≤ 122)) h4)
 (k5 false h4))
 fun x5 h6 =>
 JOIN [.bl] (fun k7 => COND (!x5) (COND (x3 == 0) (k7 true h6)
 (COND (v22 != 95) (COND (v22 != 45) (COND (decide (v22 < 48)) (k7 true h6)
 (k7 (decide (v22 > 57)) h6))
 (k7 false h6))
 (k7 false h6)))
 (k7 false h6))
 fun x50 h8 =>
 COND x50 (Q false h8)
 (nx3 (IntKind.wrap .i64 (x3 + 1)) h8))
 (Q true h4)) 0 h2)
def pl99 : Plan := ⟨[], [(4, ⟨[(3, .nt .i64)], [0], []⟩)], [], [(8, ⟨[(50, .bl)], [0, 3], []⟩), (7, ⟨[(5, .bl)], [0, 3, 4], []⟩), (1, ⟨[(13, .bl)], [0], []⟩)], [], []⟩
theorem q99_eq (Z : List PanicEntry → Heap → Prop) (p0 : ByteArray) (h0 : Heap) (Q : Cur (flat [.one (.bl)]) (Heap → Prop)) : q99 Z p0 h0 Q = (WPF P Z Tryz.f99 pl99 [.one (.tx)] h0 Q) p0 := by kernel_rfl

/- codicil/codicilref04.One -/
def q100 (Z : List PanicEntry → Heap → Prop) (p0 : Int) (p1 : Bool) (p2 : Int) (p3 : ByteArray) (p4 : Sl) (p5 : Sl) (p6 : Sl) (p7 : Bool) (h0 : Heap) (Q : Cur (flat [.one (.sl), .one (.nt .i64)]) (Heap → Prop)) : Prop :=
 ALLOC [.int .u8 p0, .bool p1, .int .i64 p2, .string p3, p4.v, p5.v, p6.v] 27 h0 fun b2 h1 =>
 CALL P Z 103 [.agg #[.int .u8 p0, .bool p1, .int .i64 p2, .string p3, p4.v, p5.v, p6.v]] [.one (.nt .i64)] h1 [b2] fun v8 h2 =>
 COND (v8 != 0) (Q ⟨none, 0, 0⟩ 40 h2)
 (CALL P Z 137 [.agg #[.int .u8 p0, .bool p1, .int .i64 p2, .string p3, p4.v, p5.v, p6.v]] [.one (.bl)] h2 [b2] fun v11 h3 =>
 COND (!v11) (Q ⟨none, 0, 0⟩ 41 h3)
 (CALL P Z 139 [.agg #[.int .u8 p0, .bool p1, .int .i64 p2, .string p3, p4.v, p5.v, p6.v]] [.one (.sl)] h3 [b2] fun v14 h4 =>
 CALL P Z 138 [v14.v, .bool p7] [.one (.sl)] h4 [b2] fun v16 h5 =>
 COND (decide ((v16.len : Int) > 160)) (Q ⟨none, 0, 0⟩ 42 h5)
 (Q v16 0 h5)))
def pl100 : Plan := ⟨[], [], [], [], [], []⟩
theorem q100_eq (Z : List PanicEntry → Heap → Prop) (p0 : Int) (p1 : Bool) (p2 : Int) (p3 : ByteArray) (p4 : Sl) (p5 : Sl) (p6 : Sl) (p7 : Bool) (h0 : Heap) (Q : Cur (flat [.one (.sl), .one (.nt .i64)]) (Heap → Prop)) : q100 Z p0 p1 p2 p3 p4 p5 p6 p7 h0 Q = (WPF P Z Tryz.f100 pl100 [.agg [.nt .u8, .bl, .nt .i64, .tx, .sl, .sl, .sl], .one (.bl)] h0 Q) p0 p1 p2 p3 p4 p5 p6 p7 := by kernel_rfl

/- codicil/codicilref21.zero -/
def q101 (Z : List PanicEntry → Heap → Prop) (p0 : Int) (p1 : Bool) (p2 : Int) (p3 : ByteArray) (p4 : Sl) (p5 : Sl) (p6 : Sl) (h0 : Heap) (Q : Cur (flat [.one (.bl)]) (Heap → Prop)) : Prop :=
 ALLOC [.int .u8 p0, .bool p1, .int .i64 p2, .string p3, p4.v, p5.v, p6.v] 27 h0 fun b1 h1 =>
 JOIN [.bl] (fun k2 => COND (p0 == 0) (COND (!p1) (COND (p2 == 0) (COND (p3.toList == ByteArray.empty.toList) (COND ((p4.len : Int) == 0) (COND ((p5.len : Int) == 0) (k2 ((p6.len : Int) == 0) h1)
 (k2 false h1))
 (k2 false h1))
 (k2 false h1))
 (k2 false h1))
 (k2 false h1))
 (k2 false h1))
 fun x2 h3 =>
 Q x2 h3
def pl101 : Plan := ⟨[], [], [], [(1, ⟨[(2, .bl)], [], []⟩)], [], []⟩
theorem q101_eq (Z : List PanicEntry → Heap → Prop) (p0 : Int) (p1 : Bool) (p2 : Int) (p3 : ByteArray) (p4 : Sl) (p5 : Sl) (p6 : Sl) (h0 : Heap) (Q : Cur (flat [.one (.bl)]) (Heap → Prop)) : q101 Z p0 p1 p2 p3 p4 p5 p6 h0 Q = (WPF P Z Tryz.f101 pl101 [.agg [.nt .u8, .bl, .nt .i64, .tx, .sl, .sl, .sl]] h0 Q) p0 p1 p2 p3 p4 p5 p6 := by kernel_rfl

/- codicil/codicilref03.Get -/
def q102 (Z : List PanicEntry → Heap → Prop) (p0 : Int) (p1 : Bool) (p2 : Int) (p3 : ByteArray) (p4 : Sl) (p5 : Sl) (p6 : Sl) (p7 : ByteArray) (h0 : Heap) (Q : Cur (flat [.agg [.nt .u8, .bl, .nt .i64, .tx, .sl, .sl, .sl], .one (.bl)]) (Heap → Prop)) : Prop :=
 ALLOC [.int .u8 p0, .bool p1, .int .i64 p2, .string p3, p4.v, p5.v, p6.v] 27 h0 fun b2 h1 =>
 ALLOC [.int .u8 0, .bool false, .int .i64 0, .string ByteArray.empty, .slice none 0 0, .slice none 0 0, .slice none 0 0] 27 h1 fun b4 h2 =>
 LOOP [.nt .i64] (fun x6 h4 nx3 =>
 JOIN [.bl] (fun k5 => COND (decide (x6 < (p6.len : Int))) (k5 (p0 == 7) h4)
 (k5 false h4))
 fun x16 h6 =>
 COND x16 (IXA 8 p6.a p6.len x6 fun a22 =>
 LD (.tx) (a22.add 0) (EQ h6) fun v24 =>
 COND (v24.toList == p7.toList) (IXA 8 p6.a p6.len x6 fun a30 =>
 LDN [.nt .u8, .bl, .nt .i64, .tx, .sl, .sl, .sl] (a30.add 1) 0 (EQ h6) fun v32_0 v32_1 v32_2 v32_3 v32_4 v32_5 v32_6 =>
 STN ⟨b4, 0, none⟩ [.int .u8 v32_0, .bool v32_1, .int .i64 v32_2, .string v32_3, v32_4.v, v32_5.v, v32_6.v] 0 h6 [b2] fun h7 =>
 LDN [.nt .u8, .bl, .nt .i64, .tx, .sl, .sl, .sl] ⟨b4, 0, none⟩ 0 (EQ h7) fun r4_0 r4_1 r4_2 r4_3 r4_4 r4_5 r4_6 =>
 Q r4_0 r4_1 r4_2 r4_3 r4_4 r4_5 r4_6 true h7)
 (nx3 (IntKind.wrap .i64 (x6 + 1)) h6))
 (STN ⟨b4, 0, none⟩ [.int .u8 0, .bool false, .int .i64 0, .string ByteArray.empty, .slice none 0 0, .slice none 0 0, .slice none 0 0] 0 h6 [b2] fun h8 =>
 LDN [.nt .u8, .bl, .nt .i64, .tx, .sl, .sl, .sl] ⟨b4, 0, none⟩ 0 (EQ h8) fun r4_0 r4_1 r4_2 r4_3 r4_4 r4_5 r4_6 =>
 Q r4_0 r4_1 r4_2 r4_3 r4_4 r4_5 r4_6 false h8)) 0 h2
def pl102 : Plan := ⟨[], [(2, ⟨[(6, .nt .i64)], [1, 2, 4], [2]⟩)], [], [(2, ⟨[(16, .bl)], [1, 2, 4, 6], [2]⟩)], [], []⟩
theorem q102_eq (Z : List PanicEntry → Heap → Prop) (p0 : Int) (p1 : Bool) (p2 : Int) (p3 : ByteArray) (p4 : Sl) (p5 : Sl) (p6 : Sl) (p7 : ByteArray) (h0 : Heap) (Q : Cur (flat [.agg [.nt .u8, .bl, .nt .i64, .tx, .sl, .sl, .sl], .one (.bl)]) (Heap → Prop)) : q102 Z p0 p1 p2 p3 p4 p5 p6 p7 h0 Q = (WPF P Z Tryz.f102 pl102 [.agg [.nt .u8, .bl, .nt .i64, .tx, .sl, .sl, .sl], .one (.tx)] h0 Q) p0 p1 p2 p3 p4 p5 p6 p7 := by kernel_rfl

/- codicil/codicilref03.Check -/
def q103 (Z : List PanicEntry → Heap → Prop) (p0 : Int) (p1 : Bool) (p2 : Int) (p3 : ByteArray) (p4 : Sl) (p5 : Sl) (p6 : Sl) (h0 : Heap) (Q : Cur (flat [.one (.nt .i64)]) (Heap → Prop)) : Prop :=
 ALLOC [.int .u8 p0, .bool p1, .int .i64 p2, .string p3, p4.v, p5.v, p6.v] 27 h0 fun b1 h1 =>
 CALL P Z 140 [.agg #[.int .u8 p0, .bool p1, .int .i64 p2, .string p3, p4.v, p5.v, p6.v], .int .i64 8] [.one (.bl)] h1 [b1] fun v4 h2 =>
 COND v4 (Q 31 h2)
 (CALL P Z 141 [.agg #[.int .u8 p0, .bool p1, .int .i64 p2, .string p3, p4.v, p5.v, p6.v], .int .i64 0] [.one (.nt .i64)] h2 [b1] fun v6 h3 =>
 COND (decide (v6 > 512)) (Q 32 h3)
 (CALL P Z 142 [.agg #[.int .u8 p0, .bool p1, .int .i64 p2, .string p3, p4.v, p5.v, p6.v]] [.one (.nt .i64)] h3 [b1] fun v9 h4 =>
 Q v9 h4))
def pl103 : Plan := ⟨[], [], [], [], [], []⟩
theorem q103_eq (Z : List PanicEntry → Heap → Prop) (p0 : Int) (p1 : Bool) (p2 : Int) (p3 : ByteArray) (p4 : Sl) (p5 : Sl) (p6 : Sl) (h0 : Heap) (Q : Cur (flat [.one (.nt .i64)]) (Heap → Prop)) : q103 Z p0 p1 p2 p3 p4 p5 p6 h0 Q = (WPF P Z Tryz.f103 pl103 [.agg [.nt .u8, .bl, .nt .i64, .tx, .sl, .sl, .sl]] h0 Q) p0 p1 p2 p3 p4 p5 p6 := by kernel_rfl

/- codicil/codicilref02.Varint -/
def q104 (Z : List PanicEntry → Heap → Prop) (p0 : Int) (h0 : Heap) (Q : Cur (flat [.one (.sl)]) (Heap → Prop)) : Prop :=
 LOOP [.nt .u64, .sl] (fun x0 x3 h2 nx1 =>
 COND (decide (x0 > 127)) (DIVI 128 (ALLOC [.int .u8 (IntKind.wrap .u8 ((IntKind.wrap .u64 ((Int.tmod x0 128) + 128))))] 5 h2 fun b11 h3 =>
 APPEND 1 1 5 [.int .u8 0] x3.a x3.len x3.cap (some ⟨b11, 0, none⟩) 1 h3 [] fun v12 h4 =>
 DIVI 128 (nx1 (IntKind.wrap .u64 (Int.tdiv x0 128)) v12 h4)))
 (ALLOC [.int .u8 (IntKind.wrap .u8 (x0))] 5 h2 fun b18 h5 =>
 APPEND 1 1 5 [.int .u8 0] x3.a x3.len x3.cap (some ⟨b18, 0, none⟩) 1 h5 [] fun v19 h6 =>
 Q v19 h6)) p0 ⟨none, 0, 0⟩ h0
def pl104 : Plan := ⟨[], [(2, ⟨[(0, .nt .u64), (3, .sl)], [], []⟩)], [], [], [], []⟩
theorem q104_eq (Z : List PanicEntry → Heap → Prop) (p0 : Int) (h0 : Heap) (Q : Cur (flat [.one (.sl)]) (Heap → Prop)) : q104 Z p0 h0 Q = (WPF P Z Tryz.f104 pl104 [.one (.nt .u64)] h0 Q) p0 := by kernel_rfl

/- codicil/codicilref02.Zigzag -/
def q105 (Z : List PanicEntry → Heap → Prop) (p0 : Int) (h0 : Heap) (Q : Cur (flat [.one (.nt .u64)]) (Heap → Prop)) : Prop :=
 COND (decide (p0 < 0)) (Q (IntKind.wrap .u64 ((IntKind.wrap .u64 (2 * (IntKind.wrap .u64 ((IntKind.wrap .i64 (0 - (IntKind.wrap .i64 (p0 + 1)))))))) + 1)) h0)
 (Q (IntKind.wrap .u64 (2 * (IntKind.wrap .u64 (p0)))) h0)
def pl105 : Plan := ⟨[], [], [], [], [], []⟩
theorem q105_eq (Z : List PanicEntry → Heap → Prop) (p0 : Int) (h0 : Heap) (Q : Cur (flat [.one (.nt .u64)]) (Heap → Prop)) : q105 Z p0 h0 Q = (WPF P Z Tryz.f105 pl105 [.one (.nt .i64)] h0 Q) p0 := by kernel_rfl

/- (*codicil/codicilref02.Reader).Raw -/
def q106 (Z : List PanicEntry → Heap → Prop) (p0 : Option Addr) (p1 : Int) (h0 : Heap) (Q : Cur (flat [.one (.sl)]) (Heap → Prop)) : Prop :=
 NN p0 fun a7 =>
 LD (.nt .i64) (a7.add 2) (EQ h0) fun v9 =>
 COND (v9 != 0) (Q ⟨none, 0, 0⟩ h0)
 (COND (decide (p1 < 0)) (NN p0 fun a15 =>
 LD (.nt .i64) (a15.add 1) (EQ h0) fun v17 =>
 CALL P Z 108 [.pointer p0, .int .i64 1, .int .i64 v17] [] h0 [] fun h1 =>
 Q ⟨none, 0, 0⟩ h1)
 (NN p0 fun a21 =>
 LD (.sl) (a21.add 0) (EQ h0) fun v23 =>
 NN p0 fun a26 =>
 LD (.nt .i64) (a26.add 1) (EQ h0) fun v28 =>
 COND (decide (p1 > (IntKind.wrap .i64 ((v23.len : Int) - v28)))) (NN p0 fun a33 =>
 LD (.nt .i64) (a33.add 1) (EQ h0) fun v35 =>
 CALL P Z 108 [.pointer p0, .int .i64 20, .int .i64 v35] [] h0 [] fun h2 =>
 Q ⟨none, 0, 0⟩ h2)
 (DRAW h0 [] fun S3 =>
 NN p0 fun a39 =>
 LD (.sl) (a39.add 0) S3 fun v41 =>
 NN p0 fun a43 =>
 LD (.nt .i64) (a43.add 1) S3 fun v45 =>
 NN p0 fun a47 =>
 LD (.nt .i64) (a47.add 1) S3 fun v49 =>
 SLI 1 v41.a v41.len v41.cap (some v45) (some (IntKind.wrap .i64 (v49 + p1))) none fun v52 =>
 APPEND 1 1 5 [.int .u8 0] none 0 0 v52.a v52.len h0 [] fun v53 h4 =>
 SS S3 h4 (
 NN p0 fun a56 =>
 LD (.nt .i64) (a56.add 1) (EQ h4) fun v58 =>
 NN p0 fun a61 =>
 STN (a61.add 1) [.int .i64 (IntKind.wrap .i64 (v58 + p1))] 0 h4 [] fun h5 =>
 Q v53 h5))))
def pl106 : Plan := ⟨[], [], [], [], [(10, false, [0, 1, 2, 3, 4, 5, 6, 7, 8, 9, 10, 11, 12, 13, 14, 15, 16, 17]), (6, true, [0, 1, 2, 3, 4, 5, 6, 7, 8, 9, 10, 11])], []⟩
theorem q106_eq (Z : List PanicEntry → Heap → Prop) (p0 : Option Addr) (p1 : Int) (h0 : Heap) (Q : Cur (flat [.one (.sl)]) (Heap → Prop)) : q106 Z p0 p1 h0 Q = (WPF P Z Tryz.f106 pl106 [.one (.pt), .one (.nt .i64)] h0 Q) p0 p1 := by kernel_rfl

/- (*codicil/codicilref02.Reader).Varint -/
def q107 (Z : List PanicEntry → Heap → Prop) (p0 : Option Addr) (h0 : Heap) (Q : Cur (flat [.one (.nt .u64)]) (Heap → Prop)) : Prop :=
 NN p0 fun a7 =>
 LD (.nt .i64) (a7.add 2) (EQ h0) fun v9 =>
 COND (v9 != 0) (Q 0 h0)
 (DRAW h0 [] fun S1 =>
 NN p0 fun a13 =>
 LD (.sl) (a13.add 0) S1 fun v15 =>
 NN p0 fun a17 =>
 LD (.nt .i64) (a17.add 1) S1 fun v19 =>
 SLI 1 v15.a v15.len v15.cap (some v19) none none fun v20 =>
 CALL P (fun _ _ => False) 143 [v20.v] [.one (.nt .u64), .one (.nt .i64), .one (.nt .i64)] h0 [] fun v21_0 v21_1 v21_2 h2 =>
 SS S1 h2 (
 COND (v21_2 != 0) (NN p0 fun a30 =>
 LD (.nt .i64) (a30.add 1) (EQ h2) fun v32 =>
 CALL P Z 108 [.pointer p0, .int .i64 v21_2, .int .i64 v32] [] h2 [] fun h3 =>
 Q 0 h3)
 (NN p0 fun a36 =>
 LD (.nt .i64) (a36.add 1) (EQ h2) fun v38 =>
 NN p0 fun a41 =>
 STN (a41.add 1) [.int .i64 (IntKind.wrap .i64 (v38 + v21_1))] 0 h2 [] fun h4 =>
 Q v21_0 h4)))
def pl107 : Plan := ⟨[], [], [], [], [(3, false, [0, 1, 2, 3, 4, 5, 6, 7, 8, 9, 10, 11, 12, 13, 14, 15, 16])], []⟩
theorem q107_eq (Z : List PanicEntry → Heap → Prop) (p0 : Option Addr) (h0 : Heap) (Q : Cur (flat [.one (.nt .u64)]) (Heap → Prop)) : q107 Z p0 h0 Q = (WPF P Z Tryz.f107 pl107 [.one (.pt)] h0 Q) p0 := by kernel_rfl

/- (*codicil/codicilref02.Reader).fail -/
def q108 (Z : List PanicEntry → Heap → Prop) (p0 : Option Addr) (p1 : Int) (p2 : Int) (h0 : Heap) (Q : Cur (flat []) (Heap → Prop)) : Prop :=
 NN p0 fun a7 =>
 LD (.nt .i64) (a7.add 2) (EQ h0) fun v9 =>
 COND (v9 == 0) (NN p0 fun a13 =>
 STN (a13.add 2) [.int .i64 p1] 0 h0 [] fun h1 =>
 NN p0 fun a17 =>
 STN (a17.add 3) [.int .i64 p2] 0 h1 [] fun h2 =>
 Q h2)
 (Q h0)
def pl108 : Plan := ⟨[], [], [], [], [], []⟩
theorem q108_eq (Z : List PanicEntry → Heap → Prop) (p0 : Option Addr) (p1 : Int) (p2 : Int) (h0 : Heap) (Q : Cur (flat []) (Heap → Prop)) : q108 Z p0 p1 p2 h0 Q = (WPF P Z Tryz.f108 pl108 [.one (.pt), .one (.nt .i64), .one (.nt .i64)] h0 Q) p0 p1 p2 := by kernel_rfl

/- codicil/codicilref05.read -/
def q109 (Z : List PanicEntry → Heap → Prop) (p0 : Option Addr) (p1 : Int) (h0 : Heap) (Q : Cur (flat [.agg [.nt .u8, .bl, .nt .i64, .tx, .sl, .sl, .sl]]) (Heap → Prop)) : Prop :=
 ALLOC [.int .u8 0, .bool false, .int .i64 0, .string ByteArray.empty, .slice none 0 0, .slice none 0 0, .slice none 0 0] 27 h0 fun b4 h1 =>
 ALLOC [.int .u8 0, .bool false, .int .i64 0, .string ByteArray.empty, .slice none 0 0, .slice none 0 0, .slice none 0 0] 27 h1 fun b5 h2 =>
 PUTN b5 [.int .u8 0, .bool false, .int .i64 0, .string ByteArray.empty, .slice none 0 0, .slice none 0 0, .slice none 0 0] 0 h2 fun h3 =>
 CALL P Z 48 [.pointer p0, .int .i64 1] [.one (.nt .u64)] h3 [b4, b5] fun v17 h4 =>
 JOIN [.bl] (fun k5 => COND (p1 == 0) (k5 true h4)
 (NN p0 fun a22 =>
 LD (.nt .i64) (a22.add 2) (EQ h4) fun v24 =>
 k5 (v24 != 0) h4))
 fun x26 h6 =>
 COND x26 (CALL P Z 106 [.pointer p0, .int .i64 (-1)] [.one (.sl)] h6 [b4, b5] fun v28 h7 =>
 PUTN b4 [.int .u8 0, .bool false, .int .i64 0, .string ByteArray.empty, .slice none 0 0, .slice none 0 0, .slice none 0 0] 0 h7 fun h8 =>
 Q 0 false 0 ByteArray.empty ⟨none, 0, 0⟩ ⟨none, 0, 0⟩ ⟨none, 0, 0⟩ h8)
 (JOIN [] (fun k9 => COND (v17 == 1) (PUTN b5 [.int .u8 1] 0 h6 fun h11 =>
 k9 h11)
 (JOIN [.bl] (fun k12 => COND (v17 == 2) (k12 (v17 == 2) h6)
 (k12 (v17 == 3) h6))
 fun x36 h13 =>
 COND x36 (PUTN b5 [.int .u8 2] 0 h13 fun h14 =>
 PUTN b5 [.bool (v17 == 3)] 1 h14 fun h15 =>
 k9 h15)
 (COND (v17 == 4) (PUTN b5 [.int .u8 3] 0 h13 fun h16 =>
 CALL P Z 144 [.pointer p0] [.one (.nt .i64)] h16 [b4, b5] fun v47 h17 =>
 PUTN b5 [.int .i64 v47] 2 h17 fun h18 =>
 k9 h18)
 (COND (v17 == 5) (PUTN b5 [.int .u8 4] 0 h13 fun h19 =>
 CALL P Z 49 [.pointer p0] [.one (.tx)] h19 [b4, b5] fun v53 h20 =>
 PUTN b5 [.string v53] 3 h20 fun h21 =>
 k9 h21)
 (COND (v17 == 6) (PUTN b5 [.int .u8 5] 0 h13 fun h22 =>
 CALL P Z 49 [.pointer p0] [.one (.tx)] h22 [b4, b5] fun v59 h23 =>
 STB v59 5 h23 fun v61 h24 =>
 PUTN b5 [v61.v] 4 h24 fun h25 =>
 k9 h25)
 (COND (v17 == 7) (PUTN b5 [.int .u8 6] 0 h13 fun h26 =>
 CALL P Z 107 [.pointer p0] [.one (.nt .u64)] h26 [b4, b5] fun v67 h27 =>
 LOOP [.nt .u64] (fun x9 h29 nx28 =>
 JOIN [.bl] (fun k30 => COND (decide (x9 < v67)) (NN p0 fun a73 =>
 LD (.nt .i64) (a73.add 2) (EQ h29) fun v75 =>
 k30 (v75 == 0) h29)
 (k30 false h29))
 fun x77 h31 =>
 COND x77 (CALL P Z 109 [.pointer p0, .int .i64 (IntKind.wrap .i64 (p1 - 1))] [.agg [.nt .u8, .bl, .nt .i64, .tx, .sl, .sl, .sl]] h31 [b4] fun v83_0 v83_1 v83_2 v83_3 v83_4 v83_5 v83_6 h32 =>
 ALLOC [.int .u8 0, .bool false, .int .i64 0, .string ByteArray.empty, .slice none 0 0, .slice none 0 0, .slice none 0 0] 27 h32 fun b10 h33 =>
 PUTN b10 [.int .u8 v83_0, .bool v83_1, .int .i64 v83_2, .string v83_3, v83_4.v, v83_5.v, v83_6.v] 0 h33 fun h34 =>
 LD (.sl) ⟨b5, 5, none⟩ (EQ h34) fun v85 =>
 ALLOC [.int .u8 v83_0, .bool v83_1, .int .i64 v83_2, .string v83_3, v83_4.v, v83_5.v, v83_6.v] 27 h34 fun b87 h35 =>
 APPEND 7 104 27 [.int .u8 0, .bool false, .int .i64 0, .string ByteArray.empty, .slice none 0 0, .slice none 0 0, .slice none 0 0] v85.a v85.len v85.cap (some ⟨b87, 0, none⟩) 1 h35 [b4, b10] fun v88 h36 =>
 STN ⟨b5, 5, none⟩ [v88.v] 0 h36 [b4, b10] fun h37 =>
 nx28 (IntKind.wrap .u64 (x9 + 1)) h37)
 (k9 h31)) 0 h27)
 (COND (v17 == 8) (PUTN b5 [.int .u8 7] 0 h13 fun h38 =>
 CALL P Z 107 [.pointer p0] [.one (.nt .u64)] h38 [b4, b5] fun v94 h39 =>
 LOOP [.nt .u64] (fun x12 h41 nx40 =>
 JOIN [.bl] (fun k42 => COND (decide (x12 < v94)) (NN p0 fun a100 =>
 LD (.nt .i64) (a100.add 2) (EQ h41) fun v102 =>
 k42 (v102 == 0) h41)
 (k42 false h41))
 fun x104 h43 =>
 COND x104 (CALL P Z 49 [.pointer p0] [.one (.tx)] h43 [b4] fun v108 h44 =>
 CALL P Z 109 [.pointer p0, .int .i64 (IntKind.wrap .i64 (p1 - 1))] [.agg [.nt .u8, .bl, .nt .i64, .tx, .sl, .sl, .sl]] h44 [b4] fun v112_0 v112_1 v112_2 v112_3 v112_4 v112_5 v112_6 h45 =>
 ALLOC [.int .u8 0, .bool false, .int .i64 0, .string ByteArray.empty, .slice none 0 0, .slice none 0 0, .slice none 0 0] 27 h45 fun b14 h46 =>
 PUTN b14 [.int .u8 v112_0, .bool v112_1, .int .i64 v112_2, .string v112_3, v112_4.v, v112_5.v, v112_6.v] 0 h46 fun h47 =>
 LD (.sl) ⟨b5, 6, none⟩ (EQ h47) fun v114 =>
 ALLOC [.string v108, .int .u8 v112_0, .bool v112_1, .int .i64 v112_2, .string v112_3, v112_4.v, v112_5.v, v112_6.v] 132 h47 fun b118 h48 =>
 APPEND 8 120 132 [.string ByteArray.empty, .int .u8 0, .bool false, .int .i64 0, .string ByteArray.empty, .slice none 0 0, .slice none 0 0, .slice none 0 0] v114.a v114.len v114.cap (some ⟨b118, 0, none⟩) 1 h48 [b4, b14] fun v119 h49 =>
 STN ⟨b5, 6, none⟩ [v119.v] 0 h49 [b4, b14] fun h50 =>
 nx40 (IntKind.wrap .u64 (x12 + 1)) h50)
 (k9 h43)) 0 h39)
 (CALL P Z 106 [.pointer p0, .int .i64 (-1)] [.one (.sl)] h13 [b4, b5] fun v32 h51 =>
 k9 h51))))))))
 fun h10 =>
 LDN [.nt .u8, .bl, .nt .i64, .tx, .sl, .sl, .sl] ⟨b5, 0, none⟩ 0 (EQ h10) fun v121_0 v121_1 v121_2 v121_3 v121_4 v121_5 v121_6 =>
 PUTN b4 [.int .u8 v121_0, .bool v121_1, .int .i64 v121_2, .string v121_3, v121_4.v, v121_5.v, v121_6.v] 0 h10 fun h52 =>
 Q v121_0 v121_1 v121_2 v121_3 v121_4 v121_5 v121_6 h52)
def pl109 : Plan := ⟨[(12, ⟨[(36, .bl)], [0, 1, 4, 5, 6, 30], [4, 5]⟩)], [(36, ⟨[(12, .nt .u64)], [0, 1, 4, 5, 11], [4]⟩), (28, ⟨[(9, .nt .u64)], [0, 1, 4, 5, 8], [4]⟩)], [(0, ⟨[], [4, 5], [4]⟩)], [(36, ⟨[(104, .bl)], [0, 1, 4, 5, 11, 12], [4]⟩), (28, ⟨[(77, .bl)], [0, 1, 4, 5, 8, 9], [4]⟩), (3, ⟨[(26, .bl)], [0, 1, 4, 5, 6], [4, 5]⟩)], [], []⟩
theorem q109_eq (Z : List PanicEntry → Heap → Prop) (p0 : Option Addr) (p1 : Int) (h0 : Heap) (Q : Cur (flat [.agg [.nt .u8, .bl, .nt .i64, .tx, .sl, .sl, .sl]]) (Heap → Prop)) : q109 Z p0 p1 h0 Q = (WPF P Z Tryz.f109 pl109 [.one (.pt), .one (.nt .i64)] h0 Q) p0 p1 := by kernel_rfl

/- (*codicil/codicilref00.Book).Values -/
def q110 (Z : List PanicEntry → Heap → Prop) (p0 : Option Addr) (p1 : Sl) (h0 : Heap) (Q : Cur (flat []) (Heap → Prop)) : Prop :=
 NN p0 fun a7 =>
 LD (.sl) (a7.add 18) (EQ h0) fun v9 =>
 ALLOC [p1.v] 24 h0 fun b11 h1 =>
 APPEND 1 24 24 [.slice none 0 0] v9.a v9.len v9.cap (some ⟨b11, 0, none⟩) 1 h1 [] fun v12 h2 =>
 NN p0 fun a13 =>
 STN (a13.add 18) [v12.v] 0 h2 [] fun h3 =>
 LOOP [.nt .i64] (fun x4 h5 nx4 =>
 COND (decide (x4 < (p1.len : Int))) (IXA 7 p1.a p1.len x4 fun a24 =>
 LDN [.nt .u8, .bl, .nt .i64, .tx, .sl, .sl, .sl] a24 0 (EQ h5) fun v25_0 v25_1 v25_2 v25_3 v25_4 v25_5 v25_6 =>
 CALL P Z 52 [.pointer p0, .agg #[.int .u8 v25_0, .bool v25_1, .int .i64 v25_2, .string v25_3, v25_4.v, v25_5.v, v25_6.v]] [] h5 [] fun h6 =>
 nx4 (IntKind.wrap .i64 (x4 + 1)) h6)
 (Q h5)) 0 h3
def pl110 : Plan := ⟨[], [(2, ⟨[(4, .nt .i64)], [0, 1], []⟩)], [], [], [], []⟩
theorem q110_eq (Z : List PanicEntry → Heap → Prop) (p0 : Option Addr) (p1 : Sl) (h0 : Heap) (Q : Cur (flat []) (Heap → Prop)) : q110 Z p0 p1 h0 Q = (WPF P Z Tryz.f110 pl110 [.one (.pt), .one (.sl)] h0 Q) p0 p1 := by kernel_rfl

/- (*codicil/codicilref00.Book).Fields -/
def q111 (Z : List PanicEntry → Heap → Prop) (p0 : Option Addr) (p1 : Sl) (h0 : Heap) (Q : Cur (flat []) (Heap → Prop)) : Prop :=
 NN p0 fun a7 =>
 LD (.sl) (a7.add 19) (EQ h0) fun v9 =>
 ALLOC [p1.v] 25 h0 fun b11 h1 =>
 APPEND 1 24 25 [.slice none 0 0] v9.a v9.len v9.cap (some ⟨b11, 0, none⟩) 1 h1 [] fun v12 h2 =>
 NN p0 fun a13 =>
 STN (a13.add 19) [v12.v] 0 h2 [] fun h3 =>
 LOOP [.nt .i64] (fun x4 h5 nx4 =>
 COND (decide (x4 < (p1.len : Int))) (IXA 8 p1.a p1.len x4 fun a24 =>
 LDN [.tx, .nt .u8, .bl, .nt .i64, .tx, .sl, .sl, .sl] a24 0 (EQ h5) fun v25_0 v25_1 v25_2 v25_3 v25_4 v25_5 v25_6 v25_7 =>
 CALL P Z 145 [.pointer p0, .agg #[.string v25_0, .int .u8 v25_1, .bool v25_2, .int .i64 v25_3, .string v25_4, v25_5.v, v25_6.v, v25_7.v]] [] h5 [] fun h6 =>
 nx4 (IntKind.wrap .i64 (x4 + 1)) h6)
 (Q h5)) 0 h3
def pl111 : Plan := ⟨[], [(2, ⟨[(4, .nt .i64)], [0, 1], []⟩)], [], [], [], []⟩
theorem q111_eq (Z : List PanicEntry → Heap → Prop) (p0 : Option Addr) (p1 : Sl) (h0 : Heap) (Q : Cur (flat []) (Heap → Prop)) : q111 Z p0 p1 h0 Q = (WPF P Z Tryz.f111 pl111 [.one (.pt), .one (.sl)] h0 Q) p0 p1 := by kernel_rfl

/- codicil/codicilref00.SameValues -/
def q112 (Z : List PanicEntry → Heap → Prop) (p0 : Sl) (p1 : Sl) (h0 : Heap) (Q : Cur (flat [.one (.bl)]) (Heap → Prop)) : Prop :=
 COND ((p0.len : Int) != (p1.len : Int)) (Q false h0)
 (LOOP [.nt .i64] (fun x5 h2 nx1 =>
 COND (decide (x5 < (p0.len : Int))) (DRAW h2 [] fun S3 =>
 IXA 7 p0.a p0.len x5 fun a19 =>
 LDN [.nt .u8, .bl, .nt .i64, .tx, .sl, .sl, .sl] a19 0 S3 fun v20_0 v20_1 v20_2 v20_3 v20_4 v20_5 v20_6 =>
 IXA 7 p1.a p1.len x5 fun a23 =>
 LDN [.nt .u8, .bl, .nt .i64, .tx, .sl, .sl, .sl] a23 0 S3 fun v24_0 v24_1 v24_2 v24_3 v24_4 v24_5 v24_6 =>
 CALL P (fun _ _ => False) 53 [.agg #[.int .u8 v20_0, .bool v20_1, .int .i64 v20_2, .string v20_3, v20_4.v, v20_5.v, v20_6.v], .agg #[.int .u8 v24_0, .bool v24_1, .int .i64 v24_2, .string v24_3, v24_4.v, v24_5.v, v24_6.v]] [.one (.bl)] h2 [] fun v25 h4 =>
 SS S3 h4 (
 COND (!v25) (Q false h4)
 (nx1 (IntKind.wrap .i64 (x5 + 1)) h4)))
 (Q true h2)) 0 h0)
def pl112 : Plan := ⟨[], [(4, ⟨[(5, .nt .i64)], [0, 1], []⟩)], [], [], [(6, false, [0, 1, 2, 3, 4, 5, 6, 7, 8, 9])], []⟩
theorem q112_eq (Z : List PanicEntry → Heap → Prop) (p0 : Sl) (p1 : Sl) (h0 : Heap) (Q : Cur (flat [.one (.bl)]) (Heap → Prop)) : q112 Z p0 p1 h0 Q = (WPF P Z Tryz.f112 pl112 [.one (.sl), .one (.sl)] h0 Q) p0 p1 := by kernel_rfl

/- codicil/codicilref00.SameFields -/
def q113 (Z : List PanicEntry → Heap → Prop) (p0 : Sl) (p1 : Sl) (h0 : Heap) (Q : Cur (flat [.one (.bl)]) (Heap → Prop)) : Prop :=
 COND ((p0.len : Int) != (p1.len : Int)) (Q false h0)
 (LOOP [.nt .i64] (fun x5 h2 nx1 =>
 COND (decide (x5 < (p0.len : Int))) (DRAW h2 [] fun S3 =>
 IXA 8 p0.a p0.len x5 fun a19 =>
 LDN [.tx, .nt .u8, .bl, .nt .i64, .tx, .sl, .sl, .sl] a19 0 S3 fun v20_0 v20_1 v20_2 v20_3 v20_4 v20_5 v20_6 v20_7 =>
 IXA 8 p1.a p1.len x5 fun a23 =>
 LDN [.tx, .nt .u8, .bl, .nt .i64, .tx, .sl, .sl, .sl] a23 0 S3 fun v24_0 v24_1 v24_2 v24_3 v24_4 v24_5 v24_6 v24_7 =>
 CALL P (fun _ _ => False) 146 [.agg #[.string v20_0, .int .u8 v20_1, .bool v20_2, .int .i64 v20_3, .string v20_4, v20_5.v, v20_6.v, v20_7.v], .agg #[.string v24_0, .int .u8 v24_1, .bool v24_2, .int .i64 v24_3, .string v24_4, v24_5.v, v24_6.v, v24_7.v]] [.one (.bl)] h2 [] fun v25 h4 =>
 SS S3 h4 (
 COND (!v25) (Q false h4)
 (nx1 (IntKind.wrap .i64 (x5 + 1)) h4)))
 (Q true h2)) 0 h0)
def pl113 : Plan := ⟨[], [(4, ⟨[(5, .nt .i64)], [0, 1], []⟩)], [], [], [(6, false, [0, 1, 2, 3, 4, 5, 6, 7, 8, 9])], []⟩
theorem q113_eq (Z : List PanicEntry → Heap → Prop) (p0 : Sl) (p1 : Sl) (h0 : Heap) (Q : Cur (flat [.one (.bl)]) (Heap → Prop)) : q113 Z p0 p1 h0 Q = (WPF P Z Tryz.f113 pl113 [.one (.sl), .one (.sl)] h0 Q) p0 p1 := by kernel_rfl

/- codicil/codicilref00.mark -/
def q114 (Z : List PanicEntry → Heap → Prop) (p0 : Int) (p1 : Int) (h0 : Heap) (Q : Cur (flat [.one (.tx)]) (Heap → Prop)) : Prop :=
 COND (decide (p0 < 0)) (CALL P Z 114 [.int .i64 (IntKind.wrap .i64 (0 - (IntKind.wrap .i64 (p0 + 1)))), .int .i64 p1] [.one (.tx)] h0 [] fun v11 h1 =>
 STRADD (ByteArray.mk #[45]) v11 (Q ((ByteArray.mk #[45]) ++ v11) h1))
 (DIVI 26 (DIVI 26 (DIVI 26 (DIVI 676 (DIVI 26 (DIVI 26 (DIVI 26 (DIVI 26 (ALLOC [.int .u8 (IntKind.wrap .u8 ((IntKind.wrap .i64 (97 + (Int.tmod p0 26))))), .int .u8 (IntKind.wrap .u8 ((IntKind.wrap .i64 (97 + (Int.tmod (IntKind.wrap .i64 (Int.tdiv p0 26)) 26))))), .int .u8 (IntKind.wrap .u8 ((IntKind.wrap .i64 (97 + (Int.tmod (IntKind.wrap .i64 (Int.tdiv p0 676)) 26))))), .int .u8 (IntKind.wrap .u8 ((IntKind.wrap .i64 (97 + (Int.tmod p1 26))))), .int .u8 (IntKind.wrap .u8 ((IntKind.wrap .i64 (97 + (Int.tmod (IntKind.wrap .i64 (Int.tdiv p1 26)) 26)))))] 5 h0 fun b36 h2 =>
 BTS (some ⟨b36, 0, none⟩) 5 (EQ h2) fun v37 =>
 Q v37 h2)))))))))
def pl114 : Plan := ⟨[], [], [], [], [], []⟩
theorem q114_eq (Z : List PanicEntry → Heap → Prop) (p0 : Int) (p1 : Int) (h0 : Heap) (Q : Cur (flat [.one (.tx)]) (Heap → Prop)) : q114 Z p0 p1 h0 Q = (WPF P Z Tryz.f114 pl114 [.one (.nt .i64), .one (.nt .i64)] h0 Q) p0 p1 := by kernel_rfl

/- codicil/codicilref00.LentField -/
def q115 (Z : List PanicEntry → Heap → Prop) (p0 : ByteArray) (p1 : Int) (p2 : Bool) (p3 : Int) (p4 : ByteArray) (p5 : Sl) (p6 : Sl) (p7 : Sl) (h0 : Heap) (Q : Cur (flat [.agg [.tx, .nt .u8, .bl, .nt .i64, .tx, .sl, .sl, .sl]]) (Heap → Prop)) : Prop :=
 ALLOC [.string p0, .int .u8 p1, .bool p2, .int .i64 p3, .string p4, p5.v, p6.v, p7.v] 132 h0 fun b1 h1 =>
 ALLOC [.string ByteArray.empty, .int .u8 0, .bool false, .int .i64 0, .string ByteArray.empty, .slice none 0 0, .slice none 0 0, .slice none 0 0] 132 h1 fun b2 h2 =>
 DRAW h2 [b1, b2] fun S3 =>
 CALL P (fun _ _ => False) 24 [.agg #[.int .u8 p1, .bool p2, .int .i64 p3, .string p4, p5.v, p6.v, p7.v]] [.agg [.nt .u8, .bl, .nt .i64, .tx, .sl, .sl, .sl]] h2 [b1, b2] fun v7_0 v7_1 v7_2 v7_3 v7_4 v7_5 v7_6 h4 =>
 SS S3 h4 (
 PUTN b2 [.string p0, .int .u8 v7_0, .bool v7_1, .int .i64 v7_2, .string v7_3, v7_4.v, v7_5.v, v7_6.v] 0 h4 fun h5 =>
 Q p0 v7_0 v7_1 v7_2 v7_3 v7_4 v7_5 v7_6 h5)
def pl115 : Plan := ⟨[], [], [], [], [(1, false, [0, 1, 2, 3, 4, 5, 6])], []⟩
theorem q115_eq (Z : List PanicEntry → Heap → Prop) (p0 : ByteArray) (p1 : Int) (p2 : Bool) (p3 : Int) (p4 : ByteArray) (p5 : Sl) (p6 : Sl) (p7 : Sl) (h0 : Heap) (Q : Cur (flat [.agg [.tx, .nt .u8, .bl, .nt .i64, .tx, .sl, .sl, .sl]]) (Heap → Prop)) : q115 Z p0 p1 p2 p3 p4 p5 p6 p7 h0 Q = (WPF P Z Tryz.f115 pl115 [.agg [.tx, .nt .u8, .bl, .nt .i64, .tx, .sl, .sl, .sl]] h0 Q) p0 p1 p2 p3 p4 p5 p6 p7 := by kernel_rfl

/- codicil/key.keyed -/
def q116 (Z : List PanicEntry → Heap → Prop) (p0 : Int) (p1 : Bool) (p2 : Int) (p3 : ByteArray) (p4 : Sl) (p5 : Sl) (p6 : Sl) (h0 : Heap) (Q : Cur (flat [.one (.bl)]) (Heap → Prop)) : Prop :=
 ALLOC [.int .u8 p0, .bool p1, .int .i64 p2, .string p3, p4.v, p5.v, p6.v] 27 h0 fun b1 h1 =>
 ALLOC [.bool false] 4 h1 fun b2 h2 =>
 CALL P Z 147 [.agg #[.int .u8 p0, .bool p1, .int .i64 p2, .string p3, p4.v, p5.v, p6.v]] [.one (.oq)] h2 [b1, b2] fun v6 h3 =>
 RANGEF P v6 [.one (.nt .i64), .agg [.nt .u8, .bl, .nt .i64, .tx, .sl, .sl, .sl]] h3 [b1] (fun v7 v8_0 v8_1 v8_2 v8_3 v8_4 v8_5 v8_6 l5 ready6 busy7 done8 R9 h4 => ALLOC [.int .u8 0, .bool false, .int .i64 0, .string ByteArray.empty, .slice none 0 0, .slice none 0 0, .slice none 0 0] 27 h4 fun b4 h10 =>
 PUTN b4 [.int .u8 v8_0, .bool v8_1, .int .i64 v8_2, .string v8_3, v8_4.v, v8_5.v, v8_6.v] 0 h10 fun h11 =>
 BEGIN l5 ready6 busy7 h11 fun h12 =>
 COND (v8_0 == 7) (STN ⟨b2, 0, none⟩ [.bool false] 0 h12 [b1, b4] fun h13 =>
 (h13[l5]? = some busy7 ∧ R9 (.returned (.bool false)) (h13.setIfInBounds l5 (done8 .ret))))
 ((h12[l5]? = some busy7 ∧ R9 (.returned (.bool true)) (h12.setIfInBounds l5 ready6))))
 (fun h14 => STN ⟨b2, 0, none⟩ [.bool true] 0 h14 [b1] fun h15 =>
 LEAVE P Z (fun h => LD (.bl) ⟨b2, 0, none⟩ (EQ h) fun r2 =>
 Q r2 h) [.mk h3.size] .returning h15)
 [(.ret, fun h14 => LEAVE P Z (fun h => LD (.bl) ⟨b2, 0, none⟩ (EQ h) fun r2 =>
 Q r2 h) [.mk h3.size] .returning h14)]
def pl116 : Plan := ⟨[], [(3, ⟨[], [], [1]⟩)], [], [], [], [(3, [.one (.nt .i64), .agg [.nt .u8, .bl, .nt .i64, .tx, .sl, .sl, .sl]])]⟩
theorem q116_eq (Z : List PanicEntry → Heap → Prop) (p0 : Int) (p1 : Bool) (p2 : Int) (p3 : ByteArray) (p4 : Sl) (p5 : Sl) (p6 : Sl) (h0 : Heap) (Q : Cur (flat [.one (.bl)]) (Heap → Prop)) : q116 Z p0 p1 p2 p3 p4 p5 p6 h0 Q = (WPF P Z Tryz.f116 pl116 [.agg [.nt .u8, .bl, .nt .i64, .tx, .sl, .sl, .sl]] h0 Q) p0 p1 p2 p3 p4 p5 p6 := by kernel_rfl

/- codicil/key.One$1 -/
def q117 (Z : List PanicEntry → Heap → Prop) (p0 : Int) (p1 : Addr) (h0 : Heap) (Q : Cur (flat []) (Heap → Prop)) : Prop :=
 LD (.sl) p1 (EQ h0) fun v3 =>
 ALLOC [.int .u8 p0] 5 h0 fun b5 h1 =>
 APPEND 1 1 5 [.int .u8 0] v3.a v3.len v3.cap (some ⟨b5, 0, none⟩) 1 h1 [] fun v6 h2 =>
 STN p1 [v6.v] 0 h2 [] fun h3 =>
 Q h3
def pl117 : Plan := ⟨[], [], [], [], [], []⟩
theorem q117_eq (Z : List PanicEntry → Heap → Prop) (p0 : Int) (p1 : Addr) (h0 : Heap) (Q : Cur (flat []) (Heap → Prop)) : q117 Z p0 p1 h0 Q = (WPF P Z Tryz.f117 pl117 [.one (.nt .u8), .one (.ad)] h0 Q) p0 p1 := by kernel_rfl

/- codicil/key.One$2 -/
def q118 (Z : List PanicEntry → Heap → Prop) (p0 : Int) (p1 : Addr) (h0 : Heap) (Q : Cur (flat []) (Heap → Prop)) : Prop :=
 LD (.oq) p1 (EQ h0) fun v3 =>
 CALLV P Z v3 [.int .u8 (ixor .u8 255 p0)] [] h0 [] fun h1 =>
 Q h1
def pl118 : Plan := ⟨[], [], [], [], [], []⟩
theorem q118_eq (Z : List PanicEntry → Heap → Prop) (p0 : Int) (p1 : Addr) (h0 : Heap) (Q : Cur (flat []) (Heap → Prop)) : q118 Z p0 p1 h0 Q = (WPF P Z Tryz.f118 pl118 [.one (.nt .u8), .one (.ad)] h0 Q) p0 p1 := by kernel_rfl

/- codicil/key.write -/
def q119 (Z : List PanicEntry → Heap → Prop) (p0 : Int) (p1 : Bool) (p2 : Int) (p3 : ByteArray) (p4 : Sl) (p5 : Sl) (p6 : Sl) (p7 : Value) (h0 : Heap) (Q : Cur (flat []) (Heap → Prop)) : Prop :=
 ALLOC [.int .u8 p0, .bool p1, .int .i64 p2, .string p3, p4.v, p5.v, p6.v] 27 h0 fun b2 h1 =>
 BTS p4.a p4.len (EQ h1) fun v14 =>
 JOIN [] (fun k2 => JOIN [.nt .u8, .tx] (fun k4 => COND (p0 == 1) (CALLV P Z p7 [.int .u8 16] [] h1 [b2] fun h6 =>
 k2 h6)
 (COND (p0 == 2) (COND p1 (CALLV P Z p7 [.int .u8 33] [] h1 [b2] fun h7 =>
 k2 h7)
 (CALLV P Z p7 [.int .u8 32] [] h1 [b2] fun h8 =>
 k2 h8))
 (COND (p0 == 3) (CALLV P Z p7 [.int .u8 48] [] h1 [b2] fun h9 =>
 LOOP [.nt .i64] (fun x7 h11 nx10 =>
 COND (decide (x7 ≥ 0)) (SHI x7 (CALLV P Z p7 [.int .u8 (IntKind.wrap .u8 ((ishr .u64 (ixor .u64 (IntKind.wrap .u64 (p2)) 9223372036854775808) x7)))] [] h11 [] fun h12 =>
 nx10 (IntKind.wrap .i64 (x7 - 8)) h12))
 (k2 h11)) 56 h9)
 (COND (p0 == 4) (k4 64 p3 h1)
 (COND (p0 == 5) (k4 80 v14 h1)
 (COND (p0 == 6) (CALLV P Z p7 [.int .u8 96] [] h1 [b2] fun h13 =>
 LOOP [.nt .i64] (fun x82 h15 nx14 =>
 COND (decide (x82 < (p5.len : Int))) (IXA 7 p5.a p5.len x82 fun a84 =>
 LDN [.nt .u8, .bl, .nt .i64, .tx, .sl, .sl, .sl] a84 0 (EQ h15) fun v85_0 v85_1 v85_2 v85_3 v85_4 v85_5 v85_6 =>
 ALLOC [.int .u8 0, .bool false, .int .i64 0, .string ByteArray.empty, .slice none 0 0, .slice none 0 0, .slice none 0 0] 27 h15 fun b11 h16 =>
 PUTN b11 [.int .u8 v85_0, .bool v85_1, .int .i64 v85_2, .string v85_3, v85_4.v, v85_5.v, v85_6.v] 0 h16 fun h17 =>
 CALL P Z 119 [.agg #[.int .u8 v85_0, .bool v85_1, .int .i64 v85_2, .string v85_3, v85_4.v, v85_5.v, v85_6.v], p7] [] h17 [b11] fun h18 =>
 nx14 (IntKind.wrap .i64 (x82 + 1)) h18)
 (CALLV P Z p7 [.int .u8 1] [] h15 [] fun h19 =>
 k2 h19)) 0 h13)
 (k2 h1)))))))
 fun x4 x5 h5 =>
 CALLV P Z p7 [.int .u8 x4] [] h5 [] fun h20 =>
 STB x5 5 h20 fun v59 h21 =>
 LOOP [.nt .i64] (fun x61 h23 nx22 =>
 COND (decide (x61 < (v59.len : Int))) (JOIN [] (fun k24 => IXA 1 v59.a v59.len x61 fun a63 =>
 LD (.nt .u8) a63 (EQ h23) fun v64 =>
 CALLV P Z p7 [.int .u8 v64] [] h23 [] fun h26 =>
 COND (v64 == 0) (CALLV P Z p7 [.int .u8 255] [] h26 [] fun h27 =>
 k24 h27)
 (k24 h26))
 fun h25 =>
 nx22 (IntKind.wrap .i64 (x61 + 1)) h25)
 (CALLV P Z p7 [.int .u8 0] [] h23 [] fun h28 =>
 CALLV P Z p7 [.int .u8 1] [] h28 [] fun h29 =>
 k2 h29)) 0 h21)
 fun h3 =>
 Q h3
def pl119 : Plan := ⟨[], [(21, ⟨[(61, .nt .i64)], [1, 59, 60], []⟩), (31, ⟨[(82, .nt .i64)], [1, 80, 81], []⟩), (15, ⟨[(7, .nt .i64)], [1, 6], []⟩)], [(10, ⟨[], [1, 59, 60, 61], []⟩), (5, ⟨[(4, .nt .u8), (5, .tx)], [1], []⟩), (0, ⟨[], [], []⟩)], [], [(18, true, [0, 1, 2, 3]), (1, true, [0, 1, 2, 3, 4])], []⟩
theorem q119_eq (Z : List PanicEntry → Heap → Prop) (p0 : Int) (p1 : Bool) (p2 : Int) (p3 : ByteArray) (p4 : Sl) (p5 : Sl) (p6 : Sl) (p7 : Value) (h0 : Heap) (Q : Cur (flat []) (Heap → Prop)) : q119 Z p0 p1 p2 p3 p4 p5 p6 p7 h0 Q = (WPF P Z Tryz.f119 pl119 [.agg [.nt .u8, .bl, .nt .i64, .tx, .sl, .sl, .sl], .one (.oq)] h0 Q) p0 p1 p2 p3 p4 p5 p6 p7 := by kernel_rfl

/- codicil/catalog.Check -/
def q120 (Z : List PanicEntry → Heap → Prop) (p0 : ByteArray) (p1 : Int) (p2 : ByteArray) (p3 : Sl) (h0 : Heap) (Q : Cur (flat [.one (.nt .u16)]) (Heap → Prop)) : Prop :=
 ALLOC [.string p0, .int .u32 p1, .string p2, p3.v] 204 h0 fun b1 h1 =>
 CALL P Z 148 [.string p0] [.one (.bl)] h1 [b1] fun v10 h2 =>
 COND (!v10) (Q 190 h2)
 (JOIN [.bl] (fun k3 => COND (p1 == 0) (k3 true h2)
 (COND (!(p2.toList == ByteArray.empty.toList)) (CALL P Z 149 [.string p2] [.one (.bl)] h2 [b1] fun v23 h5 =>
 k3 (!v23) h5)
 (k3 false h2)))
 fun x12 h4 =>
 COND x12 (Q 194 h4)
 (COND (decide ((p3.len : Int) > 8)) (Q 193 h4)
 (LOOP [.tx, .nt .i64] (fun x3 x35 h7 nx6 =>
 COND (decide (x35 < (p3.len : Int))) (IXA 6 p3.a p3.len x35 fun a37 =>
 LDN [.tx, .nt .u32, .sl, .bl, .nt .u8, .sl] a37 0 (EQ h7) fun v38_0 v38_1 v38_2 v38_3 v38_4 v38_5 =>
 ALLOC [.string ByteArray.empty, .int .u32 0, .slice none 0 0, .bool false, .int .u8 0, .slice none 0 0] 195 h7 fun b5 h8 =>
 PUTN b5 [.string v38_0, .int .u32 v38_1, v38_2.v, .bool v38_3, .int .u8 v38_4, v38_5.v] 0 h8 fun h9 =>
 CALL P Z 150 [.agg #[.string v38_0, .int .u32 v38_1, v38_2.v, .bool v38_3, .int .u8 v38_4, v38_5.v], .string x3] [.one (.nt .u16)] h9 [b5] fun v41 h10 =>
 COND (v41 != 0) (Q v41 h10)
 (nx6 v38_0 (IntKind.wrap .i64 (x35 + 1)) h10))
 (Q 0 h7)) ByteArray.empty 0 h4)))
def pl120 : Plan := ⟨[], [(9, ⟨[(3, .tx), (35, .nt .i64)], [33, 34], []⟩)], [], [(3, ⟨[(12, .bl)], [1], [1]⟩)], [], []⟩
theorem q120_eq (Z : List PanicEntry → Heap → Prop) (p0 : ByteArray) (p1 : Int) (p2 : ByteArray) (p3 : Sl) (h0 : Heap) (Q : Cur (flat [.one (.nt .u16)]) (Heap → Prop)) : q120 Z p0 p1 p2 p3 h0 Q = (WPF P Z Tryz.f120 pl120 [.agg [.tx, .nt .u32, .tx, .sl]] h0 Q) p0 p1 p2 p3 := by kernel_rfl

/- bytes.Equal -/
def q121 (Z : List PanicEntry → Heap → Prop) (p0 : Sl) (p1 : Sl) (h0 : Heap) (Q : Cur (flat [.one (.bl)]) (Heap → Prop)) : Prop :=
 BTS p0.a p0.len (EQ h0) fun v6 =>
 BTS p1.a p1.len (EQ h0) fun v8 =>
 Q (v6.toList == v8.toList) h0
def pl121 : Plan := ⟨[], [], [], [], [], []⟩
theorem q121_eq (Z : List PanicEntry → Heap → Prop) (p0 : Sl) (p1 : Sl) (h0 : Heap) (Q : Cur (flat [.one (.bl)]) (Heap → Prop)) : q121 Z p0 p1 h0 Q = (WPF P Z Tryz.f121 pl121 [.one (.sl), .one (.sl)] h0 Q) p0 p1 := by kernel_rfl

/- slices.EqualFunc[[]codicil/api.Value,[]codicil/api.Value,codicil/api.Value,codicil/api.Value] -/
def q122 (Z : List PanicEntry → Heap → Prop) (p0 : Sl) (p1 : Sl) (p2 : Value) (h0 : Heap) (Q : Cur (flat [.one (.bl)]) (Heap → Prop)) : Prop :=
 COND ((p0.len : Int) != (p1.len : Int)) (Q false h0)
 (LOOP [.nt .i64] (fun x17 h2 nx1 =>
 COND (decide (x17 < (p0.len : Int))) (IXA 7 p0.a p0.len x17 fun a20 =>
 LDN [.nt .u8, .bl, .nt .i64, .tx, .sl, .sl, .sl] a20 0 (EQ h2) fun v21_0 v21_1 v21_2 v21_3 v21_4 v21_5 v21_6 =>
 ALLOC [.int .u8 0, .bool false, .int .i64 0, .string ByteArray.empty, .slice none 0 0, .slice none 0 0, .slice none 0 0] 27 h2 fun b8 h3 =>
 PUTN b8 [.int .u8 v21_0, .bool v21_1, .int .i64 v21_2, .string v21_3, v21_4.v, v21_5.v, v21_6.v] 0 h3 fun h4 =>
 IXA 7 p1.a p1.len x17 fun a24 =>
 LDN [.nt .u8, .bl, .nt .i64, .tx, .sl, .sl, .sl] a24 0 (EQ h4) fun v25_0 v25_1 v25_2 v25_3 v25_4 v25_5 v25_6 =>
 ALLOC [.int .u8 0, .bool false, .int .i64 0, .string ByteArray.empty, .slice none 0 0, .slice none 0 0, .slice none 0 0] 27 h4 fun b9 h5 =>
 PUTN b9 [.int .u8 v25_0, .bool v25_1, .int .i64 v25_2, .string v25_3, v25_4.v, v25_5.v, v25_6.v] 0 h5 fun h6 =>
 CALLV P Z p2 [.agg #[.int .u8 v21_0, .bool v21_1, .int .i64 v21_2, .string v21_3, v21_4.v, v21_5.v, v21_6.v], .agg #[.int .u8 v25_0, .bool v25_1, .int .i64 v25_2, .string v25_3, v25_4.v, v25_5.v, v25_6.v]] [.one (.bl)] h6 [b8, b9] fun v29 h7 =>
 COND (!v29) (Q false h7)
 (nx1 (IntKind.wrap .i64 (x17 + 1)) h7))
 (Q true h2)) 0 h0)
def pl122 : Plan := ⟨[], [(4, ⟨[(17, .nt .i64)], [1, 2, 15, 16], []⟩)], [], [], [], []⟩
theorem q122_eq (Z : List PanicEntry → Heap → Prop) (p0 : Sl) (p1 : Sl) (p2 : Value) (h0 : Heap) (Q : Cur (flat [.one (.bl)]) (Heap → Prop)) : q122 Z p0 p1 p2 h0 Q = (WPF P Z Tryz.f122 pl122 [.one (.sl), .one (.sl), .one (.oq)] h0 Q) p0 p1 p2 := by kernel_rfl

/- slices.EqualFunc[[]codicil/api.Field,[]codicil/api.Field,codicil/api.Field,codicil/api.Field] -/
def q123 (Z : List PanicEntry → Heap → Prop) (p0 : Sl) (p1 : Sl) (p2 : Value) (h0 : Heap) (Q : Cur (flat [.one (.bl)]) (Heap → Prop)) : Prop :=
 COND ((p0.len : Int) != (p1.len : Int)) (Q false h0)
 (LOOP [.nt .i64] (fun x17 h2 nx1 =>
 COND (decide (x17 < (p0.len : Int))) (IXA 8 p0.a p0.len x17 fun a20 =>
 LDN [.tx, .nt .u8, .bl, .nt .i64, .tx, .sl, .sl, .sl] a20 0 (EQ h2) fun v21_0 v21_1 v21_2 v21_3 v21_4 v21_5 v21_6 v21_7 =>
 ALLOC [.string ByteArray.empty, .int .u8 0, .bool false, .int .i64 0, .string ByteArray.empty, .slice none 0 0, .slice none 0 0, .slice none 0 0] 132 h2 fun b8 h3 =>
 PUTN b8 [.string v21_0, .int .u8 v21_1, .bool v21_2, .int .i64 v21_3, .string v21_4, v21_5.v, v21_6.v, v21_7.v] 0 h3 fun h4 =>
 IXA 8 p1.a p1.len x17 fun a24 =>
 LDN [.tx, .nt .u8, .bl, .nt .i64, .tx, .sl, .sl, .sl] a24 0 (EQ h4) fun v25_0 v25_1 v25_2 v25_3 v25_4 v25_5 v25_6 v25_7 =>
 ALLOC [.string ByteArray.empty, .int .u8 0, .bool false, .int .i64 0, .string ByteArray.empty, .slice none 0 0, .slice none 0 0, .slice none 0 0] 132 h4 fun b9 h5 =>
 PUTN b9 [.string v25_0, .int .u8 v25_1, .bool v25_2, .int .i64 v25_3, .string v25_4, v25_5.v, v25_6.v, v25_7.v] 0 h5 fun h6 =>
 CALLV P Z p2 [.agg #[.string v21_0, .int .u8 v21_1, .bool v21_2, .int .i64 v21_3, .string v21_4, v21_5.v, v21_6.v, v21_7.v], .agg #[.string v25_0, .int .u8 v25_1, .bool v25_2, .int .i64 v25_3, .string v25_4, v25_5.v, v25_6.v, v25_7.v]] [.one (.bl)] h6 [b8, b9] fun v29 h7 =>
 COND (!v29) (Q false h7)
 (nx1 (IntKind.wrap .i64 (x17 + 1)) h7))
 (Q true h2)) 0 h0)
def pl123 : Plan := ⟨[], [(4, ⟨[(17, .nt .i64)], [1, 2, 15, 16], []⟩)], [], [], [], []⟩
theorem q123_eq (Z : List PanicEntry → Heap → Prop) (p0 : Sl) (p1 : Sl) (p2 : Value) (h0 : Heap) (Q : Cur (flat [.one (.bl)]) (Heap → Prop)) : q123 Z p0 p1 p2 h0 Q = (WPF P Z Tryz.f123 pl123 [.one (.sl), .one (.sl), .one (.oq)] h0 Q) p0 p1 p2 := by kernel_rfl

/- codicil/value.Same$1 -/
def q124 (Z : List PanicEntry → Heap → Prop) (p0 : ByteArray) (p1 : Int) (p2 : Bool) (p3 : Int) (p4 : ByteArray) (p5 : Sl) (p6 : Sl) (p7 : Sl) (p8 : ByteArray) (p9 : Int) (p10 : Bool) (p11 : Int) (p12 : ByteArray) (p13 : Sl) (p14 : Sl) (p15 : Sl) (h0 : Heap) (Q : Cur (flat [.one (.bl)]) (Heap → Prop)) : Prop :=
 ALLOC [.string p0, .int .u8 p1, .bool p2, .int .i64 p3, .string p4, p5.v, p6.v, p7.v] 132 h0 fun b2 h1 =>
 ALLOC [.string p8, .int .u8 p9, .bool p10, .int .i64 p11, .string p12, p13.v, p14.v, p15.v] 132 h1 fun b3 h2 =>
 JOIN [.bl] (fun k3 => COND (p0.toList == p8.toList) (CALL P Z 82 [.agg #[.int .u8 p1, .bool p2, .int .i64 p3, .string p4, p5.v, p6.v, p7.v], .agg #[.int .u8 p9, .bool p10, .int .i64 p11, .string p12, p13.v, p14.v, p15.v]] [.one (.bl)] h2 [b2, b3] fun v15 h5 =>
 k3 v15 h5)
 (k3 false h2))
 fun x4 h4 =>
 Q x4 h4
def pl124 : Plan := ⟨[], [], [], [(1, ⟨[(4, .bl)], [], []⟩)], [], []⟩
theorem q124_eq (Z : List PanicEntry → Heap → Prop) (p0 : ByteArray) (p1 : Int) (p2 : Bool) (p3 : Int) (p4 : ByteArray) (p5 : Sl) (p6 : Sl) (p7 : Sl) (p8 : ByteArray) (p9 : Int) (p10 : Bool) (p11 : Int) (p12 : ByteArray) (p13 : Sl) (p14 : Sl) (p15 : Sl) (h0 : Heap) (Q : Cur (flat [.one (.bl)]) (Heap → Prop)) : q124 Z p0 p1 p2 p3 p4 p5 p6 p7 p8 p9 p10 p11 p12 p13 p14 p15 h0 Q = (WPF P Z Tryz.f124 pl124 [.agg [.tx, .nt .u8, .bl, .nt .i64, .tx, .sl, .sl, .sl], .agg [.tx, .nt .u8, .bl, .nt .i64, .tx, .sl, .sl, .sl]] h0 Q) p0 p1 p2 p3 p4 p5 p6 p7 p8 p9 p10 p11 p12 p13 p14 p15 := by kernel_rfl

/- codicil/value.of -/
def q125 (Z : List PanicEntry → Heap → Prop) (p0 : Int) (p1 : Bool) (p2 : Int) (p3 : ByteArray) (p4 : Sl) (p5 : Sl) (p6 : Sl) (h0 : Heap) (Q : Cur (flat [.one (.oq)]) (Heap → Prop)) : Prop :=
 ALLOC [.int .u8 p0, .bool p1, .int .i64 p2, .string p3, p4.v, p5.v, p6.v] 27 h0 fun b1 h1 =>
 COND (p0 == 1) (Q (.iface 232 (.agg #[])) h1)
 (COND (p0 == 2) (Q (.iface 233 (.bool p1)) h1)
 (COND (p0 == 3) (Q (.iface 234 (.int .i64 p2)) h1)
 (COND (p0 == 4) (Q (.iface 235 (.string p3)) h1)
 (COND (p0 == 5) (Q (.iface 236 (p4.v)) h1)
 (COND (p0 == 6) (Q (.iface 237 (p5.v)) h1)
 (COND (p0 == 7) (Q (.iface 208 (p6.v)) h1)
 (Q (.nilIface) h1)))))))
def pl125 : Plan := ⟨[], [], [], [], [], []⟩
theorem q125_eq (Z : List PanicEntry → Heap → Prop) (p0 : Int) (p1 : Bool) (p2 : Int) (p3 : ByteArray) (p4 : Sl) (p5 : Sl) (p6 : Sl) (h0 : Heap) (Q : Cur (flat [.one (.oq)]) (Heap → Prop)) : q125 Z p0 p1 p2 p3 p4 p5 p6 h0 Q = (WPF P Z Tryz.f125 pl125 [.agg [.nt .u8, .bl, .nt .i64, .tx, .sl, .sl, .sl]] h0 Q) p0 p1 p2 p3 p4 p5 p6 := by kernel_rfl

/- slices.IndexFunc[codicil/value.fields,codicil/api.Field] -/
def q126 (Z : List PanicEntry → Heap → Prop) (p0 : Sl) (p1 : Value) (h0 : Heap) (Q : Cur (flat [.one (.nt .i64)]) (Heap → Prop)) : Prop :=
 LOOP [.nt .i64] (fun x8 h2 nx1 =>
 COND (decide (x8 < (p0.len : Int))) (IXA 8 p0.a p0.len x8 fun a14 =>
 LDN [.tx, .nt .u8, .bl, .nt .i64, .tx, .sl, .sl, .sl] a14 0 (EQ h2) fun v15_0 v15_1 v15_2 v15_3 v15_4 v15_5 v15_6 v15_7 =>
 CALLV P Z p1 [.agg #[.string v15_0, .int .u8 v15_1, .bool v15_2, .int .i64 v15_3, .string v15_4, v15_5.v, v15_6.v, v15_7.v]] [.one (.bl)] h2 [] fun v16 h3 =>
 COND v16 (Q x8 h3)
 (nx1 (IntKind.wrap .i64 (x8 + 1)) h3))
 (Q (-1) h2)) 0 h0
def pl126 : Plan := ⟨[], [(2, ⟨[(8, .nt .i64)], [0, 1, 7], []⟩)], [], [], [], []⟩
theorem q126_eq (Z : List PanicEntry → Heap → Prop) (p0 : Sl) (p1 : Value) (h0 : Heap) (Q : Cur (flat [.one (.nt .i64)]) (Heap → Prop)) : q126 Z p0 p1 h0 Q = (WPF P Z Tryz.f126 pl126 [.one (.sl), .one (.oq)] h0 Q) p0 p1 := by kernel_rfl

/- codicil/value.Get$1 -/
def q127 (Z : List PanicEntry → Heap → Prop) (p0 : ByteArray) (p1 : Int) (p2 : Bool) (p3 : Int) (p4 : ByteArray) (p5 : Sl) (p6 : Sl) (p7 : Sl) (p8 : Addr) (h0 : Heap) (Q : Cur (flat [.one (.bl)]) (Heap → Prop)) : Prop :=
 ALLOC [.string p0, .int .u8 p1, .bool p2, .int .i64 p3, .string p4, p5.v, p6.v, p7.v] 132 h0 fun b2 h1 =>
 LD (.tx) p8 (EQ h1) fun v6 =>
 Q (p0.toList == v6.toList) h1
def pl127 : Plan := ⟨[], [], [], [], [], []⟩
theorem q127_eq (Z : List PanicEntry → Heap → Prop) (p0 : ByteArray) (p1 : Int) (p2 : Bool) (p3 : Int) (p4 : ByteArray) (p5 : Sl) (p6 : Sl) (p7 : Sl) (p8 : Addr) (h0 : Heap) (Q : Cur (flat [.one (.bl)]) (Heap → Prop)) : q127 Z p0 p1 p2 p3 p4 p5 p6 p7 p8 h0 Q = (WPF P Z Tryz.f127 pl127 [.agg [.tx, .nt .u8, .bl, .nt .i64, .tx, .sl, .sl, .sl], .one (.ad)] h0 Q) p0 p1 p2 p3 p4 p5 p6 p7 p8 := by kernel_rfl

/- codicil/value.Clone -/
def q128 (Z : List PanicEntry → Heap → Prop) (p0 : Int) (p1 : Bool) (p2 : Int) (p3 : ByteArray) (p4 : Sl) (p5 : Sl) (p6 : Sl) (h0 : Heap) (Q : Cur (flat [.agg [.nt .u8, .bl, .nt .i64, .tx, .sl, .sl, .sl]]) (Heap → Prop)) : Prop :=
 ALLOC [.int .u8 p0, .bool p1, .int .i64 p2, .string p3, p4.v, p5.v, p6.v] 27 h0 fun b1 h1 =>
 ALLOC [.int .u8 0, .bool false, .int .i64 0, .string ByteArray.empty, .slice none 0 0, .slice none 0 0, .slice none 0 0] 27 h1 fun b2 h2 =>
 CALL P Z 89 [p4.v] [.one (.sl)] h2 [b1, b2] fun v9 h3 =>
 CALL P Z 88 [v9.v] [.one (.sl)] h3 [b1, b2] fun v10 h4 =>
 PUTN b1 [v10.v] 4 h4 fun h5 =>
 CALL P Z 152 [p5.v] [.one (.sl)] h5 [b1, b2] fun v14 h6 =>
 CALL P Z 151 [v14.v] [.one (.sl)] h6 [b1, b2] fun v15 h7 =>
 PUTN b1 [v15.v] 5 h7 fun h8 =>
 CALL P Z 154 [p6.v] [.one (.sl)] h8 [b1, b2] fun v19 h9 =>
 CALL P Z 153 [v19.v] [.one (.sl)] h9 [b1, b2] fun v20 h10 =>
 PUTN b1 [v20.v] 6 h10 fun h11 =>
 LOOP [.nt .i64] (fun x25 h13 nx12 =>
 COND (decide (x25 < (v15.len : Int))) (IXA 7 v15.a v15.len x25 fun a28 =>
 LDN [.nt .u8, .bl, .nt .i64, .tx, .sl, .sl, .sl] a28 0 (EQ h13) fun v29_0 v29_1 v29_2 v29_3 v29_4 v29_5 v29_6 =>
 ALLOC [.int .u8 0, .bool false, .int .i64 0, .string ByteArray.empty, .slice none 0 0, .slice none 0 0, .slice none 0 0] 27 h13 fun b4 h14 =>
 PUTN b4 [.int .u8 v29_0, .bool v29_1, .int .i64 v29_2, .string v29_3, v29_4.v, v29_5.v, v29_6.v] 0 h14 fun h15 =>
 DRAW h15 [b1, b2, b4] fun S16 =>
 CALL P (fun _ _ => False) 128 [.agg #[.int .u8 v29_0, .bool v29_1, .int .i64 v29_2, .string v29_3, v29_4.v, v29_5.v, v29_6.v]] [.agg [.nt .u8, .bl, .nt .i64, .tx, .sl, .sl, .sl]] h15 [b1, b2, b4] fun v34_0 v34_1 v34_2 v34_3 v34_4 v34_5 v34_6 h17 =>
 SS S16 h17 (
 IXA 7 v15.a v15.len x25 fun a35 =>
 STN a35 [.int .u8 v34_0, .bool v34_1, .int .i64 v34_2, .string v34_3, v34_4.v, v34_5.v, v34_6.v] 0 h17 [b1, b2, b4] fun h18 =>
 nx12 (IntKind.wrap .i64 (x25 + 1)) h18))
 (LOOP [.nt .i64] (fun x40 h20 nx19 =>
 COND (decide (x40 < (v20.len : Int))) (IXA 8 v20.a v20.len x40 fun a43 =>
 LDN [.tx, .nt .u8, .bl, .nt .i64, .tx, .sl, .sl, .sl] a43 0 (EQ h20) fun v44_0 v44_1 v44_2 v44_3 v44_4 v44_5 v44_6 v44_7 =>
 ALLOC [.string ByteArray.empty, .int .u8 0, .bool false, .int .i64 0, .string ByteArray.empty, .slice none 0 0, .slice none 0 0, .slice none 0 0] 132 h20 fun b6 h21 =>
 PUTN b6 [.string v44_0, .int .u8 v44_1, .bool v44_2, .int .i64 v44_3, .string v44_4, v44_5.v, v44_6.v, v44_7.v] 0 h21 fun h22 =>
 DRAW h22 [b1, b2, b6] fun S23 =>
 CALL P (fun _ _ => False) 128 [.agg #[.int .u8 v44_1, .bool v44_2, .int .i64 v44_3, .string v44_4, v44_5.v, v44_6.v, v44_7.v]] [.agg [.nt .u8, .bl, .nt .i64, .tx, .sl, .sl, .sl]] h22 [b1, b2, b6] fun v50_0 v50_1 v50_2 v50_3 v50_4 v50_5 v50_6 h24 =>
 SS S23 h24 (
 IXA 8 v20.a v20.len x40 fun a51 =>
 STN (a51.add 1) [.int .u8 v50_0, .bool v50_1, .int .i64 v50_2, .string v50_3, v50_4.v, v50_5.v, v50_6.v] 0 h24 [b1, b2, b6] fun h25 =>
 nx19 (IntKind.wrap .i64 (x40 + 1)) h25))
 (PUTN b2 [.int .u8 p0, .bool p1, .int .i64 p2, .string p3, v10.v, v15.v, v20.v] 0 h20 fun h26 =>
 Q p0 p1 p2 p3 v10 v15 v20 h26)) 0 h13)) 0 h11
def pl128 : Plan := ⟨[], [(10, ⟨[(40, .nt .i64)], [1, 2, 38, 39], [1, 2]⟩), (5, ⟨[(25, .nt .i64)], [1, 2, 23, 24], [1, 2]⟩)], [], [], [(12, false, [0, 1, 2, 3, 4, 5, 6, 7, 8]), (7, false, [0, 1, 2, 3, 4, 5, 6])], []⟩
theorem q128_eq (Z : List PanicEntry → Heap → Prop) (p0 : Int) (p1 : Bool) (p2 : Int) (p3 : ByteArray) (p4 : Sl) (p5 : Sl) (p6 : Sl) (h0 : Heap) (Q : Cur (flat [.agg [.nt .u8, .bl, .nt .i64, .tx, .sl, .sl, .sl]]) (Heap → Prop)) : q128 Z p0 p1 p2 p3 p4 p5 p6 h0 Q = (WPF P Z Tryz.f128 pl128 [.agg [.nt .u8, .bl, .nt .i64, .tx, .sl, .sl, .sl]] h0 Q) p0 p1 p2 p3 p4 p5 p6 := by kernel_rfl

/- codicil/value.deep -/
def q129 (Z : List PanicEntry → Heap → Prop) (p0 : Int) (p1 : Bool) (p2 : Int) (p3 : ByteArray) (p4 : Sl) (p5 : Sl) (p6 : Sl) (p7 : Int) (h0 : Heap) (Q : Cur (flat [.one (.bl)]) (Heap → Prop)) : Prop :=
 ALLOC [.int .u8 p0, .bool p1, .int .i64 p2, .string p3, p4.v, p5.v, p6.v] 27 h0 fun b2 h1 =>
 ALLOC [.int .i64 p7] 3 h1 fun b3 h2 =>
 COND (p7 == 0) (Q true h2)
 (JOIN [.bl] (fun k3 => CALL P Z 155 [p5.v, .func (.func 156) #[] #[.pointer (some ⟨b3, 0, none⟩)]] [.one (.bl)] h2 [b2] fun v10 h5 =>
 COND v10 (k3 true h5)
 (CALL P Z 157 [p6.v, .func (.func 158) #[] #[.pointer (some ⟨b3, 0, none⟩)]] [.one (.bl)] h5 [b2] fun v15 h6 =>
 k3 v15 h6))
 fun x4 h4 =>
 Q x4 h4)
def pl129 : Plan := ⟨[], [], [], [(3, ⟨[(4, .bl)], [], []⟩)], [], []⟩
theorem q129_eq (Z : List PanicEntry → Heap → Prop) (p0 : Int) (p1 : Bool) (p2 : Int) (p3 : ByteArray) (p4 : Sl) (p5 : Sl) (p6 : Sl) (p7 : Int) (h0 : Heap) (Q : Cur (flat [.one (.bl)]) (Heap → Prop)) : q129 Z p0 p1 p2 p3 p4 p5 p6 p7 h0 Q = (WPF P Z Tryz.f129 pl129 [.agg [.nt .u8, .bl, .nt .i64, .tx, .sl, .sl, .sl], .one (.nt .i64)] h0 Q) p0 p1 p2 p3 p4 p5 p6 p7 := by kernel_rfl

end Go.VK
