/- Texts of a proof, one behind the other; the last of these: Streams; no condition. -/
import Derived.Test.YtdeholmpcbakbaaZ5
import Derived.Test.YtdeholmpcbakbaaProg
import Derived.IntWalk
section
/- The told forms of the functions that this seat reaches, each held against the program by a closed test; no condition. -/
set_option maxRecDepth 100000
set_option maxHeartbeats 1000000
namespace Go.Proofs.Ytdeholmpcbakbaa
open Go Go.Wit

noncomputable def A_witanref01_plus : AFun := ⟨2, 113, [.cell 4 12 true],
 (.seq (.ops [
 oO 2 (.box 12 1 (.t 0)),
 oO 3 (.box 12 1 (.t 1)),
 oO 4 (.alloc 12 1 (List.replicate 12 (.int .u64 0)))])
 (.seq (.seq (.ops [
 oO 18 (.fldA 8 (.t 2)),
 oO 19 (.load 4 true (.t 18)),
 oO 20 (.build [.int .u64 0, .int .u64 0, .int .u64 0, .int .u64 0] []),
 oO 21 (.eqa [.i, .i, .i, .i] false (.t 19) (.t 20))])
 (.cond (.t 21)
 (.seq (.ops [
 oO 22 (.load 12 true (.t 3)),
 ⟨none, .stA 12 1 12 (.t 4) (.t 22), none⟩])
 .ret)
 .skip))
 (.seq (.seq (.ops [
 oO 23 (.fldA 8 (.t 3)),
 oO 24 (.load 4 true (.t 23)),
 oO 25 (.build [.int .u64 0, .int .u64 0, .int .u64 0, .int .u64 0] []),
 oO 26 (.eqa [.i, .i, .i, .i] false (.t 24) (.t 25))])
 (.cond (.t 26)
 (.seq (.ops [
 oO 27 (.load 12 true (.t 2)),
 ⟨none, .stA 12 1 12 (.t 4) (.t 27), none⟩])
 .ret)
 .skip))
 (.seq (.draw [
 oO 28 (.fldA 8 (.t 2)),
 oO 29 (.load 4 true (.t 28)),
 oO 30 (.fldA 8 (.t 2)),
 oO 31 (.load 4 true (.t 30)),
 oK 32 F_witanref01_mul [.t 29, .t 31],
 oO 33 (.fldA 8 (.t 3)),
 oO 34 (.load 4 true (.t 33)),
 oO 35 (.fldA 8 (.t 3)),
 oO 36 (.load 4 true (.t 35)),
 oK 37 F_witanref01_mul [.t 34, .t 36],
 oO 5 (.alloc 1 4 [.int .u64 0]),
 oO 6 (.alloc 1 4 [.int .u64 0]),
 oS 4 5 32,
 oS 4 6 37] ⟨.all, [(10, some 12), (11, some 13)], .look 0 (.look 1 (.look 2 (.look 3 (.look 5 (.look 6 (.look 7 (.look 8 (.run 4 true (.pre 10 12 (.run 9 true (.pre 11 13 (.fill .done))))))))))))⟩)
 (.seq (.draw [
 oO 38 (.fldA 0 (.t 2)),
 oO 39 (.load 4 true (.t 38)),
 oO 40 (.load 4 true (.t 6)),
 oK 41 F_witanref01_mul [.t 39, .t 40],
 oO 42 (.fldA 0 (.t 3)),
 oO 43 (.load 4 true (.t 42)),
 oO 44 (.load 4 true (.t 5)),
 oK 45 F_witanref01_mul [.t 43, .t 44],
 oO 7 (.alloc 1 4 [.int .u64 0]),
 oO 8 (.alloc 1 4 [.int .u64 0]),
 oS 4 7 41,
 oS 4 8 45] ⟨.all, [(8, some 10), (9, some 11)], .look 0 (.look 1 (.look 2 (.look 4 (.look 5 (.look 6 (.run 3 true (.pre 8 10 (.run 7 true (.pre 9 11 (.fill .done))))))))))⟩)
 (.seq (.draw [
 oO 46 (.fldA 4 (.t 2)),
 oO 47 (.load 4 true (.t 46)),
 oO 48 (.load 4 true (.t 6)),
 oO 49 (.fldA 8 (.t 3)),
 oO 50 (.load 4 true (.t 49)),
 oK 51 F_witanref01_mul [.t 48, .t 50],
 oK 52 F_witanref01_mul [.t 47, .t 51],
 oO 53 (.fldA 4 (.t 3)),
 oO 54 (.load 4 true (.t 53)),
 oO 55 (.load 4 true (.t 5)),
 oO 56 (.fldA 8 (.t 2)),
 oO 57 (.load 4 true (.t 56)),
 oK 58 F_witanref01_mul [.t 55, .t 57],
 oK 59 F_witanref01_mul [.t 54, .t 58],
 oO 9 (.alloc 1 4 [.int .u64 0]),
 oO 10 (.alloc 1 4 [.int .u64 0]),
 oS 4 9 52,
 oS 4 10 59] ⟨.all, [(14, some 16), (15, some 17)], .look 0 (.look 1 (.look 2 (.look 3 (.look 4 (.look 7 (.look 8 (.look 9 (.look 10 (.look 11 (.run 5 true (.run 6 true (.pre 14 16 (.run 12 true (.run 13 true (.pre 15 17 (.fill .done))))))))))))))))⟩)
 (.seq (.draw [
 oO 60 (.load 4 true (.t 8)),
 oO 61 (.load 4 true (.t 7)),
 oK 62 F_witanref01_sub [.t 60, .t 61],
 oO 63 (.load 4 true (.t 10)),
 oO 64 (.load 4 true (.t 9)),
 oK 65 F_witanref01_sub [.t 63, .t 64],
 oO 11 (.alloc 1 4 [.int .u64 0]),
 oO 12 (.alloc 1 4 [.int .u64 0]),
 oS 4 11 62,
 oS 4 12 65] ⟨.all, [(6, some 8), (7, some 9)], .look 0 (.look 1 (.look 3 (.look 4 (.run 2 true (.pre 6 8 (.run 5 true (.pre 7 9 (.fill .done))))))))⟩)
 (.seq (.seq (.ops [
 oO 66 (.load 4 true (.t 11)),
 oO 67 (.build [.int .u64 0, .int .u64 0, .int .u64 0, .int .u64 0] []),
 oO 68 (.eqa [.i, .i, .i, .i] false (.t 66) (.t 67))])
 (.cond (.t 68)
 (.seq (.seq (.ops [
 oO 69 (.load 4 true (.t 12)),
 oO 70 (.build [.int .u64 0, .int .u64 0, .int .u64 0, .int .u64 0] []),
 oO 71 (.eqa [.i, .i, .i, .i] false (.t 69) (.t 70))])
 (.cond (.t 71)
 (.seq (.ops [
 oO 72 (.load 12 true (.t 2)),
 oK 73 F_witanref01_twice [.t 72],
 ⟨none, .stA 12 1 12 (.t 4) (.t 73), none⟩])
 .ret)
 .skip))
 (.seq (.ops [
 oK 74 F_witanref01_Inf [],
 oK 75 F_witanref01_up [.t 74],
 ⟨none, .stA 12 1 12 (.t 4) (.t 75), none⟩])
 .ret))
 .skip))
 (.seq (.ops [
 oO 76 (.load 4 true (.t 11)),
 oO 77 (.load 4 true (.t 11)),
 oK 78 F_witanref01_mul [.t 76, .t 77],
 oO 13 (.alloc 1 4 [.int .u64 0]),
 ⟨none, .stA 1 4 4 (.t 13) (.t 78), none⟩])
 (.seq (.ops [
 oO 79 (.load 4 true (.t 13)),
 oO 80 (.load 4 true (.t 11)),
 oK 81 F_witanref01_mul [.t 79, .t 80],
 oO 14 (.alloc 1 4 [.int .u64 0]),
 ⟨none, .stA 1 4 4 (.t 14) (.t 81), none⟩])
 (.seq (.ops [
 oO 82 (.load 4 true (.t 7)),
 oO 83 (.load 4 true (.t 13)),
 oK 84 F_witanref01_mul [.t 82, .t 83],
 oO 15 (.alloc 1 4 [.int .u64 0]),
 ⟨none, .stA 1 4 4 (.t 15) (.t 84), none⟩])
 (.seq (.draw [
 oO 85 (.load 4 true (.t 12)),
 oO 86 (.load 4 true (.t 12)),
 oK 87 F_witanref01_mul [.t 85, .t 86],
 oO 88 (.load 4 true (.t 14)),
 oK 89 F_witanref01_sub [.t 87, .t 88],
 oO 90 (.load 4 true (.t 15)),
 oO 91 (.load 4 true (.t 15)),
 oK 92 F_witanref01_add [.t 90, .t 91],
 oK 93 F_witanref01_sub [.t 89, .t 92],
 oO 16 (.alloc 1 4 [.int .u64 0]),
 oS 4 16 93] ⟨.all, [(9, some 10)], .look 0 (.look 1 (.look 3 (.look 5 (.look 6 (.run 2 true (.run 4 true (.run 7 true (.run 8 true (.pre 9 10 (.fill .done))))))))))⟩)
 (.seq (.draw [
 oO 94 (.load 4 true (.t 12)),
 oO 95 (.load 4 true (.t 15)),
 oO 96 (.load 4 true (.t 16)),
 oK 97 F_witanref01_sub [.t 95, .t 96],
 oK 98 F_witanref01_mul [.t 94, .t 97],
 oO 99 (.load 4 true (.t 9)),
 oO 100 (.load 4 true (.t 14)),
 oK 101 F_witanref01_mul [.t 99, .t 100],
 oK 102 F_witanref01_sub [.t 98, .t 101],
 oO 17 (.alloc 1 4 [.int .u64 0]),
 oS 4 17 102] ⟨.all, [(9, some 10)], .look 0 (.look 1 (.look 2 (.look 5 (.look 6 (.run 3 true (.run 4 true (.run 7 true (.run 8 true (.pre 9 10 (.fill .done))))))))))⟩)
 (.seq (.draw [
 oO 103 (.load 4 true (.t 16)),
 oO 104 (.load 4 true (.t 17)),
 oO 105 (.load 4 true (.t 11)),
 oO 106 (.fldA 8 (.t 2)),
 oO 107 (.load 4 true (.t 106)),
 oO 108 (.fldA 8 (.t 3)),
 oO 109 (.load 4 true (.t 108)),
 oK 110 F_witanref01_mul [.t 107, .t 109],
 oK 111 F_witanref01_mul [.t 105, .t 110],
 oO 112 (.build (List.replicate 12 (.int .u64 0)) [(0, 4, .t 103), (4, 4, .t 104), (8, 4, .t 111)]),
 ⟨none, .stA 12 1 12 (.t 4) (.t 112), none⟩] ⟨.all, [], .look 0 (.look 1 (.look 2 (.look 3 (.look 4 (.look 5 (.look 6 (.run 7 true (.run 8 true (.look 9 (.run 10 false .done))))))))))⟩)
 .ret))))))))))))))⟩
theorem K_witanref01_plus : chkFun DK Pg Try.f136 A_witanref01_plus = true := by kernel_rfl
theorem B_witanref01_plus {args : List AV} {m : Mem} {K : AV → Mem → Prop} (h : vcFun DK Pg A_witanref01_plus args m K) : ACall Pg F_witanref01_plus args m K := call_body mixed Try.func136 (by kernel_rfl) K_witanref01_plus h

noncomputable def A_witanref01_PointBytes : AFun := ⟨1, 21, [.t 2],
 (.seq (.ops [
 oO 1 (.box 9 1 (.t 0)),
 oO 2 (.mv (.c (.nils)))])
 (.seq (.seq (.ops [
 oO 5 (.fldA 0 (.t 1)),
 oO 6 (.load 1 false (.t 5))])
 (.cond (.t 6)
 (.seq (.ops [
 oO 7 (.bsl 1 1 [.int .u8 0] [(0, 1, .c (.int .u8 0))]),
 oM 2 7])
 .ret)
 .skip))
 (.seq (.ops [
 oO 8 (.fldA 1 (.t 1)),
 oO 9 (.load 4 true (.t 8)),
 oK 10 F_witanref01_Bytes [.t 9],
 oO 3 (.alloc 1 32 [.int .u8 0]),
 oS 32 3 10])
 (.seq (.ops [
 oO 11 (.fldA 5 (.t 1)),
 oO 12 (.idxP 4 1 (.t 11) (.c (.int .i64 0))),
 oO 13 (.load 1 false (.t 12)),
 oO 14 (.bin .and (.t 13) (.c (.int .u64 1))),
 oO 15 (.conv .u8 (.t 14)),
 oO 16 (.bin .add (.c (.int .u8 2)) (.t 15)),
 oO 17 (.bsl 1 1 [.int .u8 0] [(0, 1, .t 16)]),
 oM 4 17])
 (.seq (.ops [
 oM 18 4,
 oO 19 (.slarr 32 1 (.t 3) none none none),
 oO 20 (.app 1 1 (.t 18) (.t 19)),
 oM 2 20])
 .ret)))))⟩
theorem K_witanref01_PointBytes : chkFun DK Pg Try.f137 A_witanref01_PointBytes = true := by kernel_rfl
theorem B_witanref01_PointBytes {args : List AV} {m : Mem} {K : AV → Mem → Prop} (h : vcFun DK Pg A_witanref01_PointBytes args m K) : ACall Pg F_witanref01_PointBytes args m K := call_body mixed Try.func137 (by kernel_rfl) K_witanref01_PointBytes h

noncomputable def A_witanref01_FSub : AFun := ⟨3, 26, [.cell 6 4 true],
 (.seq (.ops [
 oO 4 (.box 1 4 (.t 1)),
 oO 5 (.box 1 4 (.t 2)),
 oO 6 (.alloc 1 4 [.int .u64 0])])
 (.seq (.seq (.ops [
 oM 9 0,
 oK 10 F_witanref01_ok [.t 9],
 oO 11 (.un .not (.t 10))])
 (.cond (.t 11)
 (.seq (.ops [
 oO 12 (.build [.int .u64 0, .int .u64 0, .int .u64 0, .int .u64 0] []),
 ⟨none, .stA 1 4 4 (.t 6) (.t 12), none⟩])
 .ret)
 .skip))
 (.seq (.draw [
 oM 14 0,
 oK 15 F_witanref01_Prime [.t 14],
 oM 16 0,
 oO 17 (.load 4 true (.t 5)),
 oK 18 F_witanref01_Red [.t 16, .t 17],
 oK 19 F_witanref01_Sub [.t 15, .t 18],
 oM 13 19,
 oO 20 (.ext (.t 13) 0),
 oO 21 (.ext (.t 13) 1),
 oO 7 (.alloc 1 4 [.int .u64 0]),
 oS 4 7 20,
 oM 8 21] ⟨.all, [(9, some 10)], .look 0 (.look 2 (.look 3 (.run 1 true (.run 4 true (.run 5 true (.look 6 (.look 7 (.pre 9 10 (.look 8 (.fill (.look 11 .done)))))))))))⟩)
 (.seq (.ops [
 oM 22 0,
 oO 23 (.load 4 true (.t 4)),
 oO 24 (.load 4 true (.t 7)),
 oK 25 F_witanref01_FAdd [.t 22, .t 23, .t 24],
 ⟨none, .stA 1 4 4 (.t 6) (.t 25), none⟩])
 .ret))))⟩
theorem K_witanref01_FSub : chkFun DK Pg Try.f138 A_witanref01_FSub = true := by kernel_rfl
theorem B_witanref01_FSub {args : List AV} {m : Mem} {K : AV → Mem → Prop} (h : vcFun DK Pg A_witanref01_FSub args m K) : ACall Pg F_witanref01_FSub args m K := call_body mixed Try.func138 (by kernel_rfl) K_witanref01_FSub h

noncomputable def A_bits_Mul64 : AFun := ⟨2, 51, [.t 4, .t 5],
 (.seq (.ops [
 oO 4 (.mv (.c (.int .u64 0))),
 oO 5 (.mv (.c (.int .u64 0)))])
 (.seq (.ops [
 oM 14 0,
 oO 15 (.bin .and (.t 14) (.c (.int .u64 4294967295))),
 oM 6 15])
 (.seq (.ops [
 oM 16 0,
 oO 17 (.bin .shr (.t 16) (.c (.int .u64 32))),
 oM 7 17])
 (.seq (.ops [
 oM 18 1,
 oO 19 (.bin .and (.t 18) (.c (.int .u64 4294967295))),
 oM 8 19])
 (.seq (.ops [
 oM 20 1,
 oO 21 (.bin .shr (.t 20) (.c (.int .u64 32))),
 oM 9 21])
 (.seq (.ops [
 oM 22 6,
 oM 23 8,
 oO 24 (.bin .mul (.t 22) (.t 23)),
 oM 10 24])
 (.seq (.ops [
 oM 25 7,
 oM 26 8,
 oO 27 (.bin .mul (.t 25) (.t 26)),
 oM 28 10,
 oO 29 (.bin .shr (.t 28) (.c (.int .u64 32))),
 oO 30 (.bin .add (.t 27) (.t 29)),
 oM 11 30])
 (.seq (.ops [
 oM 31 11,
 oO 32 (.bin .and (.t 31) (.c (.int .u64 4294967295))),
 oM 12 32])
 (.seq (.ops [
 oM 33 11,
 oO 34 (.bin .shr (.t 33) (.c (.int .u64 32))),
 oM 13 34])
 (.seq (.ops [
 oM 35 12,
 oM 36 6,
 oM 37 9,
 oO 38 (.bin .mul (.t 36) (.t 37)),
 oO 39 (.bin .add (.t 35) (.t 38)),
 oM 12 39])
 (.seq (.ops [
 oM 40 7,
 oM 41 9,
 oO 42 (.bin .mul (.t 40) (.t 41)),
 oM 43 13,
 oO 44 (.bin .add (.t 42) (.t 43)),
 oM 45 12,
 oO 46 (.bin .shr (.t 45) (.c (.int .u64 32))),
 oO 47 (.bin .add (.t 44) (.t 46)),
 oM 4 47])
 (.seq (.ops [
 oM 48 0,
 oM 49 1,
 oO 50 (.bin .mul (.t 48) (.t 49)),
 oM 5 50])
 .ret))))))))))))⟩
theorem K_bits_Mul64 : chkFun DK Pg Try.f139 A_bits_Mul64 = true := by kernel_rfl
theorem B_bits_Mul64 {args : List AV} {m : Mem} {K : AV → Mem → Prop} (h : vcFun DK Pg A_bits_Mul64 args m K) : ACall Pg F_bits_Mul64 args m K := call_body mixed Try.func139 (by kernel_rfl) K_bits_Mul64 h

noncomputable def A_witanref01_Mul : AFun := ⟨2, 81, [.cell 4 4 true, .cell 5 4 true],
 (.seq (.ops [
 oO 2 (.box 1 4 (.t 0)),
 oO 3 (.box 1 4 (.t 1)),
 oO 4 (.alloc 1 4 [.int .u64 0]),
 oO 5 (.alloc 1 4 [.int .u64 0])])
 (.seq (.ops [
 oO 6 (.alloc 1 8 [.int .u64 0])])
 (.seq (.seq (.ops [
 oO 7 (.mv (.c (.int .i64 0)))])
 (.block 0
 (.loop
 (.seq (.seq (.ops [
 oM 13 7,
 oO 14 (.bin .lss (.t 13) (.c (.int .i64 4)))])
 (.cond (.t 14)
 .skip
 (.exit 0)))
 (.seq (.block 1
 (.seq (.ops [
 oO 8 (.mv (.c (.int .u64 0)))])
 (.seq (.seq (.ops [
 oO 9 (.mv (.c (.int .i64 0)))])
 (.block 2
 (.loop
 (.seq (.seq (.ops [
 oM 17 9,
 oO 18 (.bin .lss (.t 17) (.c (.int .i64 4)))])
 (.cond (.t 18)
 .skip
 (.exit 2)))
 (.seq (.block 3
 (.seq (.draw [
 oM 22 7,
 oO 23 (.idxP 4 1 (.t 2) (.t 22)),
 oO 24 (.load 1 false (.t 23)),
 oM 25 9,
 oO 26 (.idxP 4 1 (.t 3) (.t 25)),
 oO 27 (.load 1 false (.t 26)),
 oK 28 F_bits_Mul64 [.t 24, .t 27],
 oM 21 28,
 oO 29 (.ext (.t 21) 0),
 oO 30 (.ext (.t 21) 1),
 oM 10 29,
 oM 11 30] ⟨.all, [], .look 0 (.look 1 (.look 2 (.look 3 (.look 4 (.look 5 (.run 6 false (.look 7 (.look 8 (.look 9 (.look 10 (.look 11 .done)))))))))))⟩)
 (.seq (.ops [
 oM 32 11,
 oM 33 7,
 oM 34 9,
 oO 35 (.binF .add (.t 33) (.t 34)),
 oO 36 (.idxP 8 1 (.t 6) (.t 35)),
 oO 37 (.load 1 false (.t 36)),
 oO 38 (.x64 false F_bits_Add64 (.t 32) (.t 37) (.c (.int .u64 0))),
 oM 31 38,
 oO 39 (.ext (.t 31) 0),
 oO 40 (.ext (.t 31) 1),
 oM 11 39,
 oM 12 40])
 (.seq (.ops [
 oM 41 10,
 oM 42 12,
 oO 43 (.bin .add (.t 41) (.t 42)),
 oM 10 43])
 (.seq (.ops [
 oM 45 11,
 oM 46 8,
 oO 47 (.x64 false F_bits_Add64 (.t 45) (.t 46) (.c (.int .u64 0))),
 oM 44 47,
 oO 48 (.ext (.t 44) 0),
 oO 49 (.ext (.t 44) 1),
 oM 11 48,
 oM 12 49])
 (.seq (.ops [
 oM 50 10,
 oM 51 12,
 oO 52 (.bin .add (.t 50) (.t 51)),
 oM 10 52])
 (.ops [
 oM 53 7,
 oM 54 9,
 oO 55 (.binF .add (.t 53) (.t 54)),
 oM 56 11,
 oM 57 10,
 oO 58 (.idxP 8 1 (.t 6) (.t 55)),
 ⟨none, .stA 1 8 1 (.t 58) (.t 56), none⟩,
 oM 8 57])))))))
 (.ops [
 oM 19 9,
 oO 20 (.binF .add (.t 19) (.c (.int .i64 1))),
 oM 9 20]))))))
 (.ops [
 oM 59 7,
 oO 60 (.binF .add (.t 59) (.c (.int .i64 4))),
 oM 61 8,
 oO 62 (.idxP 8 1 (.t 6) (.t 60)),
 ⟨none, .stA 1 8 1 (.t 62) (.t 61), none⟩]))))
 (.ops [
 oM 15 7,
 oO 16 (.binF .add (.t 15) (.c (.int .i64 1))),
 oM 7 16]))))))
 (.seq (.draw [
 oO 63 (.idxP 8 1 (.t 6) (.c (.int .i64 0))),
 oO 64 (.load 1 false (.t 63)),
 oO 65 (.idxP 8 1 (.t 6) (.c (.int .i64 1))),
 oO 66 (.load 1 false (.t 65)),
 oO 67 (.idxP 8 1 (.t 6) (.c (.int .i64 2))),
 oO 68 (.load 1 false (.t 67)),
 oO 69 (.idxP 8 1 (.t 6) (.c (.int .i64 3))),
 oO 70 (.load 1 false (.t 69)),
 oO 71 (.build [.int .u64 0, .int .u64 0, .int .u64 0, .int .u64 0] [(0, 1, .t 64), (1, 1, .t 66), (2, 1, .t 68), (3, 1, .t 70)]),
 oO 72 (.idxP 8 1 (.t 6) (.c (.int .i64 4))),
 oO 73 (.load 1 false (.t 72)),
 oO 74 (.idxP 8 1 (.t 6) (.c (.int .i64 5))),
 oO 75 (.load 1 false (.t 74)),
 oO 76 (.idxP 8 1 (.t 6) (.c (.int .i64 6))),
 oO 77 (.load 1 false (.t 76)),
 oO 78 (.idxP 8 1 (.t 6) (.c (.int .i64 7))),
 oO 79 (.load 1 false (.t 78)),
 oO 80 (.build [.int .u64 0, .int .u64 0, .int .u64 0, .int .u64 0] [(0, 1, .t 73), (1, 1, .t 75), (2, 1, .t 77), (3, 1, .t 79)]),
 ⟨none, .stA 1 4 4 (.t 4) (.t 71), none⟩,
 ⟨none, .stA 1 4 4 (.t 5) (.t 80), none⟩] ⟨(.but [4]), [], .look 0 (.look 1 (.look 2 (.look 3 (.look 4 (.look 5 (.look 6 (.look 7 (.look 8 (.look 9 (.look 10 (.look 11 (.look 12 (.look 13 (.look 14 (.look 15 (.look 16 (.look 17 (.run 18 true (.run 19 false .done)))))))))))))))))))⟩)
 .ret))))⟩
theorem K_witanref01_Mul : chkFun DK Pg Try.f140 A_witanref01_Mul = true := by kernel_rfl
theorem B_witanref01_Mul {args : List AV} {m : Mem} {K : AV → Mem → Prop} (h : vcFun DK Pg A_witanref01_Mul args m K) : ACall Pg F_witanref01_Mul args m K := call_body mixed Try.func140 (by kernel_rfl) K_witanref01_Mul h

noncomputable def A_witanref01_Red : AFun := ⟨2, 13, [.cell 4 4 true],
 (.seq (.ops [
 oO 3 (.box 1 4 (.t 1)),
 oO 4 (.alloc 1 4 [.int .u64 0])])
 (.seq (.seq (.ops [
 oM 5 0,
 oK 6 F_witanref01_ok [.t 5],
 oO 7 (.un .not (.t 6))])
 (.cond (.t 7)
 (.seq (.ops [
 oO 8 (.build [.int .u64 0, .int .u64 0, .int .u64 0, .int .u64 0] []),
 ⟨none, .stA 1 4 4 (.t 4) (.t 8), none⟩])
 .ret)
 .skip))
 (.seq (.ops [
 oM 9 0,
 oO 10 (.load 4 true (.t 3)),
 oO 11 (.build [.int .u64 0, .int .u64 0, .int .u64 0, .int .u64 0] []),
 oK 12 F_witanref01_fold [.t 9, .t 10, .t 11],
 ⟨none, .stA 1 4 4 (.t 4) (.t 12), none⟩])
 .ret)))⟩
theorem K_witanref01_Red : chkFun DK Pg Try.f141 A_witanref01_Red = true := by kernel_rfl
theorem B_witanref01_Red {args : List AV} {m : Mem} {K : AV → Mem → Prop} (h : vcFun DK Pg A_witanref01_Red args m K) : ACall Pg F_witanref01_Red args m K := call_body mixed Try.func141 (by kernel_rfl) K_witanref01_Red h

noncomputable def A_witanref01_Pow : AFun := ⟨3, 31, [.cell 6 4 true],
 (.seq (.ops [
 oO 4 (.box 1 4 (.t 1)),
 oO 5 (.box 1 4 (.t 2)),
 oO 6 (.alloc 1 4 [.int .u64 0])])
 (.seq (.seq (.ops [
 oM 9 0,
 oK 10 F_witanref01_ok [.t 9],
 oO 11 (.un .not (.t 10))])
 (.cond (.t 11)
 (.seq (.ops [
 oO 12 (.build [.int .u64 0, .int .u64 0, .int .u64 0, .int .u64 0] []),
 ⟨none, .stA 1 4 4 (.t 6) (.t 12), none⟩])
 .ret)
 .skip))
 (.seq (.ops [
 oO 13 (.build [.int .u64 0, .int .u64 0, .int .u64 0, .int .u64 0] [(0, 1, .c (.int .u64 1))]),
 oO 7 (.alloc 1 4 [.int .u64 0]),
 ⟨none, .stA 1 4 4 (.t 7) (.t 13), none⟩])
 (.seq (.seq (.ops [
 oO 8 (.mv (.c (.int .i64 255)))])
 (.block 0
 (.loop
 (.seq (.seq (.ops [
 oM 14 8,
 oO 15 (.bin .geq (.t 14) (.c (.int .i64 0)))])
 (.cond (.t 15)
 .skip
 (.exit 0)))
 (.seq (.block 1
 (.seq (.ops [
 oM 18 0,
 oO 19 (.load 4 true (.t 7)),
 oO 20 (.load 4 true (.t 7)),
 oK 21 F_witanref01_FMul [.t 18, .t 19, .t 20],
 ⟨none, .stA 1 4 4 (.t 7) (.t 21), none⟩])
 (.seq (.ops [
 oO 22 (.load 4 true (.t 5)),
 oM 23 8,
 oK 24 F_witanref01_Bit [.t 22, .t 23],
 oO 25 (.bin .eql (.t 24) (.c (.int .i64 1)))])
 (.cond (.t 25)
 (.ops [
 oM 26 0,
 oO 27 (.load 4 true (.t 7)),
 oO 28 (.load 4 true (.t 4)),
 oK 29 F_witanref01_FMul [.t 26, .t 27, .t 28],
 ⟨none, .stA 1 4 4 (.t 7) (.t 29), none⟩])
 .skip))))
 (.ops [
 oM 16 8,
 oO 17 (.bin .sub (.t 16) (.c (.int .i64 1))),
 oM 8 17]))))))
 (.seq (.ops [
 oO 30 (.load 4 true (.t 7)),
 ⟨none, .stA 1 4 4 (.t 6) (.t 30), none⟩])
 .ret)))))⟩
theorem K_witanref01_Pow : chkFun DK Pg Try.f142 A_witanref01_Pow = true := by kernel_rfl
theorem B_witanref01_Pow {args : List AV} {m : Mem} {K : AV → Mem → Prop} (h : vcFun DK Pg A_witanref01_Pow args m K) : ACall Pg F_witanref01_Pow args m K := call_body mixed Try.func142 (by kernel_rfl) K_witanref01_Pow h

noncomputable def A_bits_Len64 : AFun := ⟨1, 25, [.t 2],
 (.seq (.ops [
 oO 2 (.mv (.c (.int .i64 0)))])
 (.seq (.seq (.ops [
 oM 3 0,
 oO 4 (.bin .geq (.t 3) (.c (.int .u64 4294967296)))])
 (.cond (.t 4)
 (.seq (.ops [
 oM 5 0,
 oO 6 (.bin .shr (.t 5) (.c (.int .u64 32))),
 oM 0 6])
 (.ops [
 oO 2 (.mv (.c (.int .i64 32)))]))
 .skip))
 (.seq (.seq (.ops [
 oM 7 0,
 oO 8 (.bin .geq (.t 7) (.c (.int .u64 65536)))])
 (.cond (.t 8)
 (.seq (.ops [
 oM 9 0,
 oO 10 (.bin .shr (.t 9) (.c (.int .u64 16))),
 oM 0 10])
 (.ops [
 oM 11 2,
 oO 12 (.bin .add (.t 11) (.c (.int .i64 16))),
 oM 2 12]))
 .skip))
 (.seq (.seq (.ops [
 oM 13 0,
 oO 14 (.bin .geq (.t 13) (.c (.int .u64 256)))])
 (.cond (.t 14)
 (.seq (.ops [
 oM 15 0,
 oO 16 (.bin .shr (.t 15) (.c (.int .u64 8))),
 oM 0 16])
 (.ops [
 oM 17 2,
 oO 18 (.bin .add (.t 17) (.c (.int .i64 8))),
 oM 2 18]))
 .skip))
 (.seq (.ops [
 oM 19 2,
 oM 20 0,
 oO 21 (.conv .u8 (.t 20)),
 ⟨some 22, .idxs (.c (.str ⟨#[0, 1, 2, 2, 3, 3, 3, 3, 4, 4, 4, 4, 4, 4, 4, 4, 5, 5, 5, 5, 5, 5, 5, 5, 5, 5, 5, 5, 5, 5, 5, 5, 6, 6, 6, 6, 6, 6, 6, 6, 6, 6, 6, 6, 6, 6, 6, 6, 6, 6, 6, 6, 6, 6, 6, 6, 6, 6, 6, 6, 6, 6, 6, 6, 7, 7, 7, 7, 7, 7, 7, 7, 7, 7, 7, 7, 7, 7, 7, 7, 7, 7, 7, 7, 7, 7, 7, 7, 7, 7, 7, 7, 7, 7, 7, 7, 7, 7, 7, 7, 7, 7, 7, 7, 7, 7, 7, 7, 7, 7, 7, 7, 7, 7, 7, 7, 7, 7, 7, 7, 7, 7, 7, 7, 7, 7, 7, 7, 8, 8, 8, 8, 8, 8, 8, 8, 8, 8, 8, 8, 8, 8, 8, 8, 8, 8, 8, 8, 8, 8, 8, 8, 8, 8, 8, 8, 8, 8, 8, 8, 8, 8, 8, 8, 8, 8, 8, 8, 8, 8, 8, 8, 8, 8, 8, 8, 8, 8, 8, 8, 8, 8, 8, 8, 8, 8, 8, 8, 8, 8, 8, 8, 8, 8, 8, 8, 8, 8, 8, 8, 8, 8, 8, 8, 8, 8, 8, 8, 8, 8, 8, 8, 8, 8, 8, 8, 8, 8, 8, 8, 8, 8, 8, 8, 8, 8, 8, 8, 8, 8, 8, 8, 8, 8, 8, 8, 8, 8, 8, 8, 8, 8, 8, 8, 8, 8, 8, 8, 8, 8, 8, 8, 8, 8, 8, 8]⟩)) (.t 21), none⟩,
 oO 23 (.conv .i64 (.t 22)),
 oO 24 (.bin .add (.t 19) (.t 23)),
 oM 2 24])
 .ret)))))⟩
theorem K_bits_Len64 : chkFun DK Pg Try.f143 A_bits_Len64 = true := by kernel_rfl
theorem B_bits_Len64 {args : List AV} {m : Mem} {K : AV → Mem → Prop} (h : vcFun DK Pg A_bits_Len64 args m K) : ACall Pg F_bits_Len64 args m K := call_body mixed Try.func143 (by kernel_rfl) K_bits_Len64 h

noncomputable def A_witanref01_ok : AFun := ⟨1, 9, [.t 2],
 (.seq (.ops [
 oO 2 (.mv (.c (.bool false)))])
 (.seq (.ops [
 oM 3 0,
 oO 4 (.bin .eql (.t 3) (.c (.int .i64 0))),
 oM 5 4,
 oG 6 (.mv (.t 0)) 5 false,
 oG 7 (.bin .eql (.t 6) (.c (.int .i64 1))) 5 false,
 oO 8 (.pick (.t 5) (.c (.bool true)) (.t 7)),
 oM 2 8])
 .ret))⟩
theorem K_witanref01_ok : chkFun DK Pg Try.f144 A_witanref01_ok = true := by kernel_rfl
theorem B_witanref01_ok {args : List AV} {m : Mem} {K : AV → Mem → Prop} (h : vcFun DK Pg A_witanref01_ok args m K) : ACall Pg F_witanref01_ok args m K := call_body mixed Try.func144 (by kernel_rfl) K_witanref01_ok h

end Go.Proofs.Ytdeholmpcbakbaa
end

section
/- What the small calls make; no condition. -/
set_option linter.unusedVariables false
set_option maxRecDepth 100000
set_option pp.maxSteps 300
set_option linter.unusedSimpArgs false
namespace Go.Proofs.Ytdeholmpcbakbaa
open Go Go.Wit

theorem w64 {n : Int} (h0 : -9223372036854775808 ≤ n) (h1 : n ≤ 9223372036854775807) : IntKind.i64.wrap n = n := by rw [IntKind.wrap_i64]; omega

theorem wu64 (n : Int) : IntKind.u64.wrap n = n % 18446744073709551616 := by simp [IntKind.wrap, IntKind.bits, IntKind.signed]

end Go.Proofs.Ytdeholmpcbakbaa
end

section
/- What the calls of bin make; no condition. -/
set_option linter.unusedVariables false
set_option linter.unusedSimpArgs false
set_option maxRecDepth 100000
set_option pp.maxSteps 300
namespace Go.Proofs.Ytdeholmpcbakbaa
open Go Go.Wit

end Go.Proofs.Ytdeholmpcbakbaa
end

section
/- What the readers of bin make; no condition. -/
set_option linter.unusedVariables false
set_option linter.unusedSimpArgs false
set_option maxRecDepth 100000
set_option pp.maxSteps 300
namespace Go.Proofs.Ytdeholmpcbakbaa
open Go Go.Wit

def getV (f : Nat → Int) (p : Nat) : Nat → Int
  | 0 => 0
  | k + 1 => getV f p k * 256 + f (p + k)

theorem getV_lt {f : Nat → Int} {p k : Nat} (hf : ∀ i, i < p + k → 0 ≤ f i ∧ f i ≤ 255) : 0 ≤ getV f p k ∧ getV f p k < 256 ^ k := by
  induction k with
  | zero => simp [getV]
  | succ k ih =>
    have h1 := ih (fun i hi => hf i (by omega))
    have h2 := hf (p + k) (by omega)
    simp only [getV]
    have : (256 : Int) ^ (k + 1) = 256 ^ k * 256 := by rw [Int.pow_succ]
    omega

end Go.Proofs.Ytdeholmpcbakbaa
end

section
/- Rows held against one another; no condition. -/
set_option linter.unusedVariables false
set_option linter.unusedSimpArgs false
set_option maxRecDepth 100000
set_option pp.maxSteps 300
namespace Go.Proofs.Ytdeholmpcbakbaa
open Go Go.Wit

end Go.Proofs.Ytdeholmpcbakbaa
end

section
/- The bytes of numbers; bytes joined; no condition. -/
set_option linter.unusedVariables false
set_option linter.unusedSimpArgs false
set_option maxRecDepth 100000
set_option pp.maxSteps 3000
namespace Go.Proofs.Ytdeholmpcbakbaa
open Go Go.Wit

/-- A number's bytes, so many, the highest first. -/
def beF (x : Int) (s i : Nat) : Int := (x / 2 ^ (8 * (s - 1 - i))) % 256
/-- Bytes with others behind. -/
def catB (n : Nat) (f g : Nat → Int) (i : Nat) : Int := if i < n then f i else g (i - n)
theorem catB_lt {n i : Nat} {f g : Nat → Int} (h : i < n) : catB n f g i = f i := if_pos h
theorem catB_ge {n i : Nat} {f g : Nat → Int} (h : n ≤ i) : catB n f g i = g (i - n) := if_neg (by omega)
theorem catB_0 {f g : Nat → Int} : catB 0 f g = g := funext fun i => by unfold catB; rw [if_neg (by omega)]; rfl
theorem cat_bytes {n i j : Nat} {f g : Nat → Int} : catG n (bytesG f) (bytesG g) i j = bytesG (catB n f g) i j := by
  by_cases h : i < n
  · rw [catG_lt h]; unfold bytesG; rw [catB_lt h]
  · rw [catG_ge (by omega)]; unfold bytesG; rw [catB_ge (by omega)]
theorem beF_lt {x : Int} {s i : Nat} : 0 ≤ beF x s i ∧ beF x s i ≤ 255 := by unfold beF; omega
theorem catB_in {n i m : Nat} {f g : Nat → Int} (hf : ∀ i, i < n → 0 ≤ f i ∧ f i ≤ 255) (hg : ∀ i, i < m → 0 ≤ g i ∧ g i ≤ 255) (hi : i < n + m) : 0 ≤ catB n f g i ∧ catB n f g i ≤ 255 := by
  unfold catB; split
  · exact hf i (by assumption)
  · exact hg _ (by omega)
theorem RV.of {nv : Bool} {σ : Nat → Option Nat} {v v' : AV} (h : v = v') (hf : Flat nv v') : RV nv σ v v' := by subst h; exact .eq _ _ rfl hf

theorem Shows.slG {m : Mem} {l off n cap N : Nat} {f : Nat → Int} {g : Nat → Nat → AV} (h : m[l]? = some (some ⟨1, N, g⟩)) (hn : off + n ≤ N) (hf : ∀ i, i < n → g (off + i) 0 = .int .u8 (f i)) : Shows m (.sl l off n cap) n f :=
  ⟨cap, .sl l off n cap ⟨1, N, g⟩ _ (List.mem_range.2 (lt_of_get h)) h hn (fun i j hi hj => by
    have hj : j < 1 := hj
    obtain rfl : j = 0 := by omega
    exact ⟨(hf i hi).symm, flat_bytesG⟩)⟩
theorem Shows.one {m : Mem} {l cap : Nat} {x : Int} {g : Nat → Nat → AV} (h : m[l]? = some (some ⟨1, 1, g⟩)) (hf : g 0 0 = .int .u8 x) : Shows m (.sl l 0 1 cap) 1 (fun _ => x) :=
  Shows.slG h (Nat.le_refl _) fun i hi => by
    obtain rfl : i = 0 := by omega
    exact hf
theorem beW {nv : Bool} {σ : Nat → Option Nat} {x : Int} {s k i j : Nat} {h : Nat → Nat → AV} {A : AV} (hA : A = catG k (bytesG (beF x s)) h i j) (hi : i < k + 1) (hk : k < s) (hh : h 0 j = .int .u8 (beF x s k)) : RV nv σ A (bytesG (beF x s) i j) := by
  subst hA
  refine RV.of ?_ (.int _ _)
  by_cases hik : i < k
  · rw [catG_lt hik]
  · obtain rfl : i = k := by omega
    rw [catG_ge (Nat.le_refl _), Nat.sub_self, hh]
    rfl
theorem wu8 (x : Int) {k s i : Nat} (hx : 0 ≤ x) {e : Nat} (he : e = 8 * (s - 1 - i)) : IntKind.u8.wrap (x.fdiv (2 ^ e)) = beF x s i := by
  rw [IntKind.wrap_u8, Int.fdiv_eq_ediv_of_nonneg _ (Int.pow_nonneg (by omega)), he]
  rfl

theorem S_number0 (x : Int) (s : Nat) (hx : 0 ≤ x) (hs : s ≤ 8) : ACall Pg F_draw_number [.int .u64 x, .int .i64 s] [] (fun v m' => ∃ n' f', (n' = s ∧ f' = beF x s) ∧ RetB n' f' v m') := by
  refine B_draw_number ⟨rfl, ?_⟩
  conv => whnf
  repeat (refine ⟨⟨[], rfl⟩, ?_⟩; conv => whnf)
  have e8 : IntKind.i64.wrap ((s : Int) - 1) = (s : Int) - 1 := w64 (by omega) (by omega)
  refine loop_wk mixed (I := fun q l m => ∃ (k c' : Nat), l = [(0, .int .u64 x), (5, .sl 0 0 k c'), (6, .int .i64 ((s : Int) - 1 - k))] ∧ m = [some ⟨1, k, bytesG (beF x s)⟩] ∧ q + k = s) s
    (l0 := [(0, .int .u64 x), (5, .sl 0 0 0 0), (6, .int .i64 ((s : Int) - 1 - (0 : Nat)))]) (m0 := [some ⟨1, 0, bytesG (beF x s)⟩]) [none] ⟨0, 0, rfl, rfl, rfl⟩ ?_ ?_
  · exact .mk0 ⟨Flat.i rfl, .nils _ _, Flat.i (by rw [e8]; omega), trivial⟩ ⟨.ph _ _ _ rfl, trivial⟩ rfl rfl
  · rintro q l m ⟨k, c', rfl, rfl, hq⟩
    conv => whnf
    repeat (refine ⟨⟨[], rfl⟩, ?_⟩; conv => whnf)
    refine condB_mk (fun hb => ?_) (fun hb => ?_)
    · have hb : k < s := by simp at hb; omega
      conv => whnf
      repeat (refine ⟨⟨[], rfl⟩, ?_⟩; conv => whnf)
      have e9 : IntKind.i64.wrap (8 * ((s : Int) - 1 - k)) = 8 * ((s : Int) - 1 - k) := w64 (by omega) (by omega)
      refine condB_ok (by rw [e9]; simp; omega) ?_
      conv => whnf
      repeat (refine ⟨⟨[], rfl⟩, ?_⟩; conv => whnf)
      refine condB_ok (app_ok (by simp) rfl rfl (by omega) (by omega)) (fun cap' hcap => ?_)
      conv => whnf
      repeat (refine ⟨⟨[], rfl⟩, ?_⟩; conv => whnf)
      have e5 : IntKind.i64.wrap ((s : Int) - 1 - k - 1) = (s : Int) - 1 - (k + 1 : Nat) := by rw [w64 (by omega) (by omega)]; omega
      refine ⟨q - 1, [(0, .int .u64 x), (5, .sl 0 0 (k + 1) cap'), (6, .int .i64 ((s : Int) - 1 - (k + 1 : Nat)))], [some ⟨1, k + 1, bytesG (beF x s)⟩], [some 2], by omega, ⟨k + 1, cap', rfl, rfl, by omega⟩, ?_⟩
      refine .mk0 ⟨Flat.i rfl, .sl _ _ _ _ _ rfl, Flat.i e5, trivial⟩ ⟨.old 0 2 _ _ rfl rfl ⟨rfl, Nat.le_refl _, fun i j hi hj => ?_⟩, trivial⟩ rfl rfl
      dsimp only
      refine beW rfl hi hb ?_
      have hj : j < 1 := hj
      obtain rfl : j = 0 := by omega
      refine Eq.trans rfl (congrArg (AV.int .u8) (wu8 (e := min (IntKind.i64.wrap (8 * ((s : Int) - 1 - k))).toNat 64) (k := 0) x hx ?_))
      rw [e9]; omega
    · have hb : k = s := by simp at hb; omega
      subst hb
      conv => whnf
      repeat (refine ⟨⟨[], rfl⟩, ?_⟩; conv => whnf)
      exact ⟨k, _, ⟨rfl, rfl⟩, .inr ⟨0, c', k, _, rfl, rfl, Nat.le_refl _, fun i hi => rfl⟩⟩
theorem S_number {m : Mem} {K : AV → Mem → Prop} {x : Int} {s : Nat} (hx : 0 ≤ x) (hs : s ≤ 8) (hK : ∀ cap, memK (m ++ [some ⟨1, s, bytesG (beF x s)⟩]) (K (.sl m.length 0 s cap))) : ACall Pg F_draw_number [.int .u64 x, .int .i64 s] m K := by
  simp only [memK_eq] at hK
  refine lift_bytes (S_number0 x s hx hs) (.cons _ _ _ _ lend_int (.cons _ _ _ _ lend_int .nil)) ?_
  rintro n' f' cap' ⟨rfl, rfl⟩
  exact hK cap'

theorem S_be0 (x : Int) (s : Nat) (hx : 0 ≤ x) (hs : s ≤ 8) : ACall Pg F_witanref04_be [.int .u64 x, .int .i64 s] [] (fun v m' => ∃ n' f', (n' = s ∧ f' = beF x s) ∧ RetB n' f' v m') := by
  refine B_witanref04_be ⟨rfl, ?_⟩
  conv => whnf
  repeat (refine ⟨⟨[], rfl⟩, ?_⟩; conv => whnf)
  have e8 : IntKind.i64.wrap ((s : Int) - 1) = (s : Int) - 1 := w64 (by omega) (by omega)
  refine loop_wk mixed (I := fun q l m => ∃ (k c' : Nat), l = [(0, .int .u64 x), (5, .sl 0 0 k c'), (6, .int .i64 ((s : Int) - 1 - k))] ∧ m = [some ⟨1, k, bytesG (beF x s)⟩] ∧ q + k = s) s
    (l0 := [(0, .int .u64 x), (5, .sl 0 0 0 0), (6, .int .i64 ((s : Int) - 1 - (0 : Nat)))]) (m0 := [some ⟨1, 0, bytesG (beF x s)⟩]) [none] ⟨0, 0, rfl, rfl, rfl⟩ ?_ ?_
  · exact .mk0 ⟨Flat.i rfl, .nils _ _, Flat.i (by rw [e8]; omega), trivial⟩ ⟨.ph _ _ _ rfl, trivial⟩ rfl rfl
  · rintro q l m ⟨k, c', rfl, rfl, hq⟩
    conv => whnf
    repeat (refine ⟨⟨[], rfl⟩, ?_⟩; conv => whnf)
    refine condB_mk (fun hb => ?_) (fun hb => ?_)
    · have hb : k < s := by simp at hb; omega
      conv => whnf
      repeat (refine ⟨⟨[], rfl⟩, ?_⟩; conv => whnf)
      have e9 : IntKind.u64.wrap (IntKind.i64.wrap (8 * ((s : Int) - 1 - k))) = 8 * ((s : Int) - 1 - k) := by rw [w64 (by omega) (by omega), wu64]; omega
      refine condB_ok (by rw [e9]; simp; omega) ?_
      conv => whnf
      repeat (refine ⟨⟨[], rfl⟩, ?_⟩; conv => whnf)
      refine condB_ok (app_ok (by simp) rfl rfl (by omega) (by omega)) (fun cap' hcap => ?_)
      conv => whnf
      repeat (refine ⟨⟨[], rfl⟩, ?_⟩; conv => whnf)
      have e5 : IntKind.i64.wrap ((s : Int) - 1 - k - 1) = (s : Int) - 1 - (k + 1 : Nat) := by rw [w64 (by omega) (by omega)]; omega
      refine ⟨q - 1, [(0, .int .u64 x), (5, .sl 0 0 (k + 1) cap'), (6, .int .i64 ((s : Int) - 1 - (k + 1 : Nat)))], [some ⟨1, k + 1, bytesG (beF x s)⟩], [some 2], by omega, ⟨k + 1, cap', rfl, rfl, by omega⟩, ?_⟩
      refine .mk0 ⟨Flat.i rfl, .sl _ _ _ _ _ rfl, Flat.i e5, trivial⟩ ⟨.old 0 2 _ _ rfl rfl ⟨rfl, Nat.le_refl _, fun i j hi hj => ?_⟩, trivial⟩ rfl rfl
      dsimp only
      refine beW rfl hi hb ?_
      have hj : j < 1 := hj
      obtain rfl : j = 0 := by omega
      refine Eq.trans rfl (congrArg (AV.int .u8) (wu8 (e := min (IntKind.u64.wrap (IntKind.i64.wrap (8 * ((s : Int) - 1 - k)))).toNat 64) (k := 0) x hx ?_))
      rw [e9]; omega
    · have hb : k = s := by simp at hb; omega
      subst hb
      conv => whnf
      repeat (refine ⟨⟨[], rfl⟩, ?_⟩; conv => whnf)
      exact ⟨k, _, ⟨rfl, rfl⟩, .inr ⟨0, c', k, _, rfl, rfl, Nat.le_refl _, fun i hi => rfl⟩⟩
theorem S_be {m : Mem} {K : AV → Mem → Prop} {x : Int} {s : Nat} (hx : 0 ≤ x) (hs : s ≤ 8) (hK : ∀ cap, memK (m ++ [some ⟨1, s, bytesG (beF x s)⟩]) (K (.sl m.length 0 s cap))) : ACall Pg F_witanref04_be [.int .u64 x, .int .i64 s] m K := by
  simp only [memK_eq] at hK
  refine lift_bytes (S_be0 x s hx hs) (.cons _ _ _ _ lend_int (.cons _ _ _ _ lend_int .nil)) ?_
  rintro n' f' cap' ⟨rfl, rfl⟩
  exact hK cap'

theorem flat_bytesV {n cap : Nat} {f : Nat → Int} : Flat false (.vsl 1 n cap (bytesG f)) := .vsl _ _ _ _ rfl fun _ _ _ _ => flat_bytesG
/-- Rows of bytes. -/
def rowsB (N C : Nat → Nat) (F : Nat → Nat → Int) : Nat → Nat → AV := fun k _ => .vsl 1 (N k) (C k) (bytesG (F k))
theorem flat_rowsBV {n cap : Nat} {N C : Nat → Nat} {F : Nat → Nat → Int} : Flat false (.vsl 1 n cap (rowsB N C F)) := .vsl _ _ _ _ rfl fun _ _ _ _ => flat_bytesV
/-- What stands in slot x shows r rows of bytes. -/
def ShowsB (m : Mem) (x : AV) (r : Nat) (N : Nat → Nat) (F : Nat → Nat → Int) : Prop := ∃ cap C, Lend (fun _ => none) (List.range m.length) m x (.vsl 1 r cap (rowsB N C F))
theorem ShowsB.vsl {m : Mem} {r cap : Nat} {N C : Nat → Nat} {F : Nat → Nat → Int} : ShowsB m (.vsl 1 r cap (rowsB N C F)) r N F := ⟨cap, C, .rv _ _ (.eq _ _ rfl flat_rowsBV)⟩
theorem ShowsB.nils {m : Mem} {N : Nat → Nat} {F : Nat → Nat → Int} : ShowsB m .nils 0 N F := ⟨0, fun _ => 0, .nils _ _⟩
theorem ShowsB.sl {m : Mem} {l off r cap M : Nat} {N : Nat → Nat} {F : Nat → Nat → Int} {g : Nat → Nat → AV} (h : m[l]? = some (some ⟨1, M, g⟩)) (hn : off + r ≤ M) (hG : ∀ i, i < r → Shows m (g (off + i) 0) (N i) (F i)) : ShowsB m (.sl l off r cap) r N F := by
  have hC : ∃ C : Nat → Nat, ∀ i, i < r → Lend (fun _ => none) (List.range m.length) m (g (off + i) 0) (.vsl 1 (N i) (C i) (bytesG (F i))) := by
    refine ⟨fun i => if h : i < r then Classical.choose (hG i h) else 0, fun i hi => ?_⟩
    dsimp only
    rw [dif_pos hi]
    exact Classical.choose_spec (hG i hi)
  obtain ⟨C, hC⟩ := hC
  refine ⟨cap, C, .slR l off r cap ⟨1, M, g⟩ _ (List.mem_range.2 (lt_of_get h)) h hn fun i j hi hj => ?_⟩
  have hj : j < 1 := hj
  obtain rfl : j = 0 := by omega
  exact hC i hi

theorem S_with0 (n c1 k c2 : Nat) (f g : Nat → Int) (hn : n ≤ 1000000) (hk : k ≤ 1000000) : ACall Pg F_draw_with [.vsl 1 n c1 (bytesG f), .vsl 1 k c2 (bytesG g)] [] (fun v m' => ∃ n' f', (n' = n + k ∧ f' = catB n f g) ∧ RetB n' f' v m') := by
  refine B_draw_with ⟨rfl, ?_⟩
  conv => whnf
  repeat (refine ⟨⟨[], rfl⟩, ?_⟩; conv => whnf)
  refine condB_ok (app_ok rfl rfl rfl (by omega) (by omega)) (fun cap' hcap => ?_)
  conv => whnf
  repeat (refine ⟨⟨[], rfl⟩, ?_⟩; conv => whnf)
  refine condB_ok (app_ok (by simp) rfl rfl (by omega) (by omega)) (fun cap2 hcap2 => ?_)
  conv => whnf
  repeat (refine ⟨⟨[], rfl⟩, ?_⟩; conv => whnf)
  refine ⟨n + k, _, ⟨rfl, rfl⟩, .inr ⟨2, cap2, 0 + n + k, _, by rw [Nat.zero_add], rfl, by omega, fun i hi => ?_⟩⟩
  dsimp only
  by_cases h : i < n
  · rw [catG_lt (by omega), catG_ge (by omega), catB_lt h]; rfl
  · rw [catG_ge (by omega), catB_ge (by omega), Nat.zero_add]; rfl
theorem S_with {m : Mem} {x y : AV} {K : AV → Mem → Prop} {n k : Nat} {f g : Nat → Int} (hx : Shows m x n f) (hy : Shows m y k g) (hn : n ≤ 1000000) (hk : k ≤ 1000000) (hK : ∀ cap h, h = catB n f g → memK (m ++ [some ⟨1, n + k, bytesG h⟩]) (K (.sl m.length 0 (n + k) cap))) : ACall Pg F_draw_with [x, y] m K := by
  simp only [memK_eq] at hK
  obtain ⟨c1, h1⟩ := hx
  obtain ⟨c2, h2⟩ := hy
  refine lift_bytes (S_with0 n c1 k c2 f g hn hk) (.cons _ _ _ _ h1 (.cons _ _ _ _ h2 .nil)) ?_
  rintro n' f' cap' ⟨rfl, rfl⟩
  exact hK cap' _ rfl

/-- The first so many rows, one behind the other. -/
def lJ (N : Nat → Nat) : Nat → Nat := Nat.rec (motive := fun _ => Nat) 0 (fun k ih => ih + N k)
def cJ (N : Nat → Nat) (F : Nat → Nat → Int) : Nat → Nat → Int := Nat.rec (motive := fun _ => Nat → Int) (fun _ => 0) (fun k ih => catB (lJ N k) ih (F k))
theorem lJ_succ {N : Nat → Nat} {k : Nat} : lJ N (k + 1) = lJ N k + N k := rfl
theorem lJ_le {N : Nat → Nat} : ∀ {k}, (∀ i, i < k → N i ≤ 1000000) → lJ N k ≤ 1000000 * k
  | 0, _ => Nat.le_refl _
  | k + 1, h => by
    have := lJ_le (k := k) fun i hi => h i (by omega)
    have := h k (by omega)
    rw [lJ_succ]; omega
theorem S_join0 (r cap : Nat) (N C : Nat → Nat) (F : Nat → Nat → Int) (hr : r ≤ 1000000) (hN : ∀ i, i < r → N i ≤ 1000000) : ACall Pg F_witanref04_join [.vsl 1 r cap (rowsB N C F)] [] (fun v m' => ∃ n' f', (n' = lJ N r ∧ f' = cJ N F r) ∧ RetB n' f' v m') := by
  refine B_witanref04_join ⟨rfl, ?_⟩
  conv => whnf
  repeat (refine ⟨⟨[], rfl⟩, ?_⟩; conv => whnf)
  refine loop_wk mixed (I := fun q l m => ∃ (k c' : Nat), l = [(0, .vsl 1 r cap (rowsB N C F)), (3, .sl 0 0 (lJ N k) c'), (4, .int .i64 k)] ∧ m = [some ⟨1, lJ N k, bytesG (cJ N F k)⟩] ∧ q + k = r) r
    (l0 := [(0, .vsl 1 r cap (rowsB N C F)), (3, .sl 0 0 0 0), (4, .int .i64 (0 : Nat))]) (m0 := [some ⟨1, 0, bytesG (cJ N F 0)⟩]) [none] ⟨0, 0, rfl, rfl, rfl⟩ ?_ ?_
  · exact .mk0 ⟨.eq _ _ rfl flat_rowsBV, .nils _ _, Flat.i rfl, trivial⟩ ⟨.ph _ _ _ rfl, trivial⟩ rfl rfl
  · rintro q l m ⟨k, c', rfl, rfl, hq⟩
    conv => whnf
    repeat (refine ⟨⟨[], rfl⟩, ?_⟩; conv => whnf)
    refine condB_mk (fun hb => ?_) (fun hb => ?_)
    · have hb : k < r := by simp at hb; omega
      have h1 := hN k hb
      have h2 := lJ_le (k := k) fun i hi => hN i (by omega)
      conv => whnf
      repeat (refine ⟨⟨[], rfl⟩, ?_⟩; conv => whnf)
      refine condB_ok (by simp; omega) ?_
      conv => whnf
      repeat (refine ⟨⟨[], rfl⟩, ?_⟩; conv => whnf)
      refine condB_ok (app_ok (by simp) rfl rfl (by show (lJ N k + N k) * 1 ≤ 140737488355328; omega) (by show lJ N k + N k ≤ 140737488355328; omega)) (fun cap' hcap => ?_)
      conv => whnf
      repeat (refine ⟨⟨[], rfl⟩, ?_⟩; conv => whnf)
      have e5 : IntKind.i64.wrap ((k : Int) + 1) = ((k + 1 : Nat) : Int) := by rw [w64 (by omega) (by omega)]; omega
      refine ⟨q - 1, [(0, .vsl 1 r cap (rowsB N C F)), (3, .sl 0 0 (lJ N (k + 1)) cap'), (4, .int .i64 ((k + 1 : Nat) : Int))], [some ⟨1, lJ N (k + 1), bytesG (cJ N F (k + 1))⟩], [some 1], by omega, ⟨k + 1, cap', rfl, rfl, by omega⟩, ?_⟩
      exact .mk0 ⟨.eq _ _ rfl flat_rowsBV, .sl _ _ _ _ _ rfl, Flat.i e5, trivial⟩ ⟨.old 0 1 _ _ rfl rfl ⟨rfl, Nat.le_refl _, fun i j hi hj => RV.of (cat_bytes (j := j)) (.int _ _)⟩, trivial⟩ rfl rfl
    · have hb : k = r := by simp at hb; omega
      subst hb
      conv => whnf
      repeat (refine ⟨⟨[], rfl⟩, ?_⟩; conv => whnf)
      exact ⟨lJ N k, _, ⟨rfl, rfl⟩, .inr ⟨0, c', lJ N k, _, rfl, rfl, Nat.le_refl _, fun i hi => rfl⟩⟩
def pr2 {α : Type} (a b : α) (i : Nat) : α := if i = 0 then a else b
/-- Two rows, side by side. -/
theorem S_join2 {m : Mem} {x : AV} {K : AV → Mem → Prop} {n k : Nat} {f g : Nat → Int} (hx : ShowsB m x 2 (pr2 n k) (pr2 f g)) (hn : n ≤ 1000000) (hk : k ≤ 1000000) (hK : ∀ cap h, h = catB n f g → memK (m ++ [some ⟨1, n + k, bytesG h⟩]) (K (.sl m.length 0 (n + k) cap))) : ACall Pg F_witanref04_join [x] m K := by
  simp only [memK_eq] at hK
  obtain ⟨cap, C, hl⟩ := hx
  refine lift_bytes (S_join0 2 cap _ C _ (by decide) (fun i _ => ?_)) (.cons _ _ _ _ hl .nil) ?_
  · unfold pr2; split <;> omega
  rintro n' f' cap' ⟨rfl, rfl⟩
  have e1 : lJ (pr2 n k) 2 = n + k := by show 0 + n + k = n + k; omega
  have e2 : cJ (pr2 n k) (pr2 f g) 2 = catB n f g := by
    show catB (0 + n) (catB 0 (fun _ => 0) f) g = _
    rw [catB_0, Nat.zero_add]
  rw [e1, e2]
  exact hK cap' _ rfl
end Go.Proofs.Ytdeholmpcbakbaa
end

section
/- Sums: turned words, numbers of bytes, texts made whole blocks; no condition. -/
set_option linter.unusedVariables false
set_option linter.unusedSimpArgs false
set_option maxRecDepth 100000
set_option pp.maxSteps 300
namespace Go.Proofs.Ytdeholmpcbakbaa
open Go Go.Wit

def rotI (x k : Int) : Int := bitsV .or .u32 (IntKind.u32.wrap (x * 2 ^ (min (bitsV .and .u64 (IntKind.u64.wrap k) 31).toNat IntKind.u32.bits))) (x.fdiv (2 ^ (min (IntKind.u64.wrap (32 - bitsV .and .u64 (IntKind.u64.wrap k) 31)).toNat IntKind.u32.bits)))

theorem S_rot {m : Mem} {K : AV → Mem → Prop} (x k : Int) (h : K (.int .u32 (rotI x k)) m) : ACall Pg F_bits_RotateLeft32 [.int .u32 x, .int .i64 k] m K := by
  refine B_bits_RotateLeft32 ⟨rfl, ?_⟩
  conv => whnf
  have h0 : 0 ≤ bitsV .and .u64 (IntKind.u64.wrap k) 31 := by
    show 0 ≤ IntKind.u64.wrap _
    rw [wu64]; omega
  have h1 : 0 ≤ IntKind.u64.wrap (32 - bitsV .and .u64 (IntKind.u64.wrap k) 31) := by rw [wu64]; omega
  refine condB_ok (by simpa using h1) ?_
  conv => whnf
  exact h

theorem S_rot32 {m : Mem} {K : AV → Mem → Prop} (x k : Int) (h : K (.int .u32 (rotI x (IntKind.i64.wrap (0 - k)))) m) : ACall Pg F_witanref04_rot32 [.int .u32 x, .int .i64 k] m K := by
  refine B_witanref04_rot32 ⟨rfl, ?_⟩
  conv => whnf
  refine S_rot _ _ ?_
  conv => whnf
  exact h

theorem catW {nv : Bool} {σ : Nat → Option Nat} {N k : Nat} {g g' : Nat → Int} {h : Nat → Nat → AV} {A B : AV} {i j : Nat} (hA : A = catG N (bytesG g) h i j) (hB : B = bytesG g' i j) (h1 : ∀ i, i < N → g' i = g i) (h2 : ∀ i, i < k → h i 0 = .int .u8 (g' (N + i))) (hi : i < N + k) (hj : j < 1) :
    RV nv σ A B := by
  subst hA hB
  obtain rfl : j = 0 := by omega
  by_cases hN : i < N
  · have : catG N (bytesG g) h i 0 = bytesG g' i 0 := by rw [catG_lt hN]; simp only [bytesG, h1 i hN]
    rw [this]; exact .eq _ _ rfl (.int _ _)
  · have : catG N (bytesG g) h i 0 = bytesG g' i 0 := by
      rw [catG_ge (by omega), h2 _ (by omega)]
      simp only [bytesG]
      congr 2; omega
    rw [this]; exact .eq _ _ rfl (.int _ _)

theorem or_byteU {a b : Int} (ha : 0 ≤ a ∧ a < 72057594037927936) (hb : 0 ≤ b ∧ b ≤ 255) : bitsV .or .u64 (a * 256) b = a * 256 + b := by
  obtain ⟨A, rfl⟩ : ∃ A : Nat, a = A := ⟨a.toNat, by omega⟩
  obtain ⟨B, rfl⟩ : ∃ B : Nat, b = B := ⟨b.toNat, by omega⟩
  have h1 : BitVec.ofInt 64 ((A : Int) * 256) = BitVec.ofNat 64 (256 * A) := by
    rw [show ((A : Int) * 256) = ((256 * A : Nat) : Int) by omega, BitVec.ofInt_natCast]
  have h2 : BitVec.ofInt 64 (B : Int) = BitVec.ofNat 64 B := BitVec.ofInt_natCast _ _
  show IntKind.u64.wrap ((BitVec.ofInt 64 ((A : Int) * 256) ||| BitVec.ofInt 64 (B : Int)).toNat) = _
  rw [h1, h2, BitVec.toNat_or, BitVec.toNat_ofNat, BitVec.toNat_ofNat, Nat.mod_eq_of_lt (by omega), Nat.mod_eq_of_lt (by omega)]
  have h3 := Nat.two_pow_add_eq_or_of_lt (i := 8) (b := B) (by omega) A
  rw [show (256 : Nat) = 2 ^ 8 from rfl, ← h3, wu64]
  omega

theorem S_high0 (n cap : Nat) (f : Nat → Int) (hn : n ≤ 7) (hf : ∀ i, i < n → 0 ≤ f i ∧ f i ≤ 255) : ACall Pg F_sha_high [.vsl 1 n cap (bytesG f)] [] (fun v _ => v = .int .u64 (getV f 0 n) ∧ Flat true v) := by
  refine B_sha_high ⟨rfl, ?_⟩
  conv => whnf
  refine loop_wk mixed (I := fun q l m => ∃ (k : Nat), l = [(3, .int .u64 (getV f 0 k)), (6, .vsl 1 n cap (bytesG f)), (7, .int .i64 n), (8, .int .i64 k)] ∧ m = [] ∧ q + k = n) n
    (l0 := [(3, .int .u64 0), (6, .vsl 1 n cap (bytesG f)), (7, .int .i64 n), (8, .int .i64 (0 : Nat))]) (m0 := []) [] ⟨0, rfl, rfl, rfl⟩ ?_ ?_
  · exact .mk0 ⟨Flat.i rfl, .eq _ _ rfl (.vsl _ _ _ _ rfl (fun _ _ _ _ => .int _ _)), Flat.i rfl, Flat.i rfl, trivial⟩ trivial rfl rfl
  · rintro q l m ⟨k, rfl, rfl, hq⟩
    conv => whnf
    refine condB_mk (fun hb => ?_) (fun hb => ?_)
    · have hb : k < n := by simpa using hb
      conv => whnf
      refine condB_ok (by simp; omega) ?_
      conv => whnf
      obtain ⟨g1, g2⟩ := getV_lt (f := f) (p := 0) (k := k) (fun i hi => hf i (by omega))
      have g3 : (256 : Int) ^ k ≤ 256 ^ 6 := by
        have : 256 ^ k ≤ 256 ^ 6 := Nat.pow_le_pow_right (by omega) (by omega)
        exact_mod_cast this
      have g4 := hf k (by omega)
      rw [w64 (n := (k : Int) + 1) (by omega) (by omega), show min (Int.toNat 8) IntKind.u64.bits = 8 from rfl, Int.toNat_natCast,
        show IntKind.u64.wrap (f k) = f k by rw [wu64]; omega, show IntKind.u64.wrap (getV f 0 k * 2 ^ 8) = getV f 0 k * 256 by rw [wu64]; omega]
      refine ⟨q - 1, [(3, .int .u64 (getV f 0 (k + 1))), (6, .vsl 1 n cap (bytesG f)), (7, .int .i64 n), (8, .int .i64 ((k + 1 : Nat) : Int))], [], [], by omega, ⟨k + 1, rfl, rfl, by omega⟩, ?_⟩
      exact .mk0 ⟨Flat.i (by rw [or_byteU (by omega) g4, getV, Nat.zero_add]), .eq _ _ rfl (.vsl _ _ _ _ rfl (fun _ _ _ _ => .int _ _)), Flat.i rfl, Flat.i (by omega), trivial⟩ trivial rfl rfl
    · have hb : k = n := by simp at hb; omega
      subst hb
      conv => whnf
      exact ⟨rfl, .int _ _⟩

theorem S_high {m : Mem} {x : AV} {n : Nat} {f : Nat → Int} {K : AV → Mem → Prop} (hx : Shows m x n f) (hn : n ≤ 7) (hf : ∀ i, i < n → 0 ≤ f i ∧ f i ≤ 255) (h : K (.int .u64 (getV f 0 n)) m) : ACall Pg F_sha_high [x] m K := by
  obtain ⟨cap, hl⟩ := hx
  refine lift_flat (S_high0 n cap f hn hf) (.cons _ _ _ _ hl .nil) ?_
  rintro v rfl
  exact h

/-- A text made whole blocks. -/
def padN (n : Nat) : Nat := (n + 72) / 64 * 64
def padF (n : Nat) (f : Nat → Int) (i : Nat) : Int := if i < n then f i else if i = n then 128 else if i < padN n - 8 then 0 else ((8 * n : Nat) : Int) / 2 ^ (8 * (padN n - 1 - i)) % 256

theorem padF_lt {n : Nat} {f : Nat → Int} (hf : ∀ i, i < n → 0 ≤ f i ∧ f i ≤ 255) (i : Nat) : 0 ≤ padF n f i ∧ padF n f i ≤ 255 := by
  unfold padF
  split
  · rename_i h; exact hf i h
  · split
    · omega
    · split <;> omega

theorem padN_ge (n : Nat) : n + 9 ≤ padN n ∧ padN n % 64 = 0 ∧ padN n ≤ n + 72 := by unfold padN; omega

theorem tmod_nat (a b : Nat) : ((a : Int).tmod (b : Int)) = ((a % b : Nat) : Int) := by rw [Int.tmod_eq_emod_of_nonneg (by omega)]; simp

theorem S_padded0 (n cap : Nat) (f : Nat → Int) (hn : n ≤ 1000000) : ACall Pg F_sha_padded [.vsl 1 n cap (bytesG f)] [] (fun v m' => ∃ n' f', (n' = padN n ∧ f' = padF n f) ∧ RetB n' f' v m') := by
  obtain ⟨p1, p2, p3⟩ := padN_ge n
  refine B_sha_padded ⟨rfl, ?_⟩
  conv => whnf
  refine condB_ok (app_ok rfl rfl rfl (by omega) (by omega)) (fun cap1 hcap1 => ?_)
  conv => whnf
  refine condB_ok (app_ok (by simp) rfl rfl (by omega) (by omega)) (fun cap2 hcap2 => ?_)
  conv => whnf
  simp only [Nat.zero_add]
  refine loop_wk mixed (I := fun q l m => ∃ (N c : Nat) (g : Nat → Int), l = [(0, .vsl 1 n cap (bytesG f)), (3, .sl 0 0 N c)] ∧ m = [some ⟨1, N, bytesG g⟩] ∧ q + N = padN n - 8 ∧ n + 1 ≤ N ∧ ∀ j, j < N → g j = padF n f j) (padN n - 8 - (n + 1))
    (l0 := [(0, .vsl 1 n cap (bytesG f)), (3, .sl 0 0 (n + 1) cap2)]) (m0 := [some ⟨1, n + 1, bytesG (padF n f)⟩]) [some 3] ⟨n + 1, cap2, _, rfl, rfl, by omega, by omega, fun j hj => rfl⟩ ?_ ?_
  · refine .mk0 ⟨.eq _ _ rfl (.vsl _ _ _ _ rfl (fun _ _ _ _ => .int _ _)), .sl _ _ _ _ _ rfl, trivial⟩ ⟨.old 0 3 _ _ rfl rfl ⟨rfl, Nat.le_refl _, fun i j hi hj => ?_⟩, trivial⟩ rfl rfl
    have hj : j < 1 := hj
    have hi : i < n + 1 := hi
    refine .eq _ _ ?_ ?_ <;> (obtain rfl : j = 0 := by omega) <;> dsimp only
    · by_cases h : i < n
      · rw [catG_lt h]
        have : catG 0 (fun i j => (reps [AV.int IntKind.u8 0] 0).getD (i * 1 + j) AV.un) (bytesG f) i 0 = bytesG f i 0 := by rw [catG_ge (by omega)]; rfl
        refine Eq.trans this ?_
        simp only [bytesG, padF, if_pos h]
      · obtain rfl : i = n := by omega
        rw [catG_ge (by omega)]
        simp only [bytesG, padF, if_neg h, if_pos trivial, Nat.sub_self]
        rfl
    · by_cases h : i < n
      · rw [catG_lt h]
        have : catG 0 (fun i j => (reps [AV.int IntKind.u8 0] 0).getD (i * 1 + j) AV.un) (bytesG f) i 0 = bytesG f i 0 := by rw [catG_ge (by omega)]; rfl
        exact (show Flat false (catG 0 (fun i j => (reps [AV.int IntKind.u8 0] 0).getD (i * 1 + j) AV.un) (bytesG f) i 0) from this ▸ .int _ _)
      · obtain rfl : i = n := by omega
        rw [catG_ge (by omega), Nat.sub_self]
        exact .int _ _
  · rintro q l m ⟨N, c, g, rfl, rfl, hq, hN, hg⟩
    conv => whnf
    rw [show ((N : Int).tmod 64) = ((N % 64 : Nat) : Int) from tmod_nat N 64]
    refine condB_mk (fun hb => ?_) (fun hb => ?_)
    · have hb : N < padN n - 8 := by
        simp at hb
        rcases Nat.lt_or_ge N (padN n - 8) with h | h
        · exact h
        · have : N = padN n - 8 := by omega
          omega
      conv => whnf
      refine condB_ok (app_ok (by simp) rfl rfl (by omega) (by omega)) (fun cap' hcap => ?_)
      conv => whnf
      refine ⟨q - 1, [(0, .vsl 1 n cap (bytesG f)), (3, .sl 0 0 (N + 1) cap')], [some ⟨1, N + 1, bytesG (fun j => if j < N then g j else 0)⟩], [some 2], by omega, ⟨N + 1, cap', _, rfl, rfl, by omega, by omega, fun j hj => ?_⟩, ?_⟩
      · by_cases h : j < N
        · simp only [if_pos h]; exact hg j h
        · simp only [if_neg h]
          rw [padF, if_neg (by omega), if_neg (by omega), if_pos (by omega)]
      · refine .mk0 ⟨.eq _ _ rfl (.vsl _ _ _ _ rfl (fun _ _ _ _ => .int _ _)), .sl _ _ _ _ _ rfl, trivial⟩ ⟨.old 0 2 _ _ rfl rfl ⟨rfl, Nat.le_refl _, fun i j hi hj => ?_⟩, trivial⟩ rfl rfl
        dsimp only
        refine catW (N := N) (k := 1) (g := g) (g' := fun j => if j < N then g j else 0) rfl rfl (fun i hi => if_pos hi) (fun i hi => ?_) hi hj
        obtain rfl : i = 0 := by omega
        simp only [Nat.add_zero, if_neg (Nat.lt_irrefl N)]; rfl
    · have hb : N = padN n - 8 := by
        simp at hb
        omega
      conv => whnf
      rw [show IntKind.u64.wrap (IntKind.u64.wrap (n : Int) * 2 ^ min (Int.toNat 3) IntKind.u64.bits) = ((8 * n : Nat) : Int) by
        rw [wu64, wu64, show min (Int.toNat 3) IntKind.u64.bits = 3 from rfl]; omega]
      refine loop_wk mixed (I := fun q l m => ∃ (k : Int) (N c : Nat) (g : Nat → Int), l = [(0, .vsl 1 n cap (bytesG f)), (3, .sl 0 0 N c), (4, .int .u64 ((8 * n : Nat) : Int)), (5, .int .i64 k)] ∧ m = [some ⟨1, N, bytesG g⟩] ∧ (q : Int) = k + 1 ∧ -1 ≤ k ∧ k ≤ 7 ∧ (N : Int) = padN n - 1 - k ∧ ∀ j, j < N → g j = padF n f j) 8
        (l0 := [(0, .vsl 1 n cap (bytesG f)), (3, .sl 0 0 N c), (4, .int .u64 ((8 * n : Nat) : Int)), (5, .int .i64 7)]) (m0 := [some ⟨1, N, bytesG g⟩]) [some 0] ⟨7, N, c, g, rfl, rfl, by omega, by omega, by omega, by omega, hg⟩ ?_ ?_
      · refine .mk0 ⟨.eq _ _ rfl (.vsl _ _ _ _ rfl (fun _ _ _ _ => .int _ _)), .sl _ _ _ _ _ rfl, Flat.i rfl, Flat.i rfl, trivial⟩ ⟨.old 0 0 _ _ rfl rfl ⟨rfl, Nat.le_refl _, fun i j hi hj => .eq _ _ rfl (.int _ _)⟩, trivial⟩ rfl rfl
      · clear hb hq hN hg
        rintro q l m ⟨k, N, c, g, rfl, rfl, hq, hk1, hk2, hN, hg⟩
        conv => whnf
        refine condB_mk (fun hb => ?_) (fun hb => ?_)
        · have hb : 0 ≤ k := by simpa using hb
          conv => whnf
          rw [w64 (n := 8 * k) (by omega) (by omega)]
          refine condB_ok (decide_eq_true (by omega)) ?_
          conv => whnf
          refine condB_ok (app_ok (by simp) rfl rfl (by omega) (by omega)) (fun cap' hcap => ?_)
          conv => whnf
          rw [w64 (n := k - 1) (by omega) (by omega)]
          refine ⟨q - 1, [(0, .vsl 1 n cap (bytesG f)), (3, .sl 0 0 (N + 1) cap'), (4, .int .u64 ((8 * n : Nat) : Int)), (5, .int .i64 (k - 1))], [some ⟨1, N + 1, bytesG (padF n f)⟩], [some 2], by omega, ⟨k - 1, N + 1, cap', _, rfl, rfl, by omega, by omega, by omega, by omega, fun j hj => rfl⟩, ?_⟩
          refine .mk0 ⟨.eq _ _ rfl (.vsl _ _ _ _ rfl (fun _ _ _ _ => .int _ _)), .sl _ _ _ _ _ rfl, Flat.i rfl, Flat.i rfl, trivial⟩ ⟨.old 0 2 _ _ rfl rfl ⟨rfl, Nat.le_refl _, fun i j hi hj => ?_⟩, trivial⟩ rfl rfl
          dsimp only
          refine catW (N := N) (k := 1) (g := g) (g' := padF n f) rfl rfl (fun i hi => (hg i hi).symm) (fun i hi => ?_) hi hj
          obtain rfl : i = 0 := by omega
          have e : IntKind.u8.wrap (((8 * n : Nat) : Int).fdiv (2 ^ min (8 * k).toNat IntKind.u64.bits)) = padF n f (N + 0) := by
            rw [IntKind.wrap_u8, Int.fdiv_eq_ediv_of_nonneg _ (Int.pow_nonneg (by omega)), padF, if_neg (by omega), if_neg (by omega), if_neg (by omega)]
            rw [show min (8 * k).toNat IntKind.u64.bits = 8 * (padN n - 1 - (N + 0)) by simp only [IntKind.bits]; omega]
          rw [← e]; rfl
        · have hb : k = -1 := by simp at hb; omega
          conv => whnf
          obtain rfl : N = padN n := by omega
          exact ⟨padN n, padF n f, ⟨rfl, rfl⟩, .inr ⟨0, c, padN n, _, rfl, rfl, Nat.le_refl _, fun i hi => by rw [← hg i hi]; rfl⟩⟩

theorem S_padded {m : Mem} {x : AV} {n : Nat} {f : Nat → Int} {K : AV → Mem → Prop} (hx : Shows m x n f) (hn : n ≤ 1000000) (hK : ∀ cap, memK (m ++ [some ⟨1, padN n, bytesG (padF n f)⟩]) (K (.sl m.length 0 (padN n) cap))) : ACall Pg F_sha_padded [x] m K := by
  simp only [memK_eq] at hK
  obtain ⟨cap, hl⟩ := hx
  refine lift_bytes (S_padded0 n cap f hn) (.cons _ _ _ _ hl .nil) ?_
  rintro n' f' cap' ⟨rfl, rfl⟩
  exact hK cap'

end Go.Proofs.Ytdeholmpcbakbaa
end

section
/- The sum of bytes: what the program makes; no condition. -/
set_option linter.unusedVariables false
set_option linter.unusedSimpArgs false
set_option maxRecDepth 100000
set_option pp.maxSteps 300
namespace Go.Proofs.Ytdeholmpcbakbaa
open Go Go.Wit

def kList : List Int := [1116352408, 1899447441, 3049323471, 3921009573, 961987163, 1508970993, 2453635748, 2870763221, 3624381080, 310598401, 607225278, 1426881987, 1925078388, 2162078206, 2614888103, 3248222580, 3835390401, 4022224774, 264347078, 604807628, 770255983, 1249150122, 1555081692, 1996064986, 2554220882, 2821834349, 2952996808, 3210313671, 3336571891, 3584528711, 113926993, 338241895, 666307205, 773529912, 1294757372, 1396182291, 1695183700, 1986661051, 2177026350, 2456956037, 2730485921, 2820302411, 3259730800, 3345764771, 3516065817, 3600352804, 4094571909, 275423344, 430227734, 506948616, 659060556, 883997877, 958139571, 1322822218, 1537002063, 1747873779, 1955562222, 2024104815, 2227730452, 2361852424, 2428436474, 2756734187, 3204031479, 3329325298]
def kTab (i : Nat) : Int := kList.getD i 0
def hList : List Int := [1779033703, 3144134277, 1013904242, 2773480762, 1359893119, 2600822924, 528734635, 1541459225]
def hTab (i : Nat) : Int := hList.getD i 0
def u32G (f : Nat → Int) : Nat → Nat → AV := fun i _ => .int .u32 (f i)

def addU (a b : Int) : Int := IntKind.u32.wrap (a + b)
def xorU (a b : Int) : Int := bitsV .xor .u32 a b
def andU (a b : Int) : Int := bitsV .and .u32 a b
def shrU (a : Int) (k : Int) : Int := a.fdiv (2 ^ (min k.toNat IntKind.u32.bits))
def notU (a : Int) : Int := bitsV .xor .u32 (IntKind.max .u32) a
def sigA (x : Int) : Int := xorU (xorU (rotI x (-7)) (rotI x (-18))) (shrU x 3)
def sigB (x : Int) : Int := xorU (xorU (rotI x (-17)) (rotI x (-19))) (shrU x 10)
def sigE (x : Int) : Int := xorU (xorU (rotI x (-6)) (rotI x (-11))) (rotI x (-25))
def sigF (x : Int) : Int := xorU (xorU (rotI x (-2)) (rotI x (-13))) (rotI x (-22))
def newW (b : Nat → Int) (k : Nat) (w : Nat → Int) : Int := if k < 16 then getV b (4 * k) 4 else addU (addU (addU (w (k - 16)) (sigA (w (k - 15)))) (w (k - 7))) (sigB (w (k - 2)))
def Wn (b : Nat → Int) : Nat → Nat → Int
  | 0 => fun _ => 0
  | k + 1 => fun i => if i = k then newW b k (Wn b k) else Wn b k i
def oneU (v : Nat → Int) (kk wk : Int) : Int := addU (addU (addU (addU (v 7) (sigE (v 4))) (xorU (andU (v 4) (v 5)) (andU (notU (v 4)) (v 6)))) kk) wk
def twoU (v : Nat → Int) : Int := addU (sigF (v 0)) (xorU (xorU (andU (v 0) (v 1)) (andU (v 0) (v 2))) (andU (v 1) (v 2)))
def rnd (v : Nat → Int) (kk wk : Int) : Nat → Int
  | 0 => addU (oneU v kk wk) (twoU v)
  | 1 => v 0
  | 2 => v 1
  | 3 => v 2
  | 4 => addU (v 3) (oneU v kk wk)
  | 5 => v 4
  | 6 => v 5
  | 7 => v 6
  | _ => 0
def Rn (h w : Nat → Int) : Nat → Nat → Int
  | 0 => h
  | k + 1 => rnd (Rn h w k) (kTab k) (w k)
def blkB (b : Nat → Int) (q : Nat) (i : Nat) : Int := b (64 * q + i)
def nextH (h w : Nat → Int) (i : Nat) : Int := addU (h i) (Rn h w 64 i)
def Hn (b : Nat → Int) : Nat → Nat → Int
  | 0 => hTab
  | q + 1 => nextH (Hn b q) (Wn (blkB b q) 64)
def sumB (n : Nat) (f : Nat → Int) (i : Nat) : Int := IntKind.u8.wrap ((Hn (padF n f) (padN n / 64) (i / 4)).fdiv (2 ^ (24 - 8 * (i % 4))))
def sumL (n : Nat) (f : Nat → Int) : List AV := (List.range 32).map fun i => .int .u8 (sumB n f i)

/-- A row that a call has made lies in the caller's next block. -/
theorem lift_row {P : Program} {fn : FuncId} {args args0 : List AV} {m : Mem} {K : AV → Mem → Prop} {es n : Nat} {G : Nat → Nat → AV} (h : ACall P fn args0 [] (fun v m' => ∃ l cap N g, v = .sl l 0 n cap ∧ m'[l]? = some (some ⟨es, N, g⟩) ∧ n ≤ N ∧ ∀ i j, i < n → j < es → g i j = G i j ∧ Flat true (G i j)))
    (ha : Lends (fun _ => none) (List.range m.length) m args args0) (hK : ∀ cap, memK (m ++ [some ⟨es, n, G⟩]) (K (.sl m.length 0 n cap))) : ACall P fn args m K := by
  simp only [memK_eq] at hK
  refine h.frame0 true (List.range m.length) (fun h => by cases h) ha (fun v m' hv => ?_)
  obtain ⟨l, cap, N, g, rfl, h1, h2, h3⟩ := hv
  refine ⟨.sl m.length 0 n cap, [some ⟨es, n, G⟩], [some l], Nat.le_refl _, fun i j q hi hj => ?_, .sl _ _ _ _ _ (by simp [shiftT]), ⟨.old _ l _ _ (by simp [shiftT]) h1 ⟨rfl, h2, fun i j hi hj => ?_⟩, trivial⟩, hK cap⟩
  · cases i <;> cases j <;> simp at hi hj; rfl
  · obtain ⟨g1, g2⟩ := h3 i j hi hj
    exact .eq _ _ g1 (show Flat true (g i j) from g1 ▸ g2)

theorem flats_ints {nv : Bool} {k : IntKind} : ∀ (l : List Int), Flats nv (l.map (AV.int k))
  | [] => .nil
  | x :: r => .cons _ _ (.int _ _) (flats_ints r)

theorem S_rounds {m : Mem} {K : AV → Mem → Prop} (hK : ∀ cap, memK (m ++ [some ⟨1, 64, u32G kTab⟩]) (K (.sl m.length 0 64 cap))) : ACall Pg F_sha_rounds [] m K := by
  refine lift_row (n := 64) (es := 1) (G := u32G kTab) (?_ : ACall Pg F_sha_rounds [] [] _) .nil hK
  refine B_sha_rounds ⟨rfl, ?_⟩
  conv => whnf
  refine ⟨0, 64, 64, _, rfl, rfl, Nat.le_refl _, fun i j hi hj => ⟨?_, .int _ _⟩⟩
  obtain rfl : j = 0 := by omega
  have : ∀ i : Fin 64, (List.getD (kList.map (AV.int .u32)) (i.val * 1 + 0) .un) = u32G kTab i.val 0 := by
    intro i
    simp only [u32G, kTab, Nat.mul_one, Nat.add_zero, List.getD_eq_getElem?_getD, List.getElem?_map]
    rw [List.getElem?_eq_getElem (by have := i.isLt; simp [kList])]
    rfl
  exact this ⟨i, hi⟩

theorem S_k256 {m : Mem} {K : AV → Mem → Prop} (hK : K (.agg (kList.map (AV.int .u32))) m) : ACall Pg F_witanref04_k256 [] m K := by
  refine lift_flat (R := fun v => v = .agg (kList.map (AV.int .u32))) (?_ : ACall Pg F_witanref04_k256 [] [] _) .nil (fun v hv => by subst hv; exact hK)
  refine B_witanref04_k256 ⟨rfl, ?_⟩
  conv => whnf
  exact ⟨rfl, .agg _ (flats_ints kList)⟩

theorem wu32 (n : Int) : IntKind.u32.wrap n = n % 4294967296 := by simp [IntKind.wrap, IntKind.bits, IntKind.signed]

theorem updW {nv : Bool} {σ : Nat → Option Nat} {b : Nat → Int} {k i j n : Nat} {A : AV} (hj : j < 1) (hA : A = updG ⟨1, n, u32G (Wn b k)⟩ k 0 1 [.int .u32 (Wn b (k + 1) k)] i j) : RV nv σ A (u32G (Wn b (k + 1)) i j) := by
  subst hA
  obtain rfl : j = 0 := by omega
  have : updG ⟨1, n, u32G (Wn b k)⟩ k 0 1 [.int .u32 (Wn b (k + 1) k)] i 0 = u32G (Wn b (k + 1)) i 0 := by
    rw [updG_one]
    by_cases h : i = k
    · rw [if_pos h, h]; rfl
    · rw [if_neg h]
      show u32G (Wn b k) i 0 = u32G (Wn b (k + 1)) i 0
      simp only [u32G]
      rw [show Wn b (k + 1) i = Wn b k i from if_neg h]
  rw [this]; exact .eq _ _ rfl (.int _ _)

theorem eight {nv : Bool} {σ : Nat → Option Nat} {G : Nat → Nat → AV} {r : Nat → Int} {i j : Nat} (hi : i < 8) (hj : j < 1) (h0 : G 0 0 = .int .u32 (r 0)) (h1 : G 1 0 = .int .u32 (r 1)) (h2 : G 2 0 = .int .u32 (r 2)) (h3 : G 3 0 = .int .u32 (r 3))
    (h4 : G 4 0 = .int .u32 (r 4)) (h5 : G 5 0 = .int .u32 (r 5)) (h6 : G 6 0 = .int .u32 (r 6)) (h7 : G 7 0 = .int .u32 (r 7)) : RV nv σ (G i j) (u32G r i j) := by
  obtain rfl : j = 0 := by omega
  have : G i 0 = .int .u32 (r i) := by
    have : i = 0 ∨ i = 1 ∨ i = 2 ∨ i = 3 ∨ i = 4 ∨ i = 5 ∨ i = 6 ∨ i = 7 := by omega
    rcases this with rfl | rfl | rfl | rfl | rfl | rfl | rfl | rfl <;> assumption
  exact .eq _ _ this (this ▸ .int _ _)

theorem cellG_one {N a t : Nat} {G : Nat → Nat → AV} : cellG ⟨1, N, G⟩ a 0 t = G (a + t) 0 := by
  unfold cellG
  cases h : Nat.blt (0 + t) 1 with
  | true =>
    have : t = 0 := by rw [Nat.blt_eq] at h; omega
    subst this; rfl
  | false => rw [Nat.zero_add] at h; simp [h, Nat.mod_one]

theorem updG_all {n sz i : Nat} {g : Nat → Nat → AV} {vs : List AV} (h1 : 1 < sz) (hi : i < sz) : updG ⟨1, n, g⟩ 0 0 sz vs i 0 = vs.getD i .un := by
  unfold updG
  have : Nat.ble (0 + sz) 1 = false := by
    cases h : Nat.ble (0 + sz) 1 with
    | false => rfl
    | true => have := Nat.le_of_ble_eq_true h; omega
  simp only [this, cond_false, pickA_eq]
  have h2 : Nat.blt (i * 1 + 0) (0 * 1 + 0 + sz) = true := by rw [Nat.blt_eq]; omega
  have h3 : Nat.ble (0 * 1 + 0) (i * 1 + 0) = true := by rw [Nat.ble_eq]; omega
  simp only [h2, h3, Bool.and_self, cond_true]
  simp

theorem row_get1 {N k i : Nat} {G : Nat → Nat → AV} (hi : i < k) : (List.map (cellG ⟨1, N, G⟩ 0 0) (List.range k)).getD i .un = G i 0 := by
  rw [List.getD_eq_getElem?_getD, List.getElem?_map, List.getElem?_range hi]
  simp [cellG_one]

theorem updH {nv : Bool} {σ : Nat → Option Nat} {h r : Nat → Int} {k i j : Nat} {A : AV} (hj : j < 1) (hA : A = updG ⟨1, 8, u32G (fun i => if i < k then addU (h i) (r i) else h i)⟩ k 0 1 [.int .u32 (IntKind.u32.wrap ((if k < k then addU (h k) (r k) else h k) + r k))] i j) :
    RV nv σ A (u32G (fun i => if i < k + 1 then addU (h i) (r i) else h i) i j) := by
  subst hA
  obtain rfl : j = 0 := by omega
  have : updG ⟨1, 8, u32G (fun i => if i < k then addU (h i) (r i) else h i)⟩ k 0 1 [.int .u32 (IntKind.u32.wrap ((if k < k then addU (h k) (r k) else h k) + r k))] i 0 = u32G (fun i => if i < k + 1 then addU (h i) (r i) else h i) i 0 := by
    rw [updG_one]
    by_cases he : i = k
    · subst he
      rw [if_pos rfl]
      simp only [u32G, Nat.lt_irrefl, if_false, Nat.lt_succ_self, if_true]
      rfl
    · rw [if_neg he]
      simp only [u32G]
      by_cases hl : i < k
      · rw [if_pos hl, if_pos (by omega)]
      · rw [if_neg hl, if_neg (by omega)]
  rw [this]; exact .eq _ _ rfl (.int _ _)

theorem eightC {nv : Bool} {σ : Nat → Option Nat} {A : AV} {g : Nat → Nat → AV} {r : Nat → Int} {i j : Nat} (hi : i < 8) (hj : j < 1) (hA : A = updG ⟨1, 8, g⟩ 0 0 8 (List.map (cellG ⟨1, 8, u32G r⟩ 0 0) (List.range 8)) i j) : RV nv σ A (u32G r i j) := by
  obtain rfl : j = 0 := by omega
  have : A = u32G r i 0 := by rw [hA, updG_all (by omega) hi, row_get1 hi]
  rw [this]; exact .eq _ _ rfl (.int _ _)

theorem updO {nv : Bool} {σ : Nat → Option Nat} {s : Nat → Int} {k i j e d : Nat} {x : Int} {A : AV} (hj : j < 1) (hS : s k = IntKind.u8.wrap (x.fdiv (2 ^ d))) (he : e = d) (hA : A = updG ⟨1, 32, bytesG (fun i => if i < k then s i else 0)⟩ k 0 1 [.int .u8 (IntKind.u8.wrap (x.fdiv (2 ^ e)))] i j) :
    RV nv σ A (bytesG (fun i => if i < k + 1 then s i else 0) i j) := by
  subst hA he
  obtain rfl : j = 0 := by omega
  have : updG ⟨1, 32, bytesG (fun i => if i < k then s i else 0)⟩ k 0 1 [.int .u8 (IntKind.u8.wrap (x.fdiv (2 ^ e)))] i 0 = bytesG (fun i => if i < k + 1 then s i else 0) i 0 := by
    rw [updG_one, ← hS]
    by_cases he : i = k
    · subst he
      rw [if_pos rfl]
      simp only [bytesG, Nat.lt_succ_self, if_true]
    · rw [if_neg he]
      simp only [bytesG]
      by_cases hl : i < k
      · rw [if_pos hl, if_pos (by omega)]
      · rw [if_neg hl, if_neg (by omega)]
  rw [this]; exact .eq _ _ rfl (.int _ _)

theorem outRow {s : Nat → Int} {g : Nat → Nat → AV} {l : List AV} (hl : l = List.map (cellG ⟨1, 32, updG ⟨1, 32, g⟩ 0 0 32 (List.map (cellG ⟨1, 32, bytesG (fun i => if i < 32 then s i else 0)⟩ 0 0) (List.range 32))⟩ 0 0) (List.range 32)) : l = (List.range 32).map fun i => .int .u8 (s i) := by
  subst hl
  refine List.map_congr_left fun i hi => ?_
  have hi : i < 32 := List.mem_range.mp hi
  rw [cellG_one, Nat.zero_add, updG_all (by omega) hi, row_get1 hi]
  simp only [bytesG]
  rw [if_pos hi]

theorem outSum {n : Nat} {f : Nat → Int} {g : Nat → Nat → AV} {l : List AV} (hl : l = List.map (cellG ⟨1, 32, updG ⟨1, 32, g⟩ 0 0 32 (List.map (cellG ⟨1, 32, bytesG (fun i => if i < 32 then sumB n f i else 0)⟩ 0 0) (List.range 32))⟩ 0 0) (List.range 32)) : AV.agg l = .agg (sumL n f) ∧ Flat true (.agg l) := by
  have e : l = sumL n f := outRow hl
  subst e
  refine ⟨rfl, .agg _ ?_⟩
  have := flats_ints (nv := true) (k := .u8) ((List.range 32).map (sumB n f))
  rw [List.map_map] at this
  exact this

theorem oneU0 {nv : Bool} {σ : Nat → Option Nat} {j : Nat} {A : AV} (hj : j < 1) (hA : A = [AV.int IntKind.u8 0].getD j AV.un) : RV nv σ A (AV.int IntKind.u8 0) := by
  subst hA
  obtain rfl : j = 0 := by omega
  exact .eq _ _ rfl (.int _ _)

set_option maxHeartbeats 4000000 in
theorem S_Sum0 (n cap : Nat) (f : Nat → Int) (hn : n ≤ 1000000) (hf : ∀ i, i < n → 0 ≤ f i ∧ f i ≤ 255) : ACall Pg F_sha_Sum [.vsl 1 n cap (bytesG f)] [] (fun v _ => v = .agg (sumL n f) ∧ Flat true v) := by
  obtain ⟨p1, p2, p3⟩ := padN_ge n
  refine B_sha_Sum ⟨rfl, ?_⟩
  conv => whnf
  refine S_rounds (fun capk => ?_)
  conv => whnf
  refine S_padded (f := f) Shows.vsl hn (fun capp => ?_)
  conv => whnf
  have hb := padF_lt hf
  generalize hB : padF n f = b at *
  refine loop_wk mixed (I := fun q l m => ∃ (j off cp : Nat), l = [(2, .ptr 0 0 0), (3, .ptr 1 0 0), (4, .sl 2 0 64 capk), (5, .sl 3 off (64 * q) cp)] ∧ m = [some ⟨1, 32, fun _ _ => .int .u8 0⟩, some ⟨1, 8, u32G (Hn b j)⟩, some ⟨1, 64, u32G kTab⟩, some ⟨1, padN n, bytesG b⟩] ∧ q + j = padN n / 64 ∧ off = 64 * j) (padN n / 64)
    (l0 := [(2, .ptr 0 0 0), (3, .ptr 1 0 0), (4, .sl 2 0 64 capk), (5, .sl 3 0 (64 * (padN n / 64)) capp)]) (m0 := [some ⟨1, 32, fun _ _ => .int .u8 0⟩, some ⟨1, 8, u32G hTab⟩, some ⟨1, 64, u32G kTab⟩, some ⟨1, padN n, bytesG b⟩]) [some 0, some 1, some 2, some 3] ⟨0, 0, capp, rfl, rfl, by omega, rfl⟩ ?_ ?_
  · have hN : AV.sl 3 0 (64 * (padN n / 64)) capp = .sl 3 0 (padN n) capp := by rw [show 64 * (padN n / 64) = padN n by omega]
    rw [hN]
    refine .mk0 ⟨.ptr _ _ _ _ rfl, .ptr _ _ _ _ rfl, .sl _ _ _ _ _ rfl, .sl _ _ _ _ _ rfl, trivial⟩ ⟨.old 0 0 _ _ rfl rfl ⟨rfl, Nat.le_refl _, fun i j hi hj => oneU0 hj rfl⟩, .old 1 1 _ _ rfl rfl ⟨rfl, Nat.le_refl _, fun i j hi hj => ?_⟩,
      .old 2 2 _ _ rfl rfl ⟨rfl, Nat.le_refl _, fun i j hi hj => .eq _ _ rfl (.int _ _)⟩, .old 3 3 _ _ rfl rfl ⟨rfl, Nat.le_refl _, fun i j hi hj => .eq _ _ rfl (.int _ _)⟩, trivial⟩ rfl rfl
    exact eight hi hj rfl rfl rfl rfl rfl rfl rfl rfl
  · rintro q l m ⟨j, off, cp, rfl, rfl, hq, rfl⟩
    conv => whnf
    refine condB_mk (fun hc => ?_) (fun hc => ?_)
    · have hc : 0 < q := by simp at hc; omega
      conv => whnf
      have hj : j < padN n / 64 := by omega
      refine loop_wk mixed (I := fun q' l m => ∃ (k : Nat), l = [(2, .ptr 0 0 0), (3, .ptr 1 0 0), (4, .sl 2 0 64 capk), (5, .sl 3 (64 * j) (64 * q) cp), (6, .ptr 4 0 0), (32, .int .i64 k)] ∧
          m = [some ⟨1, 32, fun _ _ => .int .u8 0⟩, some ⟨1, 8, u32G (Hn b j)⟩, some ⟨1, 64, u32G kTab⟩, some ⟨1, padN n, bytesG b⟩, some ⟨1, 64, u32G (Wn (blkB b j) k)⟩] ∧ q' + k = 64) 64
        (l0 := [(2, .ptr 0 0 0), (3, .ptr 1 0 0), (4, .sl 2 0 64 capk), (5, .sl 3 (64 * j) (64 * q) cp), (6, .ptr 4 0 0), (32, .int .i64 (0 : Nat))])
        (m0 := [some ⟨1, 32, fun _ _ => .int .u8 0⟩, some ⟨1, 8, u32G (Hn b j)⟩, some ⟨1, 64, u32G kTab⟩, some ⟨1, padN n, bytesG b⟩, some ⟨1, 64, u32G (Wn (blkB b j) 0)⟩]) [some 0, some 1, some 2, some 3, some 4] ⟨0, rfl, rfl, rfl⟩ ?_ ?_
      · refine .mk0 ⟨.ptr _ _ _ _ rfl, .ptr _ _ _ _ rfl, .sl _ _ _ _ _ rfl, .sl _ _ _ _ _ rfl, .ptr _ _ _ _ rfl, Flat.i rfl, trivial⟩ ⟨.old 0 0 _ _ rfl rfl ⟨rfl, Nat.le_refl _, fun i j hi hj => .eq _ _ rfl (.int _ _)⟩, .old 1 1 _ _ rfl rfl ⟨rfl, Nat.le_refl _, fun i j hi hj => .eq _ _ rfl (.int _ _)⟩,
          .old 2 2 _ _ rfl rfl ⟨rfl, Nat.le_refl _, fun i j hi hj => .eq _ _ rfl (.int _ _)⟩, .old 3 3 _ _ rfl rfl ⟨rfl, Nat.le_refl _, fun i j hi hj => .eq _ _ rfl (.int _ _)⟩, .old 4 4 _ _ rfl rfl ⟨rfl, Nat.le_refl _, fun i j hi hj => ?_⟩, trivial⟩ rfl rfl
        have hj : j < 1 := hj
        obtain rfl : j = 0 := by omega
        exact .eq _ _ rfl (.int _ _)
      · rintro q' l m ⟨k, rfl, rfl, hk⟩
        conv => whnf
        refine condB_mk (fun hc => ?_) (fun hc => ?_)
        · have hc : k < 64 := by simp at hc; omega
          conv => whnf
          refine condB_mk (fun hd => ?_) (fun hd => ?_)
          · have hd : k < 16 := by simp at hd; omega
            conv => whnf
            have e1 : IntKind.i64.wrap (4 * (k : Int)) = ((4 * k : Nat) : Int) := by rw [w64 (by omega) (by omega)]; omega
            have e2 : IntKind.i64.wrap (((4 * k : Nat) : Int) + 4) = ((4 * k + 4 : Nat) : Int) := by rw [w64 (by omega) (by omega)]; omega
            simp only [e1, e2, Int.toNat_natCast]
            refine condB_ok (by simp; omega) ?_
            conv => whnf
            simp only [Nat.add_sub_cancel_left]
            refine S_high (n := 4) (f := fun i => b (64 * j + 4 * k + i)) (Shows.any rfl (by omega) (fun i hi => rfl)) (by omega) (fun i _ => hb _) ?_
            conv => whnf
            have e3 : IntKind.u32.wrap (getV (fun i => b (64 * j + 4 * k + i)) 0 4) = Wn (blkB b j) (k + 1) k := by
              obtain ⟨g1, g2⟩ := getV_lt (f := fun i => b (64 * j + 4 * k + i)) (p := 0) (k := 4) (fun i _ => hb _)
              rw [wu32, show Wn (blkB b j) (k + 1) k = newW (blkB b j) k (Wn (blkB b j) k) from if_pos rfl, newW, if_pos hd]
              rw [Int.emod_eq_of_lt g1 (by omega)]
              simp only [getV, blkB, Nat.zero_add, Nat.add_zero, Nat.add_assoc]
            simp only [e3]
            refine condB_ok (by simp; omega) ?_
            conv => whnf
            simp only [Int.toNat_natCast, Nat.zero_add]
            refine condB_ok (by simp [roomG, Nat.ble_eq]; omega) ?_
            conv => whnf
            have e4 : IntKind.i64.wrap ((k : Int) + 1) = ((k + 1 : Nat) : Int) := by rw [w64 (by omega) (by omega)]; omega
            refine ⟨q' - 1, [(2, .ptr 0 0 0), (3, .ptr 1 0 0), (4, .sl 2 0 64 capk), (5, .sl 3 (64 * j) (64 * q) cp), (6, .ptr 4 0 0), (32, .int .i64 ((k + 1 : Nat) : Int))],
              [some ⟨1, 32, fun _ _ => .int .u8 0⟩, some ⟨1, 8, u32G (Hn b j)⟩, some ⟨1, 64, u32G kTab⟩, some ⟨1, padN n, bytesG b⟩, some ⟨1, 64, u32G (Wn (blkB b j) (k + 1))⟩], [some 0, some 1, some 2, some 3, some 4], by omega, ⟨k + 1, rfl, rfl, by omega⟩, ?_⟩
            refine .mk0 ⟨.ptr _ _ _ _ rfl, .ptr _ _ _ _ rfl, .sl _ _ _ _ _ rfl, .sl _ _ _ _ _ rfl, .ptr _ _ _ _ rfl, Flat.i e4, trivial⟩ ⟨.old 0 0 _ _ rfl rfl ⟨rfl, Nat.le_refl _, fun i j hi hj => .eq _ _ rfl (.int _ _)⟩, .old 1 1 _ _ rfl rfl ⟨rfl, Nat.le_refl _, fun i j hi hj => .eq _ _ rfl (.int _ _)⟩,
              .old 2 2 _ _ rfl rfl ⟨rfl, Nat.le_refl _, fun i j hi hj => .eq _ _ rfl (.int _ _)⟩, .old 3 3 _ _ rfl rfl ⟨rfl, Nat.le_refl _, fun i j hi hj => .eq _ _ rfl (.int _ _)⟩, .old 4 4 _ _ rfl rfl ⟨rfl, Nat.le_refl _, fun i j hi hj => ?_⟩, trivial⟩ rfl rfl
            exact updW hj rfl
          · have hd : ¬ k < 16 := by simp at hd; omega
            conv => whnf
            have e1 : IntKind.i64.wrap ((k : Int) - 15) = ((k - 15 : Nat) : Int) := by rw [w64 (by omega) (by omega)]; omega
            have e2 : IntKind.i64.wrap ((k : Int) - 2) = ((k - 2 : Nat) : Int) := by rw [w64 (by omega) (by omega)]; omega
            have e3 : IntKind.i64.wrap ((k : Int) - 16) = ((k - 16 : Nat) : Int) := by rw [w64 (by omega) (by omega)]; omega
            have e4 : IntKind.i64.wrap ((k : Int) - 7) = ((k - 7 : Nat) : Int) := by rw [w64 (by omega) (by omega)]; omega
            simp only [e1]
            refine condB_ok (by simp; omega) ?_
            conv => whnf
            simp only [Int.toNat_natCast, Nat.zero_add]
            refine condB_ok (by simp [roomG, Nat.ble_eq]; omega) ?_
            conv => whnf
            simp only [e2]
            refine condB_ok (by simp; omega) ?_
            conv => whnf
            simp only [Int.toNat_natCast, Nat.zero_add]
            refine condB_ok (by simp [roomG, Nat.ble_eq]; omega) ?_
            conv => whnf
            refine S_rot _ _ ?_
            conv => whnf
            refine S_rot _ _ ?_
            conv => whnf
            refine S_rot _ _ ?_
            conv => whnf
            refine S_rot _ _ ?_
            conv => whnf
            simp only [e3]
            refine condB_ok (by simp; omega) ?_
            conv => whnf
            simp only [Int.toNat_natCast, Nat.zero_add]
            refine condB_ok (by simp [roomG, Nat.ble_eq]; omega) ?_
            conv => whnf
            simp only [e4]
            refine condB_ok (by simp; omega) ?_
            conv => whnf
            simp only [Int.toNat_natCast, Nat.zero_add]
            refine condB_ok (by simp [roomG, Nat.ble_eq]; omega) ?_
            conv => whnf
            refine condB_ok (by simp; omega) ?_
            conv => whnf
            simp only [Int.toNat_natCast, Nat.zero_add]
            refine condB_ok (by simp [roomG, Nat.ble_eq]; omega) ?_
            conv => whnf
            have e5 : IntKind.i64.wrap ((k : Int) + 1) = ((k + 1 : Nat) : Int) := by rw [w64 (by omega) (by omega)]; omega
            have eW : Wn (blkB b j) (k + 1) k = addU (addU (addU (Wn (blkB b j) k (k - 16)) (sigA (Wn (blkB b j) k (k - 15)))) (Wn (blkB b j) k (k - 7))) (sigB (Wn (blkB b j) k (k - 2))) := by
              rw [show Wn (blkB b j) (k + 1) k = newW (blkB b j) k (Wn (blkB b j) k) from if_pos rfl, newW, if_neg hd]
            refine ⟨q' - 1, [(2, .ptr 0 0 0), (3, .ptr 1 0 0), (4, .sl 2 0 64 capk), (5, .sl 3 (64 * j) (64 * q) cp), (6, .ptr 4 0 0), (32, .int .i64 ((k + 1 : Nat) : Int))],
              [some ⟨1, 32, fun _ _ => .int .u8 0⟩, some ⟨1, 8, u32G (Hn b j)⟩, some ⟨1, 64, u32G kTab⟩, some ⟨1, padN n, bytesG b⟩, some ⟨1, 64, u32G (Wn (blkB b j) (k + 1))⟩], [some 0, some 1, some 2, some 3, some 4], by omega, ⟨k + 1, rfl, rfl, by omega⟩, ?_⟩
            refine .mk0 ⟨.ptr _ _ _ _ rfl, .ptr _ _ _ _ rfl, .sl _ _ _ _ _ rfl, .sl _ _ _ _ _ rfl, .ptr _ _ _ _ rfl, Flat.i e5, trivial⟩ ⟨.old 0 0 _ _ rfl rfl ⟨rfl, Nat.le_refl _, fun i j hi hj => .eq _ _ rfl (.int _ _)⟩, .old 1 1 _ _ rfl rfl ⟨rfl, Nat.le_refl _, fun i j hi hj => .eq _ _ rfl (.int _ _)⟩,
              .old 2 2 _ _ rfl rfl ⟨rfl, Nat.le_refl _, fun i j hi hj => .eq _ _ rfl (.int _ _)⟩, .old 3 3 _ _ rfl rfl ⟨rfl, Nat.le_refl _, fun i j hi hj => .eq _ _ rfl (.int _ _)⟩, .old 4 4 _ _ rfl rfl ⟨rfl, Nat.le_refl _, fun i j hi hj => ?_⟩, trivial⟩ rfl rfl
            exact updW hj (by rw [eW]; rfl)
        · have hc : k = 64 := by simp at hc; omega
          subst hc
          conv => whnf
          generalize hW : Wn (blkB b j) 64 = w
          generalize hH : Hn b j = h
          refine loop_wk mixed (I := fun q' l m => ∃ (k : Nat), l = [(2, .ptr 0 0 0), (3, .ptr 1 0 0), (4, .sl 2 0 64 capk), (5, .sl 3 (64 * j) (64 * q) cp), (6, .ptr 4 0 0), (12, .ptr 5 0 0), (89, .int .i64 k)] ∧
              m = [some ⟨1, 32, fun _ _ => .int .u8 0⟩, some ⟨1, 8, u32G h⟩, some ⟨1, 64, u32G kTab⟩, some ⟨1, padN n, bytesG b⟩, some ⟨1, 64, u32G w⟩, some ⟨1, 8, u32G (Rn h w k)⟩] ∧ q' + k = 64) 64
            (l0 := [(2, .ptr 0 0 0), (3, .ptr 1 0 0), (4, .sl 2 0 64 capk), (5, .sl 3 (64 * j) (64 * q) cp), (6, .ptr 4 0 0), (12, .ptr 5 0 0), (89, .int .i64 (0 : Nat))])
            (m0 := [some ⟨1, 32, fun _ _ => .int .u8 0⟩, some ⟨1, 8, u32G h⟩, some ⟨1, 64, u32G kTab⟩, some ⟨1, padN n, bytesG b⟩, some ⟨1, 64, u32G w⟩, some ⟨1, 8, u32G (Rn h w 0)⟩]) [some 0, some 1, some 2, some 3, some 4, some 5] ⟨0, rfl, rfl, rfl⟩ ?_ ?_
          · refine .mk0 ⟨.ptr _ _ _ _ rfl, .ptr _ _ _ _ rfl, .sl _ _ _ _ _ rfl, .sl _ _ _ _ _ rfl, .ptr _ _ _ _ rfl, .ptr _ _ _ _ rfl, Flat.i rfl, trivial⟩ ⟨.old 0 0 _ _ rfl rfl ⟨rfl, Nat.le_refl _, fun i j hi hj => .eq _ _ rfl (.int _ _)⟩, .old 1 1 _ _ rfl rfl ⟨rfl, Nat.le_refl _, fun i j hi hj => .eq _ _ rfl (.int _ _)⟩,
              .old 2 2 _ _ rfl rfl ⟨rfl, Nat.le_refl _, fun i j hi hj => .eq _ _ rfl (.int _ _)⟩, .old 3 3 _ _ rfl rfl ⟨rfl, Nat.le_refl _, fun i j hi hj => .eq _ _ rfl (.int _ _)⟩, .old 4 4 _ _ rfl rfl ⟨rfl, Nat.le_refl _, fun i j hi hj => .eq _ _ rfl (.int _ _)⟩, .old 5 5 _ _ rfl rfl ⟨rfl, Nat.le_refl _, fun i j hi hj => ?_⟩, trivial⟩ rfl rfl
            exact eightC hi hj rfl
          · rintro q' l m ⟨k, rfl, rfl, hk⟩
            conv => whnf
            refine condB_mk (fun hc => ?_) (fun hc => ?_)
            · have hc : k < 64 := by simp at hc; omega
              conv => whnf
              generalize hR : Rn h w k = r
              refine S_rot _ _ ?_
              conv => whnf
              refine S_rot _ _ ?_
              conv => whnf
              refine S_rot _ _ ?_
              conv => whnf
              refine condB_ok (by simp; omega) ?_
              conv => whnf
              simp only [Int.toNat_natCast, Nat.zero_add]
              refine condB_ok (by simp [roomG, Nat.ble_eq]; omega) ?_
              conv => whnf
              refine condB_ok (by simp; omega) ?_
              conv => whnf
              simp only [Int.toNat_natCast, Nat.zero_add]
              refine condB_ok (by simp [roomG, Nat.ble_eq]; omega) ?_
              conv => whnf
              refine S_rot _ _ ?_
              conv => whnf
              refine S_rot _ _ ?_
              conv => whnf
              refine S_rot _ _ ?_
              conv => whnf
              have e5 : IntKind.i64.wrap ((k : Int) + 1) = ((k + 1 : Nat) : Int) := by rw [w64 (by omega) (by omega)]; omega
              have eR : Rn h w (k + 1) = rnd r (kTab k) (w k) := by rw [← hR]; rfl
              refine ⟨q' - 1, [(2, .ptr 0 0 0), (3, .ptr 1 0 0), (4, .sl 2 0 64 capk), (5, .sl 3 (64 * j) (64 * q) cp), (6, .ptr 4 0 0), (12, .ptr 5 0 0), (89, .int .i64 ((k + 1 : Nat) : Int))],
                [some ⟨1, 32, fun _ _ => .int .u8 0⟩, some ⟨1, 8, u32G h⟩, some ⟨1, 64, u32G kTab⟩, some ⟨1, padN n, bytesG b⟩, some ⟨1, 64, u32G w⟩, some ⟨1, 8, u32G (Rn h w (k + 1))⟩], [some 0, some 1, some 2, some 3, some 4, some 5], by omega, ⟨k + 1, rfl, rfl, by omega⟩, ?_⟩
              rw [eR]
              refine .mk0 ⟨.ptr _ _ _ _ rfl, .ptr _ _ _ _ rfl, .sl _ _ _ _ _ rfl, .sl _ _ _ _ _ rfl, .ptr _ _ _ _ rfl, .ptr _ _ _ _ rfl, Flat.i e5, trivial⟩ ⟨.old 0 0 _ _ rfl rfl ⟨rfl, Nat.le_refl _, fun i j hi hj => .eq _ _ rfl (.int _ _)⟩, .old 1 1 _ _ rfl rfl ⟨rfl, Nat.le_refl _, fun i j hi hj => .eq _ _ rfl (.int _ _)⟩,
                .old 2 2 _ _ rfl rfl ⟨rfl, Nat.le_refl _, fun i j hi hj => .eq _ _ rfl (.int _ _)⟩, .old 3 3 _ _ rfl rfl ⟨rfl, Nat.le_refl _, fun i j hi hj => .eq _ _ rfl (.int _ _)⟩, .old 4 4 _ _ rfl rfl ⟨rfl, Nat.le_refl _, fun i j hi hj => .eq _ _ rfl (.int _ _)⟩, .old 5 5 _ _ rfl rfl ⟨rfl, Nat.le_refl _, fun i j hi hj => ?_⟩, trivial⟩ rfl rfl
              exact eight hi hj rfl rfl rfl rfl rfl rfl rfl rfl
            · have hc : k = 64 := by simp at hc; omega
              subst hc
              conv => whnf
              generalize hR : Rn h w 64 = r
              have hNext : Hn b (j + 1) = fun i => addU (h i) (r i) := by
                rw [show Hn b (j + 1) = nextH (Hn b j) (Wn (blkB b j) 64) from rfl, hW, hH]
                funext i
                rw [nextH, hR]
              refine loop_wk mixed (I := fun q' l m => ∃ (k : Nat), l = [(2, .ptr 0 0 0), (3, .ptr 1 0 0), (4, .sl 2 0 64 capk), (5, .sl 3 (64 * j) (64 * q) cp), (12, .ptr 5 0 0), (172, .int .i64 k)] ∧
                  m = [some ⟨1, 32, fun _ _ => .int .u8 0⟩, some ⟨1, 8, u32G (fun i => if i < k then addU (h i) (r i) else h i)⟩, some ⟨1, 64, u32G kTab⟩, some ⟨1, padN n, bytesG b⟩, none, some ⟨1, 8, u32G r⟩] ∧ q' + k = 8) 8
                (l0 := [(2, .ptr 0 0 0), (3, .ptr 1 0 0), (4, .sl 2 0 64 capk), (5, .sl 3 (64 * j) (64 * q) cp), (12, .ptr 5 0 0), (172, .int .i64 (0 : Nat))])
                (m0 := [some ⟨1, 32, fun _ _ => .int .u8 0⟩, some ⟨1, 8, u32G (fun i => if i < 0 then addU (h i) (r i) else h i)⟩, some ⟨1, 64, u32G kTab⟩, some ⟨1, padN n, bytesG b⟩, none, some ⟨1, 8, u32G r⟩]) [some 0, some 1, some 2, some 3, none, some 5] ⟨0, rfl, rfl, rfl⟩ ?_ ?_
              · refine .mk0 ⟨.ptr _ _ _ _ rfl, .ptr _ _ _ _ rfl, .sl _ _ _ _ _ rfl, .sl _ _ _ _ _ rfl, .ptr _ _ _ _ rfl, Flat.i rfl, trivial⟩ ⟨.old 0 0 _ _ rfl rfl ⟨rfl, Nat.le_refl _, fun i j hi hj => .eq _ _ rfl (.int _ _)⟩, .old 1 1 _ _ rfl rfl ⟨rfl, Nat.le_refl _, fun i j hi hj => ?_⟩,
                  .old 2 2 _ _ rfl rfl ⟨rfl, Nat.le_refl _, fun i j hi hj => .eq _ _ rfl (.int _ _)⟩, .old 3 3 _ _ rfl rfl ⟨rfl, Nat.le_refl _, fun i j hi hj => .eq _ _ rfl (.int _ _)⟩, .dead _, .old 5 5 _ _ rfl rfl ⟨rfl, Nat.le_refl _, fun i j hi hj => .eq _ _ rfl (.int _ _)⟩, trivial⟩ rfl rfl
                exact .eq _ _ (by simp only [u32G]; rw [if_neg (Nat.not_lt_zero _)]) (.int _ _)
              · rintro q' l m ⟨k, rfl, rfl, hk⟩
                conv => whnf
                refine condB_mk (fun hc => ?_) (fun hc => ?_)
                · have hc : k < 8 := by simp at hc; omega
                  conv => whnf
                  refine condB_ok (by simp; omega) ?_
                  conv => whnf
                  simp only [Int.toNat_natCast, Nat.zero_add]
                  refine condB_ok (by simp [roomG, Nat.ble_eq]; omega) ?_
                  conv => whnf
                  refine condB_ok (by simp; omega) ?_
                  conv => whnf
                  simp only [Int.toNat_natCast, Nat.zero_add]
                  refine condB_ok (by simp [roomG, Nat.ble_eq]; omega) ?_
                  conv => whnf
                  refine condB_ok (by simp; omega) ?_
                  conv => whnf
                  simp only [Int.toNat_natCast, Nat.zero_add]
                  refine condB_ok (by simp [roomG, Nat.ble_eq]; omega) ?_
                  conv => whnf
                  have e5 : IntKind.i64.wrap ((k : Int) + 1) = ((k + 1 : Nat) : Int) := by rw [w64 (by omega) (by omega)]; omega
                  refine ⟨q' - 1, [(2, .ptr 0 0 0), (3, .ptr 1 0 0), (4, .sl 2 0 64 capk), (5, .sl 3 (64 * j) (64 * q) cp), (12, .ptr 5 0 0), (172, .int .i64 ((k + 1 : Nat) : Int))],
                    [some ⟨1, 32, fun _ _ => .int .u8 0⟩, some ⟨1, 8, u32G (fun i => if i < k + 1 then addU (h i) (r i) else h i)⟩, some ⟨1, 64, u32G kTab⟩, some ⟨1, padN n, bytesG b⟩, none, some ⟨1, 8, u32G r⟩], [some 0, some 1, some 2, some 3, none, some 5], by omega, ⟨k + 1, rfl, rfl, by omega⟩, ?_⟩
                  refine .mk0 ⟨.ptr _ _ _ _ rfl, .ptr _ _ _ _ rfl, .sl _ _ _ _ _ rfl, .sl _ _ _ _ _ rfl, .ptr _ _ _ _ rfl, Flat.i e5, trivial⟩ ⟨.old 0 0 _ _ rfl rfl ⟨rfl, Nat.le_refl _, fun i j hi hj => .eq _ _ rfl (.int _ _)⟩, .old 1 1 _ _ rfl rfl ⟨rfl, Nat.le_refl _, fun i j hi hj => ?_⟩,
                    .old 2 2 _ _ rfl rfl ⟨rfl, Nat.le_refl _, fun i j hi hj => .eq _ _ rfl (.int _ _)⟩, .old 3 3 _ _ rfl rfl ⟨rfl, Nat.le_refl _, fun i j hi hj => .eq _ _ rfl (.int _ _)⟩, .dead _, .old 5 5 _ _ rfl rfl ⟨rfl, Nat.le_refl _, fun i j hi hj => .eq _ _ rfl (.int _ _)⟩, trivial⟩ rfl rfl
                  exact updH hj rfl
                · have hc : k = 8 := by simp at hc; omega
                  subst hc
                  conv => whnf
                  refine condB_ok (by simp; omega) ?_
                  conv => whnf
                  refine ⟨q - 1, [(2, .ptr 0 0 0), (3, .ptr 1 0 0), (4, .sl 2 0 64 capk), (5, .sl 3 (64 * (j + 1)) (64 * (q - 1)) (cp - 64))],
                    [some ⟨1, 32, fun _ _ => .int .u8 0⟩, some ⟨1, 8, u32G (Hn b (j + 1))⟩, some ⟨1, 64, u32G kTab⟩, some ⟨1, padN n, bytesG b⟩], [some 0, some 1, some 2, some 3], by omega, ⟨j + 1, 64 * (j + 1), cp - 64, rfl, rfl, by omega, rfl⟩, ?_⟩
                  rw [hNext]
                  refine .mk0 ⟨.ptr _ _ _ _ rfl, .ptr _ _ _ _ rfl, .sl _ _ _ _ _ rfl, ?_, trivial⟩ ⟨.old 0 0 _ _ rfl rfl ⟨rfl, Nat.le_refl _, fun i j hi hj => .eq _ _ rfl (.int _ _)⟩, .old 1 1 _ _ rfl rfl ⟨rfl, Nat.le_refl _, fun i j hi hj => ?_⟩,
                    .old 2 2 _ _ rfl rfl ⟨rfl, Nat.le_refl _, fun i j hi hj => .eq _ _ rfl (.int _ _)⟩, .old 3 3 _ _ rfl rfl ⟨rfl, Nat.le_refl _, fun i j hi hj => .eq _ _ rfl (.int _ _)⟩, trivial⟩ rfl rfl
                  · have : AV.sl 3 (64 * (j + 1)) (64 * (q - 1)) (cp - 64) = .sl 3 (64 * j + (64 : Int).toNat) (64 * q - (64 : Int).toNat) (cp - (64 : Int).toNat) := by
                      rw [show (64 : Int).toNat = 64 from rfl, show 64 * (j + 1) = 64 * j + 64 by omega, show 64 * (q - 1) = 64 * q - 64 by omega]
                    rw [this]
                    exact .sl _ _ _ _ _ rfl
                  · have hi : i < 8 := hi
                    exact .eq _ _ (by simp only [u32G]; rw [if_pos hi]) (.int _ _)
    · have hc : q = 0 := by simp at hc; omega
      conv => whnf
      obtain rfl : j = padN n / 64 := by omega
      generalize hH : Hn b (padN n / 64) = h
      have hS : ∀ i, i < 32 → sumB n f i = IntKind.u8.wrap ((h (i / 4)).fdiv (2 ^ (24 - 8 * (i % 4)))) := fun i hi => by rw [sumB, hB, hH]
      refine loop_wk mixed (I := fun q' l m => ∃ (k : Nat), l = [(2, .ptr 0 0 0), (3, .ptr 1 0 0), (21, .ptr 2 0 0), (184, .int .i64 k)] ∧
          m = [some ⟨1, 32, fun _ _ => .int .u8 0⟩, some ⟨1, 8, u32G h⟩, some ⟨1, 32, bytesG (fun i => if i < k then sumB n f i else 0)⟩] ∧ q' + k = 32) 32
        (l0 := [(2, .ptr 0 0 0), (3, .ptr 1 0 0), (21, .ptr 2 0 0), (184, .int .i64 (0 : Nat))])
        (m0 := [some ⟨1, 32, fun _ _ => .int .u8 0⟩, some ⟨1, 8, u32G h⟩, some ⟨1, 32, bytesG (fun i => if i < 0 then sumB n f i else 0)⟩]) [some 0, some 1, some 4] ⟨0, rfl, rfl, rfl⟩ ?_ ?_
      · refine .mk0 ⟨.ptr _ _ _ _ rfl, .ptr _ _ _ _ rfl, .ptr _ _ _ _ rfl, Flat.i rfl, trivial⟩ ⟨.old 0 0 _ _ rfl rfl ⟨rfl, Nat.le_refl _, fun i j hi hj => .eq _ _ rfl (.int _ _)⟩, .old 1 1 _ _ rfl rfl ⟨rfl, Nat.le_refl _, fun i j hi hj => .eq _ _ rfl (.int _ _)⟩, .old 2 4 _ _ rfl rfl ⟨rfl, Nat.le_refl _, fun i j hi hj => ?_⟩, trivial⟩ rfl rfl
        have hj : j < 1 := hj
        obtain rfl : j = 0 := by omega
        exact .eq _ _ (by simp only [bytesG]; rw [if_neg (Nat.not_lt_zero _)]; rfl) (.int _ _)
      · rintro q' l m ⟨k, rfl, rfl, hk⟩
        conv => whnf
        refine condB_mk (fun hc => ?_) (fun hc => ?_)
        · have hc : k < 32 := by simp at hc; omega
          conv => whnf
          have e1 : IntKind.i64.wrap ((k : Int).tdiv 4) = ((k / 4 : Nat) : Int) := by
            rw [Int.tdiv_eq_ediv_of_nonneg (by omega), w64 (by omega) (by omega)]; omega
          have e2 : (k : Int).tmod 4 = ((k % 4 : Nat) : Int) := tmod_nat k 4
          have e3 : IntKind.i64.wrap (8 * ((k % 4 : Nat) : Int)) = ((8 * (k % 4) : Nat) : Int) := by rw [w64 (by omega) (by omega)]; omega
          have e4 : IntKind.i64.wrap (24 - ((8 * (k % 4) : Nat) : Int)) = ((24 - 8 * (k % 4) : Nat) : Int) := by rw [w64 (by omega) (by omega)]; omega
          simp only [e1]
          refine condB_ok (by simp; omega) ?_
          conv => whnf
          simp only [Int.toNat_natCast, Nat.zero_add]
          refine condB_ok (by simp [roomG, Nat.ble_eq]; omega) ?_
          conv => whnf
          simp only [e2, e3, e4]
          conv => whnf
          refine condB_ok (by simp; omega) ?_
          conv => whnf
          simp only [Int.toNat_natCast, Nat.zero_add]
          refine condB_ok (by simp [roomG, Nat.ble_eq]; omega) ?_
          conv => whnf
          have e5 : IntKind.i64.wrap ((k : Int) + 1) = ((k + 1 : Nat) : Int) := by rw [w64 (by omega) (by omega)]; omega
          have e6 : min (24 - 8 * (k % 4)) IntKind.u32.bits = 24 - 8 * (k % 4) := by simp only [IntKind.bits]; omega
          refine ⟨q' - 1, [(2, .ptr 0 0 0), (3, .ptr 1 0 0), (21, .ptr 2 0 0), (184, .int .i64 ((k + 1 : Nat) : Int))],
            [some ⟨1, 32, fun _ _ => .int .u8 0⟩, some ⟨1, 8, u32G h⟩, some ⟨1, 32, bytesG (fun i => if i < k + 1 then sumB n f i else 0)⟩], [some 0, some 1, some 2], by omega, ⟨k + 1, rfl, rfl, by omega⟩, ?_⟩
          refine .mk0 ⟨.ptr _ _ _ _ rfl, .ptr _ _ _ _ rfl, .ptr _ _ _ _ rfl, Flat.i e5, trivial⟩ ⟨.old 0 0 _ _ rfl rfl ⟨rfl, Nat.le_refl _, fun i j hi hj => .eq _ _ rfl (.int _ _)⟩, .old 1 1 _ _ rfl rfl ⟨rfl, Nat.le_refl _, fun i j hi hj => .eq _ _ rfl (.int _ _)⟩, .old 2 2 _ _ rfl rfl ⟨rfl, Nat.le_refl _, fun i j hi hj => ?_⟩, trivial⟩ rfl rfl
          exact updO hj (hS k hc) e6 rfl
        · have hc : k = 32 := by simp at hc; omega
          subst hc
          conv => whnf
          exact outSum rfl

theorem S_Sum {m : Mem} {x : AV} {n : Nat} {f : Nat → Int} {K : AV → Mem → Prop} (hx : Shows m x n f) (hn : n ≤ 1000000) (hf : ∀ i, i < n → 0 ≤ f i ∧ f i ≤ 255) (h : K (.agg (sumL n f)) m) : ACall Pg F_sha_Sum [x] m K := by
  obtain ⟨cap, hl⟩ := hx
  refine lift_flat (S_Sum0 n cap f hn hf) (.cons _ _ _ _ hl .nil) ?_
  rintro v rfl
  exact h

end Go.Proofs.Ytdeholmpcbakbaa
end

section
/- Rows of 32 bytes; no condition. -/
set_option linter.unusedVariables false
set_option linter.unusedSimpArgs false
set_option maxRecDepth 100000
set_option pp.maxSteps 300
namespace Go.Proofs.Ytdeholmpcbakbaa
open Go Go.Wit

def rowL (s : Nat → Int) : List AV := (List.range 32).map fun i => .int .u8 (s i)
theorem flats_map {nv : Bool} {k : IntKind} {s : Nat → Int} : ∀ (l : List Nat), Flats nv (l.map fun i => AV.int k (s i))
  | [] => .nil
  | a :: l => .cons _ _ (.int _ _) (flats_map l)
theorem flat_rowL {s : Nat → Int} : Flats true (rowL s) := flats_map _
theorem flat_rowA {nv : Bool} {s : Nat → Int} : Flat nv (.agg (rowL s)) := .agg _ (flats_map _)
theorem rowL_get {s : Nat → Int} {i : Nat} (h : i < 32) : (rowL s).getD i .un = .int .u8 (s i) := by
  unfold rowL
  rw [List.getD_eq_getElem?_getD, List.getElem?_map, List.getElem?_range h]
  rfl
theorem rowL_congr {s t : Nat → Int} (h : ∀ i, i < 32 → s i = t i) : rowL s = rowL t := List.map_congr_left fun i hi => by rw [h i (List.mem_range.mp hi)]
end Go.Proofs.Ytdeholmpcbakbaa
end

section
/- Sums as rows; no condition. -/
set_option linter.unusedVariables false
set_option linter.unusedSimpArgs false
set_option maxRecDepth 100000
set_option pp.maxSteps 300
namespace Go.Proofs.Ytdeholmpcbakbaa
open Go Go.Wit

theorem sumB_lt (n : Nat) (f : Nat → Int) (i : Nat) : 0 ≤ sumB n f i ∧ sumB n f i ≤ 255 := by
  unfold sumB
  rw [IntKind.wrap_u8]; omega

theorem S_SumR {m : Mem} {x : AV} {n : Nat} {f : Nat → Int} {K : AV → Mem → Prop} (hx : Shows m x n f) (hn : n ≤ 1000000) (hf : ∀ i, i < n → 0 ≤ f i ∧ f i ≤ 255) (h : ∀ s, s = sumB n f → (∀ i, 0 ≤ s i ∧ s i ≤ 255) → K (.agg (rowL s)) m) : ACall Pg F_sha_Sum [x] m K :=
  S_Sum hx hn hf (h _ rfl (sumB_lt n f))

theorem sumBlk {nv : Bool} {σ : Nat → Option Nat} {s : Nat → Int} {g : Nat → Nat → AV} {i j : Nat} {A : AV} (hi : i < 32) (hj : j < 1) (hA : A = updG ⟨1, 32, g⟩ 0 0 32 ((List.range 32).map fun i => .int .u8 (s i)) i j) : RV nv σ A (bytesG s i j) := by
  subst hA
  obtain rfl : j = 0 := by omega
  have : updG ⟨1, 32, g⟩ 0 0 32 ((List.range 32).map fun i => .int .u8 (s i)) i 0 = bytesG s i 0 := by
    rw [updG_all (by omega) hi, List.getD_eq_getElem?_getD, List.getElem?_map, List.getElem?_range hi]
    rfl
  rw [this]; exact .eq _ _ rfl (.int _ _)

theorem updB {nv : Bool} {σ : Nat → Option Nat} {a z : Nat → Int} {k i j N : Nat} {x : Int} {A : AV} (hj : j < 1) (hx : x = a k) (hA : A = updG ⟨1, N, bytesG (fun i => if i < k then a i else z i)⟩ k 0 1 [.int .u8 x] i j) :
    RV nv σ A (bytesG (fun i => if i < k + 1 then a i else z i) i j) := by
  subst hA hx
  obtain rfl : j = 0 := by omega
  have : updG ⟨1, N, bytesG (fun i => if i < k then a i else z i)⟩ k 0 1 [.int .u8 (a k)] i 0 = bytesG (fun i => if i < k + 1 then a i else z i) i 0 := by
    rw [updG_one]
    by_cases he : i = k
    · subst he
      rw [if_pos rfl]
      simp only [bytesG, Nat.lt_succ_self, if_true]
    · rw [if_neg he]
      simp only [bytesG]
      by_cases hl : i < k
      · rw [if_pos hl, if_pos (by omega)]
      · rw [if_neg hl, if_neg (by omega)]
  rw [this]; exact .eq _ _ rfl (.int _ _)

theorem zeroB {nv : Bool} {σ : Nat → Option Nat} {a z : Nat → Int} {i j : Nat} {A : AV} (hA : A = .int .u8 (z i)) : RV nv σ A (bytesG (fun i => if i < 0 then a i else z i) i j) := by
  subst hA
  exact .eq _ _ (by simp only [bytesG]; rw [if_neg (Nat.not_lt_zero _)]) (.int _ _)

end Go.Proofs.Ytdeholmpcbakbaa
end

section
/- Lemmas for keyed sums; no condition. -/
set_option linter.unusedVariables false
set_option linter.unusedSimpArgs false
set_option maxRecDepth 100000
set_option pp.maxSteps 300
namespace Go.Proofs.Ytdeholmpcbakbaa
open Go Go.Wit

def xorB (a b : Int) : Int := bitsV .xor .u8 a b
def keyN (n : Nat) : Nat := if 64 < n then 32 else n
def keyG (n : Nat) (f : Nat → Int) (i : Nat) : Int := if 64 < n then sumB n f i else f i
def keyP (n : Nat) (f : Nat → Int) (i : Nat) : Int := if i < keyN n then keyG n f i else 0
def inF (P g : Nat → Int) (i : Nat) : Int := if i < 64 then xorB (P i) 54 else g (i - 64)
def outF (P s : Nat → Int) (i : Nat) : Int := if i < 64 then xorB (P i) 92 else s (i - 64)
def macB (n : Nat) (f : Nat → Int) (k : Nat) (g : Nat → Int) : Nat → Int := sumB 96 (outF (keyP n f) (sumB (64 + k) (inF (keyP n f) g)))

theorem xorB_lt (a b : Int) : 0 ≤ xorB a b ∧ xorB a b ≤ 255 := by
  show 0 ≤ IntKind.u8.wrap _ ∧ IntKind.u8.wrap _ ≤ 255
  rw [IntKind.wrap_u8]; omega

theorem blt_t {a b : Nat} (h : a < b) : Nat.blt a b = true := by rw [Nat.blt_eq]; exact h
theorem blt_f {a b : Nat} (h : ¬ a < b) : Nat.blt a b = false := by
  cases hb : Nat.blt a b with
  | false => rfl
  | true => rw [Nat.blt_eq] at hb; omega

theorem pickN {n i : Nat} {x y : AV} (hn : n ≤ 64) : pickA (Nat.ble 0 i && Nat.blt i (0 + minN n 64)) x y = if i < n then x else y := by
  have e : minN n 64 = n := by rw [minN_eq]; omega
  have e0 : Nat.ble 0 i = true := by simp
  rw [e, pickA_eq, e0]
  by_cases hi : i < n
  · rw [Nat.zero_add, blt_t hi, if_pos hi]; rfl
  · rw [Nat.zero_add, blt_f hi, if_neg hi]; rfl

theorem keyW1 {nv : Bool} {σ : Nat → Option Nat} {P f a : Nat → Int} {n i j : Nat} {A : AV} (hj : j < 1) (hn : n ≤ 64) (hP : P i = if i < n then f i else 0) (hA : A = pickA (Nat.ble 0 i && Nat.blt i (0 + minN n 64)) (bytesG f (i - 0) 0) (.int .u8 0)) : RV nv σ A (bytesG (fun i => if i < 0 then a i else P i) i j) := by
  have : A = .int .u8 (P i) := by
    rw [hA, pickN hn, hP]
    by_cases hi : i < n
    · rw [if_pos hi, if_pos hi]; rfl
    · rw [if_neg hi, if_neg hi]
  subst this
  exact zeroB (j := j) (a := a) (z := P) rfl

theorem keyW2 {nv : Bool} {σ : Nat → Option Nat} {P s a : Nat → Int} {g : Nat → Nat → AV} {i j : Nat} {A : AV} (hj : j < 1) (hP : P i = if i < 32 then s i else 0) (hA : A = pickA (Nat.ble 0 i && Nat.blt i (0 + minN 32 64)) (updG ⟨1, 32, g⟩ 0 0 32 ((List.range 32).map fun i => .int .u8 (s i)) (0 + (i - 0)) 0) (.int .u8 0)) : RV nv σ A (bytesG (fun i => if i < 0 then a i else P i) i j) := by
  have : A = .int .u8 (P i) := by
    rw [hA, pickN (by omega), hP]
    by_cases hi : i < 32
    · rw [if_pos hi, if_pos hi, show 0 + (i - 0) = i by omega, updG_all (by omega) hi, List.getD_eq_getElem?_getD, List.getElem?_map, List.getElem?_range hi]
      rfl
    · rw [if_neg hi, if_neg hi]
  subst this
  exact zeroB (j := j) (a := a) (z := P) rfl

theorem catP {a r s : Nat → Int} {x : Nat → Int} {h : Nat → Nat → AV} {k i : Nat} (h1 : ∀ i, i < 64 → x i = a i) (h2 : ∀ i, i < k → x (64 + i) = s i) (hh : ∀ i, i < k → h i 0 = .int .u8 (s i)) (hi : i < 64 + k) : catG 64 (bytesG (fun i => if i < 64 then a i else r i)) h (0 + i) 0 = .int .u8 (x i) := by
  rw [Nat.zero_add]
  by_cases hl : i < 64
  · rw [catG_lt hl, h1 i hl]; simp only [bytesG, if_pos hl]
  · rw [catG_ge (by omega), hh _ (by omega), ← h2 _ (by omega), show 64 + (i - 64) = i by omega]

theorem rowAt {s : Nat → Int} {g : Nat → Nat → AV} {i : Nat} {A : AV} (hi : i < 32) (hA : A = updG ⟨1, 32, g⟩ 0 0 32 ((List.range 32).map fun i => .int .u8 (s i)) (0 + 0 + i) 0) : A = .int .u8 (s i) := by
  subst hA
  rw [show 0 + 0 + i = i by omega, updG_all (by omega) hi, List.getD_eq_getElem?_getD, List.getElem?_map, List.getElem?_range hi]
  rfl

theorem outRow2 {s : Nat → Int} {g : Nat → Nat → AV} {l : List AV} (hl : l = List.map (cellG ⟨1, 32, updG ⟨1, 32, g⟩ 0 0 32 ((List.range 32).map fun i => .int .u8 (s i))⟩ 0 0) (List.range 32)) : AV.agg l = .agg (rowL s) ∧ Flat true (.agg l) := by
  have e : l = rowL s := by
    subst hl
    refine List.map_congr_left fun i hi => ?_
    have hi : i < 32 := List.mem_range.mp hi
    rw [cellG_one, Nat.zero_add, updG_all (by omega) hi, List.getD_eq_getElem?_getD, List.getElem?_map, List.getElem?_range hi]
    rfl
  subst e
  exact ⟨rfl, .agg _ flat_rowL⟩

end Go.Proofs.Ytdeholmpcbakbaa
end

section
/- The reference sum; no condition. -/
set_option linter.unusedVariables false
set_option linter.unusedSimpArgs false
set_option maxRecDepth 100000
set_option pp.maxSteps 300
namespace Go.Proofs.Ytdeholmpcbakbaa
open Go Go.Wit

theorem kRows : kList.map (AV.int .u32) = (List.range 64).map fun i => .int .u32 (kTab i) := rfl

theorem S_k256R {m : Mem} {K : AV → Mem → Prop} (hK : K (.agg ((List.range 64).map fun i => .int .u32 (kTab i))) m) : ACall Pg F_witanref04_k256 [] m K :=
  S_k256 (kRows ▸ hK)

theorem kRow {nv : Bool} {σ : Nat → Option Nat} {t : Nat → Int} {g : Nat → Nat → AV} {i j : Nat} {A : AV} (hi : i < 64) (hj : j < 1) (hA : A = updG ⟨1, 64, g⟩ 0 0 64 ((List.range 64).map fun i => .int .u32 (t i)) i j) : RV nv σ A (u32G t i j) := by
  subst hA
  obtain rfl : j = 0 := by omega
  have : updG ⟨1, 64, g⟩ 0 0 64 ((List.range 64).map fun i => .int .u32 (t i)) i 0 = u32G t i 0 := by
    rw [updG_all (by omega) hi, List.getD_eq_getElem?_getD, List.getElem?_map, List.getElem?_range hi]
    rfl
  rw [this]; exact .eq _ _ rfl (.int _ _)

theorem Wn_ge (b : Nat → Int) : ∀ k i, k ≤ i → Wn b k i = 0
  | 0, _, _ => rfl
  | k + 1, i, h => by
    rw [show Wn b (k + 1) i = Wn b k i from if_neg (by omega)]
    exact Wn_ge b k i (by omega)

/-- A row that a call has made lies in the caller's next block, with room for all of it. -/
theorem lift_rowC {P : Program} {fn : FuncId} {args args0 : List AV} {m : Mem} {K : AV → Mem → Prop} {es n : Nat} {G : Nat → Nat → AV} (h : ACall P fn args0 [] (fun v m' => ∃ l cap N g, v = .sl l 0 n cap ∧ n ≤ cap ∧ m'[l]? = some (some ⟨es, N, g⟩) ∧ n ≤ N ∧ ∀ i j, i < n → j < es → g i j = G i j ∧ Flat true (G i j)))
    (ha : Lends (fun _ => none) (List.range m.length) m args args0) (hK : ∀ cap, n ≤ cap → memK (m ++ [some ⟨es, n, G⟩]) (K (.sl m.length 0 n cap))) : ACall P fn args m K := by
  simp only [memK_eq] at hK
  refine h.frame0 true (List.range m.length) (fun h => by cases h) ha (fun v m' hv => ?_)
  obtain ⟨l, cap, N, g, rfl, hc, h1, h2, h3⟩ := hv
  refine ⟨.sl m.length 0 n cap, [some ⟨es, n, G⟩], [some l], Nat.le_refl _, fun i j q hi hj => ?_, .sl _ _ _ _ _ (by simp [shiftT]), ⟨.old _ l _ _ (by simp [shiftT]) h1 ⟨rfl, h2, fun i j hi hj => ?_⟩, trivial⟩, hK cap hc⟩
  · cases i <;> cases j <;> simp at hi hj; rfl
  · obtain ⟨g1, g2⟩ := h3 i j hi hj
    exact .eq _ _ g1 (show Flat true (g i j) from g1 ▸ g2)

theorem S_refPaddedC0 (n cap : Nat) (f : Nat → Int) (hn : n ≤ 1000000) : ACall Pg F_witanref04_padded [.vsl 1 n cap (bytesG f)] [] (fun v m' => ∃ l cap N g, v = .sl l 0 (padN n) cap ∧ padN n ≤ cap ∧ m'[l]? = some (some ⟨1, N, g⟩) ∧ padN n ≤ N ∧ ∀ i j, i < padN n → j < 1 → g i j = bytesG (padF n f) i j ∧ Flat true (bytesG (padF n f) i j)) := by
  obtain ⟨p1, p2, p3⟩ := padN_ge n
  refine B_witanref04_padded ⟨rfl, ?_⟩
  conv => whnf
  refine condB_ok (app_ok rfl rfl rfl (by omega) (by omega)) (fun cap1 hcap1 => ?_)
  conv => whnf
  refine condB_ok (app_ok (by simp) rfl rfl (by omega) (by omega)) (fun cap2 hcap2 => ?_)
  conv => whnf
  simp only [Nat.zero_add]
  refine loop_wk mixed (I := fun q l m => ∃ (N c : Nat) (g : Nat → Int), l = [(0, .vsl 1 n cap (bytesG f)), (3, .sl 0 0 N c)] ∧ m = [some ⟨1, N, bytesG g⟩] ∧ q + N = padN n - 8 ∧ n + 1 ≤ N ∧ N ≤ c ∧ ∀ j, j < N → g j = padF n f j) (padN n - 8 - (n + 1))
    (l0 := [(0, .vsl 1 n cap (bytesG f)), (3, .sl 0 0 (n + 1) cap2)]) (m0 := [some ⟨1, n + 1, bytesG (padF n f)⟩]) [some 2] ⟨n + 1, cap2, _, rfl, rfl, by omega, by omega, by omega, fun j hj => rfl⟩ ?_ ?_
  · refine .mk0 ⟨.eq _ _ rfl (.vsl _ _ _ _ rfl (fun _ _ _ _ => .int _ _)), .sl _ _ _ _ _ rfl, trivial⟩ ⟨.old 0 2 _ _ rfl rfl ⟨rfl, Nat.le_refl _, fun i j hi hj => ?_⟩, trivial⟩ rfl rfl
    have hj : j < 1 := hj
    have hi : i < n + 1 := hi
    refine .eq _ _ ?_ ?_ <;> (obtain rfl : j = 0 := by omega) <;> dsimp only
    · by_cases h : i < n
      · rw [catG_lt h]
        have : catG 0 (fun _ _ => AV.un) (bytesG f) i 0 = bytesG f i 0 := by rw [catG_ge (by omega)]; rfl
        refine Eq.trans this ?_
        simp only [bytesG, padF, if_pos h]
      · obtain rfl : i = n := by omega
        rw [catG_ge (by omega)]
        simp only [bytesG, padF, if_neg h, if_pos trivial, Nat.sub_self]
        rfl
    · by_cases h : i < n
      · rw [catG_lt h]
        have : catG 0 (fun _ _ => AV.un) (bytesG f) i 0 = bytesG f i 0 := by rw [catG_ge (by omega)]; rfl
        exact (show Flat false (catG 0 (fun _ _ => AV.un) (bytesG f) i 0) from this ▸ .int _ _)
      · obtain rfl : i = n := by omega
        rw [catG_ge (by omega), Nat.sub_self]
        exact .int _ _
  · rintro q l m ⟨N, c, g, rfl, rfl, hq, hN, hNc, hg⟩
    conv => whnf
    rw [show (IntKind.i64.wrap ((N : Int) + 8)).tmod 64 = (((N + 8) % 64 : Nat) : Int) by
      rw [w64 (by omega) (by omega)]; exact tmod_nat (N + 8) 64]
    refine condB_mk (fun hb => ?_) (fun hb => ?_)
    · have hb : N < padN n - 8 := by
        simp at hb
        rcases Nat.lt_or_ge N (padN n - 8) with h | h
        · exact h
        · have : N = padN n - 8 := by omega
          omega
      conv => whnf
      refine condB_ok (app_ok (by simp) rfl rfl (by omega) (by omega)) (fun cap' hcap => ?_)
      conv => whnf
      refine ⟨q - 1, [(0, .vsl 1 n cap (bytesG f)), (3, .sl 0 0 (N + 1) cap')], [some ⟨1, N + 1, bytesG (fun j => if j < N then g j else 0)⟩], [some 2], by omega, ⟨N + 1, cap', _, rfl, rfl, by omega, by omega, by omega, fun j hj => ?_⟩, ?_⟩
      · by_cases h : j < N
        · simp only [if_pos h]; exact hg j h
        · simp only [if_neg h]
          rw [padF, if_neg (by omega), if_neg (by omega), if_pos (by omega)]
      · refine .mk0 ⟨.eq _ _ rfl (.vsl _ _ _ _ rfl (fun _ _ _ _ => .int _ _)), .sl _ _ _ _ _ rfl, trivial⟩ ⟨.old 0 2 _ _ rfl rfl ⟨rfl, Nat.le_refl _, fun i j hi hj => ?_⟩, trivial⟩ rfl rfl
        dsimp only
        refine catW (N := N) (k := 1) (g := g) (g' := fun j => if j < N then g j else 0) rfl rfl (fun i hi => if_pos hi) (fun i hi => ?_) hi hj
        obtain rfl : i = 0 := by omega
        simp only [Nat.add_zero, if_neg (Nat.lt_irrefl N)]; rfl
    · have hb : N = padN n - 8 := by
        simp at hb
        omega
      conv => whnf
      rw [show IntKind.u64.wrap (IntKind.u64.wrap (n : Int) * 8) = ((8 * n : Nat) : Int) by
        rw [wu64, wu64]; omega]
      refine loop_wk mixed (I := fun q l m => ∃ (k : Int) (N c : Nat) (g : Nat → Int), l = [(0, .vsl 1 n cap (bytesG f)), (3, .sl 0 0 N c), (4, .int .u64 ((8 * n : Nat) : Int)), (5, .int .i64 k)] ∧ m = [some ⟨1, N, bytesG g⟩] ∧ (q : Int) = k + 1 ∧ -1 ≤ k ∧ k ≤ 7 ∧ (N : Int) = padN n - 1 - k ∧ N ≤ c ∧ ∀ j, j < N → g j = padF n f j) 8
        (l0 := [(0, .vsl 1 n cap (bytesG f)), (3, .sl 0 0 N c), (4, .int .u64 ((8 * n : Nat) : Int)), (5, .int .i64 7)]) (m0 := [some ⟨1, N, bytesG g⟩]) [some 0] ⟨7, N, c, g, rfl, rfl, by omega, by omega, by omega, by omega, hNc, hg⟩ ?_ ?_
      · refine .mk0 ⟨.eq _ _ rfl (.vsl _ _ _ _ rfl (fun _ _ _ _ => .int _ _)), .sl _ _ _ _ _ rfl, Flat.i rfl, Flat.i rfl, trivial⟩ ⟨.old 0 0 _ _ rfl rfl ⟨rfl, Nat.le_refl _, fun i j hi hj => .eq _ _ rfl (.int _ _)⟩, trivial⟩ rfl rfl
      · clear hb hq hN hNc hg
        rintro q l m ⟨k, N, c, g, rfl, rfl, hq, hk1, hk2, hN, hNc, hg⟩
        conv => whnf
        refine condB_mk (fun hb => ?_) (fun hb => ?_)
        · have hb : 0 ≤ k := by simpa using hb
          conv => whnf
          rw [show IntKind.u64.wrap (8 * IntKind.u64.wrap k) = 8 * k by rw [wu64, wu64]; omega]
          refine condB_ok (decide_eq_true (by omega)) ?_
          conv => whnf
          refine condB_ok (app_ok (by simp) rfl rfl (by omega) (by omega)) (fun cap' hcap => ?_)
          conv => whnf
          rw [w64 (n := k - 1) (by omega) (by omega)]
          refine ⟨q - 1, [(0, .vsl 1 n cap (bytesG f)), (3, .sl 0 0 (N + 1) cap'), (4, .int .u64 ((8 * n : Nat) : Int)), (5, .int .i64 (k - 1))], [some ⟨1, N + 1, bytesG (padF n f)⟩], [some 2], by omega, ⟨k - 1, N + 1, cap', _, rfl, rfl, by omega, by omega, by omega, by omega, by omega, fun j hj => rfl⟩, ?_⟩
          refine .mk0 ⟨.eq _ _ rfl (.vsl _ _ _ _ rfl (fun _ _ _ _ => .int _ _)), .sl _ _ _ _ _ rfl, Flat.i rfl, Flat.i rfl, trivial⟩ ⟨.old 0 2 _ _ rfl rfl ⟨rfl, Nat.le_refl _, fun i j hi hj => ?_⟩, trivial⟩ rfl rfl
          dsimp only
          refine catW (N := N) (k := 1) (g := g) (g' := padF n f) rfl rfl (fun i hi => (hg i hi).symm) (fun i hi => ?_) hi hj
          obtain rfl : i = 0 := by omega
          have e : IntKind.u8.wrap (((8 * n : Nat) : Int).fdiv (2 ^ min (8 * k).toNat IntKind.u64.bits)) = padF n f (N + 0) := by
            rw [IntKind.wrap_u8, Int.fdiv_eq_ediv_of_nonneg _ (Int.pow_nonneg (by omega)), padF, if_neg (by omega), if_neg (by omega), if_neg (by omega)]
            rw [show min (8 * k).toNat IntKind.u64.bits = 8 * (padN n - 1 - (N + 0)) by simp only [IntKind.bits]; omega]
          rw [← e]; rfl
        · have hb : k = -1 := by simp at hb; omega
          conv => whnf
          obtain rfl : N = padN n := by omega
          exact ⟨0, c, padN n, _, rfl, hNc, rfl, Nat.le_refl _, fun i j hi hj => ⟨by simp only [bytesG, hg i hi], .int _ _⟩⟩

theorem S_refPaddedC {m : Mem} {x : AV} {n : Nat} {f : Nat → Int} {K : AV → Mem → Prop} (hx : Shows m x n f) (hn : n ≤ 1000000) (hK : ∀ c, padN n ≤ c + 1 → memK (m ++ [some ⟨1, padN n, bytesG (padF n f)⟩]) (K (.sl m.length 0 (padN n) (c + 1)))) : ACall Pg F_witanref04_padded [x] m K := by
  obtain ⟨cap, hl⟩ := hx
  obtain ⟨p1, p2, p3⟩ := padN_ge n
  refine lift_rowC (S_refPaddedC0 n cap f hn) (.cons _ _ _ _ hl .nil) (fun cap' hc => ?_)
  obtain ⟨c, rfl⟩ : ∃ c, cap' = c + 1 := ⟨cap' - 1, by omega⟩
  exact hK c hc

end Go.Proofs.Ytdeholmpcbakbaa
end

section
/- The reference sum; no condition. -/
set_option linter.unusedVariables false
set_option linter.unusedSimpArgs false
set_option maxRecDepth 100000
set_option pp.maxSteps 300
namespace Go.Proofs.Ytdeholmpcbakbaa
open Go Go.Wit

theorem updU {nv : Bool} {σ : Nat → Option Nat} {w w' : Nat → Int} {N k x y : Nat} {v : Int} {A : AV} (hy : y < 1) (hA : A = updG ⟨1, N, u32G w⟩ k 0 1 [.int .u32 v] x y) (h1 : v = w' k) (h2 : ∀ i, i ≠ k → w' i = w i) : RV nv σ A (u32G w' x y) := by
  subst hA
  obtain rfl : y = 0 := by omega
  have : updG ⟨1, N, u32G w⟩ k 0 1 [.int .u32 v] x 0 = u32G w' x 0 := by
    rw [updG_one]
    by_cases h : x = k
    · rw [if_pos h, h, h1]; rfl
    · rw [if_neg h]; simp only [u32G, h2 x h]
  rw [this]; exact .eq _ _ rfl (.int _ _)

theorem addSwap (a c s t : Int) : addU (addU (addU a c) s) t = addU (addU (addU a s) c) t := by
  simp only [addU, wu32]
  omega

theorem or_byte32 {a b : Int} (ha : 0 ≤ a ∧ a < 16777216) (hb : 0 ≤ b ∧ b ≤ 255) : bitsV .or .u32 (a * 256) b = a * 256 + b := by
  obtain ⟨A, rfl⟩ : ∃ A : Nat, a = A := ⟨a.toNat, by omega⟩
  obtain ⟨B, rfl⟩ : ∃ B : Nat, b = B := ⟨b.toNat, by omega⟩
  have h1 : BitVec.ofInt 32 ((A : Int) * 256) = BitVec.ofNat 32 (256 * A) := by
    rw [show ((A : Int) * 256) = ((256 * A : Nat) : Int) by omega, BitVec.ofInt_natCast]
  have h2 : BitVec.ofInt 32 (B : Int) = BitVec.ofNat 32 B := BitVec.ofInt_natCast _ _
  show IntKind.u32.wrap ((BitVec.ofInt 32 ((A : Int) * 256) ||| BitVec.ofInt 32 (B : Int)).toNat) = _
  rw [h1, h2, BitVec.toNat_or, BitVec.toNat_ofNat, BitVec.toNat_ofNat, Nat.mod_eq_of_lt (by omega), Nat.mod_eq_of_lt (by omega)]
  have h3 := Nat.two_pow_add_eq_or_of_lt (i := 8) (b := B) (by omega) A
  rw [show (256 : Nat) = 2 ^ 8 from rfl, ← h3, wu32]
  omega

theorem gatherV {B : Nat → Int} {p i : Nat} (hB : ∀ i, 0 ≤ B i ∧ B i ≤ 255) (hi : i < 4) : bitsV .or .u32 (IntKind.u32.wrap (getV B p i * 2 ^ 8)) (IntKind.u32.wrap (B (p + i))) = getV B p (i + 1) := by
  obtain ⟨g1, g2⟩ := getV_lt (f := B) (p := p) (k := i) (fun i _ => hB _)
  have g3 : (256 : Int) ^ i ≤ 256 ^ 3 := by
    have : 256 ^ i ≤ 256 ^ 3 := Nat.pow_le_pow_right (by omega) (by omega)
    exact_mod_cast this
  have g4 := hB (p + i)
  rw [show IntKind.u32.wrap (B (p + i)) = B (p + i) by rw [wu32]; omega, show IntKind.u32.wrap (getV B p i * 2 ^ 8) = getV B p i * 256 by rw [wu32]; omega, or_byte32 (by omega) g4, getV]

set_option maxHeartbeats 4000000 in
theorem S_Sum2560 (n cap : Nat) (f : Nat → Int) (hn : n ≤ 1000000) (hf : ∀ i, i < n → 0 ≤ f i ∧ f i ≤ 255) : ACall Pg F_witanref04_Sum256 [.vsl 1 n cap (bytesG f)] [] (fun v _ => v = .agg (sumL n f) ∧ Flat true v) := by
  obtain ⟨p1, p2, p3⟩ := padN_ge n
  refine B_witanref04_Sum256 ⟨rfl, ?_⟩
  conv => whnf
  refine S_k256R ?_
  generalize hkt : kTab = kt
  conv => whnf
  refine S_refPaddedC (f := f) Shows.vsl hn (fun capp hcapp => ?_)
  conv => whnf
  have hb := padF_lt hf
  generalize hB : padF n f = b at *
  refine loop_wk mixed (I := fun q l m => ∃ (j : Nat), l = [(2, .ptr 0 0 0), (3, .ptr 1 0 0), (4, .ptr 2 0 0), (5, .sl 3 0 (padN n) (capp + 1)), (6, .int .i64 ((64 * j : Nat) : Int))] ∧ m = [some ⟨1, 32, fun _ _ => .int .u8 0⟩, some ⟨1, 64, u32G kt⟩, some ⟨1, 8, u32G (Hn b j)⟩, some ⟨1, padN n, bytesG b⟩] ∧ q + j = padN n / 64) (padN n / 64)
    (l0 := [(2, .ptr 0 0 0), (3, .ptr 1 0 0), (4, .ptr 2 0 0), (5, .sl 3 0 (padN n) (capp + 1)), (6, .int .i64 ((64 * 0 : Nat) : Int))]) (m0 := [some ⟨1, 32, fun _ _ => .int .u8 0⟩, some ⟨1, 64, u32G kt⟩, some ⟨1, 8, u32G hTab⟩, some ⟨1, padN n, bytesG b⟩]) [some 0, some 1, some 2, some 3] ⟨0, rfl, rfl, by omega⟩ ?_ ?_
  · refine .mk0 ⟨.ptr _ _ _ _ rfl, .ptr _ _ _ _ rfl, .ptr _ _ _ _ rfl, .sl _ _ _ _ _ rfl, Flat.i rfl, trivial⟩ ⟨.old 0 0 _ _ rfl rfl ⟨rfl, Nat.le_refl _, fun i j hi hj => oneU0 hj rfl⟩, .old 1 1 _ _ rfl rfl ⟨rfl, Nat.le_refl _, fun i j hi hj => kRow hi hj rfl⟩,
      .old 2 2 _ _ rfl rfl ⟨rfl, Nat.le_refl _, fun i j hi hj => ?_⟩, .old 3 3 _ _ rfl rfl ⟨rfl, Nat.le_refl _, fun i j hi hj => .eq _ _ rfl (.int _ _)⟩, trivial⟩ rfl rfl
    exact eight hi hj rfl rfl rfl rfl rfl rfl rfl rfl
  · rintro q l m ⟨j, rfl, rfl, hq⟩
    conv => whnf
    refine condB_mk (fun hc => ?_) (fun hc => ?_)
    · have hc : 64 * j < padN n := by simp at hc; omega
      conv => whnf
      have hj : j < padN n / 64 := by omega
      generalize hH : Hn b j = h
      refine loop_wk mixed (I := fun q' l m => ∃ (k : Nat), l = [(2, .ptr 0 0 0), (3, .ptr 1 0 0), (4, .ptr 2 0 0), (5, .sl 3 0 (padN n) (capp + 1)), (6, .int .i64 ((64 * j : Nat) : Int)), (7, .ptr 4 0 0), (8, .int .i64 k)] ∧
          m = [some ⟨1, 32, fun _ _ => .int .u8 0⟩, some ⟨1, 64, u32G kt⟩, some ⟨1, 8, u32G h⟩, some ⟨1, padN n, bytesG b⟩, some ⟨1, 64, u32G (Wn (blkB b j) k)⟩] ∧ q' + k = 64) 64
        (l0 := [(2, .ptr 0 0 0), (3, .ptr 1 0 0), (4, .ptr 2 0 0), (5, .sl 3 0 (padN n) (capp + 1)), (6, .int .i64 ((64 * j : Nat) : Int)), (7, .ptr 4 0 0), (8, .int .i64 (0 : Nat))])
        (m0 := [some ⟨1, 32, fun _ _ => .int .u8 0⟩, some ⟨1, 64, u32G kt⟩, some ⟨1, 8, u32G h⟩, some ⟨1, padN n, bytesG b⟩, some ⟨1, 64, u32G (Wn (blkB b j) 0)⟩]) [some 0, some 1, some 2, some 3, some 4] ⟨0, rfl, rfl, rfl⟩ ?_ ?_
      · refine .mk0 ⟨.ptr _ _ _ _ rfl, .ptr _ _ _ _ rfl, .ptr _ _ _ _ rfl, .sl _ _ _ _ _ rfl, Flat.i rfl, .ptr _ _ _ _ rfl, Flat.i rfl, trivial⟩ ⟨.old 0 0 _ _ rfl rfl ⟨rfl, Nat.le_refl _, fun i j hi hj => .eq _ _ rfl (.int _ _)⟩, .old 1 1 _ _ rfl rfl ⟨rfl, Nat.le_refl _, fun i j hi hj => .eq _ _ rfl (.int _ _)⟩, .old 2 2 _ _ rfl rfl ⟨rfl, Nat.le_refl _, fun i j hi hj => .eq _ _ rfl (.int _ _)⟩, .old 3 3 _ _ rfl rfl ⟨rfl, Nat.le_refl _, fun i j hi hj => .eq _ _ rfl (.int _ _)⟩, .old 4 4 _ _ rfl rfl ⟨rfl, Nat.le_refl _, fun i j hi hj => ?_⟩, trivial⟩ rfl rfl
        have hj : j < 1 := hj
        obtain rfl : j = 0 := by omega
        exact .eq _ _ rfl (.int _ _)
      · rintro q' l m ⟨k, rfl, rfl, hk⟩
        conv => whnf
        refine condB_mk (fun hc => ?_) (fun hc => ?_)
        · have hc : k < 64 := by simp at hc; omega
          conv => whnf
          refine condB_mk (fun hd => ?_) (fun hd => ?_)
          · have hd : k < 16 := by simp at hd; omega
            conv => whnf
            refine loop_wk mixed (I := fun q2 l m => ∃ (i : Nat), l = [(2, .ptr 0 0 0), (3, .ptr 1 0 0), (4, .ptr 2 0 0), (5, .sl 3 0 (padN n) (capp + 1)), (6, .int .i64 ((64 * j : Nat) : Int)), (7, .ptr 4 0 0), (8, .int .i64 k), (9, .int .i64 i)] ∧
                m = [some ⟨1, 32, fun _ _ => .int .u8 0⟩, some ⟨1, 64, u32G kt⟩, some ⟨1, 8, u32G h⟩, some ⟨1, padN n, bytesG b⟩, some ⟨1, 64, u32G (fun x => if x = k then getV (blkB b j) (4 * k) i else Wn (blkB b j) k x)⟩] ∧ q2 + i = 4) 4
              (l0 := [(2, .ptr 0 0 0), (3, .ptr 1 0 0), (4, .ptr 2 0 0), (5, .sl 3 0 (padN n) (capp + 1)), (6, .int .i64 ((64 * j : Nat) : Int)), (7, .ptr 4 0 0), (8, .int .i64 k), (9, .int .i64 (0 : Nat))])
              (m0 := [some ⟨1, 32, fun _ _ => .int .u8 0⟩, some ⟨1, 64, u32G kt⟩, some ⟨1, 8, u32G h⟩, some ⟨1, padN n, bytesG b⟩, some ⟨1, 64, u32G (fun x => if x = k then getV (blkB b j) (4 * k) 0 else Wn (blkB b j) k x)⟩]) [some 0, some 1, some 2, some 3, some 4] ⟨0, rfl, rfl, rfl⟩ ?_ ?_
            · refine .mk0 ⟨.ptr _ _ _ _ rfl, .ptr _ _ _ _ rfl, .ptr _ _ _ _ rfl, .sl _ _ _ _ _ rfl, Flat.i rfl, .ptr _ _ _ _ rfl, Flat.i rfl, Flat.i rfl, trivial⟩ ⟨.old 0 0 _ _ rfl rfl ⟨rfl, Nat.le_refl _, fun i j hi hj => .eq _ _ rfl (.int _ _)⟩, .old 1 1 _ _ rfl rfl ⟨rfl, Nat.le_refl _, fun i j hi hj => .eq _ _ rfl (.int _ _)⟩, .old 2 2 _ _ rfl rfl ⟨rfl, Nat.le_refl _, fun i j hi hj => .eq _ _ rfl (.int _ _)⟩, .old 3 3 _ _ rfl rfl ⟨rfl, Nat.le_refl _, fun i j hi hj => .eq _ _ rfl (.int _ _)⟩, .old 4 4 _ _ rfl rfl ⟨rfl, Nat.le_refl _, fun x y hx hy => ?_⟩, trivial⟩ rfl rfl
              have e : Wn (blkB b j) k k = 0 := Wn_ge _ k k (Nat.le_refl _)
              refine .eq _ _ ?_ (.int _ _)
              simp only [u32G]
              by_cases hx : x = k
              · rw [if_pos hx, hx, e]; rfl
              · rw [if_neg hx]
            · rintro q2 l m ⟨i, rfl, rfl, hi⟩
              conv => whnf
              refine condB_mk (fun he => ?_) (fun he => ?_)
              · have he : i < 4 := by simp at he; omega
                conv => whnf
                have e1 : IntKind.i64.wrap (4 * (k : Int)) = ((4 * k : Nat) : Int) := by rw [w64 (by omega) (by omega)]; omega
                have e2 : IntKind.i64.wrap (((64 * j : Nat) : Int) + ((4 * k : Nat) : Int)) = ((64 * j + 4 * k : Nat) : Int) := by rw [w64 (by omega) (by omega)]; omega
                have e3 : IntKind.i64.wrap (((64 * j + 4 * k : Nat) : Int) + (i : Int)) = ((64 * j + 4 * k + i : Nat) : Int) := by rw [w64 (by omega) (by omega)]; omega
                refine condB_ok (by simp; omega) ?_
                conv => whnf
                simp only [Int.toNat_natCast, Nat.zero_add]
                refine condB_ok (by simp [roomG, Nat.ble_eq]; omega) ?_
                conv => whnf
                simp only [e1, e2, e3]
                refine condB_ok (by simp; omega) ?_
                conv => whnf
                simp only [Int.toNat_natCast, Nat.zero_add]
                refine condB_ok (by simp [roomG, Nat.ble_eq]; omega) ?_
                conv => whnf
                refine condB_ok (by simp; omega) ?_
                conv => whnf
                simp only [Int.toNat_natCast, Nat.zero_add]
                refine condB_ok (by simp [roomG, Nat.ble_eq]; omega) ?_
                conv => whnf
                have e5 : IntKind.i64.wrap ((i : Int) + 1) = ((i + 1 : Nat) : Int) := by rw [w64 (by omega) (by omega)]; omega
                refine ⟨q2 - 1, [(2, .ptr 0 0 0), (3, .ptr 1 0 0), (4, .ptr 2 0 0), (5, .sl 3 0 (padN n) (capp + 1)), (6, .int .i64 ((64 * j : Nat) : Int)), (7, .ptr 4 0 0), (8, .int .i64 k), (9, .int .i64 ((i + 1 : Nat) : Int))],
                  [some ⟨1, 32, fun _ _ => .int .u8 0⟩, some ⟨1, 64, u32G kt⟩, some ⟨1, 8, u32G h⟩, some ⟨1, padN n, bytesG b⟩, some ⟨1, 64, u32G (fun x => if x = k then getV (blkB b j) (4 * k) (i + 1) else Wn (blkB b j) k x)⟩], [some 0, some 1, some 2, some 3, some 4], by omega, ⟨i + 1, rfl, rfl, by omega⟩, ?_⟩
                refine .mk0 ⟨.ptr _ _ _ _ rfl, .ptr _ _ _ _ rfl, .ptr _ _ _ _ rfl, .sl _ _ _ _ _ rfl, Flat.i rfl, .ptr _ _ _ _ rfl, Flat.i rfl, Flat.i e5, trivial⟩ ⟨.old 0 0 _ _ rfl rfl ⟨rfl, Nat.le_refl _, fun i j hi hj => .eq _ _ rfl (.int _ _)⟩, .old 1 1 _ _ rfl rfl ⟨rfl, Nat.le_refl _, fun i j hi hj => .eq _ _ rfl (.int _ _)⟩, .old 2 2 _ _ rfl rfl ⟨rfl, Nat.le_refl _, fun i j hi hj => .eq _ _ rfl (.int _ _)⟩, .old 3 3 _ _ rfl rfl ⟨rfl, Nat.le_refl _, fun i j hi hj => .eq _ _ rfl (.int _ _)⟩, .old 4 4 _ _ rfl rfl ⟨rfl, Nat.le_refl _, fun x y hx hy => ?_⟩, trivial⟩ rfl rfl
                refine updU (w := fun x => if x = k then getV (blkB b j) (4 * k) i else Wn (blkB b j) k x) (w' := fun x => if x = k then getV (blkB b j) (4 * k) (i + 1) else Wn (blkB b j) k x) hy rfl ?_ (fun x hx => by simp only [if_neg hx])
                have := gatherV (B := blkB b j) (p := 4 * k) (i := i) (fun _ => hb _) he
                simp only [if_true]
                rw [← this]
                simp only [blkB, Nat.add_assoc]
                rfl
              · have he : i = 4 := by simp at he; omega
                subst he
                conv => whnf
                have e4 : IntKind.i64.wrap ((k : Int) + 1) = ((k + 1 : Nat) : Int) := by rw [w64 (by omega) (by omega)]; omega
                refine ⟨q' - 1, [(2, .ptr 0 0 0), (3, .ptr 1 0 0), (4, .ptr 2 0 0), (5, .sl 3 0 (padN n) (capp + 1)), (6, .int .i64 ((64 * j : Nat) : Int)), (7, .ptr 4 0 0), (8, .int .i64 ((k + 1 : Nat) : Int))],
                  [some ⟨1, 32, fun _ _ => .int .u8 0⟩, some ⟨1, 64, u32G kt⟩, some ⟨1, 8, u32G h⟩, some ⟨1, padN n, bytesG b⟩, some ⟨1, 64, u32G (Wn (blkB b j) (k + 1))⟩], [some 0, some 1, some 2, some 3, some 4], by omega, ⟨k + 1, rfl, rfl, by omega⟩, ?_⟩
                refine .mk0 ⟨.ptr _ _ _ _ rfl, .ptr _ _ _ _ rfl, .ptr _ _ _ _ rfl, .sl _ _ _ _ _ rfl, Flat.i rfl, .ptr _ _ _ _ rfl, Flat.i e4, trivial⟩ ⟨.old 0 0 _ _ rfl rfl ⟨rfl, Nat.le_refl _, fun i j hi hj => .eq _ _ rfl (.int _ _)⟩, .old 1 1 _ _ rfl rfl ⟨rfl, Nat.le_refl _, fun i j hi hj => .eq _ _ rfl (.int _ _)⟩, .old 2 2 _ _ rfl rfl ⟨rfl, Nat.le_refl _, fun i j hi hj => .eq _ _ rfl (.int _ _)⟩, .old 3 3 _ _ rfl rfl ⟨rfl, Nat.le_refl _, fun i j hi hj => .eq _ _ rfl (.int _ _)⟩, .old 4 4 _ _ rfl rfl ⟨rfl, Nat.le_refl _, fun x y hx hy => ?_⟩, trivial⟩ rfl rfl
                refine .eq _ _ ?_ (.int _ _)
                simp only [u32G]
                by_cases hx : x = k
                · rw [if_pos hx, show Wn (blkB b j) (k + 1) x = newW (blkB b j) k (Wn (blkB b j) k) from if_pos hx, newW, if_pos hd]
                · rw [if_neg hx, show Wn (blkB b j) (k + 1) x = Wn (blkB b j) k x from if_neg hx]
          · have hd : ¬ k < 16 := by simp at hd; omega
            conv => whnf
            have e1 : IntKind.i64.wrap ((k : Int) - 15) = ((k - 15 : Nat) : Int) := by rw [w64 (by omega) (by omega)]; omega
            have e2 : IntKind.i64.wrap ((k : Int) - 2) = ((k - 2 : Nat) : Int) := by rw [w64 (by omega) (by omega)]; omega
            have e3 : IntKind.i64.wrap ((k : Int) - 16) = ((k - 16 : Nat) : Int) := by rw [w64 (by omega) (by omega)]; omega
            have e4 : IntKind.i64.wrap ((k : Int) - 7) = ((k - 7 : Nat) : Int) := by rw [w64 (by omega) (by omega)]; omega
            simp only [e1]
            refine condB_ok (by simp; omega) ?_
            conv => whnf
            simp only [Int.toNat_natCast, Nat.zero_add]
            refine condB_ok (by simp [roomG, Nat.ble_eq]; omega) ?_
            conv => whnf
            simp only [e2]
            refine condB_ok (by simp; omega) ?_
            conv => whnf
            simp only [Int.toNat_natCast, Nat.zero_add]
            refine condB_ok (by simp [roomG, Nat.ble_eq]; omega) ?_
            conv => whnf
            simp only [e3]
            refine condB_ok (by simp; omega) ?_
            conv => whnf
            simp only [Int.toNat_natCast, Nat.zero_add]
            refine condB_ok (by simp [roomG, Nat.ble_eq]; omega) ?_
            conv => whnf
            simp only [e4]
            refine condB_ok (by simp; omega) ?_
            conv => whnf
            simp only [Int.toNat_natCast, Nat.zero_add]
            refine condB_ok (by simp [roomG, Nat.ble_eq]; omega) ?_
            conv => whnf
            refine S_rot32 _ _ ?_
            conv => whnf
            refine ⟨⟨[], rfl⟩, ?_⟩
            conv => whnf
            refine S_rot32 _ _ ?_
            conv => whnf
            refine ⟨⟨[], rfl⟩, ?_⟩
            conv => whnf
            refine S_rot32 _ _ ?_
            conv => whnf
            refine ⟨⟨[], rfl⟩, ?_⟩
            conv => whnf
            refine S_rot32 _ _ ?_
            conv => whnf
            refine ⟨⟨[], rfl⟩, ?_⟩
            conv => whnf
            refine condB_ok (by simp; omega) ?_
            conv => whnf
            simp only [Int.toNat_natCast, Nat.zero_add]
            refine condB_ok (by simp [roomG, Nat.ble_eq]; omega) ?_
            conv => whnf
            have e5 : IntKind.i64.wrap ((k : Int) + 1) = ((k + 1 : Nat) : Int) := by rw [w64 (by omega) (by omega)]; omega
            have eW : Wn (blkB b j) (k + 1) k = addU (addU (addU (Wn (blkB b j) k (k - 16)) (sigA (Wn (blkB b j) k (k - 15)))) (Wn (blkB b j) k (k - 7))) (sigB (Wn (blkB b j) k (k - 2))) := by
              rw [show Wn (blkB b j) (k + 1) k = newW (blkB b j) k (Wn (blkB b j) k) from if_pos rfl, newW, if_neg hd]
            refine ⟨q' - 1, [(2, .ptr 0 0 0), (3, .ptr 1 0 0), (4, .ptr 2 0 0), (5, .sl 3 0 (padN n) (capp + 1)), (6, .int .i64 ((64 * j : Nat) : Int)), (7, .ptr 4 0 0), (8, .int .i64 ((k + 1 : Nat) : Int))],
              [some ⟨1, 32, fun _ _ => .int .u8 0⟩, some ⟨1, 64, u32G kt⟩, some ⟨1, 8, u32G h⟩, some ⟨1, padN n, bytesG b⟩, some ⟨1, 64, u32G (Wn (blkB b j) (k + 1))⟩], [some 0, some 1, some 2, some 3, some 4], by omega, ⟨k + 1, rfl, rfl, by omega⟩, ?_⟩
            refine .mk0 ⟨.ptr _ _ _ _ rfl, .ptr _ _ _ _ rfl, .ptr _ _ _ _ rfl, .sl _ _ _ _ _ rfl, Flat.i rfl, .ptr _ _ _ _ rfl, Flat.i e5, trivial⟩ ⟨.old 0 0 _ _ rfl rfl ⟨rfl, Nat.le_refl _, fun i j hi hj => .eq _ _ rfl (.int _ _)⟩, .old 1 1 _ _ rfl rfl ⟨rfl, Nat.le_refl _, fun i j hi hj => .eq _ _ rfl (.int _ _)⟩, .old 2 2 _ _ rfl rfl ⟨rfl, Nat.le_refl _, fun i j hi hj => .eq _ _ rfl (.int _ _)⟩, .old 3 3 _ _ rfl rfl ⟨rfl, Nat.le_refl _, fun i j hi hj => .eq _ _ rfl (.int _ _)⟩, .old 4 4 _ _ rfl rfl ⟨rfl, Nat.le_refl _, fun x y hx hy => ?_⟩, trivial⟩ rfl rfl
            refine updU (w := Wn (blkB b j) k) (w' := Wn (blkB b j) (k + 1)) hy rfl ?_ (fun x hx => if_neg hx)
            rw [eW]
            exact addSwap (Wn (blkB b j) k (k - 16)) (Wn (blkB b j) k (k - 7)) (sigA (Wn (blkB b j) k (k - 15))) (sigB (Wn (blkB b j) k (k - 2)))
        · have hc : k = 64 := by simp at hc; omega
          subst hc
          conv => whnf
          generalize hW : Wn (blkB b j) 64 = w
          refine loop_wk mixed (I := fun q' l m => ∃ (k : Nat), l = [(2, .ptr 0 0 0), (3, .ptr 1 0 0), (4, .ptr 2 0 0), (5, .sl 3 0 (padN n) (capp + 1)), (6, .int .i64 ((64 * j : Nat) : Int)), (7, .ptr 4 0 0), (12, .ptr 5 0 0), (13, .int .i64 k)] ∧
              m = [some ⟨1, 32, fun _ _ => .int .u8 0⟩, some ⟨1, 64, u32G kt⟩, some ⟨1, 8, u32G h⟩, some ⟨1, padN n, bytesG b⟩, some ⟨1, 64, u32G w⟩, some ⟨1, 8, u32G (Rn h w k)⟩] ∧ q' + k = 64) 64
            (l0 := [(2, .ptr 0 0 0), (3, .ptr 1 0 0), (4, .ptr 2 0 0), (5, .sl 3 0 (padN n) (capp + 1)), (6, .int .i64 ((64 * j : Nat) : Int)), (7, .ptr 4 0 0), (12, .ptr 5 0 0), (13, .int .i64 (0 : Nat))])
            (m0 := [some ⟨1, 32, fun _ _ => .int .u8 0⟩, some ⟨1, 64, u32G kt⟩, some ⟨1, 8, u32G h⟩, some ⟨1, padN n, bytesG b⟩, some ⟨1, 64, u32G w⟩, some ⟨1, 8, u32G (Rn h w 0)⟩]) [some 0, some 1, some 2, some 3, some 4, some 5] ⟨0, rfl, rfl, rfl⟩ ?_ ?_
          · refine .mk0 ⟨.ptr _ _ _ _ rfl, .ptr _ _ _ _ rfl, .ptr _ _ _ _ rfl, .sl _ _ _ _ _ rfl, Flat.i rfl, .ptr _ _ _ _ rfl, .ptr _ _ _ _ rfl, Flat.i rfl, trivial⟩ ⟨.old 0 0 _ _ rfl rfl ⟨rfl, Nat.le_refl _, fun i j hi hj => .eq _ _ rfl (.int _ _)⟩, .old 1 1 _ _ rfl rfl ⟨rfl, Nat.le_refl _, fun i j hi hj => .eq _ _ rfl (.int _ _)⟩, .old 2 2 _ _ rfl rfl ⟨rfl, Nat.le_refl _, fun i j hi hj => .eq _ _ rfl (.int _ _)⟩, .old 3 3 _ _ rfl rfl ⟨rfl, Nat.le_refl _, fun i j hi hj => .eq _ _ rfl (.int _ _)⟩, .old 4 4 _ _ rfl rfl ⟨rfl, Nat.le_refl _, fun i j hi hj => .eq _ _ rfl (.int _ _)⟩, .old 5 5 _ _ rfl rfl ⟨rfl, Nat.le_refl _, fun i j hi hj => ?_⟩, trivial⟩ rfl rfl
            exact eightC hi hj rfl
          · rintro q' l m ⟨k, rfl, rfl, hk⟩
            conv => whnf
            refine condB_mk (fun hc => ?_) (fun hc => ?_)
            · have hc : k < 64 := by simp at hc; omega
              conv => whnf
              generalize hR : Rn h w k = r
              refine condB_ok (by simp; omega) ?_
              conv => whnf
              simp only [Int.toNat_natCast, Nat.zero_add]
              refine condB_ok (by simp [roomG, Nat.ble_eq]; omega) ?_
              conv => whnf
              refine condB_ok (by simp; omega) ?_
              conv => whnf
              simp only [Int.toNat_natCast, Nat.zero_add]
              refine condB_ok (by simp [roomG, Nat.ble_eq]; omega) ?_
              conv => whnf
              refine S_rot32 _ _ ?_
              conv => whnf
              refine ⟨⟨[], rfl⟩, ?_⟩
              conv => whnf
              refine S_rot32 _ _ ?_
              conv => whnf
              refine ⟨⟨[], rfl⟩, ?_⟩
              conv => whnf
              refine S_rot32 _ _ ?_
              conv => whnf
              refine ⟨⟨[], rfl⟩, ?_⟩
              conv => whnf
              refine S_rot32 _ _ ?_
              conv => whnf
              refine ⟨⟨[], rfl⟩, ?_⟩
              conv => whnf
              refine S_rot32 _ _ ?_
              conv => whnf
              refine ⟨⟨[], rfl⟩, ?_⟩
              conv => whnf
              refine S_rot32 _ _ ?_
              conv => whnf
              refine ⟨⟨[], rfl⟩, ?_⟩
              conv => whnf
              have e5 : IntKind.i64.wrap ((k : Int) + 1) = ((k + 1 : Nat) : Int) := by rw [w64 (by omega) (by omega)]; omega
              have eR : Rn h w (k + 1) = rnd r (kt k) (w k) := by rw [← hR, ← hkt]; rfl
              refine ⟨q' - 1, [(2, .ptr 0 0 0), (3, .ptr 1 0 0), (4, .ptr 2 0 0), (5, .sl 3 0 (padN n) (capp + 1)), (6, .int .i64 ((64 * j : Nat) : Int)), (7, .ptr 4 0 0), (12, .ptr 5 0 0), (13, .int .i64 ((k + 1 : Nat) : Int))],
                [some ⟨1, 32, fun _ _ => .int .u8 0⟩, some ⟨1, 64, u32G kt⟩, some ⟨1, 8, u32G h⟩, some ⟨1, padN n, bytesG b⟩, some ⟨1, 64, u32G w⟩, some ⟨1, 8, u32G (Rn h w (k + 1))⟩], [some 0, some 1, some 2, some 3, some 4, some 5], by omega, ⟨k + 1, rfl, rfl, by omega⟩, ?_⟩
              rw [eR]
              refine .mk0 ⟨.ptr _ _ _ _ rfl, .ptr _ _ _ _ rfl, .ptr _ _ _ _ rfl, .sl _ _ _ _ _ rfl, Flat.i rfl, .ptr _ _ _ _ rfl, .ptr _ _ _ _ rfl, Flat.i e5, trivial⟩ ⟨.old 0 0 _ _ rfl rfl ⟨rfl, Nat.le_refl _, fun i j hi hj => .eq _ _ rfl (.int _ _)⟩, .old 1 1 _ _ rfl rfl ⟨rfl, Nat.le_refl _, fun i j hi hj => .eq _ _ rfl (.int _ _)⟩, .old 2 2 _ _ rfl rfl ⟨rfl, Nat.le_refl _, fun i j hi hj => .eq _ _ rfl (.int _ _)⟩, .old 3 3 _ _ rfl rfl ⟨rfl, Nat.le_refl _, fun i j hi hj => .eq _ _ rfl (.int _ _)⟩, .old 4 4 _ _ rfl rfl ⟨rfl, Nat.le_refl _, fun i j hi hj => .eq _ _ rfl (.int _ _)⟩, .old 5 5 _ _ rfl rfl ⟨rfl, Nat.le_refl _, fun i j hi hj => ?_⟩, trivial⟩ rfl rfl
              exact eight hi hj rfl rfl rfl rfl rfl rfl rfl rfl
            · have hc : k = 64 := by simp at hc; omega
              subst hc
              conv => whnf
              generalize hR : Rn h w 64 = r
              have hNext : Hn b (j + 1) = fun i => addU (h i) (r i) := by
                rw [show Hn b (j + 1) = nextH (Hn b j) (Wn (blkB b j) 64) from rfl, hW, hH]
                funext i
                rw [nextH, hR]
              refine loop_wk mixed (I := fun q' l m => ∃ (k : Nat), l = [(2, .ptr 0 0 0), (3, .ptr 1 0 0), (4, .ptr 2 0 0), (5, .sl 3 0 (padN n) (capp + 1)), (6, .int .i64 ((64 * j : Nat) : Int)), (12, .ptr 5 0 0), (18, .int .i64 k)] ∧
                  m = [some ⟨1, 32, fun _ _ => .int .u8 0⟩, some ⟨1, 64, u32G kt⟩, some ⟨1, 8, u32G (fun i => if i < k then addU (h i) (r i) else h i)⟩, some ⟨1, padN n, bytesG b⟩, none, some ⟨1, 8, u32G r⟩] ∧ q' + k = 8) 8
                (l0 := [(2, .ptr 0 0 0), (3, .ptr 1 0 0), (4, .ptr 2 0 0), (5, .sl 3 0 (padN n) (capp + 1)), (6, .int .i64 ((64 * j : Nat) : Int)), (12, .ptr 5 0 0), (18, .int .i64 (0 : Nat))])
                (m0 := [some ⟨1, 32, fun _ _ => .int .u8 0⟩, some ⟨1, 64, u32G kt⟩, some ⟨1, 8, u32G (fun i => if i < 0 then addU (h i) (r i) else h i)⟩, some ⟨1, padN n, bytesG b⟩, none, some ⟨1, 8, u32G r⟩]) [some 0, some 1, some 2, some 3, none, some 5] ⟨0, rfl, rfl, rfl⟩ ?_ ?_
              · refine .mk0 ⟨.ptr _ _ _ _ rfl, .ptr _ _ _ _ rfl, .ptr _ _ _ _ rfl, .sl _ _ _ _ _ rfl, Flat.i rfl, .ptr _ _ _ _ rfl, Flat.i rfl, trivial⟩ ⟨.old 0 0 _ _ rfl rfl ⟨rfl, Nat.le_refl _, fun i j hi hj => .eq _ _ rfl (.int _ _)⟩, .old 1 1 _ _ rfl rfl ⟨rfl, Nat.le_refl _, fun i j hi hj => .eq _ _ rfl (.int _ _)⟩, .old 2 2 _ _ rfl rfl ⟨rfl, Nat.le_refl _, fun i j hi hj => ?_⟩, .old 3 3 _ _ rfl rfl ⟨rfl, Nat.le_refl _, fun i j hi hj => .eq _ _ rfl (.int _ _)⟩, .dead _, .old 5 5 _ _ rfl rfl ⟨rfl, Nat.le_refl _, fun i j hi hj => .eq _ _ rfl (.int _ _)⟩, trivial⟩ rfl rfl
                exact .eq _ _ (by simp only [u32G]; rw [if_neg (Nat.not_lt_zero _)]) (.int _ _)
              · rintro q' l m ⟨k, rfl, rfl, hk⟩
                conv => whnf
                refine condB_mk (fun hc => ?_) (fun hc => ?_)
                · have hc : k < 8 := by simp at hc; omega
                  conv => whnf
                  refine condB_ok (by simp; omega) ?_
                  conv => whnf
                  simp only [Int.toNat_natCast, Nat.zero_add]
                  refine condB_ok (by simp [roomG, Nat.ble_eq]; omega) ?_
                  conv => whnf
                  refine condB_ok (by simp; omega) ?_
                  conv => whnf
                  simp only [Int.toNat_natCast, Nat.zero_add]
                  refine condB_ok (by simp [roomG, Nat.ble_eq]; omega) ?_
                  conv => whnf
                  refine condB_ok (by simp; omega) ?_
                  conv => whnf
                  simp only [Int.toNat_natCast, Nat.zero_add]
                  refine condB_ok (by simp [roomG, Nat.ble_eq]; omega) ?_
                  conv => whnf
                  have e5 : IntKind.i64.wrap ((k : Int) + 1) = ((k + 1 : Nat) : Int) := by rw [w64 (by omega) (by omega)]; omega
                  refine ⟨q' - 1, [(2, .ptr 0 0 0), (3, .ptr 1 0 0), (4, .ptr 2 0 0), (5, .sl 3 0 (padN n) (capp + 1)), (6, .int .i64 ((64 * j : Nat) : Int)), (12, .ptr 5 0 0), (18, .int .i64 ((k + 1 : Nat) : Int))],
                    [some ⟨1, 32, fun _ _ => .int .u8 0⟩, some ⟨1, 64, u32G kt⟩, some ⟨1, 8, u32G (fun i => if i < k + 1 then addU (h i) (r i) else h i)⟩, some ⟨1, padN n, bytesG b⟩, none, some ⟨1, 8, u32G r⟩], [some 0, some 1, some 2, some 3, none, some 5], by omega, ⟨k + 1, rfl, rfl, by omega⟩, ?_⟩
                  refine .mk0 ⟨.ptr _ _ _ _ rfl, .ptr _ _ _ _ rfl, .ptr _ _ _ _ rfl, .sl _ _ _ _ _ rfl, Flat.i rfl, .ptr _ _ _ _ rfl, Flat.i e5, trivial⟩ ⟨.old 0 0 _ _ rfl rfl ⟨rfl, Nat.le_refl _, fun i j hi hj => .eq _ _ rfl (.int _ _)⟩, .old 1 1 _ _ rfl rfl ⟨rfl, Nat.le_refl _, fun i j hi hj => .eq _ _ rfl (.int _ _)⟩, .old 2 2 _ _ rfl rfl ⟨rfl, Nat.le_refl _, fun i j hi hj => ?_⟩, .old 3 3 _ _ rfl rfl ⟨rfl, Nat.le_refl _, fun i j hi hj => .eq _ _ rfl (.int _ _)⟩, .dead _, .old 5 5 _ _ rfl rfl ⟨rfl, Nat.le_refl _, fun i j hi hj => .eq _ _ rfl (.int _ _)⟩, trivial⟩ rfl rfl
                  exact updH hj rfl
                · have hc : k = 8 := by simp at hc; omega
                  subst hc
                  conv => whnf
                  have e6 : IntKind.i64.wrap (((64 * j : Nat) : Int) + 64) = ((64 * (j + 1) : Nat) : Int) := by rw [w64 (by omega) (by omega)]; omega
                  refine ⟨q - 1, [(2, .ptr 0 0 0), (3, .ptr 1 0 0), (4, .ptr 2 0 0), (5, .sl 3 0 (padN n) (capp + 1)), (6, .int .i64 ((64 * (j + 1) : Nat) : Int))],
                    [some ⟨1, 32, fun _ _ => .int .u8 0⟩, some ⟨1, 64, u32G kt⟩, some ⟨1, 8, u32G (Hn b (j + 1))⟩, some ⟨1, padN n, bytesG b⟩], [some 0, some 1, some 2, some 3], by omega, ⟨j + 1, rfl, rfl, by omega⟩, ?_⟩
                  rw [hNext]
                  refine .mk0 ⟨.ptr _ _ _ _ rfl, .ptr _ _ _ _ rfl, .ptr _ _ _ _ rfl, .sl _ _ _ _ _ rfl, Flat.i e6, trivial⟩ ⟨.old 0 0 _ _ rfl rfl ⟨rfl, Nat.le_refl _, fun i j hi hj => .eq _ _ rfl (.int _ _)⟩, .old 1 1 _ _ rfl rfl ⟨rfl, Nat.le_refl _, fun i j hi hj => .eq _ _ rfl (.int _ _)⟩, .old 2 2 _ _ rfl rfl ⟨rfl, Nat.le_refl _, fun i j hi hj => ?_⟩, .old 3 3 _ _ rfl rfl ⟨rfl, Nat.le_refl _, fun i j hi hj => .eq _ _ rfl (.int _ _)⟩, trivial⟩ rfl rfl
                  have hi : i < 8 := hi
                  exact .eq _ _ (by simp only [u32G]; rw [if_pos hi]) (.int _ _)
    · have hc : padN n ≤ 64 * j := by simp at hc; omega
      conv => whnf
      obtain rfl : j = padN n / 64 := by omega
      generalize hH : Hn b (padN n / 64) = h
      have hS : ∀ i, i < 32 → sumB n f i = IntKind.u8.wrap ((h (i / 4)).fdiv (2 ^ (24 - 8 * (i % 4)))) := fun i hi => by rw [sumB, hB, hH]
      refine loop_wk mixed (I := fun q' l m => ∃ (k : Nat), l = [(2, .ptr 0 0 0), (4, .ptr 1 0 0), (19, .ptr 2 0 0), (20, .int .i64 k)] ∧
          m = [some ⟨1, 32, fun _ _ => .int .u8 0⟩, some ⟨1, 8, u32G h⟩, some ⟨1, 32, bytesG (fun i => if i < k then sumB n f i else 0)⟩] ∧ q' + k = 32) 32
        (l0 := [(2, .ptr 0 0 0), (4, .ptr 1 0 0), (19, .ptr 2 0 0), (20, .int .i64 (0 : Nat))])
        (m0 := [some ⟨1, 32, fun _ _ => .int .u8 0⟩, some ⟨1, 8, u32G h⟩, some ⟨1, 32, bytesG (fun i => if i < 0 then sumB n f i else 0)⟩]) [some 0, some 2, some 4] ⟨0, rfl, rfl, rfl⟩ ?_ ?_
      · refine .mk0 ⟨.ptr _ _ _ _ rfl, .ptr _ _ _ _ rfl, .ptr _ _ _ _ rfl, Flat.i rfl, trivial⟩ ⟨.old 0 0 _ _ rfl rfl ⟨rfl, Nat.le_refl _, fun i j hi hj => .eq _ _ rfl (.int _ _)⟩, .old 1 2 _ _ rfl rfl ⟨rfl, Nat.le_refl _, fun i j hi hj => .eq _ _ rfl (.int _ _)⟩, .old 2 4 _ _ rfl rfl ⟨rfl, Nat.le_refl _, fun i j hi hj => ?_⟩, trivial⟩ rfl rfl
        have hj : j < 1 := hj
        obtain rfl : j = 0 := by omega
        exact .eq _ _ (by simp only [bytesG]; rw [if_neg (Nat.not_lt_zero _)]; rfl) (.int _ _)
      · rintro q' l m ⟨k, rfl, rfl, hk⟩
        conv => whnf
        refine condB_mk (fun hc => ?_) (fun hc => ?_)
        · have hc : k < 32 := by simp at hc; omega
          conv => whnf
          have e1 : IntKind.i64.wrap ((k : Int).tdiv 4) = ((k / 4 : Nat) : Int) := by
            rw [Int.tdiv_eq_ediv_of_nonneg (by omega), w64 (by omega) (by omega)]; omega
          have e2 : (k : Int).tmod 4 = ((k % 4 : Nat) : Int) := tmod_nat k 4
          have e3 : IntKind.i64.wrap (8 * ((k % 4 : Nat) : Int)) = ((8 * (k % 4) : Nat) : Int) := by rw [w64 (by omega) (by omega)]; omega
          have e4 : IntKind.i64.wrap (24 - ((8 * (k % 4) : Nat) : Int)) = ((24 - 8 * (k % 4) : Nat) : Int) := by rw [w64 (by omega) (by omega)]; omega
          have e4b : IntKind.u64.wrap ((24 - 8 * (k % 4) : Nat) : Int) = ((24 - 8 * (k % 4) : Nat) : Int) := by rw [wu64]; omega
          simp only [e1]
          refine condB_ok (by simp; omega) ?_
          conv => whnf
          simp only [Int.toNat_natCast, Nat.zero_add]
          refine condB_ok (by simp [roomG, Nat.ble_eq]; omega) ?_
          conv => whnf
          simp only [e2, e3, e4, e4b]
          conv => whnf
          refine condB_ok (by simp; omega) ?_
          conv => whnf
          simp only [Int.toNat_natCast, Nat.zero_add]
          refine condB_ok (by simp [roomG, Nat.ble_eq]; omega) ?_
          conv => whnf
          have e5 : IntKind.i64.wrap ((k : Int) + 1) = ((k + 1 : Nat) : Int) := by rw [w64 (by omega) (by omega)]; omega
          have e6 : min (24 - 8 * (k % 4)) IntKind.u32.bits = 24 - 8 * (k % 4) := by simp only [IntKind.bits]; omega
          refine ⟨q' - 1, [(2, .ptr 0 0 0), (4, .ptr 1 0 0), (19, .ptr 2 0 0), (20, .int .i64 ((k + 1 : Nat) : Int))],
            [some ⟨1, 32, fun _ _ => .int .u8 0⟩, some ⟨1, 8, u32G h⟩, some ⟨1, 32, bytesG (fun i => if i < k + 1 then sumB n f i else 0)⟩], [some 0, some 1, some 2], by omega, ⟨k + 1, rfl, rfl, by omega⟩, ?_⟩
          refine .mk0 ⟨.ptr _ _ _ _ rfl, .ptr _ _ _ _ rfl, .ptr _ _ _ _ rfl, Flat.i e5, trivial⟩ ⟨.old 0 0 _ _ rfl rfl ⟨rfl, Nat.le_refl _, fun i j hi hj => .eq _ _ rfl (.int _ _)⟩, .old 1 1 _ _ rfl rfl ⟨rfl, Nat.le_refl _, fun i j hi hj => .eq _ _ rfl (.int _ _)⟩, .old 2 2 _ _ rfl rfl ⟨rfl, Nat.le_refl _, fun i j hi hj => ?_⟩, trivial⟩ rfl rfl
          exact updO hj (hS k hc) e6 rfl
        · have hc : k = 32 := by simp at hc; omega
          subst hc
          conv => whnf
          exact outSum rfl

theorem S_Sum256R {m : Mem} {x : AV} {n : Nat} {f : Nat → Int} {K : AV → Mem → Prop} (hx : Shows m x n f) (hn : n ≤ 1000000) (hf : ∀ i, i < n → 0 ≤ f i ∧ f i ≤ 255) (h : ∀ s, s = sumB n f → (∀ i, 0 ≤ s i ∧ s i ≤ 255) → K (.agg (rowL s)) m) : ACall Pg F_witanref04_Sum256 [x] m K := by
  obtain ⟨cap, hl⟩ := hx
  refine lift_flat (S_Sum2560 n cap f hn hf) (.cons _ _ _ _ hl .nil) ?_
  rintro v rfl
  exact h _ rfl (sumB_lt n f)

end Go.Proofs.Ytdeholmpcbakbaa
end

section
/- The keyed sum of the reference; no condition. -/
set_option linter.unusedVariables false
set_option linter.unusedSimpArgs false
set_option maxRecDepth 100000
set_option pp.maxSteps 3000
namespace Go.Proofs.Ytdeholmpcbakbaa
open Go Go.Wit

theorem rowAtE {s : Nat → Int} {g : Nat → Nat → AV} {i p : Nat} {A : AV} (hi : i < 32) (hp : p = i) (hA : A = updG ⟨1, 32, g⟩ 0 0 32 ((List.range 32).map fun i => .int .u8 (s i)) p 0) : A = .int .u8 (s i) := by
  subst hp hA
  rw [updG_all (by omega) hi, List.getD_eq_getElem?_getD, List.getElem?_map, List.getElem?_range hi]
  rfl
theorem xorW {nv : Bool} {σ : Nat → Option Nat} {P : Nat → Int} {c : Int} {k i j N p : Nat} {x y : Int} {A : AV} (hj : j < 1) (hx : x = bitsV .xor .u8 y c) (hy : y = P k) (hp : p = k) (hA : A = updG ⟨1, N, bytesG (fun i => if i < k then xorB (P i) c else 0)⟩ p 0 1 [.int .u8 x] i j) :
    RV nv σ A (bytesG (fun i => if i < k + 1 then xorB (P i) c else 0) i j) := by
  subst hp
  exact updB (a := fun i => xorB (P i) c) (z := fun _ => 0) hj (by rw [hx, hy]; rfl) hA
theorem zeroW {nv : Bool} {σ : Nat → Option Nat} {P : Nat → Int} {c : Int} {i j : Nat} {A : AV} (hj : j < 1) (hA : A = [AV.int IntKind.u8 0].getD j AV.un) : RV nv σ A (bytesG (fun i => if i < 0 then xorB (P i) c else 0) i j) := by
  obtain rfl : j = 0 := by omega
  exact zeroB (j := 0) (a := fun i => xorB (P i) c) (z := fun _ => 0) (hA.trans rfl)
set_option maxHeartbeats 1000000 in
theorem S_RMac0 (n c1 : Nat) (f : Nat → Int) (k c2 : Nat) (g : Nat → Int) (hn : n ≤ 900000) (hk : k ≤ 900000) (hf : ∀ i, i < n → 0 ≤ f i ∧ f i ≤ 255) (hg : ∀ i, i < k → 0 ≤ g i ∧ g i ≤ 255) :
    ACall Pg F_witanref04_Mac [.vsl 1 n c1 (bytesG f), .vsl 1 k c2 (bytesG g)] [] (fun v _ => v = .agg (rowL (macB n f k g)) ∧ Flat true v) := by
  have hP : ∀ i, 64 < n → keyP n f i = if i < 32 then sumB n f i else 0 := fun i h => by simp only [keyP, keyN, keyG, if_pos h]
  have hP' : ∀ i, ¬ 64 < n → keyP n f i = if i < n then f i else 0 := fun i h => by simp only [keyP, keyN, keyG, if_neg h]
  have hM : macB n f k g = sumB 96 (outF (keyP n f) (sumB (64 + k) (inF (keyP n f) g))) := rfl
  generalize keyP n f = P at *
  generalize hM2 : macB n f k g = M at *
  refine B_witanref04_Mac ⟨rfl, ?_⟩
  conv => whnf
  repeat (refine ⟨⟨_, rfl⟩, ?_⟩; conv => whnf)
  refine condB_mk (fun hc => ?_) (fun hc => ?_)
  · have hc : 64 < n := by simp at hc; omega
    have hPs : ∀ i, i < 32 → P i = sumB n f i := fun i h => by rw [hP i hc, if_pos h]
    have hP0 : ∀ i, ¬ i < 32 → P i = 0 := fun i h => by rw [hP i hc, if_neg h]
    conv => whnf
    repeat (refine ⟨⟨_, rfl⟩, ?_⟩; conv => whnf)
    refine S_Sum256R (f := f) Shows.vsl (by omega) hf (fun s hs hsb => ?_)
    rw [← hs] at hPs
    rw [rowL]
    conv => whnf
    repeat (refine ⟨⟨_, rfl⟩, ?_⟩; conv => whnf)
    obtain ⟨cap0, hcap0⟩ : ∃ c : Nat, c = 32 := ⟨_, rfl⟩
    refine loop_wk mixed (I := fun q l m => ∃ (j : Nat), l = [(0, .sl 3 0 32 32), (1, .vsl 1 k c2 (bytesG g)), (4, .ptr 0 0 0), (5, .ptr 1 0 0), (6, .ptr 2 0 0), (8, .int .i64 j)] ∧ m = [some ⟨1, 32, fun _ _ => .int .u8 0⟩, some ⟨1, 64, bytesG (fun i => if i < j then xorB (P i) 54 else 0)⟩, some ⟨1, 64, bytesG (fun i => if i < j then xorB (P i) 92 else 0)⟩, some ⟨1, 32, bytesG s⟩] ∧ q + j = 64) 64
      (l0 := [(0, .sl 3 0 32 32), (1, .vsl 1 k c2 (bytesG g)), (4, .ptr 0 0 0), (5, .ptr 1 0 0), (6, .ptr 2 0 0), (8, .int .i64 (0 : Nat))]) (m0 := [some ⟨1, 32, fun _ _ => .int .u8 0⟩, some ⟨1, 64, bytesG (fun i => if i < 0 then xorB (P i) 54 else 0)⟩, some ⟨1, 64, bytesG (fun i => if i < 0 then xorB (P i) 92 else 0)⟩, some ⟨1, 32, bytesG s⟩]) [some 0, some 1, some 2, some 3] ⟨0, rfl, rfl, rfl⟩ ?_ ?_
    · exact .mk0 ⟨.sl _ _ _ _ _ rfl, .eq _ _ rfl (.vsl _ _ _ _ rfl (fun _ _ _ _ => .int _ _)), .ptr _ _ _ _ rfl, .ptr _ _ _ _ rfl, .ptr _ _ _ _ rfl, Flat.i rfl, trivial⟩ ⟨.old 0 0 _ _ rfl rfl ⟨rfl, Nat.le_refl _, fun i j hi hj => oneU0 hj rfl⟩, .old 1 1 _ _ rfl rfl ⟨rfl, Nat.le_refl _, fun i j hi hj => zeroW hj rfl⟩, .old 2 2 _ _ rfl rfl ⟨rfl, Nat.le_refl _, fun i j hi hj => zeroW hj rfl⟩, .old 3 3 _ _ rfl rfl ⟨rfl, Nat.le_refl _, fun i j hi hj => sumBlk hi hj rfl⟩, trivial⟩ rfl rfl
    · rintro q l m ⟨j, rfl, rfl, hq⟩
      conv => whnf
      repeat (refine ⟨⟨_, rfl⟩, ?_⟩; conv => whnf)
      refine condB_mk (fun hb => ?_) (fun hb => ?_)
      · have hb : j < 64 := by simp at hb; omega
        conv => whnf
        repeat (refine ⟨⟨_, rfl⟩, ?_⟩; conv => whnf)
        refine condB_mk (fun hb2 => ?_) (fun hb2 => ?_)
        · have hb2 : j < 32 := by simp at hb2; omega
          conv => whnf
          repeat (refine ⟨⟨_, rfl⟩, ?_⟩; conv => whnf)
          refine condB_ok (by simp; omega) ?_
          conv => whnf
          repeat (refine ⟨⟨_, rfl⟩, ?_⟩; conv => whnf)
          refine condB_ok (by simp [roomG, Nat.ble_eq]; omega) ?_
          conv => whnf
          repeat (refine ⟨⟨_, rfl⟩, ?_⟩; conv => whnf)
          refine condB_ok (by simp; omega) ?_
          conv => whnf
          repeat (refine ⟨⟨_, rfl⟩, ?_⟩; conv => whnf)
          refine condB_ok (by simp [roomG, Nat.ble_eq]; omega) ?_
          conv => whnf
          repeat (refine ⟨⟨_, rfl⟩, ?_⟩; conv => whnf)
          refine condB_ok (by simp; omega) ?_
          conv => whnf
          repeat (refine ⟨⟨_, rfl⟩, ?_⟩; conv => whnf)
          refine condB_ok (by simp [roomG, Nat.ble_eq]; omega) ?_
          conv => whnf
          repeat (refine ⟨⟨_, rfl⟩, ?_⟩; conv => whnf)
          have e5 : IntKind.i64.wrap ((j : Int) + 1) = ((j + 1 : Nat) : Int) := by rw [w64 (by omega) (by omega)]; omega
          refine ⟨q - 1, [(0, .sl 3 0 32 32), (1, .vsl 1 k c2 (bytesG g)), (4, .ptr 0 0 0), (5, .ptr 1 0 0), (6, .ptr 2 0 0), (8, .int .i64 ((j + 1 : Nat) : Int))], [some ⟨1, 32, fun _ _ => .int .u8 0⟩, some ⟨1, 64, bytesG (fun i => if i < j + 1 then xorB (P i) 54 else 0)⟩, some ⟨1, 64, bytesG (fun i => if i < j + 1 then xorB (P i) 92 else 0)⟩, some ⟨1, 32, bytesG s⟩], [some 0, some 1, some 2, some 3], by omega, ⟨j + 1, rfl, rfl, by omega⟩, ?_⟩
          exact .mk0 ⟨.sl _ _ _ _ _ rfl, .eq _ _ rfl (.vsl _ _ _ _ rfl (fun _ _ _ _ => .int _ _)), .ptr _ _ _ _ rfl, .ptr _ _ _ _ rfl, .ptr _ _ _ _ rfl, Flat.i e5, trivial⟩ ⟨.old 0 0 _ _ rfl rfl ⟨rfl, Nat.le_refl _, fun i j hi hj => .eq _ _ rfl (.int _ _)⟩, .old 1 1 _ _ rfl rfl ⟨rfl, Nat.le_refl _, fun a b ha hb => xorW hb rfl (by rw [Nat.zero_add]; exact (hPs j hb2).symm) (Nat.zero_add _) rfl⟩, .old 2 2 _ _ rfl rfl ⟨rfl, Nat.le_refl _, fun a b ha hb => xorW hb rfl (by rw [Nat.zero_add]; exact (hPs j hb2).symm) (Nat.zero_add _) rfl⟩, .old 3 3 _ _ rfl rfl ⟨rfl, Nat.le_refl _, fun i j hi hj => .eq _ _ rfl (.int _ _)⟩, trivial⟩ rfl rfl
        · have hb2 : ¬ j < 32 := by simp at hb2; omega
          conv => whnf
          repeat (refine ⟨⟨_, rfl⟩, ?_⟩; conv => whnf)
          refine condB_ok (by simp; omega) ?_
          conv => whnf
          repeat (refine ⟨⟨_, rfl⟩, ?_⟩; conv => whnf)
          refine condB_ok (by simp [roomG, Nat.ble_eq]; omega) ?_
          conv => whnf
          repeat (refine ⟨⟨_, rfl⟩, ?_⟩; conv => whnf)
          refine condB_ok (by simp; omega) ?_
          conv => whnf
          repeat (refine ⟨⟨_, rfl⟩, ?_⟩; conv => whnf)
          refine condB_ok (by simp [roomG, Nat.ble_eq]; omega) ?_
          conv => whnf
          repeat (refine ⟨⟨_, rfl⟩, ?_⟩; conv => whnf)
          have e5 : IntKind.i64.wrap ((j : Int) + 1) = ((j + 1 : Nat) : Int) := by rw [w64 (by omega) (by omega)]; omega
          refine ⟨q - 1, [(0, .sl 3 0 32 32), (1, .vsl 1 k c2 (bytesG g)), (4, .ptr 0 0 0), (5, .ptr 1 0 0), (6, .ptr 2 0 0), (8, .int .i64 ((j + 1 : Nat) : Int))], [some ⟨1, 32, fun _ _ => .int .u8 0⟩, some ⟨1, 64, bytesG (fun i => if i < j + 1 then xorB (P i) 54 else 0)⟩, some ⟨1, 64, bytesG (fun i => if i < j + 1 then xorB (P i) 92 else 0)⟩, some ⟨1, 32, bytesG s⟩], [some 0, some 1, some 2, some 3], by omega, ⟨j + 1, rfl, rfl, by omega⟩, ?_⟩
          exact .mk0 ⟨.sl _ _ _ _ _ rfl, .eq _ _ rfl (.vsl _ _ _ _ rfl (fun _ _ _ _ => .int _ _)), .ptr _ _ _ _ rfl, .ptr _ _ _ _ rfl, .ptr _ _ _ _ rfl, Flat.i e5, trivial⟩ ⟨.old 0 0 _ _ rfl rfl ⟨rfl, Nat.le_refl _, fun i j hi hj => .eq _ _ rfl (.int _ _)⟩, .old 1 1 _ _ rfl rfl ⟨rfl, Nat.le_refl _, fun a b ha hb => xorW hb rfl (hP0 j hb2).symm (Nat.zero_add _) rfl⟩, .old 2 2 _ _ rfl rfl ⟨rfl, Nat.le_refl _, fun a b ha hb => xorW hb rfl (hP0 j hb2).symm (Nat.zero_add _) rfl⟩, .old 3 3 _ _ rfl rfl ⟨rfl, Nat.le_refl _, fun i j hi hj => .eq _ _ rfl (.int _ _)⟩, trivial⟩ rfl rfl
      · have hb : j = 64 := by simp at hb; omega
        subst hb
        conv => whnf
        repeat (refine ⟨⟨_, rfl⟩, ?_⟩; conv => whnf)
        refine S_join2 (n := 64) (k := k) (f := fun i => if i < 64 then xorB (P i) 54 else 0) (g := g) (ShowsB.sl rfl (Nat.le_refl 2) (fun i hi => ?_)) (by decide) (by omega) (fun cap2 h0 hh0 => ?_)
        · have : i = 0 ∨ i = 1 := by omega
          rcases this with rfl | rfl
          · exact Shows.sl rfl (Nat.le_refl _) fun i hi => by rw [Nat.zero_add]; rfl
          · exact Shows.vsl
        conv => whnf
        repeat (refine ⟨⟨_, rfl⟩, ?_⟩; conv => whnf)
        refine S_Sum256R (n := 64 + k) (f := inF P g) (Shows.sl rfl (Nat.le_of_eq (Nat.zero_add _)) fun i hi => ?_) (by omega) (fun i hi => ?_) (fun s1 hs1 hsb1 => ?_)
        · rw [Nat.zero_add, hh0]; unfold inF catB
          by_cases h : i < 64
          · rw [if_pos h, if_pos h]; exact (if_pos h).symm
          · rw [if_neg h, if_neg h]
        · unfold inF; split
          · exact xorB_lt _ _
          · exact hg _ (by omega)
        rw [rowL]
        conv => whnf
        repeat (refine ⟨⟨_, rfl⟩, ?_⟩; conv => whnf)
        refine S_join2 (n := 64) (k := 32) (f := fun i => if i < 64 then xorB (P i) 92 else 0) (g := s1) (ShowsB.sl rfl (Nat.le_refl 2) (fun i hi => ?_)) (by decide) (by decide) (fun cap3 h1 hh1 => ?_)
        · have : i = 0 ∨ i = 1 := by omega
          rcases this with rfl | rfl
          · exact Shows.sl rfl (Nat.le_refl _) fun i hi => by rw [Nat.zero_add]; rfl
          · exact Shows.any rfl (Nat.le_refl _) fun i hi => rowAtE hi (by omega) rfl
        conv => whnf
        repeat (refine ⟨⟨_, rfl⟩, ?_⟩; conv => whnf)
        refine S_Sum256R (n := 96) (f := outF P s1) (Shows.sl rfl (Nat.le_of_eq (Nat.zero_add _)) fun i hi => ?_) (by decide) (fun i hi => ?_) (fun s2 hs2 hsb2 => ?_)
        · rw [Nat.zero_add, hh1]; unfold outF catB
          by_cases h : i < 64
          · rw [if_pos h, if_pos h]; exact (if_pos h).symm
          · rw [if_neg h, if_neg h]
        · unfold outF; split
          · exact xorB_lt _ _
          · exact hsb1 _
        rw [rowL]
        conv => whnf
        repeat (refine ⟨⟨_, rfl⟩, ?_⟩; conv => whnf)
        have e9 : s2 = M := by rw [hs2, hM, hs1]
        subst e9
        exact outRow2 rfl
  · have hc : ¬ 64 < n := by simp at hc; omega
    have hPs : ∀ i, i < n → P i = f i := fun i h => by rw [hP' i hc, if_pos h]
    have hP0 : ∀ i, ¬ i < n → P i = 0 := fun i h => by rw [hP' i hc, if_neg h]
    conv => whnf
    repeat (refine ⟨⟨_, rfl⟩, ?_⟩; conv => whnf)
    refine loop_wk mixed (I := fun q l m => ∃ (j : Nat), l = [(0, .vsl 1 n c1 (bytesG f)), (1, .vsl 1 k c2 (bytesG g)), (4, .ptr 0 0 0), (5, .ptr 1 0 0), (6, .ptr 2 0 0), (8, .int .i64 j)] ∧ m = [some ⟨1, 32, fun _ _ => .int .u8 0⟩, some ⟨1, 64, bytesG (fun i => if i < j then xorB (P i) 54 else 0)⟩, some ⟨1, 64, bytesG (fun i => if i < j then xorB (P i) 92 else 0)⟩] ∧ q + j = 64) 64
      (l0 := [(0, .vsl 1 n c1 (bytesG f)), (1, .vsl 1 k c2 (bytesG g)), (4, .ptr 0 0 0), (5, .ptr 1 0 0), (6, .ptr 2 0 0), (8, .int .i64 (0 : Nat))]) (m0 := [some ⟨1, 32, fun _ _ => .int .u8 0⟩, some ⟨1, 64, bytesG (fun i => if i < 0 then xorB (P i) 54 else 0)⟩, some ⟨1, 64, bytesG (fun i => if i < 0 then xorB (P i) 92 else 0)⟩]) [some 0, some 1, some 2] ⟨0, rfl, rfl, rfl⟩ ?_ ?_
    · exact .mk0 ⟨.eq _ _ rfl (.vsl _ _ _ _ rfl (fun _ _ _ _ => .int _ _)), .eq _ _ rfl (.vsl _ _ _ _ rfl (fun _ _ _ _ => .int _ _)), .ptr _ _ _ _ rfl, .ptr _ _ _ _ rfl, .ptr _ _ _ _ rfl, Flat.i rfl, trivial⟩ ⟨.old 0 0 _ _ rfl rfl ⟨rfl, Nat.le_refl _, fun i j hi hj => oneU0 hj rfl⟩, .old 1 1 _ _ rfl rfl ⟨rfl, Nat.le_refl _, fun i j hi hj => zeroW hj rfl⟩, .old 2 2 _ _ rfl rfl ⟨rfl, Nat.le_refl _, fun i j hi hj => zeroW hj rfl⟩, trivial⟩ rfl rfl
    · rintro q l m ⟨j, rfl, rfl, hq⟩
      conv => whnf
      repeat (refine ⟨⟨_, rfl⟩, ?_⟩; conv => whnf)
      refine condB_mk (fun hb => ?_) (fun hb => ?_)
      · have hb : j < 64 := by simp at hb; omega
        conv => whnf
        repeat (refine ⟨⟨_, rfl⟩, ?_⟩; conv => whnf)
        refine condB_mk (fun hb2 => ?_) (fun hb2 => ?_)
        · have hb2 : j < n := by simp at hb2; omega
          conv => whnf
          repeat (refine ⟨⟨_, rfl⟩, ?_⟩; conv => whnf)
          refine condB_ok (by simp; omega) ?_
          conv => whnf
          repeat (refine ⟨⟨_, rfl⟩, ?_⟩; conv => whnf)
          refine condB_ok (by simp; omega) ?_
          conv => whnf
          repeat (refine ⟨⟨_, rfl⟩, ?_⟩; conv => whnf)
          refine condB_ok (by simp [roomG, Nat.ble_eq]; omega) ?_
          conv => whnf
          repeat (refine ⟨⟨_, rfl⟩, ?_⟩; conv => whnf)
          refine condB_ok (by simp; omega) ?_
          conv => whnf
          repeat (refine ⟨⟨_, rfl⟩, ?_⟩; conv => whnf)
          refine condB_ok (by simp [roomG, Nat.ble_eq]; omega) ?_
          conv => whnf
          repeat (refine ⟨⟨_, rfl⟩, ?_⟩; conv => whnf)
          have e5 : IntKind.i64.wrap ((j : Int) + 1) = ((j + 1 : Nat) : Int) := by rw [w64 (by omega) (by omega)]; omega
          refine ⟨q - 1, [(0, .vsl 1 n c1 (bytesG f)), (1, .vsl 1 k c2 (bytesG g)), (4, .ptr 0 0 0), (5, .ptr 1 0 0), (6, .ptr 2 0 0), (8, .int .i64 ((j + 1 : Nat) : Int))], [some ⟨1, 32, fun _ _ => .int .u8 0⟩, some ⟨1, 64, bytesG (fun i => if i < j + 1 then xorB (P i) 54 else 0)⟩, some ⟨1, 64, bytesG (fun i => if i < j + 1 then xorB (P i) 92 else 0)⟩], [some 0, some 1, some 2], by omega, ⟨j + 1, rfl, rfl, by omega⟩, ?_⟩
          exact .mk0 ⟨.eq _ _ rfl (.vsl _ _ _ _ rfl (fun _ _ _ _ => .int _ _)), .eq _ _ rfl (.vsl _ _ _ _ rfl (fun _ _ _ _ => .int _ _)), .ptr _ _ _ _ rfl, .ptr _ _ _ _ rfl, .ptr _ _ _ _ rfl, Flat.i e5, trivial⟩ ⟨.old 0 0 _ _ rfl rfl ⟨rfl, Nat.le_refl _, fun i j hi hj => .eq _ _ rfl (.int _ _)⟩, .old 1 1 _ _ rfl rfl ⟨rfl, Nat.le_refl _, fun a b ha hb => xorW hb rfl (hPs j hb2).symm (Nat.zero_add _) rfl⟩, .old 2 2 _ _ rfl rfl ⟨rfl, Nat.le_refl _, fun a b ha hb => xorW hb rfl (hPs j hb2).symm (Nat.zero_add _) rfl⟩, trivial⟩ rfl rfl
        · have hb2 : ¬ j < n := by simp at hb2; omega
          conv => whnf
          repeat (refine ⟨⟨_, rfl⟩, ?_⟩; conv => whnf)
          refine condB_ok (by simp; omega) ?_
          conv => whnf
          repeat (refine ⟨⟨_, rfl⟩, ?_⟩; conv => whnf)
          refine condB_ok (by simp [roomG, Nat.ble_eq]; omega) ?_
          conv => whnf
          repeat (refine ⟨⟨_, rfl⟩, ?_⟩; conv => whnf)
          refine condB_ok (by simp; omega) ?_
          conv => whnf
          repeat (refine ⟨⟨_, rfl⟩, ?_⟩; conv => whnf)
          refine condB_ok (by simp [roomG, Nat.ble_eq]; omega) ?_
          conv => whnf
          repeat (refine ⟨⟨_, rfl⟩, ?_⟩; conv => whnf)
          have e5 : IntKind.i64.wrap ((j : Int) + 1) = ((j + 1 : Nat) : Int) := by rw [w64 (by omega) (by omega)]; omega
          refine ⟨q - 1, [(0, .vsl 1 n c1 (bytesG f)), (1, .vsl 1 k c2 (bytesG g)), (4, .ptr 0 0 0), (5, .ptr 1 0 0), (6, .ptr 2 0 0), (8, .int .i64 ((j + 1 : Nat) : Int))], [some ⟨1, 32, fun _ _ => .int .u8 0⟩, some ⟨1, 64, bytesG (fun i => if i < j + 1 then xorB (P i) 54 else 0)⟩, some ⟨1, 64, bytesG (fun i => if i < j + 1 then xorB (P i) 92 else 0)⟩], [some 0, some 1, some 2], by omega, ⟨j + 1, rfl, rfl, by omega⟩, ?_⟩
          exact .mk0 ⟨.eq _ _ rfl (.vsl _ _ _ _ rfl (fun _ _ _ _ => .int _ _)), .eq _ _ rfl (.vsl _ _ _ _ rfl (fun _ _ _ _ => .int _ _)), .ptr _ _ _ _ rfl, .ptr _ _ _ _ rfl, .ptr _ _ _ _ rfl, Flat.i e5, trivial⟩ ⟨.old 0 0 _ _ rfl rfl ⟨rfl, Nat.le_refl _, fun i j hi hj => .eq _ _ rfl (.int _ _)⟩, .old 1 1 _ _ rfl rfl ⟨rfl, Nat.le_refl _, fun a b ha hb => xorW hb rfl (hP0 j hb2).symm (Nat.zero_add _) rfl⟩, .old 2 2 _ _ rfl rfl ⟨rfl, Nat.le_refl _, fun a b ha hb => xorW hb rfl (hP0 j hb2).symm (Nat.zero_add _) rfl⟩, trivial⟩ rfl rfl
      · have hb : j = 64 := by simp at hb; omega
        subst hb
        conv => whnf
        repeat (refine ⟨⟨_, rfl⟩, ?_⟩; conv => whnf)
        refine S_join2 (n := 64) (k := k) (f := fun i => if i < 64 then xorB (P i) 54 else 0) (g := g) (ShowsB.sl rfl (Nat.le_refl 2) (fun i hi => ?_)) (by decide) (by omega) (fun cap2 h0 hh0 => ?_)
        · have : i = 0 ∨ i = 1 := by omega
          rcases this with rfl | rfl
          · exact Shows.sl rfl (Nat.le_refl _) fun i hi => by rw [Nat.zero_add]; rfl
          · exact Shows.vsl
        conv => whnf
        repeat (refine ⟨⟨_, rfl⟩, ?_⟩; conv => whnf)
        refine S_Sum256R (n := 64 + k) (f := inF P g) (Shows.sl rfl (Nat.le_of_eq (Nat.zero_add _)) fun i hi => ?_) (by omega) (fun i hi => ?_) (fun s1 hs1 hsb1 => ?_)
        · rw [Nat.zero_add, hh0]; unfold inF catB
          by_cases h : i < 64
          · rw [if_pos h, if_pos h]; exact (if_pos h).symm
          · rw [if_neg h, if_neg h]
        · unfold inF; split
          · exact xorB_lt _ _
          · exact hg _ (by omega)
        rw [rowL]
        conv => whnf
        repeat (refine ⟨⟨_, rfl⟩, ?_⟩; conv => whnf)
        refine S_join2 (n := 64) (k := 32) (f := fun i => if i < 64 then xorB (P i) 92 else 0) (g := s1) (ShowsB.sl rfl (Nat.le_refl 2) (fun i hi => ?_)) (by decide) (by decide) (fun cap3 h1 hh1 => ?_)
        · have : i = 0 ∨ i = 1 := by omega
          rcases this with rfl | rfl
          · exact Shows.sl rfl (Nat.le_refl _) fun i hi => by rw [Nat.zero_add]; rfl
          · exact Shows.any rfl (Nat.le_refl _) fun i hi => rowAtE hi (by omega) rfl
        conv => whnf
        repeat (refine ⟨⟨_, rfl⟩, ?_⟩; conv => whnf)
        refine S_Sum256R (n := 96) (f := outF P s1) (Shows.sl rfl (Nat.le_of_eq (Nat.zero_add _)) fun i hi => ?_) (by decide) (fun i hi => ?_) (fun s2 hs2 hsb2 => ?_)
        · rw [Nat.zero_add, hh1]; unfold outF catB
          by_cases h : i < 64
          · rw [if_pos h, if_pos h]; exact (if_pos h).symm
          · rw [if_neg h, if_neg h]
        · unfold outF; split
          · exact xorB_lt _ _
          · exact hsb1 _
        rw [rowL]
        conv => whnf
        repeat (refine ⟨⟨_, rfl⟩, ?_⟩; conv => whnf)
        have e9 : s2 = M := by rw [hs2, hM, hs1]
        subst e9
        exact outRow2 rfl
theorem S_RMac {m : Mem} {x y : AV} {n k : Nat} {f g : Nat → Int} {K : AV → Mem → Prop} (hx : Shows m x n f) (hy : Shows m y k g) (hn : n ≤ 900000) (hk : k ≤ 900000) (hf : ∀ i, i < n → 0 ≤ f i ∧ f i ≤ 255) (hg : ∀ i, i < k → 0 ≤ g i ∧ g i ≤ 255)
    (h : ∀ s, s = macB n f k g → (∀ i, 0 ≤ s i ∧ s i ≤ 255) → K (.agg (rowL s)) m) : ACall Pg F_witanref04_Mac [x, y] m K := by
  obtain ⟨c1, h1⟩ := hx
  obtain ⟨c2, h2⟩ := hy
  refine lift_flat (S_RMac0 n c1 f k c2 g hn hk hf hg) (.cons _ _ _ _ h1 (.cons _ _ _ _ h2 .nil)) ?_
  rintro v rfl
  exact h _ rfl (sumB_lt _ _)
end Go.Proofs.Ytdeholmpcbakbaa
end

section
/- The keyed sum of the program; no condition. -/
set_option linter.unusedVariables false
set_option linter.unusedSimpArgs false
set_option maxRecDepth 100000
set_option pp.maxSteps 300
namespace Go.Proofs.Ytdeholmpcbakbaa
open Go Go.Wit

set_option maxHeartbeats 1000000 in
theorem S_Mac0 (n c1 : Nat) (f : Nat → Int) (k c2 : Nat) (g : Nat → Int) (hn : n ≤ 900000) (hk : k ≤ 900000) (hf : ∀ i, i < n → 0 ≤ f i ∧ f i ≤ 255) (hg : ∀ i, i < k → 0 ≤ g i ∧ g i ≤ 255) :
    ACall Pg F_sha_Mac [.vsl 1 n c1 (bytesG f), .vsl 1 k c2 (bytesG g)] [] (fun v _ => v = .agg (rowL (macB n f k g)) ∧ Flat true v) := by
  have hP : ∀ i, 64 < n → keyP n f i = if i < 32 then sumB n f i else 0 := fun i h => by simp only [keyP, keyN, keyG, if_pos h]
  have hP' : ∀ i, ¬ 64 < n → keyP n f i = if i < n then f i else 0 := fun i h => by simp only [keyP, keyN, keyG, if_neg h]
  have hM : macB n f k g = sumB 96 (outF (keyP n f) (sumB (64 + k) (inF (keyP n f) g))) := rfl
  generalize keyP n f = P at *
  generalize hM2 : macB n f k g = M at *
  refine B_sha_Mac ⟨rfl, ?_⟩
  conv => whnf
  repeat (refine ⟨⟨_, rfl⟩, ?_⟩; conv => whnf)
  refine condB_mk (fun hc => ?_) (fun hc => ?_)
  · have hc : 64 < n := by simp at hc; omega
    conv => whnf
    repeat (refine ⟨⟨_, rfl⟩, ?_⟩; conv => whnf)
    refine S_SumR (f := f) Shows.vsl (by omega) hf (fun s hs hsb => ?_)
    rw [rowL]
    conv => whnf
    repeat (refine ⟨⟨_, rfl⟩, ?_⟩; conv => whnf)
    refine loop_wk mixed (I := fun q l m => ∃ (j : Nat), l = [(1, .vsl 1 k c2 (bytesG g)), (4, .ptr 0 0 0), (6, .sl 1 0 64 64), (7, .sl 2 0 64 64), (25, .int .i64 (64 : Nat)), (26, .int .i64 j)] ∧
        m = [some ⟨1, 32, fun _ _ => .int .u8 0⟩, some ⟨1, 64, bytesG (fun i => if i < j then xorB (P i) 54 else P i)⟩, some ⟨1, 64, bytesG (fun i => if i < j then xorB (P i) 92 else P i)⟩] ∧ q + j = 64) 64
      (l0 := [(1, .vsl 1 k c2 (bytesG g)), (4, .ptr 0 0 0), (6, .sl 1 0 64 64), (7, .sl 2 0 64 64), (25, .int .i64 (64 : Nat)), (26, .int .i64 (0 : Nat))]) (m0 := [some ⟨1, 32, fun _ _ => .int .u8 0⟩, some ⟨1, 64, bytesG (fun i => if i < 0 then xorB (P i) 54 else P i)⟩, some ⟨1, 64, bytesG (fun i => if i < 0 then xorB (P i) 92 else P i)⟩]) [some 0, some 2, some 3] ⟨0, rfl, rfl, rfl⟩ ?_ ?_
    · refine .mk0 ⟨.eq _ _ rfl (.vsl _ _ _ _ rfl (fun _ _ _ _ => .int _ _)), .ptr _ _ _ _ rfl, .sl _ _ _ _ _ rfl, .sl _ _ _ _ _ rfl, Flat.i rfl, Flat.i rfl, trivial⟩ ⟨.old 0 0 _ _ rfl rfl ⟨rfl, Nat.le_refl _, fun i j hi hj => oneU0 hj rfl⟩, .old 1 2 _ _ rfl rfl ⟨rfl, Nat.le_refl _, fun i j hi hj => ?_⟩, .old 2 3 _ _ rfl rfl ⟨rfl, Nat.le_refl _, fun i j hi hj => ?_⟩, trivial⟩ rfl rfl
      · have hj : j < 1 := hj
        obtain rfl : j = 0 := by omega
        exact keyW2 (P := P) (s := s) (a := fun i => xorB (P i) 54) hj (by rw [hP i hc, hs]) rfl
      · have hj : j < 1 := hj
        obtain rfl : j = 0 := by omega
        exact keyW2 (P := P) (s := s) (a := fun i => xorB (P i) 92) hj (by rw [hP i hc, hs]) rfl
    · rintro q l m ⟨j, rfl, rfl, hq⟩
      conv => whnf
      repeat (refine ⟨⟨_, rfl⟩, ?_⟩; conv => whnf)
      refine condB_mk (fun hb => ?_) (fun hb => ?_)
      · have hb : j < 64 := by simp at hb; omega
        conv => whnf
        repeat (refine ⟨⟨_, rfl⟩, ?_⟩; conv => whnf)
        refine condB_ok (by simp; omega) ?_
        conv => whnf
        repeat (refine ⟨⟨_, rfl⟩, ?_⟩; conv => whnf)
        simp only [Int.toNat_natCast, Nat.zero_add]
        refine condB_ok (by simp [roomG, Nat.ble_eq]; omega) ?_
        conv => whnf
        repeat (refine ⟨⟨_, rfl⟩, ?_⟩; conv => whnf)
        refine condB_ok (by simp; omega) ?_
        conv => whnf
        repeat (refine ⟨⟨_, rfl⟩, ?_⟩; conv => whnf)
        simp only [Int.toNat_natCast, Nat.zero_add]
        refine condB_ok (by simp [roomG, Nat.ble_eq]; omega) ?_
        conv => whnf
        repeat (refine ⟨⟨_, rfl⟩, ?_⟩; conv => whnf)
        refine condB_ok (by simp; omega) ?_
        conv => whnf
        repeat (refine ⟨⟨_, rfl⟩, ?_⟩; conv => whnf)
        simp only [Int.toNat_natCast, Nat.zero_add]
        refine condB_ok (by simp [roomG, Nat.ble_eq]; omega) ?_
        conv => whnf
        repeat (refine ⟨⟨_, rfl⟩, ?_⟩; conv => whnf)
        refine condB_ok (by simp; omega) ?_
        conv => whnf
        repeat (refine ⟨⟨_, rfl⟩, ?_⟩; conv => whnf)
        simp only [Int.toNat_natCast, Nat.zero_add]
        refine condB_ok (by simp [roomG, Nat.ble_eq]; omega) ?_
        conv => whnf
        repeat (refine ⟨⟨_, rfl⟩, ?_⟩; conv => whnf)
        have e5 : IntKind.i64.wrap ((j : Int) + 1) = ((j + 1 : Nat) : Int) := by rw [w64 (by omega) (by omega)]; omega
        have e6 : ∀ x, bitsV .xor .u8 (if j < j then x else P j) 54 = xorB (P j) 54 := fun x => by rw [if_neg (Nat.lt_irrefl _)]; rfl
        have e7 : ∀ x, bitsV .xor .u8 (if j < j then x else P j) 92 = xorB (P j) 92 := fun x => by rw [if_neg (Nat.lt_irrefl _)]; rfl
        refine ⟨q - 1, [(1, .vsl 1 k c2 (bytesG g)), (4, .ptr 0 0 0), (6, .sl 1 0 64 64), (7, .sl 2 0 64 64), (25, .int .i64 (64 : Nat)), (26, .int .i64 ((j + 1 : Nat) : Int))], [some ⟨1, 32, fun _ _ => .int .u8 0⟩, some ⟨1, 64, bytesG (fun i => if i < j + 1 then xorB (P i) 54 else P i)⟩, some ⟨1, 64, bytesG (fun i => if i < j + 1 then xorB (P i) 92 else P i)⟩], [some 0, some 1, some 2], by omega, ⟨j + 1, rfl, rfl, by omega⟩, ?_⟩
        refine .mk0 ⟨.eq _ _ rfl (.vsl _ _ _ _ rfl (fun _ _ _ _ => .int _ _)), .ptr _ _ _ _ rfl, .sl _ _ _ _ _ rfl, .sl _ _ _ _ _ rfl, Flat.i rfl, Flat.i e5, trivial⟩ ⟨.old 0 0 _ _ rfl rfl ⟨rfl, Nat.le_refl _, fun i j hi hj => .eq _ _ rfl (.int _ _)⟩, .old 1 1 _ _ rfl rfl ⟨rfl, Nat.le_refl _, fun a b ha hb => ?_⟩, .old 2 2 _ _ rfl rfl ⟨rfl, Nat.le_refl _, fun a b ha hb => ?_⟩, trivial⟩ rfl rfl
        · exact updB (a := fun i => xorB (P i) 54) (z := P) hb (e6 _) rfl
        · exact updB (a := fun i => xorB (P i) 92) (z := P) hb (e7 _) rfl
      · have hb : j = 64 := by simp at hb; omega
        subst hb
        conv => whnf
        repeat (refine ⟨⟨_, rfl⟩, ?_⟩; conv => whnf)
        refine condB_ok (app_ok (by simp) rfl rfl (by omega) (by omega)) (fun cap1 hcap1 => ?_)
        conv => whnf
        repeat (refine ⟨⟨_, rfl⟩, ?_⟩; conv => whnf)
        refine S_SumR (n := 64 + k) (f := inF P g) (Shows.any rfl (by simp) (fun i hi => ?_)) (by omega) (fun i hi => ?_) (fun s1 hs1 hsb1 => ?_)
        · exact catP (fun i h => by simp only [inF, if_pos h]) (fun i h => by simp only [inF]; rw [if_neg (by omega), show 64 + i - 64 = i by omega]) (k := k) (fun i h => rfl) hi
        · by_cases h : i < 64
          · simp only [inF, if_pos h]; exact xorB_lt _ _
          · simp only [inF, if_neg h]; exact hg _ (by omega)
        rw [rowL]
        conv => whnf
        repeat (refine ⟨⟨_, rfl⟩, ?_⟩; conv => whnf)
        intro cap2 hcap2
        conv => whnf
        repeat (refine ⟨⟨_, rfl⟩, ?_⟩; conv => whnf)
        refine S_SumR (n := 96) (f := outF P s1) (Shows.any rfl (by simp) (fun i hi => ?_)) (by omega) (fun i hi => ?_) (fun s2 hs2 hsb2 => ?_)
        · exact catP (fun i h => by simp only [outF, if_pos h]) (fun i h => by simp only [outF]; rw [if_neg (by omega), show 64 + i - 64 = i by omega]) (k := 32) (fun i h => rowAt h rfl) hi
        · by_cases h : i < 64
          · simp only [outF, if_pos h]; exact xorB_lt _ _
          · simp only [outF, if_neg h]; exact hsb1 _
        rw [rowL]
        conv => whnf
        repeat (refine ⟨⟨_, rfl⟩, ?_⟩; conv => whnf)
        have e9 : s2 = M := by rw [hs2, hM, hs1]
        subst e9
        exact outRow2 rfl
  · have hc : ¬ 64 < n := by simp at hc; omega
    conv => whnf
    repeat (refine ⟨⟨_, rfl⟩, ?_⟩; conv => whnf)
    refine loop_wk mixed (I := fun q l m => ∃ (j : Nat), l = [(1, .vsl 1 k c2 (bytesG g)), (4, .ptr 0 0 0), (6, .sl 1 0 64 64), (7, .sl 2 0 64 64), (25, .int .i64 (64 : Nat)), (26, .int .i64 j)] ∧
        m = [some ⟨1, 32, fun _ _ => .int .u8 0⟩, some ⟨1, 64, bytesG (fun i => if i < j then xorB (P i) 54 else P i)⟩, some ⟨1, 64, bytesG (fun i => if i < j then xorB (P i) 92 else P i)⟩] ∧ q + j = 64) 64
      (l0 := [(1, .vsl 1 k c2 (bytesG g)), (4, .ptr 0 0 0), (6, .sl 1 0 64 64), (7, .sl 2 0 64 64), (25, .int .i64 (64 : Nat)), (26, .int .i64 (0 : Nat))]) (m0 := [some ⟨1, 32, fun _ _ => .int .u8 0⟩, some ⟨1, 64, bytesG (fun i => if i < 0 then xorB (P i) 54 else P i)⟩, some ⟨1, 64, bytesG (fun i => if i < 0 then xorB (P i) 92 else P i)⟩]) [some 0, some 1, some 2] ⟨0, rfl, rfl, rfl⟩ ?_ ?_
    · refine .mk0 ⟨.eq _ _ rfl (.vsl _ _ _ _ rfl (fun _ _ _ _ => .int _ _)), .ptr _ _ _ _ rfl, .sl _ _ _ _ _ rfl, .sl _ _ _ _ _ rfl, Flat.i rfl, Flat.i rfl, trivial⟩ ⟨.old 0 0 _ _ rfl rfl ⟨rfl, Nat.le_refl _, fun i j hi hj => oneU0 hj rfl⟩, .old 1 1 _ _ rfl rfl ⟨rfl, Nat.le_refl _, fun i j hi hj => ?_⟩, .old 2 2 _ _ rfl rfl ⟨rfl, Nat.le_refl _, fun i j hi hj => ?_⟩, trivial⟩ rfl rfl
      · have hj : j < 1 := hj
        obtain rfl : j = 0 := by omega
        exact keyW1 (P := P) (f := f) (n := n) (a := fun i => xorB (P i) 54) hj (by omega) (hP' i hc) rfl
      · have hj : j < 1 := hj
        obtain rfl : j = 0 := by omega
        exact keyW1 (P := P) (f := f) (n := n) (a := fun i => xorB (P i) 92) hj (by omega) (hP' i hc) rfl
    · rintro q l m ⟨j, rfl, rfl, hq⟩
      conv => whnf
      repeat (refine ⟨⟨_, rfl⟩, ?_⟩; conv => whnf)
      refine condB_mk (fun hb => ?_) (fun hb => ?_)
      · have hb : j < 64 := by simp at hb; omega
        conv => whnf
        repeat (refine ⟨⟨_, rfl⟩, ?_⟩; conv => whnf)
        refine condB_ok (by simp; omega) ?_
        conv => whnf
        repeat (refine ⟨⟨_, rfl⟩, ?_⟩; conv => whnf)
        simp only [Int.toNat_natCast, Nat.zero_add]
        refine condB_ok (by simp [roomG, Nat.ble_eq]; omega) ?_
        conv => whnf
        repeat (refine ⟨⟨_, rfl⟩, ?_⟩; conv => whnf)
        refine condB_ok (by simp; omega) ?_
        conv => whnf
        repeat (refine ⟨⟨_, rfl⟩, ?_⟩; conv => whnf)
        simp only [Int.toNat_natCast, Nat.zero_add]
        refine condB_ok (by simp [roomG, Nat.ble_eq]; omega) ?_
        conv => whnf
        repeat (refine ⟨⟨_, rfl⟩, ?_⟩; conv => whnf)
        refine condB_ok (by simp; omega) ?_
        conv => whnf
        repeat (refine ⟨⟨_, rfl⟩, ?_⟩; conv => whnf)
        simp only [Int.toNat_natCast, Nat.zero_add]
        refine condB_ok (by simp [roomG, Nat.ble_eq]; omega) ?_
        conv => whnf
        repeat (refine ⟨⟨_, rfl⟩, ?_⟩; conv => whnf)
        refine condB_ok (by simp; omega) ?_
        conv => whnf
        repeat (refine ⟨⟨_, rfl⟩, ?_⟩; conv => whnf)
        simp only [Int.toNat_natCast, Nat.zero_add]
        refine condB_ok (by simp [roomG, Nat.ble_eq]; omega) ?_
        conv => whnf
        repeat (refine ⟨⟨_, rfl⟩, ?_⟩; conv => whnf)
        have e5 : IntKind.i64.wrap ((j : Int) + 1) = ((j + 1 : Nat) : Int) := by rw [w64 (by omega) (by omega)]; omega
        have e6 : ∀ x, bitsV .xor .u8 (if j < j then x else P j) 54 = xorB (P j) 54 := fun x => by rw [if_neg (Nat.lt_irrefl _)]; rfl
        have e7 : ∀ x, bitsV .xor .u8 (if j < j then x else P j) 92 = xorB (P j) 92 := fun x => by rw [if_neg (Nat.lt_irrefl _)]; rfl
        refine ⟨q - 1, [(1, .vsl 1 k c2 (bytesG g)), (4, .ptr 0 0 0), (6, .sl 1 0 64 64), (7, .sl 2 0 64 64), (25, .int .i64 (64 : Nat)), (26, .int .i64 ((j + 1 : Nat) : Int))], [some ⟨1, 32, fun _ _ => .int .u8 0⟩, some ⟨1, 64, bytesG (fun i => if i < j + 1 then xorB (P i) 54 else P i)⟩, some ⟨1, 64, bytesG (fun i => if i < j + 1 then xorB (P i) 92 else P i)⟩], [some 0, some 1, some 2], by omega, ⟨j + 1, rfl, rfl, by omega⟩, ?_⟩
        refine .mk0 ⟨.eq _ _ rfl (.vsl _ _ _ _ rfl (fun _ _ _ _ => .int _ _)), .ptr _ _ _ _ rfl, .sl _ _ _ _ _ rfl, .sl _ _ _ _ _ rfl, Flat.i rfl, Flat.i e5, trivial⟩ ⟨.old 0 0 _ _ rfl rfl ⟨rfl, Nat.le_refl _, fun i j hi hj => .eq _ _ rfl (.int _ _)⟩, .old 1 1 _ _ rfl rfl ⟨rfl, Nat.le_refl _, fun a b ha hb => ?_⟩, .old 2 2 _ _ rfl rfl ⟨rfl, Nat.le_refl _, fun a b ha hb => ?_⟩, trivial⟩ rfl rfl
        · exact updB (a := fun i => xorB (P i) 54) (z := P) hb (e6 _) rfl
        · exact updB (a := fun i => xorB (P i) 92) (z := P) hb (e7 _) rfl
      · have hb : j = 64 := by simp at hb; omega
        subst hb
        conv => whnf
        repeat (refine ⟨⟨_, rfl⟩, ?_⟩; conv => whnf)
        refine condB_ok (app_ok (by simp) rfl rfl (by omega) (by omega)) (fun cap1 hcap1 => ?_)
        conv => whnf
        repeat (refine ⟨⟨_, rfl⟩, ?_⟩; conv => whnf)
        refine S_SumR (n := 64 + k) (f := inF P g) (Shows.any rfl (by simp) (fun i hi => ?_)) (by omega) (fun i hi => ?_) (fun s1 hs1 hsb1 => ?_)
        · exact catP (fun i h => by simp only [inF, if_pos h]) (fun i h => by simp only [inF]; rw [if_neg (by omega), show 64 + i - 64 = i by omega]) (k := k) (fun i h => rfl) hi
        · by_cases h : i < 64
          · simp only [inF, if_pos h]; exact xorB_lt _ _
          · simp only [inF, if_neg h]; exact hg _ (by omega)
        rw [rowL]
        conv => whnf
        repeat (refine ⟨⟨_, rfl⟩, ?_⟩; conv => whnf)
        intro cap2 hcap2
        conv => whnf
        repeat (refine ⟨⟨_, rfl⟩, ?_⟩; conv => whnf)
        refine S_SumR (n := 96) (f := outF P s1) (Shows.any rfl (by simp) (fun i hi => ?_)) (by omega) (fun i hi => ?_) (fun s2 hs2 hsb2 => ?_)
        · exact catP (fun i h => by simp only [outF, if_pos h]) (fun i h => by simp only [outF]; rw [if_neg (by omega), show 64 + i - 64 = i by omega]) (k := 32) (fun i h => rowAt h rfl) hi
        · by_cases h : i < 64
          · simp only [outF, if_pos h]; exact xorB_lt _ _
          · simp only [outF, if_neg h]; exact hsb1 _
        rw [rowL]
        conv => whnf
        repeat (refine ⟨⟨_, rfl⟩, ?_⟩; conv => whnf)
        have e9 : s2 = M := by rw [hs2, hM, hs1]
        subst e9
        exact outRow2 rfl

theorem S_Mac {m : Mem} {x y : AV} {n k : Nat} {f g : Nat → Int} {K : AV → Mem → Prop} (hx : Shows m x n f) (hy : Shows m y k g) (hn : n ≤ 900000) (hk : k ≤ 900000) (hf : ∀ i, i < n → 0 ≤ f i ∧ f i ≤ 255) (hg : ∀ i, i < k → 0 ≤ g i ∧ g i ≤ 255)
    (h : ∀ s, s = macB n f k g → (∀ i, 0 ≤ s i ∧ s i ≤ 255) → K (.agg (rowL s)) m) : ACall Pg F_sha_Mac [x, y] m K := by
  obtain ⟨c1, hl⟩ := hx
  obtain ⟨c2, hl2⟩ := hy
  refine lift_flat (S_Mac0 n c1 f k c2 g hn hk hf hg) (.cons _ _ _ _ hl (.cons _ _ _ _ hl2 .nil)) ?_
  rintro v rfl
  exact h _ rfl (sumB_lt _ _)

end Go.Proofs.Ytdeholmpcbakbaa
end

section
/- Streams; no condition. -/
set_option linter.unusedVariables false
set_option linter.unusedSimpArgs false
set_option maxRecDepth 100000
set_option pp.maxSteps 3000
namespace Go.Proofs.Ytdeholmpcbakbaa
open Go Go.Wit

/-- A key's bytes. -/
def stF (k : Nat) (f : Nat → Int) (i : Nat) : Int := macB k f 8 (beF (i / 32 : Nat) 8) (i % 32)
theorem stF_lt {k : Nat} {f : Nat → Int} (i : Nat) : 0 ≤ stF k f i ∧ stF k f i ≤ 255 := sumB_lt _ _ _
theorem stW {nv : Bool} {σ : Nat → Option Nat} {k c i j : Nat} {f : Nat → Int} {s : Nat → Int} {h : Nat → Nat → AV} {A : AV} (hj : j < 1) (hi : i < 32 * (c + 1)) (hs : s = macB k f 8 (beF (c : Nat) 8)) (hA : A = catG (32 * c) (bytesG (stF k f)) h i j) (hh : ∀ t, t < 32 → h t 0 = .int .u8 (s t)) : RV nv σ A (bytesG (stF k f) i j) := by
  subst hA
  obtain rfl : j = 0 := by omega
  refine RV.of ?_ (.int _ _)
  by_cases h1 : i < 32 * c
  · rw [catG_lt h1]
  · rw [catG_ge (by omega), hh _ (by omega), hs]
    show _ = AV.int .u8 (macB k f 8 (beF (i / 32 : Nat) 8) (i % 32))
    rw [show i / 32 = c by omega, show i % 32 = i - 32 * c by omega]

theorem S_DStream0 (k c1 : Nat) (f : Nat → Int) (n : Int) (hk : k ≤ 900000) (hf : ∀ i, i < k → 0 ≤ f i ∧ f i ≤ 255) :
    ACall Pg F_draw_Stream [.vsl 1 k c1 (bytesG f), .int .i64 n] [] (fun v m' => ∃ n' f' x vs, v = .tup (x :: vs) ∧ ((0 ≤ n ∧ n ≤ 65536 ∧ n' = n.toNat ∧ f' = stF k f ∧ vs = [.int .i64 0]) ∨ (¬ (0 ≤ n ∧ n ≤ 65536) ∧ n' = 0 ∧ vs = [.int .i64 4])) ∧ RetB n' f' x m' ∧ Flats true vs) := by
  refine B_draw_Stream ⟨rfl, ?_⟩
  have hbad : ¬ (0 ≤ n ∧ n ≤ 65536) → ∀ m', ∃ n' f' x vs, AV.tup [.nils, .int .i64 4] = .tup (x :: vs) ∧ ((0 ≤ n ∧ n ≤ 65536 ∧ n' = n.toNat ∧ f' = stF k f ∧ vs = [.int .i64 0]) ∨ (¬ (0 ≤ n ∧ n ≤ 65536) ∧ n' = 0 ∧ vs = [.int .i64 4])) ∧ RetB n' f' x m' ∧ Flats true vs := fun h m' =>
    ⟨0, fun _ => 0, .nils, _, rfl, .inr ⟨h, rfl, rfl⟩, .inl ⟨rfl, rfl⟩, .cons _ _ (.int _ _) .nil⟩
  conv => whnf
  repeat (refine ⟨⟨[], rfl⟩, ?_⟩; conv => whnf)
  refine condB_mk (fun h0 => ?_) (fun h0 => ?_)
  rotate_left
  · conv => whnf
    repeat (refine ⟨⟨[], rfl⟩, ?_⟩; conv => whnf)
    exact hbad (by simp at h0; omega) []
  conv => whnf
  repeat (refine ⟨⟨[], rfl⟩, ?_⟩; conv => whnf)
  refine condB_mk (fun h1 => ?_) (fun h1 => ?_)
  · conv => whnf
    repeat (refine ⟨⟨[], rfl⟩, ?_⟩; conv => whnf)
    exact hbad (by simp at h1; omega) []
  obtain ⟨N, rfl⟩ : ∃ N : Nat, n = N := ⟨n.toNat, by simp at h0; omega⟩
  have hN : N ≤ 65536 := by simp at h1; omega
  clear h0 h1 hbad
  conv => whnf
  repeat (refine ⟨⟨[], rfl⟩, ?_⟩; conv => whnf)
  refine loop_wk mixed (I := fun q l m => ∃ (c c' : Nat), l = [(0, .vsl 1 k c1 (bytesG f)), (1, .int .i64 N), (6, .sl 0 0 (32 * c) c'), (7, .int .u64 c)] ∧ m = [some ⟨1, 32 * c, bytesG (stF k f)⟩] ∧ q + c = (N + 31) / 32) ((N + 31) / 32)
    (l0 := [(0, .vsl 1 k c1 (bytesG f)), (1, .int .i64 N), (6, .sl 0 0 (32 * 0) 0), (7, .int .u64 (0 : Nat))]) (m0 := [some ⟨1, 32 * 0, bytesG (stF k f)⟩]) [none] ⟨0, 0, rfl, rfl, rfl⟩ ?_ ?_
  · exact .mk0 ⟨.eq _ _ rfl (.vsl _ _ _ _ rfl (fun _ _ _ _ => .int _ _)), Flat.i rfl, .nils _ _, Flat.i rfl, trivial⟩ ⟨.ph _ _ _ rfl, trivial⟩ rfl rfl
  · rintro q l m ⟨c, c', rfl, rfl, hq⟩
    conv => whnf
    repeat (refine ⟨⟨[], rfl⟩, ?_⟩; conv => whnf)
    refine condB_mk (fun hb => ?_) (fun hb => ?_)
    · have hb : 32 * c < N := by simp at hb; omega
      conv => whnf
      repeat (refine ⟨⟨[], rfl⟩, ?_⟩; conv => whnf)
      refine S_number (s := 8) (x := (c : Int)) (by omega) (by decide) (fun cap2 => ?_)
      conv => whnf
      repeat (refine ⟨⟨[], rfl⟩, ?_⟩; conv => whnf)
      refine S_Mac (f := f) (g := beF c 8) Shows.vsl (Shows.sl rfl (Nat.le_refl 8) fun i hi => by rw [Nat.zero_add]) hk (by decide) hf (fun _ _ => beF_lt) (fun s hs hsb => ?_)
      rw [rowL]
      conv => whnf
      repeat (refine ⟨⟨[], rfl⟩, ?_⟩; conv => whnf)
      refine condB_ok (app_ok (by first | rfl | simp) rfl rfl (by omega) (by omega)) (fun cap4 hcap4 => ?_)
      conv => whnf
      repeat (refine ⟨⟨[], rfl⟩, ?_⟩; conv => whnf)
      have e5 : IntKind.u64.wrap ((c : Int) + 1) = ((c + 1 : Nat) : Int) := by rw [wu64]; omega
      refine ⟨q - 1, [(0, .vsl 1 k c1 (bytesG f)), (1, .int .i64 N), (6, .sl 0 0 (32 * (c + 1)) cap4), (7, .int .u64 ((c + 1 : Nat) : Int))], [some ⟨1, 32 * (c + 1), bytesG (stF k f)⟩], [some 3], by omega, ⟨c + 1, cap4, rfl, rfl, by omega⟩, ?_⟩
      refine .mk0 ⟨.eq _ _ rfl (.vsl _ _ _ _ rfl (fun _ _ _ _ => .int _ _)), Flat.i rfl, .sl _ _ _ _ _ rfl, Flat.i e5, trivial⟩ ⟨.old 0 3 _ _ rfl rfl ⟨rfl, Nat.le_refl _, fun i j hi hj => ?_⟩, trivial⟩ rfl rfl
      dsimp only
      refine stW hj hi hs rfl fun t ht => ?_
      refine rowAtE ht ?_ rfl
      omega
    · have hb : N ≤ 32 * c := by simp at hb; omega
      conv => whnf
      repeat (refine ⟨⟨[], rfl⟩, ?_⟩; conv => whnf)
      refine condB_ok (by simp; omega) ?_
      conv => whnf
      repeat (refine ⟨⟨[], rfl⟩, ?_⟩; conv => whnf)
      refine condB_ok (app_ok rfl (decide_eq_true (by show 0 + 0 + N ≤ 32 * c; omega)) rfl (by show (0 + N) * 1 ≤ 140737488355328; omega) (by show 0 + N ≤ 140737488355328; omega)) (fun cap4 hcap4 => ?_)
      conv => whnf
      repeat (refine ⟨⟨[], rfl⟩, ?_⟩; conv => whnf)
      refine ⟨N, stF k f, _, _, rfl, .inl ⟨by omega, by omega, rfl, rfl, rfl⟩, .inr ⟨2, cap4, 0 + N, _, by rw [Nat.zero_add]; rfl, rfl, by omega, fun i hi => ?_⟩, .cons _ _ (.int _ _) .nil⟩
      dsimp only
      rw [catG_ge (by omega)]
      show bytesG (stF k f) (0 + 0 + (i - 0)) 0 = _
      rw [show 0 + 0 + (i - 0) = i by omega]
      rfl
theorem S_DStream {m : Mem} {x : AV} {K : AV → Mem → Prop} {k : Nat} {f : Nat → Int} {n : Int} (hx : Shows m x k f) (hk : k ≤ 900000) (hf : ∀ i, i < k → 0 ≤ f i ∧ f i ≤ 255)
    (h1 : 0 ≤ n → n ≤ 65536 → ∀ cap, memK (m ++ [some ⟨1, n.toNat, bytesG (stF k f)⟩]) (K (.tup [.sl m.length 0 n.toNat cap, .int .i64 0])))
    (h2 : ¬ (0 ≤ n ∧ n ≤ 65536) → ∀ g cap, memK (m ++ [some ⟨1, 0, bytesG g⟩]) (K (.tup [.sl m.length 0 0 cap, .int .i64 4]))) : ACall Pg F_draw_Stream [x, .int .i64 n] m K := by
  simp only [memK_eq] at h1 h2
  obtain ⟨cap, hl⟩ := hx
  refine lift_tup (S_DStream0 k cap f n hk hf) (.cons _ _ _ _ hl (.cons _ _ _ _ lend_int .nil)) ?_
  rintro n' f' cap' vs (⟨g1, g2, rfl, rfl, rfl⟩ | ⟨h, rfl, rfl⟩)
  · exact h1 g1 g2 cap'
  · exact h2 h f' cap'

theorem S_RStream0 (k c1 : Nat) (f : Nat → Int) (N : Nat) (hN : N ≤ 65536) (hk : k ≤ 900000) (hf : ∀ i, i < k → 0 ≤ f i ∧ f i ≤ 255) :
    ACall Pg F_witanref04_Stream [.vsl 1 k c1 (bytesG f), .int .i64 N] [] (fun v m' => ∃ n' f', (n' = N ∧ f' = stF k f) ∧ RetB n' f' v m') := by
  refine B_witanref04_Stream ⟨rfl, ?_⟩
  conv => whnf
  repeat (refine ⟨⟨[], rfl⟩, ?_⟩; conv => whnf)
  refine loop_wk mixed (I := fun q l m => ∃ (c c' : Nat), l = [(0, .vsl 1 k c1 (bytesG f)), (1, .int .i64 N), (5, .sl 0 0 (32 * c) c'), (6, .int .u64 c)] ∧ m = [some ⟨1, 32 * c, bytesG (stF k f)⟩] ∧ q + c = (N + 31) / 32) ((N + 31) / 32)
    (l0 := [(0, .vsl 1 k c1 (bytesG f)), (1, .int .i64 N), (5, .sl 0 0 (32 * 0) 0), (6, .int .u64 (0 : Nat))]) (m0 := [some ⟨1, 32 * 0, bytesG (stF k f)⟩]) [none] ⟨0, 0, rfl, rfl, rfl⟩ ?_ ?_
  · exact .mk0 ⟨.eq _ _ rfl (.vsl _ _ _ _ rfl (fun _ _ _ _ => .int _ _)), Flat.i rfl, .nils _ _, Flat.i rfl, trivial⟩ ⟨.ph _ _ _ rfl, trivial⟩ rfl rfl
  · rintro q l m ⟨c, c', rfl, rfl, hq⟩
    conv => whnf
    repeat (refine ⟨⟨[], rfl⟩, ?_⟩; conv => whnf)
    refine condB_mk (fun hb => ?_) (fun hb => ?_)
    · have hb : 32 * c < N := by simp at hb; omega
      conv => whnf
      repeat (refine ⟨⟨[], rfl⟩, ?_⟩; conv => whnf)
      refine S_be (s := 8) (x := (c : Int)) (by omega) (by decide) (fun cap2 => ?_)
      conv => whnf
      repeat (refine ⟨⟨[], rfl⟩, ?_⟩; conv => whnf)
      refine S_RMac (f := f) (g := beF c 8) Shows.vsl (Shows.sl rfl (Nat.le_refl 8) fun i hi => by rw [Nat.zero_add]) hk (by decide) hf (fun _ _ => beF_lt) (fun s hs hsb => ?_)
      rw [rowL]
      conv => whnf
      repeat (refine ⟨⟨[], rfl⟩, ?_⟩; conv => whnf)
      refine condB_ok (app_ok (by first | rfl | simp) rfl rfl (by omega) (by omega)) (fun cap4 hcap4 => ?_)
      conv => whnf
      repeat (refine ⟨⟨[], rfl⟩, ?_⟩; conv => whnf)
      have e5 : IntKind.u64.wrap ((c : Int) + 1) = ((c + 1 : Nat) : Int) := by rw [wu64]; omega
      refine ⟨q - 1, [(0, .vsl 1 k c1 (bytesG f)), (1, .int .i64 N), (5, .sl 0 0 (32 * (c + 1)) cap4), (6, .int .u64 ((c + 1 : Nat) : Int))], [some ⟨1, 32 * (c + 1), bytesG (stF k f)⟩], [some 3], by omega, ⟨c + 1, cap4, rfl, rfl, by omega⟩, ?_⟩
      refine .mk0 ⟨.eq _ _ rfl (.vsl _ _ _ _ rfl (fun _ _ _ _ => .int _ _)), Flat.i rfl, .sl _ _ _ _ _ rfl, Flat.i e5, trivial⟩ ⟨.old 0 3 _ _ rfl rfl ⟨rfl, Nat.le_refl _, fun i j hi hj => ?_⟩, trivial⟩ rfl rfl
      dsimp only
      refine stW hj hi hs rfl fun t ht => ?_
      refine rowAtE ht ?_ rfl
      omega
    · have hb : N ≤ 32 * c := by simp at hb; omega
      conv => whnf
      repeat (refine ⟨⟨[], rfl⟩, ?_⟩; conv => whnf)
      refine condB_ok (by simp; omega) ?_
      conv => whnf
      repeat (refine ⟨⟨[], rfl⟩, ?_⟩; conv => whnf)
      exact ⟨N, _, ⟨rfl, rfl⟩, .inr ⟨0, c', 32 * c, _, rfl, rfl, hb, fun i hi => rfl⟩⟩
theorem S_RStream {m : Mem} {x : AV} {K : AV → Mem → Prop} {k N : Nat} {f : Nat → Int} (hx : Shows m x k f) (hN : N ≤ 65536) (hk : k ≤ 900000) (hf : ∀ i, i < k → 0 ≤ f i ∧ f i ≤ 255)
    (h1 : ∀ cap, memK (m ++ [some ⟨1, N, bytesG (stF k f)⟩]) (K (.sl m.length 0 N cap))) : ACall Pg F_witanref04_Stream [x, .int .i64 N] m K := by
  simp only [memK_eq] at h1
  obtain ⟨cap, hl⟩ := hx
  refine lift_bytes (S_RStream0 k cap f N hN hk hf) (.cons _ _ _ _ hl (.cons _ _ _ _ lend_int .nil)) ?_
  rintro n' f' cap' ⟨rfl, rfl⟩
  exact h1 cap'
end Go.Proofs.Ytdeholmpcbakbaa
end

