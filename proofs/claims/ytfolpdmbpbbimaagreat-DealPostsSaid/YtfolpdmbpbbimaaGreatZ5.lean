/- Texts of a proof, one behind the other; the last of these: Parts: a length ahead of bytes; no condition. -/
import Derived.Test.YtfolpdmbpbbimaaGreatZ4
import Derived.Test.YtfolpdmbpbbimaaGreatProg
import Derived.IntWalk
set_option linter.unusedVariables false
set_option linter.unusedSimpArgs false
set_option maxRecDepth 100000
section
set_option maxHeartbeats 1000000
namespace Go.Proofs.YtfolpdmbpbbimaaGreat
open Go Go.Wit
noncomputable def wB:AFun:=⟨2,16,[.cell 4 4 true],
 (sO [oO 4 (.alloc 1 4 [.int .u64 0])] (sO [oM 8 0,oM 9 1,oQ 10 gO [9],oO 11 (.bsl 1 2 [.nils] [(0,1,.t 8),(1,1,.t 10)]),
 ⟨some 12,.call (.c (.fn cQ [])) [.c (.str ⟨#[110,111,110,99,101]⟩),.t 11],none⟩,oM 7 12,oE 13 7 0,oE 14 7 1,oO 5 (.alloc 1 4 [.int .u64 0]),
 oT 1 4 4 5 13,oM 6 14] (sO [oD 15 4 true 5,oT 1 4 4 4 15] .ret)))⟩
theorem vK:BT wB gZ:=fun h=>aD aH Tryz.func114 (by kernel_rfl) (by kernel_rfl) h
noncomputable def aAo:AFun:=⟨1,15,[.t 2],
 (sO [oO 2 (.mv (.c (.nils)))] (sO [oM 3 0,oV 4 .shr 3 .u64 24,oO 5 (.conv .u8 (.t 4)),oM 6 0,oV 7 .shr 6 .u64 16,oO 8 (.conv .u8 (.t 7)),oM 9 0,oV 10 .shr 9 .u64 8,
 oO 11 (.conv .u8 (.t 10)),oM 12 0,oO 13 (.conv .u8 (.t 12)),oO 14 (.bsl 1 4 [.int .u8 0] [(0,1,.t 5),(1,1,.t 8),(2,1,.t 11),(3,1,.t 13)]),oM 2 14] .ret))⟩
theorem zU:BT aAo gO:=fun h=>aD aH Tryz.func115 (by kernel_rfl) (by kernel_rfl) h
noncomputable def A_deal_share:AFun:=⟨4,152,[.cell 8 9 true,.cell 9 4 true,.t 10,.t 11],
 (sO [oO 8 (.alloc 9 1 [.bool false,.int .u64 0,.int .u64 0,.int .u64 0,.int .u64 0,.int .u64 0,.int .u64 0,.int .u64 0,.int .u64 0]),oO 9 (.alloc 1 4 [.int .u64 0]),
 oB 10 false,oI 11 0] (sO [oO 12 (.mv (.c (.fn kQ [])))] (sO [oM 17 0,oQ 18 gM [17],oM 16 18,oE 19 16 0,oE 20 16 1,oO 13 (.alloc 1 4 [.int .u64 0]),
 oT 1 4 4 13 19,oM 11 20] (.seq (sO [oM 21 11,oV 22 .neq 21 .i64 0] (.cond (.t 22) (sO [oM 23 12,oM 24 11,oO 25 (.call (.t 23) [.t 24]),oE 26 25 0,oE 27 25 1,oE 28 25 2,
 oE 29 25 3,oT 9 1 9 8 26,oT 1 4 4 9 27,oM 10 28,oM 11 29] .ret) .skip)) (sO [oM 31 2,oM 32 3,oQ 33 lG [31,32],oM 30 33,oE 34 30 0,oE 35 30 1,oM 14 34,oM 11 35]
 (.seq (.block 0 (sO [oM 37 11,oV 38 .neq 37 .i64 0,oM 36 38] (.cond (.t 36) (sO [oM 39 12,oM 40 11,oO 41 (.call (.t 39) [.t 40]),oE 42 41 0,oE 43 41 1,oE 44 41 2,oE 45 41 3,
 oT 9 1 9 8 42,oT 1 4 4 9 43,oM 10 44,oM 11 45] .ret) (sO [oM 47 1,oM 48 2,oQ 49 gL [47,48],oU 50 49,oM 51 50,oG 52 (.mv (.t 1)) 51 false,oG 53 (.mv (.t 3)) 51 false,
 oG 54 (.call (.c (.fn gL [])) [.t 52,.t 53]) 51 false,oG 55 (.un .not (.t 54)) 51 false,oO 56 (.pick (.t 51) (.c (.bool true)) (.t 55)),oM 57 56,
 oG 58 (.mv (.t 1)) 57 false,oG 59 (.mv (.t 2)) 57 false,oG 60 (.bin .sub (.t 59) (.c (.int .i64 1))) 57 false,oG 61 (.idxA 26 (.t 58) (.t 60)) 57 false,
 oG 62 (.fldA 12 (.t 61)) 57 false,oG 63 (.load 1 false (.t 62)) 57 false,oG 64 (.un .not (.t 63)) 57 false,oO 65 (.pick (.t 57) (.c (.bool true)) (.t 64)),oM 66 65,
 oG 67 (.mv (.t 14)) 66 false,oG 68 (.mv (.t 1)) 66 false,oG 69 (.mv (.t 2)) 66 false,oG 70 (.bin .sub (.t 69) (.c (.int .i64 1))) 66 false,
 oG 71 (.idxA 26 (.t 68) (.t 70)) 66 false,oG 72 (.fldA 13 (.t 71)) 66 false,oG 73 (.load 1 false (.t 72)) 66 false,oG 74 (.len (.t 73)) 66 false,
 oG 75 (.bin .geq (.t 67) (.t 74)) 66 false,oO 76 (.pick (.t 66) (.c (.bool true)) (.t 75)),oM 46 76] (.cond (.t 46) (sO [oM 77 12,oO 78 (.call (.t 77) [.c (.int .i64 5)]),
 oE 79 78 0,oE 80 78 1,oE 81 78 2,oE 82 78 3,oT 9 1 9 8 79,oT 1 4 4 9 80,oM 10 81,oM 11 82] .ret) .skip))))) (sO [oM 83 1,oM 84 2,oV 85 .sub 84 .i64 1,oX 86 26 83 85,
 oD 87 26 true 86,
 ⟨some 15,.alloc 26 1 [.int .i64 0,.bool false,.int .u64 0,.int .u64 0,.int .u64 0,.int .u64 0,.int .u64 0,.int .u64 0,.int .u64 0,.int .u64 0,.str ⟨#[]⟩,.int .i64 0,.bool false,.nils,.nils,.bool false,.bool false,.bool false,.int .u64 0,.int .u64 0,.int .u64 0,.int .u64 0,.int .u64 0,.int .u64 0,.int .u64 0,.int .u64 0],none⟩,
 oS 26 15 87] (sO [oD 89 4 true 13,oF 90 1 15,oD 91 9 true 90,oQ 92 kL [89,91],oM 88 92,oE 93 88 0,oE 94 88 1,oT 9 1 9 8 93,oM 11 94] (.seq (sO [oM 95 11,
 oV 96 .neq 95 .i64 0] (.cond (.t 96) (sO [oM 97 12,oM 98 11,oO 99 (.call (.t 97) [.t 98]),oE 100 99 0,oE 101 99 1,oE 102 99 2,oE 103 99 3,oT 9 1 9 8 100,oT 1 4 4 9 101,
 oM 10 102,oM 11 103] .ret) .skip)) (.seq (.draw [oD 105 9 true 8,oM 106 2,oM 107 3,oF 108 13 15,oD 109 1 false 108,oM 110 14,oX 111 32 109 110,oD 112 32 true 111,
 oQ 113 mJ [105,106,107,112],oM 104 113,oE 114 104 0,oE 115 104 1,oT 1 4 4 9 114,
 oM 11 115] ⟨.all,[],.look 0 (.look 1 (.look 2 (.look 3 (.look 5 (.run 4 true (.run 6 true (.run 7 true (.run 8 false (.look 9 (.look 10 (.look 11 (.run 12 false (.look 13 .done)))))))))))))⟩)
 (.seq (sO [oM 116 11,oV 117 .neq 116 .i64 0] (.cond (.t 117) (sO [oM 118 12,oM 119 11,oO 120 (.call (.t 118) [.t 119]),oE 121 120 0,oE 122 120 1,oE 123 120 2,oE 124 120 3,
 oT 9 1 9 8 121,oT 1 4 4 9 122,oM 10 123,oM 11 124] .ret) .skip)) (.seq (.draw [oF 126 14 15,oD 127 1 false 126,oM 128 3,oQ 129 jN [128],oD 130 4 true 9,
 oQ 131 iF [127,129,130],oM 125 131,oE 132 125 0,oE 133 125 1,oM 10 132,
 oM 11 133] ⟨.all,[],.look 0 (.look 2 (.look 4 (.two true 1 (.run 3 true (.run 5 false (.look 6 (.look 7 (.look 8 (.look 9 (.look 10 .done))))))) 3 (.run 1 true (.run 5 false (.look 6 (.look 7 (.look 8 (.look 9 (.look 10 .done))))))))))⟩)
 (.seq (sO [oM 134 11,oV 135 .neq 134 .i64 0] (.cond (.t 135) (sO [oM 136 12,oM 137 11,oO 138 (.call (.t 136) [.t 137]),oE 139 138 0,oE 140 138 1,oE 141 138 2,oE 142 138 3,
 oT 9 1 9 8 139,oT 1 4 4 9 140,oM 10 141,oM 11 142] .ret) .skip)) (.seq (.draw [oD 143 9 true 8,oD 144 4 true 9,oM 145 10,oM 146 145,oG 147 (.load 4 true (.t 9)) 146 true,
 oG 148 (.call (.c (.fn dJ [])) [.c (.int .i64 1)]) 146 true,oG 149 (.call (.c (.fn iP [])) [.t 147,.t 148]) 146 true,
 oG 150 (.bin .lss (.t 149) (.c (.int .i64 0))) 146 true,oO 151 (.pick (.t 146) (.t 150) (.c (.bool false))),oT 9 1 9 8 143,oT 1 4 4 9 144,oM 10 151,
 oI 11 0] ⟨.all,[],.look 0 (.look 1 (.look 2 (.look 3 (.look 4 (.run 5 true (.run 6 true (.look 7 (.look 8 (.run 9 true (.run 10 true (.look 11 (.look 12 .done))))))))))))⟩)
 .ret))))))))))))))⟩
theorem B_deal_share:BT A_deal_share kV:=fun h=>aD aH Tryz.func123 (by kernel_rfl) (by kernel_rfl) h
noncomputable def A_field_less:AFun:=⟨1,12,[.cell 2 4 true,.t 3],
 (sO [oO 2 (.alloc 1 4 [.int .u64 0]),oB 3 false] (.seq (sO [oM 4 0] (.block 0 (sO [oV 6 .eql 4 .i64 0,oM 5 6] (.cond (.t 5) (sO [
 oO 7 (.build [.int .u64 0,.int .u64 0,.int .u64 0,.int .u64 0] [(0,1,.c (.int .u64 4294968273))]),oT 1 4 4 2 7,oB 3 true] .ret) (sO [oV 9 .eql 4 .i64 1,oM 8 9] (.cond (.t 8)
 (sO [
 oO 10 (.build [.int .u64 0,.int .u64 0,.int .u64 0,.int .u64 0] [(0,1,.c (.int .u64 4624529908474429119)),(1,1,.c (.int .u64 4994812053365940164)),(2,1,.c (.int .u64 1))]),
 oT 1 4 4 2 10,oB 3 true] .ret) .skip)))))) (sO [oO 11 (.build [.int .u64 0,.int .u64 0,.int .u64 0,.int .u64 0] []),oT 1 4 4 2 11,oB 3 false] .ret)))⟩
theorem zP:BT A_field_less dK:=fun h=>aD aH Tryz.func124 (by kernel_rfl) (by kernel_rfl) h
noncomputable def A_limb_Sub:AFun:=⟨2,26,[.cell 4 4 true,.t 5],
 (sO [oO 2 (.box 1 4 (.t 0)),oO 3 (.box 1 4 (.t 1)),oO 4 (.alloc 1 4 [.int .u64 0]),oO 5 (.mv (.c (.int .u64 0)))] (.seq (sO [oI 7 0] (.block 0 (.loop (sO [oV 8 .lss 7 .i64 4]
 (.seq (.cond (.t 8) .skip (.exit 0)) (.seq (.block 1 (sO [oM 9 7,oM 6 9] (.draw [oM 11 6,oM 12 6,oO 13 (.idxP 4 1 (.t 2) (.t 12)),oD 14 1 false 13,oM 15 6,
 oO 16 (.idxP 4 1 (.t 3) (.t 15)),oD 17 1 false 16,oM 18 5,oO 19 (.x64 true zO (.t 14) (.t 17) (.t 18)),oM 10 19,oE 20 10 0,oE 21 10 1,oO 22 (.idxP 4 1 (.t 4) (.t 11)),
 oT 1 4 1 22 20,
 oM 5 21] ⟨.all,[],.look 0 (.look 1 (.look 2 (.look 3 (.look 4 (.look 5 (.look 6 (.look 7 (.run 8 true (.look 9 (.look 10 (.look 11 (.look 12 (.run 13 false (.look 14 .done))))))))))))))⟩)))
 (.ops [oO 23 (.binF .add (.t 7) (.c (.int .i64 1))),oM 7 23]))))))) (sO [oD 24 4 true 4,oM 25 5,oT 1 4 4 4 24,oM 5 25] .ret)))⟩
theorem B_limb_Sub:BT A_limb_Sub fA:=fun h=>aD aH Tryz.func125 (by kernel_rfl) (by kernel_rfl) h
noncomputable def A_field_fold:AFun:=⟨3,51,[.cell 6 4 true],
 (sO [oO 3 (.box 1 4 (.t 0)),oO 4 (.box 1 4 (.t 1)),oO 5 (.box 1 4 (.t 2)),oO 6 (.alloc 1 4 [.int .u64 0])] (.seq (.block 0 (.loop (.seq (sO [oD 12 4 true 4,
 oO 13 (.build [.int .u64 0,.int .u64 0,.int .u64 0,.int .u64 0] []),oO 14 (.eqa [.i,.i,.i,.i] true (.t 12) (.t 13))] (.cond (.t 14) .skip (.exit 0))) (.block 1 (sO [
 oD 16 4 true 4,oD 17 4 true 5,oQ 18 pG [16,17],oM 15 18,oE 19 15 0,oE 20 15 1,oO 7 (.alloc 1 4 [.int .u64 0]),oO 8 (.alloc 1 4 [.int .u64 0]),oT 1 4 4 7 19,
 oT 1 4 4 8 20] (sO [oO 9 (.mv (.c (.int .u64 0)))] (sO [oD 22 4 true 3,oD 23 4 true 7,oQ 24 jM [22,23],oM 21 24,oE 25 21 0,oE 26 21 1,oT 1 4 4 3 25,oM 9 26] (.ops [
 oD 28 4 true 8,oM 29 9,oO 30 (.build [.int .u64 0,.int .u64 0,.int .u64 0,.int .u64 0] [(0,1,.t 29)]),oQ 31 jM [28,30],oM 27 31,oE 32 27 0,oE 33 27 1,
 oT 1 4 4 4 32])))))))) (sO [oO 35 (.build [.int .u64 0,.int .u64 0,.int .u64 0,.int .u64 0] []),oD 36 4 true 5,oQ 37 fA [35,36],oM 34 37,oE 38 34 0,oE 39 34 1,
 oO 10 (.alloc 1 4 [.int .u64 0]),oT 1 4 4 10 38,oM 11 39] (.seq (sO [oD 40 4 true 3,oD 41 4 true 10,oQ 42 iP [40,41],oV 43 .geq 42 .i64 0] (.cond (.t 43) (.ops [
 oD 45 4 true 3,oD 46 4 true 10,oQ 47 fA [45,46],oM 44 47,oE 48 44 0,oE 49 44 1,oT 1 4 4 3 48]) .skip)) (sO [oD 50 4 true 3,oT 1 4 4 6 50] .ret)))))⟩
theorem B_field_fold:BT A_field_fold iE:=fun h=>aD aH Tryz.func126 (by kernel_rfl) (by kernel_rfl) h
noncomputable def A_curve_spread:AFun:=⟨1,15,[.cell 2 12 true],
 (sO [oO 1 (.box 9 1 (.t 0)),oO 2 (.alloc 12 1 (List.replicate 12 (.int .u64 0)))] (.seq (sO [oF 3 0 1,oD 4 1 false 3] (.cond (.t 4) (sO [
 oO 5 (.build [.int .u64 0,.int .u64 0,.int .u64 0,.int .u64 0] [(0,1,.c (.int .u64 1))]),
 oO 6 (.build [.int .u64 0,.int .u64 0,.int .u64 0,.int .u64 0] [(0,1,.c (.int .u64 1))]),oO 7 (.build [.int .u64 0,.int .u64 0,.int .u64 0,.int .u64 0] []),
 oO 8 (.build (List.replicate 12 (.int .u64 0)) [(0,4,.t 5),(4,4,.t 6),(8,4,.t 7)]),oT 12 1 12 2 8] .ret) .skip)) (sO [oF 9 1 1,oD 10 4 true 9,oF 11 5 1,oD 12 4 true 11,
 oO 13 (.build [.int .u64 0,.int .u64 0,.int .u64 0,.int .u64 0] [(0,1,.c (.int .u64 1))]),
 oO 14 (.build (List.replicate 12 (.int .u64 0)) [(0,4,.t 10),(4,4,.t 12),(8,4,.t 13)]),oT 12 1 12 2 14] .ret)))⟩
theorem sU:BT A_curve_spread fJ:=fun h=>aD aH Tryz.func127 (by kernel_rfl) (by kernel_rfl) h
noncomputable def zD:AFun:=⟨2,28,[.cell 4 12 true],
 (sO [oO 2 (.box 12 1 (.t 0)),oO 3 (.box 1 4 (.t 1)),oO 4 (.alloc 12 1 (List.replicate 12 (.int .u64 0)))] (sO [
 oO 7 (.build [.int .u64 0,.int .u64 0,.int .u64 0,.int .u64 0] [(0,1,.c (.int .u64 1))]),
 oO 8 (.build [.int .u64 0,.int .u64 0,.int .u64 0,.int .u64 0] [(0,1,.c (.int .u64 1))]),oO 9 (.build [.int .u64 0,.int .u64 0,.int .u64 0,.int .u64 0] []),
 oO 10 (.build (List.replicate 12 (.int .u64 0)) [(0,4,.t 7),(4,4,.t 8),(8,4,.t 9)]),oO 5 (.alloc 12 1 (List.replicate 12 (.int .u64 0))),oT 12 1 12 5 10] (.seq (sO [
 oD 11 4 true 3,oQ 12 pH [11],oV 13 .sub 12 .i64 1,oM 6 13] (.block 0 (.loop (.seq (sO [oM 14 6,oV 15 .geq 14 .i64 0] (.cond (.t 15) .skip (.exit 0))) (.seq (.block 1
 (sO [oD 18 12 true 5,oQ 19 fZ [18],oT 12 1 12 5 19] (sO [oD 20 4 true 3,oM 21 6,oQ 22 lR [20,21],oV 23 .eql 22 .i64 1] (.cond (.t 23) (.ops [
 oD 24 12 true 5,oD 25 12 true 2,oQ 26 gT [24,25],oT 12 1 12 5 26]) .skip)))) (.ops [oM 16 6,oV 17 .sub 16 .i64 1,oM 6 17])))))) (sO [oD 27 12 true 5,
 oT 12 1 12 4 27] .ret))))⟩
theorem yD:BT zD dE:=fun h=>aD aH Tryz.func128 (by kernel_rfl) (by kernel_rfl) h
noncomputable def zE:AFun:=⟨1,27,[.cell 2 9 true],
 (sO [oO 1 (.box 12 1 (.t 0)),oO 2 (.alloc 9 1 [.bool false,.int .u64 0,.int .u64 0,.int .u64 0,.int .u64 0,.int .u64 0,.int .u64 0,.int .u64 0,.int .u64 0])] (.seq (sO [
 oF 5 8 1,oD 6 4 true 5,oO 7 (.build [.int .u64 0,.int .u64 0,.int .u64 0,.int .u64 0] []),oO 8 (.eqa [.i,.i,.i,.i] false (.t 6) (.t 7))] (.cond (.t 8) (sO [
 oO 9 (.build [.bool false,.int .u64 0,.int .u64 0,.int .u64 0,.int .u64 0,.int .u64 0,.int .u64 0,.int .u64 0,.int .u64 0] [(0,1,.c (.bool true))]),oT 9 1 9 2 9] .ret)
 .skip)) (sO [oF 10 8 1,oD 11 4 true 10,oK 12 mL [.c (.int .i64 0),.t 11],oO 3 (.alloc 1 4 [.int .u64 0]),oT 1 4 4 3 12] (sO [oD 13 4 true 3,oD 14 4 true 3,
 oQ 15 aR [13,14],oO 4 (.alloc 1 4 [.int .u64 0]),oT 1 4 4 4 15] (.seq (.draw [oF 16 0 1,oD 17 4 true 16,oD 18 4 true 4,oQ 19 aR [17,18],oF 20 4 1,
 oD 21 4 true 20,oD 22 4 true 4,oD 23 4 true 3,oQ 24 aR [22,23],oQ 25 aR [21,24],
 oO 26 (.build [.bool false,.int .u64 0,.int .u64 0,.int .u64 0,.int .u64 0,.int .u64 0,.int .u64 0,.int .u64 0,.int .u64 0] [(1,4,.t 19),(5,4,.t 25)]),
 oT 9 1 9 2 26] ⟨.all,[],.look 0 (.look 1 (.look 2 (.look 4 (.look 5 (.look 6 (.look 7 (.run 3 true (.run 8 true (.run 9 true (.look 10 (.run 11 false .done)))))))))))⟩)
 .ret)))))⟩
theorem yE:BT zE dZ:=fun h=>aD aH Tryz.func129 (by kernel_rfl) (by kernel_rfl) h
noncomputable def A_deal_number:AFun:=⟨2,13,[.t 4],
 (sO [oB 4 false] (sO [oM 5 1,oV 6 .geq 5 .i64 1,oM 7 6,oG 8 (.mv (.t 1)) 7 true,oG 9 (.mv (.t 0)) 7 true,oG 10 (.len (.t 9)) 7 true,oG 11 (.bin .leq (.t 8) (.t 10)) 7 true,
 oO 12 (.pick (.t 7) (.t 11) (.c (.bool false))),oM 4 12] .ret))⟩
theorem B_deal_number:BT A_deal_number gL:=fun h=>aD aH Tryz.func130 (by kernel_rfl) (by kernel_rfl) h
noncomputable def A_pair_Key:AFun:=⟨2,11,[.cell 4 9 true,.t 5],
 (sO [oO 2 (.box 1 4 (.t 0)),oO 3 (.box 9 1 (.t 1)),
 oO 4 (.alloc 9 1 [.bool false,.int .u64 0,.int .u64 0,.int .u64 0,.int .u64 0,.int .u64 0,.int .u64 0,.int .u64 0,.int .u64 0]),oI 5 0] (sO [oD 6 4 true 2,oD 7 9 true 3,
 oQ 8 dW [6,7],oE 9 8 0,oE 10 8 1,oT 9 1 9 4 9,oM 5 10] .ret))⟩
theorem B_pair_Key:BT A_pair_Key kL:=fun h=>aD aH Tryz.func131 (by kernel_rfl) (by kernel_rfl) h
noncomputable def A_pair_Seal:AFun:=⟨4,18,[.cell 8 32 true,.t 9],
 (sO [oO 4 (.box 9 1 (.t 0)),oO 7 (.box 1 4 (.t 3)),oO 8 (.alloc 1 32 [.int .u8 0]),oI 9 0] (.seq (.draw [oD 10 9 true 4,oM 11 1,oM 12 2,oD 13 4 true 7,oQ 14 kT [13],
 oQ 15 dI [10,11,12,14],oE 16 15 0,oE 17 15 1,oS 32 8 16,
 oM 9 17] ⟨.all,[],.look 0 (.look 1 (.look 2 (.look 3 (.run 4 true (.run 5 false (.look 6 (.look 7 (.run 8 false (.look 9 .done)))))))))⟩) .ret))⟩
theorem B_pair_Seal:BT A_pair_Seal mI:=fun h=>aD aH Tryz.func132 (by kernel_rfl) (by kernel_rfl) h
noncomputable def A_poly_Eval:AFun:=⟨2,23,[.cell 4 4 true],
 (sO [oO 3 (.box 1 4 (.t 1)),oO 4 (.alloc 1 4 [.int .u64 0])] (sO [oO 5 (.alloc 1 4 [.int .u64 0])] (.seq (sO [oM 7 0,oL 8 7,oV 9 .sub 8 .i64 1,oM 6 9] (.block 0 (.loop
 (.seq (sO [oM 10 6,oV 11 .geq 10 .i64 0] (.cond (.t 11) .skip (.exit 0))) (.seq (.block 1 (.draw [oD 14 4 true 5,oD 15 4 true 3,oQ 16 sI [14,15],oM 17 0,oM 18 6,
 oX 19 4 17 18,oD 20 4 true 19,oQ 21 sJ [16,20],
 oT 1 4 4 5 21] ⟨.all,[],.look 0 (.look 1 (.look 3 (.look 4 (.look 5 (.look 6 (.run 2 true (.run 7 false (.run 8 false .done))))))))⟩)) (.ops [oM 12 6,oV 13 .sub 12 .i64 1,
 oM 6 13])))))) (sO [oD 22 4 true 5,oT 1 4 4 4 22] .ret))))⟩
theorem B_poly_Eval:BT A_poly_Eval mH:=fun h=>aD aH Tryz.func133 (by kernel_rfl) (by kernel_rfl) h
noncomputable def A_deal_place:AFun:=⟨1,6,[.cell 2 4 true],
 (sO [oO 2 (.alloc 1 4 [.int .u64 0])] (sO [oM 3 0,oO 4 (.conv .u64 (.t 3)),oO 5 (.build [.int .u64 0,.int .u64 0,.int .u64 0,.int .u64 0] [(0,1,.t 4)]),oT 1 4 4 2 5] .ret))⟩
theorem B_deal_place:BT A_deal_place jN:=fun h=>aD aH Tryz.func134 (by kernel_rfl) (by kernel_rfl) h
noncomputable def A_feld_Commit:AFun:=⟨1,23,[.t 2,.t 3],
 (sO [oO 2 (.mv (.c (.nils))),oI 3 0] (.seq (sO [oM 7 0,oL 8 7,oV 9 .gtr 8 .i64 64] (.cond (.t 9) (sO [oO 2 (.mv (.c (.nils))),oI 3 4] .ret) .skip)) (sO [oO 4 (.mv (.c (.nils)))]
 (.seq (sO [oM 10 0,oL 11 10,oI 12 0] (.block 0 (.loop (sO [oW 13 .lss 12 11] (.seq (.cond (.t 13) .skip (.exit 0)) (.seq (.block 1 (sO [oX 14 4 10 12,oD 15 4 true 14,
 oO 6 (.alloc 1 4 [.int .u64 0]),oT 1 4 4 6 15] (.ops [oM 16 4,oD 17 4 true 6,oQ 18 fI [17],
 oO 19 (.bsl 9 1 [.bool false,.int .u64 0,.int .u64 0,.int .u64 0,.int .u64 0,.int .u64 0,.int .u64 0,.int .u64 0,.int .u64 0] [(0,9,.t 18)]),
 oO 20 (.app 9 72 (.t 16) (.t 19)),oM 4 20]))) (.ops [oV 21 .add 12 .i64 1,oM 12 21]))))))) (sO [oM 22 4,oM 2 22,oI 3 0] .ret)))))⟩
theorem B_feld_Commit:BT A_feld_Commit lH:=fun h=>aD aH Tryz.func135 (by kernel_rfl) (by kernel_rfl) h
noncomputable def tW:AFun:=⟨1,20,[.t 2],
 (sO [oO 2 (.mv (.c (.nils)))] (sO [oO 3 (.mv (.c (.nils)))] (.seq (sO [oI 4 0] (.block 0 (.loop (.seq (sO [oM 5 4,oM 6 0,oL 7 6,oW 8 .lss 5 7] (.cond (.t 8) .skip (.exit 0)))
 (.seq (.block 1 (.ops [oM 11 3,oM 12 0,oM 13 4,oX 14 4 12 13,oD 15 4 true 14,oQ 16 cE [15],
 oO 17 (.bsl 9 1 [.bool false,.int .u64 0,.int .u64 0,.int .u64 0,.int .u64 0,.int .u64 0,.int .u64 0,.int .u64 0,.int .u64 0] [(0,9,.t 16)]),
 oO 18 (.app 9 72 (.t 11) (.t 17)),oM 3 18])) (.ops [oM 9 4,oV 10 .add 9 .i64 1,oM 4 10])))))) (sO [oM 19 3,oM 2 19] .ret))))⟩
theorem tK:BT tW gF:=fun h=>aD aH Tryz.func136 (by kernel_rfl) (by kernel_rfl) h
noncomputable def yK:AFun:=⟨4,32,[.cell 8 32 true],
 (sO [oO 4 (.box 9 1 (.t 0)),oO 7 (.box 1 4 (.t 3)),oO 8 (.alloc 1 32 [.int .u8 0])] (sO [oD 12 4 true 7,oQ 13 fF [12],oO 9 (.alloc 1 32 [.int .u8 0]),oS 32 9 13]
 (sO [oD 14 9 true 4,oM 15 1,oM 16 2,oQ 17 gE [14,15,16],oM 10 17] (.seq (sO [oI 11 0] (.block 0 (.loop (.seq (sO [oM 18 11,oV 19 .lss 18 .i64 32]
 (.cond (.t 19) .skip (.exit 0))) (.seq (.block 1 (.draw [oM 22 11,oO 23 (.idxP 32 1 (.t 9) (.t 22)),oD 24 1 false 23,oM 25 10,oM 26 11,oX 27 1 25 26,oD 28 1 false 27,
 oW 29 .xor 24 28,oO 30 (.idxP 32 1 (.t 9) (.t 22)),
 oS 1 30 29] ⟨.all,[],.look 0 (.look 1 (.look 2 (.look 3 (.look 4 (.look 5 (.look 6 (.look 7 (.look 8 (.run 9 false .done)))))))))⟩)) (.ops [oM 20 11,oV 21 .add 20 .i64 1,
 oM 11 21])))))) (sO [oD 31 32 true 9,oS 32 8 31] .ret)))))⟩
theorem xP:BT yK fR:=fun h=>aD aH Tryz.func137 (by kernel_rfl) (by kernel_rfl) h
noncomputable def yO:AFun:=⟨2,23,[.cell 4 4 true],
 (sO [oO 3 (.box 1 4 (.t 1)),oO 4 (.alloc 1 4 [.int .u64 0])] (sO [oO 5 (.alloc 1 4 [.int .u64 0])] (.seq (sO [oM 7 0,oL 8 7,oV 9 .sub 8 .i64 1,oM 6 9] (.block 0 (.loop
 (.seq (sO [oM 10 6,oV 11 .geq 10 .i64 0] (.cond (.t 11) .skip (.exit 0))) (.seq (.block 1 (.draw [oD 14 4 true 5,oD 15 4 true 3,oQ 16 dP [14,15],oM 17 0,oM 18 6,
 oX 19 4 17 18,oD 20 4 true 19,oQ 21 jB [16,20],
 oT 1 4 4 5 21] ⟨.all,[],.look 0 (.look 1 (.look 3 (.look 4 (.look 5 (.look 6 (.run 2 true (.run 7 false (.run 8 false .done))))))))⟩)) (.ops [oM 12 6,oV 13 .sub 12 .i64 1,
 oM 6 13])))))) (sO [oD 22 4 true 5,oT 1 4 4 4 22] .ret))))⟩
theorem xS:BT yO fT:=fun h=>aD aH Tryz.func138 (by kernel_rfl) (by kernel_rfl) h
noncomputable def A_field_Add:AFun:=⟨3,30,[.cell 6 4 true],
 (sO [oO 4 (.box 1 4 (.t 1)),oO 5 (.box 1 4 (.t 2)),oO 6 (.alloc 1 4 [.int .u64 0])] (sO [oM 12 0,oQ 13 dK [12],oM 11 13,oE 14 11 0,oE 15 11 1,
 oO 7 (.alloc 1 4 [.int .u64 0]),oT 1 4 4 7 14,oM 8 15] (.seq (sO [oM 16 8,oU 17 16] (.cond (.t 17) (sO [oO 18 (.build [.int .u64 0,.int .u64 0,.int .u64 0,.int .u64 0] []),
 oT 1 4 4 6 18] .ret) .skip)) (sO [oD 20 4 true 4,oD 21 4 true 5,oQ 22 jM [20,21],oM 19 22,oE 23 19 0,oE 24 19 1,oO 9 (.alloc 1 4 [.int .u64 0]),oT 1 4 4 9 23,oM 10 24]
 (sO [oD 25 4 true 9,oM 26 10,oO 27 (.build [.int .u64 0,.int .u64 0,.int .u64 0,.int .u64 0] [(0,1,.t 26)]),oD 28 4 true 7,oQ 29 iE [25,27,28],oT 1 4 4 6 29]
 .ret)))))⟩
theorem B_field_Add:BT A_field_Add gK:=fun h=>aD aH Tryz.func139 (by kernel_rfl) (by kernel_rfl) h
noncomputable def yX:AFun:=⟨3,28,[.cell 6 4 true],
 (sO [oO 4 (.box 1 4 (.t 1)),oO 5 (.box 1 4 (.t 2)),oO 6 (.alloc 1 4 [.int .u64 0])] (.seq (sO [oM 9 0,oQ 10 cN [9],oU 11 10] (.cond (.t 11) (sO [
 oO 12 (.build [.int .u64 0,.int .u64 0,.int .u64 0,.int .u64 0] []),oT 1 4 4 6 12] .ret) .skip)) (.seq (.draw [oM 14 0,oD 15 4 true 4,oQ 16 cO [14,15],oM 17 0,
 oD 18 4 true 5,oQ 19 cO [17,18],oQ 20 dR [16,19],oM 13 20,oE 21 13 0,oE 22 13 1,oO 7 (.alloc 1 4 [.int .u64 0]),oS 4 7 21,
 oM 8 22] ⟨.all,[(10,some 11)],.look 0 (.look 1 (.look 3 (.look 4 (.run 2 true (.run 5 true (.run 6 true (.look 7 (.look 8 (.pre 10 11 (.look 9 (.fill (.look 12 .done))))))))))))⟩)
 (sO [oM 23 0,oD 24 4 true 7,oM 25 8,oO 26 (.build [.int .u64 0,.int .u64 0,.int .u64 0,.int .u64 0] [(0,1,.t 25)]),oQ 27 bM [23,24,26],oT 1 4 4 6 27]
 .ret))))⟩
theorem pM:BT yX cD:=fun h=>aD aH Tryz.func140 (by kernel_rfl) (by kernel_rfl) h
noncomputable def A_curve_base:AFun:=⟨0,4,[.cell 0 9 true],
 (sO [oO 0 (.alloc 9 1 [.bool false,.int .u64 0,.int .u64 0,.int .u64 0,.int .u64 0,.int .u64 0,.int .u64 0,.int .u64 0,.int .u64 0])] (sO [
 oO 1 (.build [.int .u64 0,.int .u64 0,.int .u64 0,.int .u64 0] [(0,1,.c (.int .u64 6481385041966929816)),(1,1,.c (.int .u64 188021827762530521)),(2,1,.c (.int .u64 6170039885052185351)),(3,1,.c (.int .u64 8772561819708210092))]),
 oO 2 (.build [.int .u64 0,.int .u64 0,.int .u64 0,.int .u64 0] [(0,1,.c (.int .u64 11261198710074299576)),(1,1,.c (.int .u64 18237243440184513561)),(2,1,.c (.int .u64 6747795201694173352)),(3,1,.c (.int .u64 5204712524664259685))]),
 oO 3 (.build [.bool false,.int .u64 0,.int .u64 0,.int .u64 0,.int .u64 0,.int .u64 0,.int .u64 0,.int .u64 0,.int .u64 0] [(1,4,.t 1),(5,4,.t 2)]),oT 9 1 9 0 3]
 .ret))⟩
theorem B_curve_base:BT A_curve_base nE:=fun h=>aD aH Tryz.func141 (by kernel_rfl) (by kernel_rfl) h
noncomputable def A_feld_points:AFun:=⟨1,15,[.t 2],
 (sO [oB 2 false] (.seq (sO [oM 5 0,oL 6 5,oI 7 0] (.block 0 (.loop (sO [oW 8 .lss 7 6] (.seq (.cond (.t 8) .skip (.exit 0)) (.seq (.block 1 (sO [oX 9 9 5 7,oD 10 9 true 9,
 oO 4 (.alloc 9 1 [.bool false,.int .u64 0,.int .u64 0,.int .u64 0,.int .u64 0,.int .u64 0,.int .u64 0,.int .u64 0,.int .u64 0]),oT 9 1 9 4 10] (sO [oD 11 9 true 4,
 oQ 12 cG [11],oV 13 .neq 12 .i64 0] (.cond (.t 13) (sO [oB 2 false] .ret) .skip)))) (.ops [oV 14 .add 7 .i64 1,oM 7 14]))))))) (sO [oB 2 true] .ret)))⟩
theorem vZ:BT A_feld_points iQ:=fun h=>aD aH Tryz.func142 (by kernel_rfl) (by kernel_rfl) h
noncomputable def A_feld_At:AFun:=⟨2,41,[.cell 4 9 true,.t 5],
 (sO [oO 3 (.box 1 4 (.t 1)),oO 4 (.alloc 9 1 [.bool false,.int .u64 0,.int .u64 0,.int .u64 0,.int .u64 0,.int .u64 0,.int .u64 0,.int .u64 0,.int .u64 0]),oI 5 0]
 (.seq (.block 0 (sO [oM 11 0,oL 12 11,oV 13 .gtr 12 .i64 64,oM 10 13] (.cond (.t 10) (sO [
 oO 14 (.build [.bool false,.int .u64 0,.int .u64 0,.int .u64 0,.int .u64 0,.int .u64 0,.int .u64 0,.int .u64 0,.int .u64 0] []),oT 9 1 9 4 14,oI 5 4] .ret) (sO [oM 16 0,
 oQ 17 iQ [16],oU 18 17,oM 15 18] (.cond (.t 15) (sO [
 oO 19 (.build [.bool false,.int .u64 0,.int .u64 0,.int .u64 0,.int .u64 0,.int .u64 0,.int .u64 0,.int .u64 0,.int .u64 0] []),oT 9 1 9 4 19,oI 5 3] .ret) .skip)))))
 (sO [oO 20 (.build [.bool false,.int .u64 0,.int .u64 0,.int .u64 0,.int .u64 0,.int .u64 0,.int .u64 0,.int .u64 0,.int .u64 0] [(0,1,.c (.bool true))]),
 oO 21 (.build [.int .u64 0,.int .u64 0,.int .u64 0,.int .u64 0] [(0,1,.c (.int .u64 1))]),
 oO 6 (.alloc 9 1 [.bool false,.int .u64 0,.int .u64 0,.int .u64 0,.int .u64 0,.int .u64 0,.int .u64 0,.int .u64 0,.int .u64 0]),oO 7 (.alloc 1 4 [.int .u64 0]),
 oT 9 1 9 6 20,oT 1 4 4 7 21] (.seq (sO [oM 22 0,oL 23 22,oI 24 0] (.block 1 (.loop (sO [oW 25 .lss 24 23] (.seq (.cond (.t 25) .skip (.exit 1)) (.seq (.block 2 (sO [
 oX 26 9 22 24,oD 27 9 true 26,oO 9 (.alloc 9 1 [.bool false,.int .u64 0,.int .u64 0,.int .u64 0,.int .u64 0,.int .u64 0,.int .u64 0,.int .u64 0,.int .u64 0]),
 oT 9 1 9 9 27] (sO [oO 29 (.build [.int .u64 0,.int .u64 0,.int .u64 0,.int .u64 0] [(0,1,.c (.int .u64 1))]),oD 30 9 true 6,oD 31 4 true 7,oD 32 9 true 9,
 oQ 33 mO [29,30,31,32],oM 28 33,oE 34 28 0,oE 35 28 1,oT 9 1 9 6 34] (.ops [oD 36 4 true 7,oD 37 4 true 3,oK 38 eI [.c (.int .i64 1),.t 36,.t 37],
 oT 1 4 4 7 38])))) (.ops [oV 39 .add 24 .i64 1,oM 24 39]))))))) (sO [oD 40 9 true 6,oT 9 1 9 4 40,oI 5 0] .ret)))))⟩
theorem B_feld_At:BT A_feld_At pI:=fun h=>aD aH Tryz.func144 (by kernel_rfl) (by kernel_rfl) h
noncomputable def A_poly_add:AFun:=⟨2,8,[.cell 4 4 true],
 (sO [oO 2 (.box 1 4 (.t 0)),oO 3 (.box 1 4 (.t 1)),oO 4 (.alloc 1 4 [.int .u64 0])] (sO [oD 5 4 true 2,oD 6 4 true 3,oK 7 gK [.c (.int .i64 1),.t 5,.t 6],
 oT 1 4 4 4 7] .ret))⟩
theorem B_poly_add:BT A_poly_add sJ:=fun h=>aD aH Tryz.func147 (by kernel_rfl) (by kernel_rfl) h
noncomputable def A_poly_mul:AFun:=⟨2,8,[.cell 4 4 true],
 (sO [oO 2 (.box 1 4 (.t 0)),oO 3 (.box 1 4 (.t 1)),oO 4 (.alloc 1 4 [.int .u64 0])] (sO [oD 5 4 true 2,oD 6 4 true 3,oK 7 eI [.c (.int .i64 1),.t 5,.t 6],
 oT 1 4 4 4 7] .ret))⟩
theorem B_poly_mul:BT A_poly_mul sI:=fun h=>aD aH Tryz.func148 (by kernel_rfl) (by kernel_rfl) h
noncomputable def A_witanref01_Of:AFun:=⟨1,25,[.cell 2 4 true],
 (sO [oO 1 (.box 1 32 (.t 0)),oO 2 (.alloc 1 4 [.int .u64 0])] (sO [oO 3 (.alloc 1 4 [.int .u64 0])] (.seq (sO [oI 4 0] (.block 0 (.loop (.seq (sO [oM 5 4,oV 6 .lss 5 .i64 32]
 (.cond (.t 6) .skip (.exit 0))) (.seq (.block 1 (.draw [oM 9 4,oV 10 .quo 9 .i64 8,oO 11 (.binF .sub (.c (.int .i64 3)) (.t 10)),oM 12 4,oV 13 .quo 12 .i64 8,
 oO 14 (.binF .sub (.c (.int .i64 3)) (.t 13)),oO 15 (.idxP 4 1 (.t 3) (.t 14)),oD 16 1 false 15,oV 17 .shl 16 .u64 8,oM 18 4,oO 19 (.idxP 32 1 (.t 1) (.t 18)),oD 20 1 false 19,
 oO 21 (.conv .u64 (.t 20)),oW 22 .or 17 21,oO 23 (.idxP 4 1 (.t 3) (.t 11)),
 oT 1 4 1 23 22] ⟨.all,[],.look 0 (.look 1 (.look 2 (.look 3 (.look 4 (.look 5 (.look 6 (.look 7 (.look 8 (.look 9 (.look 10 (.look 11 (.look 12 (.look 13 (.look 14 (.run 15 false .done)))))))))))))))⟩))
 (.ops [oM 7 4,oO 8 (.binF .add (.t 7) (.c (.int .i64 1))),oM 4 8])))))) (sO [oD 24 4 true 3,oT 1 4 4 2 24] .ret))))⟩
theorem B_witanref01_Of:BT A_witanref01_Of eH:=fun h=>aD aH Tryz.func155 (by kernel_rfl) (by kernel_rfl) h
noncomputable def A_bin_Put:AFun:=⟨3,43,[.t 6,.t 7],
 (sO [oO 6 (.mv (.c (.nils))),oI 7 0] (.seq (sO [oM 10 2,oV 11 .lss 10 .i64 1,oM 12 11,oG 13 (.mv (.t 2)) 12 false,oG 14 (.bin .gtr (.t 13) (.c (.int .i64 7))) 12 false,
 oO 15 (.pick (.t 12) (.c (.bool true)) (.t 14)),oM 16 15,oG 17 (.mv (.t 1)) 16 false,oG 18 (.bin .lss (.t 17) (.c (.int .i64 0))) 16 false,
 oO 19 (.pick (.t 16) (.c (.bool true)) (.t 18)),oM 20 19,oG 21 (.mv (.t 1)) 20 false,oG 22 (.mv (.t 2)) 20 false,oG 23 (.call (.c (.fn xK [])) [.t 22]) 20 false,
 oG 24 (.bin .geq (.t 21) (.t 23)) 20 false,oO 25 (.pick (.t 20) (.c (.bool true)) (.t 24))] (.cond (.t 25) (sO [oO 6 (.mv (.c (.nils))),oI 7 1] .ret) .skip)) (sO [oM 26 0,
 oQ 27 dH [26],oM 8 27] (.seq (sO [oM 28 2,oV 29 .sub 28 .i64 1,oM 9 29] (.block 0 (.loop (.seq (sO [oM 30 9,oV 31 .geq 30 .i64 0] (.cond (.t 31) .skip
 (.exit 0))) (.seq (.block 1 (.ops [oM 34 8,oM 35 1,oM 36 9,oO 37 (.bin .mul (.c (.int .i64 8)) (.t 36)),oW 38 .shr 35 37,oO 39 (.conv .u8 (.t 38)),
 oO 40 (.bsl 1 1 [.int .u8 0] [(0,1,.t 39)]),oO 41 (.app 1 1 (.t 34) (.t 40)),oM 8 41])) (.ops [oM 32 9,oV 33 .sub 32 .i64 1,oM 9 33])))))) (sO [oM 42 8,oM 6 42,oI 7 0]
 .ret)))))⟩
theorem B_bin_Put:BT A_bin_Put vJ:=fun h=>aD aH Tryz.func159 (by kernel_rfl) (by kernel_rfl) h
noncomputable def A_curve_Bytes:AFun:=⟨1,28,[.t 2,.t 3],
 (sO [oO 1 (.box 9 1 (.t 0)),oO 2 (.mv (.c (.nils))),oI 3 0] (sO [oD 6 9 true 1,oQ 7 cG [6],oM 4 7] (.seq (.block 0 (sO [oM 9 4,oV 10 .neq 9 .i64 0,oM 8 10]
 (.cond (.t 8) (sO [oM 11 4,oO 2 (.mv (.c (.nils))),oM 3 11] .ret) (sO [oF 13 0 1,oD 14 1 false 13,oM 12 14] (.cond (.t 12) (sO [
 oO 15 (.bsl 1 1 [.int .u8 0] [(0,1,.c (.int .u8 0))]),oM 2 15,oI 3 0] .ret) .skip))))) (sO [oF 16 1 1,oD 17 4 true 16,oQ 18 kT [17],oO 5 (.alloc 1 32 [.int .u8 0]),
 oS 32 5 18] (.seq (.draw [oF 19 5 1,oO 20 (.idxP 4 1 (.t 19) (.c (.int .i64 0))),oD 21 1 false 20,oV 22 .and 21 .u64 1,oO 23 (.bin .add (.c (.int .u64 2)) (.t 22)),
 oO 24 (.conv .u8 (.t 23)),oO 25 (.bsl 1 1 [.int .u8 0] [(0,1,.t 24)]),oO 26 (.slarr 32 1 (.t 5) none none none),oO 27 (.app 1 1 (.t 25) (.t 26)),oM 2 27,
 oI 3 0] ⟨.all,[],.look 0 (.look 1 (.look 2 (.look 3 (.look 4 (.look 5 (.look 7 (.run 6 true (.run 8 false (.look 9 (.look 10 .done))))))))))⟩) .ret)))))⟩
theorem qC:BT A_curve_Bytes fH:=fun h=>aD aH Tryz.func160 (by kernel_rfl) (by kernel_rfl) h
noncomputable def A_limb_Bytes:AFun:=⟨1,24,[.cell 2 32 true],
 (sO [oO 1 (.box 1 4 (.t 0)),oO 2 (.alloc 1 32 [.int .u8 0])] (sO [oO 3 (.alloc 1 32 [.int .u8 0])] (.seq (sO [oI 6 0] (.block 0 (.loop (sO [oV 7 .lss 6 .i64 32]
 (.seq (.cond (.t 7) .skip (.exit 0)) (.seq (.block 1 (sO [oM 8 6,oM 4 8] (sO [oM 9 4,oO 10 (.binF .sub (.c (.int .i64 31)) (.t 9)),oM 5 10] (.ops [oM 11 4,oM 12 5,
 oV 13 .quo 12 .i64 8,oO 14 (.idxP 4 1 (.t 1) (.t 13)),oD 15 1 false 14,oM 16 5,oV 17 .rem 16 .i64 8,oO 18 (.binF .mul (.c (.int .i64 8)) (.t 17)),oW 19 .shr 15 18,
 oO 20 (.conv .u8 (.t 19)),oO 21 (.idxP 32 1 (.t 3) (.t 11)),oT 1 32 1 21 20])))) (.ops [oO 22 (.binF .add (.t 6) (.c (.int .i64 1))),oM 6 22]))))))) (sO [oD 23 32 true 3,
 oT 1 32 32 2 23] .ret))))⟩
theorem B_limb_Bytes:BT A_limb_Bytes kT:=fun h=>aD aH Tryz.func161 (by kernel_rfl) (by kernel_rfl) h
noncomputable def A_curve_mul:AFun:=⟨2,8,[.cell 4 4 true],
 (sO [oO 2 (.box 1 4 (.t 0)),oO 3 (.box 1 4 (.t 1)),oO 4 (.alloc 1 4 [.int .u64 0])] (sO [oD 5 4 true 2,oD 6 4 true 3,oK 7 eI [.c (.int .i64 0),.t 5,.t 6],
 oT 1 4 4 4 7] .ret))⟩
theorem B_curve_mul:BT A_curve_mul aR:=fun h=>aD aH Tryz.func162 (by kernel_rfl) (by kernel_rfl) h
noncomputable def A_curve_right:AFun:=⟨1,10,[.cell 2 4 true],
 (sO [oO 1 (.box 1 4 (.t 0)),oO 2 (.alloc 1 4 [.int .u64 0])] (.seq (.draw [oD 3 4 true 1,oD 4 4 true 1,oQ 5 aR [3,4],oD 6 4 true 1,oQ 7 aR [5,6],
 oO 8 (.build [.int .u64 0,.int .u64 0,.int .u64 0,.int .u64 0] [(0,1,.c (.int .u64 7))]),oQ 9 cK [7,8],
 oT 1 4 4 2 9] ⟨.all,[],.look 0 (.look 1 (.look 3 (.look 5 (.run 2 true (.run 4 true (.run 6 false (.run 7 false .done)))))))⟩) .ret))⟩
theorem B_curve_right:BT A_curve_right lL:=fun h=>aD aH Tryz.func163 (by kernel_rfl) (by kernel_rfl) h
noncomputable def A_pair_turned:AFun:=⟨4,61,[.cell 8 32 true,.t 9],
 (sO [oO 4 (.box 9 1 (.t 0)),oO 7 (.box 1 32 (.t 3)),oO 8 (.alloc 1 32 [.int .u8 0]),oI 9 0] (.seq (sO [oM 14 1,oQ 15 kC [14],oU 16 15,oM 17 16,
 oG 18 (.mv (.t 2)) 17 false,oG 19 (.call (.c (.fn kC [])) [.t 18]) 17 false,oG 20 (.un .not (.t 19)) 17 false,oO 21 (.pick (.t 17) (.c (.bool true)) (.t 20))]
 (.cond (.t 21) (sO [oO 22 (.build (List.replicate 32 (.int .u8 0)) []),oS 32 8 22,oI 9 1] .ret) .skip)) (sO [oD 24 9 true 4,oQ 25 fH [24],oM 23 25,oE 26 23 0,
 oE 27 23 1,oM 10 26,oM 11 27] (.seq (sO [oM 28 11,oV 29 .neq 28 .i64 0] (.cond (.t 29) (sO [oO 30 (.build (List.replicate 32 (.int .u8 0)) []),oM 31 11,oS 32 8 30,oM 9 31] .ret)
 .skip)) (sO [oM 33 10,oM 34 1,oO 35 (.conv .u8 (.t 34)),oM 36 2,oO 37 (.conv .u8 (.t 36)),oO 38 (.bsl 1 2 [.int .u8 0] [(0,1,.t 35),(1,1,.t 37)]),
 oO 39 (.app 1 1 (.t 33) (.t 38)),oK 40 lK [.t 39,.c (.int .i64 32)],oM 32 40,oE 41 32 0,oE 42 32 1,oM 12 41,oM 11 42] (.seq (sO [oM 43 11,oV 44 .neq 43 .i64 0]
 (.cond (.t 44) (sO [oO 45 (.build (List.replicate 32 (.int .u8 0)) []),oM 46 11,oS 32 8 45,oM 9 46] .ret) .skip)) (.seq (sO [oI 47 0] (.block 0 (.loop (sO [
 oV 48 .lss 47 .i64 32] (.seq (.cond (.t 48) .skip (.exit 0)) (.seq (.block 1 (sO [oM 49 47,oM 13 49] (.draw [oM 50 13,oO 51 (.idxP 32 1 (.t 7) (.t 50)),oD 52 1 false 51,
 oM 53 12,oM 54 13,oX 55 1 53 54,oD 56 1 false 55,oW 57 .xor 52 56,oO 58 (.idxP 32 1 (.t 7) (.t 50)),
 oS 1 58 57] ⟨.all,[],.look 0 (.look 1 (.look 2 (.look 3 (.look 4 (.look 5 (.look 6 (.look 7 (.look 8 (.run 9 false .done)))))))))⟩))) (.ops [oV 59 .add 47 .i64 1,
 oM 47 59]))))))) (sO [oD 60 32 true 7,oS 32 8 60,oI 9 0] .ret))))))))⟩
theorem qB:BT A_pair_turned dI:=fun h=>aD aH Tryz.func164 (by kernel_rfl) (by kernel_rfl) h
noncomputable def A_limb_Of:AFun:=⟨1,28,[.cell 2 4 true],
 (sO [oO 1 (.box 1 32 (.t 0)),oO 2 (.alloc 1 4 [.int .u64 0])] (sO [oO 3 (.alloc 1 4 [.int .u64 0])] (.seq (sO [oD 7 32 true 1,oI 8 0] (.block 0 (.loop (sO [oV 9 .lss 8 .i64 32]
 (.seq (.cond (.t 9) .skip (.exit 0)) (.seq (.block 1 (sO [oM 10 8,oO 11 (.idx 32 1 false (.t 7) (.t 8)),oM 4 10,oM 5 11] (sO [oM 12 4,
 oO 13 (.binF .sub (.c (.int .i64 31)) (.t 12)),oM 6 13] (.draw [oM 14 6,oV 15 .quo 14 .i64 8,oO 16 (.idxP 4 1 (.t 3) (.t 15)),oD 17 1 false 16,oM 18 5,
 oO 19 (.conv .u64 (.t 18)),oM 20 6,oV 21 .rem 20 .i64 8,oO 22 (.binF .mul (.c (.int .i64 8)) (.t 21)),oW 23 .shl 19 22,oW 24 .or 17 23,oO 25 (.idxP 4 1 (.t 3) (.t 15)),
 oT 1 4 1 25 24] ⟨.all,[],.look 0 (.look 1 (.look 2 (.look 3 (.look 4 (.look 5 (.look 6 (.look 7 (.look 8 (.look 9 (.look 10 (.look 11 (.run 12 false .done))))))))))))⟩))))
 (.ops [oO 26 (.binF .add (.t 8) (.c (.int .i64 1))),oM 8 26]))))))) (sO [oD 27 4 true 3,oT 1 4 4 2 27] .ret))))⟩
theorem B_limb_Of:BT A_limb_Of mK:=fun h=>aD aH Tryz.func165 (by kernel_rfl) (by kernel_rfl) h
noncomputable def aAv:AFun:=⟨2,8,[.cell 4 4 true],
 (sO [oO 2 (.box 1 4 (.t 0)),oO 3 (.box 1 4 (.t 1)),oO 4 (.alloc 1 4 [.int .u64 0])] (sO [oD 5 4 true 2,oD 6 4 true 3,oK 7 cC [.c (.int .i64 0),.t 5,.t 6],
 oT 1 4 4 4 7] .ret))⟩
theorem aAa:BT aAv aK:=fun h=>aD aH Tryz.func166 (by kernel_rfl) (by kernel_rfl) h
noncomputable def aAw:AFun:=⟨2,8,[.cell 4 4 true],
 (sO [oO 2 (.box 1 4 (.t 0)),oO 3 (.box 1 4 (.t 1)),oO 4 (.alloc 1 4 [.int .u64 0])] (sO [oD 5 4 true 2,oD 6 4 true 3,oK 7 cD [.c (.int .i64 0),.t 5,.t 6],
 oT 1 4 4 4 7] .ret))⟩
theorem aAb:BT aAw bE:=fun h=>aD aH Tryz.func167 (by kernel_rfl) (by kernel_rfl) h
noncomputable def yJ:AFun:=⟨2,24,[.t 4],
 (sO [oO 2 (.box 9 1 (.t 0)),oO 3 (.box 9 1 (.t 1)),oB 4 false] (sO [oF 5 0 2,oD 6 1 false 5,oF 7 0 3,oD 8 1 false 7,oO 9 (.eqb false (.t 6) (.t 8)),oM 10 9,
 oG 11 (.fldA 1 (.t 2)) 10 true,oG 12 (.load 4 true (.t 11)) 10 true,oG 13 (.fldA 1 (.t 3)) 10 true,oG 14 (.load 4 true (.t 13)) 10 true,
 oG 15 (.eqa [.i,.i,.i,.i] false (.t 12) (.t 14)) 10 true,oO 16 (.pick (.t 10) (.t 15) (.c (.bool false))),oM 17 16,oG 18 (.fldA 5 (.t 2)) 17 true,
 oG 19 (.load 4 true (.t 18)) 17 true,oG 20 (.fldA 5 (.t 3)) 17 true,oG 21 (.load 4 true (.t 20)) 17 true,oG 22 (.eqa [.i,.i,.i,.i] false (.t 19) (.t 21)) 17 true,
 oO 23 (.pick (.t 17) (.t 22) (.c (.bool false))),oM 4 23] .ret))⟩
theorem xO:BT yJ iM:=fun h=>aD aH Tryz.func168 (by kernel_rfl) (by kernel_rfl) h
noncomputable def A_witanref06_At:AFun:=⟨2,25,[.cell 4 9 true],
 (sO [oO 3 (.box 1 4 (.t 1)),oO 4 (.alloc 9 1 [.bool false,.int .u64 0,.int .u64 0,.int .u64 0,.int .u64 0,.int .u64 0,.int .u64 0,.int .u64 0,.int .u64 0])] (sO [
 oK 7 dC [],oO 5 (.alloc 9 1 [.bool false,.int .u64 0,.int .u64 0,.int .u64 0,.int .u64 0,.int .u64 0,.int .u64 0,.int .u64 0,.int .u64 0]),oT 9 1 9 5 7]
 (.seq (sO [oM 8 0,oL 9 8,oV 10 .sub 9 .i64 1,oM 6 10] (.block 0 (.loop (.seq (sO [oM 11 6,oV 12 .geq 11 .i64 0] (.cond (.t 12) .skip (.exit 0))) (.seq (.block 1 (.draw [
 oD 15 4 true 3,oK 16 cO [.c (.int .i64 1),.t 15],oD 17 9 true 5,oQ 18 bD [16,17],oM 19 0,oM 20 6,oX 21 9 19 20,oD 22 9 true 21,
 oQ 23 gP [18,22],
 oT 9 1 9 5 23] ⟨.all,[],.look 0 (.look 2 (.look 4 (.look 5 (.look 6 (.look 7 (.run 1 true (.run 3 true (.run 8 false (.run 9 false .done)))))))))⟩)) (.ops [oM 13 6,
 oV 14 .sub 13 .i64 1,oM 6 14])))))) (sO [oD 24 9 true 5,oT 9 1 9 4 24] .ret))))⟩
theorem B_witanref06_At:BT A_witanref06_At kA:=fun h=>aD aH Tryz.func169 (by kernel_rfl) (by kernel_rfl) h
noncomputable def A_curve_Two:AFun:=⟨4,29,[.cell 8 9 true,.t 9],
 (sO [oO 4 (.box 1 4 (.t 0)),oO 5 (.box 9 1 (.t 1)),oO 6 (.box 1 4 (.t 2)),oO 7 (.box 9 1 (.t 3)),
 oO 8 (.alloc 9 1 [.bool false,.int .u64 0,.int .u64 0,.int .u64 0,.int .u64 0,.int .u64 0,.int .u64 0,.int .u64 0,.int .u64 0]),oI 9 0] (.seq (sO [oD 10 9 true 5,
 oQ 11 cG [10],oV 12 .neq 11 .i64 0,oM 13 12,oG 14 (.load 9 true (.t 7)) 13 false,oG 15 (.call (.c (.fn cG [])) [.t 14]) 13 false,
 oG 16 (.bin .neq (.t 15) (.c (.int .i64 0))) 13 false,oO 17 (.pick (.t 13) (.c (.bool true)) (.t 16))] (.cond (.t 17) (sO [
 oO 18 (.build [.bool false,.int .u64 0,.int .u64 0,.int .u64 0,.int .u64 0,.int .u64 0,.int .u64 0,.int .u64 0,.int .u64 0] []),oT 9 1 9 8 18,oI 9 3] .ret) .skip))
 (.seq (.draw [oD 19 9 true 5,oQ 20 fJ [19],oD 21 4 true 4,oQ 22 dE [20,21],oD 23 9 true 7,oQ 24 fJ [23],oD 25 4 true 6,
 oQ 26 dE [24,25],oQ 27 gT [22,26],oQ 28 dZ [27],oT 9 1 9 8 28,
 oI 9 0] ⟨.all,[],.look 0 (.look 2 (.look 4 (.look 6 (.run 1 true (.run 3 true (.run 5 true (.run 7 false (.run 8 false (.run 9 false (.run 10 false (.look 11 .done)))))))))))⟩)
 .ret)))⟩
theorem B_curve_Two:BT A_curve_Two mO:=fun h=>aD aH Tryz.func171 (by kernel_rfl) (by kernel_rfl) h
noncomputable def aBh:AFun:=⟨1,33,[.cell 2 4 true,.t 3],
 (sO [oO 2 (.alloc 1 4 [.int .u64 0]),oI 3 0] (sO [oO 4 (.mv (.c (.nils)))] (.seq (sO [oM 9 0,oL 10 9,oI 11 0] (.block 0 (.loop (sO [oW 12 .lss 11 10] (.seq (.cond (.t 12) .skip
 (.exit 0)) (.seq (.block 1 (sO [oX 13 9 9 11,oD 14 9 true 13,
 oO 6 (.alloc 9 1 [.bool false,.int .u64 0,.int .u64 0,.int .u64 0,.int .u64 0,.int .u64 0,.int .u64 0,.int .u64 0,.int .u64 0]),oT 9 1 9 6 14] (sO [oD 16 9 true 6,
 oQ 17 fH [16],oM 15 17,oE 18 15 0,oE 19 15 1,oM 7 18,oM 8 19] (.seq (sO [oM 20 8,oV 21 .neq 20 .i64 0] (.cond (.t 21) (sO [
 oO 22 (.build [.int .u64 0,.int .u64 0,.int .u64 0,.int .u64 0] []),oM 23 8,oT 1 4 4 2 22,oM 3 23] .ret) .skip)) (.ops [oM 24 4,oM 25 7,
 oO 26 (.bsl 1 1 [.nils] [(0,1,.t 25)]),oO 27 (.app 1 24 (.t 24) (.t 26)),oM 4 27]))))) (.ops [oV 28 .add 11 .i64 1,oM 11 28]))))))) (sO [oM 29 4,
 ⟨some 30,.call (.c (.fn iS [])) [.c (.str ⟨#[100,108,101,113]⟩),.t 29],none⟩,oE 31 30 0,oE 32 30 1,oT 1 4 4 2 31,oM 3 32] .ret))))⟩
theorem aAl:BT aBh jE:=fun h=>aD aH Tryz.func172 (by kernel_rfl) (by kernel_rfl) h
noncomputable def uE:AFun:=⟨2,49,[.t 4,.t 5],
 (sO [oO 4 (.mv (.c (.nils))),oB 5 false] (.seq (sO [oM 8 0,oO 9 (.lens (.t 8)),oV 10 .gtr 9 .i64 65532] (.cond (.t 10) (sO [oO 4 (.mv (.c (.nils))),oB 5 false] .ret) .skip))
 (sO [oM 11 0,oO 12 (.lens (.t 11)),oO 13 (.conv .u64 (.t 12)),oK 14 fV [.t 13,.c (.int .i64 4)],oM 15 0,oO 16 (.sbytes (.t 15)),
 oO 17 (.bsl 1 2 [.nils] [(0,1,.t 14),(1,1,.t 16)]),oQ 18 cS [17],oM 6 18] (.seq (sO [oI 7 0] (.block 0 (.loop (.seq (sO [oM 19 7,oM 20 1,oL 21 20,
 oW 22 .lss 19 21] (.cond (.t 22) .skip (.exit 0))) (.seq (.block 1 (.seq (sO [oM 25 1,oM 26 7,oX 27 1 25 26,oD 28 1 false 27,oL 29 28,oM 30 6,oL 31 30,
 oO 32 (.bin .sub (.c (.int .i64 65532)) (.t 31)),oW 33 .gtr 29 32] (.cond (.t 33) (sO [oO 4 (.mv (.c (.nils))),oB 5 false] .ret) .skip)) (.draw [oM 34 6,oM 35 1,oM 36 7,
 oX 37 1 35 36,oD 38 1 false 37,oL 39 38,oO 40 (.conv .u64 (.t 39)),oK 41 fV [.t 40,.c (.int .i64 4)],oO 42 (.app 1 1 (.t 34) (.t 41)),oM 43 1,oM 44 7,
 oX 45 1 43 44,oD 46 1 false 45,oO 47 (.app 1 1 (.t 42) (.t 46)),
 oM 6 47] ⟨.no,[],.look 0 (.look 1 (.look 2 (.look 3 (.look 4 (.look 5 (.look 6 (.look 9 (.look 10 (.look 11 (.look 12 (.run 7 true (.run 8 true (.run 13 false (.look 14 .done))))))))))))))⟩)))
 (.ops [oM 23 7,oV 24 .add 23 .i64 1,oM 7 24])))))) (sO [oM 48 6,oM 4 48,oB 5 true] .ret)))))⟩
theorem tP:BT uE gI:=fun h=>aD aH Tryz.func173 (by kernel_rfl) (by kernel_rfl) h
noncomputable def uB:AFun:=⟨1,208,[.cell 2 32 true],
 (sO [oO 2 (.alloc 1 32 [.int .u8 0])] (sO [oK 21 fU [],oO 3 (.alloc 1 64 [.int .u32 0]),oS 64 3 21] (sO [
 oO 22 (.build [.int .u32 0,.int .u32 0,.int .u32 0,.int .u32 0,.int .u32 0,.int .u32 0,.int .u32 0,.int .u32 0] [(0,1,.c (.int .u32 1779033703)),(1,1,.c (.int .u32 3144134277)),(2,1,.c (.int .u32 1013904242)),(3,1,.c (.int .u32 2773480762)),(4,1,.c (.int .u32 1359893119)),(5,1,.c (.int .u32 2600822924)),(6,1,.c (.int .u32 528734635)),(7,1,.c (.int .u32 1541459225))]),
 oO 4 (.alloc 1 8 [.int .u32 0]),oS 8 4 22] (sO [oM 23 0,oQ 24 gH [23],oM 5 24] (.seq (sO [oI 6 0] (.block 0 (.loop (.seq (sO [oM 25 6,oM 26 5,oL 27 26,
 oW 28 .lss 25 27] (.cond (.t 28) .skip (.exit 0))) (.seq (.block 1 (sO [oO 7 (.alloc 1 64 [.int .u32 0])] (.seq (sO [oI 8 0] (.block 2 (.loop (.seq (sO [oM 31 8,
 oV 32 .lss 31 .i64 64] (.cond (.t 32) .skip (.exit 2))) (.seq (.block 3 (.seq (sO [oM 35 8,oV 36 .lss 35 .i64 16] (.cond (.t 36) (.seq (sO [oI 9 0] (.block 4 (.loop (.seq (sO [
 oM 37 9,oV 38 .lss 37 .i64 4] (.cond (.t 38) .skip (.exit 4))) (.seq (.block 5 (.draw [oM 41 8,oM 42 8,oO 43 (.idxP 64 1 (.t 7) (.t 42)),oD 44 1 false 43,oV 45 .shl 44 .u64 8,
 oM 46 5,oM 47 6,oM 48 8,oO 49 (.bin .mul (.c (.int .i64 4)) (.t 48)),oW 50 .add 47 49,oM 51 9,oW 52 .add 50 51,oX 53 1 46 52,oD 54 1 false 53,oO 55 (.conv .u32 (.t 54)),
 oW 56 .or 45 55,oO 57 (.idxP 64 1 (.t 7) (.t 41)),
 oS 1 57 56] ⟨.all,[],.look 0 (.look 1 (.look 2 (.look 3 (.look 4 (.look 5 (.look 6 (.look 7 (.look 8 (.look 9 (.look 10 (.look 11 (.look 12 (.look 13 (.look 14 (.look 15 (.look 16 (.run 17 false .done)))))))))))))))))⟩))
 (.ops [oM 39 9,oV 40 .add 39 .i64 1,oM 9 40])))))) (.exit 3)) .skip)) (.seq (.draw [oM 58 8,oV 59 .sub 58 .i64 15,oO 60 (.idxP 64 1 (.t 7) (.t 59)),oD 61 1 false 60,oM 62 8,
 oV 63 .sub 62 .i64 2,oO 64 (.idxP 64 1 (.t 7) (.t 63)),oD 65 1 false 64,oM 10 61,oM 11 65] ⟨.no,[],.flat⟩) (.draw [oM 66 8,oM 67 8,oV 68 .sub 67 .i64 16,
 oO 69 (.idxP 64 1 (.t 7) (.t 68)),oD 70 1 false 69,oM 71 8,oV 72 .sub 71 .i64 7,oO 73 (.idxP 64 1 (.t 7) (.t 72)),oD 74 1 false 73,oW 75 .add 70 74,oM 76 10,
 oK 77 bG [.t 76,.c (.int .i64 7)],oM 78 10,oK 79 bG [.t 78,.c (.int .i64 18)],oW 80 .xor 77 79,oM 81 10,oV 82 .shr 81 .u64 3,oW 83 .xor 80 82,
 oW 84 .add 75 83,oM 85 11,oK 86 bG [.t 85,.c (.int .i64 17)],oM 87 11,oK 88 bG [.t 87,.c (.int .i64 19)],oW 89 .xor 86 88,oM 90 11,
 oV 91 .shr 90 .u64 10,oW 92 .xor 89 91,oW 93 .add 84 92,oO 94 (.idxP 64 1 (.t 7) (.t 66)),
 oS 1 94 93] ⟨.all,[],.look 0 (.look 1 (.look 2 (.look 3 (.look 4 (.look 5 (.look 6 (.look 7 (.look 8 (.look 9 (.look 10 (.look 12 (.look 15 (.look 16 (.look 19 (.look 21 (.look 24 (.look 25 (.run 11 true (.run 13 true (.look 14 (.look 17 (.look 18 (.run 20 true (.run 22 true (.look 23 (.look 26 (.look 27 (.look 28 (.run 29 false .done)))))))))))))))))))))))))))))⟩))))
 (.ops [oM 33 8,oV 34 .add 33 .i64 1,oM 8 34])))))) (sO [oD 95 8 true 4,oO 12 (.alloc 1 8 [.int .u32 0]),oS 8 12 95] (.seq (sO [oI 13 0] (.block 6 (.loop (.seq (sO [oM 96 13,
 oV 97 .lss 96 .i64 64] (.cond (.t 97) .skip (.exit 6))) (.seq (.block 7 (.seq (.draw [oO 100 (.idxP 8 1 (.t 12) (.c (.int .i64 0))),oD 101 1 false 100,
 oO 102 (.idxP 8 1 (.t 12) (.c (.int .i64 4))),oD 103 1 false 102,oM 14 101,oM 15 103] ⟨.no,[],.flat⟩) (.seq (.draw [oO 104 (.idxP 8 1 (.t 12) (.c (.int .i64 7))),
 oD 105 1 false 104,oM 106 15,oK 107 bG [.t 106,.c (.int .i64 6)],oM 108 15,oK 109 bG [.t 108,.c (.int .i64 11)],oW 110 .xor 107 109,oM 111 15,
 oK 112 bG [.t 111,.c (.int .i64 25)],oW 113 .xor 110 112,oW 114 .add 105 113,oM 115 15,oO 116 (.idxP 8 1 (.t 12) (.c (.int .i64 5))),oD 117 1 false 116,
 oW 118 .and 115 117,oM 119 15,oO 120 (.un .xor (.t 119)),oO 121 (.idxP 8 1 (.t 12) (.c (.int .i64 6))),oD 122 1 false 121,oW 123 .and 120 122,oW 124 .xor 118 123,
 oW 125 .add 114 124,oM 126 13,oO 127 (.idxP 64 1 (.t 3) (.t 126)),oD 128 1 false 127,oW 129 .add 125 128,oM 130 13,oO 131 (.idxP 64 1 (.t 7) (.t 130)),oD 132 1 false 131,
 oW 133 .add 129 132,
 oM 16 133] ⟨.all,[],.look 0 (.look 1 (.look 2 (.look 4 (.look 7 (.look 11 (.look 12 (.look 13 (.look 14 (.look 15 (.look 16 (.look 17 (.look 18 (.look 19 (.look 20 (.look 22 (.look 23 (.look 24 (.look 26 (.look 27 (.look 28 (.run 3 true (.run 5 true (.look 6 (.run 8 true (.look 9 (.look 10 (.look 21 (.look 25 (.look 29 (.look 30 .done))))))))))))))))))))))))))))))⟩)
 (.seq (.draw [oM 134 14,oK 135 bG [.t 134,.c (.int .i64 2)],oM 136 14,oK 137 bG [.t 136,.c (.int .i64 13)],oW 138 .xor 135 137,oM 139 14,
 oK 140 bG [.t 139,.c (.int .i64 22)],oW 141 .xor 138 140,oM 142 14,oO 143 (.idxP 8 1 (.t 12) (.c (.int .i64 1))),oD 144 1 false 143,oW 145 .and 142 144,
 oM 146 14,oO 147 (.idxP 8 1 (.t 12) (.c (.int .i64 2))),oD 148 1 false 147,oW 149 .and 146 148,oW 150 .xor 145 149,oO 151 (.idxP 8 1 (.t 12) (.c (.int .i64 1))),
 oD 152 1 false 151,oO 153 (.idxP 8 1 (.t 12) (.c (.int .i64 2))),oD 154 1 false 153,oW 155 .and 152 154,oW 156 .xor 150 155,oW 157 .add 141 156,
 oM 17 157] ⟨.all,[],.look 0 (.look 2 (.look 5 (.look 8 (.look 9 (.look 10 (.look 11 (.look 12 (.look 13 (.look 14 (.look 15 (.look 16 (.look 17 (.look 18 (.look 19 (.look 20 (.look 21 (.look 22 (.run 1 true (.run 3 true (.look 4 (.run 6 true (.look 7 (.look 23 (.look 24 .done))))))))))))))))))))))))⟩)
 (.ops [oM 158 16,oM 159 17,oW 160 .add 158 159,oO 161 (.idxP 8 1 (.t 12) (.c (.int .i64 0))),oD 162 1 false 161,oO 163 (.idxP 8 1 (.t 12) (.c (.int .i64 1))),oD 164 1 false 163,
 oO 165 (.idxP 8 1 (.t 12) (.c (.int .i64 2))),oD 166 1 false 165,oO 167 (.idxP 8 1 (.t 12) (.c (.int .i64 3))),oD 168 1 false 167,oM 169 16,oW 170 .add 168 169,
 oO 171 (.idxP 8 1 (.t 12) (.c (.int .i64 4))),oD 172 1 false 171,oO 173 (.idxP 8 1 (.t 12) (.c (.int .i64 5))),oD 174 1 false 173,oO 175 (.idxP 8 1 (.t 12) (.c (.int .i64 6))),
 oD 176 1 false 175,
 oO 177 (.build [.int .u32 0,.int .u32 0,.int .u32 0,.int .u32 0,.int .u32 0,.int .u32 0,.int .u32 0,.int .u32 0] [(0,1,.t 160),(1,1,.t 162),(2,1,.t 164),(3,1,.t 166),(4,1,.t 170),(5,1,.t 172),(6,1,.t 174),(7,1,.t 176)]),
 oS 8 12 177]))))) (.ops [oM 98 13,oV 99 .add 98 .i64 1,oM 13 99])))))) (sO [oI 18 0] (.block 8 (.loop (.seq (sO [oM 178 18,oV 179 .lss 178 .i64 8] (.cond (.t 179) .skip
 (.exit 8))) (.seq (.block 9 (.draw [oM 182 18,oO 183 (.idxP 8 1 (.t 4) (.t 182)),oD 184 1 false 183,oM 185 18,oO 186 (.idxP 8 1 (.t 12) (.t 185)),oD 187 1 false 186,
 oW 188 .add 184 187,oO 189 (.idxP 8 1 (.t 4) (.t 182)),
 oS 1 189 188] ⟨.all,[],.look 0 (.look 1 (.look 2 (.look 3 (.look 4 (.look 5 (.look 6 (.look 7 (.run 8 false .done))))))))⟩)) (.ops [oM 180 18,oV 181 .add 180 .i64 1,
 oM 18 181]))))))))))) (.ops [oM 29 6,oV 30 .add 29 .i64 64,oM 6 30])))))) (sO [oO 19 (.alloc 1 32 [.int .u8 0])] (.seq (sO [oI 20 0] (.block 10 (.loop (.seq (sO [oM 190 20,
 oV 191 .lss 190 .i64 32] (.cond (.t 191) .skip (.exit 10))) (.seq (.block 11 (.ops [oM 194 20,oM 195 20,oV 196 .quo 195 .i64 4,oO 197 (.idxP 8 1 (.t 4) (.t 196)),
 oD 198 1 false 197,oM 199 20,oV 200 .rem 199 .i64 4,oO 201 (.bin .mul (.c (.int .i64 8)) (.t 200)),oO 202 (.bin .sub (.c (.int .i64 24)) (.t 201)),oO 203 (.conv .u64 (.t 202)),
 oW 204 .shr 198 203,oO 205 (.conv .u8 (.t 204)),oO 206 (.idxP 32 1 (.t 19) (.t 194)),oS 1 206 205])) (.ops [oM 192 20,oV 193 .add 192 .i64 1,oM 20 193])))))) (sO [
 oD 207 32 true 19,oS 32 2 207] .ret))))))))⟩
theorem tM:BT uB bZ:=fun h=>aD aH Tryz.func174 (by kernel_rfl) (by kernel_rfl) h
noncomputable def yQ:AFun:=⟨1,18,[.t 2],
 (sO [oO 2 (.mv (.c (.nils)))] (sO [oO 3 (.mv (.c (.nils)))] (.seq (sO [oI 4 0] (.block 0 (.loop (.seq (sO [oM 5 4,oM 6 0,oL 7 6,oW 8 .lss 5 7] (.cond (.t 8) .skip (.exit 0)))
 (.seq (.block 1 (.ops [oM 11 3,oM 12 0,oM 13 4,oX 14 1 12 13,oD 15 1 false 14,oO 16 (.app 1 1 (.t 11) (.t 15)),oM 3 16])) (.ops [oM 9 4,oV 10 .add 9 .i64 1,oM 4 10])))))) (sO [
 oM 17 3,oM 2 17] .ret))))⟩
theorem xU:BT yQ cS:=fun h=>aD aH Tryz.func175 (by kernel_rfl) (by kernel_rfl) h
noncomputable def yU:AFun:=⟨3,11,[.cell 6 4 true],
 (sO [oO 4 (.box 1 4 (.t 1)),oO 5 (.box 1 4 (.t 2)),oO 6 (.alloc 1 4 [.int .u64 0])] (sO [oM 7 0,oD 8 4 true 5,oD 9 4 true 4,oQ 10 bM [7,8,9],oT 1 4 4 6 10]
 .ret))⟩
theorem xX:BT yU iN:=fun h=>aD aH Tryz.func176 (by kernel_rfl) (by kernel_rfl) h
noncomputable def aBd:AFun:=⟨0,2,[.cell 0 9 true],
 (sO [oO 0 (.alloc 9 1 [.bool false,.int .u64 0,.int .u64 0,.int .u64 0,.int .u64 0,.int .u64 0,.int .u64 0,.int .u64 0,.int .u64 0])] (sO [
 oO 1 (.build [.bool false,.int .u64 0,.int .u64 0,.int .u64 0,.int .u64 0,.int .u64 0,.int .u64 0,.int .u64 0,.int .u64 0] [(0,1,.c (.bool true))]),oT 9 1 9 0 1]
 .ret))⟩
theorem aAh:BT aBd dC:=fun h=>aD aH Tryz.func177 (by kernel_rfl) (by kernel_rfl) h
noncomputable def aBc:AFun:=⟨2,18,[.cell 4 4 true],
 (sO [oO 3 (.box 1 4 (.t 1)),oO 4 (.alloc 1 4 [.int .u64 0])] (sO [oM 8 0,oQ 9 bI [8],
 oO 10 (.build [.int .u64 0,.int .u64 0,.int .u64 0,.int .u64 0] [(0,1,.c (.int .u64 2))]),oQ 11 cA [9,10],oM 7 11,oE 12 7 0,oE 13 7 1,
 oO 5 (.alloc 1 4 [.int .u64 0]),oT 1 4 4 5 12,oM 6 13] (sO [oM 14 0,oD 15 4 true 3,oD 16 4 true 5,oQ 17 jD [14,15,16],oT 1 4 4 4 17] .ret)))⟩
theorem aAg:BT aBc gR:=fun h=>aD aH Tryz.func178 (by kernel_rfl) (by kernel_rfl) h
noncomputable def A_witanref01_up:AFun:=⟨1,15,[.cell 2 12 true],
 (sO [oO 1 (.box 9 1 (.t 0)),oO 2 (.alloc 12 1 (List.replicate 12 (.int .u64 0)))] (.seq (sO [oF 3 0 1,oD 4 1 false 3] (.cond (.t 4) (sO [
 oO 5 (.build [.int .u64 0,.int .u64 0,.int .u64 0,.int .u64 0] [(0,1,.c (.int .u64 1))]),
 oO 6 (.build [.int .u64 0,.int .u64 0,.int .u64 0,.int .u64 0] [(0,1,.c (.int .u64 1))]),oO 7 (.build [.int .u64 0,.int .u64 0,.int .u64 0,.int .u64 0] []),
 oO 8 (.build (List.replicate 12 (.int .u64 0)) [(0,4,.t 5),(4,4,.t 6),(8,4,.t 7)]),oT 12 1 12 2 8] .ret) .skip)) (sO [oF 9 1 1,oD 10 4 true 9,oF 11 5 1,oD 12 4 true 11,
 oO 13 (.build [.int .u64 0,.int .u64 0,.int .u64 0,.int .u64 0] [(0,1,.c (.int .u64 1))]),
 oO 14 (.build (List.replicate 12 (.int .u64 0)) [(0,4,.t 10),(4,4,.t 12),(8,4,.t 13)]),oT 12 1 12 2 14] .ret)))⟩
theorem rR:BT A_witanref01_up cZ:=fun h=>aD aH Tryz.func179 (by kernel_rfl) (by kernel_rfl) h
noncomputable def wH:AFun:=⟨1,92,[.cell 2 12 true],
 (sO [oO 1 (.box 12 1 (.t 0)),oO 2 (.alloc 12 1 (List.replicate 12 (.int .u64 0)))] (.seq (sO [oF 11 8 1,oD 12 4 true 11,
 oO 13 (.build [.int .u64 0,.int .u64 0,.int .u64 0,.int .u64 0] []),oO 14 (.eqa [.i,.i,.i,.i] false (.t 12) (.t 13)),oM 15 14,oG 16 (.fldA 4 (.t 1)) 15 false,
 oG 17 (.load 4 true (.t 16)) 15 false,oG 18 (.build [.int .u64 0,.int .u64 0,.int .u64 0,.int .u64 0] []) 15 false,
 oG 19 (.eqa [.i,.i,.i,.i] false (.t 17) (.t 18)) 15 false,oO 20 (.pick (.t 15) (.c (.bool true)) (.t 19))] (.cond (.t 20) (sO [oK 21 dC [],
 oQ 22 cZ [21],oT 12 1 12 2 22] .ret) .skip)) (.seq (.draw [oF 23 0 1,oD 24 4 true 23,oF 25 0 1,oD 26 4 true 25,oQ 27 aK [24,26],oF 28 4 1,
 oD 29 4 true 28,oF 30 4 1,oD 31 4 true 30,oQ 32 aK [29,31],oO 3 (.alloc 1 4 [.int .u64 0]),oO 4 (.alloc 1 4 [.int .u64 0]),oS 4 3 27,
 oS 4 4 32] ⟨.all,[(10,some 12),(11,some 13)],.look 0 (.look 1 (.look 2 (.look 3 (.look 5 (.look 6 (.look 7 (.look 8 (.run 4 true (.pre 10 12 (.run 9 true (.pre 11 13 (.fill .done))))))))))))⟩)
 (sO [oD 33 4 true 4,oD 34 4 true 4,oQ 35 aK [33,34],oO 5 (.alloc 1 4 [.int .u64 0]),oT 1 4 4 5 35] (.seq (.draw [oF 36 0 1,oD 37 4 true 36,oD 38 4 true 4,
 oQ 39 bE [37,38],oF 40 0 1,oD 41 4 true 40,oD 42 4 true 4,oQ 43 bE [41,42],oQ 44 aK [39,43],oO 6 (.alloc 1 4 [.int .u64 0]),
 oS 4 6 44] ⟨.all,[(9,some 10)],.look 0 (.look 1 (.look 2 (.look 4 (.look 5 (.look 6 (.run 3 true (.run 7 true (.run 8 true (.pre 9 10 (.fill .done))))))))))⟩) (.seq (.draw [
 oD 45 4 true 6,oD 46 4 true 3,oQ 47 bH [45,46],oD 48 4 true 5,oQ 49 bH [47,48],
 oT 1 4 4 6 49] ⟨.all,[],.look 0 (.look 1 (.look 3 (.run 2 true (.run 4 false (.run 5 false .done)))))⟩) (sO [oD 50 4 true 6,oD 51 4 true 6,oQ 52 bE [50,51],
 oT 1 4 4 6 52] (.seq (.draw [oD 53 4 true 3,oD 54 4 true 3,oQ 55 bE [53,54],oD 56 4 true 3,oQ 57 bE [55,56],oO 7 (.alloc 1 4 [.int .u64 0]),
 oS 4 7 57] ⟨.all,[(5,some 6)],.look 0 (.look 1 (.look 3 (.run 2 true (.run 4 true (.pre 5 6 (.fill .done))))))⟩) (.seq (.draw [oD 58 4 true 7,oD 59 4 true 7,
 oQ 60 aK [58,59],oD 61 4 true 6,oD 62 4 true 6,oQ 63 bE [61,62],oQ 64 bH [60,63],oO 8 (.alloc 1 4 [.int .u64 0]),
 oS 4 8 64] ⟨.all,[(7,some 8)],.look 0 (.look 1 (.look 3 (.look 4 (.run 2 true (.run 5 true (.run 6 true (.pre 7 8 (.fill .done))))))))⟩) (sO [oD 65 4 true 5,oD 66 4 true 5,
 oQ 67 bE [65,66],oT 1 4 4 5 67] (sO [oD 68 4 true 5,oD 69 4 true 5,oQ 70 bE [68,69],oT 1 4 4 5 70] (sO [oD 71 4 true 5,oD 72 4 true 5,
 oQ 73 bE [71,72],oT 1 4 4 5 73] (.seq (.draw [oD 74 4 true 7,oD 75 4 true 6,oD 76 4 true 8,oQ 77 bH [75,76],oQ 78 aK [74,77],
 oD 79 4 true 5,oQ 80 bH [78,79],oO 9 (.alloc 1 4 [.int .u64 0]),
 oS 4 9 80] ⟨.all,[(7,some 8)],.look 0 (.look 1 (.look 2 (.look 5 (.run 3 true (.run 4 true (.run 6 true (.pre 7 8 (.fill .done))))))))⟩) (sO [oF 81 4 1,oD 82 4 true 81,
 oF 83 8 1,oD 84 4 true 83,oQ 85 aK [82,84],oO 10 (.alloc 1 4 [.int .u64 0]),oT 1 4 4 10 85] (.seq (.draw [oD 86 4 true 8,oD 87 4 true 9,oD 88 4 true 10,
 oD 89 4 true 10,oQ 90 bE [88,89],oO 91 (.build (List.replicate 12 (.int .u64 0)) [(0,4,.t 86),(4,4,.t 87),(8,4,.t 90)]),
 oT 12 1 12 2 91] ⟨.all,[],.look 0 (.look 1 (.look 2 (.look 3 (.run 4 true (.look 5 (.run 6 false .done))))))⟩) .ret)))))))))))))))⟩
theorem vP:BT wH fE:=fun h=>aD aH Tryz.func180 (by kernel_rfl) (by kernel_rfl) h
noncomputable def aBf:AFun:=⟨2,21,[.t 4],
 (sO [oO 2 (.box 1 4 (.t 0)),oI 4 0] (.seq (sO [oM 5 1,oV 6 .lss 5 .i64 0,oM 7 6,oG 8 (.mv (.t 1)) 7 false,oG 9 (.bin .gtr (.t 8) (.c (.int .i64 255))) 7 false,
 oO 10 (.pick (.t 7) (.c (.bool true)) (.t 9))] (.cond (.t 10) (sO [oI 4 0] .ret) .skip)) (sO [oM 11 1,oV 12 .quo 11 .i64 64,oO 13 (.idxP 4 1 (.t 2) (.t 12)),oD 14 1 false 13,
 oM 15 1,oV 16 .rem 15 .i64 64,oO 17 (.conv .u64 (.t 16)),oW 18 .shr 14 17,oV 19 .and 18 .u64 1,oO 20 (.conv .i64 (.t 19)),oM 4 20] .ret)))⟩
theorem aAj:BT aBf gS:=fun h=>aD aH Tryz.func181 (by kernel_rfl) (by kernel_rfl) h
noncomputable def yR:AFun:=⟨2,113,[.cell 4 12 true],
 (sO [oO 2 (.box 12 1 (.t 0)),oO 3 (.box 12 1 (.t 1)),oO 4 (.alloc 12 1 (List.replicate 12 (.int .u64 0)))] (.seq (sO [oF 18 8 2,oD 19 4 true 18,
 oO 20 (.build [.int .u64 0,.int .u64 0,.int .u64 0,.int .u64 0] []),oO 21 (.eqa [.i,.i,.i,.i] false (.t 19) (.t 20))] (.cond (.t 21) (sO [oD 22 12 true 3,oT 12 1 12 4 22]
 .ret) .skip)) (.seq (sO [oF 23 8 3,oD 24 4 true 23,oO 25 (.build [.int .u64 0,.int .u64 0,.int .u64 0,.int .u64 0] []),oO 26 (.eqa [.i,.i,.i,.i] false (.t 24) (.t 25))]
 (.cond (.t 26) (sO [oD 27 12 true 2,oT 12 1 12 4 27] .ret) .skip)) (.seq (.draw [oF 28 8 2,oD 29 4 true 28,oF 30 8 2,oD 31 4 true 30,oQ 32 aK [29,31],oF 33 8 3,
 oD 34 4 true 33,oF 35 8 3,oD 36 4 true 35,oQ 37 aK [34,36],oO 5 (.alloc 1 4 [.int .u64 0]),oO 6 (.alloc 1 4 [.int .u64 0]),oS 4 5 32,
 oS 4 6 37] ⟨.all,[(10,some 12),(11,some 13)],.look 0 (.look 1 (.look 2 (.look 3 (.look 5 (.look 6 (.look 7 (.look 8 (.run 4 true (.pre 10 12 (.run 9 true (.pre 11 13 (.fill .done))))))))))))⟩)
 (.seq (.draw [oF 38 0 2,oD 39 4 true 38,oD 40 4 true 6,oQ 41 aK [39,40],oF 42 0 3,oD 43 4 true 42,oD 44 4 true 5,oQ 45 aK [43,44],
 oO 7 (.alloc 1 4 [.int .u64 0]),oO 8 (.alloc 1 4 [.int .u64 0]),oS 4 7 41,
 oS 4 8 45] ⟨.all,[(8,some 10),(9,some 11)],.look 0 (.look 1 (.look 2 (.look 4 (.look 5 (.look 6 (.run 3 true (.pre 8 10 (.run 7 true (.pre 9 11 (.fill .done))))))))))⟩)
 (.seq (.draw [oF 46 4 2,oD 47 4 true 46,oD 48 4 true 6,oF 49 8 3,oD 50 4 true 49,oQ 51 aK [48,50],oQ 52 aK [47,51],oF 53 4 3,oD 54 4 true 53,
 oD 55 4 true 5,oF 56 8 2,oD 57 4 true 56,oQ 58 aK [55,57],oQ 59 aK [54,58],oO 9 (.alloc 1 4 [.int .u64 0]),oO 10 (.alloc 1 4 [.int .u64 0]),
 oS 4 9 52,
 oS 4 10 59] ⟨.all,[(14,some 16),(15,some 17)],.look 0 (.look 1 (.look 2 (.look 3 (.look 4 (.look 7 (.look 8 (.look 9 (.look 10 (.look 11 (.run 5 true (.run 6 true (.pre 14 16 (.run 12 true (.run 13 true (.pre 15 17 (.fill .done))))))))))))))))⟩)
 (.seq (.draw [oD 60 4 true 8,oD 61 4 true 7,oQ 62 bH [60,61],oD 63 4 true 10,oD 64 4 true 9,oQ 65 bH [63,64],oO 11 (.alloc 1 4 [.int .u64 0]),
 oO 12 (.alloc 1 4 [.int .u64 0]),oS 4 11 62,
 oS 4 12 65] ⟨.all,[(6,some 8),(7,some 9)],.look 0 (.look 1 (.look 3 (.look 4 (.run 2 true (.pre 6 8 (.run 5 true (.pre 7 9 (.fill .done))))))))⟩) (.seq (sO [
 oD 66 4 true 11,oO 67 (.build [.int .u64 0,.int .u64 0,.int .u64 0,.int .u64 0] []),oO 68 (.eqa [.i,.i,.i,.i] false (.t 66) (.t 67))] (.cond (.t 68) (.seq (sO [
 oD 69 4 true 12,oO 70 (.build [.int .u64 0,.int .u64 0,.int .u64 0,.int .u64 0] []),oO 71 (.eqa [.i,.i,.i,.i] false (.t 69) (.t 70))] (.cond (.t 71) (sO [oD 72 12 true 2,
 oQ 73 fE [72],oT 12 1 12 4 73] .ret) .skip)) (sO [oK 74 dC [],oQ 75 cZ [74],oT 12 1 12 4 75] .ret)) .skip)) (sO [oD 76 4 true 11,
 oD 77 4 true 11,oQ 78 aK [76,77],oO 13 (.alloc 1 4 [.int .u64 0]),oT 1 4 4 13 78] (sO [oD 79 4 true 13,oD 80 4 true 11,oQ 81 aK [79,80],
 oO 14 (.alloc 1 4 [.int .u64 0]),oT 1 4 4 14 81] (sO [oD 82 4 true 7,oD 83 4 true 13,oQ 84 aK [82,83],oO 15 (.alloc 1 4 [.int .u64 0]),oT 1 4 4 15 84]
 (.seq (.draw [oD 85 4 true 12,oD 86 4 true 12,oQ 87 aK [85,86],oD 88 4 true 14,oQ 89 bH [87,88],oD 90 4 true 15,oD 91 4 true 15,
 oQ 92 bE [90,91],oQ 93 bH [89,92],oO 16 (.alloc 1 4 [.int .u64 0]),
 oS 4 16 93] ⟨.all,[(9,some 10)],.look 0 (.look 1 (.look 3 (.look 5 (.look 6 (.run 2 true (.run 4 true (.run 7 true (.run 8 true (.pre 9 10 (.fill .done))))))))))⟩)
 (.seq (.draw [oD 94 4 true 12,oD 95 4 true 15,oD 96 4 true 16,oQ 97 bH [95,96],oQ 98 aK [94,97],oD 99 4 true 9,oD 100 4 true 14,
 oQ 101 aK [99,100],oQ 102 bH [98,101],oO 17 (.alloc 1 4 [.int .u64 0]),
 oS 4 17 102] ⟨.all,[(9,some 10)],.look 0 (.look 1 (.look 2 (.look 5 (.look 6 (.run 3 true (.run 4 true (.run 7 true (.run 8 true (.pre 9 10 (.fill .done))))))))))⟩)
 (.seq (.draw [oD 103 4 true 16,oD 104 4 true 17,oD 105 4 true 11,oF 106 8 2,oD 107 4 true 106,oF 108 8 3,oD 109 4 true 108,oQ 110 aK [107,109],
 oQ 111 aK [105,110],oO 112 (.build (List.replicate 12 (.int .u64 0)) [(0,4,.t 103),(4,4,.t 104),(8,4,.t 111)]),
 oT 12 1 12 4 112] ⟨.all,[],.look 0 (.look 1 (.look 2 (.look 3 (.look 4 (.look 5 (.look 6 (.run 7 true (.run 8 true (.look 9 (.run 10 false .done))))))))))⟩) .ret))))))))))))))⟩
theorem xV:BT yR fW:=fun h=>aD aH Tryz.func182 (by kernel_rfl) (by kernel_rfl) h
noncomputable def qD:AFun:=⟨1,21,[.t 2],
 (sO [oO 1 (.box 9 1 (.t 0)),oO 2 (.mv (.c (.nils)))] (.seq (sO [oF 5 0 1,oD 6 1 false 5] (.cond (.t 6) (sO [oO 7 (.bsl 1 1 [.int .u8 0] [(0,1,.c (.int .u8 0))]),oM 2 7] .ret)
 .skip)) (sO [oF 8 1 1,oD 9 4 true 8,oQ 10 fF [9],oO 3 (.alloc 1 32 [.int .u8 0]),oS 32 3 10] (sO [oF 11 5 1,oO 12 (.idxP 4 1 (.t 11) (.c (.int .i64 0))),
 oD 13 1 false 12,oV 14 .and 13 .u64 1,oO 15 (.conv .u8 (.t 14)),oO 16 (.bin .add (.c (.int .u8 2)) (.t 15)),oO 17 (.bsl 1 1 [.int .u8 0] [(0,1,.t 16)]),oM 4 17] (sO [oM 18 4,
 oO 19 (.slarr 32 1 (.t 3) none none none),oO 20 (.app 1 1 (.t 18) (.t 19)),oM 2 20] .ret)))))⟩
theorem kE:BT qD cB:=fun h=>aD aH Tryz.func183 (by kernel_rfl) (by kernel_rfl) h
noncomputable def yV:AFun:=⟨3,26,[.cell 6 4 true],
 (sO [oO 4 (.box 1 4 (.t 1)),oO 5 (.box 1 4 (.t 2)),oO 6 (.alloc 1 4 [.int .u64 0])] (.seq (sO [oM 9 0,oQ 10 cN [9],oU 11 10] (.cond (.t 11) (sO [
 oO 12 (.build [.int .u64 0,.int .u64 0,.int .u64 0,.int .u64 0] []),oT 1 4 4 6 12] .ret) .skip)) (.seq (.draw [oM 14 0,oQ 15 bI [14],oM 16 0,oD 17 4 true 5,
 oQ 18 cO [16,17],oQ 19 cA [15,18],oM 13 19,oE 20 13 0,oE 21 13 1,oO 7 (.alloc 1 4 [.int .u64 0]),oS 4 7 20,
 oM 8 21] ⟨.all,[(9,some 10)],.look 0 (.look 2 (.look 3 (.run 1 true (.run 4 true (.run 5 true (.look 6 (.look 7 (.pre 9 10 (.look 8 (.fill (.look 11 .done)))))))))))⟩) (sO [
 oM 22 0,oD 23 4 true 4,oD 24 4 true 7,oQ 25 cD [22,23,24],oT 1 4 4 6 25] .ret))))⟩
theorem pK:BT yV dD:=fun h=>aD aH Tryz.func184 (by kernel_rfl) (by kernel_rfl) h
noncomputable def yW:AFun:=⟨3,23,[.cell 6 4 true],
 (sO [oO 4 (.box 1 4 (.t 1)),oO 5 (.box 1 4 (.t 2)),oO 6 (.alloc 1 4 [.int .u64 0])] (.seq (sO [oM 9 0,oQ 10 cN [9],oU 11 10] (.cond (.t 11) (sO [
 oO 12 (.build [.int .u64 0,.int .u64 0,.int .u64 0,.int .u64 0] []),oT 1 4 4 6 12] .ret) .skip)) (sO [oD 14 4 true 4,oD 15 4 true 5,oQ 16 gQ [14,15],oM 13 16,
 oE 17 13 0,oE 18 13 1,oO 7 (.alloc 1 4 [.int .u64 0]),oO 8 (.alloc 1 4 [.int .u64 0]),oT 1 4 4 7 17,oT 1 4 4 8 18] (sO [oM 19 0,oD 20 4 true 7,oD 21 4 true 8,
 oQ 22 bM [19,20,21],oT 1 4 4 6 22] .ret))))⟩
theorem pL:BT yW cC:=fun h=>aD aH Tryz.func185 (by kernel_rfl) (by kernel_rfl) h
noncomputable def A_draw_joined:AFun:=⟨2,53,[.t 4,.t 5],
 (sO [oO 4 (.mv (.c (.nils))),oB 5 false] (sO [oM 12 0,oO 13 (.lens (.t 12)),oO 14 (.bin .add (.c (.int .i64 4)) (.t 13)),oM 6 14] (.seq (sO [oM 15 1,oL 16 15,oI 17 0] (.block 0
 (.loop (sO [oW 18 .lss 17 16] (.seq (.cond (.t 18) .skip (.exit 0)) (.seq (.block 1 (sO [oX 19 1 15 17,oD 20 1 false 19,oM 8 20] (.seq (sO [oM 21 6,oV 22 .gtr 21 .i64 65536]
 (.cond (.t 22) (sO [oO 4 (.mv (.c (.nils))),oB 5 false] .ret) .skip)) (.ops [oM 23 6,oM 24 8,oL 25 24,oO 26 (.bin .add (.c (.int .i64 4)) (.t 25)),oW 27 .add 23 26,oM 6 27]))))
 (.ops [oV 28 .add 17 .i64 1,oM 17 28]))))))) (.seq (sO [oM 29 6,oV 30 .gtr 29 .i64 65536] (.cond (.t 30) (sO [oO 4 (.mv (.c (.nils))),oB 5 false] .ret) .skip)) (sO [oM 31 0,
 oO 32 (.lens (.t 31)),oO 33 (.conv .u64 (.t 32)),oK 34 iR [.t 33,.c (.int .i64 4)],oM 35 0,oO 36 (.app 1 1 (.t 34) (.t 35)),oM 9 36] (.seq (sO [oM 37 1,oL 38 37,
 oI 39 0] (.block 2 (.loop (sO [oW 40 .lss 39 38] (.seq (.cond (.t 40) .skip (.exit 2)) (.seq (.block 3 (sO [oX 41 1 37 39,oD 42 1 false 41,oM 11 42] (.ops [oM 43 9,oM 44 11,
 oL 45 44,oO 46 (.conv .u64 (.t 45)),oK 47 iR [.t 46,.c (.int .i64 4)],oO 48 (.app 1 1 (.t 43) (.t 47)),oM 49 11,oO 50 (.app 1 1 (.t 48) (.t 49)),oM 9 50]))) (.ops [
 oV 51 .add 39 .i64 1,oM 39 51]))))))) (sO [oM 52 9,oM 4 52,oB 5 true] .ret)))))))⟩
theorem B_draw_joined:BT A_draw_joined lI:=fun h=>aD aH Tryz.func187 (by kernel_rfl) (by kernel_rfl) h
noncomputable def A_sha_Sum:AFun:=⟨1,201,[.cell 2 32 true],
 (sO [oO 2 (.alloc 1 32 [.int .u8 0])] (sO [
 oO 23 (.build [.int .u32 0,.int .u32 0,.int .u32 0,.int .u32 0,.int .u32 0,.int .u32 0,.int .u32 0,.int .u32 0] [(0,1,.c (.int .u32 1779033703)),(1,1,.c (.int .u32 3144134277)),(2,1,.c (.int .u32 1013904242)),(3,1,.c (.int .u32 2773480762)),(4,1,.c (.int .u32 1359893119)),(5,1,.c (.int .u32 2600822924)),(6,1,.c (.int .u32 528734635)),(7,1,.c (.int .u32 1541459225))]),
 oO 3 (.alloc 1 8 [.int .u32 0]),oS 8 3 23] (sO [oK 24 nC [],oM 4 24] (.seq (sO [oM 25 0,oQ 26 nD [25],oM 5 26] (.block 0 (.loop (.seq (sO [oM 27 5,oL 28 27,
 oV 29 .gtr 28 .i64 0] (.cond (.t 29) .skip (.exit 0))) (.seq (.block 1 (sO [oO 6 (.alloc 1 64 [.int .u32 0])] (.seq (sO [oI 32 0] (.block 2 (.loop (sO [oV 33 .lss 32 .i64 64]
 (.seq (.cond (.t 33) .skip (.exit 2)) (.seq (.block 3 (sO [oM 34 32,oM 7 34] (.seq (sO [oM 35 7,oV 36 .lss 35 .i64 16] (.cond (.t 36) (sO [oM 37 7,oM 38 5,oM 39 7,
 oO 40 (.bin .mul (.c (.int .i64 4)) (.t 39)),oM 41 7,oO 42 (.bin .mul (.c (.int .i64 4)) (.t 41)),oV 43 .add 42 .i64 4,
 oO 44 (.slice 1 (.t 38) (some (.t 40)) (some (.t 43)) none),oQ 45 sH [44],oO 46 (.conv .u32 (.t 45)),oO 47 (.idxP 64 1 (.t 6) (.t 37)),oS 1 47 46] (.exit 3)) .skip))
 (.seq (.draw [oM 48 7,oV 49 .sub 48 .i64 15,oO 50 (.idxP 64 1 (.t 6) (.t 49)),oD 51 1 false 50,oM 52 7,oV 53 .sub 52 .i64 2,oO 54 (.idxP 64 1 (.t 6) (.t 53)),oD 55 1 false 54,
 oM 8 51,oM 9 55] ⟨.no,[],.flat⟩) (sO [oM 56 8,oK 57 bC [.t 56,.c (.int .i64 (-7))],oM 58 8,oK 59 bC [.t 58,.c (.int .i64 (-18))],
 oW 60 .xor 57 59,oM 61 8,oV 62 .shr 61 .u64 3,oW 63 .xor 60 62,oM 10 63] (sO [oM 64 9,oK 65 bC [.t 64,.c (.int .i64 (-17))],oM 66 9,
 oK 67 bC [.t 66,.c (.int .i64 (-19))],oW 68 .xor 65 67,oM 69 9,oV 70 .shr 69 .u64 10,oW 71 .xor 68 70,oM 11 71] (.draw [oM 72 7,oM 73 7,oV 74 .sub 73 .i64 16,
 oO 75 (.idxP 64 1 (.t 6) (.t 74)),oD 76 1 false 75,oM 77 10,oW 78 .add 76 77,oM 79 7,oV 80 .sub 79 .i64 7,oO 81 (.idxP 64 1 (.t 6) (.t 80)),oD 82 1 false 81,oW 83 .add 78 82,
 oM 84 11,oW 85 .add 83 84,oO 86 (.idxP 64 1 (.t 6) (.t 72)),
 oS 1 86 85] ⟨.all,[],.look 0 (.look 1 (.look 2 (.look 3 (.look 4 (.look 5 (.look 6 (.look 7 (.look 8 (.look 9 (.look 10 (.look 11 (.look 12 (.look 13 (.look 14 (.run 15 false .done)))))))))))))))⟩)))))))
 (.ops [oV 87 .add 32 .i64 1,oM 32 87]))))))) (sO [oD 88 8 true 3,oO 12 (.alloc 1 8 [.int .u32 0]),oS 8 12 88] (.seq (sO [oI 89 0] (.block 4 (.loop (sO [oV 90 .lss 89 .i64 64]
 (.seq (.cond (.t 90) .skip (.exit 4)) (.seq (.block 5 (sO [oM 91 89,oM 13 91] (.seq (.draw [oO 92 (.idxP 8 1 (.t 12) (.c (.int .i64 4))),oD 93 1 false 92,
 oO 94 (.idxP 8 1 (.t 12) (.c (.int .i64 0))),oD 95 1 false 94,oM 14 93,oM 15 95] ⟨.no,[],.flat⟩) (sO [oM 96 14,oK 97 bC [.t 96,.c (.int .i64 (-6))],oM 98 14,
 oK 99 bC [.t 98,.c (.int .i64 (-11))],oW 100 .xor 97 99,oM 101 14,oK 102 bC [.t 101,.c (.int .i64 (-25))],oW 103 .xor 100 102,oM 16 103]
 (.seq (.draw [oO 104 (.idxP 8 1 (.t 12) (.c (.int .i64 7))),oD 105 1 false 104,oM 106 16,oW 107 .add 105 106,oM 108 14,oO 109 (.idxP 8 1 (.t 12) (.c (.int .i64 5))),
 oD 110 1 false 109,oW 111 .and 108 110,oM 112 14,oO 113 (.un .xor (.t 112)),oO 114 (.idxP 8 1 (.t 12) (.c (.int .i64 6))),oD 115 1 false 114,oW 116 .and 113 115,
 oW 117 .xor 111 116,oW 118 .add 107 117,oM 119 4,oM 120 13,oX 121 1 119 120,oD 122 1 false 121,oW 123 .add 118 122,oM 124 13,oO 125 (.idxP 64 1 (.t 6) (.t 124)),
 oD 126 1 false 125,oW 127 .add 123 126,oM 17 127] ⟨.no,[],.flat⟩) (sO [oM 128 15,oK 129 bC [.t 128,.c (.int .i64 (-2))],oM 130 15,
 oK 131 bC [.t 130,.c (.int .i64 (-13))],oW 132 .xor 129 131,oM 133 15,oK 134 bC [.t 133,.c (.int .i64 (-22))],oW 135 .xor 132 134,oM 18 135]
 (sO [oM 136 18,oM 137 15,oO 138 (.idxP 8 1 (.t 12) (.c (.int .i64 1))),oD 139 1 false 138,oW 140 .and 137 139,oM 141 15,oO 142 (.idxP 8 1 (.t 12) (.c (.int .i64 2))),
 oD 143 1 false 142,oW 144 .and 141 143,oW 145 .xor 140 144,oO 146 (.idxP 8 1 (.t 12) (.c (.int .i64 1))),oD 147 1 false 146,oO 148 (.idxP 8 1 (.t 12) (.c (.int .i64 2))),
 oD 149 1 false 148,oW 150 .and 147 149,oW 151 .xor 145 150,oW 152 .add 136 151,oM 19 152] (.ops [oM 153 17,oM 154 19,oW 155 .add 153 154,oM 156 15,
 oO 157 (.idxP 8 1 (.t 12) (.c (.int .i64 1))),oD 158 1 false 157,oO 159 (.idxP 8 1 (.t 12) (.c (.int .i64 2))),oD 160 1 false 159,oO 161 (.idxP 8 1 (.t 12) (.c (.int .i64 3))),
 oD 162 1 false 161,oM 163 17,oW 164 .add 162 163,oM 165 14,oO 166 (.idxP 8 1 (.t 12) (.c (.int .i64 5))),oD 167 1 false 166,oO 168 (.idxP 8 1 (.t 12) (.c (.int .i64 6))),
 oD 169 1 false 168,
 oO 170 (.build [.int .u32 0,.int .u32 0,.int .u32 0,.int .u32 0,.int .u32 0,.int .u32 0,.int .u32 0,.int .u32 0] [(0,1,.t 155),(1,1,.t 156),(2,1,.t 158),(3,1,.t 160),(4,1,.t 164),(5,1,.t 165),(6,1,.t 167),(7,1,.t 169)]),
 oS 8 12 170])))))))) (.ops [oV 171 .add 89 .i64 1,oM 89 171]))))))) (sO [oI 172 0] (.block 6 (.loop (sO [oV 173 .lss 172 .i64 8] (.seq (.cond (.t 173) .skip (.exit 6))
 (.seq (.block 7 (sO [oM 174 172,oM 20 174] (.draw [oM 175 20,oO 176 (.idxP 8 1 (.t 3) (.t 175)),oD 177 1 false 176,oM 178 20,oO 179 (.idxP 8 1 (.t 12) (.t 178)),
 oD 180 1 false 179,oW 181 .add 177 180,oO 182 (.idxP 8 1 (.t 3) (.t 175)),
 oS 1 182 181] ⟨.all,[],.look 0 (.look 1 (.look 2 (.look 3 (.look 4 (.look 5 (.look 6 (.look 7 (.run 8 false .done))))))))⟩))) (.ops [oV 183 .add 172 .i64 1,
 oM 172 183])))))))))))) (.ops [oM 30 5,oO 31 (.slice 1 (.t 30) (some (.c (.int .i64 64))) none none),oM 5 31])))))) (sO [oO 21 (.alloc 1 32 [.int .u8 0])] (.seq (sO [oI 184 0]
 (.block 8 (.loop (sO [oV 185 .lss 184 .i64 32] (.seq (.cond (.t 185) .skip (.exit 8)) (.seq (.block 9 (sO [oM 186 184,oM 22 186] (.ops [oM 187 22,oM 188 22,
 oV 189 .quo 188 .i64 4,oO 190 (.idxP 8 1 (.t 3) (.t 189)),oD 191 1 false 190,oM 192 22,oV 193 .rem 192 .i64 4,oO 194 (.bin .mul (.c (.int .i64 8)) (.t 193)),
 oO 195 (.bin .sub (.c (.int .i64 24)) (.t 194)),oW 196 .shr 191 195,oO 197 (.conv .u8 (.t 196)),oO 198 (.idxP 32 1 (.t 21) (.t 187)),oS 1 198 197]))) (.ops [
 oV 199 .add 184 .i64 1,oM 184 199]))))))) (sO [oD 200 32 true 21,oS 32 2 200] .ret)))))))⟩
theorem B_sha_Sum:BT A_sha_Sum kB:=fun h=>aD aH Tryz.func188 (by kernel_rfl) (by kernel_rfl) h
noncomputable def A_draw_with:AFun:=⟨2,10,[.t 4],
 (sO [oO 4 (.mv (.c (.nils)))] (sO [oO 5 (.bsl 1 0 [.int .u8 0] []),oM 6 0,oO 7 (.app 1 1 (.t 5) (.t 6)),oM 8 1,oO 9 (.app 1 1 (.t 7) (.t 8)),oM 4 9] .ret))⟩
theorem B_draw_with:BT A_draw_with mM:=fun h=>aD aH Tryz.func189 (by kernel_rfl) (by kernel_rfl) h
noncomputable def A_limb_Mod:AFun:=⟨3,57,[.cell 6 4 true,.t 7],
 (sO [oO 3 (.box 1 4 (.t 0)),oO 4 (.box 1 4 (.t 1)),oO 5 (.box 1 4 (.t 2)),oO 6 (.alloc 1 4 [.int .u64 0]),oI 7 0] (.seq (sO [oD 12 4 true 5,
 oO 13 (.build [.int .u64 0,.int .u64 0,.int .u64 0,.int .u64 0] []),oO 14 (.eqa [.i,.i,.i,.i] false (.t 12) (.t 13))] (.cond (.t 14) (sO [
 oO 15 (.build [.int .u64 0,.int .u64 0,.int .u64 0,.int .u64 0] []),oT 1 4 4 6 15,oI 7 1] .ret) .skip)) (sO [oO 8 (.alloc 1 4 [.int .u64 0])] (.seq (sO [oI 9 511] (.block 0
 (.loop (.seq (sO [oM 16 9,oV 17 .geq 16 .i64 0] (.cond (.t 17) .skip (.exit 0))) (.seq (.block 1 (sO [oD 20 4 true 4,oO 10 (.alloc 1 4 [.int .u64 0]),oT 1 4 4 10 20] (.seq (sO [
 oM 21 9,oV 22 .geq 21 .i64 256] (.cond (.t 22) (.ops [oD 23 4 true 3,oT 1 4 4 10 23]) .skip)) (sO [oO 24 (.idxP 4 1 (.t 8) (.c (.int .i64 3))),oD 25 1 false 24,
 oV 26 .shr 25 .u64 63,oM 11 26] (sO [oD 28 4 true 8,oD 29 4 true 8,oQ 30 jM [28,29],oM 27 30,oE 31 27 0,oE 32 27 1,oT 1 4 4 8 31] (.seq (.draw [
 oO 33 (.idxP 4 1 (.t 8) (.c (.int .i64 0))),oD 34 1 false 33,oD 35 4 true 10,oM 36 9,oV 37 .rem 36 .i64 256,oQ 38 lR [35,37],oO 39 (.conv .u64 (.t 38)),oW 40 .or 34 39,
 oO 41 (.idxP 4 1 (.t 8) (.c (.int .i64 0))),
 oS 1 41 40] ⟨.all,[],.look 0 (.look 1 (.look 2 (.look 3 (.look 4 (.run 5 true (.look 6 (.look 7 (.look 8 (.run 9 false .done)))))))))⟩) (sO [oM 42 11,oV 43 .eql 42 .u64 1,
 oM 44 43,oG 45 (.load 4 true (.t 8)) 44 false,oG 46 (.load 4 true (.t 5)) 44 false,oG 47 (.call (.c (.fn iP [])) [.t 45,.t 46]) 44 false,
 oG 48 (.bin .geq (.t 47) (.c (.int .i64 0))) 44 false,oO 49 (.pick (.t 44) (.c (.bool true)) (.t 48))] (.cond (.t 49) (.ops [oD 51 4 true 8,oD 52 4 true 5,
 oQ 53 fA [51,52],oM 50 53,oE 54 50 0,oE 55 50 1,oT 1 4 4 8 54]) .skip)))))))) (.ops [oM 18 9,oV 19 .sub 18 .i64 1,oM 9 19])))))) (sO [oD 56 4 true 8,oT 1 4 4 6 56,
 oI 7 0] .ret)))))⟩
theorem B_limb_Mod:BT A_limb_Mod sK:=fun h=>aD aH Tryz.func190 (by kernel_rfl) (by kernel_rfl) h
noncomputable def A_field_Sub:AFun:=⟨3,32,[.cell 6 4 true],
 (sO [oO 4 (.box 1 4 (.t 1)),oO 5 (.box 1 4 (.t 2)),oO 6 (.alloc 1 4 [.int .u64 0])] (sO [oM 12 0,oQ 13 dK [12],oM 11 13,oE 14 11 0,oE 15 11 1,
 oO 7 (.alloc 1 4 [.int .u64 0]),oT 1 4 4 7 14,oM 8 15] (.seq (sO [oM 16 8,oU 17 16] (.cond (.t 17) (sO [oO 18 (.build [.int .u64 0,.int .u64 0,.int .u64 0,.int .u64 0] []),
 oT 1 4 4 6 18] .ret) .skip)) (.seq (.draw [oM 20 0,oQ 21 dJ [20],oM 22 0,oD 23 4 true 5,oQ 24 kM [22,23],oQ 25 fA [21,24],oM 19 25,oE 26 19 0,
 oE 27 19 1,oO 9 (.alloc 1 4 [.int .u64 0]),oS 4 9 26,
 oM 10 27] ⟨.all,[(9,some 10)],.look 0 (.look 2 (.look 3 (.run 1 true (.run 4 true (.run 5 true (.look 6 (.look 7 (.pre 9 10 (.look 8 (.fill (.look 11 .done)))))))))))⟩) (sO [
 oM 28 0,oD 29 4 true 4,oD 30 4 true 9,oQ 31 gK [28,29,30],oT 1 4 4 6 31] .ret)))))⟩
theorem B_field_Sub:BT A_field_Sub jI:=fun h=>aD aH Tryz.func193 (by kernel_rfl) (by kernel_rfl) h
noncomputable def A_field_Mul:AFun:=⟨3,29,[.cell 6 4 true],
 (sO [oO 4 (.box 1 4 (.t 1)),oO 5 (.box 1 4 (.t 2)),oO 6 (.alloc 1 4 [.int .u64 0])] (sO [oM 12 0,oQ 13 dK [12],oM 11 13,oE 14 11 0,oE 15 11 1,
 oO 7 (.alloc 1 4 [.int .u64 0]),oT 1 4 4 7 14,oM 8 15] (.seq (sO [oM 16 8,oU 17 16] (.cond (.t 17) (sO [oO 18 (.build [.int .u64 0,.int .u64 0,.int .u64 0,.int .u64 0] []),
 oT 1 4 4 6 18] .ret) .skip)) (sO [oD 20 4 true 4,oD 21 4 true 5,oQ 22 pG [20,21],oM 19 22,oE 23 19 0,oE 24 19 1,oO 9 (.alloc 1 4 [.int .u64 0]),
 oO 10 (.alloc 1 4 [.int .u64 0]),oT 1 4 4 9 23,oT 1 4 4 10 24] (sO [oD 25 4 true 9,oD 26 4 true 10,oD 27 4 true 7,oQ 28 iE [25,26,27],oT 1 4 4 6 28] .ret)))))⟩
theorem B_field_Mul:BT A_field_Mul eI:=fun h=>aD aH Tryz.func194 (by kernel_rfl) (by kernel_rfl) h
noncomputable def A_deal_share_1:AFun:=⟨1,9,[.cell 2 9 true,.cell 3 4 true,.t 4,.t 5],
 (sO [oO 2 (.alloc 9 1 [.bool false,.int .u64 0,.int .u64 0,.int .u64 0,.int .u64 0,.int .u64 0,.int .u64 0,.int .u64 0,.int .u64 0]),oO 3 (.alloc 1 4 [.int .u64 0]),
 oB 4 false,oI 5 0] (sO [oO 6 (.build [.bool false,.int .u64 0,.int .u64 0,.int .u64 0,.int .u64 0,.int .u64 0,.int .u64 0,.int .u64 0,.int .u64 0] []),
 oO 7 (.build [.int .u64 0,.int .u64 0,.int .u64 0,.int .u64 0] []),oM 8 0,oT 9 1 9 2 6,oT 1 4 4 3 7,oB 4 false,oM 5 8] .ret))⟩
theorem B_deal_share_1:BT A_deal_share_1 kQ:=fun h=>aD aH Tryz.func198 (by kernel_rfl) (by kernel_rfl) h
noncomputable def A_limb_Mul:AFun:=⟨2,75,[.cell 4 4 true,.cell 5 4 true],
 (sO [oO 2 (.box 1 4 (.t 0)),oO 3 (.box 1 4 (.t 1)),oO 4 (.alloc 1 4 [.int .u64 0]),oO 5 (.alloc 1 4 [.int .u64 0])] (sO [oO 6 (.alloc 1 8 [.int .u64 0])] (.seq (sO [oI 14 0]
 (.block 0 (.loop (sO [oV 15 .lss 14 .i64 4] (.seq (.cond (.t 15) .skip (.exit 0)) (.seq (.block 1 (sO [oM 16 14,oM 7 16] (sO [oO 8 (.mv (.c (.int .u64 0)))] (.seq (sO [oI 17 0]
 (.block 2 (.loop (sO [oV 18 .lss 17 .i64 4] (.seq (.cond (.t 18) .skip (.exit 2)) (.seq (.block 3 (sO [oM 19 17,oM 9 19] (.seq (.draw [oM 21 7,oO 22 (.idxP 4 1 (.t 2) (.t 21)),
 oD 23 1 false 22,oM 24 9,oO 25 (.idxP 4 1 (.t 3) (.t 24)),oD 26 1 false 25,oQ 27 kX [23,26],oM 20 27,oE 28 20 0,oE 29 20 1,oM 10 28,
 oM 11 29] ⟨.all,[],.look 0 (.look 1 (.look 2 (.look 3 (.look 4 (.look 5 (.run 6 false (.look 7 (.look 8 (.look 9 (.look 10 (.look 11 .done)))))))))))⟩) (sO [
 oO 12 (.mv (.c (.int .u64 0))),oO 13 (.mv (.c (.int .u64 0)))] (sO [oM 31 7,oM 32 9,oO 33 (.binF .add (.t 31) (.t 32)),oM 34 7,oM 35 9,oO 36 (.binF .add (.t 34) (.t 35)),
 oO 37 (.idxP 8 1 (.t 6) (.t 36)),oD 38 1 false 37,oM 39 11,oO 40 (.x64 false jP (.t 38) (.t 39) (.c (.int .u64 0))),oM 30 40,oE 41 30 0,oE 42 30 1,
 oO 43 (.idxP 8 1 (.t 6) (.t 33)),oT 1 8 1 43 41,oM 12 42] (sO [oM 45 7,oM 46 9,oO 47 (.binF .add (.t 45) (.t 46)),oM 48 7,oM 49 9,oO 50 (.binF .add (.t 48) (.t 49)),
 oO 51 (.idxP 8 1 (.t 6) (.t 50)),oD 52 1 false 51,oM 53 8,oO 54 (.x64 false jP (.t 52) (.t 53) (.c (.int .u64 0))),oM 44 54,oE 55 44 0,oE 56 44 1,
 oO 57 (.idxP 8 1 (.t 6) (.t 47)),oT 1 8 1 57 55,oM 13 56] (.ops [oM 58 10,oM 59 12,oW 60 .add 58 59,oM 61 13,oW 62 .add 60 61,oM 8 62]))))))) (.ops [
 oO 63 (.binF .add (.t 17) (.c (.int .i64 1))),oM 17 63]))))))) (.ops [oM 64 7,oO 65 (.binF .add (.t 64) (.c (.int .i64 4))),oM 66 8,oO 67 (.idxP 8 1 (.t 6) (.t 65)),
 oT 1 8 1 67 66]))))) (.ops [oO 68 (.binF .add (.t 14) (.c (.int .i64 1))),oM 14 68]))))))) (.seq (.draw [oO 69 (.slarr 8 1 (.t 6) none (some (.c (.int .i64 4))) none),
 oO 70 (.arrp 4 1 (.t 69)),oD 71 4 true 70,oO 72 (.slarr 8 1 (.t 6) (some (.c (.int .i64 4))) none none),oO 73 (.arrp 4 1 (.t 72)),oD 74 4 true 73,oT 1 4 4 4 71,
 oT 1 4 4 5 74] ⟨(.but [4]),[],.look 0 (.look 1 (.look 2 (.look 3 (.look 4 (.look 5 (.run 6 true (.run 7 false .done)))))))⟩) .ret))))⟩
theorem B_limb_Mul:BT A_limb_Mul pG:=fun h=>aD aH Tryz.func199 (by kernel_rfl) (by kernel_rfl) h
noncomputable def A_limb_Add:AFun:=⟨2,26,[.cell 4 4 true,.t 5],
 (sO [oO 2 (.box 1 4 (.t 0)),oO 3 (.box 1 4 (.t 1)),oO 4 (.alloc 1 4 [.int .u64 0]),oO 5 (.mv (.c (.int .u64 0)))] (.seq (sO [oI 7 0] (.block 0 (.loop (sO [oV 8 .lss 7 .i64 4]
 (.seq (.cond (.t 8) .skip (.exit 0)) (.seq (.block 1 (sO [oM 9 7,oM 6 9] (.draw [oM 11 6,oM 12 6,oO 13 (.idxP 4 1 (.t 2) (.t 12)),oD 14 1 false 13,oM 15 6,
 oO 16 (.idxP 4 1 (.t 3) (.t 15)),oD 17 1 false 16,oM 18 5,oO 19 (.x64 false jP (.t 14) (.t 17) (.t 18)),oM 10 19,oE 20 10 0,oE 21 10 1,
 oO 22 (.idxP 4 1 (.t 4) (.t 11)),oT 1 4 1 22 20,
 oM 5 21] ⟨.all,[],.look 0 (.look 1 (.look 2 (.look 3 (.look 4 (.look 5 (.look 6 (.look 7 (.run 8 true (.look 9 (.look 10 (.look 11 (.look 12 (.run 13 false (.look 14 .done))))))))))))))⟩)))
 (.ops [oO 23 (.binF .add (.t 7) (.c (.int .i64 1))),oM 7 23]))))))) (sO [oD 24 4 true 4,oM 25 5,oT 1 4 4 4 24,oM 5 25] .ret)))⟩
theorem B_limb_Add:BT A_limb_Add jM:=fun h=>aD aH Tryz.func200 (by kernel_rfl) (by kernel_rfl) h
noncomputable def A_limb_Len:AFun:=⟨1,19,[.t 2],
 (sO [oO 1 (.box 1 4 (.t 0)),oI 2 0] (.seq (sO [oI 3 3] (.block 0 (.loop (.seq (sO [oM 4 3,oV 5 .geq 4 .i64 0] (.cond (.t 5) .skip (.exit 0))) (.seq (.block 1 (sO [oM 8 3,
 oO 9 (.idxP 4 1 (.t 1) (.t 8)),oD 10 1 false 9,oV 11 .neq 10 .u64 0] (.cond (.t 11) (sO [oM 12 3,oO 13 (.bin .mul (.c (.int .i64 64)) (.t 12)),oM 14 3,
 oO 15 (.idxP 4 1 (.t 1) (.t 14)),oD 16 1 false 15,oQ 17 nF [16],oW 18 .add 13 17,oM 2 18] .ret) .skip))) (.ops [oM 6 3,oV 7 .sub 6 .i64 1,oM 3 7])))))) (sO [oI 2 0]
 .ret)))⟩
theorem B_limb_Len:BT A_limb_Len pH:=fun h=>aD aH Tryz.func201 (by kernel_rfl) (by kernel_rfl) h
noncomputable def zC:AFun:=⟨1,74,[.cell 2 12 true],
 (sO [oO 1 (.box 12 1 (.t 0)),oO 2 (.alloc 12 1 (List.replicate 12 (.int .u64 0)))] (sO [oF 11 4 1,oD 12 4 true 11,oF 13 4 1,oD 14 4 true 13,oQ 15 aR [12,14],
 oO 3 (.alloc 1 4 [.int .u64 0]),oT 1 4 4 3 15] (sO [oF 16 0 1,oD 17 4 true 16,oD 18 4 true 3,oQ 19 aR [17,18],oO 4 (.alloc 1 4 [.int .u64 0]),oT 1 4 4 4 19]
 (.seq (.draw [oD 20 4 true 4,oD 21 4 true 4,oQ 22 cK [20,21],oD 23 4 true 4,oD 24 4 true 4,oQ 25 cK [23,24],oQ 26 cK [22,25],
 oT 1 4 4 4 26] ⟨.all,[],.look 0 (.look 1 (.look 3 (.look 4 (.run 2 true (.run 5 false (.run 6 false (.run 7 false .done)))))))⟩) (sO [oF 27 0 1,oD 28 4 true 27,oF 29 0 1,
 oD 30 4 true 29,oQ 31 aR [28,30],oO 5 (.alloc 1 4 [.int .u64 0]),oT 1 4 4 5 31] (.seq (.draw [oD 32 4 true 5,oD 33 4 true 5,oQ 34 cK [32,33],oD 35 4 true 5,
 oQ 36 cK [34,35],oO 6 (.alloc 1 4 [.int .u64 0]),oS 4 6 36] ⟨.all,[(5,some 6)],.look 0 (.look 1 (.look 3 (.run 2 true (.run 4 true (.pre 5 6 (.fill .done))))))⟩)
 (.seq (.draw [oD 37 4 true 6,oD 38 4 true 6,oQ 39 aR [37,38],oD 40 4 true 4,oD 41 4 true 4,oQ 42 cK [40,41],oQ 43 dS [39,42],
 oO 7 (.alloc 1 4 [.int .u64 0]),oS 4 7 43] ⟨.all,[(7,some 8)],.look 0 (.look 1 (.look 3 (.look 4 (.run 2 true (.run 5 true (.run 6 true (.pre 7 8 (.fill .done))))))))⟩) (sO [
 oD 44 4 true 3,oD 45 4 true 3,oQ 46 aR [44,45],oO 8 (.alloc 1 4 [.int .u64 0]),oT 1 4 4 8 46] (.seq (.draw [oD 47 4 true 8,oD 48 4 true 8,oQ 49 cK [47,48],
 oD 50 4 true 8,oD 51 4 true 8,oQ 52 cK [50,51],oQ 53 cK [49,52],
 oT 1 4 4 8 53] ⟨.all,[],.look 0 (.look 1 (.look 3 (.look 4 (.run 2 true (.run 5 false (.run 6 false (.run 7 false .done)))))))⟩) (.seq (.draw [oD 54 4 true 6,oD 55 4 true 4,
 oD 56 4 true 7,oQ 57 dS [55,56],oQ 58 aR [54,57],oD 59 4 true 8,oD 60 4 true 8,oQ 61 cK [59,60],oQ 62 dS [58,61],
 oO 9 (.alloc 1 4 [.int .u64 0]),
 oS 4 9 62] ⟨.all,[(9,some 10)],.look 0 (.look 1 (.look 2 (.look 5 (.look 6 (.run 3 true (.run 4 true (.run 7 true (.run 8 true (.pre 9 10 (.fill .done))))))))))⟩) (sO [
 oF 63 4 1,oD 64 4 true 63,oF 65 8 1,oD 66 4 true 65,oQ 67 aR [64,66],oO 10 (.alloc 1 4 [.int .u64 0]),oT 1 4 4 10 67] (.seq (.draw [oD 68 4 true 7,oD 69 4 true 9,
 oD 70 4 true 10,oD 71 4 true 10,oQ 72 cK [70,71],oO 73 (.build (List.replicate 12 (.int .u64 0)) [(0,4,.t 68),(4,4,.t 69),(8,4,.t 72)]),
 oT 12 1 12 2 73] ⟨.all,[],.look 0 (.look 1 (.look 2 (.look 3 (.run 4 true (.look 5 (.run 6 false .done))))))⟩) .ret))))))))))))⟩
theorem yC:BT zC fZ:=fun h=>aD aH Tryz.func202 (by kernel_rfl) (by kernel_rfl) h
noncomputable def A_limb_Bit:AFun:=⟨2,20,[.t 4],
 (sO [oO 2 (.box 1 4 (.t 0)),oI 4 0] (.seq (sO [oM 5 1,oV 6 .lss 5 .i64 0,oM 7 6,oG 8 (.mv (.t 1)) 7 false,oG 9 (.bin .geq (.t 8) (.c (.int .i64 256))) 7 false,
 oO 10 (.pick (.t 7) (.c (.bool true)) (.t 9))] (.cond (.t 10) (sO [oI 4 0] .ret) .skip)) (sO [oM 11 1,oV 12 .quo 11 .i64 64,oO 13 (.idxP 4 1 (.t 2) (.t 12)),oD 14 1 false 13,
 oM 15 1,oV 16 .rem 15 .i64 64,oW 17 .shr 14 16,oV 18 .and 17 .u64 1,oO 19 (.conv .i64 (.t 18)),oM 4 19] .ret)))⟩
theorem B_limb_Bit:BT A_limb_Bit lR:=fun h=>aD aH Tryz.func203 (by kernel_rfl) (by kernel_rfl) h
noncomputable def aBi:AFun:=⟨2,126,[.cell 4 12 true],
 (sO [oO 2 (.box 12 1 (.t 0)),oO 3 (.box 12 1 (.t 1)),oO 4 (.alloc 12 1 (List.replicate 12 (.int .u64 0)))] (sO [
 oO 19 (.build [.int .u64 0,.int .u64 0,.int .u64 0,.int .u64 0] []),oO 5 (.alloc 1 4 [.int .u64 0]),oT 1 4 4 5 19] (.seq (.block 0 (sO [oF 21 8 2,oD 22 4 true 21,
 oD 23 4 true 5,oO 24 (.eqa [.i,.i,.i,.i] false (.t 22) (.t 23)),oM 20 24] (.cond (.t 20) (sO [oD 25 12 true 3,oT 12 1 12 4 25] .ret) (sO [oF 27 8 3,oD 28 4 true 27,
 oD 29 4 true 5,oO 30 (.eqa [.i,.i,.i,.i] false (.t 28) (.t 29)),oM 26 30] (.cond (.t 26) (sO [oD 31 12 true 2,oT 12 1 12 4 31] .ret) .skip))))) (.seq (.draw [oF 32 8 2,
 oD 33 4 true 32,oF 34 8 2,oD 35 4 true 34,oQ 36 aR [33,35],oF 37 8 3,oD 38 4 true 37,oF 39 8 3,oD 40 4 true 39,oQ 41 aR [38,40],
 oO 6 (.alloc 1 4 [.int .u64 0]),oO 7 (.alloc 1 4 [.int .u64 0]),oS 4 6 36,
 oS 4 7 41] ⟨.all,[(10,some 12),(11,some 13)],.look 0 (.look 1 (.look 2 (.look 3 (.look 5 (.look 6 (.look 7 (.look 8 (.run 4 true (.pre 10 12 (.run 9 true (.pre 11 13 (.fill .done))))))))))))⟩)
 (.seq (.draw [oF 42 0 2,oD 43 4 true 42,oD 44 4 true 7,oQ 45 aR [43,44],oF 46 0 3,oD 47 4 true 46,oD 48 4 true 6,oQ 49 aR [47,48],
 oO 8 (.alloc 1 4 [.int .u64 0]),oO 9 (.alloc 1 4 [.int .u64 0]),oS 4 8 45,
 oS 4 9 49] ⟨.all,[(8,some 10),(9,some 11)],.look 0 (.look 1 (.look 2 (.look 4 (.look 5 (.look 6 (.run 3 true (.pre 8 10 (.run 7 true (.pre 9 11 (.fill .done))))))))))⟩)
 (.seq (.draw [oF 50 4 2,oD 51 4 true 50,oD 52 4 true 7,oF 53 8 3,oD 54 4 true 53,oQ 55 aR [52,54],oQ 56 aR [51,55],oF 57 4 3,oD 58 4 true 57,oD 59 4 true 6,
 oF 60 8 2,oD 61 4 true 60,oQ 62 aR [59,61],oQ 63 aR [58,62],oO 10 (.alloc 1 4 [.int .u64 0]),oO 11 (.alloc 1 4 [.int .u64 0]),oS 4 10 56,
 oS 4 11 63] ⟨.all,[(14,some 16),(15,some 17)],.look 0 (.look 1 (.look 2 (.look 3 (.look 4 (.look 7 (.look 8 (.look 9 (.look 10 (.look 11 (.run 5 true (.run 6 true (.pre 14 16 (.run 12 true (.run 13 true (.pre 15 17 (.fill .done))))))))))))))))⟩)
 (.seq (.draw [oD 64 4 true 9,oD 65 4 true 8,oQ 66 dS [64,65],oD 67 4 true 11,oD 68 4 true 10,oQ 69 dS [67,68],oO 12 (.alloc 1 4 [.int .u64 0]),
 oO 13 (.alloc 1 4 [.int .u64 0]),oS 4 12 66,
 oS 4 13 69] ⟨.all,[(6,some 8),(7,some 9)],.look 0 (.look 1 (.look 3 (.look 4 (.run 2 true (.pre 6 8 (.run 5 true (.pre 7 9 (.fill .done))))))))⟩) (.seq (.block 1 (sO [
 oD 71 4 true 12,oD 72 4 true 5,oO 73 (.eqa [.i,.i,.i,.i] false (.t 71) (.t 72)),oM 74 73,oG 75 (.load 4 true (.t 13)) 74 true,oG 76 (.load 4 true (.t 5)) 74 true,
 oG 77 (.eqa [.i,.i,.i,.i] false (.t 75) (.t 76)) 74 true,oO 78 (.pick (.t 74) (.t 77) (.c (.bool false))),oM 70 78] (.cond (.t 70) (sO [oD 79 12 true 2,
 oQ 80 fZ [79],oT 12 1 12 4 80] .ret) (sO [oD 82 4 true 12,oD 83 4 true 5,oO 84 (.eqa [.i,.i,.i,.i] false (.t 82) (.t 83)),oM 81 84] (.cond (.t 81) (sO [
 oO 85 (.build [.int .u64 0,.int .u64 0,.int .u64 0,.int .u64 0] [(0,1,.c (.int .u64 1))]),
 oO 86 (.build [.int .u64 0,.int .u64 0,.int .u64 0,.int .u64 0] [(0,1,.c (.int .u64 1))]),oD 87 4 true 5,
 oO 88 (.build (List.replicate 12 (.int .u64 0)) [(0,4,.t 85),(4,4,.t 86),(8,4,.t 87)]),oT 12 1 12 4 88] .ret) .skip))))) (sO [oD 89 4 true 12,oD 90 4 true 12,
 oQ 91 aR [89,90],oO 14 (.alloc 1 4 [.int .u64 0]),oT 1 4 4 14 91] (.seq (.draw [oD 92 4 true 14,oD 93 4 true 12,oQ 94 aR [92,93],oD 95 4 true 8,
 oD 96 4 true 14,oQ 97 aR [95,96],oO 15 (.alloc 1 4 [.int .u64 0]),oO 16 (.alloc 1 4 [.int .u64 0]),oS 4 15 94,
 oS 4 16 97] ⟨.all,[(6,some 8),(7,some 9)],.look 0 (.look 1 (.look 3 (.look 4 (.run 2 true (.pre 6 8 (.run 5 true (.pre 7 9 (.fill .done))))))))⟩) (.seq (.draw [
 oD 98 4 true 13,oD 99 4 true 13,oQ 100 aR [98,99],oD 101 4 true 15,oQ 102 dS [100,101],oD 103 4 true 16,oD 104 4 true 16,oQ 105 cK [103,104],
 oQ 106 dS [102,105],oO 17 (.alloc 1 4 [.int .u64 0]),
 oS 4 17 106] ⟨.all,[(9,some 10)],.look 0 (.look 1 (.look 3 (.look 5 (.look 6 (.run 2 true (.run 4 true (.run 7 true (.run 8 true (.pre 9 10 (.fill .done))))))))))⟩)
 (.seq (.draw [oD 107 4 true 13,oD 108 4 true 16,oD 109 4 true 17,oQ 110 dS [108,109],oQ 111 aR [107,110],oD 112 4 true 10,oD 113 4 true 15,
 oQ 114 aR [112,113],oQ 115 dS [111,114],oO 18 (.alloc 1 4 [.int .u64 0]),
 oS 4 18 115] ⟨.all,[(9,some 10)],.look 0 (.look 1 (.look 2 (.look 5 (.look 6 (.run 3 true (.run 4 true (.run 7 true (.run 8 true (.pre 9 10 (.fill .done))))))))))⟩)
 (.seq (.draw [oD 116 4 true 17,oD 117 4 true 18,oD 118 4 true 12,oF 119 8 2,oD 120 4 true 119,oF 121 8 3,oD 122 4 true 121,oQ 123 aR [120,122],
 oQ 124 aR [118,123],oO 125 (.build (List.replicate 12 (.int .u64 0)) [(0,4,.t 116),(4,4,.t 117),(8,4,.t 124)]),
 oT 12 1 12 4 125] ⟨.all,[],.look 0 (.look 1 (.look 2 (.look 3 (.look 4 (.look 5 (.look 6 (.run 7 true (.run 8 true (.look 9 (.run 10 false .done))))))))))⟩) .ret)))))))))))))⟩
theorem aAm:BT aBi gT:=fun h=>aD aH Tryz.func204 (by kernel_rfl) (by kernel_rfl) h
noncomputable def A_field_Inv:AFun:=⟨2,18,[.cell 4 4 true],
 (sO [oO 3 (.box 1 4 (.t 1)),oO 4 (.alloc 1 4 [.int .u64 0])] (sO [oM 8 0,oQ 9 dJ [8],
 oO 10 (.build [.int .u64 0,.int .u64 0,.int .u64 0,.int .u64 0] [(0,1,.c (.int .u64 2))]),oQ 11 fA [9,10],oM 7 11,oE 12 7 0,oE 13 7 1,
 oO 5 (.alloc 1 4 [.int .u64 0]),oT 1 4 4 5 12,oM 6 13] (sO [oM 14 0,oD 15 4 true 3,oD 16 4 true 5,oQ 17 pZ [14,15,16],oT 1 4 4 4 17] .ret)))⟩
theorem B_field_Inv:BT A_field_Inv mL:=fun h=>aD aH Tryz.func205 (by kernel_rfl) (by kernel_rfl) h
noncomputable def wN:AFun:=⟨1,24,[.cell 2 32 true],
 (sO [oO 1 (.box 1 4 (.t 0)),oO 2 (.alloc 1 32 [.int .u8 0])] (sO [oO 3 (.alloc 1 32 [.int .u8 0])] (.seq (sO [oI 4 0] (.block 0 (.loop (.seq (sO [oM 5 4,oV 6 .lss 5 .i64 32]
 (.cond (.t 6) .skip (.exit 0))) (.seq (.block 1 (.ops [oM 9 4,oM 10 4,oV 11 .quo 10 .i64 8,oO 12 (.binF .sub (.c (.int .i64 3)) (.t 11)),oO 13 (.idxP 4 1 (.t 1) (.t 12)),
 oD 14 1 false 13,oM 15 4,oV 16 .rem 15 .i64 8,oO 17 (.binF .mul (.c (.int .i64 8)) (.t 16)),oO 18 (.binF .sub (.c (.int .i64 56)) (.t 17)),oO 19 (.conv .u64 (.t 18)),
 oW 20 .shr 14 19,oO 21 (.conv .u8 (.t 20)),oO 22 (.idxP 32 1 (.t 3) (.t 9)),oT 1 32 1 22 21])) (.ops [oM 7 4,oO 8 (.binF .add (.t 7) (.c (.int .i64 1))),oM 4 8])))))) (sO [
 oD 23 32 true 3,oT 1 32 32 2 23] .ret))))⟩
theorem vT:BT wN fF:=fun h=>aD aH Tryz.func206 (by kernel_rfl) (by kernel_rfl) h
noncomputable def tU:AFun:=⟨3,20,[.t 6],
 (sO [oO 3 (.box 9 1 (.t 0)),oO 6 (.mv (.c (.nils)))] (sO [oO 7 (.mv (.c (.nils)))] (sO [oM 8 7,oD 9 9 true 3,oQ 10 cB [9],oO 11 (.app 1 1 (.t 8) (.t 10)),
 oM 12 1,oO 13 (.conv .u8 (.t 12)),oM 14 2,oO 15 (.conv .u8 (.t 14)),oO 16 (.bsl 1 2 [.int .u8 0] [(0,1,.t 13),(1,1,.t 15)]),oO 17 (.app 1 1 (.t 11) (.t 16)),oM 7 17] (sO [
 oM 18 7,oK 19 eG [.t 18,.c (.int .i64 32)],oM 6 19] .ret))))⟩
theorem tJ:BT tU gE:=fun h=>aD aH Tryz.func207 (by kernel_rfl) (by kernel_rfl) h
noncomputable def aAr:AFun:=⟨2,8,[.cell 4 4 true],
 (sO [oO 2 (.box 1 4 (.t 0)),oO 3 (.box 1 4 (.t 1)),oO 4 (.alloc 1 4 [.int .u64 0])] (sO [oD 5 4 true 2,oD 6 4 true 3,oK 7 cD [.c (.int .i64 1),.t 5,.t 6],
 oT 1 4 4 4 7] .ret))⟩
theorem zW:BT aAr jB:=fun h=>aD aH Tryz.func208 (by kernel_rfl) (by kernel_rfl) h
noncomputable def A_witanref01_ok:AFun:=⟨1,9,[.t 2],
 (sO [oB 2 false] (sO [oM 3 0,oV 4 .eql 3 .i64 0,oM 5 4,oG 6 (.mv (.t 0)) 5 false,oG 7 (.bin .eql (.t 6) (.c (.int .i64 1))) 5 false,oO 8 (.pick (.t 5) (.c (.bool true)) (.t 7)),
 oM 2 8] .ret))⟩
theorem rS:BT A_witanref01_ok cN:=fun h=>aD aH Tryz.func209 (by kernel_rfl) (by kernel_rfl) h
noncomputable def aAz:AFun:=⟨2,13,[.cell 4 4 true],
 (sO [oO 3 (.box 1 4 (.t 1)),oO 4 (.alloc 1 4 [.int .u64 0])] (.seq (sO [oM 5 0,oQ 6 cN [5],oU 7 6] (.cond (.t 7) (sO [
 oO 8 (.build [.int .u64 0,.int .u64 0,.int .u64 0,.int .u64 0] []),oT 1 4 4 4 8] .ret) .skip)) (sO [oM 9 0,oD 10 4 true 3,
 oO 11 (.build [.int .u64 0,.int .u64 0,.int .u64 0,.int .u64 0] []),oQ 12 bM [9,10,11],oT 1 4 4 4 12] .ret)))⟩
theorem qH:BT aAz cO:=fun h=>aD aH Tryz.func210 (by kernel_rfl) (by kernel_rfl) h
noncomputable def yS:AFun:=⟨3,48,[.cell 6 4 true],
 (sO [oO 4 (.box 1 4 (.t 1)),oO 5 (.box 1 4 (.t 2)),oO 6 (.alloc 1 4 [.int .u64 0])] (.seq (.block 0 (.loop (.seq (sO [oD 11 4 true 5,
 oO 12 (.build [.int .u64 0,.int .u64 0,.int .u64 0,.int .u64 0] []),oO 13 (.eqa [.i,.i,.i,.i] true (.t 11) (.t 12))] (.cond (.t 13) .skip (.exit 0))) (.block 1
 (.seq (.draw [oD 15 4 true 5,oM 16 0,oQ 17 dA [16],oQ 18 gQ [15,17],oM 14 18,oE 19 14 0,oE 20 14 1,oO 7 (.alloc 1 4 [.int .u64 0]),
 oO 8 (.alloc 1 4 [.int .u64 0]),oS 4 7 19,
 oS 4 8 20] ⟨.all,[(7,some 9),(8,some 10)],.look 0 (.look 1 (.run 2 true (.run 3 true (.look 4 (.look 5 (.pre 7 9 (.look 6 (.pre 8 10 (.fill .done)))))))))⟩) (sO [
 oD 22 4 true 4,oD 23 4 true 7,oQ 24 dR [22,23],oM 21 24,oE 25 21 0,oE 26 21 1,oO 9 (.alloc 1 4 [.int .u64 0]),oT 1 4 4 9 25,oM 10 26] (sO [oD 27 4 true 9,
 oT 1 4 4 4 27] (.ops [oD 29 4 true 8,oM 30 10,oO 31 (.build [.int .u64 0,.int .u64 0,.int .u64 0,.int .u64 0] [(0,1,.t 30)]),oQ 32 dR [29,31],oM 28 32,
 oE 33 28 0,oE 34 28 1,oT 1 4 4 5 33])))))))) (.seq (.seq (.draw [oD 35 4 true 4,oM 36 0,oQ 37 bI [36],oQ 38 dQ [35,37],
 oV 39 .geq 38 .i64 0] ⟨.all,[],.look 0 (.look 1 (.run 2 true (.run 3 true (.look 4 .done))))⟩) (.cond (.t 39) (.draw [oD 41 4 true 4,oM 42 0,oQ 43 bI [42],
 oQ 44 cA [41,43],oM 40 44,oE 45 40 0,oE 46 40 1,
 oT 1 4 4 4 45] ⟨.all,[],.look 0 (.look 1 (.run 2 true (.run 3 false (.look 4 (.look 5 (.look 6 (.run 7 false .done)))))))⟩) .skip)) (sO [oD 47 4 true 4,oT 1 4 4 6 47] .ret))))⟩
theorem pJ:BT yS bM:=fun h=>aD aH Tryz.func211 (by kernel_rfl) (by kernel_rfl) h
noncomputable def nV:AFun:=⟨1,8,[.t 2],
 (sO [oO 2 (.mv (.c (.nils)))] (.seq (sO [oM 3 0,oO 4 (.eqnS false (.t 3))] (.cond (.t 4) (sO [oO 2 (.mv (.c (.nils)))] .ret) .skip)) (sO [oO 5 (.bsl 1 0 [.int .u8 0] []),oM 6 0,
 oO 7 (.app 1 1 (.t 5) (.t 6)),oM 2 7] .ret)))⟩
theorem nU:BT nV dH:=fun h=>aD aH Tryz.func217 (by kernel_rfl) (by kernel_rfl) h
noncomputable def aAu:AFun:=⟨2,8,[.cell 4 4 true],
 (sO [oO 2 (.box 1 4 (.t 0)),oO 3 (.box 1 4 (.t 1)),oO 4 (.alloc 1 4 [.int .u64 0])] (sO [oD 5 4 true 2,oD 6 4 true 3,oK 7 dD [.c (.int .i64 0),.t 5,.t 6],
 oT 1 4 4 4 7] .ret))⟩
theorem zZ:BT aAu bH:=fun h=>aD aH Tryz.func220 (by kernel_rfl) (by kernel_rfl) h
noncomputable def A_bin_room:AFun:=⟨1,6,[.t 2],
 (sO [oI 2 0] (sO [oM 3 0,oO 4 (.bin .mul (.c (.int .i64 8)) (.t 3)),oO 5 (.bin .shl (.c (.int .i64 1)) (.t 4)),oM 2 5] .ret))⟩
theorem B_bin_room:BT A_bin_room xK:=fun h=>aD aH Tryz.func221 (by kernel_rfl) (by kernel_rfl) h
noncomputable def A_curve_add:AFun:=⟨2,8,[.cell 4 4 true],
 (sO [oO 2 (.box 1 4 (.t 0)),oO 3 (.box 1 4 (.t 1)),oO 4 (.alloc 1 4 [.int .u64 0])] (sO [oD 5 4 true 2,oD 6 4 true 3,oK 7 gK [.c (.int .i64 0),.t 5,.t 6],
 oT 1 4 4 4 7] .ret))⟩
theorem B_curve_add:BT A_curve_add cK:=fun h=>aD aH Tryz.func222 (by kernel_rfl) (by kernel_rfl) h
noncomputable def A_pair_dealer:AFun:=⟨1,9,[.t 2],
 (sO [oB 2 false] (sO [oM 3 0,oV 4 .geq 3 .i64 1,oM 5 4,oG 6 (.mv (.t 0)) 5 true,oG 7 (.bin .leq (.t 6) (.c (.int .i64 8))) 5 true,oO 8 (.pick (.t 5) (.t 7) (.c (.bool false))),
 oM 2 8] .ret))⟩
theorem B_pair_dealer:BT A_pair_dealer kC:=fun h=>aD aH Tryz.func223 (by kernel_rfl) (by kernel_rfl) h
noncomputable def A_draw_Stream:AFun:=⟨2,33,[.t 4,.t 5],
 (sO [oO 4 (.mv (.c (.nils))),oI 5 0] (.seq (sO [oM 9 1,oV 10 .lss 9 .i64 0,oM 11 10,oG 12 (.mv (.t 1)) 11 false,oG 13 (.bin .gtr (.t 12) (.c (.int .i64 65536))) 11 false,
 oO 14 (.pick (.t 11) (.c (.bool true)) (.t 13))] (.cond (.t 14) (sO [oO 4 (.mv (.c (.nils))),oI 5 4] .ret) .skip)) (sO [oO 6 (.mv (.c (.nils)))] (.seq (sO [
 oO 7 (.mv (.c (.int .u64 0)))] (.block 0 (.loop (.seq (sO [oM 15 6,oL 16 15,oM 17 1,oW 18 .lss 16 17] (.cond (.t 18) .skip (.exit 0))) (.seq (.block 1 (sO [oM 21 0,oM 22 7,
 oK 23 iR [.t 22,.c (.int .i64 8)],oQ 24 vH [21,23],oO 8 (.alloc 1 32 [.int .u8 0]),oS 32 8 24] (.ops [oM 25 6,oO 26 (.slarr 32 1 (.t 8) none none none),
 oO 27 (.app 1 1 (.t 25) (.t 26)),oM 6 27]))) (.ops [oM 19 7,oV 20 .add 19 .u64 1,oM 7 20])))))) (sO [oO 28 (.bsl 1 0 [.int .u8 0] []),oM 29 6,oM 30 1,
 oO 31 (.slice 1 (.t 29) none (some (.t 30)) none),oO 32 (.app 1 1 (.t 28) (.t 31)),oM 4 32,oI 5 0] .ret)))))⟩
theorem B_draw_Stream:BT A_draw_Stream lK:=fun h=>aD aH Tryz.func224 (by kernel_rfl) (by kernel_rfl) h
noncomputable def aAx:AFun:=⟨2,11,[.cell 4 9 true],
 (sO [oO 2 (.box 9 1 (.t 0)),oO 3 (.box 9 1 (.t 1)),
 oO 4 (.alloc 9 1 [.bool false,.int .u64 0,.int .u64 0,.int .u64 0,.int .u64 0,.int .u64 0,.int .u64 0,.int .u64 0,.int .u64 0])] (.seq (.draw [oD 5 9 true 2,
 oQ 6 cZ [5],oD 7 9 true 3,oQ 8 cZ [7],oQ 9 fW [6,8],oQ 10 fX [9],
 oT 9 1 9 4 10] ⟨.all,[],.look 0 (.look 2 (.run 1 true (.run 3 false (.run 4 false (.run 5 false (.run 6 false .done))))))⟩) .ret))⟩
theorem aAc:BT aAx gP:=fun h=>aD aH Tryz.func225 (by kernel_rfl) (by kernel_rfl) h
noncomputable def A_witanref04_be:AFun:=⟨2,23,[.t 4],
 (sO [oO 4 (.mv (.c (.nils)))] (sO [oO 5 (.mv (.c (.nils)))] (.seq (sO [oM 7 1,oV 8 .sub 7 .i64 1,oM 6 8] (.block 0 (.loop (.seq (sO [oM 9 6,oV 10 .geq 9 .i64 0] (.cond (.t 10)
 .skip (.exit 0))) (.seq (.block 1 (.ops [oM 13 5,oM 14 0,oM 15 6,oO 16 (.bin .mul (.c (.int .i64 8)) (.t 15)),oO 17 (.conv .u64 (.t 16)),oW 18 .shr 14 17,
 oO 19 (.conv .u8 (.t 18)),oO 20 (.bsl 1 1 [.int .u8 0] [(0,1,.t 19)]),oO 21 (.app 1 1 (.t 13) (.t 20)),oM 5 21])) (.ops [oM 11 6,oV 12 .sub 11 .i64 1,oM 6 12])))))) (sO [
 oM 22 5,oM 4 22] .ret))))⟩
theorem B_witanref04_be:BT A_witanref04_be fV:=fun h=>aD aH Tryz.func226 (by kernel_rfl) (by kernel_rfl) h
noncomputable def yP:AFun:=⟨0,2,[.cell 0 64 true],
 (sO [oO 0 (.alloc 1 64 [.int .u32 0])] (sO [
 oO 1 (.build (List.replicate 64 (.int .u32 0)) [(0,1,.c (.int .u32 1116352408)),(1,1,.c (.int .u32 1899447441)),(2,1,.c (.int .u32 3049323471)),(3,1,.c (.int .u32 3921009573)),(4,1,.c (.int .u32 961987163)),(5,1,.c (.int .u32 1508970993)),(6,1,.c (.int .u32 2453635748)),(7,1,.c (.int .u32 2870763221)),(8,1,.c (.int .u32 3624381080)),(9,1,.c (.int .u32 310598401)),(10,1,.c (.int .u32 607225278)),(11,1,.c (.int .u32 1426881987)),(12,1,.c (.int .u32 1925078388)),(13,1,.c (.int .u32 2162078206)),(14,1,.c (.int .u32 2614888103)),(15,1,.c (.int .u32 3248222580)),(16,1,.c (.int .u32 3835390401)),(17,1,.c (.int .u32 4022224774)),(18,1,.c (.int .u32 264347078)),(19,1,.c (.int .u32 604807628)),(20,1,.c (.int .u32 770255983)),(21,1,.c (.int .u32 1249150122)),(22,1,.c (.int .u32 1555081692)),(23,1,.c (.int .u32 1996064986)),(24,1,.c (.int .u32 2554220882)),(25,1,.c (.int .u32 2821834349)),(26,1,.c (.int .u32 2952996808)),(27,1,.c (.int .u32 3210313671)),(28,1,.c (.int .u32 3336571891)),(29,1,.c (.int .u32 3584528711)),(30,1,.c (.int .u32 113926993)),(31,1,.c (.int .u32 338241895)),(32,1,.c (.int .u32 666307205)),(33,1,.c (.int .u32 773529912)),(34,1,.c (.int .u32 1294757372)),(35,1,.c (.int .u32 1396182291)),(36,1,.c (.int .u32 1695183700)),(37,1,.c (.int .u32 1986661051)),(38,1,.c (.int .u32 2177026350)),(39,1,.c (.int .u32 2456956037)),(40,1,.c (.int .u32 2730485921)),(41,1,.c (.int .u32 2820302411)),(42,1,.c (.int .u32 3259730800)),(43,1,.c (.int .u32 3345764771)),(44,1,.c (.int .u32 3516065817)),(45,1,.c (.int .u32 3600352804)),(46,1,.c (.int .u32 4094571909)),(47,1,.c (.int .u32 275423344)),(48,1,.c (.int .u32 430227734)),(49,1,.c (.int .u32 506948616)),(50,1,.c (.int .u32 659060556)),(51,1,.c (.int .u32 883997877)),(52,1,.c (.int .u32 958139571)),(53,1,.c (.int .u32 1322822218)),(54,1,.c (.int .u32 1537002063)),(55,1,.c (.int .u32 1747873779)),(56,1,.c (.int .u32 1955562222)),(57,1,.c (.int .u32 2024104815)),(58,1,.c (.int .u32 2227730452)),(59,1,.c (.int .u32 2361852424)),(60,1,.c (.int .u32 2428436474)),(61,1,.c (.int .u32 2756734187)),(62,1,.c (.int .u32 3204031479)),(63,1,.c (.int .u32 3329325298))]),
 oS 64 0 1] .ret))⟩
theorem xT:BT yP fU:=fun h=>aD aH Tryz.func227 (by kernel_rfl) (by kernel_rfl) h
noncomputable def uA:AFun:=⟨1,37,[.t 2],
 (sO [oO 2 (.mv (.c (.nils)))] (sO [oO 3 (.mv (.c (.nils)))] (sO [oM 6 3,oM 7 0,oO 8 (.app 1 1 (.t 6) (.t 7)),oO 9 (.bsl 1 1 [.int .u8 0] [(0,1,.c (.int .u8 128))]),
 oO 10 (.app 1 1 (.t 8) (.t 9)),oM 3 10] (.seq (.block 0 (.loop (.seq (sO [oM 11 3,oL 12 11,oV 13 .add 12 .i64 8,oV 14 .rem 13 .i64 64,oV 15 .neq 14 .i64 0] (.cond (.t 15) .skip
 (.exit 0))) (.block 1 (.ops [oM 16 3,oO 17 (.bsl 1 1 [.int .u8 0] [(0,1,.c (.int .u8 0))]),oO 18 (.app 1 1 (.t 16) (.t 17)),oM 3 18]))))) (sO [oM 19 0,oL 20 19,
 oO 21 (.conv .u64 (.t 20)),oV 22 .mul 21 .u64 8,oM 4 22] (.seq (sO [oI 5 7] (.block 2 (.loop (.seq (sO [oM 23 5,oV 24 .geq 23 .i64 0] (.cond (.t 24) .skip (.exit 2)))
 (.seq (.block 3 (.ops [oM 27 3,oM 28 4,oM 29 5,oO 30 (.conv .u64 (.t 29)),oO 31 (.bin .mul (.c (.int .u64 8)) (.t 30)),oW 32 .shr 28 31,oO 33 (.conv .u8 (.t 32)),
 oO 34 (.bsl 1 1 [.int .u8 0] [(0,1,.t 33)]),oO 35 (.app 1 1 (.t 27) (.t 34)),oM 3 35])) (.ops [oM 25 5,oV 26 .sub 25 .i64 1,oM 5 26])))))) (sO [oM 36 3,oM 2 36] .ret)))))))⟩
theorem tL:BT uA gH:=fun h=>aD aH Tryz.func228 (by kernel_rfl) (by kernel_rfl) h
noncomputable def wG:AFun:=⟨2,9,[.t 4],
 (sO [oO 4 (.mv (.c (.int .u32 0)))] (sO [oM 5 0,oM 6 1,oO 7 (.un .neg (.t 6)),oQ 8 bC [5,7],oM 4 8] .ret))⟩
theorem vO:BT wG bG:=fun h=>aD aH Tryz.func229 (by kernel_rfl) (by kernel_rfl) h
noncomputable def aBa:AFun:=⟨3,31,[.cell 6 4 true],
 (sO [oO 4 (.box 1 4 (.t 1)),oO 5 (.box 1 4 (.t 2)),oO 6 (.alloc 1 4 [.int .u64 0])] (.seq (sO [oM 9 0,oQ 10 cN [9],oU 11 10] (.cond (.t 11) (sO [
 oO 12 (.build [.int .u64 0,.int .u64 0,.int .u64 0,.int .u64 0] []),oT 1 4 4 6 12] .ret) .skip)) (sO [
 oO 13 (.build [.int .u64 0,.int .u64 0,.int .u64 0,.int .u64 0] [(0,1,.c (.int .u64 1))]),oO 7 (.alloc 1 4 [.int .u64 0]),oT 1 4 4 7 13] (.seq (sO [oI 8 255] (.block 0
 (.loop (.seq (sO [oM 14 8,oV 15 .geq 14 .i64 0] (.cond (.t 15) .skip (.exit 0))) (.seq (.block 1 (sO [oM 18 0,oD 19 4 true 7,oD 20 4 true 7,oQ 21 cC [18,19,20],
 oT 1 4 4 7 21] (sO [oD 22 4 true 5,oM 23 8,oQ 24 gS [22,23],oV 25 .eql 24 .i64 1] (.cond (.t 25) (.ops [oM 26 0,oD 27 4 true 7,oD 28 4 true 4,
 oQ 29 cC [26,27,28],oT 1 4 4 7 29]) .skip)))) (.ops [oM 16 8,oV 17 .sub 16 .i64 1,oM 8 17])))))) (sO [oD 30 4 true 7,oT 1 4 4 6 30] .ret)))))⟩
theorem aAe:BT aBa jD:=fun h=>aD aH Tryz.func230 (by kernel_rfl) (by kernel_rfl) h
noncomputable def aBb:AFun:=⟨2,81,[.cell 4 4 true,.cell 5 4 true],
 (sO [oO 2 (.box 1 4 (.t 0)),oO 3 (.box 1 4 (.t 1)),oO 4 (.alloc 1 4 [.int .u64 0]),oO 5 (.alloc 1 4 [.int .u64 0])] (sO [oO 6 (.alloc 1 8 [.int .u64 0])] (.seq (sO [oI 7 0]
 (.block 0 (.loop (.seq (sO [oM 13 7,oV 14 .lss 13 .i64 4] (.cond (.t 14) .skip (.exit 0))) (.seq (.block 1 (sO [oO 8 (.mv (.c (.int .u64 0)))] (.seq (sO [oI 9 0] (.block 2 (.loop
 (.seq (sO [oM 17 9,oV 18 .lss 17 .i64 4] (.cond (.t 18) .skip (.exit 2))) (.seq (.block 3 (.seq (.draw [oM 22 7,oO 23 (.idxP 4 1 (.t 2) (.t 22)),oD 24 1 false 23,oM 25 9,
 oO 26 (.idxP 4 1 (.t 3) (.t 25)),oD 27 1 false 26,oQ 28 kX [24,27],oM 21 28,oE 29 21 0,oE 30 21 1,oM 10 29,
 oM 11 30] ⟨.all,[],.look 0 (.look 1 (.look 2 (.look 3 (.look 4 (.look 5 (.run 6 false (.look 7 (.look 8 (.look 9 (.look 10 (.look 11 .done)))))))))))⟩) (sO [oM 32 11,oM 33 7,
 oM 34 9,oO 35 (.binF .add (.t 33) (.t 34)),oO 36 (.idxP 8 1 (.t 6) (.t 35)),oD 37 1 false 36,oO 38 (.x64 false jP (.t 32) (.t 37) (.c (.int .u64 0))),oM 31 38,
 oE 39 31 0,oE 40 31 1,oM 11 39,oM 12 40] (sO [oM 41 10,oM 42 12,oW 43 .add 41 42,oM 10 43] (sO [oM 45 11,oM 46 8,
 oO 47 (.x64 false jP (.t 45) (.t 46) (.c (.int .u64 0))),oM 44 47,oE 48 44 0,oE 49 44 1,oM 11 48,oM 12 49] (sO [oM 50 10,oM 51 12,oW 52 .add 50 51,oM 10 52] (.ops [
 oM 53 7,oM 54 9,oO 55 (.binF .add (.t 53) (.t 54)),oM 56 11,oM 57 10,oO 58 (.idxP 8 1 (.t 6) (.t 55)),oT 1 8 1 58 56,oM 8 57]))))))) (.ops [oM 19 9,
 oO 20 (.binF .add (.t 19) (.c (.int .i64 1))),oM 9 20])))))) (.ops [oM 59 7,oO 60 (.binF .add (.t 59) (.c (.int .i64 4))),oM 61 8,oO 62 (.idxP 8 1 (.t 6) (.t 60)),
 oT 1 8 1 62 61])))) (.ops [oM 15 7,oO 16 (.binF .add (.t 15) (.c (.int .i64 1))),oM 7 16])))))) (.seq (.draw [oO 63 (.idxP 8 1 (.t 6) (.c (.int .i64 0))),oD 64 1 false 63,
 oO 65 (.idxP 8 1 (.t 6) (.c (.int .i64 1))),oD 66 1 false 65,oO 67 (.idxP 8 1 (.t 6) (.c (.int .i64 2))),oD 68 1 false 67,oO 69 (.idxP 8 1 (.t 6) (.c (.int .i64 3))),
 oD 70 1 false 69,oO 71 (.build [.int .u64 0,.int .u64 0,.int .u64 0,.int .u64 0] [(0,1,.t 64),(1,1,.t 66),(2,1,.t 68),(3,1,.t 70)]),
 oO 72 (.idxP 8 1 (.t 6) (.c (.int .i64 4))),oD 73 1 false 72,oO 74 (.idxP 8 1 (.t 6) (.c (.int .i64 5))),oD 75 1 false 74,oO 76 (.idxP 8 1 (.t 6) (.c (.int .i64 6))),
 oD 77 1 false 76,oO 78 (.idxP 8 1 (.t 6) (.c (.int .i64 7))),oD 79 1 false 78,
 oO 80 (.build [.int .u64 0,.int .u64 0,.int .u64 0,.int .u64 0] [(0,1,.t 73),(1,1,.t 75),(2,1,.t 77),(3,1,.t 79)]),oT 1 4 4 4 71,
 oT 1 4 4 5 80] ⟨(.but [4]),[],.look 0 (.look 1 (.look 2 (.look 3 (.look 4 (.look 5 (.look 6 (.look 7 (.look 8 (.look 9 (.look 10 (.look 11 (.look 12 (.look 13 (.look 14 (.look 15 (.look 16 (.look 17 (.run 18 true (.run 19 false .done)))))))))))))))))))⟩)
 .ret))))⟩
theorem aAf:BT aBb gQ:=fun h=>aD aH Tryz.func231 (by kernel_rfl) (by kernel_rfl) h
noncomputable def A_draw_number:AFun:=⟨2,22,[.t 4],
 (sO [oO 4 (.mv (.c (.nils)))] (sO [oO 5 (.mv (.c (.nils)))] (.seq (sO [oM 7 1,oV 8 .sub 7 .i64 1,oM 6 8] (.block 0 (.loop (.seq (sO [oM 9 6,oV 10 .geq 9 .i64 0] (.cond (.t 10)
 .skip (.exit 0))) (.seq (.block 1 (.ops [oM 13 5,oM 14 0,oM 15 6,oO 16 (.bin .mul (.c (.int .i64 8)) (.t 15)),oW 17 .shr 14 16,oO 18 (.conv .u8 (.t 17)),
 oO 19 (.bsl 1 1 [.int .u8 0] [(0,1,.t 18)]),oO 20 (.app 1 1 (.t 13) (.t 19)),oM 5 20])) (.ops [oM 11 6,oV 12 .sub 11 .i64 1,oM 6 12])))))) (sO [oM 21 5,oM 4 21] .ret))))⟩
theorem B_draw_number:BT A_draw_number iR:=fun h=>aD aH Tryz.func232 (by kernel_rfl) (by kernel_rfl) h
noncomputable def A_sha_rounds:AFun:=⟨0,2,[.t 0],
 (sO [oO 0 (.mv (.c (.nils)))] (sO [
 oO 1 (.bsl 1 64 [.int .u32 0] [(0,1,.c (.int .u32 1116352408)),(1,1,.c (.int .u32 1899447441)),(2,1,.c (.int .u32 3049323471)),(3,1,.c (.int .u32 3921009573)),(4,1,.c (.int .u32 961987163)),(5,1,.c (.int .u32 1508970993)),(6,1,.c (.int .u32 2453635748)),(7,1,.c (.int .u32 2870763221)),(8,1,.c (.int .u32 3624381080)),(9,1,.c (.int .u32 310598401)),(10,1,.c (.int .u32 607225278)),(11,1,.c (.int .u32 1426881987)),(12,1,.c (.int .u32 1925078388)),(13,1,.c (.int .u32 2162078206)),(14,1,.c (.int .u32 2614888103)),(15,1,.c (.int .u32 3248222580)),(16,1,.c (.int .u32 3835390401)),(17,1,.c (.int .u32 4022224774)),(18,1,.c (.int .u32 264347078)),(19,1,.c (.int .u32 604807628)),(20,1,.c (.int .u32 770255983)),(21,1,.c (.int .u32 1249150122)),(22,1,.c (.int .u32 1555081692)),(23,1,.c (.int .u32 1996064986)),(24,1,.c (.int .u32 2554220882)),(25,1,.c (.int .u32 2821834349)),(26,1,.c (.int .u32 2952996808)),(27,1,.c (.int .u32 3210313671)),(28,1,.c (.int .u32 3336571891)),(29,1,.c (.int .u32 3584528711)),(30,1,.c (.int .u32 113926993)),(31,1,.c (.int .u32 338241895)),(32,1,.c (.int .u32 666307205)),(33,1,.c (.int .u32 773529912)),(34,1,.c (.int .u32 1294757372)),(35,1,.c (.int .u32 1396182291)),(36,1,.c (.int .u32 1695183700)),(37,1,.c (.int .u32 1986661051)),(38,1,.c (.int .u32 2177026350)),(39,1,.c (.int .u32 2456956037)),(40,1,.c (.int .u32 2730485921)),(41,1,.c (.int .u32 2820302411)),(42,1,.c (.int .u32 3259730800)),(43,1,.c (.int .u32 3345764771)),(44,1,.c (.int .u32 3516065817)),(45,1,.c (.int .u32 3600352804)),(46,1,.c (.int .u32 4094571909)),(47,1,.c (.int .u32 275423344)),(48,1,.c (.int .u32 430227734)),(49,1,.c (.int .u32 506948616)),(50,1,.c (.int .u32 659060556)),(51,1,.c (.int .u32 883997877)),(52,1,.c (.int .u32 958139571)),(53,1,.c (.int .u32 1322822218)),(54,1,.c (.int .u32 1537002063)),(55,1,.c (.int .u32 1747873779)),(56,1,.c (.int .u32 1955562222)),(57,1,.c (.int .u32 2024104815)),(58,1,.c (.int .u32 2227730452)),(59,1,.c (.int .u32 2361852424)),(60,1,.c (.int .u32 2428436474)),(61,1,.c (.int .u32 2756734187)),(62,1,.c (.int .u32 3204031479)),(63,1,.c (.int .u32 3329325298))]),
 oM 0 1] .ret))⟩
theorem B_sha_rounds:BT A_sha_rounds nC:=fun h=>aD aH Tryz.func233 (by kernel_rfl) (by kernel_rfl) h
noncomputable def A_sha_padded:AFun:=⟨1,35,[.t 2],
 (sO [oO 2 (.mv (.c (.nils)))] (sO [oO 6 (.bsl 1 0 [.int .u8 0] []),oM 7 0,oO 8 (.app 1 1 (.t 6) (.t 7)),oO 9 (.bsl 1 1 [.int .u8 0] [(0,1,.c (.int .u8 128))]),
 oO 10 (.app 1 1 (.t 8) (.t 9)),oM 3 10] (.seq (.block 0 (.loop (.seq (sO [oM 11 3,oL 12 11,oV 13 .rem 12 .i64 64,oV 14 .neq 13 .i64 56] (.cond (.t 14) .skip (.exit 0))) (.block 1
 (.ops [oM 15 3,oO 16 (.bsl 1 1 [.int .u8 0] [(0,1,.c (.int .u8 0))]),oO 17 (.app 1 1 (.t 15) (.t 16)),oM 3 17]))))) (sO [oM 18 0,oL 19 18,oO 20 (.conv .u64 (.t 19)),
 oV 21 .shl 20 .u64 3,oM 4 21] (.seq (sO [oI 5 7] (.block 2 (.loop (.seq (sO [oM 22 5,oV 23 .geq 22 .i64 0] (.cond (.t 23) .skip (.exit 2))) (.seq (.block 3 (.ops [oM 26 3,
 oM 27 4,oM 28 5,oO 29 (.bin .mul (.c (.int .i64 8)) (.t 28)),oW 30 .shr 27 29,oO 31 (.conv .u8 (.t 30)),oO 32 (.bsl 1 1 [.int .u8 0] [(0,1,.t 31)]),
 oO 33 (.app 1 1 (.t 26) (.t 32)),oM 3 33])) (.ops [oM 24 5,oV 25 .sub 24 .i64 1,oM 5 25])))))) (sO [oM 34 3,oM 2 34] .ret))))))⟩
theorem B_sha_padded:BT A_sha_padded nD:=fun h=>aD aH Tryz.func234 (by kernel_rfl) (by kernel_rfl) h
noncomputable def A_sha_high:AFun:=⟨1,19,[.t 2],
 (sO [oO 2 (.mv (.c (.int .u64 0)))] (sO [oO 3 (.mv (.c (.int .u64 0)))] (.seq (sO [oM 6 0,oL 7 6,oI 8 0] (.block 0 (.loop (sO [oW 9 .lss 8 7] (.seq (.cond (.t 9) .skip (.exit 0))
 (.seq (.block 1 (sO [oX 10 1 6 8,oD 11 1 false 10,oM 5 11] (.ops [oM 12 3,oV 13 .shl 12 .u64 8,oM 14 5,oO 15 (.conv .u64 (.t 14)),oW 16 .or 13 15,oM 3 16]))) (.ops [
 oV 17 .add 8 .i64 1,oM 8 17]))))))) (sO [oM 18 3,oM 2 18] .ret))))⟩
theorem B_sha_high:BT A_sha_high sH:=fun h=>aD aH Tryz.func235 (by kernel_rfl) (by kernel_rfl) h
noncomputable def uG:AFun:=⟨2,17,[.t 4],
 (sO [oO 4 (.mv (.c (.int .u32 0)))] (sO [oM 6 1,oO 7 (.conv .u64 (.t 6)),oV 8 .and 7 .u64 31,oM 5 8] (sO [oM 9 0,oM 10 5,oW 11 .shl 9 10,oM 12 0,oM 13 5,
 oO 14 (.bin .sub (.c (.int .u64 32)) (.t 13)),oW 15 .shr 12 14,oW 16 .or 11 15,oM 4 16] .ret)))⟩
theorem tS:BT uG bC:=fun h=>aD aH Tryz.func236 (by kernel_rfl) (by kernel_rfl) h
noncomputable def A_bits_Mul64:AFun:=⟨2,51,[.t 4,.t 5],
 (sO [oO 4 (.mv (.c (.int .u64 0))),oO 5 (.mv (.c (.int .u64 0)))] (sO [oM 14 0,oV 15 .and 14 .u64 4294967295,oM 6 15] (sO [oM 16 0,oV 17 .shr 16 .u64 32,oM 7 17] (sO [oM 18 1,
 oV 19 .and 18 .u64 4294967295,oM 8 19] (sO [oM 20 1,oV 21 .shr 20 .u64 32,oM 9 21] (sO [oM 22 6,oM 23 8,oW 24 .mul 22 23,oM 10 24] (sO [oM 25 7,oM 26 8,oW 27 .mul 25 26,
 oM 28 10,oV 29 .shr 28 .u64 32,oW 30 .add 27 29,oM 11 30] (sO [oM 31 11,oV 32 .and 31 .u64 4294967295,oM 12 32] (sO [oM 33 11,oV 34 .shr 33 .u64 32,oM 13 34] (sO [oM 35 12,
 oM 36 6,oM 37 9,oW 38 .mul 36 37,oW 39 .add 35 38,oM 12 39] (sO [oM 40 7,oM 41 9,oW 42 .mul 40 41,oM 43 13,oW 44 .add 42 43,oM 45 12,oV 46 .shr 45 .u64 32,oW 47 .add 44 46,
 oM 4 47] (sO [oM 48 0,oM 49 1,oW 50 .mul 48 49,oM 5 50] .ret))))))))))))⟩
theorem B_bits_Mul64:BT A_bits_Mul64 kX:=fun h=>aD aH Tryz.func237 (by kernel_rfl) (by kernel_rfl) h
noncomputable def A_bits_Len64:AFun:=⟨1,25,[.t 2],
 (sO [oI 2 0] (.seq (sO [oM 3 0,oV 4 .geq 3 .u64 4294967296] (.cond (.t 4) (sO [oM 5 0,oV 6 .shr 5 .u64 32,oM 0 6] (.ops [oI 2 32])) .skip)) (.seq (sO [oM 7 0,
 oV 8 .geq 7 .u64 65536] (.cond (.t 8) (sO [oM 9 0,oV 10 .shr 9 .u64 16,oM 0 10] (.ops [oM 11 2,oV 12 .add 11 .i64 16,oM 2 12])) .skip)) (.seq (sO [oM 13 0,
 oV 14 .geq 13 .u64 256] (.cond (.t 14) (sO [oM 15 0,oV 16 .shr 15 .u64 8,oM 0 16] (.ops [oM 17 2,oV 18 .add 17 .i64 8,oM 2 18])) .skip)) (sO [oM 19 2,oM 20 0,
 oO 21 (.conv .u8 (.t 20)),
 ⟨some 22,.idxs (.c (.str ⟨#[0,1,2,2,3,3,3,3,4,4,4,4,4,4,4,4,5,5,5,5,5,5,5,5,5,5,5,5,5,5,5,5,6,6,6,6,6,6,6,6,6,6,6,6,6,6,6,6,6,6,6,6,6,6,6,6,6,6,6,6,6,6,6,6,7,7,7,7,7,7,7,7,7,7,7,7,7,7,7,7,7,7,7,7,7,7,7,7,7,7,7,7,7,7,7,7,7,7,7,7,7,7,7,7,7,7,7,7,7,7,7,7,7,7,7,7,7,7,7,7,7,7,7,7,7,7,7,7,8,8,8,8,8,8,8,8,8,8,8,8,8,8,8,8,8,8,8,8,8,8,8,8,8,8,8,8,8,8,8,8,8,8,8,8,8,8,8,8,8,8,8,8,8,8,8,8,8,8,8,8,8,8,8,8,8,8,8,8,8,8,8,8,8,8,8,8,8,8,8,8,8,8,8,8,8,8,8,8,8,8,8,8,8,8,8,8,8,8,8,8,8,8,8,8,8,8,8,8,8,8,8,8,8,8,8,8,8,8,8,8,8,8,8,8,8,8,8,8,8,8,8,8,8,8,8,8]⟩)) (.t 21),none⟩,
 oO 23 (.conv .i64 (.t 22)),oW 24 .add 19 23,oM 2 24] .ret)))))⟩
theorem B_bits_Len64:BT A_bits_Len64 nF:=fun h=>aD aH Tryz.func238 (by kernel_rfl) (by kernel_rfl) h
noncomputable def A_curve_sub:AFun:=⟨2,8,[.cell 4 4 true],
 (sO [oO 2 (.box 1 4 (.t 0)),oO 3 (.box 1 4 (.t 1)),oO 4 (.alloc 1 4 [.int .u64 0])] (sO [oD 5 4 true 2,oD 6 4 true 3,oK 7 jI [.c (.int .i64 0),.t 5,.t 6],
 oT 1 4 4 4 7] .ret))⟩
theorem B_curve_sub:BT A_curve_sub dS:=fun h=>aD aH Tryz.func239 (by kernel_rfl) (by kernel_rfl) h
noncomputable def A_field_Pow:AFun:=⟨3,40,[.cell 6 4 true],
 (sO [oO 4 (.box 1 4 (.t 1)),oO 5 (.box 1 4 (.t 2)),oO 6 (.alloc 1 4 [.int .u64 0])] (sO [oM 12 0,oQ 13 dK [12],oM 11 13,oE 14 11 0,oE 15 11 1,
 oO 7 (.alloc 1 4 [.int .u64 0]),oT 1 4 4 7 14,oM 8 15] (.seq (sO [oM 16 8,oU 17 16] (.cond (.t 17) (sO [oO 18 (.build [.int .u64 0,.int .u64 0,.int .u64 0,.int .u64 0] []),
 oT 1 4 4 6 18] .ret) .skip)) (sO [oO 19 (.build [.int .u64 0,.int .u64 0,.int .u64 0,.int .u64 0] [(0,1,.c (.int .u64 1))]),oO 9 (.alloc 1 4 [.int .u64 0]),oT 1 4 4 9 19]
 (.seq (sO [oD 20 4 true 5,oQ 21 pH [20],oV 22 .sub 21 .i64 1,oM 10 22] (.block 0 (.loop (.seq (sO [oM 23 10,oV 24 .geq 23 .i64 0] (.cond (.t 24) .skip (.exit 0)))
 (.seq (.block 1 (sO [oM 27 0,oD 28 4 true 9,oD 29 4 true 9,oQ 30 eI [27,28,29],oT 1 4 4 9 30] (sO [oD 31 4 true 5,oM 32 10,oQ 33 lR [31,32],
 oV 34 .eql 33 .i64 1] (.cond (.t 34) (.ops [oM 35 0,oD 36 4 true 9,oD 37 4 true 4,oQ 38 eI [35,36,37],oT 1 4 4 9 38]) .skip)))) (.ops [oM 25 10,oV 26 .sub 25 .i64 1,
 oM 10 26])))))) (sO [oD 39 4 true 9,oT 1 4 4 6 39] .ret))))))⟩
theorem B_field_Pow:BT A_field_Pow pZ:=fun h=>aD aH Tryz.func240 (by kernel_rfl) (by kernel_rfl) h
noncomputable def uC:AFun:=⟨2,24,[.t 4],
 (sO [oO 4 (.mv (.c (.nils)))] (sO [oO 5 (.mv (.c (.nils)))] (.seq (sO [oO 6 (.mv (.c (.int .u64 0)))] (.block 0 (.loop (.seq (sO [oM 8 5,oL 9 8,oM 10 1,oW 11 .lss 9 10]
 (.cond (.t 11) .skip (.exit 0))) (.seq (.block 1 (sO [oM 14 0,oM 15 6,oK 16 fV [.t 15,.c (.int .i64 8)],oQ 17 jC [14,16],
 oO 7 (.alloc 1 32 [.int .u8 0]),oS 32 7 17] (.ops [oM 18 5,oO 19 (.slarr 32 1 (.t 7) none none none),oO 20 (.app 1 1 (.t 18) (.t 19)),oM 5 20]))) (.ops [oM 12 6,
 oV 13 .add 12 .u64 1,oM 6 13])))))) (sO [oM 21 5,oM 22 1,oO 23 (.slice 1 (.t 21) none (some (.t 22)) none),oM 4 23] .ret))))⟩
theorem tN:BT uC eG:=fun h=>aD aH Tryz.func241 (by kernel_rfl) (by kernel_rfl) h
noncomputable def A_sha_Mac:AFun:=⟨2,50,[.cell 4 32 true],
 (sO [oO 4 (.alloc 1 32 [.int .u8 0])] (.seq (sO [oM 10 0,oL 11 10,oV 12 .gtr 11 .i64 64] (.cond (.t 12) (sO [oM 13 0,oQ 14 kB [13],oO 5 (.alloc 1 32 [.int .u8 0]),
 oS 32 5 14] (.ops [oO 15 (.slarr 32 1 (.t 5) none none none),oM 0 15])) .skip)) (.seq (.draw [oO 16 (.mksl 1 1 [.int .u8 0] (.c (.int .i64 64)) (.c (.int .i64 64))),
 oO 17 (.mksl 1 1 [.int .u8 0] (.c (.int .i64 64)) (.c (.int .i64 64))),oM 6 16,oM 7 17] ⟨.all,[(1,none)],.run 0 true (.look 2 (.fill (.look 3 .done)))⟩) (sO [oM 18 6,oM 19 0,
 oO 20 (.copy 1 (.t 18) (.t 19))] (sO [oM 21 7,oM 22 0,oO 23 (.copy 1 (.t 21) (.t 22))] (.seq (sO [oM 24 6,oL 25 24,oI 26 0] (.block 0 (.loop (sO [oW 27 .lss 26 25]
 (.seq (.cond (.t 27) .skip (.exit 0)) (.seq (.block 1 (sO [oM 28 26,oM 8 28] (sO [oM 29 6,oM 30 8,oX 31 1 29 30,oD 32 1 false 31,oV 33 .xor 32 .u8 54,oX 34 1 29 30,oS 1 34 33]
 (.ops [oM 35 7,oM 36 8,oX 37 1 35 36,oD 38 1 false 37,oV 39 .xor 38 .u8 92,oX 40 1 35 36,oS 1 40 39])))) (.ops [oV 41 .add 26 .i64 1,oM 26 41]))))))) (sO [oM 42 6,oM 43 1,
 oO 44 (.app 1 1 (.t 42) (.t 43)),oQ 45 kB [44],oO 9 (.alloc 1 32 [.int .u8 0]),oS 32 9 45] (sO [oM 46 7,oO 47 (.slarr 32 1 (.t 9) none none none),
 oO 48 (.app 1 1 (.t 46) (.t 47)),oQ 49 kB [48],oS 32 4 49] .ret))))))))⟩
theorem B_sha_Mac:BT A_sha_Mac vH:=fun h=>aD aH Tryz.func244 (by kernel_rfl) (by kernel_rfl) h
noncomputable def aAt:AFun:=⟨2,47,[.cell 4 32 true],
 (sO [oO 4 (.alloc 1 32 [.int .u8 0])] (sO [oO 5 (.alloc 1 64 [.int .u8 0]),oO 6 (.alloc 1 64 [.int .u8 0])] (.seq (sO [oM 11 0,oL 12 11,oV 13 .gtr 12 .i64 64] (.cond (.t 13)
 (sO [oM 14 0,oQ 15 bZ [14],oO 7 (.alloc 1 32 [.int .u8 0]),oS 32 7 15] (.ops [oO 16 (.slarr 32 1 (.t 7) none none none),oM 0 16])) .skip)) (.seq (sO [oI 8 0]
 (.block 0 (.loop (.seq (sO [oM 17 8,oV 18 .lss 17 .i64 64] (.cond (.t 18) .skip (.exit 0))) (.seq (.block 1 (sO [oO 9 (.mv (.c (.int .u8 0)))] (.seq (sO [oM 21 8,oM 22 0,
 oL 23 22,oW 24 .lss 21 23] (.cond (.t 24) (.ops [oM 25 0,oM 26 8,oX 27 1 25 26,oD 28 1 false 27,oM 9 28]) .skip)) (.ops [oM 29 8,oM 30 8,oM 31 9,oV 32 .xor 31 .u8 54,oM 33 9,
 oV 34 .xor 33 .u8 92,oO 35 (.idxP 64 1 (.t 5) (.t 29)),oS 1 35 32,oO 36 (.idxP 64 1 (.t 6) (.t 30)),oS 1 36 34])))) (.ops [oM 19 8,oV 20 .add 19 .i64 1,oM 8 20])))))) (sO [
 oO 37 (.slarr 64 1 (.t 5) none none none),oM 38 1,oO 39 (.bsl 1 2 [.nils] [(0,1,.t 37),(1,1,.t 38)]),oQ 40 cS [39],oQ 41 bZ [40],
 oO 10 (.alloc 1 32 [.int .u8 0]),oS 32 10 41] (.seq (.draw [oO 42 (.slarr 64 1 (.t 6) none none none),oO 43 (.slarr 32 1 (.t 10) none none none),
 oO 44 (.bsl 1 2 [.nils] [(0,1,.t 42),(1,1,.t 43)]),oQ 45 cS [44],oQ 46 bZ [45],
 oS 32 4 46] ⟨.all,[],.look 0 (.look 1 (.run 2 false (.run 3 false (.run 4 false (.run 5 false .done)))))⟩) .ret))))))⟩
theorem zY:BT aAt jC:=fun h=>aD aH Tryz.func245 (by kernel_rfl) (by kernel_rfl) h
end Go.Proofs.YtfolpdmbpbbimaaGreat
end

section
namespace Go.Proofs.YtfolpdmbpbbimaaGreat
open Go Go.Wit
theorem w64 {n:Int} (h0: -9223372036854775808<=n) (h1:n<=9223372036854775807):IntKind.i64.wrap n=n:=by rw [IntKind.wrap_i64];omega
theorem wu64 (n:Int):IntKind.u64.wrap n=n % 18446744073709551616:=by simp [IntKind.wrap,IntKind.bits,IntKind.signed]
end Go.Proofs.YtfolpdmbpbbimaaGreat
end

section
namespace Go.Proofs.YtfolpdmbpbbimaaGreat
open Go Go.Wit
theorem S_clone0 (n cap:Nat) (f:Nat->Int) (hn:n<=140737488355328):ACall Pg dH [.vsl 1 n cap (aB f)] [] (fun v m'=>∃ n' f',(n'=n/\f'=f)/\RetB n' f' v m'):=by
 refine nU ⟨rfl,?_⟩
 conv=>whnf
 refine aE (fun hc=> ?_) (fun hc h0=>⟨?_,?_⟩)
 · conv=>whnf
   refine aA (cH rfl rfl rfl (by omega) (by omega)) (fun cap' hcap=> ?_)
   conv=>whnf
   refine⟨n,f,⟨rfl,rfl⟩,.inr ⟨1,cap',_,_,by first | rfl | (rw [Nat.zero_add];rfl) | rw [Nat.zero_add],rfl,by omega,fun i hi=> ?_⟩⟩
   rw [bL (by omega)];rfl
 · conv=>whnf
   refine aA (cH rfl rfl rfl (by omega) (by omega)) (fun cap' hcap=> ?_)
   conv=>whnf
   refine⟨n,f,⟨rfl,rfl⟩,.inr ⟨1,cap',_,_,by first | rfl | (rw [Nat.zero_add];rfl) | rw [Nat.zero_add],rfl,by omega,fun i hi=> ?_⟩⟩
   rw [bL (by omega)];rfl
 · conv=>whnf
   exact⟨n,f,⟨rfl,rfl⟩,.inl ⟨rfl,h0⟩⟩
theorem S_clone {m:Mem} {x:AV} {n:Nat} {f:Nat->Int} {K:AV->Mem->Prop} (hx:aM m x n f) (hn:n<=140737488355328) (hK:∀ cap,memK (m++ [some ⟨1,n,aB f⟩]) (K (.sl m.length 0 n cap))):ACall Pg dH [x] m K:=by
 simp only [cU]at hK
 obtain⟨cap,hl⟩:=hx
 refine gU (S_clone0 n cap f hn) (.cons _ _ _ _ hl .nil) ?_
 rintro n' f' cap' ⟨rfl,rfl⟩
 exact hK cap'
theorem S_room (s:Nat) (hs:1<=s/\s<=7) {m:Mem} {K:AV->Mem->Prop} (h:K (.int .i64 (2 ^ (8*s))) m):ACall Pg xK [.int .i64 s] m K:=by
 refine B_bin_room ⟨rfl,?_⟩
 conv=>whnf
 rw [w64 (n:=8*(s:Int)) (by omega) (by omega)]
 conv=>whnf
 have e:IntKind.i64.wrap (1*2 ^ min ((8:Int)*(s:Int)).toNat IntKind.i64.bits)=2 ^ (8*s):=by
  obtain⟨h1,h2⟩:=hs
  have:s=1\/s=2\/s=3\/s=4\/s=5\/s=6\/s=7:=by omega
  rcases this with rfl | rfl | rfl | rfl | rfl | rfl | rfl <;> rfl
 rw [e]
 exact h
def wX (v s:Int):Bool:=decide (1<=s) && (decide (s<=7) && (decide (0<=v) && decide (v<2 ^ (8*s).toNat)))
def putB (n:Nat) (f:Nat->Int) (v s:Int) (i:Nat):Int:=if i<n then f i else (v / 2 ^ (8*(s.toNat - 1 - (i - n)))) % 256
theorem S_Put0 (n cap:Nat) (f:Nat->Int) (v s:Int) (hn:n<=140737488355000):ACall Pg vJ [.vsl 1 n cap (aB f),.int .i64 v,.int .i64 s] []
 (fun r m'=>∃ n' f' x vs,r= .tup (x::vs)/\(if wX v s then n'=n+s.toNat/\f'=putB n f v s/\vs= [.int .i64 0]else n'=0/\vs= [.int .i64 1])/\RetB n' f' x m'/\Flats true vs):=by
 refine B_bin_Put ⟨rfl,?_⟩
 have hbad:wX v s=false->∀ m',∃ n' f' x vs,AV.tup [.nils,.int .i64 1] = .tup (x::vs)/\(if wX v s then n'=n+s.toNat/\f'=putB n f v s/\vs= [.int .i64 0]else n'=0/\vs= [.int .i64 1])/\RetB n' f' x m'/\Flats true vs:=by
  intro h m'
  exact⟨0,fun _=>0,.nils,_,rfl,by simp [h],.inl ⟨rfl,rfl⟩,.cons _ _ (.int _ _) .nil⟩
 conv=>whnf
 refine aE (fun h1=> ?_) (fun h1=> ?_)
 rotate_left
 · conv=>whnf
   exact hbad (by simp at h1;simp [wX];omega) []
 have h1:1<=s:=by simpa using h1
 conv=>whnf
 refine aE (fun h2=> ?_) (fun h2=> ?_)
 rotate_left
 · conv=>whnf
   exact hbad (by simp at h2;simp [wX];omega) []
 have h2:s<=7:=by simpa using h2
 conv=>whnf
 refine aE (fun h3=> ?_) (fun h3=> ?_)
 rotate_left
 · conv=>whnf
   exact hbad (by simp at h3;simp [wX];omega) []
 have h3:0<=v:=by simpa using h3
 obtain⟨s,rfl⟩ :∃ s':Nat,s=s':=⟨s.toNat,by omega⟩
 conv=>whnf
 refine S_room s (by omega) ?_
 conv=>whnf
 refine aE (fun h4=> ?_) (fun h4=> ?_)
 · conv=>whnf
   exact hbad (by
    simp at h4
    simp only [wX,Bool.and_eq_false_iff,decide_eq_false_iff_not]
    right;right;right
    rw [show ((8:Int)*(s:Int)).toNat=8*s by omega];omega) []
 have h4:v<2 ^ (8*s):=by simpa using h4
 conv=>whnf
 refine S_clone (f:=f) aM.vsl (by omega) (fun cap1=> ?_)
 conv=>whnf
 rw [w64 (n:=(s:Int) - 1) (by omega) (by omega)]
 refine aU aH (I:=fun q l m=>∃ (i:Int) (N c:Nat) (g:Nat->Int),l= [(1,.int .i64 v),(8,.sl 0 0 N c),(9,.int .i64 i)] /\ m= [some ⟨1,N,aB g⟩] /\ (q:Int)=i+1/\ -1<=i/\i<=s - 1/\(N:Int)=n+s - 1 - i/\∀ j,j<N->g j=putB n f v s j) s
  (l0:= [(1,.int .i64 v),(8,.sl 0 0 n cap1),(9,.int .i64 (s - 1))]) (m0:= [some ⟨1,n,aB f⟩]) [some 0] ⟨s - 1,n,cap1,f,rfl,rfl,by omega,by omega,by omega,by omega,fun j hj=> ?_⟩ ?_ ?_
 · simp [putB,hj]
 · refine .mk0 ⟨Flat.i rfl,.sl _ _ _ _ _ rfl,Flat.i rfl,trivial⟩ ⟨.old 0 0 _ _ rfl rfl ⟨rfl,Nat.le_refl _,fun i j hi hj=> .eq _ _ rfl (.int _ _)⟩,trivial⟩ rfl rfl
 · rintro q l m ⟨i,N,c,g,rfl,rfl,hq,hi1,hi2,hN,hg⟩
   conv=>whnf
   refine aE (fun hb=> ?_) (fun hb=> ?_)
   · have hb:0<=i:=by simpa using hb
     conv=>whnf
     rw [w64 (n:=8*i) (by omega) (by omega)]
     refine aA (decide_eq_true (by omega)) ?_
     conv=>whnf
     refine aA (cH (decide_eq_true (Nat.le_refl _)) rfl rfl (by omega) (by omega)) (fun cap' hcap=> ?_)
     conv=>whnf
     rw [w64 (n:=i - 1) (by omega) (by omega)]
     refine⟨q - 1,[(1,.int .i64 v),(8,.sl 0 0 (N+1) cap'),(9,.int .i64 (i - 1))],[some ⟨1,N+1,aB (fun j=>if j<N then g j else (v / 2 ^ (8*(s - 1 - (N - n)))) % 256)⟩],[some 2],by omega,
      ⟨i - 1,N+1,cap',_,rfl,rfl,by omega,by omega,by omega,by omega,fun j hj=> ?_⟩,?_⟩
     · by_cases hjN:j<N
       · simp only [if_pos hjN];exact hg j hjN
       · obtain rfl:j=N:=by omega
         simp only [if_neg hjN]
         rw [putB,if_neg (by omega),Int.toNat_natCast]
     · refine .mk0 ⟨Flat.i rfl,.sl _ _ _ _ _ rfl,Flat.i rfl,trivial⟩ ⟨.old 0 2 _ _ rfl rfl ⟨rfl,Nat.le_refl _,fun j k hj hk=> ?_⟩,trivial⟩ rfl rfl
       have hk:k<1:=hk
       obtain rfl:k=0:=by omega
       have hj:j<N+1:=hj
       by_cases hjN:j<N
       · refine .eq _ _ ?_ ?_
         · dsimp only
           rw [cY hjN];simp only [aB,if_pos hjN]
         · dsimp only
           rw [cY hjN];exact .int _ _
       · obtain rfl:j=N:=by omega
         have e:IntKind.u8.wrap (v.fdiv (2 ^ min (8*i).toNat IntKind.i64.bits))=(v / 2 ^ (8*(s - 1 - (j - n)))) % 256:=by
          rw [IntKind.wrap_u8,Int.fdiv_eq_ediv_of_nonneg _ (Int.pow_nonneg (by omega))]
          rw [show min (8*i).toNat IntKind.i64.bits=8*(s - 1 - (j - n)) by simp only [IntKind.bits];omega]
         refine .eq _ _ ?_ ?_
         · dsimp only
           rw [bL (Nat.le_refl _)];simp only [aB,if_neg hjN,Nat.sub_self]
           rw [<- e];rfl
         · dsimp only
           rw [bL (Nat.le_refl _),Nat.sub_self];exact .int _ _
   · have hb:i= -1:=by simp at hb;omega
     conv=>whnf
     have hok:wX v s=true:=by
      simp only [wX,Bool.and_eq_true,decide_eq_true_eq]
      rw [show ((8:Int)*(s:Int)).toNat=8*s by omega]
      exact⟨h1,h2,h3,h4⟩
     refine⟨N,putB n f v s,_,_,rfl,by rw [if_pos hok];exact⟨by omega,rfl,rfl⟩,.inr ⟨0,c,N,_,rfl,rfl,Nat.le_refl _,fun i hi=>by rw [<- hg i hi];rfl⟩,.cons _ _ (.int _ _) .nil⟩
theorem S_Put {m:Mem} {x:AV} {n:Nat} {f:Nat->Int} {K:AV->Mem->Prop} (v s:Int) (hx:aM m x n f) (hn:n<=140737488355000)
 (h0:wX v s=false->∀ cap f',memK (m++ [some ⟨1,0,aB f'⟩]) (K (.tup [.sl m.length 0 0 cap,.int .i64 1])))
 (h1:wX v s=true->∀ cap,memK (m++ [some ⟨1,n+s.toNat,aB (putB n f v s)⟩]) (K (.tup [.sl m.length 0 (n+s.toNat) cap,.int .i64 0]))):ACall Pg vJ [x,.int .i64 v,.int .i64 s] m K:=by
 simp only [cU]at h0 h1
 obtain⟨cap,hl⟩:=hx
 refine sB (S_Put0 n cap f v s hn) (.cons _ _ _ _ hl (.cons _ _ _ _ aG (.cons _ _ _ _ aG .nil))) ?_
 intro n' f' cap' vs hR
 cases hp:wX v s
 · rw [if_neg (by simp [hp])]at hR
   obtain⟨rfl,rfl⟩:=hR
   exact h0 hp cap' f'
 · rw [if_pos hp]at hR
   obtain⟨rfl,rfl,rfl⟩:=hR
   exact h1 hp cap'
end Go.Proofs.YtfolpdmbpbbimaaGreat
end

section
namespace Go.Proofs.YtfolpdmbpbbimaaGreat
open Go Go.Wit
def getV (f:Nat->Int) (p:Nat):Nat->Int
 | 0=>0
 | k+1=>getV f p k*256+f (p+k)
theorem getV_lt {f:Nat->Int} {p k:Nat} (hf:∀ i,i<p+k->0<=f i/\f i<=255):0<=getV f p k/\getV f p k<256 ^ k:=by
  induction k with
  | zero=>simp [getV]
  | succ k ih =>
    have h1:=ih (fun i hi=>hf i (by omega))
    have h2:=hf (p+k) (by omega)
    simp only [getV]
    have:(256:Int) ^ (k+1)=256 ^ k*256:=by rw [Int.pow_succ]
    omega
end Go.Proofs.YtfolpdmbpbbimaaGreat
end

section
namespace Go.Proofs.YtfolpdmbpbbimaaGreat
open Go Go.Wit
end Go.Proofs.YtfolpdmbpbbimaaGreat
end

section

end

section
namespace Go.Proofs.YtfolpdmbpbbimaaGreat
open Go Go.Wit
end Go.Proofs.YtfolpdmbpbbimaaGreat
end

section
namespace Go.Proofs.YtfolpdmbpbbimaaGreat
open Go Go.Wit
def catB (n:Nat) (f g:Nat->Int) (i:Nat):Int:=if i<n then f i else g (i - n)
end Go.Proofs.YtfolpdmbpbbimaaGreat
end

