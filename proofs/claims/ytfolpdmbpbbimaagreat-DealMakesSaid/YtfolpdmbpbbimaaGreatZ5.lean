/- Texts of a proof, one behind the other; the last of these: What the readers of bin make; no condition. -/
import Derived.Test.YtfolpdmbpbbimaaGreatZ4
import Derived.Test.YtfolpdmbpbbimaaGreatProg
import Derived.IntWalk
set_option linter.unusedVariables false
set_option linter.unusedSimpArgs false
set_option maxRecDepth 100000
section
set_option maxHeartbeats 1000000
namespace Go.Proofs.YtfolpdmbpbbimaaGreat
open Go Go.Wit
noncomputable def A_witanref21_nonce:AFun:=⟨2,16,[.cell 4 4 true],
 (.seq (.ops [
 oO 4 (.alloc 1 4 [.int .u64 0])])
 (.seq (.ops [
 oM 8 0,
 oM 9 1,
 oK 10 F_witanref21_be4 [.t 9],
 oO 11 (.bsl 1 2 [.nils] [(0,1,.t 8),(1,1,.t 10)]),
 ⟨some 12,.call (.c (.fn F_witanref04_Scalar [])) [.c (.str ⟨#[110,111,110,99,101]⟩),.t 11],none⟩,
 oM 7 12,
 oO 13 (.ext (.t 7) 0),
 oO 14 (.ext (.t 7) 1),
 oO 5 (.alloc 1 4 [.int .u64 0]),
 ⟨none,.stA 1 4 4 (.t 5) (.t 13),none⟩,
 oM 6 14])
 (.seq (.ops [
 oO 15 (.load 4 true (.t 5)),
 ⟨none,.stA 1 4 4 (.t 4) (.t 15),none⟩])
 .ret)))⟩
theorem K_witanref21_nonce:chkFun DK Pg Tryz.f114 A_witanref21_nonce=true:=by kernel_rfl
theorem B_witanref21_nonce {args:List AV} {m:Mem} {K:AV->Mem->Prop} (h:vcFun DK Pg A_witanref21_nonce args m K):ACall Pg F_witanref21_nonce args m K:=call_body mixed Tryz.func114 (by kernel_rfl) K_witanref21_nonce h
noncomputable def A_witanref21_be4:AFun:=⟨1,15,[.t 2],
 (.seq (.ops [
 oO 2 (.mv (.c (.nils)))])
 (.seq (.ops [
 oM 3 0,
 oO 4 (.bin .shr (.t 3) (.c (.int .u64 24))),
 oO 5 (.conv .u8 (.t 4)),
 oM 6 0,
 oO 7 (.bin .shr (.t 6) (.c (.int .u64 16))),
 oO 8 (.conv .u8 (.t 7)),
 oM 9 0,
 oO 10 (.bin .shr (.t 9) (.c (.int .u64 8))),
 oO 11 (.conv .u8 (.t 10)),
 oM 12 0,
 oO 13 (.conv .u8 (.t 12)),
 oO 14 (.bsl 1 4 [.int .u8 0] [(0,1,.t 5),(1,1,.t 8),(2,1,.t 11),(3,1,.t 13)]),
 oM 2 14])
 .ret))⟩
theorem K_witanref21_be4:chkFun DK Pg Tryz.f115 A_witanref21_be4=true:=by kernel_rfl
theorem B_witanref21_be4 {args:List AV} {m:Mem} {K:AV->Mem->Prop} (h:vcFun DK Pg A_witanref21_be4 args m K):ACall Pg F_witanref21_be4 args m K:=call_body mixed Tryz.func115 (by kernel_rfl) K_witanref21_be4 h
noncomputable def A_witanref10_rune1:AFun:=⟨1,82,[.t 2,.t 3],
 (.seq (.ops [
 oO 2 (.mv (.c (.int .i64 0))),
 oO 3 (.mv (.c (.int .i64 0)))])
 (.seq (.ops [
 oM 9 0,
 oO 10 (.idxs (.t 9) (.c (.int .i64 0))),
 oO 11 (.conv .i64 (.t 10)),
 oM 4 11])
 (.seq (.ops [
 oO 5 (.mv (.c (.int .i64 0))),
 oO 6 (.mv (.c (.int .i64 0))),
 oO 7 (.mv (.c (.int .i64 0)))])
 (.seq (.block 0
 (.seq (.ops [
 oM 13 4,
 oO 14 (.bin .lss (.t 13) (.c (.int .i64 128))),
 oM 12 14])
 (.cond (.t 12)
 (.seq (.ops [
 oM 15 4,
 oM 2 15,
 oO 3 (.mv (.c (.int .i64 1)))])
 .ret)
 (.seq (.ops [
 oM 17 4,
 oO 18 (.bin .geq (.t 17) (.c (.int .i64 192))),
 oM 19 18,
 oG 20 (.mv (.t 4)) 19 true,
 oG 21 (.bin .lss (.t 20) (.c (.int .i64 224))) 19 true,
 oO 22 (.pick (.t 19) (.t 21) (.c (.bool false))),
 oM 16 22])
 (.cond (.t 16)
 (.ops [
 oM 23 4,
 oO 24 (.bin .and (.t 23) (.c (.int .i64 31))),
 oO 5 (.mv (.c (.int .i64 2))),
 oM 6 24,
 oO 7 (.mv (.c (.int .i64 128)))])
 (.seq (.ops [
 oM 26 4,
 oO 27 (.bin .geq (.t 26) (.c (.int .i64 224))),
 oM 28 27,
 oG 29 (.mv (.t 4)) 28 true,
 oG 30 (.bin .lss (.t 29) (.c (.int .i64 240))) 28 true,
 oO 31 (.pick (.t 28) (.t 30) (.c (.bool false))),
 oM 25 31])
 (.cond (.t 25)
 (.ops [
 oM 32 4,
 oO 33 (.bin .and (.t 32) (.c (.int .i64 15))),
 oO 5 (.mv (.c (.int .i64 3))),
 oM 6 33,
 oO 7 (.mv (.c (.int .i64 2048)))])
 (.seq (.ops [
 oM 35 4,
 oO 36 (.bin .geq (.t 35) (.c (.int .i64 240))),
 oM 37 36,
 oG 38 (.mv (.t 4)) 37 true,
 oG 39 (.bin .lss (.t 38) (.c (.int .i64 248))) 37 true,
 oO 40 (.pick (.t 37) (.t 39) (.c (.bool false))),
 oM 34 40])
 (.cond (.t 34)
 (.ops [
 oM 41 4,
 oO 42 (.bin .and (.t 41) (.c (.int .i64 7))),
 oO 5 (.mv (.c (.int .i64 4))),
 oM 6 42,
 oO 7 (.mv (.c (.int .i64 65536)))])
 (.seq (.ops [
 oO 2 (.mv (.c (.int .i64 0))),
 oO 3 (.mv (.c (.int .i64 0)))])
 .ret))))))))))
 (.seq (.seq (.ops [
 oM 43 0,
 oO 44 (.lens (.t 43)),
 oM 45 5,
 oO 46 (.bin .lss (.t 44) (.t 45))])
 (.cond (.t 46)
 (.seq (.ops [
 oO 2 (.mv (.c (.int .i64 0))),
 oO 3 (.mv (.c (.int .i64 0)))])
 .ret)
 .skip))
 (.seq (.seq (.ops [
 oO 8 (.mv (.c (.int .i64 1)))])
 (.block 1
 (.loop
 (.seq (.seq (.ops [
 oM 47 8,
 oM 48 5,
 oO 49 (.bin .lss (.t 47) (.t 48))])
 (.cond (.t 49)
 .skip
 (.exit 1)))
 (.seq (.block 2
 (.seq (.seq (.ops [
 oM 52 0,
 oM 53 8,
 oO 54 (.idxs (.t 52) (.t 53)),
 oO 55 (.bin .and (.t 54) (.c (.int .u8 192))),
 oO 56 (.bin .neq (.t 55) (.c (.int .u8 128)))])
 (.cond (.t 56)
 (.seq (.ops [
 oO 2 (.mv (.c (.int .i64 0))),
 oO 3 (.mv (.c (.int .i64 0)))])
 .ret)
 .skip))
 (.ops [
 oM 57 6,
 oO 58 (.bin .shl (.t 57) (.c (.int .u64 6))),
 oM 59 0,
 oM 60 8,
 oO 61 (.idxs (.t 59) (.t 60)),
 oO 62 (.bin .and (.t 61) (.c (.int .u8 63))),
 oO 63 (.conv .i64 (.t 62)),
 oO 64 (.bin .or (.t 58) (.t 63)),
 oM 6 64])))
 (.ops [
 oM 50 8,
 oO 51 (.bin .add (.t 50) (.c (.int .i64 1))),
 oM 8 51]))))))
 (.seq (.seq (.ops [
 oM 65 6,
 oM 66 7,
 oO 67 (.bin .lss (.t 65) (.t 66)),
 oM 68 67,
 oG 69 (.mv (.t 6)) 68 false,
 oG 70 (.bin .geq (.t 69) (.c (.int .i64 55296))) 68 false,
 oG 71 (.mv (.t 70)) 68 false,
 oG 72 (.mv (.t 6)) 71 true,
 oG 73 (.bin .lss (.t 72) (.c (.int .i64 57344))) 71 true,
 oG 74 (.pick (.t 71) (.t 73) (.c (.bool false))) 68 false,
 oO 75 (.pick (.t 68) (.c (.bool true)) (.t 74)),
 oM 76 75,
 oG 77 (.mv (.t 6)) 76 false,
 oG 78 (.bin .gtr (.t 77) (.c (.int .i64 1114111))) 76 false,
 oO 79 (.pick (.t 76) (.c (.bool true)) (.t 78))])
 (.cond (.t 79)
 (.seq (.ops [
 oO 2 (.mv (.c (.int .i64 0))),
 oO 3 (.mv (.c (.int .i64 0)))])
 .ret)
 .skip))
 (.seq (.ops [
 oM 80 6,
 oM 81 5,
 oM 2 80,
 oM 3 81])
 .ret))))))))⟩
theorem K_witanref10_rune1:chkFun DK Pg Tryz.f116 A_witanref10_rune1=true:=by kernel_rfl
theorem B_witanref10_rune1 {args:List AV} {m:Mem} {K:AV->Mem->Prop} (h:vcFun DK Pg A_witanref10_rune1 args m K):ACall Pg F_witanref10_rune1 args m K:=call_body mixed Tryz.func116 (by kernel_rfl) K_witanref10_rune1 h
noncomputable def A_act_Open:AFun:=⟨1,43,[.t 2],
 (.seq (.ops [
 oO 1 (.box 22 1 (.t 0)),
 oO 2 (.mv (.c (.nili)))])
 (.seq (.seq (.ops [
 oO 3 (.fldA 0 (.t 1)),
 oO 4 (.load 1 false (.t 3))])
 (.block 0
 (.seq (.ops [
 oO 6 (.bin .eql (.t 4) (.c (.int .i64 1))),
 oM 5 6])
 (.cond (.t 5)
 (.seq (.ops [
 oO 7 (.fldA 1 (.t 1)),
 oO 8 (.load 9 true (.t 7)),
 oO 9 (.fldA 10 (.t 1)),
 oO 10 (.load 1 false (.t 9)),
 ⟨some 11,.build [.bool false,.int .u64 0,.int .u64 0,.int .u64 0,.int .u64 0,.int .u64 0,.int .u64 0,.int .u64 0,.int .u64 0,.str ⟨#[]⟩] [(0,9,.t 8),(9,1,.t 10)],none⟩,
 oO 12 (.mkif 165 (.t 11)),
 oM 2 12])
 .ret)
 (.seq (.ops [
 oO 14 (.bin .eql (.t 4) (.c (.int .i64 2))),
 oM 13 14])
 (.cond (.t 13)
 (.seq (.ops [
 oO 15 (.fldA 11 (.t 1)),
 oO 16 (.load 1 false (.t 15)),
 oO 17 (.fldA 12 (.t 1)),
 oO 18 (.load 1 false (.t 17)),
 oO 19 (.build [.nils,.nils] [(0,1,.t 16),(1,1,.t 18)]),
 oO 20 (.mkif 168 (.t 19)),
 oM 2 20])
 .ret)
 (.seq (.ops [
 oO 22 (.bin .eql (.t 4) (.c (.int .i64 3))),
 oM 21 22])
 (.cond (.t 21)
 (.seq (.ops [
 oO 23 (.fldA 13 (.t 1)),
 oO 24 (.load 1 false (.t 23)),
 oO 25 (.fldA 1 (.t 1)),
 oO 26 (.load 9 true (.t 25)),
 oO 27 (.fldA 14 (.t 1)),
 oO 28 (.load 8 true (.t 27)),
 oO 29 (.build [.int .i64 0,.bool false,.int .u64 0,.int .u64 0,.int .u64 0,.int .u64 0,.int .u64 0,.int .u64 0,.int .u64 0,.int .u64 0,.int .u64 0,.int .u64 0,.int .u64 0,.int .u64 0,.int .u64 0,.int .u64 0,.int .u64 0,.int .u64 0] [(0,1,.t 24),(1,9,.t 26),(10,8,.t 28)]),
 oO 30 (.mkif 170 (.t 29)),
 oM 2 30])
 .ret)
 (.seq (.ops [
 oO 32 (.bin .eql (.t 4) (.c (.int .i64 4))),
 oM 31 32])
 (.cond (.t 31)
 (.seq (.ops [
 oO 33 (.fldA 1 (.t 1)),
 oO 34 (.load 9 true (.t 33)),
 oO 35 (.fldA 14 (.t 1)),
 oO 36 (.load 8 true (.t 35)),
 oO 37 (.build [.bool false,.int .u64 0,.int .u64 0,.int .u64 0,.int .u64 0,.int .u64 0,.int .u64 0,.int .u64 0,.int .u64 0,.int .u64 0,.int .u64 0,.int .u64 0,.int .u64 0,.int .u64 0,.int .u64 0,.int .u64 0,.int .u64 0] [(0,9,.t 34),(9,8,.t 36)]),
 oO 38 (.mkif 172 (.t 37)),
 oM 2 38])
 .ret)
 (.seq (.ops [
 oO 40 (.bin .eql (.t 4) (.c (.int .i64 5))),
 oM 39 40])
 (.cond (.t 39)
 (.seq (.ops [
 oO 41 (.build [] []),
 oO 42 (.mkif 198 (.t 41)),
 oM 2 42])
 .ret)
 .skip))))))))))))
 (.seq (.ops [
 oO 2 (.mv (.c (.nili)))])
 .ret)))⟩
theorem K_act_Open:chkFun DK Pg Tryz.f117 A_act_Open=true:=by kernel_rfl
theorem B_act_Open {args:List AV} {m:Mem} {K:AV->Mem->Prop} (h:vcFun DK Pg A_act_Open args m K):ACall Pg F_act_Open args m K:=call_body mixed Tryz.func117 (by kernel_rfl) K_act_Open h
noncomputable def A_act_empty:AFun:=⟨1,51,[.t 2],
 (.seq (.ops [
 oO 1 (.box 22 1 (.t 0)),
 oO 2 (.mv (.c (.bool false)))])
 (.seq (.ops [
 oO 4 (.load 22 true (.t 1)),
 oK 5 F_act_Open [.t 4],
 oK 6 F_act_whole [.t 5],
 ⟨some 3,.alloc 22 1 [.int .i64 0,.bool false,.int .u64 0,.int .u64 0,.int .u64 0,.int .u64 0,.int .u64 0,.int .u64 0,.int .u64 0,.int .u64 0,.str ⟨#[]⟩,.nils,.nils,.int .i64 0,.int .u64 0,.int .u64 0,.int .u64 0,.int .u64 0,.int .u64 0,.int .u64 0,.int .u64 0,.int .u64 0],none⟩,
 oS 22 3 6])
 (.seq (.ops [
 oO 7 (.fldA 1 (.t 1)),
 oO 8 (.load 9 true (.t 7)),
 oO 9 (.fldA 1 (.t 3)),
 oO 10 (.load 9 true (.t 9)),
 oO 11 (.eqa [.b,.i,.i,.i,.i,.i,.i,.i,.i] false (.t 8) (.t 10)),
 oM 12 11,
 oG 13 (.fldA 10 (.t 1)) 12 true,
 oG 14 (.load 1 false (.t 13)) 12 true,
 oG 15 (.fldA 10 (.t 3)) 12 true,
 oG 16 (.load 1 false (.t 15)) 12 true,
 oG 17 (.bin .eql (.t 14) (.t 16)) 12 true,
 oO 18 (.pick (.t 12) (.t 17) (.c (.bool false))),
 oM 19 18,
 oG 20 (.fldA 11 (.t 1)) 19 true,
 oG 21 (.load 1 false (.t 20)) 19 true,
 oG 22 (.len (.t 21)) 19 true,
 oG 23 (.fldA 11 (.t 3)) 19 true,
 oG 24 (.load 1 false (.t 23)) 19 true,
 oG 25 (.len (.t 24)) 19 true,
 oG 26 (.bin .eql (.t 22) (.t 25)) 19 true,
 oO 27 (.pick (.t 19) (.t 26) (.c (.bool false))),
 oM 28 27,
 oG 29 (.fldA 12 (.t 1)) 28 true,
 oG 30 (.load 1 false (.t 29)) 28 true,
 oG 31 (.len (.t 30)) 28 true,
 oG 32 (.fldA 12 (.t 3)) 28 true,
 oG 33 (.load 1 false (.t 32)) 28 true,
 oG 34 (.len (.t 33)) 28 true,
 oG 35 (.bin .eql (.t 31) (.t 34)) 28 true,
 oO 36 (.pick (.t 28) (.t 35) (.c (.bool false))),
 oM 37 36,
 oG 38 (.fldA 13 (.t 1)) 37 true,
 oG 39 (.load 1 false (.t 38)) 37 true,
 oG 40 (.fldA 13 (.t 3)) 37 true,
 oG 41 (.load 1 false (.t 40)) 37 true,
 oG 42 (.bin .eql (.t 39) (.t 41)) 37 true,
 oO 43 (.pick (.t 37) (.t 42) (.c (.bool false))),
 oM 44 43,
 oG 45 (.fldA 14 (.t 1)) 44 true,
 oG 46 (.load 8 true (.t 45)) 44 true,
 oG 47 (.fldA 14 (.t 3)) 44 true,
 oG 48 (.load 8 true (.t 47)) 44 true,
 oG 49 (.eqa [.i,.i,.i,.i,.i,.i,.i,.i] false (.t 46) (.t 48)) 44 true,
 oO 50 (.pick (.t 44) (.t 49) (.c (.bool false))),
 oM 2 50])
 .ret)))⟩
theorem K_act_empty:chkFun DK Pg Tryz.f118 A_act_empty=true:=by kernel_rfl
theorem B_act_empty {args:List AV} {m:Mem} {K:AV->Mem->Prop} (h:vcFun DK Pg A_act_empty args m K):ACall Pg F_act_empty args m K:=call_body mixed Tryz.func118 (by kernel_rfl) K_act_empty h
noncomputable def A_act_Registered_check:AFun:=⟨1,10,[.t 2],
 (.seq (.ops [
 oO 1 (.box 10 1 (.t 0)),
 oO 2 (.mv (.c (.int .i64 0)))])
 (.seq (.seq (.ops [
 oO 3 (.fldA 0 (.t 1)),
 oO 4 (.load 9 true (.t 3)),
 oK 5 F_act_point [.t 4],
 oO 6 (.un .not (.t 5))])
 (.cond (.t 6)
 (.seq (.ops [
 oO 2 (.mv (.c (.int .i64 3)))])
 .ret)
 .skip))
 (.seq (.ops [
 oO 7 (.fldA 9 (.t 1)),
 oO 8 (.load 1 false (.t 7)),
 oK 9 F_label_Check [.t 8],
 oM 2 9])
 .ret)))⟩
theorem K_act_Registered_check:chkFun DK Pg Tryz.f119 A_act_Registered_check=true:=by kernel_rfl
theorem B_act_Registered_check {args:List AV} {m:Mem} {K:AV->Mem->Prop} (h:vcFun DK Pg A_act_Registered_check args m K):ACall Pg F_act_Registered_check args m K:=call_body mixed Tryz.func119 (by kernel_rfl) K_act_Registered_check h
noncomputable def A_act_Posted_check:AFun:=⟨1,41,[.t 2],
 (.seq (.ops [
 oO 1 (.box 2 1 (.t 0)),
 oO 2 (.mv (.c (.int .i64 0)))])
 (.seq (.seq (.ops [
 oO 5 (.fldA 0 (.t 1)),
 oO 6 (.load 1 false (.t 5)),
 oO 7 (.len (.t 6)),
 oO 8 (.bin .gtr (.t 7) (.c (.int .i64 8))),
 oM 9 8,
 oG 10 (.fldA 1 (.t 1)) 9 false,
 oG 11 (.load 1 false (.t 10)) 9 false,
 oG 12 (.len (.t 11)) 9 false,
 oG 13 (.bin .lss (.t 12) (.c (.int .i64 1))) 9 false,
 oO 14 (.pick (.t 9) (.c (.bool true)) (.t 13)),
 oM 15 14,
 oG 16 (.fldA 1 (.t 1)) 15 false,
 oG 17 (.load 1 false (.t 16)) 15 false,
 oG 18 (.len (.t 17)) 15 false,
 oG 19 (.bin .gtr (.t 18) (.c (.int .i64 64))) 15 false,
 oO 20 (.pick (.t 15) (.c (.bool true)) (.t 19))])
 (.cond (.t 20)
 (.seq (.ops [
 oO 2 (.mv (.c (.int .i64 4)))])
 .ret)
 .skip))
 (.seq (.seq (.ops [
 oO 21 (.fldA 1 (.t 1)),
 oO 22 (.load 1 false (.t 21)),
 oO 23 (.len (.t 22)),
 oO 24 (.mv (.c (.int .i64 0)))])
 (.block 0
 (.loop
 (.seq (.ops [
 oO 25 (.bin .lss (.t 24) (.t 23))])
 (.seq (.cond (.t 25)
 .skip
 (.exit 0))
 (.seq (.block 1
 (.seq (.ops [
 oM 26 24,
 oO 27 (.idxA 9 (.t 22) (.t 24)),
 oO 28 (.load 9 true (.t 27)),
 oO 4 (.alloc 9 1 [.bool false,.int .u64 0,.int .u64 0,.int .u64 0,.int .u64 0,.int .u64 0,.int .u64 0,.int .u64 0,.int .u64 0]),
 oM 3 26,
 ⟨none,.stA 9 1 9 (.t 4) (.t 28),none⟩])
 (.seq (.ops [
 oO 29 (.load 9 true (.t 4)),
 oK 30 F_curve_Check [.t 29],
 oO 31 (.bin .neq (.t 30) (.c (.int .i64 0))),
 oM 32 31,
 oG 33 (.mv (.t 3)) 32 false,
 oG 34 (.bin .eql (.t 33) (.c (.int .i64 0))) 32 false,
 oG 35 (.mv (.t 34)) 32 false,
 oG 36 (.fldA 0 (.t 4)) 35 true,
 oG 37 (.load 1 false (.t 36)) 35 true,
 oG 38 (.pick (.t 35) (.t 37) (.c (.bool false))) 32 false,
 oO 39 (.pick (.t 32) (.c (.bool true)) (.t 38))])
 (.cond (.t 39)
 (.seq (.ops [
 oO 2 (.mv (.c (.int .i64 3)))])
 .ret)
 .skip))))
 (.ops [
 oO 40 (.bin .add (.t 24) (.c (.int .i64 1))),
 oM 24 40])))))))
 (.seq (.ops [
 oO 2 (.mv (.c (.int .i64 0)))])
 .ret))))⟩
theorem K_act_Posted_check:chkFun DK Pg Tryz.f120 A_act_Posted_check=true:=by kernel_rfl
theorem B_act_Posted_check {args:List AV} {m:Mem} {K:AV->Mem->Prop} (h:vcFun DK Pg A_act_Posted_check args m K):ACall Pg F_act_Posted_check args m K:=call_body mixed Tryz.func120 (by kernel_rfl) K_act_Posted_check h
noncomputable def A_act_Disputed_check:AFun:=⟨1,17,[.t 2],
 (.seq (.ops [
 oO 1 (.box 18 1 (.t 0)),
 oO 2 (.mv (.c (.int .i64 0)))])
 (.seq (.seq (.ops [
 oO 3 (.fldA 0 (.t 1)),
 oO 4 (.load 1 false (.t 3)),
 oO 5 (.bin .lss (.t 4) (.c (.int .i64 1))),
 oM 6 5,
 oG 7 (.fldA 0 (.t 1)) 6 false,
 oG 8 (.load 1 false (.t 7)) 6 false,
 oG 9 (.bin .gtr (.t 8) (.c (.int .i64 8))) 6 false,
 oO 10 (.pick (.t 6) (.c (.bool true)) (.t 9))])
 (.cond (.t 10)
 (.seq (.ops [
 oO 2 (.mv (.c (.int .i64 1)))])
 .ret)
 .skip))
 (.seq (.ops [
 oO 11 (.fldA 1 (.t 1)),
 oO 12 (.load 9 true (.t 11)),
 oO 13 (.fldA 10 (.t 1)),
 oO 14 (.load 8 true (.t 13)),
 oO 15 (.build [.bool false,.int .u64 0,.int .u64 0,.int .u64 0,.int .u64 0,.int .u64 0,.int .u64 0,.int .u64 0,.int .u64 0,.int .u64 0,.int .u64 0,.int .u64 0,.int .u64 0,.int .u64 0,.int .u64 0,.int .u64 0,.int .u64 0] [(0,9,.t 12),(9,8,.t 14)]),
 oK 16 F_act_Submitted_check [.t 15],
 oM 2 16])
 .ret)))⟩
theorem K_act_Disputed_check:chkFun DK Pg Tryz.f121 A_act_Disputed_check=true:=by kernel_rfl
theorem B_act_Disputed_check {args:List AV} {m:Mem} {K:AV->Mem->Prop} (h:vcFun DK Pg A_act_Disputed_check args m K):ACall Pg F_act_Disputed_check args m K:=call_body mixed Tryz.func121 (by kernel_rfl) K_act_Disputed_check h
noncomputable def A_act_Submitted_check:AFun:=⟨1,13,[.t 2],
 (.seq (.ops [
 oO 1 (.box 17 1 (.t 0)),
 oO 2 (.mv (.c (.int .i64 0)))])
 (.seq (.block 0
 (.seq (.ops [
 oO 4 (.fldA 0 (.t 1)),
 oO 5 (.load 9 true (.t 4)),
 oK 6 F_act_point [.t 5],
 oO 7 (.un .not (.t 6)),
 oM 3 7])
 (.cond (.t 3)
 (.seq (.ops [
 oO 2 (.mv (.c (.int .i64 3)))])
 .ret)
 (.seq (.ops [
 oO 9 (.fldA 9 (.t 1)),
 oO 10 (.load 8 true (.t 9)),
 oK 11 F_act_proof [.t 10],
 oO 12 (.un .not (.t 11)),
 oM 8 12])
 (.cond (.t 8)
 (.seq (.ops [
 oO 2 (.mv (.c (.int .i64 2)))])
 .ret)
 .skip)))))
 (.seq (.ops [
 oO 2 (.mv (.c (.int .i64 0)))])
 .ret)))⟩
theorem K_act_Submitted_check:chkFun DK Pg Tryz.f122 A_act_Submitted_check=true:=by kernel_rfl
theorem B_act_Submitted_check {args:List AV} {m:Mem} {K:AV->Mem->Prop} (h:vcFun DK Pg A_act_Submitted_check args m K):ACall Pg F_act_Submitted_check args m K:=call_body mixed Tryz.func122 (by kernel_rfl) K_act_Submitted_check h
noncomputable def A_field_less:AFun:=⟨1,12,[.cell 2 4 true,.t 3],
 (.seq (.ops [
 oO 2 (.alloc 1 4 [.int .u64 0]),
 oO 3 (.mv (.c (.bool false)))])
 (.seq (.seq (.ops [
 oM 4 0])
 (.block 0
 (.seq (.ops [
 oO 6 (.bin .eql (.t 4) (.c (.int .i64 0))),
 oM 5 6])
 (.cond (.t 5)
 (.seq (.ops [
 oO 7 (.build [.int .u64 0,.int .u64 0,.int .u64 0,.int .u64 0] [(0,1,.c (.int .u64 4294968273))]),
 ⟨none,.stA 1 4 4 (.t 2) (.t 7),none⟩,
 oO 3 (.mv (.c (.bool true)))])
 .ret)
 (.seq (.ops [
 oO 9 (.bin .eql (.t 4) (.c (.int .i64 1))),
 oM 8 9])
 (.cond (.t 8)
 (.seq (.ops [
 oO 10 (.build [.int .u64 0,.int .u64 0,.int .u64 0,.int .u64 0] [(0,1,.c (.int .u64 4624529908474429119)),(1,1,.c (.int .u64 4994812053365940164)),(2,1,.c (.int .u64 1))]),
 ⟨none,.stA 1 4 4 (.t 2) (.t 10),none⟩,
 oO 3 (.mv (.c (.bool true)))])
 .ret)
 .skip))))))
 (.seq (.ops [
 oO 11 (.build [.int .u64 0,.int .u64 0,.int .u64 0,.int .u64 0] []),
 ⟨none,.stA 1 4 4 (.t 2) (.t 11),none⟩,
 oO 3 (.mv (.c (.bool false)))])
 .ret)))⟩
theorem K_field_less:chkFun DK Pg Tryz.f124 A_field_less=true:=by kernel_rfl
theorem B_field_less {args:List AV} {m:Mem} {K:AV->Mem->Prop} (h:vcFun DK Pg A_field_less args m K):ACall Pg F_field_less args m K:=call_body mixed Tryz.func124 (by kernel_rfl) K_field_less h
noncomputable def A_limb_Sub:AFun:=⟨2,26,[.cell 4 4 true,.t 5],
 (.seq (.ops [
 oO 2 (.box 1 4 (.t 0)),
 oO 3 (.box 1 4 (.t 1)),
 oO 4 (.alloc 1 4 [.int .u64 0]),
 oO 5 (.mv (.c (.int .u64 0)))])
 (.seq (.seq (.ops [
 oO 7 (.mv (.c (.int .i64 0)))])
 (.block 0
 (.loop
 (.seq (.ops [
 oO 8 (.bin .lss (.t 7) (.c (.int .i64 4)))])
 (.seq (.cond (.t 8)
 .skip
 (.exit 0))
 (.seq (.block 1
 (.seq (.ops [
 oM 9 7,
 oM 6 9])
 (.draw [
 oM 11 6,
 oM 12 6,
 oO 13 (.idxP 4 1 (.t 2) (.t 12)),
 oO 14 (.load 1 false (.t 13)),
 oM 15 6,
 oO 16 (.idxP 4 1 (.t 3) (.t 15)),
 oO 17 (.load 1 false (.t 16)),
 oM 18 5,
 oO 19 (.x64 true F_bits_Sub64 (.t 14) (.t 17) (.t 18)),
 oM 10 19,
 oO 20 (.ext (.t 10) 0),
 oO 21 (.ext (.t 10) 1),
 oO 22 (.idxP 4 1 (.t 4) (.t 11)),
 ⟨none,.stA 1 4 1 (.t 22) (.t 20),none⟩,
 oM 5 21] ⟨.all,[],.look 0 (.look 1 (.look 2 (.look 3 (.look 4 (.look 5 (.look 6 (.look 7 (.run 8 true (.look 9 (.look 10 (.look 11 (.look 12 (.run 13 false (.look 14 .done))))))))))))))⟩)))
 (.ops [
 oO 23 (.binF .add (.t 7) (.c (.int .i64 1))),
 oM 7 23])))))))
 (.seq (.ops [
 oO 24 (.load 4 true (.t 4)),
 oM 25 5,
 ⟨none,.stA 1 4 4 (.t 4) (.t 24),none⟩,
 oM 5 25])
 .ret)))⟩
theorem K_limb_Sub:chkFun DK Pg Tryz.f125 A_limb_Sub=true:=by kernel_rfl
theorem B_limb_Sub {args:List AV} {m:Mem} {K:AV->Mem->Prop} (h:vcFun DK Pg A_limb_Sub args m K):ACall Pg F_limb_Sub args m K:=call_body mixed Tryz.func125 (by kernel_rfl) K_limb_Sub h
noncomputable def A_field_fold:AFun:=⟨3,51,[.cell 6 4 true],
 (.seq (.ops [
 oO 3 (.box 1 4 (.t 0)),
 oO 4 (.box 1 4 (.t 1)),
 oO 5 (.box 1 4 (.t 2)),
 oO 6 (.alloc 1 4 [.int .u64 0])])
 (.seq (.block 0
 (.loop
 (.seq (.seq (.ops [
 oO 12 (.load 4 true (.t 4)),
 oO 13 (.build [.int .u64 0,.int .u64 0,.int .u64 0,.int .u64 0] []),
 oO 14 (.eqa [.i,.i,.i,.i] true (.t 12) (.t 13))])
 (.cond (.t 14)
 .skip
 (.exit 0)))
 (.block 1
 (.seq (.ops [
 oO 16 (.load 4 true (.t 4)),
 oO 17 (.load 4 true (.t 5)),
 oK 18 F_limb_Mul [.t 16,.t 17],
 oM 15 18,
 oO 19 (.ext (.t 15) 0),
 oO 20 (.ext (.t 15) 1),
 oO 7 (.alloc 1 4 [.int .u64 0]),
 oO 8 (.alloc 1 4 [.int .u64 0]),
 ⟨none,.stA 1 4 4 (.t 7) (.t 19),none⟩,
 ⟨none,.stA 1 4 4 (.t 8) (.t 20),none⟩])
 (.seq (.ops [
 oO 9 (.mv (.c (.int .u64 0)))])
 (.seq (.ops [
 oO 22 (.load 4 true (.t 3)),
 oO 23 (.load 4 true (.t 7)),
 oK 24 F_limb_Add [.t 22,.t 23],
 oM 21 24,
 oO 25 (.ext (.t 21) 0),
 oO 26 (.ext (.t 21) 1),
 ⟨none,.stA 1 4 4 (.t 3) (.t 25),none⟩,
 oM 9 26])
 (.ops [
 oO 28 (.load 4 true (.t 8)),
 oM 29 9,
 oO 30 (.build [.int .u64 0,.int .u64 0,.int .u64 0,.int .u64 0] [(0,1,.t 29)]),
 oK 31 F_limb_Add [.t 28,.t 30],
 oM 27 31,
 oO 32 (.ext (.t 27) 0),
 oO 33 (.ext (.t 27) 1),
 ⟨none,.stA 1 4 4 (.t 4) (.t 32),none⟩]))))))))
 (.seq (.ops [
 oO 35 (.build [.int .u64 0,.int .u64 0,.int .u64 0,.int .u64 0] []),
 oO 36 (.load 4 true (.t 5)),
 oK 37 F_limb_Sub [.t 35,.t 36],
 oM 34 37,
 oO 38 (.ext (.t 34) 0),
 oO 39 (.ext (.t 34) 1),
 oO 10 (.alloc 1 4 [.int .u64 0]),
 ⟨none,.stA 1 4 4 (.t 10) (.t 38),none⟩,
 oM 11 39])
 (.seq (.seq (.ops [
 oO 40 (.load 4 true (.t 3)),
 oO 41 (.load 4 true (.t 10)),
 oK 42 F_limb_Cmp [.t 40,.t 41],
 oO 43 (.bin .geq (.t 42) (.c (.int .i64 0)))])
 (.cond (.t 43)
 (.ops [
 oO 45 (.load 4 true (.t 3)),
 oO 46 (.load 4 true (.t 10)),
 oK 47 F_limb_Sub [.t 45,.t 46],
 oM 44 47,
 oO 48 (.ext (.t 44) 0),
 oO 49 (.ext (.t 44) 1),
 ⟨none,.stA 1 4 4 (.t 3) (.t 48),none⟩])
 .skip))
 (.seq (.ops [
 oO 50 (.load 4 true (.t 3)),
 ⟨none,.stA 1 4 4 (.t 6) (.t 50),none⟩])
 .ret)))))⟩
theorem K_field_fold:chkFun DK Pg Tryz.f126 A_field_fold=true:=by kernel_rfl
theorem B_field_fold {args:List AV} {m:Mem} {K:AV->Mem->Prop} (h:vcFun DK Pg A_field_fold args m K):ACall Pg F_field_fold args m K:=call_body mixed Tryz.func126 (by kernel_rfl) K_field_fold h
noncomputable def A_curve_spread:AFun:=⟨1,15,[.cell 2 12 true],
 (.seq (.ops [
 oO 1 (.box 9 1 (.t 0)),
 oO 2 (.alloc 12 1 (List.replicate 12 (.int .u64 0)))])
 (.seq (.seq (.ops [
 oO 3 (.fldA 0 (.t 1)),
 oO 4 (.load 1 false (.t 3))])
 (.cond (.t 4)
 (.seq (.ops [
 oO 5 (.build [.int .u64 0,.int .u64 0,.int .u64 0,.int .u64 0] [(0,1,.c (.int .u64 1))]),
 oO 6 (.build [.int .u64 0,.int .u64 0,.int .u64 0,.int .u64 0] [(0,1,.c (.int .u64 1))]),
 oO 7 (.build [.int .u64 0,.int .u64 0,.int .u64 0,.int .u64 0] []),
 oO 8 (.build (List.replicate 12 (.int .u64 0)) [(0,4,.t 5),(4,4,.t 6),(8,4,.t 7)]),
 ⟨none,.stA 12 1 12 (.t 2) (.t 8),none⟩])
 .ret)
 .skip))
 (.seq (.ops [
 oO 9 (.fldA 1 (.t 1)),
 oO 10 (.load 4 true (.t 9)),
 oO 11 (.fldA 5 (.t 1)),
 oO 12 (.load 4 true (.t 11)),
 oO 13 (.build [.int .u64 0,.int .u64 0,.int .u64 0,.int .u64 0] [(0,1,.c (.int .u64 1))]),
 oO 14 (.build (List.replicate 12 (.int .u64 0)) [(0,4,.t 10),(4,4,.t 12),(8,4,.t 13)]),
 ⟨none,.stA 12 1 12 (.t 2) (.t 14),none⟩])
 .ret)))⟩
theorem K_curve_spread:chkFun DK Pg Tryz.f127 A_curve_spread=true:=by kernel_rfl
theorem B_curve_spread {args:List AV} {m:Mem} {K:AV->Mem->Prop} (h:vcFun DK Pg A_curve_spread args m K):ACall Pg F_curve_spread args m K:=call_body mixed Tryz.func127 (by kernel_rfl) K_curve_spread h
noncomputable def A_curve_jac_times:AFun:=⟨2,28,[.cell 4 12 true],
 (.seq (.ops [
 oO 2 (.box 12 1 (.t 0)),
 oO 3 (.box 1 4 (.t 1)),
 oO 4 (.alloc 12 1 (List.replicate 12 (.int .u64 0)))])
 (.seq (.ops [
 oO 7 (.build [.int .u64 0,.int .u64 0,.int .u64 0,.int .u64 0] [(0,1,.c (.int .u64 1))]),
 oO 8 (.build [.int .u64 0,.int .u64 0,.int .u64 0,.int .u64 0] [(0,1,.c (.int .u64 1))]),
 oO 9 (.build [.int .u64 0,.int .u64 0,.int .u64 0,.int .u64 0] []),
 oO 10 (.build (List.replicate 12 (.int .u64 0)) [(0,4,.t 7),(4,4,.t 8),(8,4,.t 9)]),
 oO 5 (.alloc 12 1 (List.replicate 12 (.int .u64 0))),
 ⟨none,.stA 12 1 12 (.t 5) (.t 10),none⟩])
 (.seq (.seq (.ops [
 oO 11 (.load 4 true (.t 3)),
 oK 12 F_limb_Len [.t 11],
 oO 13 (.bin .sub (.t 12) (.c (.int .i64 1))),
 oM 6 13])
 (.block 0
 (.loop
 (.seq (.seq (.ops [
 oM 14 6,
 oO 15 (.bin .geq (.t 14) (.c (.int .i64 0)))])
 (.cond (.t 15)
 .skip
 (.exit 0)))
 (.seq (.block 1
 (.seq (.ops [
 oO 18 (.load 12 true (.t 5)),
 oK 19 F_curve_jac_twice [.t 18],
 ⟨none,.stA 12 1 12 (.t 5) (.t 19),none⟩])
 (.seq (.ops [
 oO 20 (.load 4 true (.t 3)),
 oM 21 6,
 oK 22 F_limb_Bit [.t 20,.t 21],
 oO 23 (.bin .eql (.t 22) (.c (.int .i64 1)))])
 (.cond (.t 23)
 (.ops [
 oO 24 (.load 12 true (.t 5)),
 oO 25 (.load 12 true (.t 2)),
 oK 26 F_curve_jac_plus [.t 24,.t 25],
 ⟨none,.stA 12 1 12 (.t 5) (.t 26),none⟩])
 .skip))))
 (.ops [
 oM 16 6,
 oO 17 (.bin .sub (.t 16) (.c (.int .i64 1))),
 oM 6 17]))))))
 (.seq (.ops [
 oO 27 (.load 12 true (.t 5)),
 ⟨none,.stA 12 1 12 (.t 4) (.t 27),none⟩])
 .ret))))⟩
theorem K_curve_jac_times:chkFun DK Pg Tryz.f128 A_curve_jac_times=true:=by kernel_rfl
theorem B_curve_jac_times {args:List AV} {m:Mem} {K:AV->Mem->Prop} (h:vcFun DK Pg A_curve_jac_times args m K):ACall Pg F_curve_jac_times args m K:=call_body mixed Tryz.func128 (by kernel_rfl) K_curve_jac_times h
noncomputable def A_curve_jac_point:AFun:=⟨1,27,[.cell 2 9 true],
 (.seq (.ops [
 oO 1 (.box 12 1 (.t 0)),
 oO 2 (.alloc 9 1 [.bool false,.int .u64 0,.int .u64 0,.int .u64 0,.int .u64 0,.int .u64 0,.int .u64 0,.int .u64 0,.int .u64 0])])
 (.seq (.seq (.ops [
 oO 5 (.fldA 8 (.t 1)),
 oO 6 (.load 4 true (.t 5)),
 oO 7 (.build [.int .u64 0,.int .u64 0,.int .u64 0,.int .u64 0] []),
 oO 8 (.eqa [.i,.i,.i,.i] false (.t 6) (.t 7))])
 (.cond (.t 8)
 (.seq (.ops [
 oO 9 (.build [.bool false,.int .u64 0,.int .u64 0,.int .u64 0,.int .u64 0,.int .u64 0,.int .u64 0,.int .u64 0,.int .u64 0] [(0,1,.c (.bool true))]),
 ⟨none,.stA 9 1 9 (.t 2) (.t 9),none⟩])
 .ret)
 .skip))
 (.seq (.ops [
 oO 10 (.fldA 8 (.t 1)),
 oO 11 (.load 4 true (.t 10)),
 oK 12 F_field_Inv [.c (.int .i64 0),.t 11],
 oO 3 (.alloc 1 4 [.int .u64 0]),
 ⟨none,.stA 1 4 4 (.t 3) (.t 12),none⟩])
 (.seq (.ops [
 oO 13 (.load 4 true (.t 3)),
 oO 14 (.load 4 true (.t 3)),
 oK 15 F_curve_mul [.t 13,.t 14],
 oO 4 (.alloc 1 4 [.int .u64 0]),
 ⟨none,.stA 1 4 4 (.t 4) (.t 15),none⟩])
 (.seq (.draw [
 oO 16 (.fldA 0 (.t 1)),
 oO 17 (.load 4 true (.t 16)),
 oO 18 (.load 4 true (.t 4)),
 oK 19 F_curve_mul [.t 17,.t 18],
 oO 20 (.fldA 4 (.t 1)),
 oO 21 (.load 4 true (.t 20)),
 oO 22 (.load 4 true (.t 4)),
 oO 23 (.load 4 true (.t 3)),
 oK 24 F_curve_mul [.t 22,.t 23],
 oK 25 F_curve_mul [.t 21,.t 24],
 oO 26 (.build [.bool false,.int .u64 0,.int .u64 0,.int .u64 0,.int .u64 0,.int .u64 0,.int .u64 0,.int .u64 0,.int .u64 0] [(1,4,.t 19),(5,4,.t 25)]),
 ⟨none,.stA 9 1 9 (.t 2) (.t 26),none⟩] ⟨.all,[],.look 0 (.look 1 (.look 2 (.look 4 (.look 5 (.look 6 (.look 7 (.run 3 true (.run 8 true (.run 9 true (.look 10 (.run 11 false .done)))))))))))⟩)
 .ret)))))⟩
theorem K_curve_jac_point:chkFun DK Pg Tryz.f129 A_curve_jac_point=true:=by kernel_rfl
theorem B_curve_jac_point {args:List AV} {m:Mem} {K:AV->Mem->Prop} (h:vcFun DK Pg A_curve_jac_point args m K):ACall Pg F_curve_jac_point args m K:=call_body mixed Tryz.func129 (by kernel_rfl) K_curve_jac_point h
noncomputable def A_field_Add:AFun:=⟨3,30,[.cell 6 4 true],
 (.seq (.ops [
 oO 4 (.box 1 4 (.t 1)),
 oO 5 (.box 1 4 (.t 2)),
 oO 6 (.alloc 1 4 [.int .u64 0])])
 (.seq (.ops [
 oM 12 0,
 oK 13 F_field_less [.t 12],
 oM 11 13,
 oO 14 (.ext (.t 11) 0),
 oO 15 (.ext (.t 11) 1),
 oO 7 (.alloc 1 4 [.int .u64 0]),
 ⟨none,.stA 1 4 4 (.t 7) (.t 14),none⟩,
 oM 8 15])
 (.seq (.seq (.ops [
 oM 16 8,
 oO 17 (.un .not (.t 16))])
 (.cond (.t 17)
 (.seq (.ops [
 oO 18 (.build [.int .u64 0,.int .u64 0,.int .u64 0,.int .u64 0] []),
 ⟨none,.stA 1 4 4 (.t 6) (.t 18),none⟩])
 .ret)
 .skip))
 (.seq (.ops [
 oO 20 (.load 4 true (.t 4)),
 oO 21 (.load 4 true (.t 5)),
 oK 22 F_limb_Add [.t 20,.t 21],
 oM 19 22,
 oO 23 (.ext (.t 19) 0),
 oO 24 (.ext (.t 19) 1),
 oO 9 (.alloc 1 4 [.int .u64 0]),
 ⟨none,.stA 1 4 4 (.t 9) (.t 23),none⟩,
 oM 10 24])
 (.seq (.ops [
 oO 25 (.load 4 true (.t 9)),
 oM 26 10,
 oO 27 (.build [.int .u64 0,.int .u64 0,.int .u64 0,.int .u64 0] [(0,1,.t 26)]),
 oO 28 (.load 4 true (.t 7)),
 oK 29 F_field_fold [.t 25,.t 27,.t 28],
 ⟨none,.stA 1 4 4 (.t 6) (.t 29),none⟩])
 .ret)))))⟩
theorem K_field_Add:chkFun DK Pg Tryz.f139 A_field_Add=true:=by kernel_rfl
theorem B_field_Add {args:List AV} {m:Mem} {K:AV->Mem->Prop} (h:vcFun DK Pg A_field_Add args m K):ACall Pg F_field_Add args m K:=call_body mixed Tryz.func139 (by kernel_rfl) K_field_Add h
noncomputable def A_witanref01_FAdd:AFun:=⟨3,28,[.cell 6 4 true],
 (.seq (.ops [
 oO 4 (.box 1 4 (.t 1)),
 oO 5 (.box 1 4 (.t 2)),
 oO 6 (.alloc 1 4 [.int .u64 0])])
 (.seq (.seq (.ops [
 oM 9 0,
 oK 10 F_witanref01_ok [.t 9],
 oO 11 (.un .not (.t 10))])
 (.cond (.t 11)
 (.seq (.ops [
 oO 12 (.build [.int .u64 0,.int .u64 0,.int .u64 0,.int .u64 0] []),
 ⟨none,.stA 1 4 4 (.t 6) (.t 12),none⟩])
 .ret)
 .skip))
 (.seq (.draw [
 oM 14 0,
 oO 15 (.load 4 true (.t 4)),
 oK 16 F_witanref01_Red [.t 14,.t 15],
 oM 17 0,
 oO 18 (.load 4 true (.t 5)),
 oK 19 F_witanref01_Red [.t 17,.t 18],
 oK 20 F_witanref01_Add [.t 16,.t 19],
 oM 13 20,
 oO 21 (.ext (.t 13) 0),
 oO 22 (.ext (.t 13) 1),
 oO 7 (.alloc 1 4 [.int .u64 0]),
 oS 4 7 21,
 oM 8 22] ⟨.all,[(10,some 11)],.look 0 (.look 1 (.look 3 (.look 4 (.run 2 true (.run 5 true (.run 6 true (.look 7 (.look 8 (.pre 10 11 (.look 9 (.fill (.look 12 .done))))))))))))⟩)
 (.seq (.ops [
 oM 23 0,
 oO 24 (.load 4 true (.t 7)),
 oM 25 8,
 oO 26 (.build [.int .u64 0,.int .u64 0,.int .u64 0,.int .u64 0] [(0,1,.t 25)]),
 oK 27 F_witanref01_fold [.t 23,.t 24,.t 26],
 ⟨none,.stA 1 4 4 (.t 6) (.t 27),none⟩])
 .ret))))⟩
theorem K_witanref01_FAdd:chkFun DK Pg Tryz.f140 A_witanref01_FAdd=true:=by kernel_rfl
theorem B_witanref01_FAdd {args:List AV} {m:Mem} {K:AV->Mem->Prop} (h:vcFun DK Pg A_witanref01_FAdd args m K):ACall Pg F_witanref01_FAdd args m K:=call_body mixed Tryz.func140 (by kernel_rfl) K_witanref01_FAdd h
noncomputable def A_curve_base:AFun:=⟨0,4,[.cell 0 9 true],
 (.seq (.ops [
 oO 0 (.alloc 9 1 [.bool false,.int .u64 0,.int .u64 0,.int .u64 0,.int .u64 0,.int .u64 0,.int .u64 0,.int .u64 0,.int .u64 0])])
 (.seq (.ops [
 oO 1 (.build [.int .u64 0,.int .u64 0,.int .u64 0,.int .u64 0] [(0,1,.c (.int .u64 6481385041966929816)),(1,1,.c (.int .u64 188021827762530521)),(2,1,.c (.int .u64 6170039885052185351)),(3,1,.c (.int .u64 8772561819708210092))]),
 oO 2 (.build [.int .u64 0,.int .u64 0,.int .u64 0,.int .u64 0] [(0,1,.c (.int .u64 11261198710074299576)),(1,1,.c (.int .u64 18237243440184513561)),(2,1,.c (.int .u64 6747795201694173352)),(3,1,.c (.int .u64 5204712524664259685))]),
 oO 3 (.build [.bool false,.int .u64 0,.int .u64 0,.int .u64 0,.int .u64 0,.int .u64 0,.int .u64 0,.int .u64 0,.int .u64 0] [(1,4,.t 1),(5,4,.t 2)]),
 ⟨none,.stA 9 1 9 (.t 0) (.t 3),none⟩])
 .ret))⟩
theorem K_curve_base:chkFun DK Pg Tryz.f141 A_curve_base=true:=by kernel_rfl
theorem B_curve_base {args:List AV} {m:Mem} {K:AV->Mem->Prop} (h:vcFun DK Pg A_curve_base args m K):ACall Pg F_curve_base args m K:=call_body mixed Tryz.func141 (by kernel_rfl) K_curve_base h
noncomputable def A_witanref01_ReadPoint:AFun:=⟨1,69,[.cell 2 9 true,.t 3],
 (.seq (.ops [
 oO 2 (.alloc 9 1 [.bool false,.int .u64 0,.int .u64 0,.int .u64 0,.int .u64 0,.int .u64 0,.int .u64 0,.int .u64 0,.int .u64 0]),
 oO 3 (.mv (.c (.int .i64 0)))])
 (.seq (.seq (.ops [
 oM 8 0,
 oO 9 (.len (.t 8)),
 oO 10 (.bin .eql (.t 9) (.c (.int .i64 1))),
 oM 11 10,
 oG 12 (.mv (.t 0)) 11 true,
 oG 13 (.idxA 1 (.t 12) (.c (.int .i64 0))) 11 true,
 oG 14 (.load 1 false (.t 13)) 11 true,
 oG 15 (.bin .eql (.t 14) (.c (.int .u8 0))) 11 true,
 oO 16 (.pick (.t 11) (.t 15) (.c (.bool false)))])
 (.cond (.t 16)
 (.seq (.ops [
 oK 17 F_witanref01_Inf [],
 ⟨none,.stA 9 1 9 (.t 2) (.t 17),none⟩,
 oO 3 (.mv (.c (.int .i64 0)))])
 .ret)
 .skip))
 (.seq (.seq (.ops [
 oM 18 0,
 oO 19 (.len (.t 18)),
 oO 20 (.bin .neq (.t 19) (.c (.int .i64 33))),
 oM 21 20,
 oG 22 (.mv (.t 0)) 21 false,
 oG 23 (.idxA 1 (.t 22) (.c (.int .i64 0))) 21 false,
 oG 24 (.load 1 false (.t 23)) 21 false,
 oG 25 (.bin .neq (.t 24) (.c (.int .u8 2))) 21 false,
 oG 26 (.mv (.t 25)) 21 false,
 oG 27 (.mv (.t 0)) 26 true,
 oG 28 (.idxA 1 (.t 27) (.c (.int .i64 0))) 26 true,
 oG 29 (.load 1 false (.t 28)) 26 true,
 oG 30 (.bin .neq (.t 29) (.c (.int .u8 3))) 26 true,
 oG 31 (.pick (.t 26) (.t 30) (.c (.bool false))) 21 false,
 oO 32 (.pick (.t 21) (.c (.bool true)) (.t 31))])
 (.cond (.t 32)
 (.seq (.ops [
 oO 33 (.build [.bool false,.int .u64 0,.int .u64 0,.int .u64 0,.int .u64 0,.int .u64 0,.int .u64 0,.int .u64 0,.int .u64 0] []),
 ⟨none,.stA 9 1 9 (.t 2) (.t 33),none⟩,
 oO 3 (.mv (.c (.int .i64 7)))])
 .ret)
 .skip))
 (.seq (.ops [
 oO 4 (.alloc 1 32 [.int .u8 0])])
 (.seq (.draw [
 oO 34 (.slarr 32 1 (.t 4) none none none),
 oM 35 0,
 oO 36 (.slice 1 (.t 35) (some (.c (.int .i64 1))) none none),
 oO 37 (.copy 1 (.t 34) (.t 36))] ⟨.all,[],.look 0 (.look 1 (.look 2 (.run 3 false .done)))⟩)
 (.seq (.ops [
 oO 38 (.load 32 true (.t 4)),
 oK 39 F_witanref01_Of [.t 38],
 oO 5 (.alloc 1 4 [.int .u64 0]),
 ⟨none,.stA 1 4 4 (.t 5) (.t 39),none⟩])
 (.seq (.seq (.draw [
 oO 40 (.load 4 true (.t 5)),
 oK 41 F_witanref01_Prime [.c (.int .i64 0)],
 oK 42 F_witanref01_Cmp [.t 40,.t 41],
 oO 43 (.bin .geq (.t 42) (.c (.int .i64 0)))] ⟨.all,[],.look 0 (.run 1 true (.run 2 true (.look 3 .done)))⟩)
 (.cond (.t 43)
 (.seq (.ops [
 oO 44 (.build [.bool false,.int .u64 0,.int .u64 0,.int .u64 0,.int .u64 0,.int .u64 0,.int .u64 0,.int .u64 0,.int .u64 0] []),
 ⟨none,.stA 9 1 9 (.t 2) (.t 44),none⟩,
 oO 3 (.mv (.c (.int .i64 2)))])
 .ret)
 .skip))
 (.seq (.draw [
 oO 46 (.load 4 true (.t 5)),
 oO 47 (.load 4 true (.t 5)),
 oK 48 F_witanref01_mul [.t 46,.t 47],
 oO 49 (.load 4 true (.t 5)),
 oK 50 F_witanref01_mul [.t 48,.t 49],
 oO 51 (.build [.int .u64 0,.int .u64 0,.int .u64 0,.int .u64 0] [(0,1,.c (.int .u64 7))]),
 oK 52 F_witanref01_add [.t 50,.t 51],
 oK 53 F_witanref01_Root [.t 52],
 oM 45 53,
 oO 54 (.ext (.t 45) 0),
 oO 55 (.ext (.t 45) 1),
 oO 6 (.alloc 1 4 [.int .u64 0]),
 oS 4 6 54,
 oM 7 55] ⟨.all,[(11,some 12)],.look 0 (.look 1 (.look 3 (.look 5 (.run 2 true (.run 4 true (.run 6 true (.run 7 true (.look 8 (.look 9 (.pre 11 12 (.look 10 (.fill (.look 13 .done)))))))))))))⟩)
 (.seq (.seq (.ops [
 oM 56 7,
 oO 57 (.un .not (.t 56))])
 (.cond (.t 57)
 (.seq (.ops [
 oO 58 (.build [.bool false,.int .u64 0,.int .u64 0,.int .u64 0,.int .u64 0,.int .u64 0,.int .u64 0,.int .u64 0,.int .u64 0] []),
 ⟨none,.stA 9 1 9 (.t 2) (.t 58),none⟩,
 oO 3 (.mv (.c (.int .i64 3)))])
 .ret)
 .skip))
 (.seq (.seq (.ops [
 oM 59 0,
 oO 60 (.idxA 1 (.t 59) (.c (.int .i64 0))),
 oO 61 (.load 1 false (.t 60)),
 oO 62 (.bin .eql (.t 61) (.c (.int .u8 3)))])
 (.cond (.t 62)
 (.ops [
 oO 63 (.build [.int .u64 0,.int .u64 0,.int .u64 0,.int .u64 0] []),
 oO 64 (.load 4 true (.t 6)),
 oK 65 F_witanref01_sub [.t 63,.t 64],
 ⟨none,.stA 1 4 4 (.t 6) (.t 65),none⟩])
 .skip))
 (.seq (.ops [
 oO 66 (.load 4 true (.t 5)),
 oO 67 (.load 4 true (.t 6)),
 oO 68 (.build [.bool false,.int .u64 0,.int .u64 0,.int .u64 0,.int .u64 0,.int .u64 0,.int .u64 0,.int .u64 0,.int .u64 0] [(1,4,.t 66),(5,4,.t 67)]),
 ⟨none,.stA 9 1 9 (.t 2) (.t 68),none⟩,
 oO 3 (.mv (.c (.int .i64 0)))])
 .ret)))))))))))⟩
theorem K_witanref01_ReadPoint:chkFun DK Pg Tryz.f154 A_witanref01_ReadPoint=true:=by kernel_rfl
theorem B_witanref01_ReadPoint {args:List AV} {m:Mem} {K:AV->Mem->Prop} (h:vcFun DK Pg A_witanref01_ReadPoint args m K):ACall Pg F_witanref01_ReadPoint args m K:=call_body mixed Tryz.func154 (by kernel_rfl) K_witanref01_ReadPoint h
noncomputable def A_witanref01_Of:AFun:=⟨1,25,[.cell 2 4 true],
 (.seq (.ops [
 oO 1 (.box 1 32 (.t 0)),
 oO 2 (.alloc 1 4 [.int .u64 0])])
 (.seq (.ops [
 oO 3 (.alloc 1 4 [.int .u64 0])])
 (.seq (.seq (.ops [
 oO 4 (.mv (.c (.int .i64 0)))])
 (.block 0
 (.loop
 (.seq (.seq (.ops [
 oM 5 4,
 oO 6 (.bin .lss (.t 5) (.c (.int .i64 32)))])
 (.cond (.t 6)
 .skip
 (.exit 0)))
 (.seq (.block 1
 (.draw [
 oM 9 4,
 oO 10 (.bin .quo (.t 9) (.c (.int .i64 8))),
 oO 11 (.binF .sub (.c (.int .i64 3)) (.t 10)),
 oM 12 4,
 oO 13 (.bin .quo (.t 12) (.c (.int .i64 8))),
 oO 14 (.binF .sub (.c (.int .i64 3)) (.t 13)),
 oO 15 (.idxP 4 1 (.t 3) (.t 14)),
 oO 16 (.load 1 false (.t 15)),
 oO 17 (.bin .shl (.t 16) (.c (.int .u64 8))),
 oM 18 4,
 oO 19 (.idxP 32 1 (.t 1) (.t 18)),
 oO 20 (.load 1 false (.t 19)),
 oO 21 (.conv .u64 (.t 20)),
 oO 22 (.bin .or (.t 17) (.t 21)),
 oO 23 (.idxP 4 1 (.t 3) (.t 11)),
 ⟨none,.stA 1 4 1 (.t 23) (.t 22),none⟩] ⟨.all,[],.look 0 (.look 1 (.look 2 (.look 3 (.look 4 (.look 5 (.look 6 (.look 7 (.look 8 (.look 9 (.look 10 (.look 11 (.look 12 (.look 13 (.look 14 (.run 15 false .done)))))))))))))))⟩))
 (.ops [
 oM 7 4,
 oO 8 (.binF .add (.t 7) (.c (.int .i64 1))),
 oM 4 8]))))))
 (.seq (.ops [
 oO 24 (.load 4 true (.t 3)),
 ⟨none,.stA 1 4 4 (.t 2) (.t 24),none⟩])
 .ret))))⟩
theorem K_witanref01_Of:chkFun DK Pg Tryz.f155 A_witanref01_Of=true:=by kernel_rfl
theorem B_witanref01_Of {args:List AV} {m:Mem} {K:AV->Mem->Prop} (h:vcFun DK Pg A_witanref01_Of args m K):ACall Pg F_witanref01_Of args m K:=call_body mixed Tryz.func155 (by kernel_rfl) K_witanref01_Of h
noncomputable def A_bin_Put:AFun:=⟨3,43,[.t 6,.t 7],
 (.seq (.ops [
 oO 6 (.mv (.c (.nils))),
 oO 7 (.mv (.c (.int .i64 0)))])
 (.seq (.seq (.ops [
 oM 10 2,
 oO 11 (.bin .lss (.t 10) (.c (.int .i64 1))),
 oM 12 11,
 oG 13 (.mv (.t 2)) 12 false,
 oG 14 (.bin .gtr (.t 13) (.c (.int .i64 7))) 12 false,
 oO 15 (.pick (.t 12) (.c (.bool true)) (.t 14)),
 oM 16 15,
 oG 17 (.mv (.t 1)) 16 false,
 oG 18 (.bin .lss (.t 17) (.c (.int .i64 0))) 16 false,
 oO 19 (.pick (.t 16) (.c (.bool true)) (.t 18)),
 oM 20 19,
 oG 21 (.mv (.t 1)) 20 false,
 oG 22 (.mv (.t 2)) 20 false,
 oG 23 (.call (.c (.fn F_bin_room [])) [.t 22]) 20 false,
 oG 24 (.bin .geq (.t 21) (.t 23)) 20 false,
 oO 25 (.pick (.t 20) (.c (.bool true)) (.t 24))])
 (.cond (.t 25)
 (.seq (.ops [
 oO 6 (.mv (.c (.nils))),
 oO 7 (.mv (.c (.int .i64 1)))])
 .ret)
 .skip))
 (.seq (.ops [
 oM 26 0,
 oK 27 F_slices_Clone_Sbyte_byte [.t 26],
 oM 8 27])
 (.seq (.seq (.ops [
 oM 28 2,
 oO 29 (.bin .sub (.t 28) (.c (.int .i64 1))),
 oM 9 29])
 (.block 0
 (.loop
 (.seq (.seq (.ops [
 oM 30 9,
 oO 31 (.bin .geq (.t 30) (.c (.int .i64 0)))])
 (.cond (.t 31)
 .skip
 (.exit 0)))
 (.seq (.block 1
 (.ops [
 oM 34 8,
 oM 35 1,
 oM 36 9,
 oO 37 (.bin .mul (.c (.int .i64 8)) (.t 36)),
 oO 38 (.bin .shr (.t 35) (.t 37)),
 oO 39 (.conv .u8 (.t 38)),
 oO 40 (.bsl 1 1 [.int .u8 0] [(0,1,.t 39)]),
 oO 41 (.app 1 1 (.t 34) (.t 40)),
 oM 8 41]))
 (.ops [
 oM 32 9,
 oO 33 (.bin .sub (.t 32) (.c (.int .i64 1))),
 oM 9 33]))))))
 (.seq (.ops [
 oM 42 8,
 oM 6 42,
 oO 7 (.mv (.c (.int .i64 0)))])
 .ret)))))⟩
theorem K_bin_Put:chkFun DK Pg Tryz.f159 A_bin_Put=true:=by kernel_rfl
theorem B_bin_Put {args:List AV} {m:Mem} {K:AV->Mem->Prop} (h:vcFun DK Pg A_bin_Put args m K):ACall Pg F_bin_Put args m K:=call_body mixed Tryz.func159 (by kernel_rfl) K_bin_Put h
noncomputable def A_curve_Bytes:AFun:=⟨1,28,[.t 2,.t 3],
 (.seq (.ops [
 oO 1 (.box 9 1 (.t 0)),
 oO 2 (.mv (.c (.nils))),
 oO 3 (.mv (.c (.int .i64 0)))])
 (.seq (.ops [
 oO 6 (.load 9 true (.t 1)),
 oK 7 F_curve_Check [.t 6],
 oM 4 7])
 (.seq (.block 0
 (.seq (.ops [
 oM 9 4,
 oO 10 (.bin .neq (.t 9) (.c (.int .i64 0))),
 oM 8 10])
 (.cond (.t 8)
 (.seq (.ops [
 oM 11 4,
 oO 2 (.mv (.c (.nils))),
 oM 3 11])
 .ret)
 (.seq (.ops [
 oO 13 (.fldA 0 (.t 1)),
 oO 14 (.load 1 false (.t 13)),
 oM 12 14])
 (.cond (.t 12)
 (.seq (.ops [
 oO 15 (.bsl 1 1 [.int .u8 0] [(0,1,.c (.int .u8 0))]),
 oM 2 15,
 oO 3 (.mv (.c (.int .i64 0)))])
 .ret)
 .skip)))))
 (.seq (.ops [
 oO 16 (.fldA 1 (.t 1)),
 oO 17 (.load 4 true (.t 16)),
 oK 18 F_limb_Bytes [.t 17],
 oO 5 (.alloc 1 32 [.int .u8 0]),
 oS 32 5 18])
 (.seq (.draw [
 oO 19 (.fldA 5 (.t 1)),
 oO 20 (.idxP 4 1 (.t 19) (.c (.int .i64 0))),
 oO 21 (.load 1 false (.t 20)),
 oO 22 (.bin .and (.t 21) (.c (.int .u64 1))),
 oO 23 (.bin .add (.c (.int .u64 2)) (.t 22)),
 oO 24 (.conv .u8 (.t 23)),
 oO 25 (.bsl 1 1 [.int .u8 0] [(0,1,.t 24)]),
 oO 26 (.slarr 32 1 (.t 5) none none none),
 oO 27 (.app 1 1 (.t 25) (.t 26)),
 oM 2 27,
 oO 3 (.mv (.c (.int .i64 0)))] ⟨.all,[],.look 0 (.look 1 (.look 2 (.look 3 (.look 4 (.look 5 (.look 7 (.run 6 true (.run 8 false (.look 9 (.look 10 .done))))))))))⟩)
 .ret)))))⟩
theorem K_curve_Bytes:chkFun DK Pg Tryz.f160 A_curve_Bytes=true:=by kernel_rfl
theorem B_curve_Bytes {args:List AV} {m:Mem} {K:AV->Mem->Prop} (h:vcFun DK Pg A_curve_Bytes args m K):ACall Pg F_curve_Bytes args m K:=call_body mixed Tryz.func160 (by kernel_rfl) K_curve_Bytes h
noncomputable def A_limb_Bytes:AFun:=⟨1,24,[.cell 2 32 true],
 (.seq (.ops [
 oO 1 (.box 1 4 (.t 0)),
 oO 2 (.alloc 1 32 [.int .u8 0])])
 (.seq (.ops [
 oO 3 (.alloc 1 32 [.int .u8 0])])
 (.seq (.seq (.ops [
 oO 6 (.mv (.c (.int .i64 0)))])
 (.block 0
 (.loop
 (.seq (.ops [
 oO 7 (.bin .lss (.t 6) (.c (.int .i64 32)))])
 (.seq (.cond (.t 7)
 .skip
 (.exit 0))
 (.seq (.block 1
 (.seq (.ops [
 oM 8 6,
 oM 4 8])
 (.seq (.ops [
 oM 9 4,
 oO 10 (.binF .sub (.c (.int .i64 31)) (.t 9)),
 oM 5 10])
 (.ops [
 oM 11 4,
 oM 12 5,
 oO 13 (.bin .quo (.t 12) (.c (.int .i64 8))),
 oO 14 (.idxP 4 1 (.t 1) (.t 13)),
 oO 15 (.load 1 false (.t 14)),
 oM 16 5,
 oO 17 (.bin .rem (.t 16) (.c (.int .i64 8))),
 oO 18 (.binF .mul (.c (.int .i64 8)) (.t 17)),
 oO 19 (.bin .shr (.t 15) (.t 18)),
 oO 20 (.conv .u8 (.t 19)),
 oO 21 (.idxP 32 1 (.t 3) (.t 11)),
 ⟨none,.stA 1 32 1 (.t 21) (.t 20),none⟩]))))
 (.ops [
 oO 22 (.binF .add (.t 6) (.c (.int .i64 1))),
 oM 6 22])))))))
 (.seq (.ops [
 oO 23 (.load 32 true (.t 3)),
 ⟨none,.stA 1 32 32 (.t 2) (.t 23),none⟩])
 .ret))))⟩
theorem K_limb_Bytes:chkFun DK Pg Tryz.f161 A_limb_Bytes=true:=by kernel_rfl
theorem B_limb_Bytes {args:List AV} {m:Mem} {K:AV->Mem->Prop} (h:vcFun DK Pg A_limb_Bytes args m K):ACall Pg F_limb_Bytes args m K:=call_body mixed Tryz.func161 (by kernel_rfl) K_limb_Bytes h
noncomputable def A_curve_mul:AFun:=⟨2,8,[.cell 4 4 true],
 (.seq (.ops [
 oO 2 (.box 1 4 (.t 0)),
 oO 3 (.box 1 4 (.t 1)),
 oO 4 (.alloc 1 4 [.int .u64 0])])
 (.seq (.ops [
 oO 5 (.load 4 true (.t 2)),
 oO 6 (.load 4 true (.t 3)),
 oK 7 F_field_Mul [.c (.int .i64 0),.t 5,.t 6],
 ⟨none,.stA 1 4 4 (.t 4) (.t 7),none⟩])
 .ret))⟩
theorem K_curve_mul:chkFun DK Pg Tryz.f162 A_curve_mul=true:=by kernel_rfl
theorem B_curve_mul {args:List AV} {m:Mem} {K:AV->Mem->Prop} (h:vcFun DK Pg A_curve_mul args m K):ACall Pg F_curve_mul args m K:=call_body mixed Tryz.func162 (by kernel_rfl) K_curve_mul h
noncomputable def A_curve_right:AFun:=⟨1,10,[.cell 2 4 true],
 (.seq (.ops [
 oO 1 (.box 1 4 (.t 0)),
 oO 2 (.alloc 1 4 [.int .u64 0])])
 (.seq (.draw [
 oO 3 (.load 4 true (.t 1)),
 oO 4 (.load 4 true (.t 1)),
 oK 5 F_curve_mul [.t 3,.t 4],
 oO 6 (.load 4 true (.t 1)),
 oK 7 F_curve_mul [.t 5,.t 6],
 oO 8 (.build [.int .u64 0,.int .u64 0,.int .u64 0,.int .u64 0] [(0,1,.c (.int .u64 7))]),
 oK 9 F_curve_add [.t 7,.t 8],
 ⟨none,.stA 1 4 4 (.t 2) (.t 9),none⟩] ⟨.all,[],.look 0 (.look 1 (.look 3 (.look 5 (.run 2 true (.run 4 true (.run 6 false (.run 7 false .done)))))))⟩)
 .ret))⟩
theorem K_curve_right:chkFun DK Pg Tryz.f163 A_curve_right=true:=by kernel_rfl
theorem B_curve_right {args:List AV} {m:Mem} {K:AV->Mem->Prop} (h:vcFun DK Pg A_curve_right args m K):ACall Pg F_curve_right args m K:=call_body mixed Tryz.func163 (by kernel_rfl) K_curve_right h
noncomputable def A_limb_Of:AFun:=⟨1,28,[.cell 2 4 true],
 (.seq (.ops [
 oO 1 (.box 1 32 (.t 0)),
 oO 2 (.alloc 1 4 [.int .u64 0])])
 (.seq (.ops [
 oO 3 (.alloc 1 4 [.int .u64 0])])
 (.seq (.seq (.ops [
 oO 7 (.load 32 true (.t 1)),
 oO 8 (.mv (.c (.int .i64 0)))])
 (.block 0
 (.loop
 (.seq (.ops [
 oO 9 (.bin .lss (.t 8) (.c (.int .i64 32)))])
 (.seq (.cond (.t 9)
 .skip
 (.exit 0))
 (.seq (.block 1
 (.seq (.ops [
 oM 10 8,
 oO 11 (.idx 32 1 false (.t 7) (.t 8)),
 oM 4 10,
 oM 5 11])
 (.seq (.ops [
 oM 12 4,
 oO 13 (.binF .sub (.c (.int .i64 31)) (.t 12)),
 oM 6 13])
 (.draw [
 oM 14 6,
 oO 15 (.bin .quo (.t 14) (.c (.int .i64 8))),
 oO 16 (.idxP 4 1 (.t 3) (.t 15)),
 oO 17 (.load 1 false (.t 16)),
 oM 18 5,
 oO 19 (.conv .u64 (.t 18)),
 oM 20 6,
 oO 21 (.bin .rem (.t 20) (.c (.int .i64 8))),
 oO 22 (.binF .mul (.c (.int .i64 8)) (.t 21)),
 oO 23 (.bin .shl (.t 19) (.t 22)),
 oO 24 (.bin .or (.t 17) (.t 23)),
 oO 25 (.idxP 4 1 (.t 3) (.t 15)),
 ⟨none,.stA 1 4 1 (.t 25) (.t 24),none⟩] ⟨.all,[],.look 0 (.look 1 (.look 2 (.look 3 (.look 4 (.look 5 (.look 6 (.look 7 (.look 8 (.look 9 (.look 10 (.look 11 (.run 12 false .done))))))))))))⟩))))
 (.ops [
 oO 26 (.binF .add (.t 8) (.c (.int .i64 1))),
 oM 8 26])))))))
 (.seq (.ops [
 oO 27 (.load 4 true (.t 3)),
 ⟨none,.stA 1 4 4 (.t 2) (.t 27),none⟩])
 .ret))))⟩
theorem K_limb_Of:chkFun DK Pg Tryz.f165 A_limb_Of=true:=by kernel_rfl
theorem B_limb_Of {args:List AV} {m:Mem} {K:AV->Mem->Prop} (h:vcFun DK Pg A_limb_Of args m K):ACall Pg F_limb_Of args m K:=call_body mixed Tryz.func165 (by kernel_rfl) K_limb_Of h
noncomputable def A_witanref01_mul:AFun:=⟨2,8,[.cell 4 4 true],
 (.seq (.ops [
 oO 2 (.box 1 4 (.t 0)),
 oO 3 (.box 1 4 (.t 1)),
 oO 4 (.alloc 1 4 [.int .u64 0])])
 (.seq (.ops [
 oO 5 (.load 4 true (.t 2)),
 oO 6 (.load 4 true (.t 3)),
 oK 7 F_witanref01_FMul [.c (.int .i64 0),.t 5,.t 6],
 ⟨none,.stA 1 4 4 (.t 4) (.t 7),none⟩])
 .ret))⟩
theorem K_witanref01_mul:chkFun DK Pg Tryz.f166 A_witanref01_mul=true:=by kernel_rfl
theorem B_witanref01_mul {args:List AV} {m:Mem} {K:AV->Mem->Prop} (h:vcFun DK Pg A_witanref01_mul args m K):ACall Pg F_witanref01_mul args m K:=call_body mixed Tryz.func166 (by kernel_rfl) K_witanref01_mul h
noncomputable def A_witanref01_add:AFun:=⟨2,8,[.cell 4 4 true],
 (.seq (.ops [
 oO 2 (.box 1 4 (.t 0)),
 oO 3 (.box 1 4 (.t 1)),
 oO 4 (.alloc 1 4 [.int .u64 0])])
 (.seq (.ops [
 oO 5 (.load 4 true (.t 2)),
 oO 6 (.load 4 true (.t 3)),
 oK 7 F_witanref01_FAdd [.c (.int .i64 0),.t 5,.t 6],
 ⟨none,.stA 1 4 4 (.t 4) (.t 7),none⟩])
 .ret))⟩
theorem K_witanref01_add:chkFun DK Pg Tryz.f167 A_witanref01_add=true:=by kernel_rfl
theorem B_witanref01_add {args:List AV} {m:Mem} {K:AV->Mem->Prop} (h:vcFun DK Pg A_witanref01_add args m K):ACall Pg F_witanref01_add args m K:=call_body mixed Tryz.func167 (by kernel_rfl) K_witanref01_add h
noncomputable def A_dleq_challenge:AFun:=⟨1,33,[.cell 2 4 true,.t 3],
 (.seq (.ops [
 oO 2 (.alloc 1 4 [.int .u64 0]),
 oO 3 (.mv (.c (.int .i64 0)))])
 (.seq (.ops [
 oO 4 (.mv (.c (.nils)))])
 (.seq (.seq (.ops [
 oM 9 0,
 oO 10 (.len (.t 9)),
 oO 11 (.mv (.c (.int .i64 0)))])
 (.block 0
 (.loop
 (.seq (.ops [
 oO 12 (.bin .lss (.t 11) (.t 10))])
 (.seq (.cond (.t 12)
 .skip
 (.exit 0))
 (.seq (.block 1
 (.seq (.ops [
 oO 13 (.idxA 9 (.t 9) (.t 11)),
 oO 14 (.load 9 true (.t 13)),
 oO 6 (.alloc 9 1 [.bool false,.int .u64 0,.int .u64 0,.int .u64 0,.int .u64 0,.int .u64 0,.int .u64 0,.int .u64 0,.int .u64 0]),
 ⟨none,.stA 9 1 9 (.t 6) (.t 14),none⟩])
 (.seq (.ops [
 oO 16 (.load 9 true (.t 6)),
 oK 17 F_curve_Bytes [.t 16],
 oM 15 17,
 oO 18 (.ext (.t 15) 0),
 oO 19 (.ext (.t 15) 1),
 oM 7 18,
 oM 8 19])
 (.seq (.seq (.ops [
 oM 20 8,
 oO 21 (.bin .neq (.t 20) (.c (.int .i64 0)))])
 (.cond (.t 21)
 (.seq (.ops [
 oO 22 (.build [.int .u64 0,.int .u64 0,.int .u64 0,.int .u64 0] []),
 oM 23 8,
 ⟨none,.stA 1 4 4 (.t 2) (.t 22),none⟩,
 oM 3 23])
 .ret)
 .skip))
 (.ops [
 oM 24 4,
 oM 25 7,
 oO 26 (.bsl 1 1 [.nils] [(0,1,.t 25)]),
 oO 27 (.app 1 24 (.t 24) (.t 26)),
 oM 4 27])))))
 (.ops [
 oO 28 (.bin .add (.t 11) (.c (.int .i64 1))),
 oM 11 28])))))))
 (.seq (.ops [
 oM 29 4,
 ⟨some 30,.call (.c (.fn F_draw_Scalar [])) [.c (.str ⟨#[100,108,101,113]⟩),.t 29],none⟩,
 oO 31 (.ext (.t 30) 0),
 oO 32 (.ext (.t 30) 1),
 ⟨none,.stA 1 4 4 (.t 2) (.t 31),none⟩,
 oM 3 32])
 .ret))))⟩
theorem K_dleq_challenge:chkFun DK Pg Tryz.f172 A_dleq_challenge=true:=by kernel_rfl
theorem B_dleq_challenge {args:List AV} {m:Mem} {K:AV->Mem->Prop} (h:vcFun DK Pg A_dleq_challenge args m K):ACall Pg F_dleq_challenge args m K:=call_body mixed Tryz.func172 (by kernel_rfl) K_dleq_challenge h
noncomputable def A_witanref04_Joined:AFun:=⟨2,49,[.t 4,.t 5],
 (.seq (.ops [
 oO 4 (.mv (.c (.nils))),
 oO 5 (.mv (.c (.bool false)))])
 (.seq (.seq (.ops [
 oM 8 0,
 oO 9 (.lens (.t 8)),
 oO 10 (.bin .gtr (.t 9) (.c (.int .i64 65532)))])
 (.cond (.t 10)
 (.seq (.ops [
 oO 4 (.mv (.c (.nils))),
 oO 5 (.mv (.c (.bool false)))])
 .ret)
 .skip))
 (.seq (.ops [
 oM 11 0,
 oO 12 (.lens (.t 11)),
 oO 13 (.conv .u64 (.t 12)),
 oK 14 F_witanref04_be [.t 13,.c (.int .i64 4)],
 oM 15 0,
 oO 16 (.sbytes (.t 15)),
 oO 17 (.bsl 1 2 [.nils] [(0,1,.t 14),(1,1,.t 16)]),
 oK 18 F_witanref04_join [.t 17],
 oM 6 18])
 (.seq (.seq (.ops [
 oO 7 (.mv (.c (.int .i64 0)))])
 (.block 0
 (.loop
 (.seq (.seq (.ops [
 oM 19 7,
 oM 20 1,
 oO 21 (.len (.t 20)),
 oO 22 (.bin .lss (.t 19) (.t 21))])
 (.cond (.t 22)
 .skip
 (.exit 0)))
 (.seq (.block 1
 (.seq (.seq (.ops [
 oM 25 1,
 oM 26 7,
 oO 27 (.idxA 1 (.t 25) (.t 26)),
 oO 28 (.load 1 false (.t 27)),
 oO 29 (.len (.t 28)),
 oM 30 6,
 oO 31 (.len (.t 30)),
 oO 32 (.bin .sub (.c (.int .i64 65532)) (.t 31)),
 oO 33 (.bin .gtr (.t 29) (.t 32))])
 (.cond (.t 33)
 (.seq (.ops [
 oO 4 (.mv (.c (.nils))),
 oO 5 (.mv (.c (.bool false)))])
 .ret)
 .skip))
 (.draw [
 oM 34 6,
 oM 35 1,
 oM 36 7,
 oO 37 (.idxA 1 (.t 35) (.t 36)),
 oO 38 (.load 1 false (.t 37)),
 oO 39 (.len (.t 38)),
 oO 40 (.conv .u64 (.t 39)),
 oK 41 F_witanref04_be [.t 40,.c (.int .i64 4)],
 oO 42 (.app 1 1 (.t 34) (.t 41)),
 oM 43 1,
 oM 44 7,
 oO 45 (.idxA 1 (.t 43) (.t 44)),
 oO 46 (.load 1 false (.t 45)),
 oO 47 (.app 1 1 (.t 42) (.t 46)),
 oM 6 47] ⟨.no,[],.look 0 (.look 1 (.look 2 (.look 3 (.look 4 (.look 5 (.look 6 (.look 9 (.look 10 (.look 11 (.look 12 (.run 7 true (.run 8 true (.run 13 false (.look 14 .done))))))))))))))⟩)))
 (.ops [
 oM 23 7,
 oO 24 (.bin .add (.t 23) (.c (.int .i64 1))),
 oM 7 24]))))))
 (.seq (.ops [
 oM 48 6,
 oM 4 48,
 oO 5 (.mv (.c (.bool true)))])
 .ret)))))⟩
theorem K_witanref04_Joined:chkFun DK Pg Tryz.f173 A_witanref04_Joined=true:=by kernel_rfl
theorem B_witanref04_Joined {args:List AV} {m:Mem} {K:AV->Mem->Prop} (h:vcFun DK Pg A_witanref04_Joined args m K):ACall Pg F_witanref04_Joined args m K:=call_body mixed Tryz.func173 (by kernel_rfl) K_witanref04_Joined h
noncomputable def A_witanref04_Sum256:AFun:=⟨1,208,[.cell 2 32 true],
 (.seq (.ops [
 oO 2 (.alloc 1 32 [.int .u8 0])])
 (.seq (.ops [
 oK 21 F_witanref04_k256 [],
 oO 3 (.alloc 1 64 [.int .u32 0]),
 oS 64 3 21])
 (.seq (.ops [
 oO 22 (.build [.int .u32 0,.int .u32 0,.int .u32 0,.int .u32 0,.int .u32 0,.int .u32 0,.int .u32 0,.int .u32 0] [(0,1,.c (.int .u32 1779033703)),(1,1,.c (.int .u32 3144134277)),(2,1,.c (.int .u32 1013904242)),(3,1,.c (.int .u32 2773480762)),(4,1,.c (.int .u32 1359893119)),(5,1,.c (.int .u32 2600822924)),(6,1,.c (.int .u32 528734635)),(7,1,.c (.int .u32 1541459225))]),
 oO 4 (.alloc 1 8 [.int .u32 0]),
 oS 8 4 22])
 (.seq (.ops [
 oM 23 0,
 oK 24 F_witanref04_padded [.t 23],
 oM 5 24])
 (.seq (.seq (.ops [
 oO 6 (.mv (.c (.int .i64 0)))])
 (.block 0
 (.loop
 (.seq (.seq (.ops [
 oM 25 6,
 oM 26 5,
 oO 27 (.len (.t 26)),
 oO 28 (.bin .lss (.t 25) (.t 27))])
 (.cond (.t 28)
 .skip
 (.exit 0)))
 (.seq (.block 1
 (.seq (.ops [
 oO 7 (.alloc 1 64 [.int .u32 0])])
 (.seq (.seq (.ops [
 oO 8 (.mv (.c (.int .i64 0)))])
 (.block 2
 (.loop
 (.seq (.seq (.ops [
 oM 31 8,
 oO 32 (.bin .lss (.t 31) (.c (.int .i64 64)))])
 (.cond (.t 32)
 .skip
 (.exit 2)))
 (.seq (.block 3
 (.seq (.seq (.ops [
 oM 35 8,
 oO 36 (.bin .lss (.t 35) (.c (.int .i64 16)))])
 (.cond (.t 36)
 (.seq (.seq (.ops [
 oO 9 (.mv (.c (.int .i64 0)))])
 (.block 4
 (.loop
 (.seq (.seq (.ops [
 oM 37 9,
 oO 38 (.bin .lss (.t 37) (.c (.int .i64 4)))])
 (.cond (.t 38)
 .skip
 (.exit 4)))
 (.seq (.block 5
 (.draw [
 oM 41 8,
 oM 42 8,
 oO 43 (.idxP 64 1 (.t 7) (.t 42)),
 oO 44 (.load 1 false (.t 43)),
 oO 45 (.bin .shl (.t 44) (.c (.int .u64 8))),
 oM 46 5,
 oM 47 6,
 oM 48 8,
 oO 49 (.bin .mul (.c (.int .i64 4)) (.t 48)),
 oO 50 (.bin .add (.t 47) (.t 49)),
 oM 51 9,
 oO 52 (.bin .add (.t 50) (.t 51)),
 oO 53 (.idxA 1 (.t 46) (.t 52)),
 oO 54 (.load 1 false (.t 53)),
 oO 55 (.conv .u32 (.t 54)),
 oO 56 (.bin .or (.t 45) (.t 55)),
 oO 57 (.idxP 64 1 (.t 7) (.t 41)),
 oS 1 57 56] ⟨.all,[],.look 0 (.look 1 (.look 2 (.look 3 (.look 4 (.look 5 (.look 6 (.look 7 (.look 8 (.look 9 (.look 10 (.look 11 (.look 12 (.look 13 (.look 14 (.look 15 (.look 16 (.run 17 false .done)))))))))))))))))⟩))
 (.ops [
 oM 39 9,
 oO 40 (.bin .add (.t 39) (.c (.int .i64 1))),
 oM 9 40]))))))
 (.exit 3))
 .skip))
 (.seq (.draw [
 oM 58 8,
 oO 59 (.bin .sub (.t 58) (.c (.int .i64 15))),
 oO 60 (.idxP 64 1 (.t 7) (.t 59)),
 oO 61 (.load 1 false (.t 60)),
 oM 62 8,
 oO 63 (.bin .sub (.t 62) (.c (.int .i64 2))),
 oO 64 (.idxP 64 1 (.t 7) (.t 63)),
 oO 65 (.load 1 false (.t 64)),
 oM 10 61,
 oM 11 65] ⟨.no,[],.flat⟩)
 (.draw [
 oM 66 8,
 oM 67 8,
 oO 68 (.bin .sub (.t 67) (.c (.int .i64 16))),
 oO 69 (.idxP 64 1 (.t 7) (.t 68)),
 oO 70 (.load 1 false (.t 69)),
 oM 71 8,
 oO 72 (.bin .sub (.t 71) (.c (.int .i64 7))),
 oO 73 (.idxP 64 1 (.t 7) (.t 72)),
 oO 74 (.load 1 false (.t 73)),
 oO 75 (.bin .add (.t 70) (.t 74)),
 oM 76 10,
 oK 77 F_witanref04_rot32 [.t 76,.c (.int .i64 7)],
 oM 78 10,
 oK 79 F_witanref04_rot32 [.t 78,.c (.int .i64 18)],
 oO 80 (.bin .xor (.t 77) (.t 79)),
 oM 81 10,
 oO 82 (.bin .shr (.t 81) (.c (.int .u64 3))),
 oO 83 (.bin .xor (.t 80) (.t 82)),
 oO 84 (.bin .add (.t 75) (.t 83)),
 oM 85 11,
 oK 86 F_witanref04_rot32 [.t 85,.c (.int .i64 17)],
 oM 87 11,
 oK 88 F_witanref04_rot32 [.t 87,.c (.int .i64 19)],
 oO 89 (.bin .xor (.t 86) (.t 88)),
 oM 90 11,
 oO 91 (.bin .shr (.t 90) (.c (.int .u64 10))),
 oO 92 (.bin .xor (.t 89) (.t 91)),
 oO 93 (.bin .add (.t 84) (.t 92)),
 oO 94 (.idxP 64 1 (.t 7) (.t 66)),
 oS 1 94 93] ⟨.all,[],.look 0 (.look 1 (.look 2 (.look 3 (.look 4 (.look 5 (.look 6 (.look 7 (.look 8 (.look 9 (.look 10 (.look 12 (.look 15 (.look 16 (.look 19 (.look 21 (.look 24 (.look 25 (.run 11 true (.run 13 true (.look 14 (.look 17 (.look 18 (.run 20 true (.run 22 true (.look 23 (.look 26 (.look 27 (.look 28 (.run 29 false .done)))))))))))))))))))))))))))))⟩))))
 (.ops [
 oM 33 8,
 oO 34 (.bin .add (.t 33) (.c (.int .i64 1))),
 oM 8 34]))))))
 (.seq (.ops [
 oO 95 (.load 8 true (.t 4)),
 oO 12 (.alloc 1 8 [.int .u32 0]),
 oS 8 12 95])
 (.seq (.seq (.ops [
 oO 13 (.mv (.c (.int .i64 0)))])
 (.block 6
 (.loop
 (.seq (.seq (.ops [
 oM 96 13,
 oO 97 (.bin .lss (.t 96) (.c (.int .i64 64)))])
 (.cond (.t 97)
 .skip
 (.exit 6)))
 (.seq (.block 7
 (.seq (.draw [
 oO 100 (.idxP 8 1 (.t 12) (.c (.int .i64 0))),
 oO 101 (.load 1 false (.t 100)),
 oO 102 (.idxP 8 1 (.t 12) (.c (.int .i64 4))),
 oO 103 (.load 1 false (.t 102)),
 oM 14 101,
 oM 15 103] ⟨.no,[],.flat⟩)
 (.seq (.draw [
 oO 104 (.idxP 8 1 (.t 12) (.c (.int .i64 7))),
 oO 105 (.load 1 false (.t 104)),
 oM 106 15,
 oK 107 F_witanref04_rot32 [.t 106,.c (.int .i64 6)],
 oM 108 15,
 oK 109 F_witanref04_rot32 [.t 108,.c (.int .i64 11)],
 oO 110 (.bin .xor (.t 107) (.t 109)),
 oM 111 15,
 oK 112 F_witanref04_rot32 [.t 111,.c (.int .i64 25)],
 oO 113 (.bin .xor (.t 110) (.t 112)),
 oO 114 (.bin .add (.t 105) (.t 113)),
 oM 115 15,
 oO 116 (.idxP 8 1 (.t 12) (.c (.int .i64 5))),
 oO 117 (.load 1 false (.t 116)),
 oO 118 (.bin .and (.t 115) (.t 117)),
 oM 119 15,
 oO 120 (.un .xor (.t 119)),
 oO 121 (.idxP 8 1 (.t 12) (.c (.int .i64 6))),
 oO 122 (.load 1 false (.t 121)),
 oO 123 (.bin .and (.t 120) (.t 122)),
 oO 124 (.bin .xor (.t 118) (.t 123)),
 oO 125 (.bin .add (.t 114) (.t 124)),
 oM 126 13,
 oO 127 (.idxP 64 1 (.t 3) (.t 126)),
 oO 128 (.load 1 false (.t 127)),
 oO 129 (.bin .add (.t 125) (.t 128)),
 oM 130 13,
 oO 131 (.idxP 64 1 (.t 7) (.t 130)),
 oO 132 (.load 1 false (.t 131)),
 oO 133 (.bin .add (.t 129) (.t 132)),
 oM 16 133] ⟨.all,[],.look 0 (.look 1 (.look 2 (.look 4 (.look 7 (.look 11 (.look 12 (.look 13 (.look 14 (.look 15 (.look 16 (.look 17 (.look 18 (.look 19 (.look 20 (.look 22 (.look 23 (.look 24 (.look 26 (.look 27 (.look 28 (.run 3 true (.run 5 true (.look 6 (.run 8 true (.look 9 (.look 10 (.look 21 (.look 25 (.look 29 (.look 30 .done))))))))))))))))))))))))))))))⟩)
 (.seq (.draw [
 oM 134 14,
 oK 135 F_witanref04_rot32 [.t 134,.c (.int .i64 2)],
 oM 136 14,
 oK 137 F_witanref04_rot32 [.t 136,.c (.int .i64 13)],
 oO 138 (.bin .xor (.t 135) (.t 137)),
 oM 139 14,
 oK 140 F_witanref04_rot32 [.t 139,.c (.int .i64 22)],
 oO 141 (.bin .xor (.t 138) (.t 140)),
 oM 142 14,
 oO 143 (.idxP 8 1 (.t 12) (.c (.int .i64 1))),
 oO 144 (.load 1 false (.t 143)),
 oO 145 (.bin .and (.t 142) (.t 144)),
 oM 146 14,
 oO 147 (.idxP 8 1 (.t 12) (.c (.int .i64 2))),
 oO 148 (.load 1 false (.t 147)),
 oO 149 (.bin .and (.t 146) (.t 148)),
 oO 150 (.bin .xor (.t 145) (.t 149)),
 oO 151 (.idxP 8 1 (.t 12) (.c (.int .i64 1))),
 oO 152 (.load 1 false (.t 151)),
 oO 153 (.idxP 8 1 (.t 12) (.c (.int .i64 2))),
 oO 154 (.load 1 false (.t 153)),
 oO 155 (.bin .and (.t 152) (.t 154)),
 oO 156 (.bin .xor (.t 150) (.t 155)),
 oO 157 (.bin .add (.t 141) (.t 156)),
 oM 17 157] ⟨.all,[],.look 0 (.look 2 (.look 5 (.look 8 (.look 9 (.look 10 (.look 11 (.look 12 (.look 13 (.look 14 (.look 15 (.look 16 (.look 17 (.look 18 (.look 19 (.look 20 (.look 21 (.look 22 (.run 1 true (.run 3 true (.look 4 (.run 6 true (.look 7 (.look 23 (.look 24 .done))))))))))))))))))))))))⟩)
 (.ops [
 oM 158 16,
 oM 159 17,
 oO 160 (.bin .add (.t 158) (.t 159)),
 oO 161 (.idxP 8 1 (.t 12) (.c (.int .i64 0))),
 oO 162 (.load 1 false (.t 161)),
 oO 163 (.idxP 8 1 (.t 12) (.c (.int .i64 1))),
 oO 164 (.load 1 false (.t 163)),
 oO 165 (.idxP 8 1 (.t 12) (.c (.int .i64 2))),
 oO 166 (.load 1 false (.t 165)),
 oO 167 (.idxP 8 1 (.t 12) (.c (.int .i64 3))),
 oO 168 (.load 1 false (.t 167)),
 oM 169 16,
 oO 170 (.bin .add (.t 168) (.t 169)),
 oO 171 (.idxP 8 1 (.t 12) (.c (.int .i64 4))),
 oO 172 (.load 1 false (.t 171)),
 oO 173 (.idxP 8 1 (.t 12) (.c (.int .i64 5))),
 oO 174 (.load 1 false (.t 173)),
 oO 175 (.idxP 8 1 (.t 12) (.c (.int .i64 6))),
 oO 176 (.load 1 false (.t 175)),
 oO 177 (.build [.int .u32 0,.int .u32 0,.int .u32 0,.int .u32 0,.int .u32 0,.int .u32 0,.int .u32 0,.int .u32 0] [(0,1,.t 160),(1,1,.t 162),(2,1,.t 164),(3,1,.t 166),(4,1,.t 170),(5,1,.t 172),(6,1,.t 174),(7,1,.t 176)]),
 oS 8 12 177])))))
 (.ops [
 oM 98 13,
 oO 99 (.bin .add (.t 98) (.c (.int .i64 1))),
 oM 13 99]))))))
 (.seq (.ops [
 oO 18 (.mv (.c (.int .i64 0)))])
 (.block 8
 (.loop
 (.seq (.seq (.ops [
 oM 178 18,
 oO 179 (.bin .lss (.t 178) (.c (.int .i64 8)))])
 (.cond (.t 179)
 .skip
 (.exit 8)))
 (.seq (.block 9
 (.draw [
 oM 182 18,
 oO 183 (.idxP 8 1 (.t 4) (.t 182)),
 oO 184 (.load 1 false (.t 183)),
 oM 185 18,
 oO 186 (.idxP 8 1 (.t 12) (.t 185)),
 oO 187 (.load 1 false (.t 186)),
 oO 188 (.bin .add (.t 184) (.t 187)),
 oO 189 (.idxP 8 1 (.t 4) (.t 182)),
 oS 1 189 188] ⟨.all,[],.look 0 (.look 1 (.look 2 (.look 3 (.look 4 (.look 5 (.look 6 (.look 7 (.run 8 false .done))))))))⟩))
 (.ops [
 oM 180 18,
 oO 181 (.bin .add (.t 180) (.c (.int .i64 1))),
 oM 18 181])))))))))))
 (.ops [
 oM 29 6,
 oO 30 (.bin .add (.t 29) (.c (.int .i64 64))),
 oM 6 30]))))))
 (.seq (.ops [
 oO 19 (.alloc 1 32 [.int .u8 0])])
 (.seq (.seq (.ops [
 oO 20 (.mv (.c (.int .i64 0)))])
 (.block 10
 (.loop
 (.seq (.seq (.ops [
 oM 190 20,
 oO 191 (.bin .lss (.t 190) (.c (.int .i64 32)))])
 (.cond (.t 191)
 .skip
 (.exit 10)))
 (.seq (.block 11
 (.ops [
 oM 194 20,
 oM 195 20,
 oO 196 (.bin .quo (.t 195) (.c (.int .i64 4))),
 oO 197 (.idxP 8 1 (.t 4) (.t 196)),
 oO 198 (.load 1 false (.t 197)),
 oM 199 20,
 oO 200 (.bin .rem (.t 199) (.c (.int .i64 4))),
 oO 201 (.bin .mul (.c (.int .i64 8)) (.t 200)),
 oO 202 (.bin .sub (.c (.int .i64 24)) (.t 201)),
 oO 203 (.conv .u64 (.t 202)),
 oO 204 (.bin .shr (.t 198) (.t 203)),
 oO 205 (.conv .u8 (.t 204)),
 oO 206 (.idxP 32 1 (.t 19) (.t 194)),
 oS 1 206 205]))
 (.ops [
 oM 192 20,
 oO 193 (.bin .add (.t 192) (.c (.int .i64 1))),
 oM 20 193]))))))
 (.seq (.ops [
 oO 207 (.load 32 true (.t 19)),
 oS 32 2 207])
 .ret))))))))⟩
theorem K_witanref04_Sum256:chkFun DK Pg Tryz.f174 A_witanref04_Sum256=true:=by kernel_rfl
theorem B_witanref04_Sum256 {args:List AV} {m:Mem} {K:AV->Mem->Prop} (h:vcFun DK Pg A_witanref04_Sum256 args m K):ACall Pg F_witanref04_Sum256 args m K:=call_body mixed Tryz.func174 (by kernel_rfl) K_witanref04_Sum256 h
noncomputable def A_witanref04_join:AFun:=⟨1,18,[.t 2],
 (.seq (.ops [
 oO 2 (.mv (.c (.nils)))])
 (.seq (.ops [
 oO 3 (.mv (.c (.nils)))])
 (.seq (.seq (.ops [
 oO 4 (.mv (.c (.int .i64 0)))])
 (.block 0
 (.loop
 (.seq (.seq (.ops [
 oM 5 4,
 oM 6 0,
 oO 7 (.len (.t 6)),
 oO 8 (.bin .lss (.t 5) (.t 7))])
 (.cond (.t 8)
 .skip
 (.exit 0)))
 (.seq (.block 1
 (.ops [
 oM 11 3,
 oM 12 0,
 oM 13 4,
 oO 14 (.idxA 1 (.t 12) (.t 13)),
 oO 15 (.load 1 false (.t 14)),
 oO 16 (.app 1 1 (.t 11) (.t 15)),
 oM 3 16]))
 (.ops [
 oM 9 4,
 oO 10 (.bin .add (.t 9) (.c (.int .i64 1))),
 oM 4 10]))))))
 (.seq (.ops [
 oM 17 3,
 oM 2 17])
 .ret))))⟩
theorem K_witanref04_join:chkFun DK Pg Tryz.f175 A_witanref04_join=true:=by kernel_rfl
theorem B_witanref04_join {args:List AV} {m:Mem} {K:AV->Mem->Prop} (h:vcFun DK Pg A_witanref04_join args m K):ACall Pg F_witanref04_join args m K:=call_body mixed Tryz.func175 (by kernel_rfl) K_witanref04_join h
noncomputable def A_witanref01_Wide:AFun:=⟨3,11,[.cell 6 4 true],
 (.seq (.ops [
 oO 4 (.box 1 4 (.t 1)),
 oO 5 (.box 1 4 (.t 2)),
 oO 6 (.alloc 1 4 [.int .u64 0])])
 (.seq (.ops [
 oM 7 0,
 oO 8 (.load 4 true (.t 5)),
 oO 9 (.load 4 true (.t 4)),
 oK 10 F_witanref01_fold [.t 7,.t 8,.t 9],
 ⟨none,.stA 1 4 4 (.t 6) (.t 10),none⟩])
 .ret))⟩
theorem K_witanref01_Wide:chkFun DK Pg Tryz.f176 A_witanref01_Wide=true:=by kernel_rfl
theorem B_witanref01_Wide {args:List AV} {m:Mem} {K:AV->Mem->Prop} (h:vcFun DK Pg A_witanref01_Wide args m K):ACall Pg F_witanref01_Wide args m K:=call_body mixed Tryz.func176 (by kernel_rfl) K_witanref01_Wide h
noncomputable def A_witanref01_Inf:AFun:=⟨0,2,[.cell 0 9 true],
 (.seq (.ops [
 oO 0 (.alloc 9 1 [.bool false,.int .u64 0,.int .u64 0,.int .u64 0,.int .u64 0,.int .u64 0,.int .u64 0,.int .u64 0,.int .u64 0])])
 (.seq (.ops [
 oO 1 (.build [.bool false,.int .u64 0,.int .u64 0,.int .u64 0,.int .u64 0,.int .u64 0,.int .u64 0,.int .u64 0,.int .u64 0] [(0,1,.c (.bool true))]),
 ⟨none,.stA 9 1 9 (.t 0) (.t 1),none⟩])
 .ret))⟩
theorem K_witanref01_Inf:chkFun DK Pg Tryz.f177 A_witanref01_Inf=true:=by kernel_rfl
theorem B_witanref01_Inf {args:List AV} {m:Mem} {K:AV->Mem->Prop} (h:vcFun DK Pg A_witanref01_Inf args m K):ACall Pg F_witanref01_Inf args m K:=call_body mixed Tryz.func177 (by kernel_rfl) K_witanref01_Inf h
noncomputable def A_witanref01_Inv:AFun:=⟨2,18,[.cell 4 4 true],
 (.seq (.ops [
 oO 3 (.box 1 4 (.t 1)),
 oO 4 (.alloc 1 4 [.int .u64 0])])
 (.seq (.ops [
 oM 8 0,
 oK 9 F_witanref01_Prime [.t 8],
 oO 10 (.build [.int .u64 0,.int .u64 0,.int .u64 0,.int .u64 0] [(0,1,.c (.int .u64 2))]),
 oK 11 F_witanref01_Sub [.t 9,.t 10],
 oM 7 11,
 oO 12 (.ext (.t 7) 0),
 oO 13 (.ext (.t 7) 1),
 oO 5 (.alloc 1 4 [.int .u64 0]),
 ⟨none,.stA 1 4 4 (.t 5) (.t 12),none⟩,
 oM 6 13])
 (.seq (.ops [
 oM 14 0,
 oO 15 (.load 4 true (.t 3)),
 oO 16 (.load 4 true (.t 5)),
 oK 17 F_witanref01_Pow [.t 14,.t 15,.t 16],
 ⟨none,.stA 1 4 4 (.t 4) (.t 17),none⟩])
 .ret)))⟩
theorem K_witanref01_Inv:chkFun DK Pg Tryz.f178 A_witanref01_Inv=true:=by kernel_rfl
theorem B_witanref01_Inv {args:List AV} {m:Mem} {K:AV->Mem->Prop} (h:vcFun DK Pg A_witanref01_Inv args m K):ACall Pg F_witanref01_Inv args m K:=call_body mixed Tryz.func178 (by kernel_rfl) K_witanref01_Inv h
noncomputable def A_witanref01_up:AFun:=⟨1,15,[.cell 2 12 true],
 (.seq (.ops [
 oO 1 (.box 9 1 (.t 0)),
 oO 2 (.alloc 12 1 (List.replicate 12 (.int .u64 0)))])
 (.seq (.seq (.ops [
 oO 3 (.fldA 0 (.t 1)),
 oO 4 (.load 1 false (.t 3))])
 (.cond (.t 4)
 (.seq (.ops [
 oO 5 (.build [.int .u64 0,.int .u64 0,.int .u64 0,.int .u64 0] [(0,1,.c (.int .u64 1))]),
 oO 6 (.build [.int .u64 0,.int .u64 0,.int .u64 0,.int .u64 0] [(0,1,.c (.int .u64 1))]),
 oO 7 (.build [.int .u64 0,.int .u64 0,.int .u64 0,.int .u64 0] []),
 oO 8 (.build (List.replicate 12 (.int .u64 0)) [(0,4,.t 5),(4,4,.t 6),(8,4,.t 7)]),
 ⟨none,.stA 12 1 12 (.t 2) (.t 8),none⟩])
 .ret)
 .skip))
 (.seq (.ops [
 oO 9 (.fldA 1 (.t 1)),
 oO 10 (.load 4 true (.t 9)),
 oO 11 (.fldA 5 (.t 1)),
 oO 12 (.load 4 true (.t 11)),
 oO 13 (.build [.int .u64 0,.int .u64 0,.int .u64 0,.int .u64 0] [(0,1,.c (.int .u64 1))]),
 oO 14 (.build (List.replicate 12 (.int .u64 0)) [(0,4,.t 10),(4,4,.t 12),(8,4,.t 13)]),
 ⟨none,.stA 12 1 12 (.t 2) (.t 14),none⟩])
 .ret)))⟩
theorem K_witanref01_up:chkFun DK Pg Tryz.f179 A_witanref01_up=true:=by kernel_rfl
theorem B_witanref01_up {args:List AV} {m:Mem} {K:AV->Mem->Prop} (h:vcFun DK Pg A_witanref01_up args m K):ACall Pg F_witanref01_up args m K:=call_body mixed Tryz.func179 (by kernel_rfl) K_witanref01_up h
noncomputable def A_witanref01_twice:AFun:=⟨1,92,[.cell 2 12 true],
 (.seq (.ops [
 oO 1 (.box 12 1 (.t 0)),
 oO 2 (.alloc 12 1 (List.replicate 12 (.int .u64 0)))])
 (.seq (.seq (.ops [
 oO 11 (.fldA 8 (.t 1)),
 oO 12 (.load 4 true (.t 11)),
 oO 13 (.build [.int .u64 0,.int .u64 0,.int .u64 0,.int .u64 0] []),
 oO 14 (.eqa [.i,.i,.i,.i] false (.t 12) (.t 13)),
 oM 15 14,
 oG 16 (.fldA 4 (.t 1)) 15 false,
 oG 17 (.load 4 true (.t 16)) 15 false,
 oG 18 (.build [.int .u64 0,.int .u64 0,.int .u64 0,.int .u64 0] []) 15 false,
 oG 19 (.eqa [.i,.i,.i,.i] false (.t 17) (.t 18)) 15 false,
 oO 20 (.pick (.t 15) (.c (.bool true)) (.t 19))])
 (.cond (.t 20)
 (.seq (.ops [
 oK 21 F_witanref01_Inf [],
 oK 22 F_witanref01_up [.t 21],
 ⟨none,.stA 12 1 12 (.t 2) (.t 22),none⟩])
 .ret)
 .skip))
 (.seq (.draw [
 oO 23 (.fldA 0 (.t 1)),
 oO 24 (.load 4 true (.t 23)),
 oO 25 (.fldA 0 (.t 1)),
 oO 26 (.load 4 true (.t 25)),
 oK 27 F_witanref01_mul [.t 24,.t 26],
 oO 28 (.fldA 4 (.t 1)),
 oO 29 (.load 4 true (.t 28)),
 oO 30 (.fldA 4 (.t 1)),
 oO 31 (.load 4 true (.t 30)),
 oK 32 F_witanref01_mul [.t 29,.t 31],
 oO 3 (.alloc 1 4 [.int .u64 0]),
 oO 4 (.alloc 1 4 [.int .u64 0]),
 oS 4 3 27,
 oS 4 4 32] ⟨.all,[(10,some 12),(11,some 13)],.look 0 (.look 1 (.look 2 (.look 3 (.look 5 (.look 6 (.look 7 (.look 8 (.run 4 true (.pre 10 12 (.run 9 true (.pre 11 13 (.fill .done))))))))))))⟩)
 (.seq (.ops [
 oO 33 (.load 4 true (.t 4)),
 oO 34 (.load 4 true (.t 4)),
 oK 35 F_witanref01_mul [.t 33,.t 34],
 oO 5 (.alloc 1 4 [.int .u64 0]),
 ⟨none,.stA 1 4 4 (.t 5) (.t 35),none⟩])
 (.seq (.draw [
 oO 36 (.fldA 0 (.t 1)),
 oO 37 (.load 4 true (.t 36)),
 oO 38 (.load 4 true (.t 4)),
 oK 39 F_witanref01_add [.t 37,.t 38],
 oO 40 (.fldA 0 (.t 1)),
 oO 41 (.load 4 true (.t 40)),
 oO 42 (.load 4 true (.t 4)),
 oK 43 F_witanref01_add [.t 41,.t 42],
 oK 44 F_witanref01_mul [.t 39,.t 43],
 oO 6 (.alloc 1 4 [.int .u64 0]),
 oS 4 6 44] ⟨.all,[(9,some 10)],.look 0 (.look 1 (.look 2 (.look 4 (.look 5 (.look 6 (.run 3 true (.run 7 true (.run 8 true (.pre 9 10 (.fill .done))))))))))⟩)
 (.seq (.draw [
 oO 45 (.load 4 true (.t 6)),
 oO 46 (.load 4 true (.t 3)),
 oK 47 F_witanref01_sub [.t 45,.t 46],
 oO 48 (.load 4 true (.t 5)),
 oK 49 F_witanref01_sub [.t 47,.t 48],
 ⟨none,.stA 1 4 4 (.t 6) (.t 49),none⟩] ⟨.all,[],.look 0 (.look 1 (.look 3 (.run 2 true (.run 4 false (.run 5 false .done)))))⟩)
 (.seq (.ops [
 oO 50 (.load 4 true (.t 6)),
 oO 51 (.load 4 true (.t 6)),
 oK 52 F_witanref01_add [.t 50,.t 51],
 ⟨none,.stA 1 4 4 (.t 6) (.t 52),none⟩])
 (.seq (.draw [
 oO 53 (.load 4 true (.t 3)),
 oO 54 (.load 4 true (.t 3)),
 oK 55 F_witanref01_add [.t 53,.t 54],
 oO 56 (.load 4 true (.t 3)),
 oK 57 F_witanref01_add [.t 55,.t 56],
 oO 7 (.alloc 1 4 [.int .u64 0]),
 oS 4 7 57] ⟨.all,[(5,some 6)],.look 0 (.look 1 (.look 3 (.run 2 true (.run 4 true (.pre 5 6 (.fill .done))))))⟩)
 (.seq (.draw [
 oO 58 (.load 4 true (.t 7)),
 oO 59 (.load 4 true (.t 7)),
 oK 60 F_witanref01_mul [.t 58,.t 59],
 oO 61 (.load 4 true (.t 6)),
 oO 62 (.load 4 true (.t 6)),
 oK 63 F_witanref01_add [.t 61,.t 62],
 oK 64 F_witanref01_sub [.t 60,.t 63],
 oO 8 (.alloc 1 4 [.int .u64 0]),
 oS 4 8 64] ⟨.all,[(7,some 8)],.look 0 (.look 1 (.look 3 (.look 4 (.run 2 true (.run 5 true (.run 6 true (.pre 7 8 (.fill .done))))))))⟩)
 (.seq (.ops [
 oO 65 (.load 4 true (.t 5)),
 oO 66 (.load 4 true (.t 5)),
 oK 67 F_witanref01_add [.t 65,.t 66],
 ⟨none,.stA 1 4 4 (.t 5) (.t 67),none⟩])
 (.seq (.ops [
 oO 68 (.load 4 true (.t 5)),
 oO 69 (.load 4 true (.t 5)),
 oK 70 F_witanref01_add [.t 68,.t 69],
 ⟨none,.stA 1 4 4 (.t 5) (.t 70),none⟩])
 (.seq (.ops [
 oO 71 (.load 4 true (.t 5)),
 oO 72 (.load 4 true (.t 5)),
 oK 73 F_witanref01_add [.t 71,.t 72],
 ⟨none,.stA 1 4 4 (.t 5) (.t 73),none⟩])
 (.seq (.draw [
 oO 74 (.load 4 true (.t 7)),
 oO 75 (.load 4 true (.t 6)),
 oO 76 (.load 4 true (.t 8)),
 oK 77 F_witanref01_sub [.t 75,.t 76],
 oK 78 F_witanref01_mul [.t 74,.t 77],
 oO 79 (.load 4 true (.t 5)),
 oK 80 F_witanref01_sub [.t 78,.t 79],
 oO 9 (.alloc 1 4 [.int .u64 0]),
 oS 4 9 80] ⟨.all,[(7,some 8)],.look 0 (.look 1 (.look 2 (.look 5 (.run 3 true (.run 4 true (.run 6 true (.pre 7 8 (.fill .done))))))))⟩)
 (.seq (.ops [
 oO 81 (.fldA 4 (.t 1)),
 oO 82 (.load 4 true (.t 81)),
 oO 83 (.fldA 8 (.t 1)),
 oO 84 (.load 4 true (.t 83)),
 oK 85 F_witanref01_mul [.t 82,.t 84],
 oO 10 (.alloc 1 4 [.int .u64 0]),
 ⟨none,.stA 1 4 4 (.t 10) (.t 85),none⟩])
 (.seq (.draw [
 oO 86 (.load 4 true (.t 8)),
 oO 87 (.load 4 true (.t 9)),
 oO 88 (.load 4 true (.t 10)),
 oO 89 (.load 4 true (.t 10)),
 oK 90 F_witanref01_add [.t 88,.t 89],
 oO 91 (.build (List.replicate 12 (.int .u64 0)) [(0,4,.t 86),(4,4,.t 87),(8,4,.t 90)]),
 ⟨none,.stA 12 1 12 (.t 2) (.t 91),none⟩] ⟨.all,[],.look 0 (.look 1 (.look 2 (.look 3 (.run 4 true (.look 5 (.run 6 false .done))))))⟩)
 .ret)))))))))))))))⟩
theorem K_witanref01_twice:chkFun DK Pg Tryz.f180 A_witanref01_twice=true:=by kernel_rfl
theorem B_witanref01_twice {args:List AV} {m:Mem} {K:AV->Mem->Prop} (h:vcFun DK Pg A_witanref01_twice args m K):ACall Pg F_witanref01_twice args m K:=call_body mixed Tryz.func180 (by kernel_rfl) K_witanref01_twice h
noncomputable def A_witanref01_Bit:AFun:=⟨2,21,[.t 4],
 (.seq (.ops [
 oO 2 (.box 1 4 (.t 0)),
 oO 4 (.mv (.c (.int .i64 0)))])
 (.seq (.seq (.ops [
 oM 5 1,
 oO 6 (.bin .lss (.t 5) (.c (.int .i64 0))),
 oM 7 6,
 oG 8 (.mv (.t 1)) 7 false,
 oG 9 (.bin .gtr (.t 8) (.c (.int .i64 255))) 7 false,
 oO 10 (.pick (.t 7) (.c (.bool true)) (.t 9))])
 (.cond (.t 10)
 (.seq (.ops [
 oO 4 (.mv (.c (.int .i64 0)))])
 .ret)
 .skip))
 (.seq (.ops [
 oM 11 1,
 oO 12 (.bin .quo (.t 11) (.c (.int .i64 64))),
 oO 13 (.idxP 4 1 (.t 2) (.t 12)),
 oO 14 (.load 1 false (.t 13)),
 oM 15 1,
 oO 16 (.bin .rem (.t 15) (.c (.int .i64 64))),
 oO 17 (.conv .u64 (.t 16)),
 oO 18 (.bin .shr (.t 14) (.t 17)),
 oO 19 (.bin .and (.t 18) (.c (.int .u64 1))),
 oO 20 (.conv .i64 (.t 19)),
 oM 4 20])
 .ret)))⟩
theorem K_witanref01_Bit:chkFun DK Pg Tryz.f181 A_witanref01_Bit=true:=by kernel_rfl
theorem B_witanref01_Bit {args:List AV} {m:Mem} {K:AV->Mem->Prop} (h:vcFun DK Pg A_witanref01_Bit args m K):ACall Pg F_witanref01_Bit args m K:=call_body mixed Tryz.func181 (by kernel_rfl) K_witanref01_Bit h
noncomputable def A_witanref01_plus:AFun:=⟨2,113,[.cell 4 12 true],
 (.seq (.ops [
 oO 2 (.box 12 1 (.t 0)),
 oO 3 (.box 12 1 (.t 1)),
 oO 4 (.alloc 12 1 (List.replicate 12 (.int .u64 0)))])
 (.seq (.seq (.ops [
 oO 18 (.fldA 8 (.t 2)),
 oO 19 (.load 4 true (.t 18)),
 oO 20 (.build [.int .u64 0,.int .u64 0,.int .u64 0,.int .u64 0] []),
 oO 21 (.eqa [.i,.i,.i,.i] false (.t 19) (.t 20))])
 (.cond (.t 21)
 (.seq (.ops [
 oO 22 (.load 12 true (.t 3)),
 ⟨none,.stA 12 1 12 (.t 4) (.t 22),none⟩])
 .ret)
 .skip))
 (.seq (.seq (.ops [
 oO 23 (.fldA 8 (.t 3)),
 oO 24 (.load 4 true (.t 23)),
 oO 25 (.build [.int .u64 0,.int .u64 0,.int .u64 0,.int .u64 0] []),
 oO 26 (.eqa [.i,.i,.i,.i] false (.t 24) (.t 25))])
 (.cond (.t 26)
 (.seq (.ops [
 oO 27 (.load 12 true (.t 2)),
 ⟨none,.stA 12 1 12 (.t 4) (.t 27),none⟩])
 .ret)
 .skip))
 (.seq (.draw [
 oO 28 (.fldA 8 (.t 2)),
 oO 29 (.load 4 true (.t 28)),
 oO 30 (.fldA 8 (.t 2)),
 oO 31 (.load 4 true (.t 30)),
 oK 32 F_witanref01_mul [.t 29,.t 31],
 oO 33 (.fldA 8 (.t 3)),
 oO 34 (.load 4 true (.t 33)),
 oO 35 (.fldA 8 (.t 3)),
 oO 36 (.load 4 true (.t 35)),
 oK 37 F_witanref01_mul [.t 34,.t 36],
 oO 5 (.alloc 1 4 [.int .u64 0]),
 oO 6 (.alloc 1 4 [.int .u64 0]),
 oS 4 5 32,
 oS 4 6 37] ⟨.all,[(10,some 12),(11,some 13)],.look 0 (.look 1 (.look 2 (.look 3 (.look 5 (.look 6 (.look 7 (.look 8 (.run 4 true (.pre 10 12 (.run 9 true (.pre 11 13 (.fill .done))))))))))))⟩)
 (.seq (.draw [
 oO 38 (.fldA 0 (.t 2)),
 oO 39 (.load 4 true (.t 38)),
 oO 40 (.load 4 true (.t 6)),
 oK 41 F_witanref01_mul [.t 39,.t 40],
 oO 42 (.fldA 0 (.t 3)),
 oO 43 (.load 4 true (.t 42)),
 oO 44 (.load 4 true (.t 5)),
 oK 45 F_witanref01_mul [.t 43,.t 44],
 oO 7 (.alloc 1 4 [.int .u64 0]),
 oO 8 (.alloc 1 4 [.int .u64 0]),
 oS 4 7 41,
 oS 4 8 45] ⟨.all,[(8,some 10),(9,some 11)],.look 0 (.look 1 (.look 2 (.look 4 (.look 5 (.look 6 (.run 3 true (.pre 8 10 (.run 7 true (.pre 9 11 (.fill .done))))))))))⟩)
 (.seq (.draw [
 oO 46 (.fldA 4 (.t 2)),
 oO 47 (.load 4 true (.t 46)),
 oO 48 (.load 4 true (.t 6)),
 oO 49 (.fldA 8 (.t 3)),
 oO 50 (.load 4 true (.t 49)),
 oK 51 F_witanref01_mul [.t 48,.t 50],
 oK 52 F_witanref01_mul [.t 47,.t 51],
 oO 53 (.fldA 4 (.t 3)),
 oO 54 (.load 4 true (.t 53)),
 oO 55 (.load 4 true (.t 5)),
 oO 56 (.fldA 8 (.t 2)),
 oO 57 (.load 4 true (.t 56)),
 oK 58 F_witanref01_mul [.t 55,.t 57],
 oK 59 F_witanref01_mul [.t 54,.t 58],
 oO 9 (.alloc 1 4 [.int .u64 0]),
 oO 10 (.alloc 1 4 [.int .u64 0]),
 oS 4 9 52,
 oS 4 10 59] ⟨.all,[(14,some 16),(15,some 17)],.look 0 (.look 1 (.look 2 (.look 3 (.look 4 (.look 7 (.look 8 (.look 9 (.look 10 (.look 11 (.run 5 true (.run 6 true (.pre 14 16 (.run 12 true (.run 13 true (.pre 15 17 (.fill .done))))))))))))))))⟩)
 (.seq (.draw [
 oO 60 (.load 4 true (.t 8)),
 oO 61 (.load 4 true (.t 7)),
 oK 62 F_witanref01_sub [.t 60,.t 61],
 oO 63 (.load 4 true (.t 10)),
 oO 64 (.load 4 true (.t 9)),
 oK 65 F_witanref01_sub [.t 63,.t 64],
 oO 11 (.alloc 1 4 [.int .u64 0]),
 oO 12 (.alloc 1 4 [.int .u64 0]),
 oS 4 11 62,
 oS 4 12 65] ⟨.all,[(6,some 8),(7,some 9)],.look 0 (.look 1 (.look 3 (.look 4 (.run 2 true (.pre 6 8 (.run 5 true (.pre 7 9 (.fill .done))))))))⟩)
 (.seq (.seq (.ops [
 oO 66 (.load 4 true (.t 11)),
 oO 67 (.build [.int .u64 0,.int .u64 0,.int .u64 0,.int .u64 0] []),
 oO 68 (.eqa [.i,.i,.i,.i] false (.t 66) (.t 67))])
 (.cond (.t 68)
 (.seq (.seq (.ops [
 oO 69 (.load 4 true (.t 12)),
 oO 70 (.build [.int .u64 0,.int .u64 0,.int .u64 0,.int .u64 0] []),
 oO 71 (.eqa [.i,.i,.i,.i] false (.t 69) (.t 70))])
 (.cond (.t 71)
 (.seq (.ops [
 oO 72 (.load 12 true (.t 2)),
 oK 73 F_witanref01_twice [.t 72],
 ⟨none,.stA 12 1 12 (.t 4) (.t 73),none⟩])
 .ret)
 .skip))
 (.seq (.ops [
 oK 74 F_witanref01_Inf [],
 oK 75 F_witanref01_up [.t 74],
 ⟨none,.stA 12 1 12 (.t 4) (.t 75),none⟩])
 .ret))
 .skip))
 (.seq (.ops [
 oO 76 (.load 4 true (.t 11)),
 oO 77 (.load 4 true (.t 11)),
 oK 78 F_witanref01_mul [.t 76,.t 77],
 oO 13 (.alloc 1 4 [.int .u64 0]),
 ⟨none,.stA 1 4 4 (.t 13) (.t 78),none⟩])
 (.seq (.ops [
 oO 79 (.load 4 true (.t 13)),
 oO 80 (.load 4 true (.t 11)),
 oK 81 F_witanref01_mul [.t 79,.t 80],
 oO 14 (.alloc 1 4 [.int .u64 0]),
 ⟨none,.stA 1 4 4 (.t 14) (.t 81),none⟩])
 (.seq (.ops [
 oO 82 (.load 4 true (.t 7)),
 oO 83 (.load 4 true (.t 13)),
 oK 84 F_witanref01_mul [.t 82,.t 83],
 oO 15 (.alloc 1 4 [.int .u64 0]),
 ⟨none,.stA 1 4 4 (.t 15) (.t 84),none⟩])
 (.seq (.draw [
 oO 85 (.load 4 true (.t 12)),
 oO 86 (.load 4 true (.t 12)),
 oK 87 F_witanref01_mul [.t 85,.t 86],
 oO 88 (.load 4 true (.t 14)),
 oK 89 F_witanref01_sub [.t 87,.t 88],
 oO 90 (.load 4 true (.t 15)),
 oO 91 (.load 4 true (.t 15)),
 oK 92 F_witanref01_add [.t 90,.t 91],
 oK 93 F_witanref01_sub [.t 89,.t 92],
 oO 16 (.alloc 1 4 [.int .u64 0]),
 oS 4 16 93] ⟨.all,[(9,some 10)],.look 0 (.look 1 (.look 3 (.look 5 (.look 6 (.run 2 true (.run 4 true (.run 7 true (.run 8 true (.pre 9 10 (.fill .done))))))))))⟩)
 (.seq (.draw [
 oO 94 (.load 4 true (.t 12)),
 oO 95 (.load 4 true (.t 15)),
 oO 96 (.load 4 true (.t 16)),
 oK 97 F_witanref01_sub [.t 95,.t 96],
 oK 98 F_witanref01_mul [.t 94,.t 97],
 oO 99 (.load 4 true (.t 9)),
 oO 100 (.load 4 true (.t 14)),
 oK 101 F_witanref01_mul [.t 99,.t 100],
 oK 102 F_witanref01_sub [.t 98,.t 101],
 oO 17 (.alloc 1 4 [.int .u64 0]),
 oS 4 17 102] ⟨.all,[(9,some 10)],.look 0 (.look 1 (.look 2 (.look 5 (.look 6 (.run 3 true (.run 4 true (.run 7 true (.run 8 true (.pre 9 10 (.fill .done))))))))))⟩)
 (.seq (.draw [
 oO 103 (.load 4 true (.t 16)),
 oO 104 (.load 4 true (.t 17)),
 oO 105 (.load 4 true (.t 11)),
 oO 106 (.fldA 8 (.t 2)),
 oO 107 (.load 4 true (.t 106)),
 oO 108 (.fldA 8 (.t 3)),
 oO 109 (.load 4 true (.t 108)),
 oK 110 F_witanref01_mul [.t 107,.t 109],
 oK 111 F_witanref01_mul [.t 105,.t 110],
 oO 112 (.build (List.replicate 12 (.int .u64 0)) [(0,4,.t 103),(4,4,.t 104),(8,4,.t 111)]),
 ⟨none,.stA 12 1 12 (.t 4) (.t 112),none⟩] ⟨.all,[],.look 0 (.look 1 (.look 2 (.look 3 (.look 4 (.look 5 (.look 6 (.run 7 true (.run 8 true (.look 9 (.run 10 false .done))))))))))⟩)
 .ret))))))))))))))⟩
theorem K_witanref01_plus:chkFun DK Pg Tryz.f182 A_witanref01_plus=true:=by kernel_rfl
theorem B_witanref01_plus {args:List AV} {m:Mem} {K:AV->Mem->Prop} (h:vcFun DK Pg A_witanref01_plus args m K):ACall Pg F_witanref01_plus args m K:=call_body mixed Tryz.func182 (by kernel_rfl) K_witanref01_plus h
noncomputable def A_witanref01_PointBytes:AFun:=⟨1,21,[.t 2],
 (.seq (.ops [
 oO 1 (.box 9 1 (.t 0)),
 oO 2 (.mv (.c (.nils)))])
 (.seq (.seq (.ops [
 oO 5 (.fldA 0 (.t 1)),
 oO 6 (.load 1 false (.t 5))])
 (.cond (.t 6)
 (.seq (.ops [
 oO 7 (.bsl 1 1 [.int .u8 0] [(0,1,.c (.int .u8 0))]),
 oM 2 7])
 .ret)
 .skip))
 (.seq (.ops [
 oO 8 (.fldA 1 (.t 1)),
 oO 9 (.load 4 true (.t 8)),
 oK 10 F_witanref01_Bytes [.t 9],
 oO 3 (.alloc 1 32 [.int .u8 0]),
 oS 32 3 10])
 (.seq (.ops [
 oO 11 (.fldA 5 (.t 1)),
 oO 12 (.idxP 4 1 (.t 11) (.c (.int .i64 0))),
 oO 13 (.load 1 false (.t 12)),
 oO 14 (.bin .and (.t 13) (.c (.int .u64 1))),
 oO 15 (.conv .u8 (.t 14)),
 oO 16 (.bin .add (.c (.int .u8 2)) (.t 15)),
 oO 17 (.bsl 1 1 [.int .u8 0] [(0,1,.t 16)]),
 oM 4 17])
 (.seq (.ops [
 oM 18 4,
 oO 19 (.slarr 32 1 (.t 3) none none none),
 oO 20 (.app 1 1 (.t 18) (.t 19)),
 oM 2 20])
 .ret)))))⟩
theorem K_witanref01_PointBytes:chkFun DK Pg Tryz.f183 A_witanref01_PointBytes=true:=by kernel_rfl
theorem B_witanref01_PointBytes {args:List AV} {m:Mem} {K:AV->Mem->Prop} (h:vcFun DK Pg A_witanref01_PointBytes args m K):ACall Pg F_witanref01_PointBytes args m K:=call_body mixed Tryz.func183 (by kernel_rfl) K_witanref01_PointBytes h
noncomputable def A_witanref01_FSub:AFun:=⟨3,26,[.cell 6 4 true],
 (.seq (.ops [
 oO 4 (.box 1 4 (.t 1)),
 oO 5 (.box 1 4 (.t 2)),
 oO 6 (.alloc 1 4 [.int .u64 0])])
 (.seq (.seq (.ops [
 oM 9 0,
 oK 10 F_witanref01_ok [.t 9],
 oO 11 (.un .not (.t 10))])
 (.cond (.t 11)
 (.seq (.ops [
 oO 12 (.build [.int .u64 0,.int .u64 0,.int .u64 0,.int .u64 0] []),
 ⟨none,.stA 1 4 4 (.t 6) (.t 12),none⟩])
 .ret)
 .skip))
 (.seq (.draw [
 oM 14 0,
 oK 15 F_witanref01_Prime [.t 14],
 oM 16 0,
 oO 17 (.load 4 true (.t 5)),
 oK 18 F_witanref01_Red [.t 16,.t 17],
 oK 19 F_witanref01_Sub [.t 15,.t 18],
 oM 13 19,
 oO 20 (.ext (.t 13) 0),
 oO 21 (.ext (.t 13) 1),
 oO 7 (.alloc 1 4 [.int .u64 0]),
 oS 4 7 20,
 oM 8 21] ⟨.all,[(9,some 10)],.look 0 (.look 2 (.look 3 (.run 1 true (.run 4 true (.run 5 true (.look 6 (.look 7 (.pre 9 10 (.look 8 (.fill (.look 11 .done)))))))))))⟩)
 (.seq (.ops [
 oM 22 0,
 oO 23 (.load 4 true (.t 4)),
 oO 24 (.load 4 true (.t 7)),
 oK 25 F_witanref01_FAdd [.t 22,.t 23,.t 24],
 ⟨none,.stA 1 4 4 (.t 6) (.t 25),none⟩])
 .ret))))⟩
theorem K_witanref01_FSub:chkFun DK Pg Tryz.f184 A_witanref01_FSub=true:=by kernel_rfl
theorem B_witanref01_FSub {args:List AV} {m:Mem} {K:AV->Mem->Prop} (h:vcFun DK Pg A_witanref01_FSub args m K):ACall Pg F_witanref01_FSub args m K:=call_body mixed Tryz.func184 (by kernel_rfl) K_witanref01_FSub h
noncomputable def A_witanref01_FMul:AFun:=⟨3,23,[.cell 6 4 true],
 (.seq (.ops [
 oO 4 (.box 1 4 (.t 1)),
 oO 5 (.box 1 4 (.t 2)),
 oO 6 (.alloc 1 4 [.int .u64 0])])
 (.seq (.seq (.ops [
 oM 9 0,
 oK 10 F_witanref01_ok [.t 9],
 oO 11 (.un .not (.t 10))])
 (.cond (.t 11)
 (.seq (.ops [
 oO 12 (.build [.int .u64 0,.int .u64 0,.int .u64 0,.int .u64 0] []),
 ⟨none,.stA 1 4 4 (.t 6) (.t 12),none⟩])
 .ret)
 .skip))
 (.seq (.ops [
 oO 14 (.load 4 true (.t 4)),
 oO 15 (.load 4 true (.t 5)),
 oK 16 F_witanref01_Mul [.t 14,.t 15],
 oM 13 16,
 oO 17 (.ext (.t 13) 0),
 oO 18 (.ext (.t 13) 1),
 oO 7 (.alloc 1 4 [.int .u64 0]),
 oO 8 (.alloc 1 4 [.int .u64 0]),
 ⟨none,.stA 1 4 4 (.t 7) (.t 17),none⟩,
 ⟨none,.stA 1 4 4 (.t 8) (.t 18),none⟩])
 (.seq (.ops [
 oM 19 0,
 oO 20 (.load 4 true (.t 7)),
 oO 21 (.load 4 true (.t 8)),
 oK 22 F_witanref01_fold [.t 19,.t 20,.t 21],
 ⟨none,.stA 1 4 4 (.t 6) (.t 22),none⟩])
 .ret))))⟩
theorem K_witanref01_FMul:chkFun DK Pg Tryz.f185 A_witanref01_FMul=true:=by kernel_rfl
theorem B_witanref01_FMul {args:List AV} {m:Mem} {K:AV->Mem->Prop} (h:vcFun DK Pg A_witanref01_FMul args m K):ACall Pg F_witanref01_FMul args m K:=call_body mixed Tryz.func185 (by kernel_rfl) K_witanref01_FMul h
noncomputable def A_draw_joined:AFun:=⟨2,53,[.t 4,.t 5],
 (.seq (.ops [
 oO 4 (.mv (.c (.nils))),
 oO 5 (.mv (.c (.bool false)))])
 (.seq (.ops [
 oM 12 0,
 oO 13 (.lens (.t 12)),
 oO 14 (.bin .add (.c (.int .i64 4)) (.t 13)),
 oM 6 14])
 (.seq (.seq (.ops [
 oM 15 1,
 oO 16 (.len (.t 15)),
 oO 17 (.mv (.c (.int .i64 0)))])
 (.block 0
 (.loop
 (.seq (.ops [
 oO 18 (.bin .lss (.t 17) (.t 16))])
 (.seq (.cond (.t 18)
 .skip
 (.exit 0))
 (.seq (.block 1
 (.seq (.ops [
 oO 19 (.idxA 1 (.t 15) (.t 17)),
 oO 20 (.load 1 false (.t 19)),
 oM 8 20])
 (.seq (.seq (.ops [
 oM 21 6,
 oO 22 (.bin .gtr (.t 21) (.c (.int .i64 65536)))])
 (.cond (.t 22)
 (.seq (.ops [
 oO 4 (.mv (.c (.nils))),
 oO 5 (.mv (.c (.bool false)))])
 .ret)
 .skip))
 (.ops [
 oM 23 6,
 oM 24 8,
 oO 25 (.len (.t 24)),
 oO 26 (.bin .add (.c (.int .i64 4)) (.t 25)),
 oO 27 (.bin .add (.t 23) (.t 26)),
 oM 6 27]))))
 (.ops [
 oO 28 (.bin .add (.t 17) (.c (.int .i64 1))),
 oM 17 28])))))))
 (.seq (.seq (.ops [
 oM 29 6,
 oO 30 (.bin .gtr (.t 29) (.c (.int .i64 65536)))])
 (.cond (.t 30)
 (.seq (.ops [
 oO 4 (.mv (.c (.nils))),
 oO 5 (.mv (.c (.bool false)))])
 .ret)
 .skip))
 (.seq (.ops [
 oM 31 0,
 oO 32 (.lens (.t 31)),
 oO 33 (.conv .u64 (.t 32)),
 oK 34 F_draw_number [.t 33,.c (.int .i64 4)],
 oM 35 0,
 oO 36 (.app 1 1 (.t 34) (.t 35)),
 oM 9 36])
 (.seq (.seq (.ops [
 oM 37 1,
 oO 38 (.len (.t 37)),
 oO 39 (.mv (.c (.int .i64 0)))])
 (.block 2
 (.loop
 (.seq (.ops [
 oO 40 (.bin .lss (.t 39) (.t 38))])
 (.seq (.cond (.t 40)
 .skip
 (.exit 2))
 (.seq (.block 3
 (.seq (.ops [
 oO 41 (.idxA 1 (.t 37) (.t 39)),
 oO 42 (.load 1 false (.t 41)),
 oM 11 42])
 (.ops [
 oM 43 9,
 oM 44 11,
 oO 45 (.len (.t 44)),
 oO 46 (.conv .u64 (.t 45)),
 oK 47 F_draw_number [.t 46,.c (.int .i64 4)],
 oO 48 (.app 1 1 (.t 43) (.t 47)),
 oM 49 11,
 oO 50 (.app 1 1 (.t 48) (.t 49)),
 oM 9 50])))
 (.ops [
 oO 51 (.bin .add (.t 39) (.c (.int .i64 1))),
 oM 39 51])))))))
 (.seq (.ops [
 oM 52 9,
 oM 4 52,
 oO 5 (.mv (.c (.bool true)))])
 .ret)))))))⟩
theorem K_draw_joined:chkFun DK Pg Tryz.f187 A_draw_joined=true:=by kernel_rfl
theorem B_draw_joined {args:List AV} {m:Mem} {K:AV->Mem->Prop} (h:vcFun DK Pg A_draw_joined args m K):ACall Pg F_draw_joined args m K:=call_body mixed Tryz.func187 (by kernel_rfl) K_draw_joined h
noncomputable def A_sha_Sum:AFun:=⟨1,201,[.cell 2 32 true],
 (.seq (.ops [
 oO 2 (.alloc 1 32 [.int .u8 0])])
 (.seq (.ops [
 oO 23 (.build [.int .u32 0,.int .u32 0,.int .u32 0,.int .u32 0,.int .u32 0,.int .u32 0,.int .u32 0,.int .u32 0] [(0,1,.c (.int .u32 1779033703)),(1,1,.c (.int .u32 3144134277)),(2,1,.c (.int .u32 1013904242)),(3,1,.c (.int .u32 2773480762)),(4,1,.c (.int .u32 1359893119)),(5,1,.c (.int .u32 2600822924)),(6,1,.c (.int .u32 528734635)),(7,1,.c (.int .u32 1541459225))]),
 oO 3 (.alloc 1 8 [.int .u32 0]),
 oS 8 3 23])
 (.seq (.ops [
 oK 24 F_sha_rounds [],
 oM 4 24])
 (.seq (.seq (.ops [
 oM 25 0,
 oK 26 F_sha_padded [.t 25],
 oM 5 26])
 (.block 0
 (.loop
 (.seq (.seq (.ops [
 oM 27 5,
 oO 28 (.len (.t 27)),
 oO 29 (.bin .gtr (.t 28) (.c (.int .i64 0)))])
 (.cond (.t 29)
 .skip
 (.exit 0)))
 (.seq (.block 1
 (.seq (.ops [
 oO 6 (.alloc 1 64 [.int .u32 0])])
 (.seq (.seq (.ops [
 oO 32 (.mv (.c (.int .i64 0)))])
 (.block 2
 (.loop
 (.seq (.ops [
 oO 33 (.bin .lss (.t 32) (.c (.int .i64 64)))])
 (.seq (.cond (.t 33)
 .skip
 (.exit 2))
 (.seq (.block 3
 (.seq (.ops [
 oM 34 32,
 oM 7 34])
 (.seq (.seq (.ops [
 oM 35 7,
 oO 36 (.bin .lss (.t 35) (.c (.int .i64 16)))])
 (.cond (.t 36)
 (.seq (.ops [
 oM 37 7,
 oM 38 5,
 oM 39 7,
 oO 40 (.bin .mul (.c (.int .i64 4)) (.t 39)),
 oM 41 7,
 oO 42 (.bin .mul (.c (.int .i64 4)) (.t 41)),
 oO 43 (.bin .add (.t 42) (.c (.int .i64 4))),
 oO 44 (.slice 1 (.t 38) (some (.t 40)) (some (.t 43)) none),
 oK 45 F_sha_high [.t 44],
 oO 46 (.conv .u32 (.t 45)),
 oO 47 (.idxP 64 1 (.t 6) (.t 37)),
 oS 1 47 46])
 (.exit 3))
 .skip))
 (.seq (.draw [
 oM 48 7,
 oO 49 (.bin .sub (.t 48) (.c (.int .i64 15))),
 oO 50 (.idxP 64 1 (.t 6) (.t 49)),
 oO 51 (.load 1 false (.t 50)),
 oM 52 7,
 oO 53 (.bin .sub (.t 52) (.c (.int .i64 2))),
 oO 54 (.idxP 64 1 (.t 6) (.t 53)),
 oO 55 (.load 1 false (.t 54)),
 oM 8 51,
 oM 9 55] ⟨.no,[],.flat⟩)
 (.seq (.ops [
 oM 56 8,
 oK 57 F_bits_RotateLeft32 [.t 56,.c (.int .i64 (-7))],
 oM 58 8,
 oK 59 F_bits_RotateLeft32 [.t 58,.c (.int .i64 (-18))],
 oO 60 (.bin .xor (.t 57) (.t 59)),
 oM 61 8,
 oO 62 (.bin .shr (.t 61) (.c (.int .u64 3))),
 oO 63 (.bin .xor (.t 60) (.t 62)),
 oM 10 63])
 (.seq (.ops [
 oM 64 9,
 oK 65 F_bits_RotateLeft32 [.t 64,.c (.int .i64 (-17))],
 oM 66 9,
 oK 67 F_bits_RotateLeft32 [.t 66,.c (.int .i64 (-19))],
 oO 68 (.bin .xor (.t 65) (.t 67)),
 oM 69 9,
 oO 70 (.bin .shr (.t 69) (.c (.int .u64 10))),
 oO 71 (.bin .xor (.t 68) (.t 70)),
 oM 11 71])
 (.draw [
 oM 72 7,
 oM 73 7,
 oO 74 (.bin .sub (.t 73) (.c (.int .i64 16))),
 oO 75 (.idxP 64 1 (.t 6) (.t 74)),
 oO 76 (.load 1 false (.t 75)),
 oM 77 10,
 oO 78 (.bin .add (.t 76) (.t 77)),
 oM 79 7,
 oO 80 (.bin .sub (.t 79) (.c (.int .i64 7))),
 oO 81 (.idxP 64 1 (.t 6) (.t 80)),
 oO 82 (.load 1 false (.t 81)),
 oO 83 (.bin .add (.t 78) (.t 82)),
 oM 84 11,
 oO 85 (.bin .add (.t 83) (.t 84)),
 oO 86 (.idxP 64 1 (.t 6) (.t 72)),
 oS 1 86 85] ⟨.all,[],.look 0 (.look 1 (.look 2 (.look 3 (.look 4 (.look 5 (.look 6 (.look 7 (.look 8 (.look 9 (.look 10 (.look 11 (.look 12 (.look 13 (.look 14 (.run 15 false .done)))))))))))))))⟩)))))))
 (.ops [
 oO 87 (.bin .add (.t 32) (.c (.int .i64 1))),
 oM 32 87])))))))
 (.seq (.ops [
 oO 88 (.load 8 true (.t 3)),
 oO 12 (.alloc 1 8 [.int .u32 0]),
 oS 8 12 88])
 (.seq (.seq (.ops [
 oO 89 (.mv (.c (.int .i64 0)))])
 (.block 4
 (.loop
 (.seq (.ops [
 oO 90 (.bin .lss (.t 89) (.c (.int .i64 64)))])
 (.seq (.cond (.t 90)
 .skip
 (.exit 4))
 (.seq (.block 5
 (.seq (.ops [
 oM 91 89,
 oM 13 91])
 (.seq (.draw [
 oO 92 (.idxP 8 1 (.t 12) (.c (.int .i64 4))),
 oO 93 (.load 1 false (.t 92)),
 oO 94 (.idxP 8 1 (.t 12) (.c (.int .i64 0))),
 oO 95 (.load 1 false (.t 94)),
 oM 14 93,
 oM 15 95] ⟨.no,[],.flat⟩)
 (.seq (.ops [
 oM 96 14,
 oK 97 F_bits_RotateLeft32 [.t 96,.c (.int .i64 (-6))],
 oM 98 14,
 oK 99 F_bits_RotateLeft32 [.t 98,.c (.int .i64 (-11))],
 oO 100 (.bin .xor (.t 97) (.t 99)),
 oM 101 14,
 oK 102 F_bits_RotateLeft32 [.t 101,.c (.int .i64 (-25))],
 oO 103 (.bin .xor (.t 100) (.t 102)),
 oM 16 103])
 (.seq (.draw [
 oO 104 (.idxP 8 1 (.t 12) (.c (.int .i64 7))),
 oO 105 (.load 1 false (.t 104)),
 oM 106 16,
 oO 107 (.bin .add (.t 105) (.t 106)),
 oM 108 14,
 oO 109 (.idxP 8 1 (.t 12) (.c (.int .i64 5))),
 oO 110 (.load 1 false (.t 109)),
 oO 111 (.bin .and (.t 108) (.t 110)),
 oM 112 14,
 oO 113 (.un .xor (.t 112)),
 oO 114 (.idxP 8 1 (.t 12) (.c (.int .i64 6))),
 oO 115 (.load 1 false (.t 114)),
 oO 116 (.bin .and (.t 113) (.t 115)),
 oO 117 (.bin .xor (.t 111) (.t 116)),
 oO 118 (.bin .add (.t 107) (.t 117)),
 oM 119 4,
 oM 120 13,
 oO 121 (.idxA 1 (.t 119) (.t 120)),
 oO 122 (.load 1 false (.t 121)),
 oO 123 (.bin .add (.t 118) (.t 122)),
 oM 124 13,
 oO 125 (.idxP 64 1 (.t 6) (.t 124)),
 oO 126 (.load 1 false (.t 125)),
 oO 127 (.bin .add (.t 123) (.t 126)),
 oM 17 127] ⟨.no,[],.flat⟩)
 (.seq (.ops [
 oM 128 15,
 oK 129 F_bits_RotateLeft32 [.t 128,.c (.int .i64 (-2))],
 oM 130 15,
 oK 131 F_bits_RotateLeft32 [.t 130,.c (.int .i64 (-13))],
 oO 132 (.bin .xor (.t 129) (.t 131)),
 oM 133 15,
 oK 134 F_bits_RotateLeft32 [.t 133,.c (.int .i64 (-22))],
 oO 135 (.bin .xor (.t 132) (.t 134)),
 oM 18 135])
 (.seq (.ops [
 oM 136 18,
 oM 137 15,
 oO 138 (.idxP 8 1 (.t 12) (.c (.int .i64 1))),
 oO 139 (.load 1 false (.t 138)),
 oO 140 (.bin .and (.t 137) (.t 139)),
 oM 141 15,
 oO 142 (.idxP 8 1 (.t 12) (.c (.int .i64 2))),
 oO 143 (.load 1 false (.t 142)),
 oO 144 (.bin .and (.t 141) (.t 143)),
 oO 145 (.bin .xor (.t 140) (.t 144)),
 oO 146 (.idxP 8 1 (.t 12) (.c (.int .i64 1))),
 oO 147 (.load 1 false (.t 146)),
 oO 148 (.idxP 8 1 (.t 12) (.c (.int .i64 2))),
 oO 149 (.load 1 false (.t 148)),
 oO 150 (.bin .and (.t 147) (.t 149)),
 oO 151 (.bin .xor (.t 145) (.t 150)),
 oO 152 (.bin .add (.t 136) (.t 151)),
 oM 19 152])
 (.ops [
 oM 153 17,
 oM 154 19,
 oO 155 (.bin .add (.t 153) (.t 154)),
 oM 156 15,
 oO 157 (.idxP 8 1 (.t 12) (.c (.int .i64 1))),
 oO 158 (.load 1 false (.t 157)),
 oO 159 (.idxP 8 1 (.t 12) (.c (.int .i64 2))),
 oO 160 (.load 1 false (.t 159)),
 oO 161 (.idxP 8 1 (.t 12) (.c (.int .i64 3))),
 oO 162 (.load 1 false (.t 161)),
 oM 163 17,
 oO 164 (.bin .add (.t 162) (.t 163)),
 oM 165 14,
 oO 166 (.idxP 8 1 (.t 12) (.c (.int .i64 5))),
 oO 167 (.load 1 false (.t 166)),
 oO 168 (.idxP 8 1 (.t 12) (.c (.int .i64 6))),
 oO 169 (.load 1 false (.t 168)),
 oO 170 (.build [.int .u32 0,.int .u32 0,.int .u32 0,.int .u32 0,.int .u32 0,.int .u32 0,.int .u32 0,.int .u32 0] [(0,1,.t 155),(1,1,.t 156),(2,1,.t 158),(3,1,.t 160),(4,1,.t 164),(5,1,.t 165),(6,1,.t 167),(7,1,.t 169)]),
 oS 8 12 170]))))))))
 (.ops [
 oO 171 (.bin .add (.t 89) (.c (.int .i64 1))),
 oM 89 171])))))))
 (.seq (.ops [
 oO 172 (.mv (.c (.int .i64 0)))])
 (.block 6
 (.loop
 (.seq (.ops [
 oO 173 (.bin .lss (.t 172) (.c (.int .i64 8)))])
 (.seq (.cond (.t 173)
 .skip
 (.exit 6))
 (.seq (.block 7
 (.seq (.ops [
 oM 174 172,
 oM 20 174])
 (.draw [
 oM 175 20,
 oO 176 (.idxP 8 1 (.t 3) (.t 175)),
 oO 177 (.load 1 false (.t 176)),
 oM 178 20,
 oO 179 (.idxP 8 1 (.t 12) (.t 178)),
 oO 180 (.load 1 false (.t 179)),
 oO 181 (.bin .add (.t 177) (.t 180)),
 oO 182 (.idxP 8 1 (.t 3) (.t 175)),
 oS 1 182 181] ⟨.all,[],.look 0 (.look 1 (.look 2 (.look 3 (.look 4 (.look 5 (.look 6 (.look 7 (.run 8 false .done))))))))⟩)))
 (.ops [
 oO 183 (.bin .add (.t 172) (.c (.int .i64 1))),
 oM 172 183]))))))))))))
 (.ops [
 oM 30 5,
 oO 31 (.slice 1 (.t 30) (some (.c (.int .i64 64))) none none),
 oM 5 31]))))))
 (.seq (.ops [
 oO 21 (.alloc 1 32 [.int .u8 0])])
 (.seq (.seq (.ops [
 oO 184 (.mv (.c (.int .i64 0)))])
 (.block 8
 (.loop
 (.seq (.ops [
 oO 185 (.bin .lss (.t 184) (.c (.int .i64 32)))])
 (.seq (.cond (.t 185)
 .skip
 (.exit 8))
 (.seq (.block 9
 (.seq (.ops [
 oM 186 184,
 oM 22 186])
 (.ops [
 oM 187 22,
 oM 188 22,
 oO 189 (.bin .quo (.t 188) (.c (.int .i64 4))),
 oO 190 (.idxP 8 1 (.t 3) (.t 189)),
 oO 191 (.load 1 false (.t 190)),
 oM 192 22,
 oO 193 (.bin .rem (.t 192) (.c (.int .i64 4))),
 oO 194 (.bin .mul (.c (.int .i64 8)) (.t 193)),
 oO 195 (.bin .sub (.c (.int .i64 24)) (.t 194)),
 oO 196 (.bin .shr (.t 191) (.t 195)),
 oO 197 (.conv .u8 (.t 196)),
 oO 198 (.idxP 32 1 (.t 21) (.t 187)),
 oS 1 198 197])))
 (.ops [
 oO 199 (.bin .add (.t 184) (.c (.int .i64 1))),
 oM 184 199])))))))
 (.seq (.ops [
 oO 200 (.load 32 true (.t 21)),
 oS 32 2 200])
 .ret)))))))⟩
theorem K_sha_Sum:chkFun DK Pg Tryz.f188 A_sha_Sum=true:=by kernel_rfl
theorem B_sha_Sum {args:List AV} {m:Mem} {K:AV->Mem->Prop} (h:vcFun DK Pg A_sha_Sum args m K):ACall Pg F_sha_Sum args m K:=call_body mixed Tryz.func188 (by kernel_rfl) K_sha_Sum h
noncomputable def A_draw_with:AFun:=⟨2,10,[.t 4],
 (.seq (.ops [
 oO 4 (.mv (.c (.nils)))])
 (.seq (.ops [
 oO 5 (.bsl 1 0 [.int .u8 0] []),
 oM 6 0,
 oO 7 (.app 1 1 (.t 5) (.t 6)),
 oM 8 1,
 oO 9 (.app 1 1 (.t 7) (.t 8)),
 oM 4 9])
 .ret))⟩
theorem K_draw_with:chkFun DK Pg Tryz.f189 A_draw_with=true:=by kernel_rfl
theorem B_draw_with {args:List AV} {m:Mem} {K:AV->Mem->Prop} (h:vcFun DK Pg A_draw_with args m K):ACall Pg F_draw_with args m K:=call_body mixed Tryz.func189 (by kernel_rfl) K_draw_with h
noncomputable def A_limb_Mod:AFun:=⟨3,57,[.cell 6 4 true,.t 7],
 (.seq (.ops [
 oO 3 (.box 1 4 (.t 0)),
 oO 4 (.box 1 4 (.t 1)),
 oO 5 (.box 1 4 (.t 2)),
 oO 6 (.alloc 1 4 [.int .u64 0]),
 oO 7 (.mv (.c (.int .i64 0)))])
 (.seq (.seq (.ops [
 oO 12 (.load 4 true (.t 5)),
 oO 13 (.build [.int .u64 0,.int .u64 0,.int .u64 0,.int .u64 0] []),
 oO 14 (.eqa [.i,.i,.i,.i] false (.t 12) (.t 13))])
 (.cond (.t 14)
 (.seq (.ops [
 oO 15 (.build [.int .u64 0,.int .u64 0,.int .u64 0,.int .u64 0] []),
 ⟨none,.stA 1 4 4 (.t 6) (.t 15),none⟩,
 oO 7 (.mv (.c (.int .i64 1)))])
 .ret)
 .skip))
 (.seq (.ops [
 oO 8 (.alloc 1 4 [.int .u64 0])])
 (.seq (.seq (.ops [
 oO 9 (.mv (.c (.int .i64 511)))])
 (.block 0
 (.loop
 (.seq (.seq (.ops [
 oM 16 9,
 oO 17 (.bin .geq (.t 16) (.c (.int .i64 0)))])
 (.cond (.t 17)
 .skip
 (.exit 0)))
 (.seq (.block 1
 (.seq (.ops [
 oO 20 (.load 4 true (.t 4)),
 oO 10 (.alloc 1 4 [.int .u64 0]),
 ⟨none,.stA 1 4 4 (.t 10) (.t 20),none⟩])
 (.seq (.seq (.ops [
 oM 21 9,
 oO 22 (.bin .geq (.t 21) (.c (.int .i64 256)))])
 (.cond (.t 22)
 (.ops [
 oO 23 (.load 4 true (.t 3)),
 ⟨none,.stA 1 4 4 (.t 10) (.t 23),none⟩])
 .skip))
 (.seq (.ops [
 oO 24 (.idxP 4 1 (.t 8) (.c (.int .i64 3))),
 oO 25 (.load 1 false (.t 24)),
 oO 26 (.bin .shr (.t 25) (.c (.int .u64 63))),
 oM 11 26])
 (.seq (.ops [
 oO 28 (.load 4 true (.t 8)),
 oO 29 (.load 4 true (.t 8)),
 oK 30 F_limb_Add [.t 28,.t 29],
 oM 27 30,
 oO 31 (.ext (.t 27) 0),
 oO 32 (.ext (.t 27) 1),
 ⟨none,.stA 1 4 4 (.t 8) (.t 31),none⟩])
 (.seq (.draw [
 oO 33 (.idxP 4 1 (.t 8) (.c (.int .i64 0))),
 oO 34 (.load 1 false (.t 33)),
 oO 35 (.load 4 true (.t 10)),
 oM 36 9,
 oO 37 (.bin .rem (.t 36) (.c (.int .i64 256))),
 oK 38 F_limb_Bit [.t 35,.t 37],
 oO 39 (.conv .u64 (.t 38)),
 oO 40 (.bin .or (.t 34) (.t 39)),
 oO 41 (.idxP 4 1 (.t 8) (.c (.int .i64 0))),
 oS 1 41 40] ⟨.all,[],.look 0 (.look 1 (.look 2 (.look 3 (.look 4 (.run 5 true (.look 6 (.look 7 (.look 8 (.run 9 false .done)))))))))⟩)
 (.seq (.ops [
 oM 42 11,
 oO 43 (.bin .eql (.t 42) (.c (.int .u64 1))),
 oM 44 43,
 oG 45 (.load 4 true (.t 8)) 44 false,
 oG 46 (.load 4 true (.t 5)) 44 false,
 oG 47 (.call (.c (.fn F_limb_Cmp [])) [.t 45,.t 46]) 44 false,
 oG 48 (.bin .geq (.t 47) (.c (.int .i64 0))) 44 false,
 oO 49 (.pick (.t 44) (.c (.bool true)) (.t 48))])
 (.cond (.t 49)
 (.ops [
 oO 51 (.load 4 true (.t 8)),
 oO 52 (.load 4 true (.t 5)),
 oK 53 F_limb_Sub [.t 51,.t 52],
 oM 50 53,
 oO 54 (.ext (.t 50) 0),
 oO 55 (.ext (.t 50) 1),
 ⟨none,.stA 1 4 4 (.t 8) (.t 54),none⟩])
 .skip))))))))
 (.ops [
 oM 18 9,
 oO 19 (.bin .sub (.t 18) (.c (.int .i64 1))),
 oM 9 19]))))))
 (.seq (.ops [
 oO 56 (.load 4 true (.t 8)),
 ⟨none,.stA 1 4 4 (.t 6) (.t 56),none⟩,
 oO 7 (.mv (.c (.int .i64 0)))])
 .ret)))))⟩
theorem K_limb_Mod:chkFun DK Pg Tryz.f190 A_limb_Mod=true:=by kernel_rfl
theorem B_limb_Mod {args:List AV} {m:Mem} {K:AV->Mem->Prop} (h:vcFun DK Pg A_limb_Mod args m K):ACall Pg F_limb_Mod args m K:=call_body mixed Tryz.func190 (by kernel_rfl) K_limb_Mod h
noncomputable def A_draw_Point:AFun:=⟨2,46,[.cell 4 9 true,.t 5,.t 6],
 (.seq (.ops [
 oO 4 (.alloc 9 1 [.bool false,.int .u64 0,.int .u64 0,.int .u64 0,.int .u64 0,.int .u64 0,.int .u64 0,.int .u64 0,.int .u64 0]),
 oO 5 (.mv (.c (.int .i64 0))),
 oO 6 (.mv (.c (.int .i64 0)))])
 (.seq (.ops [
 oM 14 0,
 oM 15 1,
 oO 16 (.bsl 1 1 [.nils] [(0,1,.t 15)]),
 oK 17 F_draw_joined [.t 14,.t 16],
 oM 13 17,
 oO 18 (.ext (.t 13) 0),
 oO 19 (.ext (.t 13) 1),
 oM 7 18,
 oM 8 19])
 (.seq (.seq (.ops [
 oM 20 8,
 oO 21 (.un .not (.t 20))])
 (.cond (.t 21)
 (.seq (.ops [
 oO 22 (.build [.bool false,.int .u64 0,.int .u64 0,.int .u64 0,.int .u64 0,.int .u64 0,.int .u64 0,.int .u64 0,.int .u64 0] []),
 ⟨none,.stA 9 1 9 (.t 4) (.t 22),none⟩,
 oO 5 (.mv (.c (.int .i64 0))),
 oO 6 (.mv (.c (.int .i64 4)))])
 .ret)
 .skip))
 (.seq (.seq (.ops [
 oO 23 (.mv (.c (.int .i64 0)))])
 (.block 0
 (.loop
 (.seq (.ops [
 oO 24 (.bin .lss (.t 23) (.c (.int .i64 256)))])
 (.seq (.cond (.t 24)
 .skip
 (.exit 0))
 (.seq (.block 1
 (.seq (.ops [
 oM 25 23,
 oM 9 25])
 (.seq (.ops [
 oM 26 7,
 oM 27 9,
 oO 28 (.conv .u64 (.t 27)),
 oK 29 F_draw_number [.t 28,.c (.int .i64 4)],
 oK 30 F_draw_with [.t 26,.t 29],
 oK 31 F_sha_Sum [.t 30],
 oO 10 (.alloc 1 32 [.int .u8 0]),
 oS 32 10 31])
 (.seq (.ops [
 oO 33 (.bsl 1 1 [.int .u8 0] [(0,1,.c (.int .u8 2))]),
 oO 34 (.slarr 32 1 (.t 10) none none none),
 oO 35 (.app 1 1 (.t 33) (.t 34)),
 oK 36 F_curve_Read [.t 35],
 oM 32 36,
 oO 37 (.ext (.t 32) 0),
 oO 38 (.ext (.t 32) 1),
 oO 11 (.alloc 9 1 [.bool false,.int .u64 0,.int .u64 0,.int .u64 0,.int .u64 0,.int .u64 0,.int .u64 0,.int .u64 0,.int .u64 0]),
 ⟨none,.stA 9 1 9 (.t 11) (.t 37),none⟩,
 oM 12 38])
 (.seq (.ops [
 oM 39 12,
 oO 40 (.bin .eql (.t 39) (.c (.int .i64 0)))])
 (.cond (.t 40)
 (.seq (.ops [
 oO 41 (.load 9 true (.t 11)),
 oM 42 9,
 oO 43 (.bin .add (.t 42) (.c (.int .i64 1))),
 ⟨none,.stA 9 1 9 (.t 4) (.t 41),none⟩,
 oM 5 43,
 oO 6 (.mv (.c (.int .i64 0)))])
 .ret)
 .skip))))))
 (.ops [
 oO 44 (.bin .add (.t 23) (.c (.int .i64 1))),
 oM 23 44])))))))
 (.seq (.ops [
 oO 45 (.build [.bool false,.int .u64 0,.int .u64 0,.int .u64 0,.int .u64 0,.int .u64 0,.int .u64 0,.int .u64 0,.int .u64 0] []),
 ⟨none,.stA 9 1 9 (.t 4) (.t 45),none⟩,
 oO 5 (.mv (.c (.int .i64 0))),
 oO 6 (.mv (.c (.int .i64 5)))])
 .ret)))))⟩
theorem K_draw_Point:chkFun DK Pg Tryz.f192 A_draw_Point=true:=by kernel_rfl
theorem B_draw_Point {args:List AV} {m:Mem} {K:AV->Mem->Prop} (h:vcFun DK Pg A_draw_Point args m K):ACall Pg F_draw_Point args m K:=call_body mixed Tryz.func192 (by kernel_rfl) K_draw_Point h
noncomputable def A_field_Sub:AFun:=⟨3,32,[.cell 6 4 true],
 (.seq (.ops [
 oO 4 (.box 1 4 (.t 1)),
 oO 5 (.box 1 4 (.t 2)),
 oO 6 (.alloc 1 4 [.int .u64 0])])
 (.seq (.ops [
 oM 12 0,
 oK 13 F_field_less [.t 12],
 oM 11 13,
 oO 14 (.ext (.t 11) 0),
 oO 15 (.ext (.t 11) 1),
 oO 7 (.alloc 1 4 [.int .u64 0]),
 ⟨none,.stA 1 4 4 (.t 7) (.t 14),none⟩,
 oM 8 15])
 (.seq (.seq (.ops [
 oM 16 8,
 oO 17 (.un .not (.t 16))])
 (.cond (.t 17)
 (.seq (.ops [
 oO 18 (.build [.int .u64 0,.int .u64 0,.int .u64 0,.int .u64 0] []),
 ⟨none,.stA 1 4 4 (.t 6) (.t 18),none⟩])
 .ret)
 .skip))
 (.seq (.draw [
 oM 20 0,
 oK 21 F_field_Prime [.t 20],
 oM 22 0,
 oO 23 (.load 4 true (.t 5)),
 oK 24 F_field_Red [.t 22,.t 23],
 oK 25 F_limb_Sub [.t 21,.t 24],
 oM 19 25,
 oO 26 (.ext (.t 19) 0),
 oO 27 (.ext (.t 19) 1),
 oO 9 (.alloc 1 4 [.int .u64 0]),
 oS 4 9 26,
 oM 10 27] ⟨.all,[(9,some 10)],.look 0 (.look 2 (.look 3 (.run 1 true (.run 4 true (.run 5 true (.look 6 (.look 7 (.pre 9 10 (.look 8 (.fill (.look 11 .done)))))))))))⟩)
 (.seq (.ops [
 oM 28 0,
 oO 29 (.load 4 true (.t 4)),
 oO 30 (.load 4 true (.t 9)),
 oK 31 F_field_Add [.t 28,.t 29,.t 30],
 ⟨none,.stA 1 4 4 (.t 6) (.t 31),none⟩])
 .ret)))))⟩
theorem K_field_Sub:chkFun DK Pg Tryz.f193 A_field_Sub=true:=by kernel_rfl
theorem B_field_Sub {args:List AV} {m:Mem} {K:AV->Mem->Prop} (h:vcFun DK Pg A_field_Sub args m K):ACall Pg F_field_Sub args m K:=call_body mixed Tryz.func193 (by kernel_rfl) K_field_Sub h
noncomputable def A_field_Mul:AFun:=⟨3,29,[.cell 6 4 true],
 (.seq (.ops [
 oO 4 (.box 1 4 (.t 1)),
 oO 5 (.box 1 4 (.t 2)),
 oO 6 (.alloc 1 4 [.int .u64 0])])
 (.seq (.ops [
 oM 12 0,
 oK 13 F_field_less [.t 12],
 oM 11 13,
 oO 14 (.ext (.t 11) 0),
 oO 15 (.ext (.t 11) 1),
 oO 7 (.alloc 1 4 [.int .u64 0]),
 ⟨none,.stA 1 4 4 (.t 7) (.t 14),none⟩,
 oM 8 15])
 (.seq (.seq (.ops [
 oM 16 8,
 oO 17 (.un .not (.t 16))])
 (.cond (.t 17)
 (.seq (.ops [
 oO 18 (.build [.int .u64 0,.int .u64 0,.int .u64 0,.int .u64 0] []),
 ⟨none,.stA 1 4 4 (.t 6) (.t 18),none⟩])
 .ret)
 .skip))
 (.seq (.ops [
 oO 20 (.load 4 true (.t 4)),
 oO 21 (.load 4 true (.t 5)),
 oK 22 F_limb_Mul [.t 20,.t 21],
 oM 19 22,
 oO 23 (.ext (.t 19) 0),
 oO 24 (.ext (.t 19) 1),
 oO 9 (.alloc 1 4 [.int .u64 0]),
 oO 10 (.alloc 1 4 [.int .u64 0]),
 ⟨none,.stA 1 4 4 (.t 9) (.t 23),none⟩,
 ⟨none,.stA 1 4 4 (.t 10) (.t 24),none⟩])
 (.seq (.ops [
 oO 25 (.load 4 true (.t 9)),
 oO 26 (.load 4 true (.t 10)),
 oO 27 (.load 4 true (.t 7)),
 oK 28 F_field_fold [.t 25,.t 26,.t 27],
 ⟨none,.stA 1 4 4 (.t 6) (.t 28),none⟩])
 .ret)))))⟩
theorem K_field_Mul:chkFun DK Pg Tryz.f194 A_field_Mul=true:=by kernel_rfl
theorem B_field_Mul {args:List AV} {m:Mem} {K:AV->Mem->Prop} (h:vcFun DK Pg A_field_Mul args m K):ACall Pg F_field_Mul args m K:=call_body mixed Tryz.func194 (by kernel_rfl) K_field_Mul h
noncomputable def A_witanref04_Point:AFun:=⟨2,48,[.cell 4 9 true,.t 5,.t 6],
 (.seq (.ops [
 oO 4 (.alloc 9 1 [.bool false,.int .u64 0,.int .u64 0,.int .u64 0,.int .u64 0,.int .u64 0,.int .u64 0,.int .u64 0,.int .u64 0]),
 oO 5 (.mv (.c (.int .i64 0))),
 oO 6 (.mv (.c (.int .i64 0)))])
 (.seq (.ops [
 oM 14 0,
 oM 15 1,
 oO 16 (.bsl 1 1 [.nils] [(0,1,.t 15)]),
 oK 17 F_witanref04_Joined [.t 14,.t 16],
 oM 13 17,
 oO 18 (.ext (.t 13) 0),
 oO 19 (.ext (.t 13) 1),
 oM 7 18,
 oM 8 19])
 (.seq (.seq (.ops [
 oM 20 8,
 oO 21 (.un .not (.t 20))])
 (.cond (.t 21)
 (.seq (.ops [
 oO 22 (.build [.bool false,.int .u64 0,.int .u64 0,.int .u64 0,.int .u64 0,.int .u64 0,.int .u64 0,.int .u64 0,.int .u64 0] []),
 oS 9 4 22,
 oO 5 (.mv (.c (.int .i64 0))),
 oO 6 (.mv (.c (.int .i64 4)))])
 .ret)
 .skip))
 (.seq (.seq (.ops [
 oO 9 (.mv (.c (.int .i64 0)))])
 (.block 0
 (.loop
 (.seq (.seq (.ops [
 oM 23 9,
 oO 24 (.bin .lss (.t 23) (.c (.int .i64 256)))])
 (.cond (.t 24)
 .skip
 (.exit 0)))
 (.seq (.block 1
 (.seq (.ops [
 oM 27 7,
 oM 28 9,
 oO 29 (.conv .u64 (.t 28)),
 oK 30 F_witanref04_be [.t 29,.c (.int .i64 4)],
 oO 31 (.bsl 1 2 [.nils] [(0,1,.t 27),(1,1,.t 30)]),
 oK 32 F_witanref04_join [.t 31],
 oK 33 F_witanref04_Sum256 [.t 32],
 oO 10 (.alloc 1 32 [.int .u8 0]),
 oS 32 10 33])
 (.seq (.ops [
 oO 35 (.bsl 1 1 [.int .u8 0] [(0,1,.c (.int .u8 2))]),
 oO 36 (.slarr 32 1 (.t 10) none none none),
 oO 37 (.bsl 1 2 [.nils] [(0,1,.t 35),(1,1,.t 36)]),
 oK 38 F_witanref04_join [.t 37],
 oK 39 F_witanref01_ReadPoint [.t 38],
 oM 34 39,
 oO 40 (.ext (.t 34) 0),
 oO 41 (.ext (.t 34) 1),
 oO 11 (.alloc 9 1 [.bool false,.int .u64 0,.int .u64 0,.int .u64 0,.int .u64 0,.int .u64 0,.int .u64 0,.int .u64 0,.int .u64 0]),
 oS 9 11 40,
 oM 12 41])
 (.seq (.ops [
 oM 42 12,
 oO 43 (.bin .eql (.t 42) (.c (.int .i64 0)))])
 (.cond (.t 43)
 (.seq (.ops [
 oO 44 (.load 9 true (.t 11)),
 oM 45 9,
 oO 46 (.bin .add (.t 45) (.c (.int .i64 1))),
 oS 9 4 44,
 oM 5 46,
 oO 6 (.mv (.c (.int .i64 0)))])
 .ret)
 .skip)))))
 (.ops [
 oM 25 9,
 oO 26 (.bin .add (.t 25) (.c (.int .i64 1))),
 oM 9 26]))))))
 (.seq (.ops [
 oO 47 (.build [.bool false,.int .u64 0,.int .u64 0,.int .u64 0,.int .u64 0,.int .u64 0,.int .u64 0,.int .u64 0,.int .u64 0] []),
 oS 9 4 47,
 oO 5 (.mv (.c (.int .i64 0))),
 oO 6 (.mv (.c (.int .i64 5)))])
 .ret)))))⟩
theorem K_witanref04_Point:chkFun DK Pg Tryz.f195 A_witanref04_Point=true:=by kernel_rfl
theorem B_witanref04_Point {args:List AV} {m:Mem} {K:AV->Mem->Prop} (h:vcFun DK Pg A_witanref04_Point args m K):ACall Pg F_witanref04_Point args m K:=call_body mixed Tryz.func195 (by kernel_rfl) K_witanref04_Point h
noncomputable def A_act_point:AFun:=⟨1,11,[.t 2],
 (.seq (.ops [
 oO 1 (.box 9 1 (.t 0)),
 oO 2 (.mv (.c (.bool false)))])
 (.seq (.ops [
 oO 3 (.fldA 0 (.t 1)),
 oO 4 (.load 1 false (.t 3)),
 oO 5 (.un .not (.t 4)),
 oM 6 5,
 oG 7 (.load 9 true (.t 1)) 6 true,
 oG 8 (.call (.c (.fn F_curve_Check [])) [.t 7]) 6 true,
 oG 9 (.bin .eql (.t 8) (.c (.int .i64 0))) 6 true,
 oO 10 (.pick (.t 6) (.t 9) (.c (.bool false))),
 oM 2 10])
 .ret))⟩
theorem K_act_point:chkFun DK Pg Tryz.f196 A_act_point=true:=by kernel_rfl
theorem B_act_point {args:List AV} {m:Mem} {K:AV->Mem->Prop} (h:vcFun DK Pg A_act_point args m K):ACall Pg F_act_point args m K:=call_body mixed Tryz.func196 (by kernel_rfl) K_act_point h
noncomputable def A_act_proof:AFun:=⟨1,17,[.t 2],
 (.seq (.ops [
 oO 1 (.box 8 1 (.t 0)),
 oO 2 (.mv (.c (.bool false)))])
 (.seq (.ops [
 oK 4 F_field_Prime [.c (.int .i64 1)],
 oO 3 (.alloc 1 4 [.int .u64 0]),
 ⟨none,.stA 1 4 4 (.t 3) (.t 4),none⟩])
 (.seq (.ops [
 oO 5 (.fldA 0 (.t 1)),
 oO 6 (.load 4 true (.t 5)),
 oO 7 (.load 4 true (.t 3)),
 oK 8 F_limb_Cmp [.t 6,.t 7],
 oO 9 (.bin .lss (.t 8) (.c (.int .i64 0))),
 oM 10 9,
 oG 11 (.fldA 4 (.t 1)) 10 true,
 oG 12 (.load 4 true (.t 11)) 10 true,
 oG 13 (.load 4 true (.t 3)) 10 true,
 oG 14 (.call (.c (.fn F_limb_Cmp [])) [.t 12,.t 13]) 10 true,
 oG 15 (.bin .lss (.t 14) (.c (.int .i64 0))) 10 true,
 oO 16 (.pick (.t 10) (.t 15) (.c (.bool false))),
 oM 2 16])
 .ret)))⟩
theorem K_act_proof:chkFun DK Pg Tryz.f197 A_act_proof=true:=by kernel_rfl
theorem B_act_proof {args:List AV} {m:Mem} {K:AV->Mem->Prop} (h:vcFun DK Pg A_act_proof args m K):ACall Pg F_act_proof args m K:=call_body mixed Tryz.func197 (by kernel_rfl) K_act_proof h
noncomputable def A_limb_Mul:AFun:=⟨2,75,[.cell 4 4 true,.cell 5 4 true],
 (.seq (.ops [
 oO 2 (.box 1 4 (.t 0)),
 oO 3 (.box 1 4 (.t 1)),
 oO 4 (.alloc 1 4 [.int .u64 0]),
 oO 5 (.alloc 1 4 [.int .u64 0])])
 (.seq (.ops [
 oO 6 (.alloc 1 8 [.int .u64 0])])
 (.seq (.seq (.ops [
 oO 14 (.mv (.c (.int .i64 0)))])
 (.block 0
 (.loop
 (.seq (.ops [
 oO 15 (.bin .lss (.t 14) (.c (.int .i64 4)))])
 (.seq (.cond (.t 15)
 .skip
 (.exit 0))
 (.seq (.block 1
 (.seq (.ops [
 oM 16 14,
 oM 7 16])
 (.seq (.ops [
 oO 8 (.mv (.c (.int .u64 0)))])
 (.seq (.seq (.ops [
 oO 17 (.mv (.c (.int .i64 0)))])
 (.block 2
 (.loop
 (.seq (.ops [
 oO 18 (.bin .lss (.t 17) (.c (.int .i64 4)))])
 (.seq (.cond (.t 18)
 .skip
 (.exit 2))
 (.seq (.block 3
 (.seq (.ops [
 oM 19 17,
 oM 9 19])
 (.seq (.draw [
 oM 21 7,
 oO 22 (.idxP 4 1 (.t 2) (.t 21)),
 oO 23 (.load 1 false (.t 22)),
 oM 24 9,
 oO 25 (.idxP 4 1 (.t 3) (.t 24)),
 oO 26 (.load 1 false (.t 25)),
 oK 27 F_bits_Mul64 [.t 23,.t 26],
 oM 20 27,
 oO 28 (.ext (.t 20) 0),
 oO 29 (.ext (.t 20) 1),
 oM 10 28,
 oM 11 29] ⟨.all,[],.look 0 (.look 1 (.look 2 (.look 3 (.look 4 (.look 5 (.run 6 false (.look 7 (.look 8 (.look 9 (.look 10 (.look 11 .done)))))))))))⟩)
 (.seq (.ops [
 oO 12 (.mv (.c (.int .u64 0))),
 oO 13 (.mv (.c (.int .u64 0)))])
 (.seq (.ops [
 oM 31 7,
 oM 32 9,
 oO 33 (.binF .add (.t 31) (.t 32)),
 oM 34 7,
 oM 35 9,
 oO 36 (.binF .add (.t 34) (.t 35)),
 oO 37 (.idxP 8 1 (.t 6) (.t 36)),
 oO 38 (.load 1 false (.t 37)),
 oM 39 11,
 oO 40 (.x64 false F_bits_Add64 (.t 38) (.t 39) (.c (.int .u64 0))),
 oM 30 40,
 oO 41 (.ext (.t 30) 0),
 oO 42 (.ext (.t 30) 1),
 oO 43 (.idxP 8 1 (.t 6) (.t 33)),
 ⟨none,.stA 1 8 1 (.t 43) (.t 41),none⟩,
 oM 12 42])
 (.seq (.ops [
 oM 45 7,
 oM 46 9,
 oO 47 (.binF .add (.t 45) (.t 46)),
 oM 48 7,
 oM 49 9,
 oO 50 (.binF .add (.t 48) (.t 49)),
 oO 51 (.idxP 8 1 (.t 6) (.t 50)),
 oO 52 (.load 1 false (.t 51)),
 oM 53 8,
 oO 54 (.x64 false F_bits_Add64 (.t 52) (.t 53) (.c (.int .u64 0))),
 oM 44 54,
 oO 55 (.ext (.t 44) 0),
 oO 56 (.ext (.t 44) 1),
 oO 57 (.idxP 8 1 (.t 6) (.t 47)),
 ⟨none,.stA 1 8 1 (.t 57) (.t 55),none⟩,
 oM 13 56])
 (.ops [
 oM 58 10,
 oM 59 12,
 oO 60 (.bin .add (.t 58) (.t 59)),
 oM 61 13,
 oO 62 (.bin .add (.t 60) (.t 61)),
 oM 8 62])))))))
 (.ops [
 oO 63 (.binF .add (.t 17) (.c (.int .i64 1))),
 oM 17 63])))))))
 (.ops [
 oM 64 7,
 oO 65 (.binF .add (.t 64) (.c (.int .i64 4))),
 oM 66 8,
 oO 67 (.idxP 8 1 (.t 6) (.t 65)),
 ⟨none,.stA 1 8 1 (.t 67) (.t 66),none⟩])))))
 (.ops [
 oO 68 (.binF .add (.t 14) (.c (.int .i64 1))),
 oM 14 68])))))))
 (.seq (.draw [
 oO 69 (.slarr 8 1 (.t 6) none (some (.c (.int .i64 4))) none),
 oO 70 (.arrp 4 1 (.t 69)),
 oO 71 (.load 4 true (.t 70)),
 oO 72 (.slarr 8 1 (.t 6) (some (.c (.int .i64 4))) none none),
 oO 73 (.arrp 4 1 (.t 72)),
 oO 74 (.load 4 true (.t 73)),
 ⟨none,.stA 1 4 4 (.t 4) (.t 71),none⟩,
 ⟨none,.stA 1 4 4 (.t 5) (.t 74),none⟩] ⟨(.but [4]),[],.look 0 (.look 1 (.look 2 (.look 3 (.look 4 (.look 5 (.run 6 true (.run 7 false .done)))))))⟩)
 .ret))))⟩
theorem K_limb_Mul:chkFun DK Pg Tryz.f199 A_limb_Mul=true:=by kernel_rfl
theorem B_limb_Mul {args:List AV} {m:Mem} {K:AV->Mem->Prop} (h:vcFun DK Pg A_limb_Mul args m K):ACall Pg F_limb_Mul args m K:=call_body mixed Tryz.func199 (by kernel_rfl) K_limb_Mul h
noncomputable def A_limb_Add:AFun:=⟨2,26,[.cell 4 4 true,.t 5],
 (.seq (.ops [
 oO 2 (.box 1 4 (.t 0)),
 oO 3 (.box 1 4 (.t 1)),
 oO 4 (.alloc 1 4 [.int .u64 0]),
 oO 5 (.mv (.c (.int .u64 0)))])
 (.seq (.seq (.ops [
 oO 7 (.mv (.c (.int .i64 0)))])
 (.block 0
 (.loop
 (.seq (.ops [
 oO 8 (.bin .lss (.t 7) (.c (.int .i64 4)))])
 (.seq (.cond (.t 8)
 .skip
 (.exit 0))
 (.seq (.block 1
 (.seq (.ops [
 oM 9 7,
 oM 6 9])
 (.draw [
 oM 11 6,
 oM 12 6,
 oO 13 (.idxP 4 1 (.t 2) (.t 12)),
 oO 14 (.load 1 false (.t 13)),
 oM 15 6,
 oO 16 (.idxP 4 1 (.t 3) (.t 15)),
 oO 17 (.load 1 false (.t 16)),
 oM 18 5,
 oO 19 (.x64 false F_bits_Add64 (.t 14) (.t 17) (.t 18)),
 oM 10 19,
 oO 20 (.ext (.t 10) 0),
 oO 21 (.ext (.t 10) 1),
 oO 22 (.idxP 4 1 (.t 4) (.t 11)),
 ⟨none,.stA 1 4 1 (.t 22) (.t 20),none⟩,
 oM 5 21] ⟨.all,[],.look 0 (.look 1 (.look 2 (.look 3 (.look 4 (.look 5 (.look 6 (.look 7 (.run 8 true (.look 9 (.look 10 (.look 11 (.look 12 (.run 13 false (.look 14 .done))))))))))))))⟩)))
 (.ops [
 oO 23 (.binF .add (.t 7) (.c (.int .i64 1))),
 oM 7 23])))))))
 (.seq (.ops [
 oO 24 (.load 4 true (.t 4)),
 oM 25 5,
 ⟨none,.stA 1 4 4 (.t 4) (.t 24),none⟩,
 oM 5 25])
 .ret)))⟩
theorem K_limb_Add:chkFun DK Pg Tryz.f200 A_limb_Add=true:=by kernel_rfl
theorem B_limb_Add {args:List AV} {m:Mem} {K:AV->Mem->Prop} (h:vcFun DK Pg A_limb_Add args m K):ACall Pg F_limb_Add args m K:=call_body mixed Tryz.func200 (by kernel_rfl) K_limb_Add h
noncomputable def A_limb_Len:AFun:=⟨1,19,[.t 2],
 (.seq (.ops [
 oO 1 (.box 1 4 (.t 0)),
 oO 2 (.mv (.c (.int .i64 0)))])
 (.seq (.seq (.ops [
 oO 3 (.mv (.c (.int .i64 3)))])
 (.block 0
 (.loop
 (.seq (.seq (.ops [
 oM 4 3,
 oO 5 (.bin .geq (.t 4) (.c (.int .i64 0)))])
 (.cond (.t 5)
 .skip
 (.exit 0)))
 (.seq (.block 1
 (.seq (.ops [
 oM 8 3,
 oO 9 (.idxP 4 1 (.t 1) (.t 8)),
 oO 10 (.load 1 false (.t 9)),
 oO 11 (.bin .neq (.t 10) (.c (.int .u64 0)))])
 (.cond (.t 11)
 (.seq (.ops [
 oM 12 3,
 oO 13 (.bin .mul (.c (.int .i64 64)) (.t 12)),
 oM 14 3,
 oO 15 (.idxP 4 1 (.t 1) (.t 14)),
 oO 16 (.load 1 false (.t 15)),
 oK 17 F_bits_Len64 [.t 16],
 oO 18 (.bin .add (.t 13) (.t 17)),
 oM 2 18])
 .ret)
 .skip)))
 (.ops [
 oM 6 3,
 oO 7 (.bin .sub (.t 6) (.c (.int .i64 1))),
 oM 3 7]))))))
 (.seq (.ops [
 oO 2 (.mv (.c (.int .i64 0)))])
 .ret)))⟩
theorem K_limb_Len:chkFun DK Pg Tryz.f201 A_limb_Len=true:=by kernel_rfl
theorem B_limb_Len {args:List AV} {m:Mem} {K:AV->Mem->Prop} (h:vcFun DK Pg A_limb_Len args m K):ACall Pg F_limb_Len args m K:=call_body mixed Tryz.func201 (by kernel_rfl) K_limb_Len h
noncomputable def A_curve_jac_twice:AFun:=⟨1,74,[.cell 2 12 true],
 (.seq (.ops [
 oO 1 (.box 12 1 (.t 0)),
 oO 2 (.alloc 12 1 (List.replicate 12 (.int .u64 0)))])
 (.seq (.ops [
 oO 11 (.fldA 4 (.t 1)),
 oO 12 (.load 4 true (.t 11)),
 oO 13 (.fldA 4 (.t 1)),
 oO 14 (.load 4 true (.t 13)),
 oK 15 F_curve_mul [.t 12,.t 14],
 oO 3 (.alloc 1 4 [.int .u64 0]),
 ⟨none,.stA 1 4 4 (.t 3) (.t 15),none⟩])
 (.seq (.ops [
 oO 16 (.fldA 0 (.t 1)),
 oO 17 (.load 4 true (.t 16)),
 oO 18 (.load 4 true (.t 3)),
 oK 19 F_curve_mul [.t 17,.t 18],
 oO 4 (.alloc 1 4 [.int .u64 0]),
 ⟨none,.stA 1 4 4 (.t 4) (.t 19),none⟩])
 (.seq (.draw [
 oO 20 (.load 4 true (.t 4)),
 oO 21 (.load 4 true (.t 4)),
 oK 22 F_curve_add [.t 20,.t 21],
 oO 23 (.load 4 true (.t 4)),
 oO 24 (.load 4 true (.t 4)),
 oK 25 F_curve_add [.t 23,.t 24],
 oK 26 F_curve_add [.t 22,.t 25],
 ⟨none,.stA 1 4 4 (.t 4) (.t 26),none⟩] ⟨.all,[],.look 0 (.look 1 (.look 3 (.look 4 (.run 2 true (.run 5 false (.run 6 false (.run 7 false .done)))))))⟩)
 (.seq (.ops [
 oO 27 (.fldA 0 (.t 1)),
 oO 28 (.load 4 true (.t 27)),
 oO 29 (.fldA 0 (.t 1)),
 oO 30 (.load 4 true (.t 29)),
 oK 31 F_curve_mul [.t 28,.t 30],
 oO 5 (.alloc 1 4 [.int .u64 0]),
 ⟨none,.stA 1 4 4 (.t 5) (.t 31),none⟩])
 (.seq (.draw [
 oO 32 (.load 4 true (.t 5)),
 oO 33 (.load 4 true (.t 5)),
 oK 34 F_curve_add [.t 32,.t 33],
 oO 35 (.load 4 true (.t 5)),
 oK 36 F_curve_add [.t 34,.t 35],
 oO 6 (.alloc 1 4 [.int .u64 0]),
 oS 4 6 36] ⟨.all,[(5,some 6)],.look 0 (.look 1 (.look 3 (.run 2 true (.run 4 true (.pre 5 6 (.fill .done))))))⟩)
 (.seq (.draw [
 oO 37 (.load 4 true (.t 6)),
 oO 38 (.load 4 true (.t 6)),
 oK 39 F_curve_mul [.t 37,.t 38],
 oO 40 (.load 4 true (.t 4)),
 oO 41 (.load 4 true (.t 4)),
 oK 42 F_curve_add [.t 40,.t 41],
 oK 43 F_curve_sub [.t 39,.t 42],
 oO 7 (.alloc 1 4 [.int .u64 0]),
 oS 4 7 43] ⟨.all,[(7,some 8)],.look 0 (.look 1 (.look 3 (.look 4 (.run 2 true (.run 5 true (.run 6 true (.pre 7 8 (.fill .done))))))))⟩)
 (.seq (.ops [
 oO 44 (.load 4 true (.t 3)),
 oO 45 (.load 4 true (.t 3)),
 oK 46 F_curve_mul [.t 44,.t 45],
 oO 8 (.alloc 1 4 [.int .u64 0]),
 ⟨none,.stA 1 4 4 (.t 8) (.t 46),none⟩])
 (.seq (.draw [
 oO 47 (.load 4 true (.t 8)),
 oO 48 (.load 4 true (.t 8)),
 oK 49 F_curve_add [.t 47,.t 48],
 oO 50 (.load 4 true (.t 8)),
 oO 51 (.load 4 true (.t 8)),
 oK 52 F_curve_add [.t 50,.t 51],
 oK 53 F_curve_add [.t 49,.t 52],
 ⟨none,.stA 1 4 4 (.t 8) (.t 53),none⟩] ⟨.all,[],.look 0 (.look 1 (.look 3 (.look 4 (.run 2 true (.run 5 false (.run 6 false (.run 7 false .done)))))))⟩)
 (.seq (.draw [
 oO 54 (.load 4 true (.t 6)),
 oO 55 (.load 4 true (.t 4)),
 oO 56 (.load 4 true (.t 7)),
 oK 57 F_curve_sub [.t 55,.t 56],
 oK 58 F_curve_mul [.t 54,.t 57],
 oO 59 (.load 4 true (.t 8)),
 oO 60 (.load 4 true (.t 8)),
 oK 61 F_curve_add [.t 59,.t 60],
 oK 62 F_curve_sub [.t 58,.t 61],
 oO 9 (.alloc 1 4 [.int .u64 0]),
 oS 4 9 62] ⟨.all,[(9,some 10)],.look 0 (.look 1 (.look 2 (.look 5 (.look 6 (.run 3 true (.run 4 true (.run 7 true (.run 8 true (.pre 9 10 (.fill .done))))))))))⟩)
 (.seq (.ops [
 oO 63 (.fldA 4 (.t 1)),
 oO 64 (.load 4 true (.t 63)),
 oO 65 (.fldA 8 (.t 1)),
 oO 66 (.load 4 true (.t 65)),
 oK 67 F_curve_mul [.t 64,.t 66],
 oO 10 (.alloc 1 4 [.int .u64 0]),
 ⟨none,.stA 1 4 4 (.t 10) (.t 67),none⟩])
 (.seq (.draw [
 oO 68 (.load 4 true (.t 7)),
 oO 69 (.load 4 true (.t 9)),
 oO 70 (.load 4 true (.t 10)),
 oO 71 (.load 4 true (.t 10)),
 oK 72 F_curve_add [.t 70,.t 71],
 oO 73 (.build (List.replicate 12 (.int .u64 0)) [(0,4,.t 68),(4,4,.t 69),(8,4,.t 72)]),
 ⟨none,.stA 12 1 12 (.t 2) (.t 73),none⟩] ⟨.all,[],.look 0 (.look 1 (.look 2 (.look 3 (.run 4 true (.look 5 (.run 6 false .done))))))⟩)
 .ret))))))))))))⟩
theorem K_curve_jac_twice:chkFun DK Pg Tryz.f202 A_curve_jac_twice=true:=by kernel_rfl
theorem B_curve_jac_twice {args:List AV} {m:Mem} {K:AV->Mem->Prop} (h:vcFun DK Pg A_curve_jac_twice args m K):ACall Pg F_curve_jac_twice args m K:=call_body mixed Tryz.func202 (by kernel_rfl) K_curve_jac_twice h
noncomputable def A_limb_Bit:AFun:=⟨2,20,[.t 4],
 (.seq (.ops [
 oO 2 (.box 1 4 (.t 0)),
 oO 4 (.mv (.c (.int .i64 0)))])
 (.seq (.seq (.ops [
 oM 5 1,
 oO 6 (.bin .lss (.t 5) (.c (.int .i64 0))),
 oM 7 6,
 oG 8 (.mv (.t 1)) 7 false,
 oG 9 (.bin .geq (.t 8) (.c (.int .i64 256))) 7 false,
 oO 10 (.pick (.t 7) (.c (.bool true)) (.t 9))])
 (.cond (.t 10)
 (.seq (.ops [
 oO 4 (.mv (.c (.int .i64 0)))])
 .ret)
 .skip))
 (.seq (.ops [
 oM 11 1,
 oO 12 (.bin .quo (.t 11) (.c (.int .i64 64))),
 oO 13 (.idxP 4 1 (.t 2) (.t 12)),
 oO 14 (.load 1 false (.t 13)),
 oM 15 1,
 oO 16 (.bin .rem (.t 15) (.c (.int .i64 64))),
 oO 17 (.bin .shr (.t 14) (.t 16)),
 oO 18 (.bin .and (.t 17) (.c (.int .u64 1))),
 oO 19 (.conv .i64 (.t 18)),
 oM 4 19])
 .ret)))⟩
theorem K_limb_Bit:chkFun DK Pg Tryz.f203 A_limb_Bit=true:=by kernel_rfl
theorem B_limb_Bit {args:List AV} {m:Mem} {K:AV->Mem->Prop} (h:vcFun DK Pg A_limb_Bit args m K):ACall Pg F_limb_Bit args m K:=call_body mixed Tryz.func203 (by kernel_rfl) K_limb_Bit h
noncomputable def A_curve_jac_plus:AFun:=⟨2,126,[.cell 4 12 true],
 (.seq (.ops [
 oO 2 (.box 12 1 (.t 0)),
 oO 3 (.box 12 1 (.t 1)),
 oO 4 (.alloc 12 1 (List.replicate 12 (.int .u64 0)))])
 (.seq (.ops [
 oO 19 (.build [.int .u64 0,.int .u64 0,.int .u64 0,.int .u64 0] []),
 oO 5 (.alloc 1 4 [.int .u64 0]),
 ⟨none,.stA 1 4 4 (.t 5) (.t 19),none⟩])
 (.seq (.block 0
 (.seq (.ops [
 oO 21 (.fldA 8 (.t 2)),
 oO 22 (.load 4 true (.t 21)),
 oO 23 (.load 4 true (.t 5)),
 oO 24 (.eqa [.i,.i,.i,.i] false (.t 22) (.t 23)),
 oM 20 24])
 (.cond (.t 20)
 (.seq (.ops [
 oO 25 (.load 12 true (.t 3)),
 ⟨none,.stA 12 1 12 (.t 4) (.t 25),none⟩])
 .ret)
 (.seq (.ops [
 oO 27 (.fldA 8 (.t 3)),
 oO 28 (.load 4 true (.t 27)),
 oO 29 (.load 4 true (.t 5)),
 oO 30 (.eqa [.i,.i,.i,.i] false (.t 28) (.t 29)),
 oM 26 30])
 (.cond (.t 26)
 (.seq (.ops [
 oO 31 (.load 12 true (.t 2)),
 ⟨none,.stA 12 1 12 (.t 4) (.t 31),none⟩])
 .ret)
 .skip)))))
 (.seq (.draw [
 oO 32 (.fldA 8 (.t 2)),
 oO 33 (.load 4 true (.t 32)),
 oO 34 (.fldA 8 (.t 2)),
 oO 35 (.load 4 true (.t 34)),
 oK 36 F_curve_mul [.t 33,.t 35],
 oO 37 (.fldA 8 (.t 3)),
 oO 38 (.load 4 true (.t 37)),
 oO 39 (.fldA 8 (.t 3)),
 oO 40 (.load 4 true (.t 39)),
 oK 41 F_curve_mul [.t 38,.t 40],
 oO 6 (.alloc 1 4 [.int .u64 0]),
 oO 7 (.alloc 1 4 [.int .u64 0]),
 oS 4 6 36,
 oS 4 7 41] ⟨.all,[(10,some 12),(11,some 13)],.look 0 (.look 1 (.look 2 (.look 3 (.look 5 (.look 6 (.look 7 (.look 8 (.run 4 true (.pre 10 12 (.run 9 true (.pre 11 13 (.fill .done))))))))))))⟩)
 (.seq (.draw [
 oO 42 (.fldA 0 (.t 2)),
 oO 43 (.load 4 true (.t 42)),
 oO 44 (.load 4 true (.t 7)),
 oK 45 F_curve_mul [.t 43,.t 44],
 oO 46 (.fldA 0 (.t 3)),
 oO 47 (.load 4 true (.t 46)),
 oO 48 (.load 4 true (.t 6)),
 oK 49 F_curve_mul [.t 47,.t 48],
 oO 8 (.alloc 1 4 [.int .u64 0]),
 oO 9 (.alloc 1 4 [.int .u64 0]),
 oS 4 8 45,
 oS 4 9 49] ⟨.all,[(8,some 10),(9,some 11)],.look 0 (.look 1 (.look 2 (.look 4 (.look 5 (.look 6 (.run 3 true (.pre 8 10 (.run 7 true (.pre 9 11 (.fill .done))))))))))⟩)
 (.seq (.draw [
 oO 50 (.fldA 4 (.t 2)),
 oO 51 (.load 4 true (.t 50)),
 oO 52 (.load 4 true (.t 7)),
 oO 53 (.fldA 8 (.t 3)),
 oO 54 (.load 4 true (.t 53)),
 oK 55 F_curve_mul [.t 52,.t 54],
 oK 56 F_curve_mul [.t 51,.t 55],
 oO 57 (.fldA 4 (.t 3)),
 oO 58 (.load 4 true (.t 57)),
 oO 59 (.load 4 true (.t 6)),
 oO 60 (.fldA 8 (.t 2)),
 oO 61 (.load 4 true (.t 60)),
 oK 62 F_curve_mul [.t 59,.t 61],
 oK 63 F_curve_mul [.t 58,.t 62],
 oO 10 (.alloc 1 4 [.int .u64 0]),
 oO 11 (.alloc 1 4 [.int .u64 0]),
 oS 4 10 56,
 oS 4 11 63] ⟨.all,[(14,some 16),(15,some 17)],.look 0 (.look 1 (.look 2 (.look 3 (.look 4 (.look 7 (.look 8 (.look 9 (.look 10 (.look 11 (.run 5 true (.run 6 true (.pre 14 16 (.run 12 true (.run 13 true (.pre 15 17 (.fill .done))))))))))))))))⟩)
 (.seq (.draw [
 oO 64 (.load 4 true (.t 9)),
 oO 65 (.load 4 true (.t 8)),
 oK 66 F_curve_sub [.t 64,.t 65],
 oO 67 (.load 4 true (.t 11)),
 oO 68 (.load 4 true (.t 10)),
 oK 69 F_curve_sub [.t 67,.t 68],
 oO 12 (.alloc 1 4 [.int .u64 0]),
 oO 13 (.alloc 1 4 [.int .u64 0]),
 oS 4 12 66,
 oS 4 13 69] ⟨.all,[(6,some 8),(7,some 9)],.look 0 (.look 1 (.look 3 (.look 4 (.run 2 true (.pre 6 8 (.run 5 true (.pre 7 9 (.fill .done))))))))⟩)
 (.seq (.block 1
 (.seq (.ops [
 oO 71 (.load 4 true (.t 12)),
 oO 72 (.load 4 true (.t 5)),
 oO 73 (.eqa [.i,.i,.i,.i] false (.t 71) (.t 72)),
 oM 74 73,
 oG 75 (.load 4 true (.t 13)) 74 true,
 oG 76 (.load 4 true (.t 5)) 74 true,
 oG 77 (.eqa [.i,.i,.i,.i] false (.t 75) (.t 76)) 74 true,
 oO 78 (.pick (.t 74) (.t 77) (.c (.bool false))),
 oM 70 78])
 (.cond (.t 70)
 (.seq (.ops [
 oO 79 (.load 12 true (.t 2)),
 oK 80 F_curve_jac_twice [.t 79],
 ⟨none,.stA 12 1 12 (.t 4) (.t 80),none⟩])
 .ret)
 (.seq (.ops [
 oO 82 (.load 4 true (.t 12)),
 oO 83 (.load 4 true (.t 5)),
 oO 84 (.eqa [.i,.i,.i,.i] false (.t 82) (.t 83)),
 oM 81 84])
 (.cond (.t 81)
 (.seq (.ops [
 oO 85 (.build [.int .u64 0,.int .u64 0,.int .u64 0,.int .u64 0] [(0,1,.c (.int .u64 1))]),
 oO 86 (.build [.int .u64 0,.int .u64 0,.int .u64 0,.int .u64 0] [(0,1,.c (.int .u64 1))]),
 oO 87 (.load 4 true (.t 5)),
 oO 88 (.build (List.replicate 12 (.int .u64 0)) [(0,4,.t 85),(4,4,.t 86),(8,4,.t 87)]),
 ⟨none,.stA 12 1 12 (.t 4) (.t 88),none⟩])
 .ret)
 .skip)))))
 (.seq (.ops [
 oO 89 (.load 4 true (.t 12)),
 oO 90 (.load 4 true (.t 12)),
 oK 91 F_curve_mul [.t 89,.t 90],
 oO 14 (.alloc 1 4 [.int .u64 0]),
 ⟨none,.stA 1 4 4 (.t 14) (.t 91),none⟩])
 (.seq (.draw [
 oO 92 (.load 4 true (.t 14)),
 oO 93 (.load 4 true (.t 12)),
 oK 94 F_curve_mul [.t 92,.t 93],
 oO 95 (.load 4 true (.t 8)),
 oO 96 (.load 4 true (.t 14)),
 oK 97 F_curve_mul [.t 95,.t 96],
 oO 15 (.alloc 1 4 [.int .u64 0]),
 oO 16 (.alloc 1 4 [.int .u64 0]),
 oS 4 15 94,
 oS 4 16 97] ⟨.all,[(6,some 8),(7,some 9)],.look 0 (.look 1 (.look 3 (.look 4 (.run 2 true (.pre 6 8 (.run 5 true (.pre 7 9 (.fill .done))))))))⟩)
 (.seq (.draw [
 oO 98 (.load 4 true (.t 13)),
 oO 99 (.load 4 true (.t 13)),
 oK 100 F_curve_mul [.t 98,.t 99],
 oO 101 (.load 4 true (.t 15)),
 oK 102 F_curve_sub [.t 100,.t 101],
 oO 103 (.load 4 true (.t 16)),
 oO 104 (.load 4 true (.t 16)),
 oK 105 F_curve_add [.t 103,.t 104],
 oK 106 F_curve_sub [.t 102,.t 105],
 oO 17 (.alloc 1 4 [.int .u64 0]),
 oS 4 17 106] ⟨.all,[(9,some 10)],.look 0 (.look 1 (.look 3 (.look 5 (.look 6 (.run 2 true (.run 4 true (.run 7 true (.run 8 true (.pre 9 10 (.fill .done))))))))))⟩)
 (.seq (.draw [
 oO 107 (.load 4 true (.t 13)),
 oO 108 (.load 4 true (.t 16)),
 oO 109 (.load 4 true (.t 17)),
 oK 110 F_curve_sub [.t 108,.t 109],
 oK 111 F_curve_mul [.t 107,.t 110],
 oO 112 (.load 4 true (.t 10)),
 oO 113 (.load 4 true (.t 15)),
 oK 114 F_curve_mul [.t 112,.t 113],
 oK 115 F_curve_sub [.t 111,.t 114],
 oO 18 (.alloc 1 4 [.int .u64 0]),
 oS 4 18 115] ⟨.all,[(9,some 10)],.look 0 (.look 1 (.look 2 (.look 5 (.look 6 (.run 3 true (.run 4 true (.run 7 true (.run 8 true (.pre 9 10 (.fill .done))))))))))⟩)
 (.seq (.draw [
 oO 116 (.load 4 true (.t 17)),
 oO 117 (.load 4 true (.t 18)),
 oO 118 (.load 4 true (.t 12)),
 oO 119 (.fldA 8 (.t 2)),
 oO 120 (.load 4 true (.t 119)),
 oO 121 (.fldA 8 (.t 3)),
 oO 122 (.load 4 true (.t 121)),
 oK 123 F_curve_mul [.t 120,.t 122],
 oK 124 F_curve_mul [.t 118,.t 123],
 oO 125 (.build (List.replicate 12 (.int .u64 0)) [(0,4,.t 116),(4,4,.t 117),(8,4,.t 124)]),
 ⟨none,.stA 12 1 12 (.t 4) (.t 125),none⟩] ⟨.all,[],.look 0 (.look 1 (.look 2 (.look 3 (.look 4 (.look 5 (.look 6 (.run 7 true (.run 8 true (.look 9 (.run 10 false .done))))))))))⟩)
 .ret)))))))))))))⟩
theorem K_curve_jac_plus:chkFun DK Pg Tryz.f204 A_curve_jac_plus=true:=by kernel_rfl
theorem B_curve_jac_plus {args:List AV} {m:Mem} {K:AV->Mem->Prop} (h:vcFun DK Pg A_curve_jac_plus args m K):ACall Pg F_curve_jac_plus args m K:=call_body mixed Tryz.func204 (by kernel_rfl) K_curve_jac_plus h
noncomputable def A_field_Inv:AFun:=⟨2,18,[.cell 4 4 true],
 (.seq (.ops [
 oO 3 (.box 1 4 (.t 1)),
 oO 4 (.alloc 1 4 [.int .u64 0])])
 (.seq (.ops [
 oM 8 0,
 oK 9 F_field_Prime [.t 8],
 oO 10 (.build [.int .u64 0,.int .u64 0,.int .u64 0,.int .u64 0] [(0,1,.c (.int .u64 2))]),
 oK 11 F_limb_Sub [.t 9,.t 10],
 oM 7 11,
 oO 12 (.ext (.t 7) 0),
 oO 13 (.ext (.t 7) 1),
 oO 5 (.alloc 1 4 [.int .u64 0]),
 ⟨none,.stA 1 4 4 (.t 5) (.t 12),none⟩,
 oM 6 13])
 (.seq (.ops [
 oM 14 0,
 oO 15 (.load 4 true (.t 3)),
 oO 16 (.load 4 true (.t 5)),
 oK 17 F_field_Pow [.t 14,.t 15,.t 16],
 ⟨none,.stA 1 4 4 (.t 4) (.t 17),none⟩])
 .ret)))⟩
theorem K_field_Inv:chkFun DK Pg Tryz.f205 A_field_Inv=true:=by kernel_rfl
theorem B_field_Inv {args:List AV} {m:Mem} {K:AV->Mem->Prop} (h:vcFun DK Pg A_field_Inv args m K):ACall Pg F_field_Inv args m K:=call_body mixed Tryz.func205 (by kernel_rfl) K_field_Inv h
noncomputable def A_witanref01_Bytes:AFun:=⟨1,24,[.cell 2 32 true],
 (.seq (.ops [
 oO 1 (.box 1 4 (.t 0)),
 oO 2 (.alloc 1 32 [.int .u8 0])])
 (.seq (.ops [
 oO 3 (.alloc 1 32 [.int .u8 0])])
 (.seq (.seq (.ops [
 oO 4 (.mv (.c (.int .i64 0)))])
 (.block 0
 (.loop
 (.seq (.seq (.ops [
 oM 5 4,
 oO 6 (.bin .lss (.t 5) (.c (.int .i64 32)))])
 (.cond (.t 6)
 .skip
 (.exit 0)))
 (.seq (.block 1
 (.ops [
 oM 9 4,
 oM 10 4,
 oO 11 (.bin .quo (.t 10) (.c (.int .i64 8))),
 oO 12 (.binF .sub (.c (.int .i64 3)) (.t 11)),
 oO 13 (.idxP 4 1 (.t 1) (.t 12)),
 oO 14 (.load 1 false (.t 13)),
 oM 15 4,
 oO 16 (.bin .rem (.t 15) (.c (.int .i64 8))),
 oO 17 (.binF .mul (.c (.int .i64 8)) (.t 16)),
 oO 18 (.binF .sub (.c (.int .i64 56)) (.t 17)),
 oO 19 (.conv .u64 (.t 18)),
 oO 20 (.bin .shr (.t 14) (.t 19)),
 oO 21 (.conv .u8 (.t 20)),
 oO 22 (.idxP 32 1 (.t 3) (.t 9)),
 ⟨none,.stA 1 32 1 (.t 22) (.t 21),none⟩]))
 (.ops [
 oM 7 4,
 oO 8 (.binF .add (.t 7) (.c (.int .i64 1))),
 oM 4 8]))))))
 (.seq (.ops [
 oO 23 (.load 32 true (.t 3)),
 ⟨none,.stA 1 32 32 (.t 2) (.t 23),none⟩])
 .ret))))⟩
theorem K_witanref01_Bytes:chkFun DK Pg Tryz.f206 A_witanref01_Bytes=true:=by kernel_rfl
theorem B_witanref01_Bytes {args:List AV} {m:Mem} {K:AV->Mem->Prop} (h:vcFun DK Pg A_witanref01_Bytes args m K):ACall Pg F_witanref01_Bytes args m K:=call_body mixed Tryz.func206 (by kernel_rfl) K_witanref01_Bytes h
noncomputable def A_witanref01_ok:AFun:=⟨1,9,[.t 2],
 (.seq (.ops [
 oO 2 (.mv (.c (.bool false)))])
 (.seq (.ops [
 oM 3 0,
 oO 4 (.bin .eql (.t 3) (.c (.int .i64 0))),
 oM 5 4,
 oG 6 (.mv (.t 0)) 5 false,
 oG 7 (.bin .eql (.t 6) (.c (.int .i64 1))) 5 false,
 oO 8 (.pick (.t 5) (.c (.bool true)) (.t 7)),
 oM 2 8])
 .ret))⟩
theorem K_witanref01_ok:chkFun DK Pg Tryz.f209 A_witanref01_ok=true:=by kernel_rfl
theorem B_witanref01_ok {args:List AV} {m:Mem} {K:AV->Mem->Prop} (h:vcFun DK Pg A_witanref01_ok args m K):ACall Pg F_witanref01_ok args m K:=call_body mixed Tryz.func209 (by kernel_rfl) K_witanref01_ok h
noncomputable def A_witanref01_Red:AFun:=⟨2,13,[.cell 4 4 true],
 (.seq (.ops [
 oO 3 (.box 1 4 (.t 1)),
 oO 4 (.alloc 1 4 [.int .u64 0])])
 (.seq (.seq (.ops [
 oM 5 0,
 oK 6 F_witanref01_ok [.t 5],
 oO 7 (.un .not (.t 6))])
 (.cond (.t 7)
 (.seq (.ops [
 oO 8 (.build [.int .u64 0,.int .u64 0,.int .u64 0,.int .u64 0] []),
 ⟨none,.stA 1 4 4 (.t 4) (.t 8),none⟩])
 .ret)
 .skip))
 (.seq (.ops [
 oM 9 0,
 oO 10 (.load 4 true (.t 3)),
 oO 11 (.build [.int .u64 0,.int .u64 0,.int .u64 0,.int .u64 0] []),
 oK 12 F_witanref01_fold [.t 9,.t 10,.t 11],
 ⟨none,.stA 1 4 4 (.t 4) (.t 12),none⟩])
 .ret)))⟩
theorem K_witanref01_Red:chkFun DK Pg Tryz.f210 A_witanref01_Red=true:=by kernel_rfl
theorem B_witanref01_Red {args:List AV} {m:Mem} {K:AV->Mem->Prop} (h:vcFun DK Pg A_witanref01_Red args m K):ACall Pg F_witanref01_Red args m K:=call_body mixed Tryz.func210 (by kernel_rfl) K_witanref01_Red h
noncomputable def A_witanref01_fold:AFun:=⟨3,48,[.cell 6 4 true],
 (.seq (.ops [
 oO 4 (.box 1 4 (.t 1)),
 oO 5 (.box 1 4 (.t 2)),
 oO 6 (.alloc 1 4 [.int .u64 0])])
 (.seq (.block 0
 (.loop
 (.seq (.seq (.ops [
 oO 11 (.load 4 true (.t 5)),
 oO 12 (.build [.int .u64 0,.int .u64 0,.int .u64 0,.int .u64 0] []),
 oO 13 (.eqa [.i,.i,.i,.i] true (.t 11) (.t 12))])
 (.cond (.t 13)
 .skip
 (.exit 0)))
 (.block 1
 (.seq (.draw [
 oO 15 (.load 4 true (.t 5)),
 oM 16 0,
 oK 17 F_witanref01_small [.t 16],
 oK 18 F_witanref01_Mul [.t 15,.t 17],
 oM 14 18,
 oO 19 (.ext (.t 14) 0),
 oO 20 (.ext (.t 14) 1),
 oO 7 (.alloc 1 4 [.int .u64 0]),
 oO 8 (.alloc 1 4 [.int .u64 0]),
 oS 4 7 19,
 oS 4 8 20] ⟨.all,[(7,some 9),(8,some 10)],.look 0 (.look 1 (.run 2 true (.run 3 true (.look 4 (.look 5 (.pre 7 9 (.look 6 (.pre 8 10 (.fill .done)))))))))⟩)
 (.seq (.ops [
 oO 22 (.load 4 true (.t 4)),
 oO 23 (.load 4 true (.t 7)),
 oK 24 F_witanref01_Add [.t 22,.t 23],
 oM 21 24,
 oO 25 (.ext (.t 21) 0),
 oO 26 (.ext (.t 21) 1),
 oO 9 (.alloc 1 4 [.int .u64 0]),
 ⟨none,.stA 1 4 4 (.t 9) (.t 25),none⟩,
 oM 10 26])
 (.seq (.ops [
 oO 27 (.load 4 true (.t 9)),
 ⟨none,.stA 1 4 4 (.t 4) (.t 27),none⟩])
 (.ops [
 oO 29 (.load 4 true (.t 8)),
 oM 30 10,
 oO 31 (.build [.int .u64 0,.int .u64 0,.int .u64 0,.int .u64 0] [(0,1,.t 30)]),
 oK 32 F_witanref01_Add [.t 29,.t 31],
 oM 28 32,
 oO 33 (.ext (.t 28) 0),
 oO 34 (.ext (.t 28) 1),
 ⟨none,.stA 1 4 4 (.t 5) (.t 33),none⟩]))))))))
 (.seq (.seq (.draw [
 oO 35 (.load 4 true (.t 4)),
 oM 36 0,
 oK 37 F_witanref01_Prime [.t 36],
 oK 38 F_witanref01_Cmp [.t 35,.t 37],
 oO 39 (.bin .geq (.t 38) (.c (.int .i64 0)))] ⟨.all,[],.look 0 (.look 1 (.run 2 true (.run 3 true (.look 4 .done))))⟩)
 (.cond (.t 39)
 (.draw [
 oO 41 (.load 4 true (.t 4)),
 oM 42 0,
 oK 43 F_witanref01_Prime [.t 42],
 oK 44 F_witanref01_Sub [.t 41,.t 43],
 oM 40 44,
 oO 45 (.ext (.t 40) 0),
 oO 46 (.ext (.t 40) 1),
 ⟨none,.stA 1 4 4 (.t 4) (.t 45),none⟩] ⟨.all,[],.look 0 (.look 1 (.run 2 true (.run 3 false (.look 4 (.look 5 (.look 6 (.run 7 false .done)))))))⟩)
 .skip))
 (.seq (.ops [
 oO 47 (.load 4 true (.t 4)),
 ⟨none,.stA 1 4 4 (.t 6) (.t 47),none⟩])
 .ret))))⟩
theorem K_witanref01_fold:chkFun DK Pg Tryz.f211 A_witanref01_fold=true:=by kernel_rfl
theorem B_witanref01_fold {args:List AV} {m:Mem} {K:AV->Mem->Prop} (h:vcFun DK Pg A_witanref01_fold args m K):ACall Pg F_witanref01_fold args m K:=call_body mixed Tryz.func211 (by kernel_rfl) K_witanref01_fold h
noncomputable def A_curve_Read:AFun:=⟨1,67,[.cell 2 9 true,.t 3],
 (.seq (.ops [
 oO 2 (.alloc 9 1 [.bool false,.int .u64 0,.int .u64 0,.int .u64 0,.int .u64 0,.int .u64 0,.int .u64 0,.int .u64 0,.int .u64 0]),
 oO 3 (.mv (.c (.int .i64 0)))])
 (.seq (.block 0
 (.seq (.ops [
 oM 9 0,
 oO 10 (.len (.t 9)),
 oO 11 (.bin .eql (.t 10) (.c (.int .i64 1))),
 oM 12 11,
 oG 13 (.mv (.t 0)) 12 true,
 oG 14 (.idxA 1 (.t 13) (.c (.int .i64 0))) 12 true,
 oG 15 (.load 1 false (.t 14)) 12 true,
 oG 16 (.bin .eql (.t 15) (.c (.int .u8 0))) 12 true,
 oO 17 (.pick (.t 12) (.t 16) (.c (.bool false))),
 oM 8 17])
 (.cond (.t 8)
 (.seq (.ops [
 oO 18 (.build [.bool false,.int .u64 0,.int .u64 0,.int .u64 0,.int .u64 0,.int .u64 0,.int .u64 0,.int .u64 0,.int .u64 0] [(0,1,.c (.bool true))]),
 ⟨none,.stA 9 1 9 (.t 2) (.t 18),none⟩,
 oO 3 (.mv (.c (.int .i64 0)))])
 .ret)
 (.seq (.ops [
 oM 20 0,
 oO 21 (.len (.t 20)),
 oO 22 (.bin .neq (.t 21) (.c (.int .i64 33))),
 oM 23 22,
 oG 24 (.mv (.t 0)) 23 false,
 oG 25 (.idxA 1 (.t 24) (.c (.int .i64 0))) 23 false,
 oG 26 (.load 1 false (.t 25)) 23 false,
 oG 27 (.bin .neq (.t 26) (.c (.int .u8 2))) 23 false,
 oG 28 (.mv (.t 27)) 23 false,
 oG 29 (.mv (.t 0)) 28 true,
 oG 30 (.idxA 1 (.t 29) (.c (.int .i64 0))) 28 true,
 oG 31 (.load 1 false (.t 30)) 28 true,
 oG 32 (.bin .neq (.t 31) (.c (.int .u8 3))) 28 true,
 oG 33 (.pick (.t 28) (.t 32) (.c (.bool false))) 23 false,
 oO 34 (.pick (.t 23) (.c (.bool true)) (.t 33)),
 oM 19 34])
 (.cond (.t 19)
 (.seq (.ops [
 oO 35 (.build [.bool false,.int .u64 0,.int .u64 0,.int .u64 0,.int .u64 0,.int .u64 0,.int .u64 0,.int .u64 0,.int .u64 0] []),
 ⟨none,.stA 9 1 9 (.t 2) (.t 35),none⟩,
 oO 3 (.mv (.c (.int .i64 7)))])
 .ret)
 .skip)))))
 (.seq (.ops [
 oM 37 0,
 oO 38 (.slice 1 (.t 37) (some (.c (.int .i64 1))) none none),
 oO 39 (.arrp 32 1 (.t 38)),
 oO 40 (.load 32 true (.t 39)),
 oK 41 F_field_Read [.c (.int .i64 0),.t 40],
 oM 36 41,
 oO 42 (.ext (.t 36) 0),
 oO 43 (.ext (.t 36) 1),
 oO 4 (.alloc 1 4 [.int .u64 0]),
 ⟨none,.stA 1 4 4 (.t 4) (.t 42),none⟩,
 oM 5 43])
 (.seq (.seq (.ops [
 oM 44 5,
 oO 45 (.bin .neq (.t 44) (.c (.int .i64 0)))])
 (.cond (.t 45)
 (.seq (.ops [
 oO 46 (.build [.bool false,.int .u64 0,.int .u64 0,.int .u64 0,.int .u64 0,.int .u64 0,.int .u64 0,.int .u64 0,.int .u64 0] []),
 oM 47 5,
 ⟨none,.stA 9 1 9 (.t 2) (.t 46),none⟩,
 oM 3 47])
 .ret)
 .skip))
 (.seq (.ops [
 oO 49 (.load 4 true (.t 4)),
 oK 50 F_curve_right [.t 49],
 oK 51 F_field_Root [.t 50],
 oM 48 51,
 oO 52 (.ext (.t 48) 0),
 oO 53 (.ext (.t 48) 1),
 oO 6 (.alloc 1 4 [.int .u64 0]),
 ⟨none,.stA 1 4 4 (.t 6) (.t 52),none⟩,
 oM 7 53])
 (.seq (.seq (.ops [
 oM 54 7,
 oO 55 (.un .not (.t 54))])
 (.cond (.t 55)
 (.seq (.ops [
 oO 56 (.build [.bool false,.int .u64 0,.int .u64 0,.int .u64 0,.int .u64 0,.int .u64 0,.int .u64 0,.int .u64 0,.int .u64 0] []),
 ⟨none,.stA 9 1 9 (.t 2) (.t 56),none⟩,
 oO 3 (.mv (.c (.int .i64 3)))])
 .ret)
 .skip))
 (.seq (.seq (.ops [
 oM 57 0,
 oO 58 (.idxA 1 (.t 57) (.c (.int .i64 0))),
 oO 59 (.load 1 false (.t 58)),
 oO 60 (.bin .eql (.t 59) (.c (.int .u8 3)))])
 (.cond (.t 60)
 (.ops [
 oO 61 (.build [.int .u64 0,.int .u64 0,.int .u64 0,.int .u64 0] []),
 oO 62 (.load 4 true (.t 6)),
 oK 63 F_curve_sub [.t 61,.t 62],
 ⟨none,.stA 1 4 4 (.t 6) (.t 63),none⟩])
 .skip))
 (.seq (.ops [
 oO 64 (.load 4 true (.t 4)),
 oO 65 (.load 4 true (.t 6)),
 oO 66 (.build [.bool false,.int .u64 0,.int .u64 0,.int .u64 0,.int .u64 0,.int .u64 0,.int .u64 0,.int .u64 0,.int .u64 0] [(1,4,.t 64),(5,4,.t 65)]),
 ⟨none,.stA 9 1 9 (.t 2) (.t 66),none⟩,
 oO 3 (.mv (.c (.int .i64 0)))])
 .ret))))))))⟩
theorem K_curve_Read:chkFun DK Pg Tryz.f215 A_curve_Read=true:=by kernel_rfl
theorem B_curve_Read {args:List AV} {m:Mem} {K:AV->Mem->Prop} (h:vcFun DK Pg A_curve_Read args m K):ACall Pg F_curve_Read args m K:=call_body mixed Tryz.func215 (by kernel_rfl) K_curve_Read h
noncomputable def A_slices_Clone_Sbyte_byte:AFun:=⟨1,8,[.t 2],
 (.seq (.ops [
 oO 2 (.mv (.c (.nils)))])
 (.seq (.seq (.ops [
 oM 3 0,
 oO 4 (.eqnS false (.t 3))])
 (.cond (.t 4)
 (.seq (.ops [
 oO 2 (.mv (.c (.nils)))])
 .ret)
 .skip))
 (.seq (.ops [
 oO 5 (.bsl 1 0 [.int .u8 0] []),
 oM 6 0,
 oO 7 (.app 1 1 (.t 5) (.t 6)),
 oM 2 7])
 .ret)))⟩
theorem K_slices_Clone_Sbyte_byte:chkFun DK Pg Tryz.f217 A_slices_Clone_Sbyte_byte=true:=by kernel_rfl
theorem B_slices_Clone_Sbyte_byte {args:List AV} {m:Mem} {K:AV->Mem->Prop} (h:vcFun DK Pg A_slices_Clone_Sbyte_byte args m K):ACall Pg F_slices_Clone_Sbyte_byte args m K:=call_body mixed Tryz.func217 (by kernel_rfl) K_slices_Clone_Sbyte_byte h
noncomputable def A_witanref01_Root:AFun:=⟨1,56,[.cell 2 4 true,.t 3],
 (.seq (.ops [
 oO 1 (.box 1 4 (.t 0)),
 oO 2 (.alloc 1 4 [.int .u64 0]),
 oO 3 (.mv (.c (.bool false)))])
 (.seq (.ops [
 oO 9 (.load 4 true (.t 1)),
 oK 10 F_witanref01_Red [.c (.int .i64 0),.t 9],
 ⟨none,.stA 1 4 4 (.t 1) (.t 10),none⟩])
 (.seq (.ops [
 oK 12 F_witanref01_Prime [.c (.int .i64 0)],
 oO 13 (.build [.int .u64 0,.int .u64 0,.int .u64 0,.int .u64 0] [(0,1,.c (.int .u64 1))]),
 oK 14 F_witanref01_Add [.t 12,.t 13],
 oM 11 14,
 oO 15 (.ext (.t 11) 0),
 oO 16 (.ext (.t 11) 1),
 oO 4 (.alloc 1 4 [.int .u64 0]),
 ⟨none,.stA 1 4 4 (.t 4) (.t 15),none⟩,
 oM 5 16])
 (.seq (.ops [
 oO 6 (.alloc 1 4 [.int .u64 0])])
 (.seq (.seq (.ops [
 oO 7 (.mv (.c (.int .i64 0)))])
 (.block 0
 (.loop
 (.seq (.seq (.ops [
 oM 17 7,
 oO 18 (.bin .lss (.t 17) (.c (.int .i64 4)))])
 (.cond (.t 18)
 .skip
 (.exit 0)))
 (.seq (.block 1
 (.seq (.ops [
 oM 21 7,
 oM 22 7,
 oO 23 (.idxP 4 1 (.t 4) (.t 22)),
 oO 24 (.load 1 false (.t 23)),
 oO 25 (.bin .shr (.t 24) (.c (.int .u64 2))),
 oO 26 (.idxP 4 1 (.t 6) (.t 21)),
 ⟨none,.stA 1 4 1 (.t 26) (.t 25),none⟩])
 (.seq (.ops [
 oM 27 7,
 oO 28 (.bin .lss (.t 27) (.c (.int .i64 3)))])
 (.cond (.t 28)
 (.draw [
 oM 29 7,
 oO 30 (.idxP 4 1 (.t 6) (.t 29)),
 oO 31 (.load 1 false (.t 30)),
 oM 32 7,
 oO 33 (.binF .add (.t 32) (.c (.int .i64 1))),
 oO 34 (.idxP 4 1 (.t 4) (.t 33)),
 oO 35 (.load 1 false (.t 34)),
 oO 36 (.bin .shl (.t 35) (.c (.int .u64 62))),
 oO 37 (.bin .or (.t 31) (.t 36)),
 oO 38 (.idxP 4 1 (.t 6) (.t 29)),
 ⟨none,.stA 1 4 1 (.t 38) (.t 37),none⟩] ⟨.all,[],.look 0 (.look 1 (.look 2 (.look 3 (.look 4 (.look 5 (.look 6 (.look 7 (.look 8 (.look 9 (.run 10 false .done))))))))))⟩)
 .skip))))
 (.ops [
 oM 19 7,
 oO 20 (.binF .add (.t 19) (.c (.int .i64 1))),
 oM 7 20]))))))
 (.seq (.ops [
 oO 39 (.load 4 true (.t 1)),
 oO 40 (.load 4 true (.t 6)),
 oK 41 F_witanref01_Pow [.c (.int .i64 0),.t 39,.t 40],
 oO 8 (.alloc 1 4 [.int .u64 0]),
 ⟨none,.stA 1 4 4 (.t 8) (.t 41),none⟩])
 (.seq (.seq (.draw [
 oO 42 (.load 4 true (.t 8)),
 oO 43 (.load 4 true (.t 8)),
 oK 44 F_witanref01_FMul [.c (.int .i64 0),.t 42,.t 43],
 oO 45 (.load 4 true (.t 1)),
 oO 46 (.eqa [.i,.i,.i,.i] true (.t 44) (.t 45))] ⟨.all,[],.look 0 (.look 1 (.look 3 (.run 2 true (.look 4 .done))))⟩)
 (.cond (.t 46)
 (.seq (.ops [
 oO 47 (.build [.int .u64 0,.int .u64 0,.int .u64 0,.int .u64 0] []),
 ⟨none,.stA 1 4 4 (.t 2) (.t 47),none⟩,
 oO 3 (.mv (.c (.bool false)))])
 .ret)
 .skip))
 (.seq (.seq (.ops [
 oO 48 (.idxP 4 1 (.t 8) (.c (.int .i64 0))),
 oO 49 (.load 1 false (.t 48)),
 oO 50 (.bin .and (.t 49) (.c (.int .u64 1))),
 oO 51 (.bin .eql (.t 50) (.c (.int .u64 1)))])
 (.cond (.t 51)
 (.ops [
 oO 52 (.build [.int .u64 0,.int .u64 0,.int .u64 0,.int .u64 0] []),
 oO 53 (.load 4 true (.t 8)),
 oK 54 F_witanref01_FSub [.c (.int .i64 0),.t 52,.t 53],
 ⟨none,.stA 1 4 4 (.t 8) (.t 54),none⟩])
 .skip))
 (.seq (.ops [
 oO 55 (.load 4 true (.t 8)),
 ⟨none,.stA 1 4 4 (.t 2) (.t 55),none⟩,
 oO 3 (.mv (.c (.bool true)))])
 .ret)))))))))⟩
theorem K_witanref01_Root:chkFun DK Pg Tryz.f219 A_witanref01_Root=true:=by kernel_rfl
theorem B_witanref01_Root {args:List AV} {m:Mem} {K:AV->Mem->Prop} (h:vcFun DK Pg A_witanref01_Root args m K):ACall Pg F_witanref01_Root args m K:=call_body mixed Tryz.func219 (by kernel_rfl) K_witanref01_Root h
noncomputable def A_witanref01_sub:AFun:=⟨2,8,[.cell 4 4 true],
 (.seq (.ops [
 oO 2 (.box 1 4 (.t 0)),
 oO 3 (.box 1 4 (.t 1)),
 oO 4 (.alloc 1 4 [.int .u64 0])])
 (.seq (.ops [
 oO 5 (.load 4 true (.t 2)),
 oO 6 (.load 4 true (.t 3)),
 oK 7 F_witanref01_FSub [.c (.int .i64 0),.t 5,.t 6],
 ⟨none,.stA 1 4 4 (.t 4) (.t 7),none⟩])
 .ret))⟩
theorem K_witanref01_sub:chkFun DK Pg Tryz.f220 A_witanref01_sub=true:=by kernel_rfl
theorem B_witanref01_sub {args:List AV} {m:Mem} {K:AV->Mem->Prop} (h:vcFun DK Pg A_witanref01_sub args m K):ACall Pg F_witanref01_sub args m K:=call_body mixed Tryz.func220 (by kernel_rfl) K_witanref01_sub h
noncomputable def A_bin_room:AFun:=⟨1,6,[.t 2],
 (.seq (.ops [
 oO 2 (.mv (.c (.int .i64 0)))])
 (.seq (.ops [
 oM 3 0,
 oO 4 (.bin .mul (.c (.int .i64 8)) (.t 3)),
 oO 5 (.bin .shl (.c (.int .i64 1)) (.t 4)),
 oM 2 5])
 .ret))⟩
theorem K_bin_room:chkFun DK Pg Tryz.f221 A_bin_room=true:=by kernel_rfl
theorem B_bin_room {args:List AV} {m:Mem} {K:AV->Mem->Prop} (h:vcFun DK Pg A_bin_room args m K):ACall Pg F_bin_room args m K:=call_body mixed Tryz.func221 (by kernel_rfl) K_bin_room h
noncomputable def A_curve_add:AFun:=⟨2,8,[.cell 4 4 true],
 (.seq (.ops [
 oO 2 (.box 1 4 (.t 0)),
 oO 3 (.box 1 4 (.t 1)),
 oO 4 (.alloc 1 4 [.int .u64 0])])
 (.seq (.ops [
 oO 5 (.load 4 true (.t 2)),
 oO 6 (.load 4 true (.t 3)),
 oK 7 F_field_Add [.c (.int .i64 0),.t 5,.t 6],
 ⟨none,.stA 1 4 4 (.t 4) (.t 7),none⟩])
 .ret))⟩
theorem K_curve_add:chkFun DK Pg Tryz.f222 A_curve_add=true:=by kernel_rfl
theorem B_curve_add {args:List AV} {m:Mem} {K:AV->Mem->Prop} (h:vcFun DK Pg A_curve_add args m K):ACall Pg F_curve_add args m K:=call_body mixed Tryz.func222 (by kernel_rfl) K_curve_add h
noncomputable def A_witanref04_be:AFun:=⟨2,23,[.t 4],
 (.seq (.ops [
 oO 4 (.mv (.c (.nils)))])
 (.seq (.ops [
 oO 5 (.mv (.c (.nils)))])
 (.seq (.seq (.ops [
 oM 7 1,
 oO 8 (.bin .sub (.t 7) (.c (.int .i64 1))),
 oM 6 8])
 (.block 0
 (.loop
 (.seq (.seq (.ops [
 oM 9 6,
 oO 10 (.bin .geq (.t 9) (.c (.int .i64 0)))])
 (.cond (.t 10)
 .skip
 (.exit 0)))
 (.seq (.block 1
 (.ops [
 oM 13 5,
 oM 14 0,
 oM 15 6,
 oO 16 (.bin .mul (.c (.int .i64 8)) (.t 15)),
 oO 17 (.conv .u64 (.t 16)),
 oO 18 (.bin .shr (.t 14) (.t 17)),
 oO 19 (.conv .u8 (.t 18)),
 oO 20 (.bsl 1 1 [.int .u8 0] [(0,1,.t 19)]),
 oO 21 (.app 1 1 (.t 13) (.t 20)),
 oM 5 21]))
 (.ops [
 oM 11 6,
 oO 12 (.bin .sub (.t 11) (.c (.int .i64 1))),
 oM 6 12]))))))
 (.seq (.ops [
 oM 22 5,
 oM 4 22])
 .ret))))⟩
theorem K_witanref04_be:chkFun DK Pg Tryz.f226 A_witanref04_be=true:=by kernel_rfl
theorem B_witanref04_be {args:List AV} {m:Mem} {K:AV->Mem->Prop} (h:vcFun DK Pg A_witanref04_be args m K):ACall Pg F_witanref04_be args m K:=call_body mixed Tryz.func226 (by kernel_rfl) K_witanref04_be h
noncomputable def A_witanref04_k256:AFun:=⟨0,2,[.cell 0 64 true],
 (.seq (.ops [
 oO 0 (.alloc 1 64 [.int .u32 0])])
 (.seq (.ops [
 oO 1 (.build (List.replicate 64 (.int .u32 0)) [(0,1,.c (.int .u32 1116352408)),(1,1,.c (.int .u32 1899447441)),(2,1,.c (.int .u32 3049323471)),(3,1,.c (.int .u32 3921009573)),(4,1,.c (.int .u32 961987163)),(5,1,.c (.int .u32 1508970993)),(6,1,.c (.int .u32 2453635748)),(7,1,.c (.int .u32 2870763221)),(8,1,.c (.int .u32 3624381080)),(9,1,.c (.int .u32 310598401)),(10,1,.c (.int .u32 607225278)),(11,1,.c (.int .u32 1426881987)),(12,1,.c (.int .u32 1925078388)),(13,1,.c (.int .u32 2162078206)),(14,1,.c (.int .u32 2614888103)),(15,1,.c (.int .u32 3248222580)),(16,1,.c (.int .u32 3835390401)),(17,1,.c (.int .u32 4022224774)),(18,1,.c (.int .u32 264347078)),(19,1,.c (.int .u32 604807628)),(20,1,.c (.int .u32 770255983)),(21,1,.c (.int .u32 1249150122)),(22,1,.c (.int .u32 1555081692)),(23,1,.c (.int .u32 1996064986)),(24,1,.c (.int .u32 2554220882)),(25,1,.c (.int .u32 2821834349)),(26,1,.c (.int .u32 2952996808)),(27,1,.c (.int .u32 3210313671)),(28,1,.c (.int .u32 3336571891)),(29,1,.c (.int .u32 3584528711)),(30,1,.c (.int .u32 113926993)),(31,1,.c (.int .u32 338241895)),(32,1,.c (.int .u32 666307205)),(33,1,.c (.int .u32 773529912)),(34,1,.c (.int .u32 1294757372)),(35,1,.c (.int .u32 1396182291)),(36,1,.c (.int .u32 1695183700)),(37,1,.c (.int .u32 1986661051)),(38,1,.c (.int .u32 2177026350)),(39,1,.c (.int .u32 2456956037)),(40,1,.c (.int .u32 2730485921)),(41,1,.c (.int .u32 2820302411)),(42,1,.c (.int .u32 3259730800)),(43,1,.c (.int .u32 3345764771)),(44,1,.c (.int .u32 3516065817)),(45,1,.c (.int .u32 3600352804)),(46,1,.c (.int .u32 4094571909)),(47,1,.c (.int .u32 275423344)),(48,1,.c (.int .u32 430227734)),(49,1,.c (.int .u32 506948616)),(50,1,.c (.int .u32 659060556)),(51,1,.c (.int .u32 883997877)),(52,1,.c (.int .u32 958139571)),(53,1,.c (.int .u32 1322822218)),(54,1,.c (.int .u32 1537002063)),(55,1,.c (.int .u32 1747873779)),(56,1,.c (.int .u32 1955562222)),(57,1,.c (.int .u32 2024104815)),(58,1,.c (.int .u32 2227730452)),(59,1,.c (.int .u32 2361852424)),(60,1,.c (.int .u32 2428436474)),(61,1,.c (.int .u32 2756734187)),(62,1,.c (.int .u32 3204031479)),(63,1,.c (.int .u32 3329325298))]),
 oS 64 0 1])
 .ret))⟩
theorem K_witanref04_k256:chkFun DK Pg Tryz.f227 A_witanref04_k256=true:=by kernel_rfl
theorem B_witanref04_k256 {args:List AV} {m:Mem} {K:AV->Mem->Prop} (h:vcFun DK Pg A_witanref04_k256 args m K):ACall Pg F_witanref04_k256 args m K:=call_body mixed Tryz.func227 (by kernel_rfl) K_witanref04_k256 h
noncomputable def A_witanref04_padded:AFun:=⟨1,37,[.t 2],
 (.seq (.ops [
 oO 2 (.mv (.c (.nils)))])
 (.seq (.ops [
 oO 3 (.mv (.c (.nils)))])
 (.seq (.ops [
 oM 6 3,
 oM 7 0,
 oO 8 (.app 1 1 (.t 6) (.t 7)),
 oO 9 (.bsl 1 1 [.int .u8 0] [(0,1,.c (.int .u8 128))]),
 oO 10 (.app 1 1 (.t 8) (.t 9)),
 oM 3 10])
 (.seq (.block 0
 (.loop
 (.seq (.seq (.ops [
 oM 11 3,
 oO 12 (.len (.t 11)),
 oO 13 (.bin .add (.t 12) (.c (.int .i64 8))),
 oO 14 (.bin .rem (.t 13) (.c (.int .i64 64))),
 oO 15 (.bin .neq (.t 14) (.c (.int .i64 0)))])
 (.cond (.t 15)
 .skip
 (.exit 0)))
 (.block 1
 (.ops [
 oM 16 3,
 oO 17 (.bsl 1 1 [.int .u8 0] [(0,1,.c (.int .u8 0))]),
 oO 18 (.app 1 1 (.t 16) (.t 17)),
 oM 3 18])))))
 (.seq (.ops [
 oM 19 0,
 oO 20 (.len (.t 19)),
 oO 21 (.conv .u64 (.t 20)),
 oO 22 (.bin .mul (.t 21) (.c (.int .u64 8))),
 oM 4 22])
 (.seq (.seq (.ops [
 oO 5 (.mv (.c (.int .i64 7)))])
 (.block 2
 (.loop
 (.seq (.seq (.ops [
 oM 23 5,
 oO 24 (.bin .geq (.t 23) (.c (.int .i64 0)))])
 (.cond (.t 24)
 .skip
 (.exit 2)))
 (.seq (.block 3
 (.ops [
 oM 27 3,
 oM 28 4,
 oM 29 5,
 oO 30 (.conv .u64 (.t 29)),
 oO 31 (.bin .mul (.c (.int .u64 8)) (.t 30)),
 oO 32 (.bin .shr (.t 28) (.t 31)),
 oO 33 (.conv .u8 (.t 32)),
 oO 34 (.bsl 1 1 [.int .u8 0] [(0,1,.t 33)]),
 oO 35 (.app 1 1 (.t 27) (.t 34)),
 oM 3 35]))
 (.ops [
 oM 25 5,
 oO 26 (.bin .sub (.t 25) (.c (.int .i64 1))),
 oM 5 26]))))))
 (.seq (.ops [
 oM 36 3,
 oM 2 36])
 .ret)))))))⟩
theorem K_witanref04_padded:chkFun DK Pg Tryz.f228 A_witanref04_padded=true:=by kernel_rfl
theorem B_witanref04_padded {args:List AV} {m:Mem} {K:AV->Mem->Prop} (h:vcFun DK Pg A_witanref04_padded args m K):ACall Pg F_witanref04_padded args m K:=call_body mixed Tryz.func228 (by kernel_rfl) K_witanref04_padded h
noncomputable def A_witanref04_rot32:AFun:=⟨2,9,[.t 4],
 (.seq (.ops [
 oO 4 (.mv (.c (.int .u32 0)))])
 (.seq (.ops [
 oM 5 0,
 oM 6 1,
 oO 7 (.un .neg (.t 6)),
 oK 8 F_bits_RotateLeft32 [.t 5,.t 7],
 oM 4 8])
 .ret))⟩
theorem K_witanref04_rot32:chkFun DK Pg Tryz.f229 A_witanref04_rot32=true:=by kernel_rfl
theorem B_witanref04_rot32 {args:List AV} {m:Mem} {K:AV->Mem->Prop} (h:vcFun DK Pg A_witanref04_rot32 args m K):ACall Pg F_witanref04_rot32 args m K:=call_body mixed Tryz.func229 (by kernel_rfl) K_witanref04_rot32 h
noncomputable def A_witanref01_Pow:AFun:=⟨3,31,[.cell 6 4 true],
 (.seq (.ops [
 oO 4 (.box 1 4 (.t 1)),
 oO 5 (.box 1 4 (.t 2)),
 oO 6 (.alloc 1 4 [.int .u64 0])])
 (.seq (.seq (.ops [
 oM 9 0,
 oK 10 F_witanref01_ok [.t 9],
 oO 11 (.un .not (.t 10))])
 (.cond (.t 11)
 (.seq (.ops [
 oO 12 (.build [.int .u64 0,.int .u64 0,.int .u64 0,.int .u64 0] []),
 ⟨none,.stA 1 4 4 (.t 6) (.t 12),none⟩])
 .ret)
 .skip))
 (.seq (.ops [
 oO 13 (.build [.int .u64 0,.int .u64 0,.int .u64 0,.int .u64 0] [(0,1,.c (.int .u64 1))]),
 oO 7 (.alloc 1 4 [.int .u64 0]),
 ⟨none,.stA 1 4 4 (.t 7) (.t 13),none⟩])
 (.seq (.seq (.ops [
 oO 8 (.mv (.c (.int .i64 255)))])
 (.block 0
 (.loop
 (.seq (.seq (.ops [
 oM 14 8,
 oO 15 (.bin .geq (.t 14) (.c (.int .i64 0)))])
 (.cond (.t 15)
 .skip
 (.exit 0)))
 (.seq (.block 1
 (.seq (.ops [
 oM 18 0,
 oO 19 (.load 4 true (.t 7)),
 oO 20 (.load 4 true (.t 7)),
 oK 21 F_witanref01_FMul [.t 18,.t 19,.t 20],
 ⟨none,.stA 1 4 4 (.t 7) (.t 21),none⟩])
 (.seq (.ops [
 oO 22 (.load 4 true (.t 5)),
 oM 23 8,
 oK 24 F_witanref01_Bit [.t 22,.t 23],
 oO 25 (.bin .eql (.t 24) (.c (.int .i64 1)))])
 (.cond (.t 25)
 (.ops [
 oM 26 0,
 oO 27 (.load 4 true (.t 7)),
 oO 28 (.load 4 true (.t 4)),
 oK 29 F_witanref01_FMul [.t 26,.t 27,.t 28],
 ⟨none,.stA 1 4 4 (.t 7) (.t 29),none⟩])
 .skip))))
 (.ops [
 oM 16 8,
 oO 17 (.bin .sub (.t 16) (.c (.int .i64 1))),
 oM 8 17]))))))
 (.seq (.ops [
 oO 30 (.load 4 true (.t 7)),
 ⟨none,.stA 1 4 4 (.t 6) (.t 30),none⟩])
 .ret)))))⟩
theorem K_witanref01_Pow:chkFun DK Pg Tryz.f230 A_witanref01_Pow=true:=by kernel_rfl
theorem B_witanref01_Pow {args:List AV} {m:Mem} {K:AV->Mem->Prop} (h:vcFun DK Pg A_witanref01_Pow args m K):ACall Pg F_witanref01_Pow args m K:=call_body mixed Tryz.func230 (by kernel_rfl) K_witanref01_Pow h
noncomputable def A_witanref01_Mul:AFun:=⟨2,81,[.cell 4 4 true,.cell 5 4 true],
 (.seq (.ops [
 oO 2 (.box 1 4 (.t 0)),
 oO 3 (.box 1 4 (.t 1)),
 oO 4 (.alloc 1 4 [.int .u64 0]),
 oO 5 (.alloc 1 4 [.int .u64 0])])
 (.seq (.ops [
 oO 6 (.alloc 1 8 [.int .u64 0])])
 (.seq (.seq (.ops [
 oO 7 (.mv (.c (.int .i64 0)))])
 (.block 0
 (.loop
 (.seq (.seq (.ops [
 oM 13 7,
 oO 14 (.bin .lss (.t 13) (.c (.int .i64 4)))])
 (.cond (.t 14)
 .skip
 (.exit 0)))
 (.seq (.block 1
 (.seq (.ops [
 oO 8 (.mv (.c (.int .u64 0)))])
 (.seq (.seq (.ops [
 oO 9 (.mv (.c (.int .i64 0)))])
 (.block 2
 (.loop
 (.seq (.seq (.ops [
 oM 17 9,
 oO 18 (.bin .lss (.t 17) (.c (.int .i64 4)))])
 (.cond (.t 18)
 .skip
 (.exit 2)))
 (.seq (.block 3
 (.seq (.draw [
 oM 22 7,
 oO 23 (.idxP 4 1 (.t 2) (.t 22)),
 oO 24 (.load 1 false (.t 23)),
 oM 25 9,
 oO 26 (.idxP 4 1 (.t 3) (.t 25)),
 oO 27 (.load 1 false (.t 26)),
 oK 28 F_bits_Mul64 [.t 24,.t 27],
 oM 21 28,
 oO 29 (.ext (.t 21) 0),
 oO 30 (.ext (.t 21) 1),
 oM 10 29,
 oM 11 30] ⟨.all,[],.look 0 (.look 1 (.look 2 (.look 3 (.look 4 (.look 5 (.run 6 false (.look 7 (.look 8 (.look 9 (.look 10 (.look 11 .done)))))))))))⟩)
 (.seq (.ops [
 oM 32 11,
 oM 33 7,
 oM 34 9,
 oO 35 (.binF .add (.t 33) (.t 34)),
 oO 36 (.idxP 8 1 (.t 6) (.t 35)),
 oO 37 (.load 1 false (.t 36)),
 oO 38 (.x64 false F_bits_Add64 (.t 32) (.t 37) (.c (.int .u64 0))),
 oM 31 38,
 oO 39 (.ext (.t 31) 0),
 oO 40 (.ext (.t 31) 1),
 oM 11 39,
 oM 12 40])
 (.seq (.ops [
 oM 41 10,
 oM 42 12,
 oO 43 (.bin .add (.t 41) (.t 42)),
 oM 10 43])
 (.seq (.ops [
 oM 45 11,
 oM 46 8,
 oO 47 (.x64 false F_bits_Add64 (.t 45) (.t 46) (.c (.int .u64 0))),
 oM 44 47,
 oO 48 (.ext (.t 44) 0),
 oO 49 (.ext (.t 44) 1),
 oM 11 48,
 oM 12 49])
 (.seq (.ops [
 oM 50 10,
 oM 51 12,
 oO 52 (.bin .add (.t 50) (.t 51)),
 oM 10 52])
 (.ops [
 oM 53 7,
 oM 54 9,
 oO 55 (.binF .add (.t 53) (.t 54)),
 oM 56 11,
 oM 57 10,
 oO 58 (.idxP 8 1 (.t 6) (.t 55)),
 ⟨none,.stA 1 8 1 (.t 58) (.t 56),none⟩,
 oM 8 57])))))))
 (.ops [
 oM 19 9,
 oO 20 (.binF .add (.t 19) (.c (.int .i64 1))),
 oM 9 20]))))))
 (.ops [
 oM 59 7,
 oO 60 (.binF .add (.t 59) (.c (.int .i64 4))),
 oM 61 8,
 oO 62 (.idxP 8 1 (.t 6) (.t 60)),
 ⟨none,.stA 1 8 1 (.t 62) (.t 61),none⟩]))))
 (.ops [
 oM 15 7,
 oO 16 (.binF .add (.t 15) (.c (.int .i64 1))),
 oM 7 16]))))))
 (.seq (.draw [
 oO 63 (.idxP 8 1 (.t 6) (.c (.int .i64 0))),
 oO 64 (.load 1 false (.t 63)),
 oO 65 (.idxP 8 1 (.t 6) (.c (.int .i64 1))),
 oO 66 (.load 1 false (.t 65)),
 oO 67 (.idxP 8 1 (.t 6) (.c (.int .i64 2))),
 oO 68 (.load 1 false (.t 67)),
 oO 69 (.idxP 8 1 (.t 6) (.c (.int .i64 3))),
 oO 70 (.load 1 false (.t 69)),
 oO 71 (.build [.int .u64 0,.int .u64 0,.int .u64 0,.int .u64 0] [(0,1,.t 64),(1,1,.t 66),(2,1,.t 68),(3,1,.t 70)]),
 oO 72 (.idxP 8 1 (.t 6) (.c (.int .i64 4))),
 oO 73 (.load 1 false (.t 72)),
 oO 74 (.idxP 8 1 (.t 6) (.c (.int .i64 5))),
 oO 75 (.load 1 false (.t 74)),
 oO 76 (.idxP 8 1 (.t 6) (.c (.int .i64 6))),
 oO 77 (.load 1 false (.t 76)),
 oO 78 (.idxP 8 1 (.t 6) (.c (.int .i64 7))),
 oO 79 (.load 1 false (.t 78)),
 oO 80 (.build [.int .u64 0,.int .u64 0,.int .u64 0,.int .u64 0] [(0,1,.t 73),(1,1,.t 75),(2,1,.t 77),(3,1,.t 79)]),
 ⟨none,.stA 1 4 4 (.t 4) (.t 71),none⟩,
 ⟨none,.stA 1 4 4 (.t 5) (.t 80),none⟩] ⟨(.but [4]),[],.look 0 (.look 1 (.look 2 (.look 3 (.look 4 (.look 5 (.look 6 (.look 7 (.look 8 (.look 9 (.look 10 (.look 11 (.look 12 (.look 13 (.look 14 (.look 15 (.look 16 (.look 17 (.run 18 true (.run 19 false .done)))))))))))))))))))⟩)
 .ret))))⟩
theorem K_witanref01_Mul:chkFun DK Pg Tryz.f231 A_witanref01_Mul=true:=by kernel_rfl
theorem B_witanref01_Mul {args:List AV} {m:Mem} {K:AV->Mem->Prop} (h:vcFun DK Pg A_witanref01_Mul args m K):ACall Pg F_witanref01_Mul args m K:=call_body mixed Tryz.func231 (by kernel_rfl) K_witanref01_Mul h
noncomputable def A_draw_number:AFun:=⟨2,22,[.t 4],
 (.seq (.ops [
 oO 4 (.mv (.c (.nils)))])
 (.seq (.ops [
 oO 5 (.mv (.c (.nils)))])
 (.seq (.seq (.ops [
 oM 7 1,
 oO 8 (.bin .sub (.t 7) (.c (.int .i64 1))),
 oM 6 8])
 (.block 0
 (.loop
 (.seq (.seq (.ops [
 oM 9 6,
 oO 10 (.bin .geq (.t 9) (.c (.int .i64 0)))])
 (.cond (.t 10)
 .skip
 (.exit 0)))
 (.seq (.block 1
 (.ops [
 oM 13 5,
 oM 14 0,
 oM 15 6,
 oO 16 (.bin .mul (.c (.int .i64 8)) (.t 15)),
 oO 17 (.bin .shr (.t 14) (.t 16)),
 oO 18 (.conv .u8 (.t 17)),
 oO 19 (.bsl 1 1 [.int .u8 0] [(0,1,.t 18)]),
 oO 20 (.app 1 1 (.t 13) (.t 19)),
 oM 5 20]))
 (.ops [
 oM 11 6,
 oO 12 (.bin .sub (.t 11) (.c (.int .i64 1))),
 oM 6 12]))))))
 (.seq (.ops [
 oM 21 5,
 oM 4 21])
 .ret))))⟩
theorem K_draw_number:chkFun DK Pg Tryz.f232 A_draw_number=true:=by kernel_rfl
theorem B_draw_number {args:List AV} {m:Mem} {K:AV->Mem->Prop} (h:vcFun DK Pg A_draw_number args m K):ACall Pg F_draw_number args m K:=call_body mixed Tryz.func232 (by kernel_rfl) K_draw_number h
noncomputable def A_sha_rounds:AFun:=⟨0,2,[.t 0],
 (.seq (.ops [
 oO 0 (.mv (.c (.nils)))])
 (.seq (.ops [
 oO 1 (.bsl 1 64 [.int .u32 0] [(0,1,.c (.int .u32 1116352408)),(1,1,.c (.int .u32 1899447441)),(2,1,.c (.int .u32 3049323471)),(3,1,.c (.int .u32 3921009573)),(4,1,.c (.int .u32 961987163)),(5,1,.c (.int .u32 1508970993)),(6,1,.c (.int .u32 2453635748)),(7,1,.c (.int .u32 2870763221)),(8,1,.c (.int .u32 3624381080)),(9,1,.c (.int .u32 310598401)),(10,1,.c (.int .u32 607225278)),(11,1,.c (.int .u32 1426881987)),(12,1,.c (.int .u32 1925078388)),(13,1,.c (.int .u32 2162078206)),(14,1,.c (.int .u32 2614888103)),(15,1,.c (.int .u32 3248222580)),(16,1,.c (.int .u32 3835390401)),(17,1,.c (.int .u32 4022224774)),(18,1,.c (.int .u32 264347078)),(19,1,.c (.int .u32 604807628)),(20,1,.c (.int .u32 770255983)),(21,1,.c (.int .u32 1249150122)),(22,1,.c (.int .u32 1555081692)),(23,1,.c (.int .u32 1996064986)),(24,1,.c (.int .u32 2554220882)),(25,1,.c (.int .u32 2821834349)),(26,1,.c (.int .u32 2952996808)),(27,1,.c (.int .u32 3210313671)),(28,1,.c (.int .u32 3336571891)),(29,1,.c (.int .u32 3584528711)),(30,1,.c (.int .u32 113926993)),(31,1,.c (.int .u32 338241895)),(32,1,.c (.int .u32 666307205)),(33,1,.c (.int .u32 773529912)),(34,1,.c (.int .u32 1294757372)),(35,1,.c (.int .u32 1396182291)),(36,1,.c (.int .u32 1695183700)),(37,1,.c (.int .u32 1986661051)),(38,1,.c (.int .u32 2177026350)),(39,1,.c (.int .u32 2456956037)),(40,1,.c (.int .u32 2730485921)),(41,1,.c (.int .u32 2820302411)),(42,1,.c (.int .u32 3259730800)),(43,1,.c (.int .u32 3345764771)),(44,1,.c (.int .u32 3516065817)),(45,1,.c (.int .u32 3600352804)),(46,1,.c (.int .u32 4094571909)),(47,1,.c (.int .u32 275423344)),(48,1,.c (.int .u32 430227734)),(49,1,.c (.int .u32 506948616)),(50,1,.c (.int .u32 659060556)),(51,1,.c (.int .u32 883997877)),(52,1,.c (.int .u32 958139571)),(53,1,.c (.int .u32 1322822218)),(54,1,.c (.int .u32 1537002063)),(55,1,.c (.int .u32 1747873779)),(56,1,.c (.int .u32 1955562222)),(57,1,.c (.int .u32 2024104815)),(58,1,.c (.int .u32 2227730452)),(59,1,.c (.int .u32 2361852424)),(60,1,.c (.int .u32 2428436474)),(61,1,.c (.int .u32 2756734187)),(62,1,.c (.int .u32 3204031479)),(63,1,.c (.int .u32 3329325298))]),
 oM 0 1])
 .ret))⟩
theorem K_sha_rounds:chkFun DK Pg Tryz.f233 A_sha_rounds=true:=by kernel_rfl
theorem B_sha_rounds {args:List AV} {m:Mem} {K:AV->Mem->Prop} (h:vcFun DK Pg A_sha_rounds args m K):ACall Pg F_sha_rounds args m K:=call_body mixed Tryz.func233 (by kernel_rfl) K_sha_rounds h
noncomputable def A_sha_padded:AFun:=⟨1,35,[.t 2],
 (.seq (.ops [
 oO 2 (.mv (.c (.nils)))])
 (.seq (.ops [
 oO 6 (.bsl 1 0 [.int .u8 0] []),
 oM 7 0,
 oO 8 (.app 1 1 (.t 6) (.t 7)),
 oO 9 (.bsl 1 1 [.int .u8 0] [(0,1,.c (.int .u8 128))]),
 oO 10 (.app 1 1 (.t 8) (.t 9)),
 oM 3 10])
 (.seq (.block 0
 (.loop
 (.seq (.seq (.ops [
 oM 11 3,
 oO 12 (.len (.t 11)),
 oO 13 (.bin .rem (.t 12) (.c (.int .i64 64))),
 oO 14 (.bin .neq (.t 13) (.c (.int .i64 56)))])
 (.cond (.t 14)
 .skip
 (.exit 0)))
 (.block 1
 (.ops [
 oM 15 3,
 oO 16 (.bsl 1 1 [.int .u8 0] [(0,1,.c (.int .u8 0))]),
 oO 17 (.app 1 1 (.t 15) (.t 16)),
 oM 3 17])))))
 (.seq (.ops [
 oM 18 0,
 oO 19 (.len (.t 18)),
 oO 20 (.conv .u64 (.t 19)),
 oO 21 (.bin .shl (.t 20) (.c (.int .u64 3))),
 oM 4 21])
 (.seq (.seq (.ops [
 oO 5 (.mv (.c (.int .i64 7)))])
 (.block 2
 (.loop
 (.seq (.seq (.ops [
 oM 22 5,
 oO 23 (.bin .geq (.t 22) (.c (.int .i64 0)))])
 (.cond (.t 23)
 .skip
 (.exit 2)))
 (.seq (.block 3
 (.ops [
 oM 26 3,
 oM 27 4,
 oM 28 5,
 oO 29 (.bin .mul (.c (.int .i64 8)) (.t 28)),
 oO 30 (.bin .shr (.t 27) (.t 29)),
 oO 31 (.conv .u8 (.t 30)),
 oO 32 (.bsl 1 1 [.int .u8 0] [(0,1,.t 31)]),
 oO 33 (.app 1 1 (.t 26) (.t 32)),
 oM 3 33]))
 (.ops [
 oM 24 5,
 oO 25 (.bin .sub (.t 24) (.c (.int .i64 1))),
 oM 5 25]))))))
 (.seq (.ops [
 oM 34 3,
 oM 2 34])
 .ret))))))⟩
theorem K_sha_padded:chkFun DK Pg Tryz.f234 A_sha_padded=true:=by kernel_rfl
theorem B_sha_padded {args:List AV} {m:Mem} {K:AV->Mem->Prop} (h:vcFun DK Pg A_sha_padded args m K):ACall Pg F_sha_padded args m K:=call_body mixed Tryz.func234 (by kernel_rfl) K_sha_padded h
noncomputable def A_sha_high:AFun:=⟨1,19,[.t 2],
 (.seq (.ops [
 oO 2 (.mv (.c (.int .u64 0)))])
 (.seq (.ops [
 oO 3 (.mv (.c (.int .u64 0)))])
 (.seq (.seq (.ops [
 oM 6 0,
 oO 7 (.len (.t 6)),
 oO 8 (.mv (.c (.int .i64 0)))])
 (.block 0
 (.loop
 (.seq (.ops [
 oO 9 (.bin .lss (.t 8) (.t 7))])
 (.seq (.cond (.t 9)
 .skip
 (.exit 0))
 (.seq (.block 1
 (.seq (.ops [
 oO 10 (.idxA 1 (.t 6) (.t 8)),
 oO 11 (.load 1 false (.t 10)),
 oM 5 11])
 (.ops [
 oM 12 3,
 oO 13 (.bin .shl (.t 12) (.c (.int .u64 8))),
 oM 14 5,
 oO 15 (.conv .u64 (.t 14)),
 oO 16 (.bin .or (.t 13) (.t 15)),
 oM 3 16])))
 (.ops [
 oO 17 (.bin .add (.t 8) (.c (.int .i64 1))),
 oM 8 17])))))))
 (.seq (.ops [
 oM 18 3,
 oM 2 18])
 .ret))))⟩
theorem K_sha_high:chkFun DK Pg Tryz.f235 A_sha_high=true:=by kernel_rfl
theorem B_sha_high {args:List AV} {m:Mem} {K:AV->Mem->Prop} (h:vcFun DK Pg A_sha_high args m K):ACall Pg F_sha_high args m K:=call_body mixed Tryz.func235 (by kernel_rfl) K_sha_high h
noncomputable def A_bits_RotateLeft32:AFun:=⟨2,17,[.t 4],
 (.seq (.ops [
 oO 4 (.mv (.c (.int .u32 0)))])
 (.seq (.ops [
 oM 6 1,
 oO 7 (.conv .u64 (.t 6)),
 oO 8 (.bin .and (.t 7) (.c (.int .u64 31))),
 oM 5 8])
 (.seq (.ops [
 oM 9 0,
 oM 10 5,
 oO 11 (.bin .shl (.t 9) (.t 10)),
 oM 12 0,
 oM 13 5,
 oO 14 (.bin .sub (.c (.int .u64 32)) (.t 13)),
 oO 15 (.bin .shr (.t 12) (.t 14)),
 oO 16 (.bin .or (.t 11) (.t 15)),
 oM 4 16])
 .ret)))⟩
theorem K_bits_RotateLeft32:chkFun DK Pg Tryz.f236 A_bits_RotateLeft32=true:=by kernel_rfl
theorem B_bits_RotateLeft32 {args:List AV} {m:Mem} {K:AV->Mem->Prop} (h:vcFun DK Pg A_bits_RotateLeft32 args m K):ACall Pg F_bits_RotateLeft32 args m K:=call_body mixed Tryz.func236 (by kernel_rfl) K_bits_RotateLeft32 h
noncomputable def A_bits_Mul64:AFun:=⟨2,51,[.t 4,.t 5],
 (.seq (.ops [
 oO 4 (.mv (.c (.int .u64 0))),
 oO 5 (.mv (.c (.int .u64 0)))])
 (.seq (.ops [
 oM 14 0,
 oO 15 (.bin .and (.t 14) (.c (.int .u64 4294967295))),
 oM 6 15])
 (.seq (.ops [
 oM 16 0,
 oO 17 (.bin .shr (.t 16) (.c (.int .u64 32))),
 oM 7 17])
 (.seq (.ops [
 oM 18 1,
 oO 19 (.bin .and (.t 18) (.c (.int .u64 4294967295))),
 oM 8 19])
 (.seq (.ops [
 oM 20 1,
 oO 21 (.bin .shr (.t 20) (.c (.int .u64 32))),
 oM 9 21])
 (.seq (.ops [
 oM 22 6,
 oM 23 8,
 oO 24 (.bin .mul (.t 22) (.t 23)),
 oM 10 24])
 (.seq (.ops [
 oM 25 7,
 oM 26 8,
 oO 27 (.bin .mul (.t 25) (.t 26)),
 oM 28 10,
 oO 29 (.bin .shr (.t 28) (.c (.int .u64 32))),
 oO 30 (.bin .add (.t 27) (.t 29)),
 oM 11 30])
 (.seq (.ops [
 oM 31 11,
 oO 32 (.bin .and (.t 31) (.c (.int .u64 4294967295))),
 oM 12 32])
 (.seq (.ops [
 oM 33 11,
 oO 34 (.bin .shr (.t 33) (.c (.int .u64 32))),
 oM 13 34])
 (.seq (.ops [
 oM 35 12,
 oM 36 6,
 oM 37 9,
 oO 38 (.bin .mul (.t 36) (.t 37)),
 oO 39 (.bin .add (.t 35) (.t 38)),
 oM 12 39])
 (.seq (.ops [
 oM 40 7,
 oM 41 9,
 oO 42 (.bin .mul (.t 40) (.t 41)),
 oM 43 13,
 oO 44 (.bin .add (.t 42) (.t 43)),
 oM 45 12,
 oO 46 (.bin .shr (.t 45) (.c (.int .u64 32))),
 oO 47 (.bin .add (.t 44) (.t 46)),
 oM 4 47])
 (.seq (.ops [
 oM 48 0,
 oM 49 1,
 oO 50 (.bin .mul (.t 48) (.t 49)),
 oM 5 50])
 .ret))))))))))))⟩
theorem K_bits_Mul64:chkFun DK Pg Tryz.f237 A_bits_Mul64=true:=by kernel_rfl
theorem B_bits_Mul64 {args:List AV} {m:Mem} {K:AV->Mem->Prop} (h:vcFun DK Pg A_bits_Mul64 args m K):ACall Pg F_bits_Mul64 args m K:=call_body mixed Tryz.func237 (by kernel_rfl) K_bits_Mul64 h
noncomputable def A_bits_Len64:AFun:=⟨1,25,[.t 2],
 (.seq (.ops [
 oO 2 (.mv (.c (.int .i64 0)))])
 (.seq (.seq (.ops [
 oM 3 0,
 oO 4 (.bin .geq (.t 3) (.c (.int .u64 4294967296)))])
 (.cond (.t 4)
 (.seq (.ops [
 oM 5 0,
 oO 6 (.bin .shr (.t 5) (.c (.int .u64 32))),
 oM 0 6])
 (.ops [
 oO 2 (.mv (.c (.int .i64 32)))]))
 .skip))
 (.seq (.seq (.ops [
 oM 7 0,
 oO 8 (.bin .geq (.t 7) (.c (.int .u64 65536)))])
 (.cond (.t 8)
 (.seq (.ops [
 oM 9 0,
 oO 10 (.bin .shr (.t 9) (.c (.int .u64 16))),
 oM 0 10])
 (.ops [
 oM 11 2,
 oO 12 (.bin .add (.t 11) (.c (.int .i64 16))),
 oM 2 12]))
 .skip))
 (.seq (.seq (.ops [
 oM 13 0,
 oO 14 (.bin .geq (.t 13) (.c (.int .u64 256)))])
 (.cond (.t 14)
 (.seq (.ops [
 oM 15 0,
 oO 16 (.bin .shr (.t 15) (.c (.int .u64 8))),
 oM 0 16])
 (.ops [
 oM 17 2,
 oO 18 (.bin .add (.t 17) (.c (.int .i64 8))),
 oM 2 18]))
 .skip))
 (.seq (.ops [
 oM 19 2,
 oM 20 0,
 oO 21 (.conv .u8 (.t 20)),
 ⟨some 22,.idxs (.c (.str ⟨#[0,1,2,2,3,3,3,3,4,4,4,4,4,4,4,4,5,5,5,5,5,5,5,5,5,5,5,5,5,5,5,5,6,6,6,6,6,6,6,6,6,6,6,6,6,6,6,6,6,6,6,6,6,6,6,6,6,6,6,6,6,6,6,6,7,7,7,7,7,7,7,7,7,7,7,7,7,7,7,7,7,7,7,7,7,7,7,7,7,7,7,7,7,7,7,7,7,7,7,7,7,7,7,7,7,7,7,7,7,7,7,7,7,7,7,7,7,7,7,7,7,7,7,7,7,7,7,7,8,8,8,8,8,8,8,8,8,8,8,8,8,8,8,8,8,8,8,8,8,8,8,8,8,8,8,8,8,8,8,8,8,8,8,8,8,8,8,8,8,8,8,8,8,8,8,8,8,8,8,8,8,8,8,8,8,8,8,8,8,8,8,8,8,8,8,8,8,8,8,8,8,8,8,8,8,8,8,8,8,8,8,8,8,8,8,8,8,8,8,8,8,8,8,8,8,8,8,8,8,8,8,8,8,8,8,8,8,8,8,8,8,8,8,8,8,8,8,8,8,8,8,8,8,8,8,8]⟩)) (.t 21),none⟩,
 oO 23 (.conv .i64 (.t 22)),
 oO 24 (.bin .add (.t 19) (.t 23)),
 oM 2 24])
 .ret)))))⟩
theorem K_bits_Len64:chkFun DK Pg Tryz.f238 A_bits_Len64=true:=by kernel_rfl
theorem B_bits_Len64 {args:List AV} {m:Mem} {K:AV->Mem->Prop} (h:vcFun DK Pg A_bits_Len64 args m K):ACall Pg F_bits_Len64 args m K:=call_body mixed Tryz.func238 (by kernel_rfl) K_bits_Len64 h
noncomputable def A_curve_sub:AFun:=⟨2,8,[.cell 4 4 true],
 (.seq (.ops [
 oO 2 (.box 1 4 (.t 0)),
 oO 3 (.box 1 4 (.t 1)),
 oO 4 (.alloc 1 4 [.int .u64 0])])
 (.seq (.ops [
 oO 5 (.load 4 true (.t 2)),
 oO 6 (.load 4 true (.t 3)),
 oK 7 F_field_Sub [.c (.int .i64 0),.t 5,.t 6],
 ⟨none,.stA 1 4 4 (.t 4) (.t 7),none⟩])
 .ret))⟩
theorem K_curve_sub:chkFun DK Pg Tryz.f239 A_curve_sub=true:=by kernel_rfl
theorem B_curve_sub {args:List AV} {m:Mem} {K:AV->Mem->Prop} (h:vcFun DK Pg A_curve_sub args m K):ACall Pg F_curve_sub args m K:=call_body mixed Tryz.func239 (by kernel_rfl) K_curve_sub h
noncomputable def A_field_Pow:AFun:=⟨3,40,[.cell 6 4 true],
 (.seq (.ops [
 oO 4 (.box 1 4 (.t 1)),
 oO 5 (.box 1 4 (.t 2)),
 oO 6 (.alloc 1 4 [.int .u64 0])])
 (.seq (.ops [
 oM 12 0,
 oK 13 F_field_less [.t 12],
 oM 11 13,
 oO 14 (.ext (.t 11) 0),
 oO 15 (.ext (.t 11) 1),
 oO 7 (.alloc 1 4 [.int .u64 0]),
 ⟨none,.stA 1 4 4 (.t 7) (.t 14),none⟩,
 oM 8 15])
 (.seq (.seq (.ops [
 oM 16 8,
 oO 17 (.un .not (.t 16))])
 (.cond (.t 17)
 (.seq (.ops [
 oO 18 (.build [.int .u64 0,.int .u64 0,.int .u64 0,.int .u64 0] []),
 ⟨none,.stA 1 4 4 (.t 6) (.t 18),none⟩])
 .ret)
 .skip))
 (.seq (.ops [
 oO 19 (.build [.int .u64 0,.int .u64 0,.int .u64 0,.int .u64 0] [(0,1,.c (.int .u64 1))]),
 oO 9 (.alloc 1 4 [.int .u64 0]),
 ⟨none,.stA 1 4 4 (.t 9) (.t 19),none⟩])
 (.seq (.seq (.ops [
 oO 20 (.load 4 true (.t 5)),
 oK 21 F_limb_Len [.t 20],
 oO 22 (.bin .sub (.t 21) (.c (.int .i64 1))),
 oM 10 22])
 (.block 0
 (.loop
 (.seq (.seq (.ops [
 oM 23 10,
 oO 24 (.bin .geq (.t 23) (.c (.int .i64 0)))])
 (.cond (.t 24)
 .skip
 (.exit 0)))
 (.seq (.block 1
 (.seq (.ops [
 oM 27 0,
 oO 28 (.load 4 true (.t 9)),
 oO 29 (.load 4 true (.t 9)),
 oK 30 F_field_Mul [.t 27,.t 28,.t 29],
 ⟨none,.stA 1 4 4 (.t 9) (.t 30),none⟩])
 (.seq (.ops [
 oO 31 (.load 4 true (.t 5)),
 oM 32 10,
 oK 33 F_limb_Bit [.t 31,.t 32],
 oO 34 (.bin .eql (.t 33) (.c (.int .i64 1)))])
 (.cond (.t 34)
 (.ops [
 oM 35 0,
 oO 36 (.load 4 true (.t 9)),
 oO 37 (.load 4 true (.t 4)),
 oK 38 F_field_Mul [.t 35,.t 36,.t 37],
 ⟨none,.stA 1 4 4 (.t 9) (.t 38),none⟩])
 .skip))))
 (.ops [
 oM 25 10,
 oO 26 (.bin .sub (.t 25) (.c (.int .i64 1))),
 oM 10 26]))))))
 (.seq (.ops [
 oO 39 (.load 4 true (.t 9)),
 ⟨none,.stA 1 4 4 (.t 6) (.t 39),none⟩])
 .ret))))))⟩
theorem K_field_Pow:chkFun DK Pg Tryz.f240 A_field_Pow=true:=by kernel_rfl
theorem B_field_Pow {args:List AV} {m:Mem} {K:AV->Mem->Prop} (h:vcFun DK Pg A_field_Pow args m K):ACall Pg F_field_Pow args m K:=call_body mixed Tryz.func240 (by kernel_rfl) K_field_Pow h
noncomputable def A_field_Read:AFun:=⟨2,28,[.cell 4 4 true,.t 5],
 (.seq (.ops [
 oO 3 (.box 1 32 (.t 1)),
 oO 4 (.alloc 1 4 [.int .u64 0]),
 oO 5 (.mv (.c (.int .i64 0)))])
 (.seq (.ops [
 oM 10 0,
 oK 11 F_field_less [.t 10],
 oM 9 11,
 oO 12 (.ext (.t 9) 0),
 oO 13 (.ext (.t 9) 1),
 oO 6 (.alloc 1 4 [.int .u64 0]),
 ⟨none,.stA 1 4 4 (.t 6) (.t 12),none⟩,
 oM 7 13])
 (.seq (.ops [
 oO 14 (.load 32 true (.t 3)),
 oK 15 F_limb_Of [.t 14],
 oO 8 (.alloc 1 4 [.int .u64 0]),
 ⟨none,.stA 1 4 4 (.t 8) (.t 15),none⟩])
 (.seq (.block 0
 (.seq (.ops [
 oM 17 7,
 oO 18 (.un .not (.t 17)),
 oM 16 18])
 (.cond (.t 16)
 (.seq (.ops [
 oO 19 (.build [.int .u64 0,.int .u64 0,.int .u64 0,.int .u64 0] []),
 ⟨none,.stA 1 4 4 (.t 4) (.t 19),none⟩,
 oO 5 (.mv (.c (.int .i64 1)))])
 .ret)
 (.seq (.draw [
 oO 21 (.load 4 true (.t 8)),
 oM 22 0,
 oK 23 F_field_Prime [.t 22],
 oK 24 F_limb_Cmp [.t 21,.t 23],
 oO 25 (.bin .geq (.t 24) (.c (.int .i64 0))),
 oM 20 25] ⟨.all,[],.look 0 (.look 1 (.run 2 true (.run 3 true (.look 4 (.look 5 .done)))))⟩)
 (.cond (.t 20)
 (.seq (.ops [
 oO 26 (.build [.int .u64 0,.int .u64 0,.int .u64 0,.int .u64 0] []),
 ⟨none,.stA 1 4 4 (.t 4) (.t 26),none⟩,
 oO 5 (.mv (.c (.int .i64 2)))])
 .ret)
 .skip)))))
 (.seq (.ops [
 oO 27 (.load 4 true (.t 8)),
 ⟨none,.stA 1 4 4 (.t 4) (.t 27),none⟩,
 oO 5 (.mv (.c (.int .i64 0)))])
 .ret)))))⟩
theorem K_field_Read:chkFun DK Pg Tryz.f242 A_field_Read=true:=by kernel_rfl
theorem B_field_Read {args:List AV} {m:Mem} {K:AV->Mem->Prop} (h:vcFun DK Pg A_field_Read args m K):ACall Pg F_field_Read args m K:=call_body mixed Tryz.func242 (by kernel_rfl) K_field_Read h
noncomputable def A_field_Root:AFun:=⟨1,54,[.cell 2 4 true,.t 3],
 (.seq (.ops [
 oO 1 (.box 1 4 (.t 0)),
 oO 2 (.alloc 1 4 [.int .u64 0]),
 oO 3 (.mv (.c (.bool false)))])
 (.seq (.ops [
 oK 9 F_field_Prime [.c (.int .i64 0)],
 oO 10 (.build [.int .u64 0,.int .u64 0,.int .u64 0,.int .u64 0] [(0,1,.c (.int .u64 1))]),
 oK 11 F_limb_Add [.t 9,.t 10],
 oM 8 11,
 oO 12 (.ext (.t 8) 0),
 oO 13 (.ext (.t 8) 1),
 oO 4 (.alloc 1 4 [.int .u64 0]),
 ⟨none,.stA 1 4 4 (.t 4) (.t 12),none⟩,
 oM 5 13])
 (.seq (.seq (.ops [
 oO 14 (.mv (.c (.int .i64 0)))])
 (.block 0
 (.loop
 (.seq (.ops [
 oO 15 (.bin .lss (.t 14) (.c (.int .i64 4)))])
 (.seq (.cond (.t 15)
 .skip
 (.exit 0))
 (.seq (.block 1
 (.seq (.ops [
 oM 16 14,
 oM 6 16])
 (.seq (.ops [
 oM 17 6,
 oO 18 (.idxP 4 1 (.t 4) (.t 17)),
 oO 19 (.load 1 false (.t 18)),
 oO 20 (.bin .shr (.t 19) (.c (.int .u64 2))),
 oO 21 (.idxP 4 1 (.t 4) (.t 17)),
 ⟨none,.stA 1 4 1 (.t 21) (.t 20),none⟩])
 (.seq (.ops [
 oM 22 6,
 oO 23 (.binF .add (.t 22) (.c (.int .i64 1))),
 oO 24 (.bin .lss (.t 23) (.c (.int .i64 4)))])
 (.cond (.t 24)
 (.draw [
 oM 25 6,
 oO 26 (.idxP 4 1 (.t 4) (.t 25)),
 oO 27 (.load 1 false (.t 26)),
 oM 28 6,
 oO 29 (.binF .add (.t 28) (.c (.int .i64 1))),
 oO 30 (.idxP 4 1 (.t 4) (.t 29)),
 oO 31 (.load 1 false (.t 30)),
 oO 32 (.bin .shl (.t 31) (.c (.int .u64 62))),
 oO 33 (.bin .or (.t 27) (.t 32)),
 oO 34 (.idxP 4 1 (.t 4) (.t 25)),
 ⟨none,.stA 1 4 1 (.t 34) (.t 33),none⟩] ⟨.all,[],.look 0 (.look 1 (.look 2 (.look 3 (.look 4 (.look 5 (.look 6 (.look 7 (.look 8 (.look 9 (.run 10 false .done))))))))))⟩)
 .skip)))))
 (.ops [
 oO 35 (.binF .add (.t 14) (.c (.int .i64 1))),
 oM 14 35])))))))
 (.seq (.ops [
 oO 36 (.load 4 true (.t 1)),
 oO 37 (.load 4 true (.t 4)),
 oK 38 F_field_Pow [.c (.int .i64 0),.t 36,.t 37],
 oO 7 (.alloc 1 4 [.int .u64 0]),
 ⟨none,.stA 1 4 4 (.t 7) (.t 38),none⟩])
 (.seq (.seq (.draw [
 oO 39 (.load 4 true (.t 7)),
 oO 40 (.load 4 true (.t 7)),
 oK 41 F_field_Mul [.c (.int .i64 0),.t 39,.t 40],
 oO 42 (.load 4 true (.t 1)),
 oK 43 F_field_Red [.c (.int .i64 0),.t 42],
 oO 44 (.eqa [.i,.i,.i,.i] true (.t 41) (.t 43))] ⟨.all,[],.look 0 (.look 1 (.look 3 (.run 2 true (.run 4 true (.look 5 .done)))))⟩)
 (.cond (.t 44)
 (.seq (.ops [
 oO 45 (.build [.int .u64 0,.int .u64 0,.int .u64 0,.int .u64 0] []),
 ⟨none,.stA 1 4 4 (.t 2) (.t 45),none⟩,
 oO 3 (.mv (.c (.bool false)))])
 .ret)
 .skip))
 (.seq (.seq (.ops [
 oO 46 (.idxP 4 1 (.t 7) (.c (.int .i64 0))),
 oO 47 (.load 1 false (.t 46)),
 oO 48 (.bin .and (.t 47) (.c (.int .u64 1))),
 oO 49 (.bin .eql (.t 48) (.c (.int .u64 1)))])
 (.cond (.t 49)
 (.ops [
 oO 50 (.build [.int .u64 0,.int .u64 0,.int .u64 0,.int .u64 0] []),
 oO 51 (.load 4 true (.t 7)),
 oK 52 F_field_Sub [.c (.int .i64 0),.t 50,.t 51],
 ⟨none,.stA 1 4 4 (.t 7) (.t 52),none⟩])
 .skip))
 (.seq (.ops [
 oO 53 (.load 4 true (.t 7)),
 ⟨none,.stA 1 4 4 (.t 2) (.t 53),none⟩,
 oO 3 (.mv (.c (.bool true)))])
 .ret)))))))⟩
theorem K_field_Root:chkFun DK Pg Tryz.f243 A_field_Root=true:=by kernel_rfl
theorem B_field_Root {args:List AV} {m:Mem} {K:AV->Mem->Prop} (h:vcFun DK Pg A_field_Root args m K):ACall Pg F_field_Root args m K:=call_body mixed Tryz.func243 (by kernel_rfl) K_field_Root h
end Go.Proofs.YtfolpdmbpbbimaaGreat
end

section
namespace Go.Proofs.YtfolpdmbpbbimaaGreat
open Go Go.Wit
theorem w64 {n:Int} (h0: -9223372036854775808<=n) (h1:n<=9223372036854775807):IntKind.i64.wrap n=n:=by rw [IntKind.wrap_i64];omega
theorem wu64 (n:Int):IntKind.u64.wrap n=n % 18446744073709551616:=by simp [IntKind.wrap,IntKind.bits,IntKind.signed]
end Go.Proofs.YtfolpdmbpbbimaaGreat
end

section
namespace Go.Proofs.YtfolpdmbpbbimaaGreat
open Go Go.Wit
theorem S_clone0 (n cap:Nat) (f:Nat->Int) (hn:n<=140737488355328):ACall Pg F_slices_Clone_Sbyte_byte [.vsl 1 n cap (bytesG f)] [] (fun v m'=>∃ n' f',(n'=n/\f'=f)/\RetB n' f' v m'):=by
  refine B_slices_Clone_Sbyte_byte ⟨rfl,?_⟩
  conv=>whnf
  refine condB_mk (fun hc=> ?_) (fun hc h0=>⟨?_,?_⟩)
  · conv=>whnf
    refine condB_ok (app_ok rfl rfl rfl (by omega) (by omega)) (fun cap' hcap=> ?_)
    conv=>whnf
    refine⟨n,f,⟨rfl,rfl⟩,.inr ⟨1,cap',_,_,by first | rfl | (rw [Nat.zero_add];rfl) | rw [Nat.zero_add],rfl,by omega,fun i hi=> ?_⟩⟩
    rw [catG_ge (by omega)];rfl
  · conv=>whnf
    refine condB_ok (app_ok rfl rfl rfl (by omega) (by omega)) (fun cap' hcap=> ?_)
    conv=>whnf
    refine⟨n,f,⟨rfl,rfl⟩,.inr ⟨1,cap',_,_,by first | rfl | (rw [Nat.zero_add];rfl) | rw [Nat.zero_add],rfl,by omega,fun i hi=> ?_⟩⟩
    rw [catG_ge (by omega)];rfl
  · conv=>whnf
    exact⟨n,f,⟨rfl,rfl⟩,.inl ⟨rfl,h0⟩⟩
theorem S_clone {m:Mem} {x:AV} {n:Nat} {f:Nat->Int} {K:AV->Mem->Prop} (hx:Shows m x n f) (hn:n<=140737488355328) (hK:∀ cap,memK (m++ [some ⟨1,n,bytesG f⟩]) (K (.sl m.length 0 n cap))):ACall Pg F_slices_Clone_Sbyte_byte [x] m K:=by
  simp only [memK_eq]at hK
  obtain⟨cap,hl⟩:=hx
  refine lift_bytes (S_clone0 n cap f hn) (.cons _ _ _ _ hl .nil) ?_
  rintro n' f' cap' ⟨rfl,rfl⟩
  exact hK cap'
theorem S_Twin0 (n cap:Nat) (f:Nat->Int) (hn:n<=140737488355328):ACall Pg F_witankeep_Twin [.vsl 1 n cap (bytesG f)] [] (fun v m'=>∃ n' f',(n'=n/\f'=f)/\RetB n' f' v m'):=by
  refine B_witankeep_Twin ⟨rfl,?_⟩
  conv=>whnf
  refine condB_ok (app_ok rfl rfl rfl (by omega) (by omega)) (fun cap' hcap=> ?_)
  conv=>whnf
  refine⟨n,f,⟨rfl,rfl⟩,.inr ⟨0,cap',_,_,by first | rfl | (rw [Nat.zero_add];rfl) | rw [Nat.zero_add],rfl,by omega,fun i hi=> ?_⟩⟩
  rw [catG_ge (by omega)];rfl
theorem S_Twin {m:Mem} {x:AV} {n:Nat} {f:Nat->Int} {K:AV->Mem->Prop} (hx:Shows m x n f) (hn:n<=140737488355328) (hK:∀ cap,memK (m++ [some ⟨1,n,bytesG f⟩]) (K (.sl m.length 0 n cap))):ACall Pg F_witankeep_Twin [x] m K:=by
  simp only [memK_eq]at hK
  obtain⟨cap,hl⟩:=hx
  refine lift_bytes (S_Twin0 n cap f hn) (.cons _ _ _ _ hl .nil) ?_
  rintro n' f' cap' ⟨rfl,rfl⟩
  exact hK cap'
theorem S_room (s:Nat) (hs:1<=s/\s<=7) {m:Mem} {K:AV->Mem->Prop} (h:K (.int .i64 (2 ^ (8*s))) m):ACall Pg F_bin_room [.int .i64 s] m K:=by
  refine B_bin_room ⟨rfl,?_⟩
  conv=>whnf
  rw [w64 (n:=8*(s:Int)) (by omega) (by omega)]
  conv=>whnf
  have e:IntKind.i64.wrap (1*2 ^ min ((8:Int)*(s:Int)).toNat IntKind.i64.bits)=2 ^ (8*s):=by
    obtain⟨h1,h2⟩:=hs
    have:s=1\/s=2\/s=3\/s=4\/s=5\/s=6\/s=7:=by omega
    rcases this with rfl | rfl | rfl | rfl | rfl | rfl | rfl <;> rfl
  rw [e]
  exact h
def putOk (v s:Int):Bool:=decide (1<=s) && (decide (s<=7) && (decide (0<=v) && decide (v<2 ^ (8*s).toNat)))
def putB (n:Nat) (f:Nat->Int) (v s:Int) (i:Nat):Int:=if i<n then f i else (v / 2 ^ (8*(s.toNat - 1 - (i - n)))) % 256
theorem S_Put0 (n cap:Nat) (f:Nat->Int) (v s:Int) (hn:n<=140737488355000):ACall Pg F_bin_Put [.vsl 1 n cap (bytesG f),.int .i64 v,.int .i64 s] []
    (fun r m'=>∃ n' f' x vs,r= .tup (x::vs)/\(if putOk v s then n'=n+s.toNat/\f'=putB n f v s/\vs= [.int .i64 0]else n'=0/\vs= [.int .i64 1])/\RetB n' f' x m'/\Flats true vs):=by
  refine B_bin_Put ⟨rfl,?_⟩
  have hbad:putOk v s=false->∀ m',∃ n' f' x vs,AV.tup [.nils,.int .i64 1] = .tup (x::vs)/\(if putOk v s then n'=n+s.toNat/\f'=putB n f v s/\vs= [.int .i64 0]else n'=0/\vs= [.int .i64 1])/\RetB n' f' x m'/\Flats true vs:=by
    intro h m'
    exact⟨0,fun _=>0,.nils,_,rfl,by simp [h],.inl ⟨rfl,rfl⟩,.cons _ _ (.int _ _) .nil⟩
  conv=>whnf
  refine condB_mk (fun h1=> ?_) (fun h1=> ?_)
  rotate_left
  · conv=>whnf
    exact hbad (by simp at h1;simp [putOk];omega) []
  have h1:1<=s:=by simpa using h1
  conv=>whnf
  refine condB_mk (fun h2=> ?_) (fun h2=> ?_)
  rotate_left
  · conv=>whnf
    exact hbad (by simp at h2;simp [putOk];omega) []
  have h2:s<=7:=by simpa using h2
  conv=>whnf
  refine condB_mk (fun h3=> ?_) (fun h3=> ?_)
  rotate_left
  · conv=>whnf
    exact hbad (by simp at h3;simp [putOk];omega) []
  have h3:0<=v:=by simpa using h3
  obtain⟨s,rfl⟩ :∃ s':Nat,s=s':=⟨s.toNat,by omega⟩
  conv=>whnf
  refine S_room s (by omega) ?_
  conv=>whnf
  refine condB_mk (fun h4=> ?_) (fun h4=> ?_)
  · conv=>whnf
    exact hbad (by
      simp at h4
      simp only [putOk,Bool.and_eq_false_iff,decide_eq_false_iff_not]
      right;right;right
      rw [show ((8:Int)*(s:Int)).toNat=8*s by omega];omega) []
  have h4:v<2 ^ (8*s):=by simpa using h4
  conv=>whnf
  refine S_clone (f:=f) Shows.vsl (by omega) (fun cap1=> ?_)
  conv=>whnf
  rw [w64 (n:=(s:Int) - 1) (by omega) (by omega)]
  refine loop_wk mixed (I:=fun q l m=>∃ (i:Int) (N c:Nat) (g:Nat->Int),l= [(1,.int .i64 v),(8,.sl 0 0 N c),(9,.int .i64 i)] /\ m= [some ⟨1,N,bytesG g⟩] /\ (q:Int)=i+1/\ -1<=i/\i<=s - 1/\(N:Int)=n+s - 1 - i/\∀ j,j<N->g j=putB n f v s j) s
    (l0:= [(1,.int .i64 v),(8,.sl 0 0 n cap1),(9,.int .i64 (s - 1))]) (m0:= [some ⟨1,n,bytesG f⟩]) [some 0] ⟨s - 1,n,cap1,f,rfl,rfl,by omega,by omega,by omega,by omega,fun j hj=> ?_⟩ ?_ ?_
  · simp [putB,hj]
  · refine .mk0 ⟨Flat.i rfl,.sl _ _ _ _ _ rfl,Flat.i rfl,trivial⟩ ⟨.old 0 0 _ _ rfl rfl ⟨rfl,Nat.le_refl _,fun i j hi hj=> .eq _ _ rfl (.int _ _)⟩,trivial⟩ rfl rfl
  · rintro q l m ⟨i,N,c,g,rfl,rfl,hq,hi1,hi2,hN,hg⟩
    conv=>whnf
    refine condB_mk (fun hb=> ?_) (fun hb=> ?_)
    · have hb:0<=i:=by simpa using hb
      conv=>whnf
      rw [w64 (n:=8*i) (by omega) (by omega)]
      refine condB_ok (decide_eq_true (by omega)) ?_
      conv=>whnf
      refine condB_ok (app_ok (decide_eq_true (Nat.le_refl _)) rfl rfl (by omega) (by omega)) (fun cap' hcap=> ?_)
      conv=>whnf
      rw [w64 (n:=i - 1) (by omega) (by omega)]
      refine⟨q - 1,[(1,.int .i64 v),(8,.sl 0 0 (N+1) cap'),(9,.int .i64 (i - 1))],[some ⟨1,N+1,bytesG (fun j=>if j<N then g j else (v / 2 ^ (8*(s - 1 - (N - n)))) % 256)⟩],[some 2],by omega,
        ⟨i - 1,N+1,cap',_,rfl,rfl,by omega,by omega,by omega,by omega,fun j hj=> ?_⟩,?_⟩
      · by_cases hjN:j<N
        · simp only [if_pos hjN];exact hg j hjN
        · obtain rfl:j=N:=by omega
          simp only [if_neg hjN]
          rw [putB,if_neg (by omega),Int.toNat_natCast]
      · refine .mk0 ⟨Flat.i rfl,.sl _ _ _ _ _ rfl,Flat.i rfl,trivial⟩ ⟨.old 0 2 _ _ rfl rfl ⟨rfl,Nat.le_refl _,fun j k hj hk=> ?_⟩,trivial⟩ rfl rfl
        have hk:k<1:=hk
        obtain rfl:k=0:=by omega
        have hj:j<N+1:=hj
        by_cases hjN:j<N
        · refine .eq _ _ ?_ ?_
          · dsimp only
            rw [catG_lt hjN];simp only [bytesG,if_pos hjN]
          · dsimp only
            rw [catG_lt hjN];exact .int _ _
        · obtain rfl:j=N:=by omega
          have e:IntKind.u8.wrap (v.fdiv (2 ^ min (8*i).toNat IntKind.i64.bits))=(v / 2 ^ (8*(s - 1 - (j - n)))) % 256:=by
            rw [IntKind.wrap_u8,Int.fdiv_eq_ediv_of_nonneg _ (Int.pow_nonneg (by omega))]
            rw [show min (8*i).toNat IntKind.i64.bits=8*(s - 1 - (j - n)) by simp only [IntKind.bits];omega]
          refine .eq _ _ ?_ ?_
          · dsimp only
            rw [catG_ge (Nat.le_refl _)];simp only [bytesG,if_neg hjN,Nat.sub_self]
            rw [<- e];rfl
          · dsimp only
            rw [catG_ge (Nat.le_refl _),Nat.sub_self];exact .int _ _
    · have hb:i= -1:=by simp at hb;omega
      conv=>whnf
      have hok:putOk v s=true:=by
        simp only [putOk,Bool.and_eq_true,decide_eq_true_eq]
        rw [show ((8:Int)*(s:Int)).toNat=8*s by omega]
        exact⟨h1,h2,h3,h4⟩
      refine⟨N,putB n f v s,_,_,rfl,by rw [if_pos hok];exact⟨by omega,rfl,rfl⟩,.inr ⟨0,c,N,_,rfl,rfl,Nat.le_refl _,fun i hi=>by rw [<- hg i hi];rfl⟩,.cons _ _ (.int _ _) .nil⟩
theorem S_Put {m:Mem} {x:AV} {n:Nat} {f:Nat->Int} {K:AV->Mem->Prop} (v s:Int) (hx:Shows m x n f) (hn:n<=140737488355000)
    (h0:putOk v s=false->∀ cap f',memK (m++ [some ⟨1,0,bytesG f'⟩]) (K (.tup [.sl m.length 0 0 cap,.int .i64 1])))
    (h1:putOk v s=true->∀ cap,memK (m++ [some ⟨1,n+s.toNat,bytesG (putB n f v s)⟩]) (K (.tup [.sl m.length 0 (n+s.toNat) cap,.int .i64 0]))):ACall Pg F_bin_Put [x,.int .i64 v,.int .i64 s] m K:=by
  simp only [memK_eq]at h0 h1
  obtain⟨cap,hl⟩:=hx
  refine lift_tup (S_Put0 n cap f v s hn) (.cons _ _ _ _ hl (.cons _ _ _ _ lend_int (.cons _ _ _ _ lend_int .nil))) ?_
  intro n' f' cap' vs hR
  cases hp:putOk v s
  · rw [if_neg (by simp [hp])]at hR
    obtain⟨rfl,rfl⟩:=hR
    exact h0 hp cap' f'
  · rw [if_pos hp]at hR
    obtain⟨rfl,rfl,rfl⟩:=hR
    exact h1 hp cap'
end Go.Proofs.YtfolpdmbpbbimaaGreat
end

section
namespace Go.Proofs.YtfolpdmbpbbimaaGreat
open Go Go.Wit
def getV (f:Nat->Int) (p:Nat):Nat->Int
  | 0=>0
  | k+1=>getV f p k*256+f (p+k)
theorem getV_lt {f:Nat->Int} {p k:Nat} (hf:∀ i,i<p+k->0<=f i/\f i<=255):0<=getV f p k/\getV f p k<256 ^ k:=by
  induction k with
  | zero=>simp [getV]
  | succ k ih =>
    have h1:=ih (fun i hi=>hf i (by omega))
    have h2:=hf (p+k) (by omega)
    simp only [getV]
    have:(256:Int) ^ (k+1)=256 ^ k*256:=by rw [Int.pow_succ]
    omega
end Go.Proofs.YtfolpdmbpbbimaaGreat
end

