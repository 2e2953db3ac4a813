/- Texts of a proof, one behind the other; the last of these: The told forms of the functions that this seat reaches, each held against the program by a closed test; no condition. -/
import Derived.Test.YtmngdaeogbjpiaaZ2
import Derived.Test.YtmngdaeogbjpiaaProg
section
/- The told forms of the functions that this seat reaches, each held against the program by a closed test; no condition. -/
set_option maxRecDepth 100000
set_option maxHeartbeats 1000000
namespace Go.Proofs.Ytmngdaeogbjpiaa
open Go Go.Wit

noncomputable abbrev Pg : Program := Try.prog
def oM (d s : Nat) : AOpr := ⟨some d, .mv (.t s), none⟩
def oK (d f : Nat) (l : List Opn) : AOpr := ⟨some d, .call (.c (.fn f [])) l, none⟩
def oO (d : Nat) (o : AOp) : AOpr := ⟨some d, o, none⟩
def oG (d : Nat) (o : AOp) (t : Nat) (b : Bool) : AOpr := ⟨some d, o, some (t, b)⟩
def oS (z a b : Nat) : AOpr := ⟨none, .store z (.t a) (.t b), none⟩
abbrev F_main_main : Nat := 0
abbrev F_gosem_cut : Nat := 1
abbrev F_gosem_cut_init : Nat := 2
abbrev F_witanlaw16_BlockReads : Nat := 3
abbrev F_witanlaw16_BlockCut : Nat := 4
abbrev F_witanlaw16_BlockSizes : Nat := 5
abbrev F_witanlaw16_BlockExact : Nat := 6
abbrev F_witanlaw03_CurveGroup : Nat := 7
abbrev F_witanlaw03_CurveLines : Nat := 8
abbrev F_witanlaw03_CurveMultiples : Nat := 9
abbrev F_witanlaw03_CurveDoubles : Nat := 10
abbrev F_witanlaw03_CurveExact : Nat := 11
abbrev F_witanlaw03_CurveOrder : Nat := 12
abbrev F_witanlaw07_FeldExact : Nat := 13
abbrev F_witanlaw07_FeldFits : Nat := 14
abbrev F_witanlaw07_FeldAt : Nat := 15
abbrev F_witanlaw03_CurveSides : Nat := 16
abbrev F_witanlaw07_FeldSums : Nat := 17
abbrev F_witanlaw07_FeldLong : Nat := 18
abbrev F_witanlaw07_FeldRows : Nat := 19
abbrev F_witanlaw03_CurveBytes : Nat := 20
abbrev F_witankeep_Twin : Nat := 21
abbrev F_block_Read : Nat := 22
abbrev F_witanref16_Read : Nat := 23
abbrev F_witankeep_Bytes : Nat := 24
abbrev F_witankeep_Block : Nat := 25
abbrev F_witanlaw16_wakes : Nat := 26
abbrev F_block_Bytes : Nat := 27
abbrev F_witanlaw16_Heavy : Nat := 28
abbrev F_block_Hash : Nat := 29
abbrev F_witankeep_TwinBlock : Nat := 30
abbrev F_sha_Sum : Nat := 31
abbrev F_witanref16_Check : Nat := 32
abbrev F_block_Check : Nat := 33
abbrev F_witanref16_Bytes : Nat := 34
abbrev F_witanref16_Hash : Nat := 35
abbrev F_curve_Base : Nat := 36
abbrev F_curve_Add : Nat := 37
abbrev F_witankeep_Point : Nat := 38
abbrev F_curve_Check : Nat := 39
abbrev F_curve_Neg : Nat := 40
abbrev F_witanlaw03_wakes : Nat := 41
abbrev F_field_Sub : Nat := 42
abbrev F_field_Mul : Nat := 43
abbrev F_curve_Times : Nat := 44
abbrev F_field_Add : Nat := 45
abbrev F_curve_Two : Nat := 46
abbrev F_witanref01_Check : Nat := 47
abbrev F_witanlaw03_like : Nat := 48
abbrev F_witanref01_Neg : Nat := 49
abbrev F_witanref01_Times : Nat := 50
abbrev F_witanref01_Sum : Nat := 51
abbrev F_witanref01_Two : Nat := 52
abbrev F_witanref01_Base : Nat := 53
abbrev F_field_Prime : Nat := 54
abbrev F_curve_Bytes : Nat := 55
abbrev F_witankeep_TwinNums : Nat := 56
abbrev F_witankeep_TwinPoints : Nat := 57
abbrev F_feld_Commit : Nat := 58
abbrev F_feld_At : Nat := 59
abbrev F_feld_Fits : Nat := 60
abbrev F_witankeep_Points : Nat := 61
abbrev F_witanref06_Commit : Nat := 62
abbrev F_witankeep_Nums : Nat := 63
abbrev F_witanref06_Points : Nat := 64
abbrev F_witanlaw07_wakes : Nat := 65
abbrev F_witanref06_At : Nat := 66
abbrev F_witanref06_Fits : Nat := 67
abbrev F_poly_Eval : Nat := 68
abbrev F_field_Red : Nat := 69
abbrev F_limb_Bytes : Nat := 70
abbrev F_curve_Read : Nat := 71
abbrev F_limb_Cmp : Nat := 72
abbrev F_field_Root : Nat := 73
abbrev F_feld_Sum : Nat := 74
abbrev F_witanref01_PointBytes : Nat := 75
abbrev F_witanref01_ReadPoint : Nat := 76
abbrev F_Pblock_reader_num : Nat := 77
abbrev F_Pblock_reader_hash : Nat := 78
abbrev F_Pblock_reader_part : Nat := 79
abbrev F_witanref10_Get : Nat := 80
abbrev F_witanref10_GetPart : Nat := 81
abbrev F_witankeep_Txs : Nat := 82
abbrev F_bin_Put : Nat := 83
abbrev F_bin_PutPart : Nat := 84
abbrev F_witankeep_TwinTxs : Nat := 85
abbrev F_sha_rounds : Nat := 86
abbrev F_sha_padded : Nat := 87
abbrev F_sha_high : Nat := 88
abbrev F_bits_RotateLeft32 : Nat := 89
abbrev F_witanref10_Put : Nat := 90
abbrev F_witanref10_PutPart : Nat := 91
abbrev F_witanref04_Sum256 : Nat := 92
abbrev F_curve_spread : Nat := 93
abbrev F_curve_base : Nat := 94
abbrev F_curve_jac_times : Nat := 95
abbrev F_curve_jac_point : Nat := 96
abbrev F_curve_jac_plus : Nat := 97
abbrev F_curve_mul : Nat := 98
abbrev F_curve_right : Nat := 99
abbrev F_curve_sub : Nat := 100
abbrev F_witanref01_G : Nat := 101
abbrev F_field_less : Nat := 102
abbrev F_limb_Sub : Nat := 103
abbrev F_limb_Mul : Nat := 104
abbrev F_field_fold : Nat := 105
abbrev F_limb_Add : Nat := 106
abbrev F_witanref01_Cmp : Nat := 107
abbrev F_witanref01_Prime : Nat := 108
abbrev F_witanref01_mul : Nat := 109
abbrev F_witanref01_add : Nat := 110
abbrev F_witanref01_sub : Nat := 111
abbrev F_witanref01_down : Nat := 112
abbrev F_witanref01_times : Nat := 113
abbrev F_witanref01_plus : Nat := 114
abbrev F_witanref01_up : Nat := 115
abbrev F_feld_points : Nat := 116
abbrev F_witanref01_Inf : Nat := 117
abbrev F_witanref01_Red : Nat := 118
abbrev F_witanref06_same : Nat := 119
abbrev F_poly_add : Nat := 120
abbrev F_poly_mul : Nat := 121
abbrev F_field_Read : Nat := 122
abbrev F_field_Pow : Nat := 123
abbrev F_witanref01_Bytes : Nat := 124
abbrev F_witanref01_Of : Nat := 125
abbrev F_witanref01_Root : Nat := 126
abbrev F_bin_Get : Nat := 127
abbrev F_bin_GetPart : Nat := 128
abbrev F_bin_room : Nat := 129
abbrev F_slices_Clone_Sbyte_byte : Nat := 130
abbrev F_witanref04_k256 : Nat := 131
abbrev F_witanref04_padded : Nat := 132
abbrev F_witanref04_rot32 : Nat := 133
abbrev F_limb_Len : Nat := 134
abbrev F_curve_jac_twice : Nat := 135
abbrev F_limb_Bit : Nat := 136
abbrev F_field_Inv : Nat := 137
abbrev F_curve_add : Nat := 138
abbrev F_bits_Sub64 : Nat := 139
abbrev F_bits_Mul64 : Nat := 140
abbrev F_bits_Add64 : Nat := 141
abbrev F_witanref01_Sub : Nat := 142
abbrev F_witanref01_small : Nat := 143
abbrev F_witanref01_FMul : Nat := 144
abbrev F_witanref01_FAdd : Nat := 145
abbrev F_witanref01_FSub : Nat := 146
abbrev F_witanref01_Inv : Nat := 147
abbrev F_witanref01_twice : Nat := 148
abbrev F_witanref01_Bit : Nat := 149
abbrev F_witanref01_ok : Nat := 150
abbrev F_witanref01_fold : Nat := 151
abbrev F_limb_Of : Nat := 152
abbrev F_witanref01_Add : Nat := 153
abbrev F_witanref01_Pow : Nat := 154
abbrev F_bits_Len64 : Nat := 155
abbrev F_witanref01_Mul : Nat := 156
abbrev F_runtime_boundsError_Error : Nat := 157
abbrev F_runtime_boundsError_RuntimeError : Nat := 158
abbrev F_runtime_errorString_Error : Nat := 159
abbrev F_runtime_errorString_RuntimeError : Nat := 160
abbrev F_runtime_plainError_Error : Nat := 161
abbrev F_runtime_plainError_RuntimeError : Nat := 162
abbrev F_runtime_errorAddressString_Error : Nat := 163
abbrev F_runtime_errorAddressString_RuntimeError : Nat := 164
abbrev F_Pruntime_TypeAssertionError_Error : Nat := 165
abbrev F_Pruntime_TypeAssertionError_RuntimeError : Nat := 166
abbrev F_Pruntime_PanicNilError_Error : Nat := 167
abbrev F_Pruntime_PanicNilError_RuntimeError : Nat := 168
abbrev F_Pinternal_abi_Type_Align : Nat := 169
abbrev F_internal_runtime_maps_unhashableTypeError_Error : Nat := 170
abbrev F_internal_runtime_maps_unhashableTypeError_RuntimeError : Nat := 171
abbrev F_api_Errno_Error : Nat := 172
abbrev F_internal_abi_Kind_String : Nat := 173

theorem mixed : Pg.follows .mixedOrders = true := by kernel_rfl

noncomputable def A_gosem_cut_init : AFun := ⟨0, 1, [],
 (.ops [
 oK 0 F_gosem_cut []])⟩
theorem K_gosem_cut_init : chkFun DK Pg Try.f2 A_gosem_cut_init = true := by kernel_rfl
theorem B_gosem_cut_init {args : List AV} {m : Mem} {K : AV → Mem → Prop} (h : vcFun DK Pg A_gosem_cut_init args m K) : ACall Pg F_gosem_cut_init args m K := call_body mixed Try.func2 (by kernel_rfl) K_gosem_cut_init h

noncomputable def A_witanlaw16_BlockReads : AFun := ⟨1, 88, [.t 2],
 (.seq (.ops [
 oO 2 (.mv (.c (.bool false)))])
 (.seq (.seq (.ops [
 oM 11 0,
 oO 12 (.len (.t 11)),
 oO 13 (.bin .gtr (.t 12) (.c (.int .i64 4000)))])
 (.cond (.t 13)
 (.seq (.ops [
 oO 2 (.mv (.c (.bool true)))])
 .ret)
 .skip))
 (.seq (.ops [
 oM 14 0,
 oK 15 F_witankeep_Twin [.t 14],
 oM 3 15])
 (.seq (.ops [
 oM 17 3,
 oK 18 F_block_Read [.t 17],
 oM 16 18,
 oO 19 (.ext (.t 16) 0),
 oO 20 (.ext (.t 16) 1),
 oO 21 (.ext (.t 16) 2),
 oO 4 (.alloc 1 32 [.int .u8 0]),
 oO 5 (.alloc 4 1 [.int .i64 0, .int .i64 0, .int .i64 0, .nils]),
 oS 32 4 19,
 ⟨none, .stA 4 1 4 (.t 5) (.t 20), none⟩,
 oM 6 21])
 (.seq (.ops [
 oM 23 0,
 oK 24 F_witanref16_Read [.t 23],
 oM 22 24,
 oO 25 (.ext (.t 22) 0),
 oO 26 (.ext (.t 22) 1),
 oO 27 (.ext (.t 22) 2),
 oO 7 (.alloc 1 32 [.int .u8 0]),
 oO 8 (.alloc 4 1 [.int .i64 0, .int .i64 0, .int .i64 0, .nils]),
 oS 32 7 25,
 ⟨none, .stA 4 1 4 (.t 8) (.t 26), none⟩,
 oM 9 27])
 (.seq (.seq (.ops [
 oM 28 3,
 oM 29 0,
 oK 30 F_witankeep_Bytes [.t 28, .t 29],
 oO 31 (.un .not (.t 30)),
 oM 32 31,
 oG 33 (.mv (.t 9)) 32 false,
 oG 34 (.mv (.t 6)) 32 false,
 oG 35 (.bin .eql (.t 34) (.c (.int .i64 0))) 32 false,
 oG 36 (.eqb true (.t 33) (.t 35)) 32 false,
 oO 37 (.pick (.t 32) (.c (.bool true)) (.t 36)),
 oM 38 37,
 oG 39 (.mv (.t 9)) 38 false,
 oG 40 (.un .not (.t 39)) 38 false,
 oG 41 (.mv (.t 40)) 38 false,
 oG 42 (.mv (.t 6)) 41 true,
 oG 43 (.bin .neq (.t 42) (.c (.int .i64 7))) 41 true,
 oG 44 (.pick (.t 41) (.t 43) (.c (.bool false))) 38 false,
 oO 45 (.pick (.t 38) (.c (.bool true)) (.t 44)),
 oM 46 45,
 oG 47 (.load 4 true (.t 5)) 46 false,
 oG 48 (.load 4 true (.t 8)) 46 false,
 oG 49 (.call (.c (.fn F_witankeep_Block [])) [.t 47, .t 48]) 46 false,
 oG 50 (.un .not (.t 49)) 46 false,
 oO 51 (.pick (.t 46) (.c (.bool true)) (.t 50)),
 oM 52 51,
 oG 53 (.mv (.t 9)) 52 false,
 oG 54 (.mv (.t 53)) 52 false,
 oG 55 (.load 32 true (.t 4)) 54 true,
 oG 56 (.load 32 true (.t 7)) 54 true,
 oG 57 (.eqa (List.replicate 32 (.i)) true (.t 55) (.t 56)) 54 true,
 oG 58 (.pick (.t 54) (.t 57) (.c (.bool false))) 52 false,
 oO 59 (.pick (.t 52) (.c (.bool true)) (.t 58)),
 oM 60 59,
 oG 61 (.mv (.t 9)) 60 false,
 oG 62 (.un .not (.t 61)) 60 false,
 oG 63 (.mv (.t 62)) 60 false,
 oG 64 (.load 32 true (.t 4)) 63 true,
 oG 65 (.build (List.replicate 32 (.int .u8 0)) []) 63 true,
 oG 66 (.eqa (List.replicate 32 (.i)) true (.t 64) (.t 65)) 63 true,
 oG 67 (.pick (.t 63) (.t 66) (.c (.bool false))) 60 false,
 oO 68 (.pick (.t 60) (.c (.bool true)) (.t 67))])
 (.cond (.t 68)
 (.seq (.ops [
 oO 2 (.mv (.c (.bool false)))])
 .ret)
 .skip))
 (.seq (.seq (.ops [
 oM 69 9,
 oO 70 (.un .not (.t 69))])
 (.cond (.t 70)
 (.seq (.ops [
 oK 71 F_witanlaw16_wakes [],
 oM 2 71])
 .ret)
 .skip))
 (.seq (.ops [
 oO 73 (.load 32 true (.t 4)),
 oO 74 (.load 4 true (.t 5)),
 oK 75 F_block_Bytes [.t 73, .t 74],
 oM 72 75,
 oO 76 (.ext (.t 72) 0),
 oO 77 (.ext (.t 72) 1),
 oM 10 76,
 oM 6 77])
 (.seq (.ops [
 oM 78 6,
 oO 79 (.bin .eql (.t 78) (.c (.int .i64 0))),
 oM 80 79,
 oG 81 (.mv (.t 10)) 80 true,
 oG 82 (.mv (.t 0)) 80 true,
 oG 83 (.call (.c (.fn F_witankeep_Bytes [])) [.t 81, .t 82]) 80 true,
 oO 84 (.pick (.t 80) (.t 83) (.c (.bool false))),
 oM 85 84,
 oG 86 (.call (.c (.fn F_witanlaw16_wakes [])) []) 85 true,
 oO 87 (.pick (.t 85) (.t 86) (.c (.bool false))),
 oM 2 87])
 .ret)))))))))⟩
theorem K_witanlaw16_BlockReads : chkFun DK Pg Try.f3 A_witanlaw16_BlockReads = true := by kernel_rfl
theorem B_witanlaw16_BlockReads {args : List AV} {m : Mem} {K : AV → Mem → Prop} (h : vcFun DK Pg A_witanlaw16_BlockReads args m K) : ACall Pg F_witanlaw16_BlockReads args m K := call_body mixed Try.func3 (by kernel_rfl) K_witanlaw16_BlockReads h

noncomputable def A_witanlaw16_BlockCut : AFun := ⟨4, 71, [.t 8],
 (.seq (.ops [
 oO 4 (.box 1 32 (.t 0)),
 oO 5 (.box 4 1 (.t 1)),
 oO 8 (.mv (.c (.bool false)))])
 (.seq (.seq (.ops [
 oO 14 (.load 4 true (.t 5)),
 oK 15 F_witanlaw16_Heavy [.t 14]])
 (.cond (.t 15)
 (.seq (.ops [
 oO 8 (.mv (.c (.bool true)))])
 .ret)
 .skip))
 (.seq (.ops [
 oO 17 (.load 32 true (.t 4)),
 oO 18 (.load 4 true (.t 5)),
 oK 19 F_block_Bytes [.t 17, .t 18],
 oM 16 19,
 oO 20 (.ext (.t 16) 0),
 oO 21 (.ext (.t 16) 1),
 oM 9 20,
 oM 10 21])
 (.seq (.seq (.ops [
 oM 22 10,
 oO 23 (.bin .neq (.t 22) (.c (.int .i64 0)))])
 (.cond (.t 23)
 (.seq (.ops [
 oM 24 9,
 oO 25 (.len (.t 24)),
 oO 26 (.bin .eql (.t 25) (.c (.int .i64 0))),
 oM 27 26,
 oG 28 (.call (.c (.fn F_witanlaw16_wakes [])) []) 27 true,
 oO 29 (.pick (.t 27) (.t 28) (.c (.bool false))),
 oM 8 29])
 .ret)
 .skip))
 (.seq (.seq (.ops [
 oM 30 9,
 oO 31 (.len (.t 30)),
 oO 32 (.bin .eql (.t 31) (.c (.int .i64 0)))])
 (.cond (.t 32)
 (.seq (.ops [
 oO 8 (.mv (.c (.bool false)))])
 .ret)
 .skip))
 (.seq (.ops [
 oM 34 9,
 oK 35 F_witankeep_Twin [.t 34],
 oM 36 3,
 oO 37 (.bsl 1 1 [.int .u8 0] [(0, 1, .t 36)]),
 oO 38 (.app 1 1 (.t 35) (.t 37)),
 oK 39 F_block_Read [.t 38],
 oM 33 39,
 oO 40 (.ext (.t 33) 0),
 oO 41 (.ext (.t 33) 1),
 oO 42 (.ext (.t 33) 2),
 oM 10 42])
 (.seq (.ops [
 oM 44 9,
 oM 45 2,
 oO 46 (.conv .u64 (.t 45)),
 oM 47 9,
 oO 48 (.len (.t 47)),
 oO 49 (.conv .u64 (.t 48)),
 oO 50 (.bin .rem (.t 46) (.t 49)),
 oO 51 (.conv .i64 (.t 50)),
 oO 52 (.slice 1 (.t 44) none (some (.t 51)) none),
 oK 53 F_block_Read [.t 52],
 oM 43 53,
 oO 54 (.ext (.t 43) 0),
 oO 55 (.ext (.t 43) 1),
 oO 56 (.ext (.t 43) 2),
 oO 11 (.alloc 1 32 [.int .u8 0]),
 oO 12 (.alloc 4 1 [.int .i64 0, .int .i64 0, .int .i64 0, .nils]),
 oS 32 11 54,
 ⟨none, .stA 4 1 4 (.t 12) (.t 55), none⟩,
 oM 13 56])
 (.seq (.ops [
 oM 57 10,
 oO 58 (.bin .eql (.t 57) (.c (.int .i64 7))),
 oM 59 58,
 oG 60 (.mv (.t 13)) 59 true,
 oG 61 (.bin .eql (.t 60) (.c (.int .i64 7))) 59 true,
 oO 62 (.pick (.t 59) (.t 61) (.c (.bool false))),
 oM 63 62,
 oG 64 (.load 4 true (.t 12)) 63 true,
 oG 65 (.build [.int .i64 0, .int .i64 0, .int .i64 0, .nils] []) 63 true,
 oG 66 (.call (.c (.fn F_witankeep_Block [])) [.t 64, .t 65]) 63 true,
 oO 67 (.pick (.t 63) (.t 66) (.c (.bool false))),
 oM 68 67,
 oG 69 (.call (.c (.fn F_witanlaw16_wakes [])) []) 68 true,
 oO 70 (.pick (.t 68) (.t 69) (.c (.bool false))),
 oM 8 70])
 .ret))))))))⟩
theorem K_witanlaw16_BlockCut : chkFun DK Pg Try.f4 A_witanlaw16_BlockCut = true := by kernel_rfl
theorem B_witanlaw16_BlockCut {args : List AV} {m : Mem} {K : AV → Mem → Prop} (h : vcFun DK Pg A_witanlaw16_BlockCut args m K) : ACall Pg F_witanlaw16_BlockCut args m K := call_body mixed Try.func4 (by kernel_rfl) K_witanlaw16_BlockCut h

noncomputable def A_witanlaw16_BlockSizes : AFun := ⟨4, 131, [.t 8],
 (.seq (.ops [
 oO 4 (.box 1 32 (.t 0)),
 oO 5 (.box 1 32 (.t 1)),
 oO 6 (.box 4 1 (.t 2)),
 oO 8 (.mv (.c (.bool false)))])
 (.seq (.seq (.ops [
 oO 20 (.load 4 true (.t 6)),
 oK 21 F_witanlaw16_Heavy [.t 20],
 oM 22 21,
 oG 23 (.mv (.t 3)) 22 false,
 oG 24 (.bin .lss (.t 23) (.c (.int .i64 0))) 22 false,
 oO 25 (.pick (.t 22) (.c (.bool true)) (.t 24))])
 (.cond (.t 25)
 (.seq (.ops [
 oO 8 (.mv (.c (.bool true)))])
 .ret)
 .skip))
 (.seq (.ops [
 oO 27 (.load 32 true (.t 4)),
 oO 28 (.load 4 true (.t 6)),
 oK 29 F_block_Bytes [.t 27, .t 28],
 oM 26 29,
 oO 30 (.ext (.t 26) 0),
 oO 31 (.ext (.t 26) 1),
 oM 9 30,
 oM 10 31])
 (.seq (.seq (.ops [
 oM 32 10,
 oO 33 (.bin .neq (.t 32) (.c (.int .i64 0)))])
 (.cond (.t 33)
 (.seq (.ops [
 oM 34 9,
 oO 35 (.len (.t 34)),
 oO 36 (.bin .eql (.t 35) (.c (.int .i64 0))),
 oM 37 36,
 oG 38 (.call (.c (.fn F_witanlaw16_wakes [])) []) 37 true,
 oO 39 (.pick (.t 37) (.t 38) (.c (.bool false))),
 oM 8 39])
 .ret)
 .skip))
 (.seq (.ops [
 oO 11 (.mv (.c (.int .i64 41)))])
 (.seq (.seq (.ops [
 oO 12 (.mv (.c (.int .i64 0)))])
 (.block 0
 (.loop
 (.seq (.seq (.ops [
 oM 40 12,
 oO 41 (.fldA 3 (.t 6)),
 oO 42 (.load 1 false (.t 41)),
 oO 43 (.len (.t 42)),
 oO 44 (.bin .lss (.t 40) (.t 43))])
 (.cond (.t 44)
 .skip
 (.exit 0)))
 (.seq (.block 1
 (.ops [
 oM 47 11,
 oO 48 (.bin .add (.t 47) (.c (.int .i64 5))),
 oO 49 (.fldA 3 (.t 6)),
 oO 50 (.load 1 false (.t 49)),
 oM 51 12,
 oO 52 (.idxA 2 (.t 50) (.t 51)),
 oO 53 (.fldA 1 (.t 52)),
 oO 54 (.load 1 false (.t 53)),
 oO 55 (.len (.t 54)),
 oO 56 (.bin .add (.t 48) (.t 55)),
 oM 11 56]))
 (.ops [
 oM 45 12,
 oO 46 (.bin .add (.t 45) (.c (.int .i64 1))),
 oM 12 46]))))))
 (.seq (.ops [
 oO 58 (.load 32 true (.t 4)),
 oO 59 (.load 4 true (.t 6)),
 oK 60 F_block_Hash [.t 58, .t 59],
 oM 57 60,
 oO 61 (.ext (.t 57) 0),
 oO 62 (.ext (.t 57) 1),
 oO 13 (.alloc 1 32 [.int .u8 0]),
 oS 32 13 61,
 oM 14 62])
 (.seq (.ops [
 oO 63 (.load 4 true (.t 6)),
 oK 64 F_witankeep_TwinBlock [.t 63],
 oO 15 (.alloc 4 1 [.int .i64 0, .int .i64 0, .int .i64 0, .nils]),
 ⟨none, .stA 4 1 4 (.t 15) (.t 64), none⟩])
 (.seq (.ops [
 oM 65 3,
 oO 66 (.fldA 0 (.t 15)),
 ⟨none, .stA 4 1 1 (.t 66) (.t 65), none⟩])
 (.seq (.ops [
 oO 68 (.load 32 true (.t 4)),
 oO 69 (.load 4 true (.t 15)),
 oK 70 F_block_Bytes [.t 68, .t 69],
 oM 67 70,
 oO 71 (.ext (.t 67) 0),
 oO 72 (.ext (.t 67) 1),
 oM 16 71,
 oM 17 72])
 (.seq (.ops [
 oO 74 (.load 32 true (.t 5)),
 oO 75 (.load 4 true (.t 6)),
 oK 76 F_block_Bytes [.t 74, .t 75],
 oM 73 76,
 oO 77 (.ext (.t 73) 0),
 oO 78 (.ext (.t 73) 1),
 oM 18 77,
 oM 19 78])
 (.seq (.seq (.draw [
 oM 79 14,
 oO 80 (.bin .neq (.t 79) (.c (.int .i64 0))),
 oM 81 80,
 oG 82 (.mv (.t 17)) 81 false,
 oG 83 (.bin .neq (.t 82) (.c (.int .i64 0))) 81 false,
 oO 84 (.pick (.t 81) (.c (.bool true)) (.t 83)),
 oM 85 84,
 oG 86 (.mv (.t 19)) 85 false,
 oG 87 (.bin .neq (.t 86) (.c (.int .i64 0))) 85 false,
 oO 88 (.pick (.t 85) (.c (.bool true)) (.t 87)),
 oM 89 88,
 oG 90 (.mv (.t 9)) 89 false,
 oG 91 (.len (.t 90)) 89 false,
 oG 92 (.mv (.t 11)) 89 false,
 oG 93 (.bin .neq (.t 91) (.t 92)) 89 false,
 oO 94 (.pick (.t 89) (.c (.bool true)) (.t 93)),
 oM 95 94,
 oG 96 (.load 32 true (.t 13)) 95 false,
 oG 97 (.mv (.t 9)) 95 false,
 oG 98 (.call (.c (.fn F_sha_Sum [])) [.t 97]) 95 false,
 oG 99 (.eqa (List.replicate 32 (.i)) true (.t 96) (.t 98)) 95 false,
 oO 100 (.pick (.t 95) (.c (.bool true)) (.t 99)),
 oM 101 100,
 oG 102 (.mv (.t 9)) 101 false,
 oG 103 (.mv (.t 16)) 101 false,
 oG 104 (.call (.c (.fn F_witankeep_Bytes [])) [.t 102, .t 103]) 101 false,
 oG 105 (.un .not (.t 104)) 101 false,
 oO 106 (.pick (.t 101) (.c (.bool true)) (.t 105))] ⟨.all, [], .look 0 (.look 1 (.look 2 (.look 3 (.look 4 (.look 5 (.look 6 (.look 7 (.look 8 (.look 9 (.look 10 (.look 11 (.look 12 (.look 13 (.look 14 (.look 15 (.look 16 (.look 17 (.look 18 (.run 19 true (.look 20 (.look 21 (.look 22 (.look 23 (.look 24 (.run 25 true (.look 26 (.look 27 .done)))))))))))))))))))))))))))⟩)
 (.cond (.t 106)
 (.seq (.ops [
 oO 8 (.mv (.c (.bool false)))])
 .ret)
 .skip))
 (.seq (.draw [
 oM 107 9,
 oM 108 18,
 oK 109 F_witankeep_Bytes [.t 107, .t 108],
 oO 110 (.load 32 true (.t 4)),
 oO 111 (.load 32 true (.t 5)),
 oO 112 (.eqa (List.replicate 32 (.i)) false (.t 110) (.t 111)),
 oO 113 (.eqb false (.t 109) (.t 112)),
 oM 114 113,
 oG 115 (.mv (.t 9)) 114 true,
 oG 116 (.slice 1 (.t 115) none (some (.c (.int .i64 8))) none) 114 true,
 oG 117 (.mv (.t 18)) 114 true,
 oG 118 (.slice 1 (.t 117) none (some (.c (.int .i64 8))) none) 114 true,
 oG 119 (.call (.c (.fn F_witankeep_Bytes [])) [.t 116, .t 118]) 114 true,
 oO 120 (.pick (.t 114) (.t 119) (.c (.bool false))),
 oM 121 120,
 oG 122 (.mv (.t 9)) 121 true,
 oG 123 (.slice 1 (.t 122) (some (.c (.int .i64 40))) none none) 121 true,
 oG 124 (.mv (.t 18)) 121 true,
 oG 125 (.slice 1 (.t 124) (some (.c (.int .i64 40))) none none) 121 true,
 oG 126 (.call (.c (.fn F_witankeep_Bytes [])) [.t 123, .t 125]) 121 true,
 oO 127 (.pick (.t 121) (.t 126) (.c (.bool false))),
 oM 128 127,
 oG 129 (.call (.c (.fn F_witanlaw16_wakes [])) []) 128 true,
 oO 130 (.pick (.t 128) (.t 129) (.c (.bool false))),
 oM 8 130] ⟨.all, [], .look 0 (.look 1 (.look 3 (.look 4 (.look 5 (.run 2 true (.look 6 (.look 7 (.look 8 (.look 9 (.look 10 (.look 11 (.run 12 true (.look 13 (.look 14 (.look 15 (.look 16 (.look 17 (.look 18 (.run 19 true (.look 20 (.look 21 (.run 22 true (.look 23 (.look 24 .done))))))))))))))))))))))))⟩)
 .ret)))))))))))))⟩
theorem K_witanlaw16_BlockSizes : chkFun DK Pg Try.f5 A_witanlaw16_BlockSizes = true := by kernel_rfl
theorem B_witanlaw16_BlockSizes {args : List AV} {m : Mem} {K : AV → Mem → Prop} (h : vcFun DK Pg A_witanlaw16_BlockSizes args m K) : ACall Pg F_witanlaw16_BlockSizes args m K := call_body mixed Try.func5 (by kernel_rfl) K_witanlaw16_BlockSizes h

noncomputable def A_witanlaw16_BlockExact : AFun := ⟨2, 99, [.t 4],
 (.seq (.ops [
 oO 2 (.box 1 32 (.t 0)),
 oO 3 (.box 4 1 (.t 1)),
 oO 4 (.mv (.c (.bool false)))])
 (.seq (.seq (.ops [
 oO 13 (.load 4 true (.t 3)),
 oK 14 F_witanlaw16_Heavy [.t 13]])
 (.cond (.t 14)
 (.seq (.ops [
 oO 4 (.mv (.c (.bool true)))])
 .ret)
 .skip))
 (.seq (.ops [
 oO 15 (.load 4 true (.t 3)),
 oK 16 F_witankeep_TwinBlock [.t 15],
 oO 5 (.alloc 4 1 [.int .i64 0, .int .i64 0, .int .i64 0, .nils]),
 ⟨none, .stA 4 1 4 (.t 5) (.t 16), none⟩])
 (.seq (.ops [
 oO 17 (.load 4 true (.t 3)),
 oK 18 F_witanref16_Check [.t 17],
 oM 6 18])
 (.seq (.ops [
 oO 20 (.load 32 true (.t 2)),
 oO 21 (.load 4 true (.t 5)),
 oK 22 F_block_Bytes [.t 20, .t 21],
 oM 19 22,
 oO 23 (.ext (.t 19) 0),
 oO 24 (.ext (.t 19) 1),
 oM 7 23,
 oM 8 24])
 (.seq (.ops [
 oO 26 (.load 32 true (.t 2)),
 oO 27 (.load 4 true (.t 5)),
 oK 28 F_block_Hash [.t 26, .t 27],
 oM 25 28,
 oO 29 (.ext (.t 25) 0),
 oO 30 (.ext (.t 25) 1),
 oO 9 (.alloc 1 32 [.int .u8 0]),
 oS 32 9 29,
 oM 10 30])
 (.seq (.seq (.ops [
 oO 31 (.load 4 true (.t 5)),
 oK 32 F_block_Check [.t 31],
 oM 33 6,
 oO 34 (.bin .neq (.t 32) (.t 33)),
 oM 35 34,
 oG 36 (.mv (.t 8)) 35 false,
 oG 37 (.mv (.t 6)) 35 false,
 oG 38 (.bin .neq (.t 36) (.t 37)) 35 false,
 oO 39 (.pick (.t 35) (.c (.bool true)) (.t 38)),
 oM 40 39,
 oG 41 (.mv (.t 10)) 40 false,
 oG 42 (.mv (.t 6)) 40 false,
 oG 43 (.bin .neq (.t 41) (.t 42)) 40 false,
 oO 44 (.pick (.t 40) (.c (.bool true)) (.t 43)),
 oM 45 44,
 oG 46 (.load 4 true (.t 5)) 45 false,
 oG 47 (.load 4 true (.t 3)) 45 false,
 oG 48 (.call (.c (.fn F_witankeep_Block [])) [.t 46, .t 47]) 45 false,
 oG 49 (.un .not (.t 48)) 45 false,
 oO 50 (.pick (.t 45) (.c (.bool true)) (.t 49))])
 (.cond (.t 50)
 (.seq (.ops [
 oO 4 (.mv (.c (.bool false)))])
 .ret)
 .skip))
 (.seq (.seq (.ops [
 oM 51 6,
 oO 52 (.bin .neq (.t 51) (.c (.int .i64 0)))])
 (.cond (.t 52)
 (.seq (.ops [
 oM 53 7,
 oO 54 (.len (.t 53)),
 oO 55 (.bin .eql (.t 54) (.c (.int .i64 0))),
 oM 56 55,
 oG 57 (.load 32 true (.t 9)) 56 true,
 oG 58 (.build (List.replicate 32 (.int .u8 0)) []) 56 true,
 oG 59 (.eqa (List.replicate 32 (.i)) false (.t 57) (.t 58)) 56 true,
 oO 60 (.pick (.t 56) (.t 59) (.c (.bool false))),
 oM 61 60,
 oG 62 (.call (.c (.fn F_witanlaw16_wakes [])) []) 61 true,
 oO 63 (.pick (.t 61) (.t 62) (.c (.bool false))),
 oM 4 63])
 .ret)
 .skip))
 (.seq (.seq (.draw [
 oM 64 7,
 oO 65 (.load 32 true (.t 2)),
 oO 66 (.load 4 true (.t 3)),
 oK 67 F_witanref16_Bytes [.t 65, .t 66],
 oK 68 F_witankeep_Bytes [.t 64, .t 67],
 oO 69 (.un .not (.t 68)),
 oM 70 69,
 oG 71 (.load 32 true (.t 9)) 70 false,
 oG 72 (.load 32 true (.t 2)) 70 false,
 oG 73 (.load 4 true (.t 3)) 70 false,
 oG 74 (.call (.c (.fn F_witanref16_Hash [])) [.t 72, .t 73]) 70 false,
 oG 75 (.eqa (List.replicate 32 (.i)) true (.t 71) (.t 74)) 70 false,
 oO 76 (.pick (.t 70) (.c (.bool true)) (.t 75))] ⟨.all, [], .look 0 (.look 1 (.look 2 (.run 3 true (.run 4 true (.look 5 (.look 6 (.look 7 (.look 8 (.look 9 (.run 10 true (.look 11 (.look 12 .done))))))))))))⟩)
 (.cond (.t 76)
 (.seq (.ops [
 oO 4 (.mv (.c (.bool false)))])
 .ret)
 .skip))
 (.seq (.ops [
 oM 78 7,
 oK 79 F_block_Read [.t 78],
 oM 77 79,
 oO 80 (.ext (.t 77) 0),
 oO 81 (.ext (.t 77) 1),
 oO 82 (.ext (.t 77) 2),
 oO 11 (.alloc 1 32 [.int .u8 0]),
 oO 12 (.alloc 4 1 [.int .i64 0, .int .i64 0, .int .i64 0, .nils]),
 oS 32 11 80,
 ⟨none, .stA 4 1 4 (.t 12) (.t 81), none⟩,
 oM 8 82])
 (.seq (.ops [
 oO 83 (.fldA 0 (.t 3)),
 ⟨none, .stA 4 1 1 (.t 83) (.c (.int .i64 0)), none⟩])
 (.seq (.ops [
 oM 84 8,
 oO 85 (.bin .eql (.t 84) (.c (.int .i64 0))),
 oM 86 85,
 oG 87 (.load 32 true (.t 11)) 86 true,
 oG 88 (.load 32 true (.t 2)) 86 true,
 oG 89 (.eqa (List.replicate 32 (.i)) false (.t 87) (.t 88)) 86 true,
 oO 90 (.pick (.t 86) (.t 89) (.c (.bool false))),
 oM 91 90,
 oG 92 (.load 4 true (.t 12)) 91 true,
 oG 93 (.load 4 true (.t 3)) 91 true,
 oG 94 (.call (.c (.fn F_witankeep_Block [])) [.t 92, .t 93]) 91 true,
 oO 95 (.pick (.t 91) (.t 94) (.c (.bool false))),
 oM 96 95,
 oG 97 (.call (.c (.fn F_witanlaw16_wakes [])) []) 96 true,
 oO 98 (.pick (.t 96) (.t 97) (.c (.bool false))),
 oM 4 98])
 .ret))))))))))))⟩
theorem K_witanlaw16_BlockExact : chkFun DK Pg Try.f6 A_witanlaw16_BlockExact = true := by kernel_rfl
theorem B_witanlaw16_BlockExact {args : List AV} {m : Mem} {K : AV → Mem → Prop} (h : vcFun DK Pg A_witanlaw16_BlockExact args m K) : ACall Pg F_witanlaw16_BlockExact args m K := call_body mixed Try.func6 (by kernel_rfl) K_witanlaw16_BlockExact h

noncomputable def A_witanlaw03_CurveGroup : AFun := ⟨3, 133, [.t 6],
 (.seq (.ops [
 oO 3 (.box 1 4 (.t 0)),
 oO 4 (.box 1 4 (.t 1)),
 oO 5 (.box 1 4 (.t 2)),
 oO 6 (.mv (.c (.bool false)))])
 (.seq (.draw [
 oO 23 (.load 4 true (.t 3)),
 oK 24 F_curve_Base [.t 23],
 oO 25 (.load 4 true (.t 4)),
 oK 26 F_curve_Base [.t 25],
 oO 27 (.load 4 true (.t 5)),
 oK 28 F_curve_Base [.t 27],
 oO 7 (.alloc 9 1 [.bool false, .int .u64 0, .int .u64 0, .int .u64 0, .int .u64 0, .int .u64 0, .int .u64 0, .int .u64 0, .int .u64 0]),
 oO 8 (.alloc 9 1 [.bool false, .int .u64 0, .int .u64 0, .int .u64 0, .int .u64 0, .int .u64 0, .int .u64 0, .int .u64 0, .int .u64 0]),
 oO 9 (.alloc 9 1 [.bool false, .int .u64 0, .int .u64 0, .int .u64 0, .int .u64 0, .int .u64 0, .int .u64 0, .int .u64 0, .int .u64 0]),
 oS 9 7 24,
 oS 9 8 26,
 oS 9 9 28] ⟨.all, [(6, some 9), (7, some 10), (8, some 11)], .look 0 (.look 2 (.look 4 (.run 1 true (.pre 6 9 (.run 3 true (.pre 7 10 (.run 5 true (.pre 8 11 (.fill .done)))))))))⟩)
 (.seq (.ops [
 oO 30 (.load 9 true (.t 7)),
 oO 31 (.load 9 true (.t 8)),
 oK 32 F_curve_Add [.t 30, .t 31],
 oM 29 32,
 oO 33 (.ext (.t 29) 0),
 oO 34 (.ext (.t 29) 1),
 oO 10 (.alloc 9 1 [.bool false, .int .u64 0, .int .u64 0, .int .u64 0, .int .u64 0, .int .u64 0, .int .u64 0, .int .u64 0, .int .u64 0]),
 ⟨none, .stA 9 1 9 (.t 10) (.t 33), none⟩,
 oM 11 34])
 (.seq (.ops [
 oO 36 (.load 9 true (.t 8)),
 oO 37 (.load 9 true (.t 7)),
 oK 38 F_curve_Add [.t 36, .t 37],
 oM 35 38,
 oO 39 (.ext (.t 35) 0),
 oO 40 (.ext (.t 35) 1),
 oO 12 (.alloc 9 1 [.bool false, .int .u64 0, .int .u64 0, .int .u64 0, .int .u64 0, .int .u64 0, .int .u64 0, .int .u64 0, .int .u64 0]),
 ⟨none, .stA 9 1 9 (.t 12) (.t 39), none⟩,
 oM 13 40])
 (.seq (.seq (.ops [
 oM 41 11,
 oO 42 (.bin .neq (.t 41) (.c (.int .i64 0))),
 oM 43 42,
 oG 44 (.mv (.t 13)) 43 false,
 oG 45 (.bin .neq (.t 44) (.c (.int .i64 0))) 43 false,
 oO 46 (.pick (.t 43) (.c (.bool true)) (.t 45)),
 oM 47 46,
 oG 48 (.load 9 true (.t 10)) 47 false,
 oG 49 (.load 9 true (.t 12)) 47 false,
 oG 50 (.call (.c (.fn F_witankeep_Point [])) [.t 48, .t 49]) 47 false,
 oG 51 (.un .not (.t 50)) 47 false,
 oO 52 (.pick (.t 47) (.c (.bool true)) (.t 51)),
 oM 53 52,
 oG 54 (.load 9 true (.t 10)) 53 false,
 oG 55 (.call (.c (.fn F_curve_Check [])) [.t 54]) 53 false,
 oG 56 (.bin .neq (.t 55) (.c (.int .i64 0))) 53 false,
 oO 57 (.pick (.t 53) (.c (.bool true)) (.t 56))])
 (.cond (.t 57)
 (.seq (.ops [
 oO 6 (.mv (.c (.bool false)))])
 .ret)
 .skip))
 (.seq (.ops [
 oO 59 (.load 9 true (.t 10)),
 oO 60 (.load 9 true (.t 9)),
 oK 61 F_curve_Add [.t 59, .t 60],
 oM 58 61,
 oO 62 (.ext (.t 58) 0),
 oO 63 (.ext (.t 58) 1),
 oO 14 (.alloc 9 1 [.bool false, .int .u64 0, .int .u64 0, .int .u64 0, .int .u64 0, .int .u64 0, .int .u64 0, .int .u64 0, .int .u64 0]),
 ⟨none, .stA 9 1 9 (.t 14) (.t 62), none⟩,
 oM 11 63])
 (.seq (.ops [
 oO 65 (.load 9 true (.t 8)),
 oO 66 (.load 9 true (.t 9)),
 oK 67 F_curve_Add [.t 65, .t 66],
 oM 64 67,
 oO 68 (.ext (.t 64) 0),
 oO 69 (.ext (.t 64) 1),
 oO 15 (.alloc 9 1 [.bool false, .int .u64 0, .int .u64 0, .int .u64 0, .int .u64 0, .int .u64 0, .int .u64 0, .int .u64 0, .int .u64 0]),
 ⟨none, .stA 9 1 9 (.t 15) (.t 68), none⟩,
 oM 13 69])
 (.seq (.ops [
 oO 71 (.load 9 true (.t 7)),
 oO 72 (.load 9 true (.t 15)),
 oK 73 F_curve_Add [.t 71, .t 72],
 oM 70 73,
 oO 74 (.ext (.t 70) 0),
 oO 75 (.ext (.t 70) 1),
 ⟨none, .stA 9 1 9 (.t 15) (.t 74), none⟩,
 oM 16 75])
 (.seq (.ops [
 oO 77 (.load 9 true (.t 7)),
 oK 78 F_curve_Neg [.t 77],
 oM 76 78,
 oO 79 (.ext (.t 76) 0),
 oO 80 (.ext (.t 76) 1),
 oO 17 (.alloc 9 1 [.bool false, .int .u64 0, .int .u64 0, .int .u64 0, .int .u64 0, .int .u64 0, .int .u64 0, .int .u64 0, .int .u64 0]),
 ⟨none, .stA 9 1 9 (.t 17) (.t 79), none⟩,
 oM 18 80])
 (.seq (.ops [
 oO 82 (.load 9 true (.t 7)),
 oO 83 (.load 9 true (.t 17)),
 oK 84 F_curve_Add [.t 82, .t 83],
 oM 81 84,
 oO 85 (.ext (.t 81) 0),
 oO 86 (.ext (.t 81) 1),
 oO 19 (.alloc 9 1 [.bool false, .int .u64 0, .int .u64 0, .int .u64 0, .int .u64 0, .int .u64 0, .int .u64 0, .int .u64 0, .int .u64 0]),
 ⟨none, .stA 9 1 9 (.t 19) (.t 85), none⟩,
 oM 20 86])
 (.seq (.draw [
 oO 88 (.load 9 true (.t 7)),
 oO 89 (.build [.int .u64 0, .int .u64 0, .int .u64 0, .int .u64 0] []),
 oK 90 F_curve_Base [.t 89],
 oK 91 F_curve_Add [.t 88, .t 90],
 oM 87 91,
 oO 92 (.ext (.t 87) 0),
 oO 93 (.ext (.t 87) 1),
 oO 21 (.alloc 9 1 [.bool false, .int .u64 0, .int .u64 0, .int .u64 0, .int .u64 0, .int .u64 0, .int .u64 0, .int .u64 0, .int .u64 0]),
 oS 9 21 92,
 oM 22 93] ⟨.all, [(7, some 8)], .look 0 (.look 1 (.run 2 true (.run 3 true (.look 4 (.look 5 (.pre 7 8 (.look 6 (.fill (.look 9 .done)))))))))⟩)
 (.seq (.ops [
 oM 94 11,
 oO 95 (.bin .eql (.t 94) (.c (.int .i64 0))),
 oM 96 95,
 oG 97 (.mv (.t 13)) 96 true,
 oG 98 (.bin .eql (.t 97) (.c (.int .i64 0))) 96 true,
 oO 99 (.pick (.t 96) (.t 98) (.c (.bool false))),
 oM 100 99,
 oG 101 (.mv (.t 16)) 100 true,
 oG 102 (.bin .eql (.t 101) (.c (.int .i64 0))) 100 true,
 oO 103 (.pick (.t 100) (.t 102) (.c (.bool false))),
 oM 104 103,
 oG 105 (.mv (.t 18)) 104 true,
 oG 106 (.bin .eql (.t 105) (.c (.int .i64 0))) 104 true,
 oO 107 (.pick (.t 104) (.t 106) (.c (.bool false))),
 oM 108 107,
 oG 109 (.mv (.t 20)) 108 true,
 oG 110 (.bin .eql (.t 109) (.c (.int .i64 0))) 108 true,
 oO 111 (.pick (.t 108) (.t 110) (.c (.bool false))),
 oM 112 111,
 oG 113 (.mv (.t 22)) 112 true,
 oG 114 (.bin .eql (.t 113) (.c (.int .i64 0))) 112 true,
 oO 115 (.pick (.t 112) (.t 114) (.c (.bool false))),
 oM 116 115,
 oG 117 (.load 9 true (.t 14)) 116 true,
 oG 118 (.load 9 true (.t 15)) 116 true,
 oG 119 (.call (.c (.fn F_witankeep_Point [])) [.t 117, .t 118]) 116 true,
 oO 120 (.pick (.t 116) (.t 119) (.c (.bool false))),
 oM 121 120,
 oG 122 (.fldA 0 (.t 19)) 121 true,
 oG 123 (.load 1 false (.t 122)) 121 true,
 oO 124 (.pick (.t 121) (.t 123) (.c (.bool false))),
 oM 125 124,
 oG 126 (.load 9 true (.t 21)) 125 true,
 oG 127 (.load 9 true (.t 7)) 125 true,
 oG 128 (.call (.c (.fn F_witankeep_Point [])) [.t 126, .t 127]) 125 true,
 oO 129 (.pick (.t 125) (.t 128) (.c (.bool false))),
 oM 130 129,
 oG 131 (.call (.c (.fn F_witanlaw03_wakes [])) []) 130 true,
 oO 132 (.pick (.t 130) (.t 131) (.c (.bool false))),
 oM 6 132])
 .ret))))))))))))⟩
theorem K_witanlaw03_CurveGroup : chkFun DK Pg Try.f7 A_witanlaw03_CurveGroup = true := by kernel_rfl
theorem B_witanlaw03_CurveGroup {args : List AV} {m : Mem} {K : AV → Mem → Prop} (h : vcFun DK Pg A_witanlaw03_CurveGroup args m K) : ACall Pg F_witanlaw03_CurveGroup args m K := call_body mixed Try.func7 (by kernel_rfl) K_witanlaw03_CurveGroup h

noncomputable def A_witanlaw03_CurveLines : AFun := ⟨2, 80, [.t 4],
 (.seq (.ops [
 oO 2 (.box 1 4 (.t 0)),
 oO 3 (.box 1 4 (.t 1)),
 oO 4 (.mv (.c (.bool false)))])
 (.seq (.draw [
 oO 13 (.load 4 true (.t 2)),
 oK 14 F_curve_Base [.t 13],
 oO 15 (.load 4 true (.t 3)),
 oK 16 F_curve_Base [.t 15],
 oO 5 (.alloc 9 1 [.bool false, .int .u64 0, .int .u64 0, .int .u64 0, .int .u64 0, .int .u64 0, .int .u64 0, .int .u64 0, .int .u64 0]),
 oO 6 (.alloc 9 1 [.bool false, .int .u64 0, .int .u64 0, .int .u64 0, .int .u64 0, .int .u64 0, .int .u64 0, .int .u64 0, .int .u64 0]),
 oS 9 5 14,
 oS 9 6 16] ⟨.all, [(4, some 6), (5, some 7)], .look 0 (.look 2 (.run 1 true (.pre 4 6 (.run 3 true (.pre 5 7 (.fill .done))))))⟩)
 (.seq (.seq (.ops [
 oO 17 (.fldA 0 (.t 5)),
 oO 18 (.load 1 false (.t 17)),
 oM 19 18,
 oG 20 (.fldA 0 (.t 6)) 19 false,
 oG 21 (.load 1 false (.t 20)) 19 false,
 oO 22 (.pick (.t 19) (.c (.bool true)) (.t 21)),
 oM 23 22,
 oG 24 (.fldA 1 (.t 5)) 23 false,
 oG 25 (.load 4 true (.t 24)) 23 false,
 oG 26 (.fldA 1 (.t 6)) 23 false,
 oG 27 (.load 4 true (.t 26)) 23 false,
 oG 28 (.eqa [.i, .i, .i, .i] false (.t 25) (.t 27)) 23 false,
 oO 29 (.pick (.t 23) (.c (.bool true)) (.t 28))])
 (.cond (.t 29)
 (.seq (.ops [
 oK 30 F_witanlaw03_wakes [],
 oM 4 30])
 .ret)
 .skip))
 (.seq (.ops [
 oO 32 (.load 9 true (.t 5)),
 oO 33 (.load 9 true (.t 6)),
 oK 34 F_curve_Add [.t 32, .t 33],
 oM 31 34,
 oO 35 (.ext (.t 31) 0),
 oO 36 (.ext (.t 31) 1),
 oO 7 (.alloc 9 1 [.bool false, .int .u64 0, .int .u64 0, .int .u64 0, .int .u64 0, .int .u64 0, .int .u64 0, .int .u64 0, .int .u64 0]),
 ⟨none, .stA 9 1 9 (.t 7) (.t 35), none⟩,
 oM 8 36])
 (.seq (.ops [
 oO 38 (.load 9 true (.t 7)),
 oK 39 F_curve_Neg [.t 38],
 oM 37 39,
 oO 40 (.ext (.t 37) 0),
 oO 41 (.ext (.t 37) 1),
 oO 9 (.alloc 9 1 [.bool false, .int .u64 0, .int .u64 0, .int .u64 0, .int .u64 0, .int .u64 0, .int .u64 0, .int .u64 0, .int .u64 0]),
 ⟨none, .stA 9 1 9 (.t 9) (.t 40), none⟩,
 oM 10 41])
 (.seq (.seq (.ops [
 oM 42 8,
 oO 43 (.bin .neq (.t 42) (.c (.int .i64 0))),
 oM 44 43,
 oG 45 (.mv (.t 10)) 44 false,
 oG 46 (.bin .neq (.t 45) (.c (.int .i64 0))) 44 false,
 oO 47 (.pick (.t 44) (.c (.bool true)) (.t 46)),
 oM 48 47,
 oG 49 (.fldA 0 (.t 9)) 48 false,
 oG 50 (.load 1 false (.t 49)) 48 false,
 oO 51 (.pick (.t 48) (.c (.bool true)) (.t 50))])
 (.cond (.t 51)
 (.seq (.ops [
 oO 4 (.mv (.c (.bool false)))])
 .ret)
 .skip))
 (.seq (.draw [
 oO 52 (.fldA 1 (.t 6)),
 oO 53 (.load 4 true (.t 52)),
 oO 54 (.fldA 1 (.t 5)),
 oO 55 (.load 4 true (.t 54)),
 oK 56 F_field_Sub [.c (.int .i64 0), .t 53, .t 55],
 oO 57 (.fldA 5 (.t 6)),
 oO 58 (.load 4 true (.t 57)),
 oO 59 (.fldA 5 (.t 5)),
 oO 60 (.load 4 true (.t 59)),
 oK 61 F_field_Sub [.c (.int .i64 0), .t 58, .t 60],
 oO 11 (.alloc 1 4 [.int .u64 0]),
 oO 12 (.alloc 1 4 [.int .u64 0]),
 oS 4 11 56,
 oS 4 12 61] ⟨.all, [(10, some 12), (11, some 13)], .look 0 (.look 1 (.look 2 (.look 3 (.look 5 (.look 6 (.look 7 (.look 8 (.run 4 true (.pre 10 12 (.run 9 true (.pre 11 13 (.fill .done))))))))))))⟩)
 (.seq (.draw [
 oO 62 (.load 4 true (.t 12)),
 oO 63 (.fldA 1 (.t 9)),
 oO 64 (.load 4 true (.t 63)),
 oO 65 (.fldA 1 (.t 5)),
 oO 66 (.load 4 true (.t 65)),
 oK 67 F_field_Sub [.c (.int .i64 0), .t 64, .t 66],
 oK 68 F_field_Mul [.c (.int .i64 0), .t 62, .t 67],
 oO 69 (.load 4 true (.t 11)),
 oO 70 (.fldA 5 (.t 9)),
 oO 71 (.load 4 true (.t 70)),
 oO 72 (.fldA 5 (.t 5)),
 oO 73 (.load 4 true (.t 72)),
 oK 74 F_field_Sub [.c (.int .i64 0), .t 71, .t 73],
 oK 75 F_field_Mul [.c (.int .i64 0), .t 69, .t 74],
 oO 76 (.eqa [.i, .i, .i, .i] false (.t 68) (.t 75)),
 oM 77 76,
 oG 78 (.call (.c (.fn F_witanlaw03_wakes [])) []) 77 true,
 oO 79 (.pick (.t 77) (.t 78) (.c (.bool false))),
 oM 4 79] ⟨.all, [], .look 0 (.look 1 (.look 2 (.look 3 (.look 4 (.look 7 (.look 8 (.look 9 (.look 10 (.look 11 (.run 5 true (.run 6 true (.run 12 true (.run 13 true (.look 14 (.look 15 (.run 16 true (.look 17 (.look 18 .done))))))))))))))))))⟩)
 .ret))))))))⟩
theorem K_witanlaw03_CurveLines : chkFun DK Pg Try.f8 A_witanlaw03_CurveLines = true := by kernel_rfl
theorem B_witanlaw03_CurveLines {args : List AV} {m : Mem} {K : AV → Mem → Prop} (h : vcFun DK Pg A_witanlaw03_CurveLines args m K) : ACall Pg F_witanlaw03_CurveLines args m K := call_body mixed Try.func8 (by kernel_rfl) K_witanlaw03_CurveLines h

noncomputable def A_witanlaw03_CurveMultiples : AFun := ⟨3, 95, [.t 6],
 (.seq (.ops [
 oO 3 (.box 1 4 (.t 0)),
 oO 4 (.box 1 4 (.t 1)),
 oO 5 (.box 1 4 (.t 2)),
 oO 6 (.mv (.c (.bool false)))])
 (.seq (.ops [
 oO 19 (.load 4 true (.t 5)),
 oK 20 F_curve_Base [.t 19],
 oO 7 (.alloc 9 1 [.bool false, .int .u64 0, .int .u64 0, .int .u64 0, .int .u64 0, .int .u64 0, .int .u64 0, .int .u64 0, .int .u64 0]),
 ⟨none, .stA 9 1 9 (.t 7) (.t 20), none⟩])
 (.seq (.ops [
 oO 22 (.load 4 true (.t 3)),
 oO 23 (.load 9 true (.t 7)),
 oK 24 F_curve_Times [.t 22, .t 23],
 oM 21 24,
 oO 25 (.ext (.t 21) 0),
 oO 26 (.ext (.t 21) 1),
 oO 8 (.alloc 9 1 [.bool false, .int .u64 0, .int .u64 0, .int .u64 0, .int .u64 0, .int .u64 0, .int .u64 0, .int .u64 0, .int .u64 0]),
 ⟨none, .stA 9 1 9 (.t 8) (.t 25), none⟩,
 oM 9 26])
 (.seq (.ops [
 oO 28 (.load 4 true (.t 4)),
 oO 29 (.load 9 true (.t 7)),
 oK 30 F_curve_Times [.t 28, .t 29],
 oM 27 30,
 oO 31 (.ext (.t 27) 0),
 oO 32 (.ext (.t 27) 1),
 oO 10 (.alloc 9 1 [.bool false, .int .u64 0, .int .u64 0, .int .u64 0, .int .u64 0, .int .u64 0, .int .u64 0, .int .u64 0, .int .u64 0]),
 ⟨none, .stA 9 1 9 (.t 10) (.t 31), none⟩,
 oM 11 32])
 (.seq (.ops [
 oO 34 (.load 9 true (.t 8)),
 oO 35 (.load 9 true (.t 10)),
 oK 36 F_curve_Add [.t 34, .t 35],
 oM 33 36,
 oO 37 (.ext (.t 33) 0),
 oO 38 (.ext (.t 33) 1),
 oO 12 (.alloc 9 1 [.bool false, .int .u64 0, .int .u64 0, .int .u64 0, .int .u64 0, .int .u64 0, .int .u64 0, .int .u64 0, .int .u64 0]),
 ⟨none, .stA 9 1 9 (.t 12) (.t 37), none⟩,
 oM 13 38])
 (.seq (.draw [
 oO 40 (.load 4 true (.t 3)),
 oO 41 (.load 4 true (.t 4)),
 oK 42 F_field_Add [.c (.int .i64 1), .t 40, .t 41],
 oO 43 (.load 9 true (.t 7)),
 oK 44 F_curve_Times [.t 42, .t 43],
 oM 39 44,
 oO 45 (.ext (.t 39) 0),
 oO 46 (.ext (.t 39) 1),
 oO 14 (.alloc 9 1 [.bool false, .int .u64 0, .int .u64 0, .int .u64 0, .int .u64 0, .int .u64 0, .int .u64 0, .int .u64 0, .int .u64 0]),
 oS 9 14 45,
 oM 15 46] ⟨.all, [(8, some 9)], .look 0 (.look 1 (.look 3 (.run 2 true (.run 4 true (.look 5 (.look 6 (.pre 8 9 (.look 7 (.fill (.look 10 .done))))))))))⟩)
 (.seq (.ops [
 oO 48 (.load 4 true (.t 3)),
 oO 49 (.load 9 true (.t 7)),
 oO 50 (.load 4 true (.t 4)),
 oO 51 (.load 9 true (.t 7)),
 oK 52 F_curve_Two [.t 48, .t 49, .t 50, .t 51],
 oM 47 52,
 oO 53 (.ext (.t 47) 0),
 oO 54 (.ext (.t 47) 1),
 oO 16 (.alloc 9 1 [.bool false, .int .u64 0, .int .u64 0, .int .u64 0, .int .u64 0, .int .u64 0, .int .u64 0, .int .u64 0, .int .u64 0]),
 ⟨none, .stA 9 1 9 (.t 16) (.t 53), none⟩,
 oM 17 54])
 (.seq (.ops [
 oO 55 (.load 4 true (.t 3)),
 oO 56 (.load 4 true (.t 5)),
 oK 57 F_field_Mul [.c (.int .i64 1), .t 55, .t 56],
 oK 58 F_curve_Base [.t 57],
 oO 18 (.alloc 9 1 [.bool false, .int .u64 0, .int .u64 0, .int .u64 0, .int .u64 0, .int .u64 0, .int .u64 0, .int .u64 0, .int .u64 0]),
 ⟨none, .stA 9 1 9 (.t 18) (.t 58), none⟩])
 (.seq (.ops [
 oM 59 9,
 oO 60 (.bin .eql (.t 59) (.c (.int .i64 0))),
 oM 61 60,
 oG 62 (.mv (.t 11)) 61 true,
 oG 63 (.bin .eql (.t 62) (.c (.int .i64 0))) 61 true,
 oO 64 (.pick (.t 61) (.t 63) (.c (.bool false))),
 oM 65 64,
 oG 66 (.mv (.t 13)) 65 true,
 oG 67 (.bin .eql (.t 66) (.c (.int .i64 0))) 65 true,
 oO 68 (.pick (.t 65) (.t 67) (.c (.bool false))),
 oM 69 68,
 oG 70 (.mv (.t 15)) 69 true,
 oG 71 (.bin .eql (.t 70) (.c (.int .i64 0))) 69 true,
 oO 72 (.pick (.t 69) (.t 71) (.c (.bool false))),
 oM 73 72,
 oG 74 (.mv (.t 17)) 73 true,
 oG 75 (.bin .eql (.t 74) (.c (.int .i64 0))) 73 true,
 oO 76 (.pick (.t 73) (.t 75) (.c (.bool false))),
 oM 77 76,
 oG 78 (.load 9 true (.t 12)) 77 true,
 oG 79 (.load 9 true (.t 14)) 77 true,
 oG 80 (.call (.c (.fn F_witankeep_Point [])) [.t 78, .t 79]) 77 true,
 oO 81 (.pick (.t 77) (.t 80) (.c (.bool false))),
 oM 82 81,
 oG 83 (.load 9 true (.t 16)) 82 true,
 oG 84 (.load 9 true (.t 12)) 82 true,
 oG 85 (.call (.c (.fn F_witankeep_Point [])) [.t 83, .t 84]) 82 true,
 oO 86 (.pick (.t 82) (.t 85) (.c (.bool false))),
 oM 87 86,
 oG 88 (.load 9 true (.t 18)) 87 true,
 oG 89 (.load 9 true (.t 8)) 87 true,
 oG 90 (.call (.c (.fn F_witankeep_Point [])) [.t 88, .t 89]) 87 true,
 oO 91 (.pick (.t 87) (.t 90) (.c (.bool false))),
 oM 92 91,
 oG 93 (.call (.c (.fn F_witanlaw03_wakes [])) []) 92 true,
 oO 94 (.pick (.t 92) (.t 93) (.c (.bool false))),
 oM 6 94])
 .ret)))))))))⟩
theorem K_witanlaw03_CurveMultiples : chkFun DK Pg Try.f9 A_witanlaw03_CurveMultiples = true := by kernel_rfl
theorem B_witanlaw03_CurveMultiples {args : List AV} {m : Mem} {K : AV → Mem → Prop} (h : vcFun DK Pg A_witanlaw03_CurveMultiples args m K) : ACall Pg F_witanlaw03_CurveMultiples args m K := call_body mixed Try.func9 (by kernel_rfl) K_witanlaw03_CurveMultiples h

noncomputable def A_witanlaw03_CurveDoubles : AFun := ⟨2, 108, [.t 4],
 (.seq (.ops [
 oO 2 (.box 1 4 (.t 0)),
 oO 3 (.box 1 4 (.t 1)),
 oO 4 (.mv (.c (.bool false)))])
 (.seq (.ops [
 oO 18 (.load 4 true (.t 2)),
 oK 19 F_curve_Base [.t 18],
 oO 5 (.alloc 9 1 [.bool false, .int .u64 0, .int .u64 0, .int .u64 0, .int .u64 0, .int .u64 0, .int .u64 0, .int .u64 0, .int .u64 0]),
 ⟨none, .stA 9 1 9 (.t 5) (.t 19), none⟩])
 (.seq (.ops [
 oO 21 (.load 9 true (.t 5)),
 oO 22 (.load 9 true (.t 5)),
 oK 23 F_curve_Add [.t 21, .t 22],
 oM 20 23,
 oO 24 (.ext (.t 20) 0),
 oO 25 (.ext (.t 20) 1),
 oO 6 (.alloc 9 1 [.bool false, .int .u64 0, .int .u64 0, .int .u64 0, .int .u64 0, .int .u64 0, .int .u64 0, .int .u64 0, .int .u64 0]),
 ⟨none, .stA 9 1 9 (.t 6) (.t 24), none⟩,
 oM 7 25])
 (.seq (.ops [
 oO 27 (.load 9 true (.t 6)),
 oO 28 (.load 9 true (.t 5)),
 oK 29 F_curve_Add [.t 27, .t 28],
 oM 26 29,
 oO 30 (.ext (.t 26) 0),
 oO 31 (.ext (.t 26) 1),
 oO 8 (.alloc 9 1 [.bool false, .int .u64 0, .int .u64 0, .int .u64 0, .int .u64 0, .int .u64 0, .int .u64 0, .int .u64 0, .int .u64 0]),
 ⟨none, .stA 9 1 9 (.t 8) (.t 30), none⟩,
 oM 9 31])
 (.seq (.ops [
 oO 33 (.build [.int .u64 0, .int .u64 0, .int .u64 0, .int .u64 0] [(0, 1, .c (.int .u64 2))]),
 oO 34 (.load 9 true (.t 5)),
 oK 35 F_curve_Times [.t 33, .t 34],
 oM 32 35,
 oO 36 (.ext (.t 32) 0),
 oO 37 (.ext (.t 32) 1),
 oO 10 (.alloc 9 1 [.bool false, .int .u64 0, .int .u64 0, .int .u64 0, .int .u64 0, .int .u64 0, .int .u64 0, .int .u64 0, .int .u64 0]),
 ⟨none, .stA 9 1 9 (.t 10) (.t 36), none⟩,
 oM 11 37])
 (.seq (.ops [
 oO 39 (.build [.int .u64 0, .int .u64 0, .int .u64 0, .int .u64 0] [(0, 1, .c (.int .u64 3))]),
 oO 40 (.load 9 true (.t 5)),
 oK 41 F_curve_Times [.t 39, .t 40],
 oM 38 41,
 oO 42 (.ext (.t 38) 0),
 oO 43 (.ext (.t 38) 1),
 oO 12 (.alloc 9 1 [.bool false, .int .u64 0, .int .u64 0, .int .u64 0, .int .u64 0, .int .u64 0, .int .u64 0, .int .u64 0, .int .u64 0]),
 ⟨none, .stA 9 1 9 (.t 12) (.t 42), none⟩,
 oM 13 43])
 (.seq (.ops [
 oO 45 (.load 4 true (.t 3)),
 oO 46 (.build [.bool false, .int .u64 0, .int .u64 0, .int .u64 0, .int .u64 0, .int .u64 0, .int .u64 0, .int .u64 0, .int .u64 0] [(0, 1, .c (.bool true))]),
 oK 47 F_curve_Times [.t 45, .t 46],
 oM 44 47,
 oO 48 (.ext (.t 44) 0),
 oO 49 (.ext (.t 44) 1),
 oO 14 (.alloc 9 1 [.bool false, .int .u64 0, .int .u64 0, .int .u64 0, .int .u64 0, .int .u64 0, .int .u64 0, .int .u64 0, .int .u64 0]),
 ⟨none, .stA 9 1 9 (.t 14) (.t 48), none⟩,
 oM 15 49])
 (.seq (.ops [
 oO 51 (.build [.int .u64 0, .int .u64 0, .int .u64 0, .int .u64 0] [(0, 1, .c (.int .u64 1))]),
 oO 52 (.load 9 true (.t 6)),
 oO 53 (.build [.int .u64 0, .int .u64 0, .int .u64 0, .int .u64 0] [(0, 1, .c (.int .u64 1))]),
 oO 54 (.load 9 true (.t 5)),
 oK 55 F_curve_Two [.t 51, .t 52, .t 53, .t 54],
 oM 50 55,
 oO 56 (.ext (.t 50) 0),
 oO 57 (.ext (.t 50) 1),
 oO 16 (.alloc 9 1 [.bool false, .int .u64 0, .int .u64 0, .int .u64 0, .int .u64 0, .int .u64 0, .int .u64 0, .int .u64 0, .int .u64 0]),
 ⟨none, .stA 9 1 9 (.t 16) (.t 56), none⟩,
 oM 17 57])
 (.seq (.ops [
 oM 58 7,
 oO 59 (.bin .eql (.t 58) (.c (.int .i64 0))),
 oM 60 59,
 oG 61 (.mv (.t 9)) 60 true,
 oG 62 (.bin .eql (.t 61) (.c (.int .i64 0))) 60 true,
 oO 63 (.pick (.t 60) (.t 62) (.c (.bool false))),
 oM 64 63,
 oG 65 (.mv (.t 11)) 64 true,
 oG 66 (.bin .eql (.t 65) (.c (.int .i64 0))) 64 true,
 oO 67 (.pick (.t 64) (.t 66) (.c (.bool false))),
 oM 68 67,
 oG 69 (.mv (.t 13)) 68 true,
 oG 70 (.bin .eql (.t 69) (.c (.int .i64 0))) 68 true,
 oO 71 (.pick (.t 68) (.t 70) (.c (.bool false))),
 oM 72 71,
 oG 73 (.mv (.t 15)) 72 true,
 oG 74 (.bin .eql (.t 73) (.c (.int .i64 0))) 72 true,
 oO 75 (.pick (.t 72) (.t 74) (.c (.bool false))),
 oM 76 75,
 oG 77 (.mv (.t 17)) 76 true,
 oG 78 (.bin .eql (.t 77) (.c (.int .i64 0))) 76 true,
 oO 79 (.pick (.t 76) (.t 78) (.c (.bool false))),
 oM 80 79,
 oG 81 (.load 9 true (.t 6)) 80 true,
 oG 82 (.load 9 true (.t 10)) 80 true,
 oG 83 (.call (.c (.fn F_witankeep_Point [])) [.t 81, .t 82]) 80 true,
 oO 84 (.pick (.t 80) (.t 83) (.c (.bool false))),
 oM 85 84,
 oG 86 (.load 9 true (.t 8)) 85 true,
 oG 87 (.load 9 true (.t 12)) 85 true,
 oG 88 (.call (.c (.fn F_witankeep_Point [])) [.t 86, .t 87]) 85 true,
 oO 89 (.pick (.t 85) (.t 88) (.c (.bool false))),
 oM 90 89,
 oG 91 (.load 9 true (.t 16)) 90 true,
 oG 92 (.load 9 true (.t 8)) 90 true,
 oG 93 (.call (.c (.fn F_witankeep_Point [])) [.t 91, .t 92]) 90 true,
 oO 94 (.pick (.t 90) (.t 93) (.c (.bool false))),
 oM 95 94,
 oG 96 (.fldA 0 (.t 14)) 95 true,
 oG 97 (.load 1 false (.t 96)) 95 true,
 oO 98 (.pick (.t 95) (.t 97) (.c (.bool false))),
 oM 99 98,
 oG 100 (.fldA 1 (.t 14)) 99 true,
 oG 101 (.load 4 true (.t 100)) 99 true,
 oG 102 (.build [.int .u64 0, .int .u64 0, .int .u64 0, .int .u64 0] []) 99 true,
 oG 103 (.eqa [.i, .i, .i, .i] false (.t 101) (.t 102)) 99 true,
 oO 104 (.pick (.t 99) (.t 103) (.c (.bool false))),
 oM 105 104,
 oG 106 (.call (.c (.fn F_witanlaw03_wakes [])) []) 105 true,
 oO 107 (.pick (.t 105) (.t 106) (.c (.bool false))),
 oM 4 107])
 .ret)))))))))⟩
theorem K_witanlaw03_CurveDoubles : chkFun DK Pg Try.f10 A_witanlaw03_CurveDoubles = true := by kernel_rfl
theorem B_witanlaw03_CurveDoubles {args : List AV} {m : Mem} {K : AV → Mem → Prop} (h : vcFun DK Pg A_witanlaw03_CurveDoubles args m K) : ACall Pg F_witanlaw03_CurveDoubles args m K := call_body mixed Try.func10 (by kernel_rfl) K_witanlaw03_CurveDoubles h

noncomputable def A_witanlaw03_CurveExact : AFun := ⟨4, 145, [.t 8],
 (.seq (.ops [
 oO 4 (.box 9 1 (.t 0)),
 oO 5 (.box 9 1 (.t 1)),
 oO 6 (.box 1 4 (.t 2)),
 oO 7 (.box 1 4 (.t 3)),
 oO 8 (.mv (.c (.bool false)))])
 (.seq (.draw [
 oO 19 (.load 9 true (.t 4)),
 oK 20 F_witanref01_Check [.t 19],
 oO 21 (.load 9 true (.t 5)),
 oK 22 F_witanref01_Check [.t 21],
 oM 9 20,
 oM 10 22] ⟨.all, [], .look 0 (.look 2 (.run 1 true (.run 3 false (.look 4 (.look 5 .done)))))⟩)
 (.seq (.seq (.ops [
 oO 23 (.load 9 true (.t 4)),
 oK 24 F_curve_Check [.t 23],
 oO 25 (.bin .eql (.t 24) (.c (.int .i64 0))),
 oM 26 9,
 oO 27 (.eqb true (.t 25) (.t 26)),
 oM 28 27,
 oG 29 (.mv (.t 9)) 28 false,
 oG 30 (.un .not (.t 29)) 28 false,
 oG 31 (.mv (.t 30)) 28 false,
 oG 32 (.load 9 true (.t 4)) 31 true,
 oG 33 (.call (.c (.fn F_curve_Check [])) [.t 32]) 31 true,
 oG 34 (.bin .neq (.t 33) (.c (.int .i64 3))) 31 true,
 oG 35 (.pick (.t 31) (.t 34) (.c (.bool false))) 28 false,
 oO 36 (.pick (.t 28) (.c (.bool true)) (.t 35))])
 (.cond (.t 36)
 (.seq (.ops [
 oO 8 (.mv (.c (.bool false)))])
 .ret)
 .skip))
 (.seq (.ops [
 oO 38 (.load 9 true (.t 4)),
 oK 39 F_curve_Neg [.t 38],
 oM 37 39,
 oO 40 (.ext (.t 37) 0),
 oO 41 (.ext (.t 37) 1),
 oO 11 (.alloc 9 1 [.bool false, .int .u64 0, .int .u64 0, .int .u64 0, .int .u64 0, .int .u64 0, .int .u64 0, .int .u64 0, .int .u64 0]),
 ⟨none, .stA 9 1 9 (.t 11) (.t 40), none⟩,
 oM 12 41])
 (.seq (.ops [
 oO 43 (.load 9 true (.t 4)),
 oO 44 (.load 9 true (.t 5)),
 oK 45 F_curve_Add [.t 43, .t 44],
 oM 42 45,
 oO 46 (.ext (.t 42) 0),
 oO 47 (.ext (.t 42) 1),
 oO 13 (.alloc 9 1 [.bool false, .int .u64 0, .int .u64 0, .int .u64 0, .int .u64 0, .int .u64 0, .int .u64 0, .int .u64 0, .int .u64 0]),
 ⟨none, .stA 9 1 9 (.t 13) (.t 46), none⟩,
 oM 14 47])
 (.seq (.ops [
 oO 49 (.load 4 true (.t 6)),
 oO 50 (.load 9 true (.t 4)),
 oK 51 F_curve_Times [.t 49, .t 50],
 oM 48 51,
 oO 52 (.ext (.t 48) 0),
 oO 53 (.ext (.t 48) 1),
 oO 15 (.alloc 9 1 [.bool false, .int .u64 0, .int .u64 0, .int .u64 0, .int .u64 0, .int .u64 0, .int .u64 0, .int .u64 0, .int .u64 0]),
 ⟨none, .stA 9 1 9 (.t 15) (.t 52), none⟩,
 oM 16 53])
 (.seq (.ops [
 oO 55 (.load 4 true (.t 6)),
 oO 56 (.load 9 true (.t 4)),
 oO 57 (.load 4 true (.t 7)),
 oO 58 (.load 9 true (.t 5)),
 oK 59 F_curve_Two [.t 55, .t 56, .t 57, .t 58],
 oM 54 59,
 oO 60 (.ext (.t 54) 0),
 oO 61 (.ext (.t 54) 1),
 oO 17 (.alloc 9 1 [.bool false, .int .u64 0, .int .u64 0, .int .u64 0, .int .u64 0, .int .u64 0, .int .u64 0, .int .u64 0, .int .u64 0]),
 ⟨none, .stA 9 1 9 (.t 17) (.t 60), none⟩,
 oM 18 61])
 (.seq (.seq (.ops [
 oM 62 9,
 oO 63 (.un .not (.t 62))])
 (.cond (.t 63)
 (.seq (.ops [
 oO 64 (.load 9 true (.t 11)),
 oM 65 12,
 oO 66 (.load 9 true (.t 4)),
 oK 67 F_witanlaw03_like [.t 64, .t 65, .c (.bool false), .t 66],
 oM 68 67,
 oG 69 (.load 9 true (.t 13)) 68 true,
 oG 70 (.mv (.t 14)) 68 true,
 oG 71 (.load 9 true (.t 4)) 68 true,
 oG 72 (.call (.c (.fn F_witanlaw03_like [])) [.t 69, .t 70, .c (.bool false), .t 71]) 68 true,
 oO 73 (.pick (.t 68) (.t 72) (.c (.bool false))),
 oM 74 73,
 oG 75 (.load 9 true (.t 15)) 74 true,
 oG 76 (.mv (.t 16)) 74 true,
 oG 77 (.load 9 true (.t 4)) 74 true,
 oG 78 (.call (.c (.fn F_witanlaw03_like [])) [.t 75, .t 76, .c (.bool false), .t 77]) 74 true,
 oO 79 (.pick (.t 74) (.t 78) (.c (.bool false))),
 oM 80 79,
 oG 81 (.load 9 true (.t 17)) 80 true,
 oG 82 (.mv (.t 18)) 80 true,
 oG 83 (.load 9 true (.t 4)) 80 true,
 oG 84 (.call (.c (.fn F_witanlaw03_like [])) [.t 81, .t 82, .c (.bool false), .t 83]) 80 true,
 oO 85 (.pick (.t 80) (.t 84) (.c (.bool false))),
 oM 86 85,
 oG 87 (.call (.c (.fn F_witanlaw03_wakes [])) []) 86 true,
 oO 88 (.pick (.t 86) (.t 87) (.c (.bool false))),
 oM 8 88])
 .ret)
 .skip))
 (.seq (.seq (.draw [
 oO 89 (.load 9 true (.t 11)),
 oM 90 12,
 oO 91 (.load 9 true (.t 4)),
 oK 92 F_witanref01_Neg [.t 91],
 oK 93 F_witanlaw03_like [.t 89, .t 90, .c (.bool true), .t 92],
 oO 94 (.un .not (.t 93)),
 oM 95 94,
 oG 96 (.load 9 true (.t 15)) 95 false,
 oG 97 (.mv (.t 16)) 95 false,
 oG 98 (.load 4 true (.t 6)) 95 false,
 oG 99 (.load 9 true (.t 4)) 95 false,
 oG 100 (.call (.c (.fn F_witanref01_Times [])) [.t 98, .t 99]) 95 false,
 oG 101 (.call (.c (.fn F_witanlaw03_like [])) [.t 96, .t 97, .c (.bool true), .t 100]) 95 false,
 oG 102 (.un .not (.t 101)) 95 false,
 oO 103 (.pick (.t 95) (.c (.bool true)) (.t 102))] ⟨.all, [], .look 0 (.look 1 (.look 2 (.run 3 true (.run 4 true (.look 5 (.look 6 (.look 7 (.look 8 (.look 9 (.look 10 (.run 11 true (.run 12 true (.look 13 (.look 14 .done))))))))))))))⟩)
 (.cond (.t 103)
 (.seq (.ops [
 oO 8 (.mv (.c (.bool false)))])
 .ret)
 .skip))
 (.seq (.seq (.ops [
 oM 104 10,
 oO 105 (.un .not (.t 104))])
 (.cond (.t 105)
 (.seq (.ops [
 oO 106 (.load 9 true (.t 13)),
 oM 107 14,
 oO 108 (.load 9 true (.t 4)),
 oK 109 F_witanlaw03_like [.t 106, .t 107, .c (.bool false), .t 108],
 oM 110 109,
 oG 111 (.load 9 true (.t 17)) 110 true,
 oG 112 (.mv (.t 18)) 110 true,
 oG 113 (.load 9 true (.t 4)) 110 true,
 oG 114 (.call (.c (.fn F_witanlaw03_like [])) [.t 111, .t 112, .c (.bool false), .t 113]) 110 true,
 oO 115 (.pick (.t 110) (.t 114) (.c (.bool false))),
 oM 116 115,
 oG 117 (.call (.c (.fn F_witanlaw03_wakes [])) []) 116 true,
 oO 118 (.pick (.t 116) (.t 117) (.c (.bool false))),
 oM 8 118])
 .ret)
 .skip))
 (.seq (.draw [
 oO 119 (.load 9 true (.t 13)),
 oM 120 14,
 oO 121 (.load 9 true (.t 4)),
 oO 122 (.load 9 true (.t 5)),
 oK 123 F_witanref01_Sum [.t 121, .t 122],
 oK 124 F_witanlaw03_like [.t 119, .t 120, .c (.bool true), .t 123],
 oM 125 124,
 oG 126 (.load 9 true (.t 17)) 125 true,
 oG 127 (.mv (.t 18)) 125 true,
 oG 128 (.load 4 true (.t 6)) 125 true,
 oG 129 (.load 9 true (.t 4)) 125 true,
 oG 130 (.load 4 true (.t 7)) 125 true,
 oG 131 (.load 9 true (.t 5)) 125 true,
 oG 132 (.call (.c (.fn F_witanref01_Two [])) [.t 128, .t 129, .t 130, .t 131]) 125 true,
 oG 133 (.call (.c (.fn F_witanlaw03_like [])) [.t 126, .t 127, .c (.bool true), .t 132]) 125 true,
 oO 134 (.pick (.t 125) (.t 133) (.c (.bool false))),
 oM 135 134,
 oG 136 (.load 4 true (.t 6)) 135 true,
 oG 137 (.call (.c (.fn F_curve_Base [])) [.t 136]) 135 true,
 oG 138 (.load 4 true (.t 6)) 135 true,
 oG 139 (.call (.c (.fn F_witanref01_Base [])) [.t 138]) 135 true,
 oG 140 (.call (.c (.fn F_witankeep_Point [])) [.t 137, .t 139]) 135 true,
 oO 141 (.pick (.t 135) (.t 140) (.c (.bool false))),
 oM 142 141,
 oG 143 (.call (.c (.fn F_witanlaw03_wakes [])) []) 142 true,
 oO 144 (.pick (.t 142) (.t 143) (.c (.bool false))),
 oM 8 144] ⟨.all, [], .look 0 (.look 1 (.look 2 (.look 3 (.run 4 true (.run 5 true (.look 6 (.look 7 (.look 8 (.look 9 (.look 10 (.look 11 (.look 12 (.run 13 true (.run 14 true (.look 15 (.look 16 (.look 17 (.look 19 (.run 18 true (.run 20 true (.run 21 true (.look 22 (.look 23 (.run 24 true (.look 25 (.look 26 .done))))))))))))))))))))))))))⟩)
 .ret)))))))))))⟩
theorem K_witanlaw03_CurveExact : chkFun DK Pg Try.f11 A_witanlaw03_CurveExact = true := by kernel_rfl
theorem B_witanlaw03_CurveExact {args : List AV} {m : Mem} {K : AV → Mem → Prop} (h : vcFun DK Pg A_witanlaw03_CurveExact args m K) : ACall Pg F_witanlaw03_CurveExact args m K := call_body mixed Try.func11 (by kernel_rfl) K_witanlaw03_CurveExact h

noncomputable def A_witanlaw03_CurveOrder : AFun := ⟨1, 115, [.t 2],
 (.seq (.ops [
 oO 1 (.box 1 4 (.t 0)),
 oO 2 (.mv (.c (.bool false)))])
 (.seq (.ops [
 oO 13 (.load 4 true (.t 1)),
 oK 14 F_curve_Base [.t 13],
 oO 3 (.alloc 9 1 [.bool false, .int .u64 0, .int .u64 0, .int .u64 0, .int .u64 0, .int .u64 0, .int .u64 0, .int .u64 0, .int .u64 0]),
 ⟨none, .stA 9 1 9 (.t 3) (.t 14), none⟩])
 (.seq (.ops [
 oK 15 F_field_Prime [.c (.int .i64 1)],
 oO 4 (.alloc 1 4 [.int .u64 0]),
 ⟨none, .stA 1 4 4 (.t 4) (.t 15), none⟩])
 (.seq (.ops [
 oO 17 (.load 4 true (.t 4)),
 oO 18 (.load 9 true (.t 3)),
 oK 19 F_curve_Times [.t 17, .t 18],
 oM 16 19,
 oO 20 (.ext (.t 16) 0),
 oO 21 (.ext (.t 16) 1),
 oO 5 (.alloc 9 1 [.bool false, .int .u64 0, .int .u64 0, .int .u64 0, .int .u64 0, .int .u64 0, .int .u64 0, .int .u64 0, .int .u64 0]),
 ⟨none, .stA 9 1 9 (.t 5) (.t 20), none⟩,
 oM 6 21])
 (.seq (.ops [
 oO 22 (.idxP 4 1 (.t 4) (.c (.int .i64 0))),
 oO 23 (.load 1 false (.t 22)),
 oO 24 (.bin .sub (.t 23) (.c (.int .u64 1))),
 oO 25 (.idxP 4 1 (.t 4) (.c (.int .i64 0))),
 oS 1 25 24])
 (.seq (.ops [
 oO 27 (.load 4 true (.t 4)),
 oO 28 (.load 9 true (.t 3)),
 oK 29 F_curve_Times [.t 27, .t 28],
 oM 26 29,
 oO 30 (.ext (.t 26) 0),
 oO 31 (.ext (.t 26) 1),
 oO 7 (.alloc 9 1 [.bool false, .int .u64 0, .int .u64 0, .int .u64 0, .int .u64 0, .int .u64 0, .int .u64 0, .int .u64 0, .int .u64 0]),
 ⟨none, .stA 9 1 9 (.t 7) (.t 30), none⟩,
 oM 8 31])
 (.seq (.ops [
 oO 33 (.load 9 true (.t 3)),
 oK 34 F_curve_Neg [.t 33],
 oM 32 34,
 oO 35 (.ext (.t 32) 0),
 oO 36 (.ext (.t 32) 1),
 oO 9 (.alloc 9 1 [.bool false, .int .u64 0, .int .u64 0, .int .u64 0, .int .u64 0, .int .u64 0, .int .u64 0, .int .u64 0, .int .u64 0]),
 ⟨none, .stA 9 1 9 (.t 9) (.t 35), none⟩,
 oM 10 36])
 (.seq (.seq (.ops [
 oM 37 6,
 oO 38 (.bin .neq (.t 37) (.c (.int .i64 0))),
 oM 39 38,
 oG 40 (.mv (.t 8)) 39 false,
 oG 41 (.bin .neq (.t 40) (.c (.int .i64 0))) 39 false,
 oO 42 (.pick (.t 39) (.c (.bool true)) (.t 41)),
 oM 43 42,
 oG 44 (.mv (.t 10)) 43 false,
 oG 45 (.bin .neq (.t 44) (.c (.int .i64 0))) 43 false,
 oO 46 (.pick (.t 43) (.c (.bool true)) (.t 45)),
 oM 47 46,
 oG 48 (.fldA 0 (.t 5)) 47 false,
 oG 49 (.load 1 false (.t 48)) 47 false,
 oG 50 (.un .not (.t 49)) 47 false,
 oO 51 (.pick (.t 47) (.c (.bool true)) (.t 50)),
 oM 52 51,
 oG 53 (.load 9 true (.t 7)) 52 false,
 oG 54 (.load 9 true (.t 9)) 52 false,
 oG 55 (.call (.c (.fn F_witankeep_Point [])) [.t 53, .t 54]) 52 false,
 oG 56 (.un .not (.t 55)) 52 false,
 oO 57 (.pick (.t 52) (.c (.bool true)) (.t 56))])
 (.cond (.t 57)
 (.seq (.ops [
 oO 2 (.mv (.c (.bool false)))])
 .ret)
 .skip))
 (.seq (.ops [
 oO 59 (.load 9 true (.t 3)),
 oK 60 F_curve_Bytes [.t 59],
 oM 58 60,
 oO 61 (.ext (.t 58) 0),
 oO 62 (.ext (.t 58) 1),
 oM 11 61,
 oM 6 62])
 (.seq (.ops [
 oO 64 (.load 9 true (.t 9)),
 oK 65 F_curve_Bytes [.t 64],
 oM 63 65,
 oO 66 (.ext (.t 63) 0),
 oO 67 (.ext (.t 63) 1),
 oM 12 66,
 oM 8 67])
 (.seq (.seq (.ops [
 oM 68 6,
 oO 69 (.bin .neq (.t 68) (.c (.int .i64 0))),
 oM 70 69,
 oG 71 (.mv (.t 8)) 70 false,
 oG 72 (.bin .neq (.t 71) (.c (.int .i64 0))) 70 false,
 oO 73 (.pick (.t 70) (.c (.bool true)) (.t 72))])
 (.cond (.t 73)
 (.seq (.ops [
 oO 2 (.mv (.c (.bool false)))])
 .ret)
 .skip))
 (.seq (.seq (.ops [
 oO 74 (.fldA 0 (.t 3)),
 oO 75 (.load 1 false (.t 74))])
 (.cond (.t 75)
 (.seq (.ops [
 oM 76 11,
 oO 77 (.len (.t 76)),
 oO 78 (.bin .eql (.t 77) (.c (.int .i64 1))),
 oM 79 78,
 oG 80 (.mv (.t 12)) 79 true,
 oG 81 (.len (.t 80)) 79 true,
 oG 82 (.bin .eql (.t 81) (.c (.int .i64 1))) 79 true,
 oO 83 (.pick (.t 79) (.t 82) (.c (.bool false))),
 oM 84 83,
 oG 85 (.call (.c (.fn F_witanlaw03_wakes [])) []) 84 true,
 oO 86 (.pick (.t 84) (.t 85) (.c (.bool false))),
 oM 2 86])
 .ret)
 .skip))
 (.seq (.draw [
 oM 87 11,
 oO 88 (.len (.t 87)),
 oO 89 (.bin .eql (.t 88) (.c (.int .i64 33))),
 oM 90 89,
 oG 91 (.mv (.t 12)) 90 true,
 oG 92 (.len (.t 91)) 90 true,
 oG 93 (.bin .eql (.t 92) (.c (.int .i64 33))) 90 true,
 oO 94 (.pick (.t 90) (.t 93) (.c (.bool false))),
 oM 95 94,
 oG 96 (.mv (.t 11)) 95 true,
 oG 97 (.idxA 1 (.t 96) (.c (.int .i64 0))) 95 true,
 oG 98 (.load 1 false (.t 97)) 95 true,
 oG 99 (.mv (.t 12)) 95 true,
 oG 100 (.idxA 1 (.t 99) (.c (.int .i64 0))) 95 true,
 oG 101 (.load 1 false (.t 100)) 95 true,
 oG 102 (.bin .add (.t 98) (.t 101)) 95 true,
 oG 103 (.bin .eql (.t 102) (.c (.int .u8 5))) 95 true,
 oO 104 (.pick (.t 95) (.t 103) (.c (.bool false))),
 oM 105 104,
 oG 106 (.mv (.t 11)) 105 true,
 oG 107 (.slice 1 (.t 106) (some (.c (.int .i64 1))) none none) 105 true,
 oG 108 (.mv (.t 12)) 105 true,
 oG 109 (.slice 1 (.t 108) (some (.c (.int .i64 1))) none none) 105 true,
 oG 110 (.call (.c (.fn F_witankeep_Bytes [])) [.t 107, .t 109]) 105 true,
 oO 111 (.pick (.t 105) (.t 110) (.c (.bool false))),
 oM 112 111,
 oG 113 (.call (.c (.fn F_witanlaw03_wakes [])) []) 112 true,
 oO 114 (.pick (.t 112) (.t 113) (.c (.bool false))),
 oM 2 114] ⟨.all, [], .look 0 (.look 1 (.look 2 (.look 3 (.look 4 (.look 5 (.look 6 (.look 7 (.look 8 (.look 9 (.look 10 (.look 11 (.look 12 (.look 13 (.look 14 (.look 15 (.look 16 (.look 17 (.look 18 (.look 19 (.look 20 (.look 21 (.look 22 (.run 23 true (.look 24 (.look 25 (.run 26 true (.look 27 (.look 28 .done))))))))))))))))))))))))))))⟩)
 .ret)))))))))))))⟩
theorem K_witanlaw03_CurveOrder : chkFun DK Pg Try.f12 A_witanlaw03_CurveOrder = true := by kernel_rfl
theorem B_witanlaw03_CurveOrder {args : List AV} {m : Mem} {K : AV → Mem → Prop} (h : vcFun DK Pg A_witanlaw03_CurveOrder args m K) : ACall Pg F_witanlaw03_CurveOrder args m K := call_body mixed Try.func12 (by kernel_rfl) K_witanlaw03_CurveOrder h

noncomputable def A_witanlaw07_FeldExact : AFun := ⟨4, 113, [.t 8],
 (.seq (.ops [
 oO 6 (.box 1 4 (.t 2)),
 oO 7 (.box 1 4 (.t 3)),
 oO 8 (.mv (.c (.bool false)))])
 (.seq (.seq (.ops [
 oM 17 0,
 oO 18 (.len (.t 17)),
 oO 19 (.bin .gtr (.t 18) (.c (.int .i64 5))),
 oM 20 19,
 oG 21 (.mv (.t 1)) 20 false,
 oG 22 (.len (.t 21)) 20 false,
 oG 23 (.bin .gtr (.t 22) (.c (.int .i64 5))) 20 false,
 oO 24 (.pick (.t 20) (.c (.bool true)) (.t 23))])
 (.cond (.t 24)
 (.seq (.ops [
 oO 8 (.mv (.c (.bool true)))])
 .ret)
 .skip))
 (.seq (.ops [
 oM 25 0,
 oK 26 F_witankeep_TwinNums [.t 25],
 oM 27 1,
 oK 28 F_witankeep_TwinPoints [.t 27],
 oM 9 26,
 oM 10 28])
 (.seq (.ops [
 oM 30 9,
 oK 31 F_feld_Commit [.t 30],
 oM 29 31,
 oO 32 (.ext (.t 29) 0),
 oO 33 (.ext (.t 29) 1),
 oM 11 32,
 oM 12 33])
 (.seq (.ops [
 oM 35 10,
 oO 36 (.load 4 true (.t 6)),
 oK 37 F_feld_At [.t 35, .t 36],
 oM 34 37,
 oO 38 (.ext (.t 34) 0),
 oO 39 (.ext (.t 34) 1),
 oO 13 (.alloc 9 1 [.bool false, .int .u64 0, .int .u64 0, .int .u64 0, .int .u64 0, .int .u64 0, .int .u64 0, .int .u64 0, .int .u64 0]),
 ⟨none, .stA 9 1 9 (.t 13) (.t 38), none⟩,
 oM 14 39])
 (.seq (.ops [
 oM 41 10,
 oO 42 (.load 4 true (.t 6)),
 oO 43 (.load 4 true (.t 7)),
 oK 44 F_feld_Fits [.t 41, .t 42, .t 43],
 oM 40 44,
 oO 45 (.ext (.t 40) 0),
 oO 46 (.ext (.t 40) 1),
 oM 15 45,
 oM 16 46])
 (.seq (.seq (.ops [
 oM 47 12,
 oO 48 (.bin .neq (.t 47) (.c (.int .i64 0))),
 oM 49 48,
 oG 50 (.mv (.t 11)) 49 false,
 oG 51 (.mv (.t 0)) 49 false,
 oG 52 (.call (.c (.fn F_witanref06_Commit [])) [.t 51]) 49 false,
 oG 53 (.call (.c (.fn F_witankeep_Points [])) [.t 50, .t 52]) 49 false,
 oG 54 (.un .not (.t 53)) 49 false,
 oO 55 (.pick (.t 49) (.c (.bool true)) (.t 54)),
 oM 56 55,
 oG 57 (.mv (.t 9)) 56 false,
 oG 58 (.mv (.t 0)) 56 false,
 oG 59 (.call (.c (.fn F_witankeep_Nums [])) [.t 57, .t 58]) 56 false,
 oG 60 (.un .not (.t 59)) 56 false,
 oO 61 (.pick (.t 56) (.c (.bool true)) (.t 60)),
 oM 62 61,
 oG 63 (.mv (.t 10)) 62 false,
 oG 64 (.mv (.t 1)) 62 false,
 oG 65 (.call (.c (.fn F_witankeep_Points [])) [.t 63, .t 64]) 62 false,
 oG 66 (.un .not (.t 65)) 62 false,
 oO 67 (.pick (.t 62) (.c (.bool true)) (.t 66))])
 (.cond (.t 67)
 (.seq (.ops [
 oO 8 (.mv (.c (.bool false)))])
 .ret)
 .skip))
 (.seq (.seq (.ops [
 oM 68 1,
 oK 69 F_witanref06_Points [.t 68],
 oO 70 (.un .not (.t 69))])
 (.cond (.t 70)
 (.seq (.ops [
 oM 71 14,
 oO 72 (.bin .eql (.t 71) (.c (.int .i64 3))),
 oM 73 72,
 oG 74 (.mv (.t 16)) 73 true,
 oG 75 (.bin .eql (.t 74) (.c (.int .i64 3))) 73 true,
 oO 76 (.pick (.t 73) (.t 75) (.c (.bool false))),
 oM 77 76,
 oG 78 (.load 9 true (.t 13)) 77 true,
 oG 79 (.build [.bool false, .int .u64 0, .int .u64 0, .int .u64 0, .int .u64 0, .int .u64 0, .int .u64 0, .int .u64 0, .int .u64 0] []) 77 true,
 oG 80 (.call (.c (.fn F_witankeep_Point [])) [.t 78, .t 79]) 77 true,
 oO 81 (.pick (.t 77) (.t 80) (.c (.bool false))),
 oM 82 81,
 oG 83 (.mv (.t 15)) 82 true,
 oG 84 (.un .not (.t 83)) 82 true,
 oO 85 (.pick (.t 82) (.t 84) (.c (.bool false))),
 oM 86 85,
 oG 87 (.call (.c (.fn F_witanlaw07_wakes [])) []) 86 true,
 oO 88 (.pick (.t 86) (.t 87) (.c (.bool false))),
 oM 8 88])
 .ret)
 .skip))
 (.seq (.draw [
 oM 89 14,
 oO 90 (.bin .eql (.t 89) (.c (.int .i64 0))),
 oM 91 90,
 oG 92 (.mv (.t 16)) 91 true,
 oG 93 (.bin .eql (.t 92) (.c (.int .i64 0))) 91 true,
 oO 94 (.pick (.t 91) (.t 93) (.c (.bool false))),
 oM 95 94,
 oG 96 (.load 9 true (.t 13)) 95 true,
 oG 97 (.mv (.t 1)) 95 true,
 oG 98 (.load 4 true (.t 6)) 95 true,
 oG 99 (.call (.c (.fn F_witanref06_At [])) [.t 97, .t 98]) 95 true,
 oG 100 (.call (.c (.fn F_witankeep_Point [])) [.t 96, .t 99]) 95 true,
 oO 101 (.pick (.t 95) (.t 100) (.c (.bool false))),
 oM 102 101,
 oG 103 (.mv (.t 15)) 102 true,
 oG 104 (.mv (.t 1)) 102 true,
 oG 105 (.load 4 true (.t 6)) 102 true,
 oG 106 (.load 4 true (.t 7)) 102 true,
 oG 107 (.call (.c (.fn F_witanref06_Fits [])) [.t 104, .t 105, .t 106]) 102 true,
 oG 108 (.eqb false (.t 103) (.t 107)) 102 true,
 oO 109 (.pick (.t 102) (.t 108) (.c (.bool false))),
 oM 110 109,
 oG 111 (.call (.c (.fn F_witanlaw07_wakes [])) []) 110 true,
 oO 112 (.pick (.t 110) (.t 111) (.c (.bool false))),
 oM 8 112] ⟨.all, [], .look 0 (.look 1 (.look 2 (.look 3 (.look 4 (.look 5 (.look 6 (.look 7 (.look 8 (.look 9 (.run 10 true (.run 11 true (.look 12 (.look 13 (.look 14 (.look 15 (.look 16 (.look 17 (.run 18 true (.look 19 (.look 20 (.look 21 (.run 22 true (.look 23 (.look 24 .done))))))))))))))))))))))))⟩)
 .ret)))))))))⟩
theorem K_witanlaw07_FeldExact : chkFun DK Pg Try.f13 A_witanlaw07_FeldExact = true := by kernel_rfl
theorem B_witanlaw07_FeldExact {args : List AV} {m : Mem} {K : AV → Mem → Prop} (h : vcFun DK Pg A_witanlaw07_FeldExact args m K) : ACall Pg F_witanlaw07_FeldExact args m K := call_body mixed Try.func13 (by kernel_rfl) K_witanlaw07_FeldExact h

noncomputable def A_witanlaw07_FeldFits : AFun := ⟨3, 69, [.t 6],
 (.seq (.ops [
 oO 4 (.box 1 4 (.t 1)),
 oO 5 (.box 1 4 (.t 2)),
 oO 6 (.mv (.c (.bool false)))])
 (.seq (.seq (.ops [
 oM 15 0,
 oO 16 (.len (.t 15)),
 oO 17 (.bin .gtr (.t 16) (.c (.int .i64 5)))])
 (.cond (.t 17)
 (.seq (.ops [
 oO 6 (.mv (.c (.bool true)))])
 .ret)
 .skip))
 (.seq (.ops [
 oM 19 0,
 oK 20 F_feld_Commit [.t 19],
 oM 18 20,
 oO 21 (.ext (.t 18) 0),
 oO 22 (.ext (.t 18) 1),
 oM 7 21,
 oM 8 22])
 (.seq (.ops [
 oM 23 0,
 oO 24 (.load 4 true (.t 4)),
 oK 25 F_poly_Eval [.t 23, .t 24],
 oO 9 (.alloc 1 4 [.int .u64 0]),
 ⟨none, .stA 1 4 4 (.t 9) (.t 25), none⟩])
 (.seq (.ops [
 oM 27 7,
 oO 28 (.load 4 true (.t 4)),
 oO 29 (.load 4 true (.t 9)),
 oK 30 F_feld_Fits [.t 27, .t 28, .t 29],
 oM 26 30,
 oO 31 (.ext (.t 26) 0),
 oO 32 (.ext (.t 26) 1),
 oM 10 31,
 oM 11 32])
 (.seq (.draw [
 oM 34 7,
 oO 35 (.load 4 true (.t 4)),
 oO 36 (.build [.int .u64 0, .int .u64 0, .int .u64 0, .int .u64 0] []),
 oK 37 F_field_Add [.c (.int .i64 1), .t 35, .t 36],
 oO 38 (.load 4 true (.t 9)),
 oO 39 (.load 4 true (.t 5)),
 oK 40 F_field_Add [.c (.int .i64 1), .t 38, .t 39],
 oK 41 F_feld_Fits [.t 34, .t 37, .t 40],
 oM 33 41,
 oO 42 (.ext (.t 33) 0),
 oO 43 (.ext (.t 33) 1),
 oM 12 42,
 oM 13 43] ⟨.all, [], .look 0 (.look 1 (.look 2 (.look 4 (.look 5 (.run 3 true (.run 6 false (.run 7 false (.look 8 (.look 9 (.look 10 (.look 11 (.look 12 .done))))))))))))⟩)
 (.seq (.ops [
 oO 44 (.load 4 true (.t 5)),
 oK 45 F_field_Red [.c (.int .i64 1), .t 44],
 oO 46 (.build [.int .u64 0, .int .u64 0, .int .u64 0, .int .u64 0] []),
 oO 47 (.eqa [.i, .i, .i, .i] false (.t 45) (.t 46)),
 oM 14 47])
 (.seq (.ops [
 oM 48 8,
 oO 49 (.bin .eql (.t 48) (.c (.int .i64 0))),
 oM 50 49,
 oG 51 (.mv (.t 11)) 50 true,
 oG 52 (.bin .eql (.t 51) (.c (.int .i64 0))) 50 true,
 oO 53 (.pick (.t 50) (.t 52) (.c (.bool false))),
 oM 54 53,
 oG 55 (.mv (.t 13)) 54 true,
 oG 56 (.bin .eql (.t 55) (.c (.int .i64 0))) 54 true,
 oO 57 (.pick (.t 54) (.t 56) (.c (.bool false))),
 oM 58 57,
 oG 59 (.mv (.t 10)) 58 true,
 oO 60 (.pick (.t 58) (.t 59) (.c (.bool false))),
 oM 61 60,
 oG 62 (.mv (.t 12)) 61 true,
 oG 63 (.mv (.t 14)) 61 true,
 oG 64 (.eqb false (.t 62) (.t 63)) 61 true,
 oO 65 (.pick (.t 61) (.t 64) (.c (.bool false))),
 oM 66 65,
 oG 67 (.call (.c (.fn F_witanlaw07_wakes [])) []) 66 true,
 oO 68 (.pick (.t 66) (.t 67) (.c (.bool false))),
 oM 6 68])
 .ret))))))))⟩
theorem K_witanlaw07_FeldFits : chkFun DK Pg Try.f14 A_witanlaw07_FeldFits = true := by kernel_rfl
theorem B_witanlaw07_FeldFits {args : List AV} {m : Mem} {K : AV → Mem → Prop} (h : vcFun DK Pg A_witanlaw07_FeldFits args m K) : ACall Pg F_witanlaw07_FeldFits args m K := call_body mixed Try.func14 (by kernel_rfl) K_witanlaw07_FeldFits h

noncomputable def A_witanlaw07_FeldAt : AFun := ⟨2, 96, [.t 4],
 (.seq (.ops [
 oO 3 (.box 1 4 (.t 1)),
 oO 4 (.mv (.c (.bool false)))])
 (.seq (.seq (.ops [
 oM 13 0,
 oO 14 (.len (.t 13)),
 oO 15 (.bin .gtr (.t 14) (.c (.int .i64 5)))])
 (.cond (.t 15)
 (.seq (.ops [
 oO 4 (.mv (.c (.bool true)))])
 .ret)
 .skip))
 (.seq (.ops [
 oM 17 0,
 oK 18 F_feld_Commit [.t 17],
 oM 16 18,
 oO 19 (.ext (.t 16) 0),
 oO 20 (.ext (.t 16) 1),
 oM 5 19,
 oM 6 20])
 (.seq (.ops [
 oM 22 5,
 oO 23 (.load 4 true (.t 3)),
 oK 24 F_feld_At [.t 22, .t 23],
 oM 21 24,
 oO 25 (.ext (.t 21) 0),
 oO 26 (.ext (.t 21) 1),
 oO 7 (.alloc 9 1 [.bool false, .int .u64 0, .int .u64 0, .int .u64 0, .int .u64 0, .int .u64 0, .int .u64 0, .int .u64 0, .int .u64 0]),
 ⟨none, .stA 9 1 9 (.t 7) (.t 25), none⟩,
 oM 8 26])
 (.seq (.ops [
 oM 28 5,
 oO 29 (.build [.int .u64 0, .int .u64 0, .int .u64 0, .int .u64 0] []),
 oK 30 F_feld_At [.t 28, .t 29],
 oM 27 30,
 oO 31 (.ext (.t 27) 0),
 oO 32 (.ext (.t 27) 1),
 oO 9 (.alloc 9 1 [.bool false, .int .u64 0, .int .u64 0, .int .u64 0, .int .u64 0, .int .u64 0, .int .u64 0, .int .u64 0, .int .u64 0]),
 ⟨none, .stA 9 1 9 (.t 9) (.t 31), none⟩,
 oM 10 32])
 (.seq (.seq (.draw [
 oM 33 6,
 oO 34 (.bin .neq (.t 33) (.c (.int .i64 0))),
 oM 35 34,
 oG 36 (.mv (.t 8)) 35 false,
 oG 37 (.bin .neq (.t 36) (.c (.int .i64 0))) 35 false,
 oO 38 (.pick (.t 35) (.c (.bool true)) (.t 37)),
 oM 39 38,
 oG 40 (.mv (.t 10)) 39 false,
 oG 41 (.bin .neq (.t 40) (.c (.int .i64 0))) 39 false,
 oO 42 (.pick (.t 39) (.c (.bool true)) (.t 41)),
 oM 43 42,
 oG 44 (.mv (.t 5)) 43 false,
 oG 45 (.len (.t 44)) 43 false,
 oG 46 (.mv (.t 0)) 43 false,
 oG 47 (.len (.t 46)) 43 false,
 oG 48 (.bin .neq (.t 45) (.t 47)) 43 false,
 oO 49 (.pick (.t 43) (.c (.bool true)) (.t 48)),
 oM 50 49,
 oG 51 (.load 9 true (.t 7)) 50 false,
 oG 52 (.mv (.t 0)) 50 false,
 oG 53 (.load 4 true (.t 3)) 50 false,
 oG 54 (.call (.c (.fn F_poly_Eval [])) [.t 52, .t 53]) 50 false,
 oG 55 (.call (.c (.fn F_curve_Base [])) [.t 54]) 50 false,
 oG 56 (.call (.c (.fn F_witankeep_Point [])) [.t 51, .t 55]) 50 false,
 oG 57 (.un .not (.t 56)) 50 false,
 oO 58 (.pick (.t 50) (.c (.bool true)) (.t 57))] ⟨.all, [], .look 0 (.look 1 (.look 2 (.look 3 (.look 4 (.look 5 (.look 6 (.look 7 (.look 8 (.look 9 (.look 10 (.look 11 (.look 12 (.look 13 (.look 14 (.look 15 (.look 16 (.look 17 (.look 18 (.look 19 (.look 20 (.run 21 true (.run 22 true (.run 23 true (.look 24 (.look 25 .done)))))))))))))))))))))))))⟩)
 (.cond (.t 58)
 (.seq (.ops [
 oO 4 (.mv (.c (.bool false)))])
 .ret)
 .skip))
 (.seq (.seq (.ops [
 oM 59 0,
 oO 60 (.len (.t 59)),
 oO 61 (.bin .eql (.t 60) (.c (.int .i64 0)))])
 (.cond (.t 61)
 (.seq (.ops [
 oO 62 (.fldA 0 (.t 9)),
 oO 63 (.load 1 false (.t 62)),
 oM 64 63,
 oG 65 (.fldA 0 (.t 7)) 64 true,
 oG 66 (.load 1 false (.t 65)) 64 true,
 oO 67 (.pick (.t 64) (.t 66) (.c (.bool false))),
 oM 68 67,
 oG 69 (.call (.c (.fn F_witanlaw07_wakes [])) []) 68 true,
 oO 70 (.pick (.t 68) (.t 69) (.c (.bool false))),
 oM 4 70])
 .ret)
 .skip))
 (.seq (.ops [
 oM 72 5,
 oK 73 F_field_Prime [.c (.int .i64 1)],
 oK 74 F_feld_At [.t 72, .t 73],
 oM 71 74,
 oO 75 (.ext (.t 71) 0),
 oO 76 (.ext (.t 71) 1),
 oO 11 (.alloc 9 1 [.bool false, .int .u64 0, .int .u64 0, .int .u64 0, .int .u64 0, .int .u64 0, .int .u64 0, .int .u64 0, .int .u64 0]),
 ⟨none, .stA 9 1 9 (.t 11) (.t 75), none⟩,
 oM 12 76])
 (.seq (.draw [
 oM 77 12,
 oO 78 (.bin .eql (.t 77) (.c (.int .i64 0))),
 oM 79 78,
 oG 80 (.load 9 true (.t 9)) 79 true,
 oG 81 (.mv (.t 5)) 79 true,
 oG 82 (.idxA 9 (.t 81) (.c (.int .i64 0))) 79 true,
 oG 83 (.load 9 true (.t 82)) 79 true,
 oG 84 (.call (.c (.fn F_witankeep_Point [])) [.t 80, .t 83]) 79 true,
 oO 85 (.pick (.t 79) (.t 84) (.c (.bool false))),
 oM 86 85,
 oG 87 (.load 9 true (.t 11)) 86 true,
 oG 88 (.mv (.t 5)) 86 true,
 oG 89 (.idxA 9 (.t 88) (.c (.int .i64 0))) 86 true,
 oG 90 (.load 9 true (.t 89)) 86 true,
 oG 91 (.call (.c (.fn F_witankeep_Point [])) [.t 87, .t 90]) 86 true,
 oO 92 (.pick (.t 86) (.t 91) (.c (.bool false))),
 oM 93 92,
 oG 94 (.call (.c (.fn F_witanlaw07_wakes [])) []) 93 true,
 oO 95 (.pick (.t 93) (.t 94) (.c (.bool false))),
 oM 4 95] ⟨.all, [], .look 0 (.look 1 (.look 2 (.look 3 (.look 4 (.look 5 (.look 6 (.run 7 true (.look 8 (.look 9 (.look 10 (.look 11 (.look 12 (.look 13 (.run 14 true (.look 15 (.look 16 (.run 17 true (.look 18 (.look 19 .done)))))))))))))))))))⟩)
 .ret)))))))))⟩
theorem K_witanlaw07_FeldAt : chkFun DK Pg Try.f15 A_witanlaw07_FeldAt = true := by kernel_rfl
theorem B_witanlaw07_FeldAt {args : List AV} {m : Mem} {K : AV → Mem → Prop} (h : vcFun DK Pg A_witanlaw07_FeldAt args m K) : ACall Pg F_witanlaw07_FeldAt args m K := call_body mixed Try.func15 (by kernel_rfl) K_witanlaw07_FeldAt h

noncomputable def A_witanlaw03_CurveSides : AFun := ⟨1, 111, [.t 2],
 (.seq (.ops [
 oO 1 (.box 1 4 (.t 0)),
 oO 2 (.mv (.c (.bool false)))])
 (.seq (.ops [
 oO 12 (.load 4 true (.t 1)),
 oK 13 F_limb_Bytes [.t 12],
 oO 3 (.alloc 1 32 [.int .u8 0]),
 oS 32 3 13])
 (.seq (.ops [
 oO 15 (.bsl 1 1 [.int .u8 0] [(0, 1, .c (.int .u8 2))]),
 oO 16 (.slarr 32 1 (.t 3) none none none),
 oO 17 (.app 1 1 (.t 15) (.t 16)),
 oK 18 F_curve_Read [.t 17],
 oM 14 18,
 oO 19 (.ext (.t 14) 0),
 oO 20 (.ext (.t 14) 1),
 oO 4 (.alloc 9 1 [.bool false, .int .u64 0, .int .u64 0, .int .u64 0, .int .u64 0, .int .u64 0, .int .u64 0, .int .u64 0, .int .u64 0]),
 ⟨none, .stA 9 1 9 (.t 4) (.t 19), none⟩,
 oM 5 20])
 (.seq (.ops [
 oO 22 (.bsl 1 1 [.int .u8 0] [(0, 1, .c (.int .u8 3))]),
 oO 23 (.slarr 32 1 (.t 3) none none none),
 oO 24 (.app 1 1 (.t 22) (.t 23)),
 oK 25 F_curve_Read [.t 24],
 oM 21 25,
 oO 26 (.ext (.t 21) 0),
 oO 27 (.ext (.t 21) 1),
 oO 6 (.alloc 9 1 [.bool false, .int .u64 0, .int .u64 0, .int .u64 0, .int .u64 0, .int .u64 0, .int .u64 0, .int .u64 0, .int .u64 0]),
 ⟨none, .stA 9 1 9 (.t 6) (.t 26), none⟩,
 oM 7 27])
 (.seq (.seq (.draw [
 oO 28 (.load 4 true (.t 1)),
 oK 29 F_field_Prime [.c (.int .i64 0)],
 oK 30 F_limb_Cmp [.t 28, .t 29],
 oO 31 (.bin .geq (.t 30) (.c (.int .i64 0)))] ⟨.all, [], .look 0 (.run 1 true (.run 2 true (.look 3 .done)))⟩)
 (.cond (.t 31)
 (.seq (.ops [
 oM 32 5,
 oO 33 (.bin .eql (.t 32) (.c (.int .i64 2))),
 oM 34 33,
 oG 35 (.mv (.t 7)) 34 true,
 oG 36 (.bin .eql (.t 35) (.c (.int .i64 2))) 34 true,
 oO 37 (.pick (.t 34) (.t 36) (.c (.bool false))),
 oM 38 37,
 oG 39 (.call (.c (.fn F_witanlaw03_wakes [])) []) 38 true,
 oO 40 (.pick (.t 38) (.t 39) (.c (.bool false))),
 oM 2 40])
 .ret)
 .skip))
 (.seq (.draw [
 oO 42 (.load 4 true (.t 1)),
 oO 43 (.load 4 true (.t 1)),
 oK 44 F_field_Mul [.c (.int .i64 0), .t 42, .t 43],
 oO 45 (.load 4 true (.t 1)),
 oK 46 F_field_Mul [.c (.int .i64 0), .t 44, .t 45],
 oO 47 (.build [.int .u64 0, .int .u64 0, .int .u64 0, .int .u64 0] [(0, 1, .c (.int .u64 7))]),
 oK 48 F_field_Add [.c (.int .i64 0), .t 46, .t 47],
 oK 49 F_field_Root [.t 48],
 oM 41 49,
 oO 50 (.ext (.t 41) 0),
 oO 51 (.ext (.t 41) 1),
 oO 8 (.alloc 1 4 [.int .u64 0]),
 oS 4 8 50,
 oM 9 51] ⟨.all, [(11, some 12)], .look 0 (.look 1 (.look 3 (.look 5 (.run 2 true (.run 4 true (.run 6 true (.run 7 true (.look 8 (.look 9 (.pre 11 12 (.look 10 (.fill (.look 13 .done)))))))))))))⟩)
 (.seq (.seq (.ops [
 oM 52 9,
 oO 53 (.un .not (.t 52))])
 (.cond (.t 53)
 (.seq (.ops [
 oM 54 5,
 oO 55 (.bin .eql (.t 54) (.c (.int .i64 3))),
 oM 56 55,
 oG 57 (.mv (.t 7)) 56 true,
 oG 58 (.bin .eql (.t 57) (.c (.int .i64 3))) 56 true,
 oO 59 (.pick (.t 56) (.t 58) (.c (.bool false))),
 oM 60 59,
 oG 61 (.call (.c (.fn F_witanlaw03_wakes [])) []) 60 true,
 oO 62 (.pick (.t 60) (.t 61) (.c (.bool false))),
 oM 2 62])
 .ret)
 .skip))
 (.seq (.ops [
 oO 64 (.load 9 true (.t 4)),
 oK 65 F_curve_Neg [.t 64],
 oM 63 65,
 oO 66 (.ext (.t 63) 0),
 oO 67 (.ext (.t 63) 1),
 oO 10 (.alloc 9 1 [.bool false, .int .u64 0, .int .u64 0, .int .u64 0, .int .u64 0, .int .u64 0, .int .u64 0, .int .u64 0, .int .u64 0]),
 ⟨none, .stA 9 1 9 (.t 10) (.t 66), none⟩,
 oM 11 67])
 (.seq (.ops [
 oM 68 5,
 oO 69 (.bin .eql (.t 68) (.c (.int .i64 0))),
 oM 70 69,
 oG 71 (.mv (.t 7)) 70 true,
 oG 72 (.bin .eql (.t 71) (.c (.int .i64 0))) 70 true,
 oO 73 (.pick (.t 70) (.t 72) (.c (.bool false))),
 oM 74 73,
 oG 75 (.mv (.t 11)) 74 true,
 oG 76 (.bin .eql (.t 75) (.c (.int .i64 0))) 74 true,
 oO 77 (.pick (.t 74) (.t 76) (.c (.bool false))),
 oM 78 77,
 oG 79 (.load 9 true (.t 10)) 78 true,
 oG 80 (.load 9 true (.t 6)) 78 true,
 oG 81 (.call (.c (.fn F_witankeep_Point [])) [.t 79, .t 80]) 78 true,
 oO 82 (.pick (.t 78) (.t 81) (.c (.bool false))),
 oM 83 82,
 oG 84 (.fldA 1 (.t 4)) 83 true,
 oG 85 (.load 4 true (.t 84)) 83 true,
 oG 86 (.load 4 true (.t 1)) 83 true,
 oG 87 (.eqa [.i, .i, .i, .i] false (.t 85) (.t 86)) 83 true,
 oO 88 (.pick (.t 83) (.t 87) (.c (.bool false))),
 oM 89 88,
 oG 90 (.fldA 5 (.t 4)) 89 true,
 oG 91 (.idxP 4 1 (.t 90) (.c (.int .i64 0))) 89 true,
 oG 92 (.load 1 false (.t 91)) 89 true,
 oG 93 (.bin .rem (.t 92) (.c (.int .u64 2))) 89 true,
 oG 94 (.bin .eql (.t 93) (.c (.int .u64 0))) 89 true,
 oO 95 (.pick (.t 89) (.t 94) (.c (.bool false))),
 oM 96 95,
 oG 97 (.fldA 5 (.t 6)) 96 true,
 oG 98 (.idxP 4 1 (.t 97) (.c (.int .i64 0))) 96 true,
 oG 99 (.load 1 false (.t 98)) 96 true,
 oG 100 (.bin .rem (.t 99) (.c (.int .u64 2))) 96 true,
 oG 101 (.bin .eql (.t 100) (.c (.int .u64 1))) 96 true,
 oO 102 (.pick (.t 96) (.t 101) (.c (.bool false))),
 oM 103 102,
 oG 104 (.load 9 true (.t 4)) 103 true,
 oG 105 (.call (.c (.fn F_curve_Check [])) [.t 104]) 103 true,
 oG 106 (.bin .eql (.t 105) (.c (.int .i64 0))) 103 true,
 oO 107 (.pick (.t 103) (.t 106) (.c (.bool false))),
 oM 108 107,
 oG 109 (.call (.c (.fn F_witanlaw03_wakes [])) []) 108 true,
 oO 110 (.pick (.t 108) (.t 109) (.c (.bool false))),
 oM 2 110])
 .ret)))))))))⟩
theorem K_witanlaw03_CurveSides : chkFun DK Pg Try.f16 A_witanlaw03_CurveSides = true := by kernel_rfl
theorem B_witanlaw03_CurveSides {args : List AV} {m : Mem} {K : AV → Mem → Prop} (h : vcFun DK Pg A_witanlaw03_CurveSides args m K) : ACall Pg F_witanlaw03_CurveSides args m K := call_body mixed Try.func16 (by kernel_rfl) K_witanlaw03_CurveSides h

noncomputable def A_witanlaw07_FeldSums : AFun := ⟨4, 219, [.t 8],
 (.seq (.ops [
 oO 8 (.mv (.c (.bool false)))])
 (.seq (.ops [
 oM 24 0,
 oO 25 (.len (.t 24)),
 oM 9 25])
 (.seq (.seq (.ops [
 oM 26 9,
 oO 27 (.bin .gtr (.t 26) (.c (.int .i64 5))),
 oM 28 27,
 oG 29 (.mv (.t 1)) 28 false,
 oG 30 (.len (.t 29)) 28 false,
 oG 31 (.mv (.t 9)) 28 false,
 oG 32 (.bin .lss (.t 30) (.t 31)) 28 false,
 oO 33 (.pick (.t 28) (.c (.bool true)) (.t 32)),
 oM 34 33,
 oG 35 (.mv (.t 2)) 34 false,
 oG 36 (.len (.t 35)) 34 false,
 oG 37 (.mv (.t 9)) 34 false,
 oG 38 (.bin .lss (.t 36) (.t 37)) 34 false,
 oO 39 (.pick (.t 34) (.c (.bool true)) (.t 38)),
 oM 40 39,
 oG 41 (.mv (.t 1)) 40 false,
 oG 42 (.len (.t 41)) 40 false,
 oG 43 (.bin .gtr (.t 42) (.c (.int .i64 20))) 40 false,
 oO 44 (.pick (.t 40) (.c (.bool true)) (.t 43)),
 oM 45 44,
 oG 46 (.mv (.t 2)) 45 false,
 oG 47 (.len (.t 46)) 45 false,
 oG 48 (.bin .gtr (.t 47) (.c (.int .i64 20))) 45 false,
 oO 49 (.pick (.t 45) (.c (.bool true)) (.t 48))])
 (.cond (.t 49)
 (.seq (.ops [
 oO 8 (.mv (.c (.bool true)))])
 .ret)
 .skip))
 (.seq (.draw [
 oM 50 1,
 oM 51 9,
 oO 52 (.slice 4 (.t 50) none (some (.t 51)) none),
 oM 53 2,
 oM 54 9,
 oO 55 (.slice 4 (.t 53) none (some (.t 54)) none),
 oM 1 52,
 oM 2 55] ⟨.no, [], .flat⟩)
 (.seq (.ops [
 oO 10 (.mv (.c (.nils)))])
 (.seq (.seq (.ops [
 oO 11 (.mv (.c (.int .i64 0)))])
 (.block 0
 (.loop
 (.seq (.seq (.ops [
 oM 56 11,
 oM 57 9,
 oO 58 (.bin .lss (.t 56) (.t 57))])
 (.cond (.t 58)
 .skip
 (.exit 0)))
 (.seq (.block 1
 (.draw [
 oM 61 10,
 oM 62 0,
 oM 63 11,
 oO 64 (.idxA 4 (.t 62) (.t 63)),
 oO 65 (.load 4 true (.t 64)),
 oM 66 1,
 oM 67 11,
 oO 68 (.idxA 4 (.t 66) (.t 67)),
 oO 69 (.load 4 true (.t 68)),
 oK 70 F_field_Add [.c (.int .i64 1), .t 65, .t 69],
 oM 71 2,
 oM 72 11,
 oO 73 (.idxA 4 (.t 71) (.t 72)),
 oO 74 (.load 4 true (.t 73)),
 oK 75 F_field_Add [.c (.int .i64 1), .t 70, .t 74],
 oO 76 (.bsl 4 1 [.int .u64 0, .int .u64 0, .int .u64 0, .int .u64 0] [(0, 4, .t 75)]),
 oO 77 (.app 4 32 (.t 61) (.t 76)),
 oM 10 77] ⟨.all, [], .look 0 (.look 1 (.look 2 (.look 3 (.look 4 (.look 5 (.look 6 (.look 7 (.look 8 (.look 10 (.look 11 (.look 12 (.look 13 (.run 9 true (.run 14 false (.run 15 false (.run 16 false (.look 17 .done)))))))))))))))))⟩))
 (.ops [
 oM 59 11,
 oO 60 (.bin .add (.t 59) (.c (.int .i64 1))),
 oM 11 60]))))))
 (.seq (.ops [
 oM 79 0,
 oK 80 F_feld_Commit [.t 79],
 oM 78 80,
 oO 81 (.ext (.t 78) 0),
 oO 82 (.ext (.t 78) 1),
 oM 12 81,
 oM 13 82])
 (.seq (.ops [
 oM 84 1,
 oK 85 F_feld_Commit [.t 84],
 oM 83 85,
 oO 86 (.ext (.t 83) 0),
 oO 87 (.ext (.t 83) 1),
 oM 14 86,
 oM 15 87])
 (.seq (.ops [
 oM 89 2,
 oK 90 F_feld_Commit [.t 89],
 oM 88 90,
 oO 91 (.ext (.t 88) 0),
 oO 92 (.ext (.t 88) 1),
 oM 16 91,
 oM 17 92])
 (.seq (.ops [
 oM 94 10,
 oK 95 F_feld_Commit [.t 94],
 oM 93 95,
 oO 96 (.ext (.t 93) 0),
 oO 97 (.ext (.t 93) 1),
 oM 18 96,
 oM 19 97])
 (.seq (.seq (.ops [
 oM 98 13,
 oO 99 (.bin .neq (.t 98) (.c (.int .i64 0))),
 oM 100 99,
 oG 101 (.mv (.t 15)) 100 false,
 oG 102 (.bin .neq (.t 101) (.c (.int .i64 0))) 100 false,
 oO 103 (.pick (.t 100) (.c (.bool true)) (.t 102)),
 oM 104 103,
 oG 105 (.mv (.t 17)) 104 false,
 oG 106 (.bin .neq (.t 105) (.c (.int .i64 0))) 104 false,
 oO 107 (.pick (.t 104) (.c (.bool true)) (.t 106)),
 oM 108 107,
 oG 109 (.mv (.t 19)) 108 false,
 oG 110 (.bin .neq (.t 109) (.c (.int .i64 0))) 108 false,
 oO 111 (.pick (.t 108) (.c (.bool true)) (.t 110)),
 oM 112 111,
 oG 113 (.mv (.t 12)) 112 false,
 oG 114 (.len (.t 113)) 112 false,
 oG 115 (.mv (.t 9)) 112 false,
 oG 116 (.bin .neq (.t 114) (.t 115)) 112 false,
 oO 117 (.pick (.t 112) (.c (.bool true)) (.t 116)),
 oM 118 117,
 oG 119 (.mv (.t 14)) 118 false,
 oG 120 (.len (.t 119)) 118 false,
 oG 121 (.mv (.t 9)) 118 false,
 oG 122 (.bin .neq (.t 120) (.t 121)) 118 false,
 oO 123 (.pick (.t 118) (.c (.bool true)) (.t 122)),
 oM 124 123,
 oG 125 (.mv (.t 16)) 124 false,
 oG 126 (.len (.t 125)) 124 false,
 oG 127 (.mv (.t 9)) 124 false,
 oG 128 (.bin .neq (.t 126) (.t 127)) 124 false,
 oO 129 (.pick (.t 124) (.c (.bool true)) (.t 128)),
 oM 130 129,
 oG 131 (.mv (.t 18)) 130 false,
 oG 132 (.len (.t 131)) 130 false,
 oG 133 (.mv (.t 9)) 130 false,
 oG 134 (.bin .neq (.t 132) (.t 133)) 130 false,
 oO 135 (.pick (.t 130) (.c (.bool true)) (.t 134))])
 (.cond (.t 135)
 (.seq (.ops [
 oO 8 (.mv (.c (.bool false)))])
 .ret)
 .skip))
 (.seq (.ops [
 oM 136 12,
 oK 137 F_witankeep_TwinPoints [.t 136],
 oM 138 14,
 oM 139 16,
 oO 140 (.bsl 1 3 [.nils] [(0, 1, .t 137), (1, 1, .t 138), (2, 1, .t 139)]),
 oM 20 140])
 (.seq (.ops [
 oM 142 20,
 oK 143 F_feld_Sum [.t 142],
 oM 141 143,
 oO 144 (.ext (.t 141) 0),
 oO 145 (.ext (.t 141) 1),
 oM 21 144,
 oM 13 145])
 (.seq (.seq (.ops [
 oM 146 13,
 oO 147 (.bin .neq (.t 146) (.c (.int .i64 0))),
 oM 148 147,
 oG 149 (.mv (.t 21)) 148 false,
 oG 150 (.mv (.t 18)) 148 false,
 oG 151 (.call (.c (.fn F_witankeep_Points [])) [.t 149, .t 150]) 148 false,
 oG 152 (.un .not (.t 151)) 148 false,
 oO 153 (.pick (.t 148) (.c (.bool true)) (.t 152)),
 oM 154 153,
 oG 155 (.mv (.t 20)) 154 false,
 oG 156 (.idxA 1 (.t 155) (.c (.int .i64 0))) 154 false,
 oG 157 (.load 1 false (.t 156)) 154 false,
 oG 158 (.mv (.t 12)) 154 false,
 oG 159 (.call (.c (.fn F_witankeep_Points [])) [.t 157, .t 158]) 154 false,
 oG 160 (.un .not (.t 159)) 154 false,
 oO 161 (.pick (.t 154) (.c (.bool true)) (.t 160))])
 (.cond (.t 161)
 (.seq (.ops [
 oO 8 (.mv (.c (.bool false)))])
 .ret)
 .skip))
 (.seq (.ops [
 oK 163 F_feld_Sum [.c (.nils)],
 oM 162 163,
 oO 164 (.ext (.t 162) 0),
 oO 165 (.ext (.t 162) 1),
 oM 22 164,
 oM 13 165])
 (.seq (.seq (.ops [
 oM 166 13,
 oO 167 (.bin .neq (.t 166) (.c (.int .i64 0))),
 oM 168 167,
 oG 169 (.mv (.t 22)) 168 false,
 oG 170 (.len (.t 169)) 168 false,
 oG 171 (.bin .neq (.t 170) (.c (.int .i64 0))) 168 false,
 oO 172 (.pick (.t 168) (.c (.bool true)) (.t 171))])
 (.cond (.t 172)
 (.seq (.ops [
 oO 8 (.mv (.c (.bool false)))])
 .ret)
 .skip))
 (.seq (.seq (.ops [
 oM 173 9,
 oO 174 (.bin .eql (.t 173) (.c (.int .i64 0)))])
 (.cond (.t 174)
 (.seq (.ops [
 oK 175 F_witanlaw07_wakes [],
 oM 8 175])
 .ret)
 .skip))
 (.seq (.ops [
 oO 23 (.mv (.c (.int .i64 3)))])
 (.seq (.seq (.ops [
 oM 176 3])
 (.cond (.t 176)
 (.ops [
 oM 177 20,
 oM 178 14,
 oM 179 9,
 oO 180 (.bin .sub (.t 179) (.c (.int .i64 1))),
 oO 181 (.slice 9 (.t 178) none (some (.t 180)) none),
 oO 182 (.idxA 1 (.t 177) (.c (.int .i64 1))),
 oS 1 182 181,
 oO 23 (.mv (.c (.int .i64 4)))])
 (.seq (.ops [
 oM 183 20,
 oM 184 14,
 oK 185 F_witankeep_TwinPoints [.t 184],
 oO 186 (.idxA 1 (.t 183) (.c (.int .i64 1))),
 oS 1 186 185])
 (.ops [
 oM 187 20,
 oO 188 (.idxA 1 (.t 187) (.c (.int .i64 1))),
 oO 189 (.load 1 false (.t 188)),
 oM 190 9,
 oO 191 (.bin .sub (.t 190) (.c (.int .i64 1))),
 oO 192 (.build [.int .u64 0, .int .u64 0, .int .u64 0, .int .u64 0] [(0, 1, .c (.int .u64 5))]),
 oO 193 (.build [.int .u64 0, .int .u64 0, .int .u64 0, .int .u64 0] [(0, 1, .c (.int .u64 1))]),
 oO 194 (.build [.bool false, .int .u64 0, .int .u64 0, .int .u64 0, .int .u64 0, .int .u64 0, .int .u64 0, .int .u64 0, .int .u64 0] [(1, 4, .t 192), (5, 4, .t 193)]),
 oO 195 (.idxA 9 (.t 189) (.t 191)),
 oS 9 195 194]))))
 (.seq (.ops [
 oM 197 20,
 oK 198 F_feld_Sum [.t 197],
 oM 196 198,
 oO 199 (.ext (.t 196) 0),
 oO 200 (.ext (.t 196) 1),
 oM 21 199,
 oM 13 200])
 (.seq (.ops [
 oM 201 13,
 oM 202 23,
 oO 203 (.bin .eql (.t 201) (.t 202)),
 oM 204 203,
 oG 205 (.mv (.t 21)) 204 true,
 oG 206 (.len (.t 205)) 204 true,
 oG 207 (.bin .eql (.t 206) (.c (.int .i64 0))) 204 true,
 oO 208 (.pick (.t 204) (.t 207) (.c (.bool false))),
 oM 209 208,
 oG 210 (.build [.int .u64 0, .int .u64 0, .int .u64 0, .int .u64 0] [(0, 1, .c (.int .u64 5))]) 209 true,
 oG 211 (.build [.int .u64 0, .int .u64 0, .int .u64 0, .int .u64 0] [(0, 1, .c (.int .u64 1))]) 209 true,
 oG 212 (.build [.bool false, .int .u64 0, .int .u64 0, .int .u64 0, .int .u64 0, .int .u64 0, .int .u64 0, .int .u64 0, .int .u64 0] [(1, 4, .t 210), (5, 4, .t 211)]) 209 true,
 oG 213 (.call (.c (.fn F_curve_Check [])) [.t 212]) 209 true,
 oG 214 (.bin .eql (.t 213) (.c (.int .i64 3))) 209 true,
 oO 215 (.pick (.t 209) (.t 214) (.c (.bool false))),
 oM 216 215,
 oG 217 (.call (.c (.fn F_witanlaw07_wakes [])) []) 216 true,
 oO 218 (.pick (.t 216) (.t 217) (.c (.bool false))),
 oM 8 218])
 .ret)))))))))))))))))))))⟩
theorem K_witanlaw07_FeldSums : chkFun DK Pg Try.f17 A_witanlaw07_FeldSums = true := by kernel_rfl
theorem B_witanlaw07_FeldSums {args : List AV} {m : Mem} {K : AV → Mem → Prop} (h : vcFun DK Pg A_witanlaw07_FeldSums args m K) : ACall Pg F_witanlaw07_FeldSums args m K := call_body mixed Try.func17 (by kernel_rfl) K_witanlaw07_FeldSums h

noncomputable def A_witanlaw07_FeldLong : AFun := ⟨2, 130, [.t 4],
 (.seq (.ops [
 oO 4 (.mv (.c (.bool false)))])
 (.seq (.seq (.ops [
 oM 16 0,
 oO 17 (.bin .lss (.t 16) (.c (.int .i64 0))),
 oM 18 17,
 oG 19 (.mv (.t 0)) 18 false,
 oG 20 (.bin .gtr (.t 19) (.c (.int .i64 1))) 18 false,
 oO 21 (.pick (.t 18) (.c (.bool true)) (.t 20)),
 oM 22 21,
 oG 23 (.mv (.t 1)) 22 false,
 oG 24 (.bin .lss (.t 23) (.c (.int .i64 0))) 22 false,
 oO 25 (.pick (.t 22) (.c (.bool true)) (.t 24)),
 oM 26 25,
 oG 27 (.mv (.t 1)) 26 false,
 oG 28 (.bin .gtr (.t 27) (.c (.int .i64 10))) 26 false,
 oO 29 (.pick (.t 26) (.c (.bool true)) (.t 28))])
 (.cond (.t 29)
 (.seq (.ops [
 oO 4 (.mv (.c (.bool true)))])
 .ret)
 .skip))
 (.seq (.ops [
 oM 30 0,
 oO 31 (.bin .add (.c (.int .i64 64)) (.t 30)),
 oO 32 (.mksl 4 32 [.int .u64 0, .int .u64 0, .int .u64 0, .int .u64 0] (.t 31) (.t 31)),
 oM 5 32])
 (.seq (.ops [
 oM 33 0,
 oO 34 (.bin .add (.c (.int .i64 64)) (.t 33)),
 oO 35 (.mksl 9 72 [.bool false, .int .u64 0, .int .u64 0, .int .u64 0, .int .u64 0, .int .u64 0, .int .u64 0, .int .u64 0, .int .u64 0] (.t 34) (.t 34)),
 oM 6 35])
 (.seq (.seq (.ops [
 oO 7 (.mv (.c (.int .i64 0)))])
 (.block 0
 (.loop
 (.seq (.seq (.ops [
 oM 36 7,
 oM 37 6,
 oO 38 (.len (.t 37)),
 oO 39 (.bin .lss (.t 36) (.t 38))])
 (.cond (.t 39)
 .skip
 (.exit 0)))
 (.seq (.block 1
 (.ops [
 oM 42 6,
 oM 43 7,
 oO 44 (.idxA 9 (.t 42) (.t 43)),
 oO 45 (.fldA 0 (.t 44)),
 ⟨none, .store 1 (.t 45) (.c (.bool true)), none⟩]))
 (.ops [
 oM 40 7,
 oO 41 (.bin .add (.t 40) (.c (.int .i64 1))),
 oM 7 41]))))))
 (.seq (.ops [
 oM 47 5,
 oK 48 F_feld_Commit [.t 47],
 oM 46 48,
 oO 49 (.ext (.t 46) 0),
 oO 50 (.ext (.t 46) 1),
 oM 8 49,
 oM 9 50])
 (.seq (.ops [
 oM 52 6,
 oO 53 (.build [.int .u64 0, .int .u64 0, .int .u64 0, .int .u64 0] [(0, 1, .c (.int .u64 3))]),
 oK 54 F_feld_At [.t 52, .t 53],
 oM 51 54,
 oO 55 (.ext (.t 51) 0),
 oO 56 (.ext (.t 51) 1),
 oO 10 (.alloc 9 1 [.bool false, .int .u64 0, .int .u64 0, .int .u64 0, .int .u64 0, .int .u64 0, .int .u64 0, .int .u64 0, .int .u64 0]),
 ⟨none, .stA 9 1 9 (.t 10) (.t 55), none⟩,
 oM 11 56])
 (.seq (.ops [
 oO 12 (.mv (.c (.nils)))])
 (.seq (.seq (.ops [
 oO 13 (.mv (.c (.int .i64 0)))])
 (.block 2
 (.loop
 (.seq (.seq (.ops [
 oM 57 13,
 oM 58 1,
 oO 59 (.bin .lss (.t 57) (.t 58))])
 (.cond (.t 59)
 .skip
 (.exit 2)))
 (.seq (.block 3
 (.ops [
 oM 62 12,
 oM 63 6,
 oO 64 (.slice 9 (.t 63) none (some (.c (.int .i64 2))) none),
 oO 65 (.bsl 1 1 [.nils] [(0, 1, .t 64)]),
 oO 66 (.app 1 24 (.t 62) (.t 65)),
 oM 12 66]))
 (.ops [
 oM 60 13,
 oO 61 (.bin .add (.t 60) (.c (.int .i64 1))),
 oM 13 61]))))))
 (.seq (.ops [
 oM 68 12,
 oK 69 F_feld_Sum [.t 68],
 oM 67 69,
 oO 70 (.ext (.t 67) 0),
 oO 71 (.ext (.t 67) 1),
 oM 14 70,
 oM 15 71])
 (.seq (.seq (.ops [
 oM 72 1,
 oO 73 (.bin .gtr (.t 72) (.c (.int .i64 8)))])
 (.cond (.t 73)
 (.seq (.ops [
 oM 74 15,
 oO 75 (.bin .neq (.t 74) (.c (.int .i64 4))),
 oM 76 75,
 oG 77 (.mv (.t 14)) 76 false,
 oG 78 (.len (.t 77)) 76 false,
 oG 79 (.bin .gtr (.t 78) (.c (.int .i64 0))) 76 false,
 oO 80 (.pick (.t 76) (.c (.bool true)) (.t 79))])
 (.cond (.t 80)
 (.seq (.ops [
 oO 4 (.mv (.c (.bool false)))])
 .ret)
 .skip))
 (.seq (.ops [
 oM 81 15,
 oO 82 (.bin .neq (.t 81) (.c (.int .i64 0))),
 oM 83 82,
 oG 84 (.mv (.t 1)) 83 false,
 oG 85 (.bin .gtr (.t 84) (.c (.int .i64 0))) 83 false,
 oG 86 (.mv (.t 85)) 83 false,
 oG 87 (.mv (.t 14)) 86 true,
 oG 88 (.len (.t 87)) 86 true,
 oG 89 (.bin .neq (.t 88) (.c (.int .i64 2))) 86 true,
 oG 90 (.mv (.t 89)) 86 true,
 oG 91 (.mv (.t 14)) 90 false,
 oG 92 (.idxA 9 (.t 91) (.c (.int .i64 0))) 90 false,
 oG 93 (.fldA 0 (.t 92)) 90 false,
 oG 94 (.load 1 false (.t 93)) 90 false,
 oG 95 (.un .not (.t 94)) 90 false,
 oG 96 (.pick (.t 90) (.c (.bool true)) (.t 95)) 86 true,
 oG 97 (.mv (.t 96)) 86 true,
 oG 98 (.mv (.t 14)) 97 false,
 oG 99 (.idxA 9 (.t 98) (.c (.int .i64 1))) 97 false,
 oG 100 (.fldA 0 (.t 99)) 97 false,
 oG 101 (.load 1 false (.t 100)) 97 false,
 oG 102 (.un .not (.t 101)) 97 false,
 oG 103 (.pick (.t 97) (.c (.bool true)) (.t 102)) 86 true,
 oG 104 (.pick (.t 86) (.t 103) (.c (.bool false))) 83 false,
 oO 105 (.pick (.t 83) (.c (.bool true)) (.t 104))])
 (.cond (.t 105)
 (.seq (.ops [
 oO 4 (.mv (.c (.bool false)))])
 .ret)
 .skip))))
 (.seq (.seq (.ops [
 oM 106 0,
 oO 107 (.bin .gtr (.t 106) (.c (.int .i64 0)))])
 (.cond (.t 107)
 (.seq (.ops [
 oM 108 9,
 oO 109 (.bin .eql (.t 108) (.c (.int .i64 4))),
 oM 110 109,
 oG 111 (.mv (.t 11)) 110 true,
 oG 112 (.bin .eql (.t 111) (.c (.int .i64 4))) 110 true,
 oO 113 (.pick (.t 110) (.t 112) (.c (.bool false))),
 oM 114 113,
 oG 115 (.call (.c (.fn F_witanlaw07_wakes [])) []) 114 true,
 oO 116 (.pick (.t 114) (.t 115) (.c (.bool false))),
 oM 4 116])
 .ret)
 .skip))
 (.seq (.ops [
 oM 117 9,
 oO 118 (.bin .eql (.t 117) (.c (.int .i64 0))),
 oM 119 118,
 oG 120 (.mv (.t 11)) 119 true,
 oG 121 (.bin .eql (.t 120) (.c (.int .i64 0))) 119 true,
 oO 122 (.pick (.t 119) (.t 121) (.c (.bool false))),
 oM 123 122,
 oG 124 (.fldA 0 (.t 10)) 123 true,
 oG 125 (.load 1 false (.t 124)) 123 true,
 oO 126 (.pick (.t 123) (.t 125) (.c (.bool false))),
 oM 127 126,
 oG 128 (.call (.c (.fn F_witanlaw07_wakes [])) []) 127 true,
 oO 129 (.pick (.t 127) (.t 128) (.c (.bool false))),
 oM 4 129])
 .ret)))))))))))))⟩
theorem K_witanlaw07_FeldLong : chkFun DK Pg Try.f18 A_witanlaw07_FeldLong = true := by kernel_rfl
theorem B_witanlaw07_FeldLong {args : List AV} {m : Mem} {K : AV → Mem → Prop} (h : vcFun DK Pg A_witanlaw07_FeldLong args m K) : ACall Pg F_witanlaw07_FeldLong args m K := call_body mixed Try.func18 (by kernel_rfl) K_witanlaw07_FeldLong h

noncomputable def A_witanlaw07_FeldRows : AFun := ⟨3, 115, [.t 6],
 (.seq (.ops [
 oO 5 (.box 1 4 (.t 2)),
 oO 6 (.mv (.c (.bool false)))])
 (.seq (.ops [
 oM 19 0,
 oO 20 (.len (.t 19)),
 oM 21 1,
 oO 22 (.len (.t 21)),
 oO 23 (.mn (.t 20) (.t 22)),
 oM 7 23])
 (.seq (.seq (.ops [
 oM 24 0,
 oO 25 (.len (.t 24)),
 oO 26 (.bin .gtr (.t 25) (.c (.int .i64 5))),
 oM 27 26,
 oG 28 (.mv (.t 1)) 27 false,
 oG 29 (.len (.t 28)) 27 false,
 oG 30 (.bin .gtr (.t 29) (.c (.int .i64 5))) 27 false,
 oO 31 (.pick (.t 27) (.c (.bool true)) (.t 30))])
 (.cond (.t 31)
 (.seq (.ops [
 oO 6 (.mv (.c (.bool true)))])
 .ret)
 .skip))
 (.seq (.ops [
 oM 33 0,
 oM 34 7,
 oO 35 (.slice 4 (.t 33) none (some (.t 34)) none),
 oK 36 F_feld_Commit [.t 35],
 oM 32 36,
 oO 37 (.ext (.t 32) 0),
 oO 38 (.ext (.t 32) 1),
 oM 8 37,
 oM 9 38])
 (.seq (.ops [
 oM 40 1,
 oM 41 7,
 oO 42 (.slice 4 (.t 40) none (some (.t 41)) none),
 oK 43 F_feld_Commit [.t 42],
 oM 39 43,
 oO 44 (.ext (.t 39) 0),
 oO 45 (.ext (.t 39) 1),
 oM 10 44,
 oM 11 45])
 (.seq (.ops [
 oM 47 8,
 oM 48 10,
 oO 49 (.bsl 1 2 [.nils] [(0, 1, .t 47), (1, 1, .t 48)]),
 oK 50 F_feld_Sum [.t 49],
 oM 46 50,
 oO 51 (.ext (.t 46) 0),
 oO 52 (.ext (.t 46) 1),
 oM 12 51,
 oM 13 52])
 (.seq (.seq (.ops [
 oM 53 9,
 oO 54 (.bin .neq (.t 53) (.c (.int .i64 0))),
 oM 55 54,
 oG 56 (.mv (.t 11)) 55 false,
 oG 57 (.bin .neq (.t 56) (.c (.int .i64 0))) 55 false,
 oO 58 (.pick (.t 55) (.c (.bool true)) (.t 57)),
 oM 59 58,
 oG 60 (.mv (.t 13)) 59 false,
 oG 61 (.bin .neq (.t 60) (.c (.int .i64 0))) 59 false,
 oO 62 (.pick (.t 59) (.c (.bool true)) (.t 61)),
 oM 63 62,
 oG 64 (.mv (.t 12)) 63 false,
 oG 65 (.len (.t 64)) 63 false,
 oG 66 (.mv (.t 7)) 63 false,
 oG 67 (.bin .neq (.t 65) (.t 66)) 63 false,
 oO 68 (.pick (.t 63) (.c (.bool true)) (.t 67))])
 (.cond (.t 68)
 (.seq (.ops [
 oO 6 (.mv (.c (.bool false)))])
 .ret)
 .skip))
 (.seq (.ops [
 oM 70 8,
 oO 71 (.load 4 true (.t 5)),
 oK 72 F_feld_At [.t 70, .t 71],
 oM 69 72,
 oO 73 (.ext (.t 69) 0),
 oO 74 (.ext (.t 69) 1),
 oO 14 (.alloc 9 1 [.bool false, .int .u64 0, .int .u64 0, .int .u64 0, .int .u64 0, .int .u64 0, .int .u64 0, .int .u64 0, .int .u64 0]),
 ⟨none, .stA 9 1 9 (.t 14) (.t 73), none⟩,
 oM 9 74])
 (.seq (.ops [
 oM 76 10,
 oO 77 (.load 4 true (.t 5)),
 oK 78 F_feld_At [.t 76, .t 77],
 oM 75 78,
 oO 79 (.ext (.t 75) 0),
 oO 80 (.ext (.t 75) 1),
 oO 15 (.alloc 9 1 [.bool false, .int .u64 0, .int .u64 0, .int .u64 0, .int .u64 0, .int .u64 0, .int .u64 0, .int .u64 0, .int .u64 0]),
 ⟨none, .stA 9 1 9 (.t 15) (.t 79), none⟩,
 oM 11 80])
 (.seq (.ops [
 oM 82 12,
 oO 83 (.load 4 true (.t 5)),
 oK 84 F_feld_At [.t 82, .t 83],
 oM 81 84,
 oO 85 (.ext (.t 81) 0),
 oO 86 (.ext (.t 81) 1),
 oO 16 (.alloc 9 1 [.bool false, .int .u64 0, .int .u64 0, .int .u64 0, .int .u64 0, .int .u64 0, .int .u64 0, .int .u64 0, .int .u64 0]),
 ⟨none, .stA 9 1 9 (.t 16) (.t 85), none⟩,
 oM 13 86])
 (.seq (.ops [
 oO 88 (.load 9 true (.t 14)),
 oO 89 (.load 9 true (.t 15)),
 oK 90 F_curve_Add [.t 88, .t 89],
 oM 87 90,
 oO 91 (.ext (.t 87) 0),
 oO 92 (.ext (.t 87) 1),
 oO 17 (.alloc 9 1 [.bool false, .int .u64 0, .int .u64 0, .int .u64 0, .int .u64 0, .int .u64 0, .int .u64 0, .int .u64 0, .int .u64 0]),
 ⟨none, .stA 9 1 9 (.t 17) (.t 91), none⟩,
 oM 18 92])
 (.seq (.ops [
 oM 93 9,
 oO 94 (.bin .eql (.t 93) (.c (.int .i64 0))),
 oM 95 94,
 oG 96 (.mv (.t 11)) 95 true,
 oG 97 (.bin .eql (.t 96) (.c (.int .i64 0))) 95 true,
 oO 98 (.pick (.t 95) (.t 97) (.c (.bool false))),
 oM 99 98,
 oG 100 (.mv (.t 13)) 99 true,
 oG 101 (.bin .eql (.t 100) (.c (.int .i64 0))) 99 true,
 oO 102 (.pick (.t 99) (.t 101) (.c (.bool false))),
 oM 103 102,
 oG 104 (.mv (.t 18)) 103 true,
 oG 105 (.bin .eql (.t 104) (.c (.int .i64 0))) 103 true,
 oO 106 (.pick (.t 103) (.t 105) (.c (.bool false))),
 oM 107 106,
 oG 108 (.load 9 true (.t 16)) 107 true,
 oG 109 (.load 9 true (.t 17)) 107 true,
 oG 110 (.call (.c (.fn F_witankeep_Point [])) [.t 108, .t 109]) 107 true,
 oO 111 (.pick (.t 107) (.t 110) (.c (.bool false))),
 oM 112 111,
 oG 113 (.call (.c (.fn F_witanlaw07_wakes [])) []) 112 true,
 oO 114 (.pick (.t 112) (.t 113) (.c (.bool false))),
 oM 6 114])
 .ret))))))))))))⟩
theorem K_witanlaw07_FeldRows : chkFun DK Pg Try.f19 A_witanlaw07_FeldRows = true := by kernel_rfl
theorem B_witanlaw07_FeldRows {args : List AV} {m : Mem} {K : AV → Mem → Prop} (h : vcFun DK Pg A_witanlaw07_FeldRows args m K) : ACall Pg F_witanlaw07_FeldRows args m K := call_body mixed Try.func19 (by kernel_rfl) K_witanlaw07_FeldRows h

noncomputable def A_witanlaw03_CurveBytes : AFun := ⟨2, 100, [.t 4],
 (.seq (.ops [
 oO 2 (.box 9 1 (.t 0)),
 oO 4 (.mv (.c (.bool false)))])
 (.seq (.seq (.ops [
 oM 13 1,
 oO 14 (.len (.t 13)),
 oO 15 (.bin .gtr (.t 14) (.c (.int .i64 200)))])
 (.cond (.t 15)
 (.seq (.ops [
 oO 4 (.mv (.c (.bool true)))])
 .ret)
 .skip))
 (.seq (.ops [
 oO 17 (.load 9 true (.t 2)),
 oK 18 F_curve_Bytes [.t 17],
 oM 16 18,
 oO 19 (.ext (.t 16) 0),
 oO 20 (.ext (.t 16) 1),
 oM 5 19,
 oM 6 20])
 (.seq (.seq (.ops [
 oO 21 (.load 9 true (.t 2)),
 oK 22 F_witanref01_Check [.t 21],
 oO 23 (.un .not (.t 22))])
 (.cond (.t 23)
 (.seq (.ops [
 oM 24 6,
 oO 25 (.bin .neq (.t 24) (.c (.int .i64 3))),
 oM 26 25,
 oG 27 (.mv (.t 5)) 26 false,
 oG 28 (.len (.t 27)) 26 false,
 oG 29 (.bin .gtr (.t 28) (.c (.int .i64 0))) 26 false,
 oO 30 (.pick (.t 26) (.c (.bool true)) (.t 29))])
 (.cond (.t 30)
 (.seq (.ops [
 oO 4 (.mv (.c (.bool false)))])
 .ret)
 .skip))
 (.seq (.ops [
 oM 32 5,
 oK 33 F_curve_Read [.t 32],
 oM 31 33,
 oO 34 (.ext (.t 31) 0),
 oO 35 (.ext (.t 31) 1),
 oO 7 (.alloc 9 1 [.bool false, .int .u64 0, .int .u64 0, .int .u64 0, .int .u64 0, .int .u64 0, .int .u64 0, .int .u64 0, .int .u64 0]),
 ⟨none, .stA 9 1 9 (.t 7) (.t 34), none⟩,
 oM 8 35])
 (.seq (.ops [
 oM 36 6,
 oO 37 (.bin .neq (.t 36) (.c (.int .i64 0))),
 oM 38 37,
 oG 39 (.mv (.t 5)) 38 false,
 oG 40 (.load 9 true (.t 2)) 38 false,
 oG 41 (.call (.c (.fn F_witanref01_PointBytes [])) [.t 40]) 38 false,
 oG 42 (.call (.c (.fn F_witankeep_Bytes [])) [.t 39, .t 41]) 38 false,
 oG 43 (.un .not (.t 42)) 38 false,
 oO 44 (.pick (.t 38) (.c (.bool true)) (.t 43)),
 oM 45 44,
 oG 46 (.mv (.t 8)) 45 false,
 oG 47 (.bin .neq (.t 46) (.c (.int .i64 0))) 45 false,
 oO 48 (.pick (.t 45) (.c (.bool true)) (.t 47)),
 oM 49 48,
 oG 50 (.load 9 true (.t 7)) 49 false,
 oG 51 (.load 9 true (.t 2)) 49 false,
 oG 52 (.call (.c (.fn F_witankeep_Point [])) [.t 50, .t 51]) 49 false,
 oG 53 (.un .not (.t 52)) 49 false,
 oO 54 (.pick (.t 49) (.c (.bool true)) (.t 53))])
 (.cond (.t 54)
 (.seq (.ops [
 oO 4 (.mv (.c (.bool false)))])
 .ret)
 .skip)))))
 (.seq (.ops [
 oM 55 1,
 oK 56 F_witankeep_Twin [.t 55],
 oM 9 56])
 (.seq (.ops [
 oM 58 9,
 oK 59 F_curve_Read [.t 58],
 oM 57 59,
 oO 60 (.ext (.t 57) 0),
 oO 61 (.ext (.t 57) 1),
 oO 10 (.alloc 9 1 [.bool false, .int .u64 0, .int .u64 0, .int .u64 0, .int .u64 0, .int .u64 0, .int .u64 0, .int .u64 0, .int .u64 0]),
 ⟨none, .stA 9 1 9 (.t 10) (.t 60), none⟩,
 oM 6 61])
 (.seq (.ops [
 oM 63 1,
 oK 64 F_witanref01_ReadPoint [.t 63],
 oM 62 64,
 oO 65 (.ext (.t 62) 0),
 oO 66 (.ext (.t 62) 1),
 oO 11 (.alloc 9 1 [.bool false, .int .u64 0, .int .u64 0, .int .u64 0, .int .u64 0, .int .u64 0, .int .u64 0, .int .u64 0, .int .u64 0]),
 ⟨none, .stA 9 1 9 (.t 11) (.t 65), none⟩,
 oM 12 66])
 (.seq (.seq (.ops [
 oM 67 6,
 oM 68 12,
 oO 69 (.bin .neq (.t 67) (.t 68)),
 oM 70 69,
 oG 71 (.load 9 true (.t 10)) 70 false,
 oG 72 (.load 9 true (.t 11)) 70 false,
 oG 73 (.call (.c (.fn F_witankeep_Point [])) [.t 71, .t 72]) 70 false,
 oG 74 (.un .not (.t 73)) 70 false,
 oO 75 (.pick (.t 70) (.c (.bool true)) (.t 74)),
 oM 76 75,
 oG 77 (.mv (.t 9)) 76 false,
 oG 78 (.mv (.t 1)) 76 false,
 oG 79 (.call (.c (.fn F_witankeep_Bytes [])) [.t 77, .t 78]) 76 false,
 oG 80 (.un .not (.t 79)) 76 false,
 oO 81 (.pick (.t 76) (.c (.bool true)) (.t 80))])
 (.cond (.t 81)
 (.seq (.ops [
 oO 4 (.mv (.c (.bool false)))])
 .ret)
 .skip))
 (.seq (.seq (.ops [
 oM 82 6,
 oO 83 (.bin .eql (.t 82) (.c (.int .i64 0)))])
 (.cond (.t 83)
 (.seq (.ops [
 oO 85 (.load 9 true (.t 10)),
 oK 86 F_curve_Bytes [.t 85],
 oM 84 86,
 oO 87 (.ext (.t 84) 0),
 oO 88 (.ext (.t 84) 1),
 oM 5 87,
 oM 6 88])
 (.seq (.ops [
 oM 89 6,
 oO 90 (.bin .eql (.t 89) (.c (.int .i64 0))),
 oM 91 90,
 oG 92 (.mv (.t 5)) 91 true,
 oG 93 (.mv (.t 1)) 91 true,
 oG 94 (.call (.c (.fn F_witankeep_Bytes [])) [.t 92, .t 93]) 91 true,
 oO 95 (.pick (.t 91) (.t 94) (.c (.bool false))),
 oM 96 95,
 oG 97 (.call (.c (.fn F_witanlaw03_wakes [])) []) 96 true,
 oO 98 (.pick (.t 96) (.t 97) (.c (.bool false))),
 oM 4 98])
 .ret))
 .skip))
 (.seq (.ops [
 oK 99 F_witanlaw03_wakes [],
 oM 4 99])
 .ret))))))))))⟩
theorem K_witanlaw03_CurveBytes : chkFun DK Pg Try.f20 A_witanlaw03_CurveBytes = true := by kernel_rfl
theorem B_witanlaw03_CurveBytes {args : List AV} {m : Mem} {K : AV → Mem → Prop} (h : vcFun DK Pg A_witanlaw03_CurveBytes args m K) : ACall Pg F_witanlaw03_CurveBytes args m K := call_body mixed Try.func20 (by kernel_rfl) K_witanlaw03_CurveBytes h

noncomputable def A_witankeep_Twin : AFun := ⟨1, 7, [.t 2],
 (.seq (.ops [
 oO 2 (.mv (.c (.nils)))])
 (.seq (.ops [
 oO 3 (.mv (.c (.nils)))])
 (.seq (.ops [
 oM 4 3,
 oM 5 0,
 oO 6 (.app 1 1 (.t 4) (.t 5)),
 oM 2 6])
 .ret)))⟩
theorem K_witankeep_Twin : chkFun DK Pg Try.f21 A_witankeep_Twin = true := by kernel_rfl
theorem B_witankeep_Twin {args : List AV} {m : Mem} {K : AV → Mem → Prop} (h : vcFun DK Pg A_witankeep_Twin args m K) : ACall Pg F_witankeep_Twin args m K := call_body mixed Try.func21 (by kernel_rfl) K_witankeep_Twin h

noncomputable def A_block_Read : AFun := ⟨1, 58, [.cell 2 32 true, .cell 3 4 true, .t 4],
 (.seq (.ops [
 oO 2 (.alloc 1 32 [.int .u8 0]),
 oO 3 (.alloc 4 1 [.int .i64 0, .int .i64 0, .int .i64 0, .nils]),
 oO 4 (.mv (.c (.int .i64 0)))])
 (.seq (.ops [
 oM 6 0,
 oO 7 (.build [.nils, .int .i64 0, .bool false] [(0, 1, .t 6)]),
 oO 8 (.box 3 1 (.t 7)),
 oM 5 8])
 (.seq (.ops [
 oM 9 5,
 oK 10 F_Pblock_reader_num [.t 9, .c (.int .i64 4)],
 oM 11 5,
 oK 12 F_Pblock_reader_num [.t 11, .c (.int .i64 4)],
 oO 13 (.fldA 1 (.t 3)),
 ⟨none, .stA 4 1 1 (.t 13) (.t 10), none⟩,
 oO 14 (.fldA 2 (.t 3)),
 ⟨none, .stA 4 1 1 (.t 14) (.t 12), none⟩])
 (.seq (.ops [
 oM 15 5,
 oK 16 F_Pblock_reader_hash [.t 15],
 oS 32 2 16])
 (.seq (.seq (.ops [
 oM 17 5,
 oK 18 F_Pblock_reader_num [.t 17, .c (.int .i64 1)],
 oO 19 (.mv (.c (.int .i64 0)))])
 (.block 0
 (.loop
 (.seq (.ops [
 oO 20 (.bin .lss (.t 19) (.t 18))])
 (.seq (.cond (.t 20)
 .skip
 (.exit 0))
 (.seq (.block 1
 (.seq (.seq (.ops [
 oM 21 5,
 oO 22 (.nck (.t 21)),
 oO 23 (.fldA 2 (.t 22)),
 oO 24 (.load 1 false (.t 23))])
 (.cond (.t 24)
 (.exit 0)
 .skip))
 (.draw [
 oO 25 (.fldA 3 (.t 3)),
 oO 26 (.load 1 false (.t 25)),
 oM 27 5,
 oK 28 F_Pblock_reader_num [.t 27, .c (.int .i64 1)],
 oM 29 5,
 oK 30 F_Pblock_reader_part [.t 29],
 oO 31 (.build [.int .i64 0, .nils] [(0, 1, .t 28), (1, 1, .t 30)]),
 oO 32 (.bsl 2 1 [.int .i64 0, .nils] [(0, 2, .t 31)]),
 oO 33 (.app 2 32 (.t 26) (.t 32)),
 oO 34 (.fldA 3 (.t 3)),
 ⟨none, .stA 4 1 1 (.t 34) (.t 33), none⟩] ⟨.all, [], .look 0 (.look 1 (.look 2 (.look 4 (.run 3 true (.run 5 true (.look 6 (.run 7 true (.run 8 true (.look 9 (.run 10 false .done))))))))))⟩)))
 (.ops [
 oO 35 (.bin .add (.t 19) (.c (.int .i64 1))),
 oM 19 35])))))))
 (.seq (.seq (.ops [
 oM 36 5,
 oO 37 (.nck (.t 36)),
 oO 38 (.fldA 2 (.t 37)),
 oO 39 (.load 1 false (.t 38)),
 oM 40 39,
 oG 41 (.mv (.t 5)) 40 false,
 oG 42 (.nck (.t 41)) 40 false,
 oG 43 (.fldA 1 (.t 42)) 40 false,
 oG 44 (.load 1 false (.t 43)) 40 false,
 oG 45 (.mv (.t 0)) 40 false,
 oG 46 (.len (.t 45)) 40 false,
 oG 47 (.bin .neq (.t 44) (.t 46)) 40 false,
 oO 48 (.pick (.t 40) (.c (.bool true)) (.t 47)),
 oM 49 48,
 oG 50 (.load 4 true (.t 3)) 49 false,
 oG 51 (.call (.c (.fn F_block_Check [])) [.t 50]) 49 false,
 oG 52 (.bin .neq (.t 51) (.c (.int .i64 0))) 49 false,
 oO 53 (.pick (.t 49) (.c (.bool true)) (.t 52))])
 (.cond (.t 53)
 (.seq (.ops [
 oO 54 (.build (List.replicate 32 (.int .u8 0)) []),
 oO 55 (.build [.int .i64 0, .int .i64 0, .int .i64 0, .nils] []),
 oS 32 2 54,
 ⟨none, .stA 4 1 4 (.t 3) (.t 55), none⟩,
 oO 4 (.mv (.c (.int .i64 7)))])
 .ret)
 .skip))
 (.seq (.draw [
 oO 56 (.load 32 true (.t 2)),
 oO 57 (.load 4 true (.t 3)),
 oS 32 2 56,
 ⟨none, .stA 4 1 4 (.t 3) (.t 57), none⟩,
 oO 4 (.mv (.c (.int .i64 0)))] ⟨(.but [2]), [], .look 0 (.look 1 (.run 2 true (.run 3 false (.look 4 .done))))⟩)
 .ret)))))))⟩
theorem K_block_Read : chkFun DK Pg Try.f22 A_block_Read = true := by kernel_rfl
theorem B_block_Read {args : List AV} {m : Mem} {K : AV → Mem → Prop} (h : vcFun DK Pg A_block_Read args m K) : ACall Pg F_block_Read args m K := call_body mixed Try.func22 (by kernel_rfl) K_block_Read h

noncomputable def A_witanref16_Read : AFun := ⟨1, 87, [.cell 2 32 true, .cell 3 4 true, .t 4],
 (.seq (.ops [
 oO 2 (.alloc 1 32 [.int .u8 0]),
 oO 3 (.alloc 4 1 [.int .i64 0, .int .i64 0, .int .i64 0, .nils]),
 oO 4 (.mv (.c (.bool false)))])
 (.seq (.ops [
 oO 5 (.alloc 1 32 [.int .u8 0])])
 (.seq (.ops [
 oO 6 (.alloc 4 1 [.int .i64 0, .int .i64 0, .int .i64 0, .nils])])
 (.seq (.seq (.ops [
 oM 12 0,
 oO 13 (.len (.t 12)),
 oO 14 (.bin .lss (.t 13) (.c (.int .i64 41)))])
 (.cond (.t 14)
 (.seq (.ops [
 oO 15 (.load 32 true (.t 5)),
 oO 16 (.build [.int .i64 0, .int .i64 0, .int .i64 0, .nils] []),
 oS 32 2 15,
 ⟨none, .stA 4 1 4 (.t 3) (.t 16), none⟩,
 oO 4 (.mv (.c (.bool false)))])
 .ret)
 .skip))
 (.seq (.ops [
 oM 18 0,
 oK 19 F_witanref10_Get [.t 18, .c (.int .i64 0), .c (.int .i64 4)],
 oM 17 19,
 oO 20 (.ext (.t 17) 0),
 oO 21 (.ext (.t 17) 1),
 oO 22 (.ext (.t 17) 2),
 oO 23 (.fldA 1 (.t 6)),
 ⟨none, .stA 4 1 1 (.t 23) (.t 20), none⟩])
 (.seq (.ops [
 oM 25 0,
 oK 26 F_witanref10_Get [.t 25, .c (.int .i64 4), .c (.int .i64 4)],
 oM 24 26,
 oO 27 (.ext (.t 24) 0),
 oO 28 (.ext (.t 24) 1),
 oO 29 (.ext (.t 24) 2),
 oO 30 (.fldA 2 (.t 6)),
 ⟨none, .stA 4 1 1 (.t 30) (.t 27), none⟩])
 (.seq (.draw [
 oO 31 (.slarr 32 1 (.t 5) none none none),
 oM 32 0,
 oO 33 (.slice 1 (.t 32) (some (.c (.int .i64 8))) (some (.c (.int .i64 40))) none),
 oO 34 (.copy 1 (.t 31) (.t 33))] ⟨.all, [], .look 0 (.look 1 (.look 2 (.run 3 false .done)))⟩)
 (.seq (.ops [
 oO 7 (.mv (.c (.int .i64 41)))])
 (.seq (.seq (.ops [
 oO 8 (.mv (.c (.int .i64 0)))])
 (.block 0
 (.loop
 (.seq (.seq (.ops [
 oM 35 8,
 oM 36 0,
 oO 37 (.idxA 1 (.t 36) (.c (.int .i64 40))),
 oO 38 (.load 1 false (.t 37)),
 oO 39 (.conv .i64 (.t 38)),
 oO 40 (.bin .lss (.t 35) (.t 39))])
 (.cond (.t 40)
 .skip
 (.exit 0)))
 (.seq (.block 1
 (.seq (.seq (.ops [
 oM 43 7,
 oM 44 0,
 oO 45 (.len (.t 44)),
 oO 46 (.bin .geq (.t 43) (.t 45))])
 (.cond (.t 46)
 (.seq (.ops [
 oO 47 (.build (List.replicate 32 (.int .u8 0)) []),
 oO 48 (.build [.int .i64 0, .int .i64 0, .int .i64 0, .nils] []),
 oS 32 2 47,
 ⟨none, .stA 4 1 4 (.t 3) (.t 48), none⟩,
 oO 4 (.mv (.c (.bool false)))])
 .ret)
 .skip))
 (.seq (.ops [
 oM 50 0,
 oM 51 7,
 oO 52 (.bin .add (.t 51) (.c (.int .i64 1))),
 oK 53 F_witanref10_GetPart [.t 50, .t 52],
 oM 49 53,
 oO 54 (.ext (.t 49) 0),
 oO 55 (.ext (.t 49) 1),
 oO 56 (.ext (.t 49) 2),
 oM 9 54,
 oM 10 55,
 oM 11 56])
 (.seq (.seq (.ops [
 oM 57 11,
 oO 58 (.bin .neq (.t 57) (.c (.int .i64 0)))])
 (.cond (.t 58)
 (.seq (.ops [
 oO 59 (.build (List.replicate 32 (.int .u8 0)) []),
 oO 60 (.build [.int .i64 0, .int .i64 0, .int .i64 0, .nils] []),
 oS 32 2 59,
 ⟨none, .stA 4 1 4 (.t 3) (.t 60), none⟩,
 oO 4 (.mv (.c (.bool false)))])
 .ret)
 .skip))
 (.seq (.draw [
 oO 61 (.fldA 3 (.t 6)),
 oO 62 (.load 1 false (.t 61)),
 oM 63 0,
 oM 64 7,
 oO 65 (.idxA 1 (.t 63) (.t 64)),
 oO 66 (.load 1 false (.t 65)),
 oO 67 (.conv .i64 (.t 66)),
 oM 68 9,
 oO 69 (.build [.int .i64 0, .nils] [(0, 1, .t 67), (1, 1, .t 68)]),
 oO 70 (.bsl 2 1 [.int .i64 0, .nils] [(0, 2, .t 69)]),
 oO 71 (.app 2 32 (.t 62) (.t 70)),
 oO 72 (.fldA 3 (.t 6)),
 ⟨none, .stA 4 1 1 (.t 72) (.t 71), none⟩] ⟨.all, [], .look 0 (.look 1 (.look 2 (.look 3 (.look 4 (.look 5 (.look 6 (.look 7 (.look 8 (.run 9 true (.run 10 true (.look 11 (.run 12 false .done))))))))))))⟩)
 (.ops [
 oM 73 10,
 oM 7 73]))))))
 (.ops [
 oM 41 8,
 oO 42 (.bin .add (.t 41) (.c (.int .i64 1))),
 oM 8 42]))))))
 (.seq (.seq (.ops [
 oM 74 7,
 oM 75 0,
 oO 76 (.len (.t 75)),
 oO 77 (.bin .neq (.t 74) (.t 76)),
 oM 78 77,
 oG 79 (.load 4 true (.t 6)) 78 false,
 oG 80 (.call (.c (.fn F_witanref16_Check [])) [.t 79]) 78 false,
 oG 81 (.bin .neq (.t 80) (.c (.int .i64 0))) 78 false,
 oO 82 (.pick (.t 78) (.c (.bool true)) (.t 81))])
 (.cond (.t 82)
 (.seq (.ops [
 oO 83 (.build (List.replicate 32 (.int .u8 0)) []),
 oO 84 (.build [.int .i64 0, .int .i64 0, .int .i64 0, .nils] []),
 oS 32 2 83,
 ⟨none, .stA 4 1 4 (.t 3) (.t 84), none⟩,
 oO 4 (.mv (.c (.bool false)))])
 .ret)
 .skip))
 (.seq (.draw [
 oO 85 (.load 32 true (.t 5)),
 oO 86 (.load 4 true (.t 6)),
 oS 32 2 85,
 ⟨none, .stA 4 1 4 (.t 3) (.t 86), none⟩,
 oO 4 (.mv (.c (.bool true)))] ⟨(.but [2]), [], .look 0 (.look 1 (.run 2 true (.run 3 false (.look 4 .done))))⟩)
 .ret)))))))))))⟩
theorem K_witanref16_Read : chkFun DK Pg Try.f23 A_witanref16_Read = true := by kernel_rfl
theorem B_witanref16_Read {args : List AV} {m : Mem} {K : AV → Mem → Prop} (h : vcFun DK Pg A_witanref16_Read args m K) : ACall Pg F_witanref16_Read args m K := call_body mixed Try.func23 (by kernel_rfl) K_witanref16_Read h

noncomputable def A_witankeep_Bytes : AFun := ⟨2, 26, [.t 4],
 (.seq (.ops [
 oO 4 (.mv (.c (.bool false)))])
 (.seq (.seq (.ops [
 oM 6 0,
 oO 7 (.len (.t 6)),
 oM 8 1,
 oO 9 (.len (.t 8)),
 oO 10 (.bin .neq (.t 7) (.t 9))])
 (.cond (.t 10)
 (.seq (.ops [
 oO 4 (.mv (.c (.bool false)))])
 .ret)
 .skip))
 (.seq (.seq (.ops [
 oO 5 (.mv (.c (.int .i64 0)))])
 (.block 0
 (.loop
 (.seq (.seq (.ops [
 oM 11 5,
 oM 12 0,
 oO 13 (.len (.t 12)),
 oO 14 (.bin .lss (.t 11) (.t 13))])
 (.cond (.t 14)
 .skip
 (.exit 0)))
 (.seq (.block 1
 (.seq (.draw [
 oM 17 0,
 oM 18 5,
 oO 19 (.idxA 1 (.t 17) (.t 18)),
 oO 20 (.load 1 false (.t 19)),
 oM 21 1,
 oM 22 5,
 oO 23 (.idxA 1 (.t 21) (.t 22)),
 oO 24 (.load 1 false (.t 23)),
 oO 25 (.bin .neq (.t 20) (.t 24))] ⟨.no, [], .flat⟩)
 (.cond (.t 25)
 (.seq (.ops [
 oO 4 (.mv (.c (.bool false)))])
 .ret)
 .skip)))
 (.ops [
 oM 15 5,
 oO 16 (.bin .add (.t 15) (.c (.int .i64 1))),
 oM 5 16]))))))
 (.seq (.ops [
 oO 4 (.mv (.c (.bool true)))])
 .ret))))⟩
theorem K_witankeep_Bytes : chkFun DK Pg Try.f24 A_witankeep_Bytes = true := by kernel_rfl
theorem B_witankeep_Bytes {args : List AV} {m : Mem} {K : AV → Mem → Prop} (h : vcFun DK Pg A_witankeep_Bytes args m K) : ACall Pg F_witankeep_Bytes args m K := call_body mixed Try.func24 (by kernel_rfl) K_witankeep_Bytes h

noncomputable def A_witankeep_Block : AFun := ⟨2, 31, [.t 4],
 (.seq (.ops [
 oO 2 (.box 4 1 (.t 0)),
 oO 3 (.box 4 1 (.t 1)),
 oO 4 (.mv (.c (.bool false)))])
 (.seq (.ops [
 oO 5 (.fldA 0 (.t 2)),
 oO 6 (.load 1 false (.t 5)),
 oO 7 (.fldA 0 (.t 3)),
 oO 8 (.load 1 false (.t 7)),
 oO 9 (.bin .eql (.t 6) (.t 8)),
 oM 10 9,
 oG 11 (.fldA 1 (.t 2)) 10 true,
 oG 12 (.load 1 false (.t 11)) 10 true,
 oG 13 (.fldA 1 (.t 3)) 10 true,
 oG 14 (.load 1 false (.t 13)) 10 true,
 oG 15 (.bin .eql (.t 12) (.t 14)) 10 true,
 oO 16 (.pick (.t 10) (.t 15) (.c (.bool false))),
 oM 17 16,
 oG 18 (.fldA 2 (.t 2)) 17 true,
 oG 19 (.load 1 false (.t 18)) 17 true,
 oG 20 (.fldA 2 (.t 3)) 17 true,
 oG 21 (.load 1 false (.t 20)) 17 true,
 oG 22 (.bin .eql (.t 19) (.t 21)) 17 true,
 oO 23 (.pick (.t 17) (.t 22) (.c (.bool false))),
 oM 24 23,
 oG 25 (.fldA 3 (.t 2)) 24 true,
 oG 26 (.load 1 false (.t 25)) 24 true,
 oG 27 (.fldA 3 (.t 3)) 24 true,
 oG 28 (.load 1 false (.t 27)) 24 true,
 oG 29 (.call (.c (.fn F_witankeep_Txs [])) [.t 26, .t 28]) 24 true,
 oO 30 (.pick (.t 24) (.t 29) (.c (.bool false))),
 oM 4 30])
 .ret))⟩
theorem K_witankeep_Block : chkFun DK Pg Try.f25 A_witankeep_Block = true := by kernel_rfl
theorem B_witankeep_Block {args : List AV} {m : Mem} {K : AV → Mem → Prop} (h : vcFun DK Pg A_witankeep_Block args m K) : ACall Pg F_witankeep_Block args m K := call_body mixed Try.func25 (by kernel_rfl) K_witankeep_Block h

noncomputable def A_witanlaw16_wakes : AFun := ⟨0, 28, [.t 0],
 (.seq (.ops [
 oO 0 (.mv (.c (.bool false)))])
 (.seq (.ops [
 oO 4 (.build (List.replicate 32 (.int .u8 0)) [(0, 1, .c (.int .u8 1))]),
 oO 5 (.build [.int .i64 0, .int .i64 0, .int .i64 0, .nils] [(0, 1, .c (.int .i64 (-1))), (1, 1, .c (.int .i64 1))]),
 oK 6 F_block_Bytes [.t 4, .t 5],
 oM 3 6,
 oO 7 (.ext (.t 3) 0),
 oO 8 (.ext (.t 3) 1),
 oM 1 7,
 oM 2 8])
 (.seq (.ops [
 oM 9 2,
 oO 10 (.bin .eql (.t 9) (.c (.int .i64 0))),
 oM 11 10,
 oG 12 (.mv (.t 1)) 11 true,
 oG 13 (.len (.t 12)) 11 true,
 oG 14 (.bin .eql (.t 13) (.c (.int .i64 41))) 11 true,
 oO 15 (.pick (.t 11) (.t 14) (.c (.bool false))),
 oM 16 15,
 oG 17 (.mv (.t 1)) 16 true,
 oG 18 (.idxA 1 (.t 17) (.c (.int .i64 3))) 16 true,
 oG 19 (.load 1 false (.t 18)) 16 true,
 oG 20 (.bin .eql (.t 19) (.c (.int .u8 1))) 16 true,
 oO 21 (.pick (.t 16) (.t 20) (.c (.bool false))),
 oM 22 21,
 oG 23 (.mv (.t 1)) 22 true,
 oG 24 (.idxA 1 (.t 23) (.c (.int .i64 8))) 22 true,
 oG 25 (.load 1 false (.t 24)) 22 true,
 oG 26 (.bin .eql (.t 25) (.c (.int .u8 1))) 22 true,
 oO 27 (.pick (.t 22) (.t 26) (.c (.bool false))),
 oM 0 27])
 .ret)))⟩
theorem K_witanlaw16_wakes : chkFun DK Pg Try.f26 A_witanlaw16_wakes = true := by kernel_rfl
theorem B_witanlaw16_wakes {args : List AV} {m : Mem} {K : AV → Mem → Prop} (h : vcFun DK Pg A_witanlaw16_wakes args m K) : ACall Pg F_witanlaw16_wakes args m K := call_body mixed Try.func26 (by kernel_rfl) K_witanlaw16_wakes h

noncomputable def A_block_Bytes : AFun := ⟨2, 63, [.t 4, .t 5],
 (.seq (.ops [
 oO 2 (.box 1 32 (.t 0)),
 oO 3 (.box 4 1 (.t 1)),
 oO 4 (.mv (.c (.nils))),
 oO 5 (.mv (.c (.int .i64 0)))])
 (.seq (.ops [
 oO 11 (.load 4 true (.t 3)),
 oK 12 F_block_Check [.t 11],
 oM 6 12])
 (.seq (.seq (.ops [
 oM 13 6,
 oO 14 (.bin .neq (.t 13) (.c (.int .i64 0)))])
 (.cond (.t 14)
 (.seq (.ops [
 oM 15 6,
 oO 4 (.mv (.c (.nils))),
 oM 5 15])
 .ret)
 .skip))
 (.seq (.ops [
 oO 17 (.fldA 1 (.t 3)),
 oO 18 (.load 1 false (.t 17)),
 oK 19 F_bin_Put [.c (.nils), .t 18, .c (.int .i64 4)],
 oM 16 19,
 oO 20 (.ext (.t 16) 0),
 oO 21 (.ext (.t 16) 1),
 oM 7 20,
 oM 8 21])
 (.seq (.ops [
 oM 23 7,
 oO 24 (.fldA 2 (.t 3)),
 oO 25 (.load 1 false (.t 24)),
 oK 26 F_bin_Put [.t 23, .t 25, .c (.int .i64 4)],
 oM 22 26,
 oO 27 (.ext (.t 22) 0),
 oO 28 (.ext (.t 22) 1),
 oM 7 27])
 (.seq (.ops [
 oM 29 7,
 oO 30 (.slarr 32 1 (.t 2) none none none),
 oO 31 (.app 1 1 (.t 29) (.t 30)),
 oM 7 31])
 (.seq (.ops [
 oM 33 7,
 oO 34 (.fldA 3 (.t 3)),
 oO 35 (.load 1 false (.t 34)),
 oO 36 (.len (.t 35)),
 oK 37 F_bin_Put [.t 33, .t 36, .c (.int .i64 1)],
 oM 32 37,
 oO 38 (.ext (.t 32) 0),
 oO 39 (.ext (.t 32) 1),
 oM 7 38])
 (.seq (.seq (.ops [
 oO 40 (.fldA 3 (.t 3)),
 oO 41 (.load 1 false (.t 40)),
 oO 42 (.len (.t 41)),
 oO 43 (.mv (.c (.int .i64 0)))])
 (.block 0
 (.loop
 (.seq (.ops [
 oO 44 (.bin .lss (.t 43) (.t 42))])
 (.seq (.cond (.t 44)
 .skip
 (.exit 0))
 (.seq (.block 1
 (.seq (.ops [
 oO 45 (.idxA 2 (.t 41) (.t 43)),
 oO 46 (.load 2 true (.t 45)),
 oO 10 (.alloc 2 1 [.int .i64 0, .nils]),
 ⟨none, .stA 2 1 2 (.t 10) (.t 46), none⟩])
 (.seq (.ops [
 oM 48 7,
 oO 49 (.fldA 0 (.t 10)),
 oO 50 (.load 1 false (.t 49)),
 oK 51 F_bin_Put [.t 48, .t 50, .c (.int .i64 1)],
 oM 47 51,
 oO 52 (.ext (.t 47) 0),
 oO 53 (.ext (.t 47) 1),
 oM 7 52])
 (.ops [
 oM 55 7,
 oO 56 (.fldA 1 (.t 10)),
 oO 57 (.load 1 false (.t 56)),
 oK 58 F_bin_PutPart [.t 55, .t 57],
 oM 54 58,
 oO 59 (.ext (.t 54) 0),
 oO 60 (.ext (.t 54) 1),
 oM 7 59]))))
 (.ops [
 oO 61 (.bin .add (.t 43) (.c (.int .i64 1))),
 oM 43 61])))))))
 (.seq (.ops [
 oM 62 7,
 oM 4 62,
 oO 5 (.mv (.c (.int .i64 0)))])
 .ret)))))))))⟩
theorem K_block_Bytes : chkFun DK Pg Try.f27 A_block_Bytes = true := by kernel_rfl
theorem B_block_Bytes {args : List AV} {m : Mem} {K : AV → Mem → Prop} (h : vcFun DK Pg A_block_Bytes args m K) : ACall Pg F_block_Bytes args m K := call_body mixed Try.func27 (by kernel_rfl) K_block_Bytes h

noncomputable def A_witanlaw16_Heavy : AFun := ⟨1, 23, [.t 2],
 (.seq (.ops [
 oO 1 (.box 4 1 (.t 0)),
 oO 2 (.mv (.c (.bool false)))])
 (.seq (.seq (.ops [
 oO 4 (.fldA 3 (.t 1)),
 oO 5 (.load 1 false (.t 4)),
 oO 6 (.len (.t 5)),
 oO 7 (.bin .gtr (.t 6) (.c (.int .i64 40)))])
 (.cond (.t 7)
 (.seq (.ops [
 oO 2 (.mv (.c (.bool true)))])
 .ret)
 .skip))
 (.seq (.seq (.ops [
 oO 3 (.mv (.c (.int .i64 0)))])
 (.block 0
 (.loop
 (.seq (.seq (.ops [
 oM 8 3,
 oO 9 (.fldA 3 (.t 1)),
 oO 10 (.load 1 false (.t 9)),
 oO 11 (.len (.t 10)),
 oO 12 (.bin .lss (.t 8) (.t 11))])
 (.cond (.t 12)
 .skip
 (.exit 0)))
 (.seq (.block 1
 (.seq (.ops [
 oO 15 (.fldA 3 (.t 1)),
 oO 16 (.load 1 false (.t 15)),
 oM 17 3,
 oO 18 (.idxA 2 (.t 16) (.t 17)),
 oO 19 (.fldA 1 (.t 18)),
 oO 20 (.load 1 false (.t 19)),
 oO 21 (.len (.t 20)),
 oO 22 (.bin .gtr (.t 21) (.c (.int .i64 1000)))])
 (.cond (.t 22)
 (.seq (.ops [
 oO 2 (.mv (.c (.bool true)))])
 .ret)
 .skip)))
 (.ops [
 oM 13 3,
 oO 14 (.bin .add (.t 13) (.c (.int .i64 1))),
 oM 3 14]))))))
 (.seq (.ops [
 oO 2 (.mv (.c (.bool false)))])
 .ret))))⟩
theorem K_witanlaw16_Heavy : chkFun DK Pg Try.f28 A_witanlaw16_Heavy = true := by kernel_rfl
theorem B_witanlaw16_Heavy {args : List AV} {m : Mem} {K : AV → Mem → Prop} (h : vcFun DK Pg A_witanlaw16_Heavy args m K) : ACall Pg F_witanlaw16_Heavy args m K := call_body mixed Try.func28 (by kernel_rfl) K_witanlaw16_Heavy h

noncomputable def A_block_Hash : AFun := ⟨2, 20, [.cell 4 32 true, .t 5],
 (.seq (.ops [
 oO 2 (.box 1 32 (.t 0)),
 oO 3 (.box 4 1 (.t 1)),
 oO 4 (.alloc 1 32 [.int .u8 0]),
 oO 5 (.mv (.c (.int .i64 0)))])
 (.seq (.ops [
 oO 9 (.load 32 true (.t 2)),
 oO 10 (.load 4 true (.t 3)),
 oK 11 F_block_Bytes [.t 9, .t 10],
 oM 8 11,
 oO 12 (.ext (.t 8) 0),
 oO 13 (.ext (.t 8) 1),
 oM 6 12,
 oM 7 13])
 (.seq (.seq (.ops [
 oM 14 7,
 oO 15 (.bin .neq (.t 14) (.c (.int .i64 0)))])
 (.cond (.t 15)
 (.seq (.ops [
 oO 16 (.build (List.replicate 32 (.int .u8 0)) []),
 oM 17 7,
 oS 32 4 16,
 oM 5 17])
 .ret)
 .skip))
 (.seq (.ops [
 oM 18 6,
 oK 19 F_sha_Sum [.t 18],
 oS 32 4 19,
 oO 5 (.mv (.c (.int .i64 0)))])
 .ret))))⟩
theorem K_block_Hash : chkFun DK Pg Try.f29 A_block_Hash = true := by kernel_rfl
theorem B_block_Hash {args : List AV} {m : Mem} {K : AV → Mem → Prop} (h : vcFun DK Pg A_block_Hash args m K) : ACall Pg F_block_Hash args m K := call_body mixed Try.func29 (by kernel_rfl) K_block_Hash h

noncomputable def A_witankeep_TwinBlock : AFun := ⟨1, 8, [.cell 2 4 true],
 (.seq (.ops [
 oO 1 (.box 4 1 (.t 0)),
 oO 2 (.alloc 4 1 [.int .i64 0, .int .i64 0, .int .i64 0, .nils])])
 (.seq (.ops [
 oO 3 (.fldA 3 (.t 1)),
 oO 4 (.load 1 false (.t 3)),
 oK 5 F_witankeep_TwinTxs [.t 4],
 oO 6 (.fldA 3 (.t 1)),
 ⟨none, .stA 4 1 1 (.t 6) (.t 5), none⟩])
 (.seq (.ops [
 oO 7 (.load 4 true (.t 1)),
 ⟨none, .stA 4 1 4 (.t 2) (.t 7), none⟩])
 .ret)))⟩
theorem K_witankeep_TwinBlock : chkFun DK Pg Try.f30 A_witankeep_TwinBlock = true := by kernel_rfl
theorem B_witankeep_TwinBlock {args : List AV} {m : Mem} {K : AV → Mem → Prop} (h : vcFun DK Pg A_witankeep_TwinBlock args m K) : ACall Pg F_witankeep_TwinBlock args m K := call_body mixed Try.func30 (by kernel_rfl) K_witankeep_TwinBlock h

noncomputable def A_sha_Sum : AFun := ⟨1, 201, [.cell 2 32 true],
 (.seq (.ops [
 oO 2 (.alloc 1 32 [.int .u8 0])])
 (.seq (.ops [
 oO 23 (.build [.int .u32 0, .int .u32 0, .int .u32 0, .int .u32 0, .int .u32 0, .int .u32 0, .int .u32 0, .int .u32 0] [(0, 1, .c (.int .u32 1779033703)), (1, 1, .c (.int .u32 3144134277)), (2, 1, .c (.int .u32 1013904242)), (3, 1, .c (.int .u32 2773480762)), (4, 1, .c (.int .u32 1359893119)), (5, 1, .c (.int .u32 2600822924)), (6, 1, .c (.int .u32 528734635)), (7, 1, .c (.int .u32 1541459225))]),
 oO 3 (.alloc 1 8 [.int .u32 0]),
 oS 8 3 23])
 (.seq (.ops [
 oK 24 F_sha_rounds [],
 oM 4 24])
 (.seq (.seq (.ops [
 oM 25 0,
 oK 26 F_sha_padded [.t 25],
 oM 5 26])
 (.block 0
 (.loop
 (.seq (.seq (.ops [
 oM 27 5,
 oO 28 (.len (.t 27)),
 oO 29 (.bin .gtr (.t 28) (.c (.int .i64 0)))])
 (.cond (.t 29)
 .skip
 (.exit 0)))
 (.seq (.block 1
 (.seq (.ops [
 oO 6 (.alloc 1 64 [.int .u32 0])])
 (.seq (.seq (.ops [
 oO 32 (.mv (.c (.int .i64 0)))])
 (.block 2
 (.loop
 (.seq (.ops [
 oO 33 (.bin .lss (.t 32) (.c (.int .i64 64)))])
 (.seq (.cond (.t 33)
 .skip
 (.exit 2))
 (.seq (.block 3
 (.seq (.ops [
 oM 34 32,
 oM 7 34])
 (.seq (.seq (.ops [
 oM 35 7,
 oO 36 (.bin .lss (.t 35) (.c (.int .i64 16)))])
 (.cond (.t 36)
 (.seq (.ops [
 oM 37 7,
 oM 38 5,
 oM 39 7,
 oO 40 (.bin .mul (.c (.int .i64 4)) (.t 39)),
 oM 41 7,
 oO 42 (.bin .mul (.c (.int .i64 4)) (.t 41)),
 oO 43 (.bin .add (.t 42) (.c (.int .i64 4))),
 oO 44 (.slice 1 (.t 38) (some (.t 40)) (some (.t 43)) none),
 oK 45 F_sha_high [.t 44],
 oO 46 (.conv .u32 (.t 45)),
 oO 47 (.idxP 64 1 (.t 6) (.t 37)),
 oS 1 47 46])
 (.exit 3))
 .skip))
 (.seq (.draw [
 oM 48 7,
 oO 49 (.bin .sub (.t 48) (.c (.int .i64 15))),
 oO 50 (.idxP 64 1 (.t 6) (.t 49)),
 oO 51 (.load 1 false (.t 50)),
 oM 52 7,
 oO 53 (.bin .sub (.t 52) (.c (.int .i64 2))),
 oO 54 (.idxP 64 1 (.t 6) (.t 53)),
 oO 55 (.load 1 false (.t 54)),
 oM 8 51,
 oM 9 55] ⟨.no, [], .flat⟩)
 (.seq (.ops [
 oM 56 8,
 oK 57 F_bits_RotateLeft32 [.t 56, .c (.int .i64 (-7))],
 oM 58 8,
 oK 59 F_bits_RotateLeft32 [.t 58, .c (.int .i64 (-18))],
 oO 60 (.bin .xor (.t 57) (.t 59)),
 oM 61 8,
 oO 62 (.bin .shr (.t 61) (.c (.int .u64 3))),
 oO 63 (.bin .xor (.t 60) (.t 62)),
 oM 10 63])
 (.seq (.ops [
 oM 64 9,
 oK 65 F_bits_RotateLeft32 [.t 64, .c (.int .i64 (-17))],
 oM 66 9,
 oK 67 F_bits_RotateLeft32 [.t 66, .c (.int .i64 (-19))],
 oO 68 (.bin .xor (.t 65) (.t 67)),
 oM 69 9,
 oO 70 (.bin .shr (.t 69) (.c (.int .u64 10))),
 oO 71 (.bin .xor (.t 68) (.t 70)),
 oM 11 71])
 (.draw [
 oM 72 7,
 oM 73 7,
 oO 74 (.bin .sub (.t 73) (.c (.int .i64 16))),
 oO 75 (.idxP 64 1 (.t 6) (.t 74)),
 oO 76 (.load 1 false (.t 75)),
 oM 77 10,
 oO 78 (.bin .add (.t 76) (.t 77)),
 oM 79 7,
 oO 80 (.bin .sub (.t 79) (.c (.int .i64 7))),
 oO 81 (.idxP 64 1 (.t 6) (.t 80)),
 oO 82 (.load 1 false (.t 81)),
 oO 83 (.bin .add (.t 78) (.t 82)),
 oM 84 11,
 oO 85 (.bin .add (.t 83) (.t 84)),
 oO 86 (.idxP 64 1 (.t 6) (.t 72)),
 oS 1 86 85] ⟨.all, [], .look 0 (.look 1 (.look 2 (.look 3 (.look 4 (.look 5 (.look 6 (.look 7 (.look 8 (.look 9 (.look 10 (.look 11 (.look 12 (.look 13 (.look 14 (.run 15 false .done)))))))))))))))⟩)))))))
 (.ops [
 oO 87 (.bin .add (.t 32) (.c (.int .i64 1))),
 oM 32 87])))))))
 (.seq (.ops [
 oO 88 (.load 8 true (.t 3)),
 oO 12 (.alloc 1 8 [.int .u32 0]),
 oS 8 12 88])
 (.seq (.seq (.ops [
 oO 89 (.mv (.c (.int .i64 0)))])
 (.block 4
 (.loop
 (.seq (.ops [
 oO 90 (.bin .lss (.t 89) (.c (.int .i64 64)))])
 (.seq (.cond (.t 90)
 .skip
 (.exit 4))
 (.seq (.block 5
 (.seq (.ops [
 oM 91 89,
 oM 13 91])
 (.seq (.draw [
 oO 92 (.idxP 8 1 (.t 12) (.c (.int .i64 4))),
 oO 93 (.load 1 false (.t 92)),
 oO 94 (.idxP 8 1 (.t 12) (.c (.int .i64 0))),
 oO 95 (.load 1 false (.t 94)),
 oM 14 93,
 oM 15 95] ⟨.no, [], .flat⟩)
 (.seq (.ops [
 oM 96 14,
 oK 97 F_bits_RotateLeft32 [.t 96, .c (.int .i64 (-6))],
 oM 98 14,
 oK 99 F_bits_RotateLeft32 [.t 98, .c (.int .i64 (-11))],
 oO 100 (.bin .xor (.t 97) (.t 99)),
 oM 101 14,
 oK 102 F_bits_RotateLeft32 [.t 101, .c (.int .i64 (-25))],
 oO 103 (.bin .xor (.t 100) (.t 102)),
 oM 16 103])
 (.seq (.draw [
 oO 104 (.idxP 8 1 (.t 12) (.c (.int .i64 7))),
 oO 105 (.load 1 false (.t 104)),
 oM 106 16,
 oO 107 (.bin .add (.t 105) (.t 106)),
 oM 108 14,
 oO 109 (.idxP 8 1 (.t 12) (.c (.int .i64 5))),
 oO 110 (.load 1 false (.t 109)),
 oO 111 (.bin .and (.t 108) (.t 110)),
 oM 112 14,
 oO 113 (.un .xor (.t 112)),
 oO 114 (.idxP 8 1 (.t 12) (.c (.int .i64 6))),
 oO 115 (.load 1 false (.t 114)),
 oO 116 (.bin .and (.t 113) (.t 115)),
 oO 117 (.bin .xor (.t 111) (.t 116)),
 oO 118 (.bin .add (.t 107) (.t 117)),
 oM 119 4,
 oM 120 13,
 oO 121 (.idxA 1 (.t 119) (.t 120)),
 oO 122 (.load 1 false (.t 121)),
 oO 123 (.bin .add (.t 118) (.t 122)),
 oM 124 13,
 oO 125 (.idxP 64 1 (.t 6) (.t 124)),
 oO 126 (.load 1 false (.t 125)),
 oO 127 (.bin .add (.t 123) (.t 126)),
 oM 17 127] ⟨.no, [], .flat⟩)
 (.seq (.ops [
 oM 128 15,
 oK 129 F_bits_RotateLeft32 [.t 128, .c (.int .i64 (-2))],
 oM 130 15,
 oK 131 F_bits_RotateLeft32 [.t 130, .c (.int .i64 (-13))],
 oO 132 (.bin .xor (.t 129) (.t 131)),
 oM 133 15,
 oK 134 F_bits_RotateLeft32 [.t 133, .c (.int .i64 (-22))],
 oO 135 (.bin .xor (.t 132) (.t 134)),
 oM 18 135])
 (.seq (.ops [
 oM 136 18,
 oM 137 15,
 oO 138 (.idxP 8 1 (.t 12) (.c (.int .i64 1))),
 oO 139 (.load 1 false (.t 138)),
 oO 140 (.bin .and (.t 137) (.t 139)),
 oM 141 15,
 oO 142 (.idxP 8 1 (.t 12) (.c (.int .i64 2))),
 oO 143 (.load 1 false (.t 142)),
 oO 144 (.bin .and (.t 141) (.t 143)),
 oO 145 (.bin .xor (.t 140) (.t 144)),
 oO 146 (.idxP 8 1 (.t 12) (.c (.int .i64 1))),
 oO 147 (.load 1 false (.t 146)),
 oO 148 (.idxP 8 1 (.t 12) (.c (.int .i64 2))),
 oO 149 (.load 1 false (.t 148)),
 oO 150 (.bin .and (.t 147) (.t 149)),
 oO 151 (.bin .xor (.t 145) (.t 150)),
 oO 152 (.bin .add (.t 136) (.t 151)),
 oM 19 152])
 (.ops [
 oM 153 17,
 oM 154 19,
 oO 155 (.bin .add (.t 153) (.t 154)),
 oM 156 15,
 oO 157 (.idxP 8 1 (.t 12) (.c (.int .i64 1))),
 oO 158 (.load 1 false (.t 157)),
 oO 159 (.idxP 8 1 (.t 12) (.c (.int .i64 2))),
 oO 160 (.load 1 false (.t 159)),
 oO 161 (.idxP 8 1 (.t 12) (.c (.int .i64 3))),
 oO 162 (.load 1 false (.t 161)),
 oM 163 17,
 oO 164 (.bin .add (.t 162) (.t 163)),
 oM 165 14,
 oO 166 (.idxP 8 1 (.t 12) (.c (.int .i64 5))),
 oO 167 (.load 1 false (.t 166)),
 oO 168 (.idxP 8 1 (.t 12) (.c (.int .i64 6))),
 oO 169 (.load 1 false (.t 168)),
 oO 170 (.build [.int .u32 0, .int .u32 0, .int .u32 0, .int .u32 0, .int .u32 0, .int .u32 0, .int .u32 0, .int .u32 0] [(0, 1, .t 155), (1, 1, .t 156), (2, 1, .t 158), (3, 1, .t 160), (4, 1, .t 164), (5, 1, .t 165), (6, 1, .t 167), (7, 1, .t 169)]),
 oS 8 12 170]))))))))
 (.ops [
 oO 171 (.bin .add (.t 89) (.c (.int .i64 1))),
 oM 89 171])))))))
 (.seq (.ops [
 oO 172 (.mv (.c (.int .i64 0)))])
 (.block 6
 (.loop
 (.seq (.ops [
 oO 173 (.bin .lss (.t 172) (.c (.int .i64 8)))])
 (.seq (.cond (.t 173)
 .skip
 (.exit 6))
 (.seq (.block 7
 (.seq (.ops [
 oM 174 172,
 oM 20 174])
 (.draw [
 oM 175 20,
 oO 176 (.idxP 8 1 (.t 3) (.t 175)),
 oO 177 (.load 1 false (.t 176)),
 oM 178 20,
 oO 179 (.idxP 8 1 (.t 12) (.t 178)),
 oO 180 (.load 1 false (.t 179)),
 oO 181 (.bin .add (.t 177) (.t 180)),
 oO 182 (.idxP 8 1 (.t 3) (.t 175)),
 oS 1 182 181] ⟨.all, [], .look 0 (.look 1 (.look 2 (.look 3 (.look 4 (.look 5 (.look 6 (.look 7 (.run 8 false .done))))))))⟩)))
 (.ops [
 oO 183 (.bin .add (.t 172) (.c (.int .i64 1))),
 oM 172 183]))))))))))))
 (.ops [
 oM 30 5,
 oO 31 (.slice 1 (.t 30) (some (.c (.int .i64 64))) none none),
 oM 5 31]))))))
 (.seq (.ops [
 oO 21 (.alloc 1 32 [.int .u8 0])])
 (.seq (.seq (.ops [
 oO 184 (.mv (.c (.int .i64 0)))])
 (.block 8
 (.loop
 (.seq (.ops [
 oO 185 (.bin .lss (.t 184) (.c (.int .i64 32)))])
 (.seq (.cond (.t 185)
 .skip
 (.exit 8))
 (.seq (.block 9
 (.seq (.ops [
 oM 186 184,
 oM 22 186])
 (.ops [
 oM 187 22,
 oM 188 22,
 oO 189 (.bin .quo (.t 188) (.c (.int .i64 4))),
 oO 190 (.idxP 8 1 (.t 3) (.t 189)),
 oO 191 (.load 1 false (.t 190)),
 oM 192 22,
 oO 193 (.bin .rem (.t 192) (.c (.int .i64 4))),
 oO 194 (.bin .mul (.c (.int .i64 8)) (.t 193)),
 oO 195 (.bin .sub (.c (.int .i64 24)) (.t 194)),
 oO 196 (.bin .shr (.t 191) (.t 195)),
 oO 197 (.conv .u8 (.t 196)),
 oO 198 (.idxP 32 1 (.t 21) (.t 187)),
 oS 1 198 197])))
 (.ops [
 oO 199 (.bin .add (.t 184) (.c (.int .i64 1))),
 oM 184 199])))))))
 (.seq (.ops [
 oO 200 (.load 32 true (.t 21)),
 oS 32 2 200])
 .ret)))))))⟩
theorem K_sha_Sum : chkFun DK Pg Try.f31 A_sha_Sum = true := by kernel_rfl
theorem B_sha_Sum {args : List AV} {m : Mem} {K : AV → Mem → Prop} (h : vcFun DK Pg A_sha_Sum args m K) : ACall Pg F_sha_Sum args m K := call_body mixed Try.func31 (by kernel_rfl) K_sha_Sum h

noncomputable def A_witanref16_Check : AFun := ⟨1, 73, [.t 2],
 (.seq (.ops [
 oO 1 (.box 4 1 (.t 0)),
 oO 2 (.mv (.c (.int .i64 0)))])
 (.seq (.ops [
 oO 6 (.fldA 0 (.t 1)),
 oO 7 (.load 1 false (.t 6)),
 oO 8 (.bin .geq (.t 7) (.c (.int .i64 (-1)))),
 oM 9 8,
 oG 10 (.fldA 1 (.t 1)) 9 true,
 oG 11 (.load 1 false (.t 10)) 9 true,
 oG 12 (.bin .geq (.t 11) (.c (.int .i64 1))) 9 true,
 oO 13 (.pick (.t 9) (.t 12) (.c (.bool false))),
 oM 14 13,
 oG 15 (.fldA 1 (.t 1)) 14 true,
 oG 16 (.load 1 false (.t 15)) 14 true,
 oG 17 (.bin .leq (.t 16) (.c (.int .i64 1048576))) 14 true,
 oO 18 (.pick (.t 14) (.t 17) (.c (.bool false))),
 oM 19 18,
 oG 20 (.fldA 2 (.t 1)) 19 true,
 oG 21 (.load 1 false (.t 20)) 19 true,
 oG 22 (.bin .geq (.t 21) (.c (.int .i64 0))) 19 true,
 oO 23 (.pick (.t 19) (.t 22) (.c (.bool false))),
 oM 24 23,
 oG 25 (.fldA 2 (.t 1)) 24 true,
 oG 26 (.load 1 false (.t 25)) 24 true,
 oG 27 (.bin .leq (.t 26) (.c (.int .i64 1073741824))) 24 true,
 oO 28 (.pick (.t 24) (.t 27) (.c (.bool false))),
 oM 3 28])
 (.seq (.ops [
 oO 29 (.fldA 3 (.t 1)),
 oO 30 (.load 1 false (.t 29)),
 oO 31 (.len (.t 30)),
 oO 32 (.bin .gtr (.t 31) (.c (.int .i64 32))),
 oM 4 32])
 (.seq (.seq (.ops [
 oO 5 (.mv (.c (.int .i64 0)))])
 (.block 0
 (.loop
 (.seq (.seq (.ops [
 oM 33 5,
 oO 34 (.fldA 3 (.t 1)),
 oO 35 (.load 1 false (.t 34)),
 oO 36 (.len (.t 35)),
 oO 37 (.bin .lss (.t 33) (.t 36))])
 (.cond (.t 37)
 .skip
 (.exit 0)))
 (.seq (.block 1
 (.seq (.ops [
 oM 40 3,
 oM 41 40,
 oG 42 (.fldA 3 (.t 1)) 41 true,
 oG 43 (.load 1 false (.t 42)) 41 true,
 oG 44 (.mv (.t 5)) 41 true,
 oG 45 (.idxA 2 (.t 43) (.t 44)) 41 true,
 oG 46 (.fldA 0 (.t 45)) 41 true,
 oG 47 (.load 1 false (.t 46)) 41 true,
 oG 48 (.bin .geq (.t 47) (.c (.int .i64 0))) 41 true,
 oO 49 (.pick (.t 41) (.t 48) (.c (.bool false))),
 oM 50 49,
 oG 51 (.fldA 3 (.t 1)) 50 true,
 oG 52 (.load 1 false (.t 51)) 50 true,
 oG 53 (.mv (.t 5)) 50 true,
 oG 54 (.idxA 2 (.t 52) (.t 53)) 50 true,
 oG 55 (.fldA 0 (.t 54)) 50 true,
 oG 56 (.load 1 false (.t 55)) 50 true,
 oG 57 (.bin .lss (.t 56) (.c (.int .i64 16))) 50 true,
 oO 58 (.pick (.t 50) (.t 57) (.c (.bool false))),
 oM 3 58])
 (.ops [
 oM 59 4,
 oM 60 59,
 oG 61 (.fldA 3 (.t 1)) 60 false,
 oG 62 (.load 1 false (.t 61)) 60 false,
 oG 63 (.mv (.t 5)) 60 false,
 oG 64 (.idxA 2 (.t 62) (.t 63)) 60 false,
 oG 65 (.fldA 1 (.t 64)) 60 false,
 oG 66 (.load 1 false (.t 65)) 60 false,
 oG 67 (.len (.t 66)) 60 false,
 oG 68 (.bin .gtr (.t 67) (.c (.int .i64 16384))) 60 false,
 oO 69 (.pick (.t 60) (.c (.bool true)) (.t 68)),
 oM 4 69])))
 (.ops [
 oM 38 5,
 oO 39 (.bin .add (.t 38) (.c (.int .i64 1))),
 oM 5 39]))))))
 (.seq (.seq (.ops [
 oM 70 3,
 oO 71 (.un .not (.t 70))])
 (.cond (.t 71)
 (.seq (.ops [
 oO 2 (.mv (.c (.int .i64 1)))])
 .ret)
 .skip))
 (.seq (.seq (.ops [
 oM 72 4])
 (.cond (.t 72)
 (.seq (.ops [
 oO 2 (.mv (.c (.int .i64 4)))])
 .ret)
 .skip))
 (.seq (.ops [
 oO 2 (.mv (.c (.int .i64 0)))])
 .ret)))))))⟩
theorem K_witanref16_Check : chkFun DK Pg Try.f32 A_witanref16_Check = true := by kernel_rfl
theorem B_witanref16_Check {args : List AV} {m : Mem} {K : AV → Mem → Prop} (h : vcFun DK Pg A_witanref16_Check args m K) : ACall Pg F_witanref16_Check args m K := call_body mixed Try.func32 (by kernel_rfl) K_witanref16_Check h

noncomputable def A_block_Check : AFun := ⟨1, 57, [.t 2],
 (.seq (.ops [
 oO 1 (.box 4 1 (.t 0)),
 oO 2 (.mv (.c (.int .i64 0)))])
 (.seq (.seq (.ops [
 oO 6 (.fldA 0 (.t 1)),
 oO 7 (.load 1 false (.t 6)),
 oO 8 (.bin .lss (.t 7) (.c (.int .i64 (-1)))),
 oM 9 8,
 oG 10 (.fldA 1 (.t 1)) 9 false,
 oG 11 (.load 1 false (.t 10)) 9 false,
 oG 12 (.bin .lss (.t 11) (.c (.int .i64 1))) 9 false,
 oO 13 (.pick (.t 9) (.c (.bool true)) (.t 12)),
 oM 14 13,
 oG 15 (.fldA 1 (.t 1)) 14 false,
 oG 16 (.load 1 false (.t 15)) 14 false,
 oG 17 (.bin .gtr (.t 16) (.c (.int .i64 1048576))) 14 false,
 oO 18 (.pick (.t 14) (.c (.bool true)) (.t 17)),
 oM 19 18,
 oG 20 (.fldA 2 (.t 1)) 19 false,
 oG 21 (.load 1 false (.t 20)) 19 false,
 oG 22 (.bin .lss (.t 21) (.c (.int .i64 0))) 19 false,
 oO 23 (.pick (.t 19) (.c (.bool true)) (.t 22)),
 oM 24 23,
 oG 25 (.fldA 2 (.t 1)) 24 false,
 oG 26 (.load 1 false (.t 25)) 24 false,
 oG 27 (.bin .gtr (.t 26) (.c (.int .i64 1073741824))) 24 false,
 oO 28 (.pick (.t 24) (.c (.bool true)) (.t 27))])
 (.cond (.t 28)
 (.seq (.ops [
 oO 2 (.mv (.c (.int .i64 1)))])
 .ret)
 .skip))
 (.seq (.ops [
 oO 29 (.fldA 3 (.t 1)),
 oO 30 (.load 1 false (.t 29)),
 oO 31 (.len (.t 30)),
 oO 32 (.bin .gtr (.t 31) (.c (.int .i64 32))),
 oM 3 32])
 (.seq (.seq (.ops [
 oO 33 (.fldA 3 (.t 1)),
 oO 34 (.load 1 false (.t 33)),
 oO 35 (.len (.t 34)),
 oO 36 (.mv (.c (.int .i64 0)))])
 (.block 0
 (.loop
 (.seq (.ops [
 oO 37 (.bin .lss (.t 36) (.t 35))])
 (.seq (.cond (.t 37)
 .skip
 (.exit 0))
 (.seq (.block 1
 (.seq (.ops [
 oO 38 (.idxA 2 (.t 34) (.t 36)),
 oO 39 (.load 2 true (.t 38)),
 oO 5 (.alloc 2 1 [.int .i64 0, .nils]),
 ⟨none, .stA 2 1 2 (.t 5) (.t 39), none⟩])
 (.seq (.seq (.ops [
 oO 40 (.fldA 0 (.t 5)),
 oO 41 (.load 1 false (.t 40)),
 oO 42 (.bin .lss (.t 41) (.c (.int .i64 0))),
 oM 43 42,
 oG 44 (.fldA 0 (.t 5)) 43 false,
 oG 45 (.load 1 false (.t 44)) 43 false,
 oG 46 (.bin .geq (.t 45) (.c (.int .i64 16))) 43 false,
 oO 47 (.pick (.t 43) (.c (.bool true)) (.t 46))])
 (.cond (.t 47)
 (.seq (.ops [
 oO 2 (.mv (.c (.int .i64 1)))])
 .ret)
 .skip))
 (.ops [
 oM 48 3,
 oM 49 48,
 oG 50 (.fldA 1 (.t 5)) 49 false,
 oG 51 (.load 1 false (.t 50)) 49 false,
 oG 52 (.len (.t 51)) 49 false,
 oG 53 (.bin .gtr (.t 52) (.c (.int .i64 16384))) 49 false,
 oO 54 (.pick (.t 49) (.c (.bool true)) (.t 53)),
 oM 3 54]))))
 (.ops [
 oO 55 (.bin .add (.t 36) (.c (.int .i64 1))),
 oM 36 55])))))))
 (.seq (.seq (.ops [
 oM 56 3])
 (.cond (.t 56)
 (.seq (.ops [
 oO 2 (.mv (.c (.int .i64 4)))])
 .ret)
 .skip))
 (.seq (.ops [
 oO 2 (.mv (.c (.int .i64 0)))])
 .ret))))))⟩
theorem K_block_Check : chkFun DK Pg Try.f33 A_block_Check = true := by kernel_rfl
theorem B_block_Check {args : List AV} {m : Mem} {K : AV → Mem → Prop} (h : vcFun DK Pg A_block_Check args m K) : ACall Pg F_block_Check args m K := call_body mixed Try.func33 (by kernel_rfl) K_block_Check h

noncomputable def A_witanref16_Bytes : AFun := ⟨2, 60, [.t 4],
 (.seq (.ops [
 oO 2 (.box 1 32 (.t 0)),
 oO 3 (.box 4 1 (.t 1)),
 oO 4 (.mv (.c (.nils)))])
 (.seq (.ops [
 oO 9 (.fldA 1 (.t 3)),
 oO 10 (.load 1 false (.t 9)),
 oK 11 F_witanref10_Put [.c (.nils), .t 10, .c (.int .i64 4)],
 oM 8 11,
 oO 12 (.ext (.t 8) 0),
 oO 13 (.ext (.t 8) 1),
 oM 5 12,
 oM 6 13])
 (.seq (.ops [
 oM 15 5,
 oO 16 (.fldA 2 (.t 3)),
 oO 17 (.load 1 false (.t 16)),
 oK 18 F_witanref10_Put [.t 15, .t 17, .c (.int .i64 4)],
 oM 14 18,
 oO 19 (.ext (.t 14) 0),
 oO 20 (.ext (.t 14) 1),
 oM 5 19])
 (.seq (.ops [
 oM 21 5,
 oO 22 (.slarr 32 1 (.t 2) none none none),
 oO 23 (.app 1 1 (.t 21) (.t 22)),
 oM 5 23])
 (.seq (.ops [
 oM 24 5,
 oO 25 (.fldA 3 (.t 3)),
 oO 26 (.load 1 false (.t 25)),
 oO 27 (.len (.t 26)),
 oO 28 (.conv .u8 (.t 27)),
 oO 29 (.bsl 1 1 [.int .u8 0] [(0, 1, .t 28)]),
 oO 30 (.app 1 1 (.t 24) (.t 29)),
 oM 5 30])
 (.seq (.seq (.ops [
 oO 7 (.mv (.c (.int .i64 0)))])
 (.block 0
 (.loop
 (.seq (.seq (.ops [
 oM 31 7,
 oO 32 (.fldA 3 (.t 3)),
 oO 33 (.load 1 false (.t 32)),
 oO 34 (.len (.t 33)),
 oO 35 (.bin .lss (.t 31) (.t 34))])
 (.cond (.t 35)
 .skip
 (.exit 0)))
 (.seq (.block 1
 (.seq (.ops [
 oM 38 5,
 oO 39 (.fldA 3 (.t 3)),
 oO 40 (.load 1 false (.t 39)),
 oM 41 7,
 oO 42 (.idxA 2 (.t 40) (.t 41)),
 oO 43 (.fldA 0 (.t 42)),
 oO 44 (.load 1 false (.t 43)),
 oO 45 (.conv .u8 (.t 44)),
 oO 46 (.bsl 1 1 [.int .u8 0] [(0, 1, .t 45)]),
 oO 47 (.app 1 1 (.t 38) (.t 46)),
 oM 5 47])
 (.ops [
 oM 49 5,
 oO 50 (.fldA 3 (.t 3)),
 oO 51 (.load 1 false (.t 50)),
 oM 52 7,
 oO 53 (.idxA 2 (.t 51) (.t 52)),
 oO 54 (.fldA 1 (.t 53)),
 oO 55 (.load 1 false (.t 54)),
 oK 56 F_witanref10_PutPart [.t 49, .t 55],
 oM 48 56,
 oO 57 (.ext (.t 48) 0),
 oO 58 (.ext (.t 48) 1),
 oM 5 57])))
 (.ops [
 oM 36 7,
 oO 37 (.bin .add (.t 36) (.c (.int .i64 1))),
 oM 7 37]))))))
 (.seq (.ops [
 oM 59 5,
 oM 4 59])
 .ret)))))))⟩
theorem K_witanref16_Bytes : chkFun DK Pg Try.f34 A_witanref16_Bytes = true := by kernel_rfl
theorem B_witanref16_Bytes {args : List AV} {m : Mem} {K : AV → Mem → Prop} (h : vcFun DK Pg A_witanref16_Bytes args m K) : ACall Pg F_witanref16_Bytes args m K := call_body mixed Try.func34 (by kernel_rfl) K_witanref16_Bytes h

noncomputable def A_witanref16_Hash : AFun := ⟨2, 9, [.cell 4 32 true],
 (.seq (.ops [
 oO 2 (.box 1 32 (.t 0)),
 oO 3 (.box 4 1 (.t 1)),
 oO 4 (.alloc 1 32 [.int .u8 0])])
 (.seq (.ops [
 oO 5 (.load 32 true (.t 2)),
 oO 6 (.load 4 true (.t 3)),
 oK 7 F_witanref16_Bytes [.t 5, .t 6],
 oK 8 F_witanref04_Sum256 [.t 7],
 oS 32 4 8])
 .ret))⟩
theorem K_witanref16_Hash : chkFun DK Pg Try.f35 A_witanref16_Hash = true := by kernel_rfl
theorem B_witanref16_Hash {args : List AV} {m : Mem} {K : AV → Mem → Prop} (h : vcFun DK Pg A_witanref16_Hash args m K) : ACall Pg F_witanref16_Hash args m K := call_body mixed Try.func35 (by kernel_rfl) K_witanref16_Hash h

noncomputable def A_curve_Base : AFun := ⟨1, 8, [.cell 2 9 true],
 (.seq (.ops [
 oO 1 (.box 1 4 (.t 0)),
 oO 2 (.alloc 9 1 [.bool false, .int .u64 0, .int .u64 0, .int .u64 0, .int .u64 0, .int .u64 0, .int .u64 0, .int .u64 0, .int .u64 0])])
 (.seq (.draw [
 oK 3 F_curve_base [],
 oK 4 F_curve_spread [.t 3],
 oO 5 (.load 4 true (.t 1)),
 oK 6 F_curve_jac_times [.t 4, .t 5],
 oK 7 F_curve_jac_point [.t 6],
 ⟨none, .stA 9 1 9 (.t 2) (.t 7), none⟩] ⟨.all, [], .look 2 (.run 0 true (.run 1 true (.run 3 false (.run 4 false (.run 5 false .done)))))⟩)
 .ret))⟩
theorem K_curve_Base : chkFun DK Pg Try.f36 A_curve_Base = true := by kernel_rfl
theorem B_curve_Base {args : List AV} {m : Mem} {K : AV → Mem → Prop} (h : vcFun DK Pg A_curve_Base args m K) : ACall Pg F_curve_Base args m K := call_body mixed Try.func36 (by kernel_rfl) K_curve_Base h

noncomputable def A_curve_Add : AFun := ⟨2, 21, [.cell 4 9 true, .t 5],
 (.seq (.ops [
 oO 2 (.box 9 1 (.t 0)),
 oO 3 (.box 9 1 (.t 1)),
 oO 4 (.alloc 9 1 [.bool false, .int .u64 0, .int .u64 0, .int .u64 0, .int .u64 0, .int .u64 0, .int .u64 0, .int .u64 0, .int .u64 0]),
 oO 5 (.mv (.c (.int .i64 0)))])
 (.seq (.seq (.ops [
 oO 6 (.load 9 true (.t 2)),
 oK 7 F_curve_Check [.t 6],
 oO 8 (.bin .neq (.t 7) (.c (.int .i64 0))),
 oM 9 8,
 oG 10 (.load 9 true (.t 3)) 9 false,
 oG 11 (.call (.c (.fn F_curve_Check [])) [.t 10]) 9 false,
 oG 12 (.bin .neq (.t 11) (.c (.int .i64 0))) 9 false,
 oO 13 (.pick (.t 9) (.c (.bool true)) (.t 12))])
 (.cond (.t 13)
 (.seq (.ops [
 oO 14 (.build [.bool false, .int .u64 0, .int .u64 0, .int .u64 0, .int .u64 0, .int .u64 0, .int .u64 0, .int .u64 0, .int .u64 0] []),
 ⟨none, .stA 9 1 9 (.t 4) (.t 14), none⟩,
 oO 5 (.mv (.c (.int .i64 3)))])
 .ret)
 .skip))
 (.seq (.draw [
 oO 15 (.load 9 true (.t 2)),
 oK 16 F_curve_spread [.t 15],
 oO 17 (.load 9 true (.t 3)),
 oK 18 F_curve_spread [.t 17],
 oK 19 F_curve_jac_plus [.t 16, .t 18],
 oK 20 F_curve_jac_point [.t 19],
 ⟨none, .stA 9 1 9 (.t 4) (.t 20), none⟩,
 oO 5 (.mv (.c (.int .i64 0)))] ⟨.all, [], .look 0 (.look 2 (.run 1 true (.run 3 false (.run 4 false (.run 5 false (.run 6 false (.look 7 .done)))))))⟩)
 .ret)))⟩
theorem K_curve_Add : chkFun DK Pg Try.f37 A_curve_Add = true := by kernel_rfl
theorem B_curve_Add {args : List AV} {m : Mem} {K : AV → Mem → Prop} (h : vcFun DK Pg A_curve_Add args m K) : ACall Pg F_curve_Add args m K := call_body mixed Try.func37 (by kernel_rfl) K_curve_Add h

noncomputable def A_witankeep_Point : AFun := ⟨2, 24, [.t 4],
 (.seq (.ops [
 oO 2 (.box 9 1 (.t 0)),
 oO 3 (.box 9 1 (.t 1)),
 oO 4 (.mv (.c (.bool false)))])
 (.seq (.ops [
 oO 5 (.fldA 0 (.t 2)),
 oO 6 (.load 1 false (.t 5)),
 oO 7 (.fldA 0 (.t 3)),
 oO 8 (.load 1 false (.t 7)),
 oO 9 (.eqb false (.t 6) (.t 8)),
 oM 10 9,
 oG 11 (.fldA 1 (.t 2)) 10 true,
 oG 12 (.load 4 true (.t 11)) 10 true,
 oG 13 (.fldA 1 (.t 3)) 10 true,
 oG 14 (.load 4 true (.t 13)) 10 true,
 oG 15 (.eqa [.i, .i, .i, .i] false (.t 12) (.t 14)) 10 true,
 oO 16 (.pick (.t 10) (.t 15) (.c (.bool false))),
 oM 17 16,
 oG 18 (.fldA 5 (.t 2)) 17 true,
 oG 19 (.load 4 true (.t 18)) 17 true,
 oG 20 (.fldA 5 (.t 3)) 17 true,
 oG 21 (.load 4 true (.t 20)) 17 true,
 oG 22 (.eqa [.i, .i, .i, .i] false (.t 19) (.t 21)) 17 true,
 oO 23 (.pick (.t 17) (.t 22) (.c (.bool false))),
 oM 4 23])
 .ret))⟩
theorem K_witankeep_Point : chkFun DK Pg Try.f38 A_witankeep_Point = true := by kernel_rfl
theorem B_witankeep_Point {args : List AV} {m : Mem} {K : AV → Mem → Prop} (h : vcFun DK Pg A_witankeep_Point args m K) : ACall Pg F_witankeep_Point args m K := call_body mixed Try.func38 (by kernel_rfl) K_witankeep_Point h

noncomputable def A_curve_Check : AFun := ⟨1, 33, [.t 2],
 (.seq (.ops [
 oO 1 (.box 9 1 (.t 0)),
 oO 2 (.mv (.c (.int .i64 0)))])
 (.seq (.seq (.ops [
 oO 4 (.fldA 0 (.t 1)),
 oO 5 (.load 1 false (.t 4))])
 (.cond (.t 5)
 (.seq (.seq (.ops [
 oO 6 (.load 9 true (.t 1)),
 oO 7 (.build [.bool false, .int .u64 0, .int .u64 0, .int .u64 0, .int .u64 0, .int .u64 0, .int .u64 0, .int .u64 0, .int .u64 0] [(0, 1, .c (.bool true))]),
 oO 8 (.eqa [.b, .i, .i, .i, .i, .i, .i, .i, .i] true (.t 6) (.t 7))])
 (.cond (.t 8)
 (.seq (.ops [
 oO 2 (.mv (.c (.int .i64 3)))])
 .ret)
 .skip))
 (.seq (.ops [
 oO 2 (.mv (.c (.int .i64 0)))])
 .ret))
 .skip))
 (.seq (.ops [
 oK 9 F_field_Prime [.c (.int .i64 0)],
 oO 3 (.alloc 1 4 [.int .u64 0]),
 ⟨none, .stA 1 4 4 (.t 3) (.t 9), none⟩])
 (.seq (.seq (.draw [
 oO 10 (.fldA 1 (.t 1)),
 oO 11 (.load 4 true (.t 10)),
 oO 12 (.load 4 true (.t 3)),
 oK 13 F_limb_Cmp [.t 11, .t 12],
 oO 14 (.bin .geq (.t 13) (.c (.int .i64 0))),
 oM 15 14,
 oG 16 (.fldA 5 (.t 1)) 15 false,
 oG 17 (.load 4 true (.t 16)) 15 false,
 oG 18 (.load 4 true (.t 3)) 15 false,
 oG 19 (.call (.c (.fn F_limb_Cmp [])) [.t 17, .t 18]) 15 false,
 oG 20 (.bin .geq (.t 19) (.c (.int .i64 0))) 15 false,
 oO 21 (.pick (.t 15) (.c (.bool true)) (.t 20)),
 oM 22 21,
 oG 23 (.fldA 5 (.t 1)) 22 false,
 oG 24 (.load 4 true (.t 23)) 22 false,
 oG 25 (.fldA 5 (.t 1)) 22 false,
 oG 26 (.load 4 true (.t 25)) 22 false,
 oG 27 (.call (.c (.fn F_curve_mul [])) [.t 24, .t 26]) 22 false,
 oG 28 (.fldA 1 (.t 1)) 22 false,
 oG 29 (.load 4 true (.t 28)) 22 false,
 oG 30 (.call (.c (.fn F_curve_right [])) [.t 29]) 22 false,
 oG 31 (.eqa [.i, .i, .i, .i] true (.t 27) (.t 30)) 22 false,
 oO 32 (.pick (.t 22) (.c (.bool true)) (.t 31))] ⟨.all, [], .look 0 (.look 1 (.look 2 (.run 3 true (.look 4 (.look 5 (.look 6 (.look 7 (.look 8 (.run 9 true (.look 10 (.look 11 (.look 12 (.look 13 (.look 14 (.look 15 (.look 16 (.look 18 (.look 19 (.run 17 true (.run 20 true (.look 21 (.look 22 .done))))))))))))))))))))))⟩)
 (.cond (.t 32)
 (.seq (.ops [
 oO 2 (.mv (.c (.int .i64 3)))])
 .ret)
 .skip))
 (.seq (.ops [
 oO 2 (.mv (.c (.int .i64 0)))])
 .ret)))))⟩
theorem K_curve_Check : chkFun DK Pg Try.f39 A_curve_Check = true := by kernel_rfl
theorem B_curve_Check {args : List AV} {m : Mem} {K : AV → Mem → Prop} (h : vcFun DK Pg A_curve_Check args m K) : ACall Pg F_curve_Check args m K := call_body mixed Try.func39 (by kernel_rfl) K_curve_Check h

noncomputable def A_curve_Neg : AFun := ⟨1, 17, [.cell 2 9 true, .t 3],
 (.seq (.ops [
 oO 1 (.box 9 1 (.t 0)),
 oO 2 (.alloc 9 1 [.bool false, .int .u64 0, .int .u64 0, .int .u64 0, .int .u64 0, .int .u64 0, .int .u64 0, .int .u64 0, .int .u64 0]),
 oO 3 (.mv (.c (.int .i64 0)))])
 (.seq (.ops [
 oO 5 (.load 9 true (.t 1)),
 oK 6 F_curve_Check [.t 5],
 oM 4 6])
 (.seq (.seq (.ops [
 oM 7 4,
 oO 8 (.bin .neq (.t 7) (.c (.int .i64 0)))])
 (.cond (.t 8)
 (.seq (.ops [
 oO 9 (.build [.bool false, .int .u64 0, .int .u64 0, .int .u64 0, .int .u64 0, .int .u64 0, .int .u64 0, .int .u64 0, .int .u64 0] []),
 oM 10 4,
 ⟨none, .stA 9 1 9 (.t 2) (.t 9), none⟩,
 oM 3 10])
 .ret)
 .skip))
 (.seq (.ops [
 oO 11 (.build [.int .u64 0, .int .u64 0, .int .u64 0, .int .u64 0] []),
 oO 12 (.fldA 5 (.t 1)),
 oO 13 (.load 4 true (.t 12)),
 oK 14 F_curve_sub [.t 11, .t 13],
 oO 15 (.fldA 5 (.t 1)),
 ⟨none, .stA 9 1 4 (.t 15) (.t 14), none⟩])
 (.seq (.ops [
 oO 16 (.load 9 true (.t 1)),
 ⟨none, .stA 9 1 9 (.t 2) (.t 16), none⟩,
 oO 3 (.mv (.c (.int .i64 0)))])
 .ret)))))⟩
theorem K_curve_Neg : chkFun DK Pg Try.f40 A_curve_Neg = true := by kernel_rfl
theorem B_curve_Neg {args : List AV} {m : Mem} {K : AV → Mem → Prop} (h : vcFun DK Pg A_curve_Neg args m K) : ACall Pg F_curve_Neg args m K := call_body mixed Try.func40 (by kernel_rfl) K_curve_Neg h

noncomputable def A_witanlaw03_wakes : AFun := ⟨0, 17, [.t 0],
 (.seq (.ops [
 oO 0 (.mv (.c (.bool false)))])
 (.seq (.ops [
 oO 2 (.build [.int .u64 0, .int .u64 0, .int .u64 0, .int .u64 0] [(0, 1, .c (.int .u64 1))]),
 oK 3 F_curve_Base [.t 2],
 oO 1 (.alloc 9 1 [.bool false, .int .u64 0, .int .u64 0, .int .u64 0, .int .u64 0, .int .u64 0, .int .u64 0, .int .u64 0, .int .u64 0]),
 ⟨none, .stA 9 1 9 (.t 1) (.t 3), none⟩])
 (.seq (.draw [
 oO 4 (.load 9 true (.t 1)),
 oK 5 F_witanref01_G [],
 oK 6 F_witankeep_Point [.t 4, .t 5],
 oM 7 6,
 oG 8 (.build [.int .u64 0, .int .u64 0, .int .u64 0, .int .u64 0] []) 7 true,
 oG 9 (.call (.c (.fn F_curve_Base [])) [.t 8]) 7 true,
 oG 10 (.fld 0 1 false (.t 9)) 7 true,
 oO 11 (.pick (.t 7) (.t 10) (.c (.bool false))),
 oM 12 11,
 oG 13 (.load 9 true (.t 1)) 12 true,
 oG 14 (.call (.c (.fn F_curve_Check [])) [.t 13]) 12 true,
 oG 15 (.bin .eql (.t 14) (.c (.int .i64 0))) 12 true,
 oO 16 (.pick (.t 12) (.t 15) (.c (.bool false))),
 oM 0 16] ⟨.all, [], .look 0 (.run 1 true (.run 2 true (.look 3 (.look 4 (.run 5 true (.look 6 (.look 7 (.look 8 (.look 9 (.run 10 true (.look 11 (.look 12 (.look 13 .done)))))))))))))⟩)
 .ret)))⟩
theorem K_witanlaw03_wakes : chkFun DK Pg Try.f41 A_witanlaw03_wakes = true := by kernel_rfl
theorem B_witanlaw03_wakes {args : List AV} {m : Mem} {K : AV → Mem → Prop} (h : vcFun DK Pg A_witanlaw03_wakes args m K) : ACall Pg F_witanlaw03_wakes args m K := call_body mixed Try.func41 (by kernel_rfl) K_witanlaw03_wakes h

noncomputable def A_field_Sub : AFun := ⟨3, 32, [.cell 6 4 true],
 (.seq (.ops [
 oO 4 (.box 1 4 (.t 1)),
 oO 5 (.box 1 4 (.t 2)),
 oO 6 (.alloc 1 4 [.int .u64 0])])
 (.seq (.ops [
 oM 12 0,
 oK 13 F_field_less [.t 12],
 oM 11 13,
 oO 14 (.ext (.t 11) 0),
 oO 15 (.ext (.t 11) 1),
 oO 7 (.alloc 1 4 [.int .u64 0]),
 ⟨none, .stA 1 4 4 (.t 7) (.t 14), none⟩,
 oM 8 15])
 (.seq (.seq (.ops [
 oM 16 8,
 oO 17 (.un .not (.t 16))])
 (.cond (.t 17)
 (.seq (.ops [
 oO 18 (.build [.int .u64 0, .int .u64 0, .int .u64 0, .int .u64 0] []),
 ⟨none, .stA 1 4 4 (.t 6) (.t 18), none⟩])
 .ret)
 .skip))
 (.seq (.draw [
 oM 20 0,
 oK 21 F_field_Prime [.t 20],
 oM 22 0,
 oO 23 (.load 4 true (.t 5)),
 oK 24 F_field_Red [.t 22, .t 23],
 oK 25 F_limb_Sub [.t 21, .t 24],
 oM 19 25,
 oO 26 (.ext (.t 19) 0),
 oO 27 (.ext (.t 19) 1),
 oO 9 (.alloc 1 4 [.int .u64 0]),
 oS 4 9 26,
 oM 10 27] ⟨.all, [(9, some 10)], .look 0 (.look 2 (.look 3 (.run 1 true (.run 4 true (.run 5 true (.look 6 (.look 7 (.pre 9 10 (.look 8 (.fill (.look 11 .done)))))))))))⟩)
 (.seq (.ops [
 oM 28 0,
 oO 29 (.load 4 true (.t 4)),
 oO 30 (.load 4 true (.t 9)),
 oK 31 F_field_Add [.t 28, .t 29, .t 30],
 ⟨none, .stA 1 4 4 (.t 6) (.t 31), none⟩])
 .ret)))))⟩
theorem K_field_Sub : chkFun DK Pg Try.f42 A_field_Sub = true := by kernel_rfl
theorem B_field_Sub {args : List AV} {m : Mem} {K : AV → Mem → Prop} (h : vcFun DK Pg A_field_Sub args m K) : ACall Pg F_field_Sub args m K := call_body mixed Try.func42 (by kernel_rfl) K_field_Sub h

noncomputable def A_field_Mul : AFun := ⟨3, 29, [.cell 6 4 true],
 (.seq (.ops [
 oO 4 (.box 1 4 (.t 1)),
 oO 5 (.box 1 4 (.t 2)),
 oO 6 (.alloc 1 4 [.int .u64 0])])
 (.seq (.ops [
 oM 12 0,
 oK 13 F_field_less [.t 12],
 oM 11 13,
 oO 14 (.ext (.t 11) 0),
 oO 15 (.ext (.t 11) 1),
 oO 7 (.alloc 1 4 [.int .u64 0]),
 ⟨none, .stA 1 4 4 (.t 7) (.t 14), none⟩,
 oM 8 15])
 (.seq (.seq (.ops [
 oM 16 8,
 oO 17 (.un .not (.t 16))])
 (.cond (.t 17)
 (.seq (.ops [
 oO 18 (.build [.int .u64 0, .int .u64 0, .int .u64 0, .int .u64 0] []),
 ⟨none, .stA 1 4 4 (.t 6) (.t 18), none⟩])
 .ret)
 .skip))
 (.seq (.ops [
 oO 20 (.load 4 true (.t 4)),
 oO 21 (.load 4 true (.t 5)),
 oK 22 F_limb_Mul [.t 20, .t 21],
 oM 19 22,
 oO 23 (.ext (.t 19) 0),
 oO 24 (.ext (.t 19) 1),
 oO 9 (.alloc 1 4 [.int .u64 0]),
 oO 10 (.alloc 1 4 [.int .u64 0]),
 ⟨none, .stA 1 4 4 (.t 9) (.t 23), none⟩,
 ⟨none, .stA 1 4 4 (.t 10) (.t 24), none⟩])
 (.seq (.ops [
 oO 25 (.load 4 true (.t 9)),
 oO 26 (.load 4 true (.t 10)),
 oO 27 (.load 4 true (.t 7)),
 oK 28 F_field_fold [.t 25, .t 26, .t 27],
 ⟨none, .stA 1 4 4 (.t 6) (.t 28), none⟩])
 .ret)))))⟩
theorem K_field_Mul : chkFun DK Pg Try.f43 A_field_Mul = true := by kernel_rfl
theorem B_field_Mul {args : List AV} {m : Mem} {K : AV → Mem → Prop} (h : vcFun DK Pg A_field_Mul args m K) : ACall Pg F_field_Mul args m K := call_body mixed Try.func43 (by kernel_rfl) K_field_Mul h

noncomputable def A_curve_Times : AFun := ⟨2, 18, [.cell 4 9 true, .t 5],
 (.seq (.ops [
 oO 2 (.box 1 4 (.t 0)),
 oO 3 (.box 9 1 (.t 1)),
 oO 4 (.alloc 9 1 [.bool false, .int .u64 0, .int .u64 0, .int .u64 0, .int .u64 0, .int .u64 0, .int .u64 0, .int .u64 0, .int .u64 0]),
 oO 5 (.mv (.c (.int .i64 0)))])
 (.seq (.ops [
 oO 7 (.load 9 true (.t 3)),
 oK 8 F_curve_Check [.t 7],
 oM 6 8])
 (.seq (.seq (.ops [
 oM 9 6,
 oO 10 (.bin .neq (.t 9) (.c (.int .i64 0)))])
 (.cond (.t 10)
 (.seq (.ops [
 oO 11 (.build [.bool false, .int .u64 0, .int .u64 0, .int .u64 0, .int .u64 0, .int .u64 0, .int .u64 0, .int .u64 0, .int .u64 0] []),
 oM 12 6,
 ⟨none, .stA 9 1 9 (.t 4) (.t 11), none⟩,
 oM 5 12])
 .ret)
 .skip))
 (.seq (.draw [
 oO 13 (.load 9 true (.t 3)),
 oK 14 F_curve_spread [.t 13],
 oO 15 (.load 4 true (.t 2)),
 oK 16 F_curve_jac_times [.t 14, .t 15],
 oK 17 F_curve_jac_point [.t 16],
 ⟨none, .stA 9 1 9 (.t 4) (.t 17), none⟩,
 oO 5 (.mv (.c (.int .i64 0)))] ⟨.all, [], .look 0 (.look 2 (.run 1 true (.run 3 false (.run 4 false (.run 5 false (.look 6 .done))))))⟩)
 .ret))))⟩
theorem K_curve_Times : chkFun DK Pg Try.f44 A_curve_Times = true := by kernel_rfl
theorem B_curve_Times {args : List AV} {m : Mem} {K : AV → Mem → Prop} (h : vcFun DK Pg A_curve_Times args m K) : ACall Pg F_curve_Times args m K := call_body mixed Try.func44 (by kernel_rfl) K_curve_Times h

noncomputable def A_field_Add : AFun := ⟨3, 30, [.cell 6 4 true],
 (.seq (.ops [
 oO 4 (.box 1 4 (.t 1)),
 oO 5 (.box 1 4 (.t 2)),
 oO 6 (.alloc 1 4 [.int .u64 0])])
 (.seq (.ops [
 oM 12 0,
 oK 13 F_field_less [.t 12],
 oM 11 13,
 oO 14 (.ext (.t 11) 0),
 oO 15 (.ext (.t 11) 1),
 oO 7 (.alloc 1 4 [.int .u64 0]),
 ⟨none, .stA 1 4 4 (.t 7) (.t 14), none⟩,
 oM 8 15])
 (.seq (.seq (.ops [
 oM 16 8,
 oO 17 (.un .not (.t 16))])
 (.cond (.t 17)
 (.seq (.ops [
 oO 18 (.build [.int .u64 0, .int .u64 0, .int .u64 0, .int .u64 0] []),
 ⟨none, .stA 1 4 4 (.t 6) (.t 18), none⟩])
 .ret)
 .skip))
 (.seq (.ops [
 oO 20 (.load 4 true (.t 4)),
 oO 21 (.load 4 true (.t 5)),
 oK 22 F_limb_Add [.t 20, .t 21],
 oM 19 22,
 oO 23 (.ext (.t 19) 0),
 oO 24 (.ext (.t 19) 1),
 oO 9 (.alloc 1 4 [.int .u64 0]),
 ⟨none, .stA 1 4 4 (.t 9) (.t 23), none⟩,
 oM 10 24])
 (.seq (.ops [
 oO 25 (.load 4 true (.t 9)),
 oM 26 10,
 oO 27 (.build [.int .u64 0, .int .u64 0, .int .u64 0, .int .u64 0] [(0, 1, .t 26)]),
 oO 28 (.load 4 true (.t 7)),
 oK 29 F_field_fold [.t 25, .t 27, .t 28],
 ⟨none, .stA 1 4 4 (.t 6) (.t 29), none⟩])
 .ret)))))⟩
theorem K_field_Add : chkFun DK Pg Try.f45 A_field_Add = true := by kernel_rfl
theorem B_field_Add {args : List AV} {m : Mem} {K : AV → Mem → Prop} (h : vcFun DK Pg A_field_Add args m K) : ACall Pg F_field_Add args m K := call_body mixed Try.func45 (by kernel_rfl) K_field_Add h

noncomputable def A_curve_Two : AFun := ⟨4, 29, [.cell 8 9 true, .t 9],
 (.seq (.ops [
 oO 4 (.box 1 4 (.t 0)),
 oO 5 (.box 9 1 (.t 1)),
 oO 6 (.box 1 4 (.t 2)),
 oO 7 (.box 9 1 (.t 3)),
 oO 8 (.alloc 9 1 [.bool false, .int .u64 0, .int .u64 0, .int .u64 0, .int .u64 0, .int .u64 0, .int .u64 0, .int .u64 0, .int .u64 0]),
 oO 9 (.mv (.c (.int .i64 0)))])
 (.seq (.seq (.ops [
 oO 10 (.load 9 true (.t 5)),
 oK 11 F_curve_Check [.t 10],
 oO 12 (.bin .neq (.t 11) (.c (.int .i64 0))),
 oM 13 12,
 oG 14 (.load 9 true (.t 7)) 13 false,
 oG 15 (.call (.c (.fn F_curve_Check [])) [.t 14]) 13 false,
 oG 16 (.bin .neq (.t 15) (.c (.int .i64 0))) 13 false,
 oO 17 (.pick (.t 13) (.c (.bool true)) (.t 16))])
 (.cond (.t 17)
 (.seq (.ops [
 oO 18 (.build [.bool false, .int .u64 0, .int .u64 0, .int .u64 0, .int .u64 0, .int .u64 0, .int .u64 0, .int .u64 0, .int .u64 0] []),
 ⟨none, .stA 9 1 9 (.t 8) (.t 18), none⟩,
 oO 9 (.mv (.c (.int .i64 3)))])
 .ret)
 .skip))
 (.seq (.draw [
 oO 19 (.load 9 true (.t 5)),
 oK 20 F_curve_spread [.t 19],
 oO 21 (.load 4 true (.t 4)),
 oK 22 F_curve_jac_times [.t 20, .t 21],
 oO 23 (.load 9 true (.t 7)),
 oK 24 F_curve_spread [.t 23],
 oO 25 (.load 4 true (.t 6)),
 oK 26 F_curve_jac_times [.t 24, .t 25],
 oK 27 F_curve_jac_plus [.t 22, .t 26],
 oK 28 F_curve_jac_point [.t 27],
 ⟨none, .stA 9 1 9 (.t 8) (.t 28), none⟩,
 oO 9 (.mv (.c (.int .i64 0)))] ⟨.all, [], .look 0 (.look 2 (.look 4 (.look 6 (.run 1 true (.run 3 true (.run 5 true (.run 7 false (.run 8 false (.run 9 false (.run 10 false (.look 11 .done)))))))))))⟩)
 .ret)))⟩
theorem K_curve_Two : chkFun DK Pg Try.f46 A_curve_Two = true := by kernel_rfl
theorem B_curve_Two {args : List AV} {m : Mem} {K : AV → Mem → Prop} (h : vcFun DK Pg A_curve_Two args m K) : ACall Pg F_curve_Two args m K := call_body mixed Try.func46 (by kernel_rfl) K_curve_Two h

noncomputable def A_witanref01_Check : AFun := ⟨1, 45, [.t 2],
 (.seq (.ops [
 oO 1 (.box 9 1 (.t 0)),
 oO 2 (.mv (.c (.bool false)))])
 (.seq (.seq (.ops [
 oO 3 (.fldA 0 (.t 1)),
 oO 4 (.load 1 false (.t 3))])
 (.cond (.t 4)
 (.seq (.ops [
 oO 5 (.fldA 1 (.t 1)),
 oO 6 (.load 4 true (.t 5)),
 oO 7 (.build [.int .u64 0, .int .u64 0, .int .u64 0, .int .u64 0] []),
 oO 8 (.eqa [.i, .i, .i, .i] false (.t 6) (.t 7)),
 oM 9 8,
 oG 10 (.fldA 5 (.t 1)) 9 true,
 oG 11 (.load 4 true (.t 10)) 9 true,
 oG 12 (.build [.int .u64 0, .int .u64 0, .int .u64 0, .int .u64 0] []) 9 true,
 oG 13 (.eqa [.i, .i, .i, .i] false (.t 11) (.t 12)) 9 true,
 oO 14 (.pick (.t 9) (.t 13) (.c (.bool false))),
 oM 2 14])
 .ret)
 .skip))
 (.seq (.draw [
 oO 15 (.fldA 1 (.t 1)),
 oO 16 (.load 4 true (.t 15)),
 oK 17 F_witanref01_Prime [.c (.int .i64 0)],
 oK 18 F_witanref01_Cmp [.t 16, .t 17],
 oO 19 (.bin .lss (.t 18) (.c (.int .i64 0))),
 oM 20 19,
 oG 21 (.fldA 5 (.t 1)) 20 true,
 oG 22 (.load 4 true (.t 21)) 20 true,
 oG 23 (.call (.c (.fn F_witanref01_Prime [])) [.c (.int .i64 0)]) 20 true,
 oG 24 (.call (.c (.fn F_witanref01_Cmp [])) [.t 22, .t 23]) 20 true,
 oG 25 (.bin .lss (.t 24) (.c (.int .i64 0))) 20 true,
 oO 26 (.pick (.t 20) (.t 25) (.c (.bool false))),
 oM 27 26,
 oG 28 (.fldA 5 (.t 1)) 27 true,
 oG 29 (.load 4 true (.t 28)) 27 true,
 oG 30 (.fldA 5 (.t 1)) 27 true,
 oG 31 (.load 4 true (.t 30)) 27 true,
 oG 32 (.call (.c (.fn F_witanref01_mul [])) [.t 29, .t 31]) 27 true,
 oG 33 (.fldA 1 (.t 1)) 27 true,
 oG 34 (.load 4 true (.t 33)) 27 true,
 oG 35 (.fldA 1 (.t 1)) 27 true,
 oG 36 (.load 4 true (.t 35)) 27 true,
 oG 37 (.call (.c (.fn F_witanref01_mul [])) [.t 34, .t 36]) 27 true,
 oG 38 (.fldA 1 (.t 1)) 27 true,
 oG 39 (.load 4 true (.t 38)) 27 true,
 oG 40 (.call (.c (.fn F_witanref01_mul [])) [.t 37, .t 39]) 27 true,
 oG 41 (.build [.int .u64 0, .int .u64 0, .int .u64 0, .int .u64 0] [(0, 1, .c (.int .u64 7))]) 27 true,
 oG 42 (.call (.c (.fn F_witanref01_add [])) [.t 40, .t 41]) 27 true,
 oG 43 (.eqa [.i, .i, .i, .i] false (.t 32) (.t 42)) 27 true,
 oO 44 (.pick (.t 27) (.t 43) (.c (.bool false))),
 oM 2 44] ⟨.all, [], .look 0 (.look 1 (.run 2 true (.run 3 true (.look 4 (.look 5 (.look 6 (.look 7 (.run 8 true (.run 9 true (.look 10 (.look 11 (.look 12 (.look 13 (.look 14 (.look 15 (.look 16 (.look 18 (.look 19 (.look 20 (.look 21 (.look 23 (.look 24 (.look 26 (.run 17 true (.run 22 true (.run 25 true (.run 27 true (.look 28 (.look 29 (.look 30 .done))))))))))))))))))))))))))))))⟩)
 .ret)))⟩
theorem K_witanref01_Check : chkFun DK Pg Try.f47 A_witanref01_Check = true := by kernel_rfl
theorem B_witanref01_Check {args : List AV} {m : Mem} {K : AV → Mem → Prop} (h : vcFun DK Pg A_witanref01_Check args m K) : ACall Pg F_witanref01_Check args m K := call_body mixed Try.func47 (by kernel_rfl) K_witanref01_Check h

noncomputable def A_witanlaw03_like : AFun := ⟨4, 25, [.t 8],
 (.seq (.ops [
 oO 4 (.box 9 1 (.t 0)),
 oO 7 (.box 9 1 (.t 3)),
 oO 8 (.mv (.c (.bool false)))])
 (.seq (.seq (.ops [
 oM 9 2,
 oO 10 (.un .not (.t 9))])
 (.cond (.t 10)
 (.seq (.ops [
 oM 11 1,
 oO 12 (.bin .eql (.t 11) (.c (.int .i64 3))),
 oM 13 12,
 oG 14 (.load 9 true (.t 4)) 13 true,
 oG 15 (.build [.bool false, .int .u64 0, .int .u64 0, .int .u64 0, .int .u64 0, .int .u64 0, .int .u64 0, .int .u64 0, .int .u64 0] []) 13 true,
 oG 16 (.call (.c (.fn F_witankeep_Point [])) [.t 14, .t 15]) 13 true,
 oO 17 (.pick (.t 13) (.t 16) (.c (.bool false))),
 oM 8 17])
 .ret)
 .skip))
 (.seq (.ops [
 oM 18 1,
 oO 19 (.bin .eql (.t 18) (.c (.int .i64 0))),
 oM 20 19,
 oG 21 (.load 9 true (.t 4)) 20 true,
 oG 22 (.load 9 true (.t 7)) 20 true,
 oG 23 (.call (.c (.fn F_witankeep_Point [])) [.t 21, .t 22]) 20 true,
 oO 24 (.pick (.t 20) (.t 23) (.c (.bool false))),
 oM 8 24])
 .ret)))⟩
theorem K_witanlaw03_like : chkFun DK Pg Try.f48 A_witanlaw03_like = true := by kernel_rfl
theorem B_witanlaw03_like {args : List AV} {m : Mem} {K : AV → Mem → Prop} (h : vcFun DK Pg A_witanlaw03_like args m K) : ACall Pg F_witanlaw03_like args m K := call_body mixed Try.func48 (by kernel_rfl) K_witanlaw03_like h

noncomputable def A_witanref01_Neg : AFun := ⟨1, 12, [.cell 2 9 true],
 (.seq (.ops [
 oO 1 (.box 9 1 (.t 0)),
 oO 2 (.alloc 9 1 [.bool false, .int .u64 0, .int .u64 0, .int .u64 0, .int .u64 0, .int .u64 0, .int .u64 0, .int .u64 0, .int .u64 0])])
 (.seq (.seq (.ops [
 oO 3 (.fldA 0 (.t 1)),
 oO 4 (.load 1 false (.t 3))])
 (.cond (.t 4)
 (.seq (.ops [
 oO 5 (.load 9 true (.t 1)),
 ⟨none, .stA 9 1 9 (.t 2) (.t 5), none⟩])
 .ret)
 .skip))
 (.seq (.ops [
 oO 6 (.build [.int .u64 0, .int .u64 0, .int .u64 0, .int .u64 0] []),
 oO 7 (.fldA 5 (.t 1)),
 oO 8 (.load 4 true (.t 7)),
 oK 9 F_witanref01_sub [.t 6, .t 8],
 oO 10 (.fldA 5 (.t 1)),
 ⟨none, .stA 9 1 4 (.t 10) (.t 9), none⟩])
 (.seq (.ops [
 oO 11 (.load 9 true (.t 1)),
 ⟨none, .stA 9 1 9 (.t 2) (.t 11), none⟩])
 .ret))))⟩
theorem K_witanref01_Neg : chkFun DK Pg Try.f49 A_witanref01_Neg = true := by kernel_rfl
theorem B_witanref01_Neg {args : List AV} {m : Mem} {K : AV → Mem → Prop} (h : vcFun DK Pg A_witanref01_Neg args m K) : ACall Pg F_witanref01_Neg args m K := call_body mixed Try.func49 (by kernel_rfl) K_witanref01_Neg h

noncomputable def A_witanref01_Times : AFun := ⟨2, 9, [.cell 4 9 true],
 (.seq (.ops [
 oO 2 (.box 1 4 (.t 0)),
 oO 3 (.box 9 1 (.t 1)),
 oO 4 (.alloc 9 1 [.bool false, .int .u64 0, .int .u64 0, .int .u64 0, .int .u64 0, .int .u64 0, .int .u64 0, .int .u64 0, .int .u64 0])])
 (.seq (.ops [
 oO 5 (.load 4 true (.t 2)),
 oO 6 (.load 9 true (.t 3)),
 oK 7 F_witanref01_times [.t 5, .t 6],
 oK 8 F_witanref01_down [.t 7],
 ⟨none, .stA 9 1 9 (.t 4) (.t 8), none⟩])
 .ret))⟩
theorem K_witanref01_Times : chkFun DK Pg Try.f50 A_witanref01_Times = true := by kernel_rfl
theorem B_witanref01_Times {args : List AV} {m : Mem} {K : AV → Mem → Prop} (h : vcFun DK Pg A_witanref01_Times args m K) : ACall Pg F_witanref01_Times args m K := call_body mixed Try.func50 (by kernel_rfl) K_witanref01_Times h

noncomputable def A_witanref01_Sum : AFun := ⟨2, 11, [.cell 4 9 true],
 (.seq (.ops [
 oO 2 (.box 9 1 (.t 0)),
 oO 3 (.box 9 1 (.t 1)),
 oO 4 (.alloc 9 1 [.bool false, .int .u64 0, .int .u64 0, .int .u64 0, .int .u64 0, .int .u64 0, .int .u64 0, .int .u64 0, .int .u64 0])])
 (.seq (.draw [
 oO 5 (.load 9 true (.t 2)),
 oK 6 F_witanref01_up [.t 5],
 oO 7 (.load 9 true (.t 3)),
 oK 8 F_witanref01_up [.t 7],
 oK 9 F_witanref01_plus [.t 6, .t 8],
 oK 10 F_witanref01_down [.t 9],
 ⟨none, .stA 9 1 9 (.t 4) (.t 10), none⟩] ⟨.all, [], .look 0 (.look 2 (.run 1 true (.run 3 false (.run 4 false (.run 5 false (.run 6 false .done))))))⟩)
 .ret))⟩
theorem K_witanref01_Sum : chkFun DK Pg Try.f51 A_witanref01_Sum = true := by kernel_rfl
theorem B_witanref01_Sum {args : List AV} {m : Mem} {K : AV → Mem → Prop} (h : vcFun DK Pg A_witanref01_Sum args m K) : ACall Pg F_witanref01_Sum args m K := call_body mixed Try.func51 (by kernel_rfl) K_witanref01_Sum h

noncomputable def A_witanref01_Two : AFun := ⟨4, 17, [.cell 8 9 true],
 (.seq (.ops [
 oO 4 (.box 1 4 (.t 0)),
 oO 5 (.box 9 1 (.t 1)),
 oO 6 (.box 1 4 (.t 2)),
 oO 7 (.box 9 1 (.t 3)),
 oO 8 (.alloc 9 1 [.bool false, .int .u64 0, .int .u64 0, .int .u64 0, .int .u64 0, .int .u64 0, .int .u64 0, .int .u64 0, .int .u64 0])])
 (.seq (.draw [
 oO 9 (.load 4 true (.t 4)),
 oO 10 (.load 9 true (.t 5)),
 oK 11 F_witanref01_times [.t 9, .t 10],
 oO 12 (.load 4 true (.t 6)),
 oO 13 (.load 9 true (.t 7)),
 oK 14 F_witanref01_times [.t 12, .t 13],
 oK 15 F_witanref01_plus [.t 11, .t 14],
 oK 16 F_witanref01_down [.t 15],
 ⟨none, .stA 9 1 9 (.t 8) (.t 16), none⟩] ⟨.all, [], .look 0 (.look 1 (.look 3 (.look 4 (.run 2 true (.run 5 false (.run 6 false (.run 7 false (.run 8 false .done))))))))⟩)
 .ret))⟩
theorem K_witanref01_Two : chkFun DK Pg Try.f52 A_witanref01_Two = true := by kernel_rfl
theorem B_witanref01_Two {args : List AV} {m : Mem} {K : AV → Mem → Prop} (h : vcFun DK Pg A_witanref01_Two args m K) : ACall Pg F_witanref01_Two args m K := call_body mixed Try.func52 (by kernel_rfl) K_witanref01_Two h

noncomputable def A_witanref01_Base : AFun := ⟨1, 6, [.cell 2 9 true],
 (.seq (.ops [
 oO 1 (.box 1 4 (.t 0)),
 oO 2 (.alloc 9 1 [.bool false, .int .u64 0, .int .u64 0, .int .u64 0, .int .u64 0, .int .u64 0, .int .u64 0, .int .u64 0, .int .u64 0])])
 (.seq (.draw [
 oO 3 (.load 4 true (.t 1)),
 oK 4 F_witanref01_G [],
 oK 5 F_witanref01_Times [.t 3, .t 4],
 ⟨none, .stA 9 1 9 (.t 2) (.t 5), none⟩] ⟨.all, [], .look 0 (.run 1 true (.run 2 false (.run 3 false .done)))⟩)
 .ret))⟩
theorem K_witanref01_Base : chkFun DK Pg Try.f53 A_witanref01_Base = true := by kernel_rfl
theorem B_witanref01_Base {args : List AV} {m : Mem} {K : AV → Mem → Prop} (h : vcFun DK Pg A_witanref01_Base args m K) : ACall Pg F_witanref01_Base args m K := call_body mixed Try.func53 (by kernel_rfl) K_witanref01_Base h

noncomputable def A_field_Prime : AFun := ⟨1, 22, [.cell 2 4 true],
 (.seq (.ops [
 oO 2 (.alloc 1 4 [.int .u64 0])])
 (.seq (.ops [
 oM 8 0,
 oK 9 F_field_less [.t 8],
 oM 7 9,
 oO 10 (.ext (.t 7) 0),
 oO 11 (.ext (.t 7) 1),
 oO 3 (.alloc 1 4 [.int .u64 0]),
 ⟨none, .stA 1 4 4 (.t 3) (.t 10), none⟩,
 oM 4 11])
 (.seq (.seq (.ops [
 oM 12 4,
 oO 13 (.un .not (.t 12))])
 (.cond (.t 13)
 (.seq (.ops [
 oO 14 (.build [.int .u64 0, .int .u64 0, .int .u64 0, .int .u64 0] []),
 ⟨none, .stA 1 4 4 (.t 2) (.t 14), none⟩])
 .ret)
 .skip))
 (.seq (.ops [
 oO 16 (.build [.int .u64 0, .int .u64 0, .int .u64 0, .int .u64 0] []),
 oO 17 (.load 4 true (.t 3)),
 oK 18 F_limb_Sub [.t 16, .t 17],
 oM 15 18,
 oO 19 (.ext (.t 15) 0),
 oO 20 (.ext (.t 15) 1),
 oO 5 (.alloc 1 4 [.int .u64 0]),
 ⟨none, .stA 1 4 4 (.t 5) (.t 19), none⟩,
 oM 6 20])
 (.seq (.ops [
 oO 21 (.load 4 true (.t 5)),
 ⟨none, .stA 1 4 4 (.t 2) (.t 21), none⟩])
 .ret)))))⟩
theorem K_field_Prime : chkFun DK Pg Try.f54 A_field_Prime = true := by kernel_rfl
theorem B_field_Prime {args : List AV} {m : Mem} {K : AV → Mem → Prop} (h : vcFun DK Pg A_field_Prime args m K) : ACall Pg F_field_Prime args m K := call_body mixed Try.func54 (by kernel_rfl) K_field_Prime h

noncomputable def A_curve_Bytes : AFun := ⟨1, 28, [.t 2, .t 3],
 (.seq (.ops [
 oO 1 (.box 9 1 (.t 0)),
 oO 2 (.mv (.c (.nils))),
 oO 3 (.mv (.c (.int .i64 0)))])
 (.seq (.ops [
 oO 6 (.load 9 true (.t 1)),
 oK 7 F_curve_Check [.t 6],
 oM 4 7])
 (.seq (.block 0
 (.seq (.ops [
 oM 9 4,
 oO 10 (.bin .neq (.t 9) (.c (.int .i64 0))),
 oM 8 10])
 (.cond (.t 8)
 (.seq (.ops [
 oM 11 4,
 oO 2 (.mv (.c (.nils))),
 oM 3 11])
 .ret)
 (.seq (.ops [
 oO 13 (.fldA 0 (.t 1)),
 oO 14 (.load 1 false (.t 13)),
 oM 12 14])
 (.cond (.t 12)
 (.seq (.ops [
 oO 15 (.bsl 1 1 [.int .u8 0] [(0, 1, .c (.int .u8 0))]),
 oM 2 15,
 oO 3 (.mv (.c (.int .i64 0)))])
 .ret)
 .skip)))))
 (.seq (.ops [
 oO 16 (.fldA 1 (.t 1)),
 oO 17 (.load 4 true (.t 16)),
 oK 18 F_limb_Bytes [.t 17],
 oO 5 (.alloc 1 32 [.int .u8 0]),
 oS 32 5 18])
 (.seq (.draw [
 oO 19 (.fldA 5 (.t 1)),
 oO 20 (.idxP 4 1 (.t 19) (.c (.int .i64 0))),
 oO 21 (.load 1 false (.t 20)),
 oO 22 (.bin .and (.t 21) (.c (.int .u64 1))),
 oO 23 (.bin .add (.c (.int .u64 2)) (.t 22)),
 oO 24 (.conv .u8 (.t 23)),
 oO 25 (.bsl 1 1 [.int .u8 0] [(0, 1, .t 24)]),
 oO 26 (.slarr 32 1 (.t 5) none none none),
 oO 27 (.app 1 1 (.t 25) (.t 26)),
 oM 2 27,
 oO 3 (.mv (.c (.int .i64 0)))] ⟨.all, [], .look 0 (.look 1 (.look 2 (.look 3 (.look 4 (.look 5 (.look 7 (.run 6 true (.run 8 false (.look 9 (.look 10 .done))))))))))⟩)
 .ret)))))⟩
theorem K_curve_Bytes : chkFun DK Pg Try.f55 A_curve_Bytes = true := by kernel_rfl
theorem B_curve_Bytes {args : List AV} {m : Mem} {K : AV → Mem → Prop} (h : vcFun DK Pg A_curve_Bytes args m K) : ACall Pg F_curve_Bytes args m K := call_body mixed Try.func55 (by kernel_rfl) K_curve_Bytes h

noncomputable def A_witankeep_TwinNums : AFun := ⟨1, 7, [.t 2],
 (.seq (.ops [
 oO 2 (.mv (.c (.nils)))])
 (.seq (.ops [
 oO 3 (.mv (.c (.nils)))])
 (.seq (.ops [
 oM 4 3,
 oM 5 0,
 oO 6 (.app 4 32 (.t 4) (.t 5)),
 oM 2 6])
 .ret)))⟩
theorem K_witankeep_TwinNums : chkFun DK Pg Try.f56 A_witankeep_TwinNums = true := by kernel_rfl
theorem B_witankeep_TwinNums {args : List AV} {m : Mem} {K : AV → Mem → Prop} (h : vcFun DK Pg A_witankeep_TwinNums args m K) : ACall Pg F_witankeep_TwinNums args m K := call_body mixed Try.func56 (by kernel_rfl) K_witankeep_TwinNums h

noncomputable def A_witankeep_TwinPoints : AFun := ⟨1, 7, [.t 2],
 (.seq (.ops [
 oO 2 (.mv (.c (.nils)))])
 (.seq (.ops [
 oO 3 (.mv (.c (.nils)))])
 (.seq (.ops [
 oM 4 3,
 oM 5 0,
 oO 6 (.app 9 72 (.t 4) (.t 5)),
 oM 2 6])
 .ret)))⟩
theorem K_witankeep_TwinPoints : chkFun DK Pg Try.f57 A_witankeep_TwinPoints = true := by kernel_rfl
theorem B_witankeep_TwinPoints {args : List AV} {m : Mem} {K : AV → Mem → Prop} (h : vcFun DK Pg A_witankeep_TwinPoints args m K) : ACall Pg F_witankeep_TwinPoints args m K := call_body mixed Try.func57 (by kernel_rfl) K_witankeep_TwinPoints h

noncomputable def A_feld_Commit : AFun := ⟨1, 23, [.t 2, .t 3],
 (.seq (.ops [
 oO 2 (.mv (.c (.nils))),
 oO 3 (.mv (.c (.int .i64 0)))])
 (.seq (.seq (.ops [
 oM 7 0,
 oO 8 (.len (.t 7)),
 oO 9 (.bin .gtr (.t 8) (.c (.int .i64 64)))])
 (.cond (.t 9)
 (.seq (.ops [
 oO 2 (.mv (.c (.nils))),
 oO 3 (.mv (.c (.int .i64 4)))])
 .ret)
 .skip))
 (.seq (.ops [
 oO 4 (.mv (.c (.nils)))])
 (.seq (.seq (.ops [
 oM 10 0,
 oO 11 (.len (.t 10)),
 oO 12 (.mv (.c (.int .i64 0)))])
 (.block 0
 (.loop
 (.seq (.ops [
 oO 13 (.bin .lss (.t 12) (.t 11))])
 (.seq (.cond (.t 13)
 .skip
 (.exit 0))
 (.seq (.block 1
 (.seq (.ops [
 oO 14 (.idxA 4 (.t 10) (.t 12)),
 oO 15 (.load 4 true (.t 14)),
 oO 6 (.alloc 1 4 [.int .u64 0]),
 ⟨none, .stA 1 4 4 (.t 6) (.t 15), none⟩])
 (.ops [
 oM 16 4,
 oO 17 (.load 4 true (.t 6)),
 oK 18 F_curve_Base [.t 17],
 oO 19 (.bsl 9 1 [.bool false, .int .u64 0, .int .u64 0, .int .u64 0, .int .u64 0, .int .u64 0, .int .u64 0, .int .u64 0, .int .u64 0] [(0, 9, .t 18)]),
 oO 20 (.app 9 72 (.t 16) (.t 19)),
 oM 4 20])))
 (.ops [
 oO 21 (.bin .add (.t 12) (.c (.int .i64 1))),
 oM 12 21])))))))
 (.seq (.ops [
 oM 22 4,
 oM 2 22,
 oO 3 (.mv (.c (.int .i64 0)))])
 .ret)))))⟩
theorem K_feld_Commit : chkFun DK Pg Try.f58 A_feld_Commit = true := by kernel_rfl
theorem B_feld_Commit {args : List AV} {m : Mem} {K : AV → Mem → Prop} (h : vcFun DK Pg A_feld_Commit args m K) : ACall Pg F_feld_Commit args m K := call_body mixed Try.func58 (by kernel_rfl) K_feld_Commit h

noncomputable def A_feld_At : AFun := ⟨2, 41, [.cell 4 9 true, .t 5],
 (.seq (.ops [
 oO 3 (.box 1 4 (.t 1)),
 oO 4 (.alloc 9 1 [.bool false, .int .u64 0, .int .u64 0, .int .u64 0, .int .u64 0, .int .u64 0, .int .u64 0, .int .u64 0, .int .u64 0]),
 oO 5 (.mv (.c (.int .i64 0)))])
 (.seq (.block 0
 (.seq (.ops [
 oM 11 0,
 oO 12 (.len (.t 11)),
 oO 13 (.bin .gtr (.t 12) (.c (.int .i64 64))),
 oM 10 13])
 (.cond (.t 10)
 (.seq (.ops [
 oO 14 (.build [.bool false, .int .u64 0, .int .u64 0, .int .u64 0, .int .u64 0, .int .u64 0, .int .u64 0, .int .u64 0, .int .u64 0] []),
 ⟨none, .stA 9 1 9 (.t 4) (.t 14), none⟩,
 oO 5 (.mv (.c (.int .i64 4)))])
 .ret)
 (.seq (.ops [
 oM 16 0,
 oK 17 F_feld_points [.t 16],
 oO 18 (.un .not (.t 17)),
 oM 15 18])
 (.cond (.t 15)
 (.seq (.ops [
 oO 19 (.build [.bool false, .int .u64 0, .int .u64 0, .int .u64 0, .int .u64 0, .int .u64 0, .int .u64 0, .int .u64 0, .int .u64 0] []),
 ⟨none, .stA 9 1 9 (.t 4) (.t 19), none⟩,
 oO 5 (.mv (.c (.int .i64 3)))])
 .ret)
 .skip)))))
 (.seq (.ops [
 oO 20 (.build [.bool false, .int .u64 0, .int .u64 0, .int .u64 0, .int .u64 0, .int .u64 0, .int .u64 0, .int .u64 0, .int .u64 0] [(0, 1, .c (.bool true))]),
 oO 21 (.build [.int .u64 0, .int .u64 0, .int .u64 0, .int .u64 0] [(0, 1, .c (.int .u64 1))]),
 oO 6 (.alloc 9 1 [.bool false, .int .u64 0, .int .u64 0, .int .u64 0, .int .u64 0, .int .u64 0, .int .u64 0, .int .u64 0, .int .u64 0]),
 oO 7 (.alloc 1 4 [.int .u64 0]),
 ⟨none, .stA 9 1 9 (.t 6) (.t 20), none⟩,
 ⟨none, .stA 1 4 4 (.t 7) (.t 21), none⟩])
 (.seq (.seq (.ops [
 oM 22 0,
 oO 23 (.len (.t 22)),
 oO 24 (.mv (.c (.int .i64 0)))])
 (.block 1
 (.loop
 (.seq (.ops [
 oO 25 (.bin .lss (.t 24) (.t 23))])
 (.seq (.cond (.t 25)
 .skip
 (.exit 1))
 (.seq (.block 2
 (.seq (.ops [
 oO 26 (.idxA 9 (.t 22) (.t 24)),
 oO 27 (.load 9 true (.t 26)),
 oO 9 (.alloc 9 1 [.bool false, .int .u64 0, .int .u64 0, .int .u64 0, .int .u64 0, .int .u64 0, .int .u64 0, .int .u64 0, .int .u64 0]),
 ⟨none, .stA 9 1 9 (.t 9) (.t 27), none⟩])
 (.seq (.ops [
 oO 29 (.build [.int .u64 0, .int .u64 0, .int .u64 0, .int .u64 0] [(0, 1, .c (.int .u64 1))]),
 oO 30 (.load 9 true (.t 6)),
 oO 31 (.load 4 true (.t 7)),
 oO 32 (.load 9 true (.t 9)),
 oK 33 F_curve_Two [.t 29, .t 30, .t 31, .t 32],
 oM 28 33,
 oO 34 (.ext (.t 28) 0),
 oO 35 (.ext (.t 28) 1),
 ⟨none, .stA 9 1 9 (.t 6) (.t 34), none⟩])
 (.ops [
 oO 36 (.load 4 true (.t 7)),
 oO 37 (.load 4 true (.t 3)),
 oK 38 F_field_Mul [.c (.int .i64 1), .t 36, .t 37],
 ⟨none, .stA 1 4 4 (.t 7) (.t 38), none⟩]))))
 (.ops [
 oO 39 (.bin .add (.t 24) (.c (.int .i64 1))),
 oM 24 39])))))))
 (.seq (.ops [
 oO 40 (.load 9 true (.t 6)),
 ⟨none, .stA 9 1 9 (.t 4) (.t 40), none⟩,
 oO 5 (.mv (.c (.int .i64 0)))])
 .ret)))))⟩
theorem K_feld_At : chkFun DK Pg Try.f59 A_feld_At = true := by kernel_rfl
theorem B_feld_At {args : List AV} {m : Mem} {K : AV → Mem → Prop} (h : vcFun DK Pg A_feld_At args m K) : ACall Pg F_feld_At args m K := call_body mixed Try.func59 (by kernel_rfl) K_feld_At h

noncomputable def A_feld_Fits : AFun := ⟨3, 23, [.t 6, .t 7],
 (.seq (.ops [
 oO 4 (.box 1 4 (.t 1)),
 oO 5 (.box 1 4 (.t 2)),
 oO 6 (.mv (.c (.bool false))),
 oO 7 (.mv (.c (.int .i64 0)))])
 (.seq (.ops [
 oM 11 0,
 oO 12 (.load 4 true (.t 4)),
 oK 13 F_feld_At [.t 11, .t 12],
 oM 10 13,
 oO 14 (.ext (.t 10) 0),
 oO 15 (.ext (.t 10) 1),
 oO 8 (.alloc 9 1 [.bool false, .int .u64 0, .int .u64 0, .int .u64 0, .int .u64 0, .int .u64 0, .int .u64 0, .int .u64 0, .int .u64 0]),
 ⟨none, .stA 9 1 9 (.t 8) (.t 14), none⟩,
 oM 9 15])
 (.seq (.seq (.ops [
 oM 16 9,
 oO 17 (.bin .neq (.t 16) (.c (.int .i64 0)))])
 (.cond (.t 17)
 (.seq (.ops [
 oM 18 9,
 oO 6 (.mv (.c (.bool false))),
 oM 7 18])
 .ret)
 .skip))
 (.seq (.draw [
 oO 19 (.load 4 true (.t 5)),
 oK 20 F_curve_Base [.t 19],
 oO 21 (.load 9 true (.t 8)),
 oO 22 (.eqa [.b, .i, .i, .i, .i, .i, .i, .i, .i] false (.t 20) (.t 21)),
 oM 6 22,
 oO 7 (.mv (.c (.int .i64 0)))] ⟨.all, [], .look 0 (.look 2 (.run 1 true (.look 3 (.look 4 (.look 5 .done)))))⟩)
 .ret))))⟩
theorem K_feld_Fits : chkFun DK Pg Try.f60 A_feld_Fits = true := by kernel_rfl
theorem B_feld_Fits {args : List AV} {m : Mem} {K : AV → Mem → Prop} (h : vcFun DK Pg A_feld_Fits args m K) : ACall Pg F_feld_Fits args m K := call_body mixed Try.func60 (by kernel_rfl) K_feld_Fits h

noncomputable def A_witankeep_Points : AFun := ⟨2, 27, [.t 4],
 (.seq (.ops [
 oO 4 (.mv (.c (.bool false)))])
 (.seq (.seq (.ops [
 oM 6 0,
 oO 7 (.len (.t 6)),
 oM 8 1,
 oO 9 (.len (.t 8)),
 oO 10 (.bin .neq (.t 7) (.t 9))])
 (.cond (.t 10)
 (.seq (.ops [
 oO 4 (.mv (.c (.bool false)))])
 .ret)
 .skip))
 (.seq (.seq (.ops [
 oO 5 (.mv (.c (.int .i64 0)))])
 (.block 0
 (.loop
 (.seq (.seq (.ops [
 oM 11 5,
 oM 12 0,
 oO 13 (.len (.t 12)),
 oO 14 (.bin .lss (.t 11) (.t 13))])
 (.cond (.t 14)
 .skip
 (.exit 0)))
 (.seq (.block 1
 (.seq (.draw [
 oM 17 0,
 oM 18 5,
 oO 19 (.idxA 9 (.t 17) (.t 18)),
 oO 20 (.load 9 true (.t 19)),
 oM 21 1,
 oM 22 5,
 oO 23 (.idxA 9 (.t 21) (.t 22)),
 oO 24 (.load 9 true (.t 23)),
 oK 25 F_witankeep_Point [.t 20, .t 24],
 oO 26 (.un .not (.t 25))] ⟨.all, [], .look 0 (.look 1 (.look 2 (.look 3 (.look 4 (.look 5 (.look 6 (.look 7 (.run 8 true (.look 9 .done)))))))))⟩)
 (.cond (.t 26)
 (.seq (.ops [
 oO 4 (.mv (.c (.bool false)))])
 .ret)
 .skip)))
 (.ops [
 oM 15 5,
 oO 16 (.bin .add (.t 15) (.c (.int .i64 1))),
 oM 5 16]))))))
 (.seq (.ops [
 oO 4 (.mv (.c (.bool true)))])
 .ret))))⟩
theorem K_witankeep_Points : chkFun DK Pg Try.f61 A_witankeep_Points = true := by kernel_rfl
theorem B_witankeep_Points {args : List AV} {m : Mem} {K : AV → Mem → Prop} (h : vcFun DK Pg A_witankeep_Points args m K) : ACall Pg F_witankeep_Points args m K := call_body mixed Try.func61 (by kernel_rfl) K_witankeep_Points h

noncomputable def A_witanref06_Commit : AFun := ⟨1, 20, [.t 2],
 (.seq (.ops [
 oO 2 (.mv (.c (.nils)))])
 (.seq (.ops [
 oO 3 (.mv (.c (.nils)))])
 (.seq (.seq (.ops [
 oO 4 (.mv (.c (.int .i64 0)))])
 (.block 0
 (.loop
 (.seq (.seq (.ops [
 oM 5 4,
 oM 6 0,
 oO 7 (.len (.t 6)),
 oO 8 (.bin .lss (.t 5) (.t 7))])
 (.cond (.t 8)
 .skip
 (.exit 0)))
 (.seq (.block 1
 (.ops [
 oM 11 3,
 oM 12 0,
 oM 13 4,
 oO 14 (.idxA 4 (.t 12) (.t 13)),
 oO 15 (.load 4 true (.t 14)),
 oK 16 F_witanref01_Base [.t 15],
 oO 17 (.bsl 9 1 [.bool false, .int .u64 0, .int .u64 0, .int .u64 0, .int .u64 0, .int .u64 0, .int .u64 0, .int .u64 0, .int .u64 0] [(0, 9, .t 16)]),
 oO 18 (.app 9 72 (.t 11) (.t 17)),
 oM 3 18]))
 (.ops [
 oM 9 4,
 oO 10 (.bin .add (.t 9) (.c (.int .i64 1))),
 oM 4 10]))))))
 (.seq (.ops [
 oM 19 3,
 oM 2 19])
 .ret))))⟩
theorem K_witanref06_Commit : chkFun DK Pg Try.f62 A_witanref06_Commit = true := by kernel_rfl
theorem B_witanref06_Commit {args : List AV} {m : Mem} {K : AV → Mem → Prop} (h : vcFun DK Pg A_witanref06_Commit args m K) : ACall Pg F_witanref06_Commit args m K := call_body mixed Try.func62 (by kernel_rfl) K_witanref06_Commit h

noncomputable def A_witankeep_Nums : AFun := ⟨2, 26, [.t 4],
 (.seq (.ops [
 oO 4 (.mv (.c (.bool false)))])
 (.seq (.seq (.ops [
 oM 6 0,
 oO 7 (.len (.t 6)),
 oM 8 1,
 oO 9 (.len (.t 8)),
 oO 10 (.bin .neq (.t 7) (.t 9))])
 (.cond (.t 10)
 (.seq (.ops [
 oO 4 (.mv (.c (.bool false)))])
 .ret)
 .skip))
 (.seq (.seq (.ops [
 oO 5 (.mv (.c (.int .i64 0)))])
 (.block 0
 (.loop
 (.seq (.seq (.ops [
 oM 11 5,
 oM 12 0,
 oO 13 (.len (.t 12)),
 oO 14 (.bin .lss (.t 11) (.t 13))])
 (.cond (.t 14)
 .skip
 (.exit 0)))
 (.seq (.block 1
 (.seq (.draw [
 oM 17 0,
 oM 18 5,
 oO 19 (.idxA 4 (.t 17) (.t 18)),
 oO 20 (.load 4 true (.t 19)),
 oM 21 1,
 oM 22 5,
 oO 23 (.idxA 4 (.t 21) (.t 22)),
 oO 24 (.load 4 true (.t 23)),
 oO 25 (.eqa [.i, .i, .i, .i] true (.t 20) (.t 24))] ⟨.no, [], .flat⟩)
 (.cond (.t 25)
 (.seq (.ops [
 oO 4 (.mv (.c (.bool false)))])
 .ret)
 .skip)))
 (.ops [
 oM 15 5,
 oO 16 (.bin .add (.t 15) (.c (.int .i64 1))),
 oM 5 16]))))))
 (.seq (.ops [
 oO 4 (.mv (.c (.bool true)))])
 .ret))))⟩
theorem K_witankeep_Nums : chkFun DK Pg Try.f63 A_witankeep_Nums = true := by kernel_rfl
theorem B_witankeep_Nums {args : List AV} {m : Mem} {K : AV → Mem → Prop} (h : vcFun DK Pg A_witankeep_Nums args m K) : ACall Pg F_witankeep_Nums args m K := call_body mixed Try.func63 (by kernel_rfl) K_witankeep_Nums h

noncomputable def A_witanref06_Points : AFun := ⟨1, 16, [.t 2],
 (.seq (.ops [
 oO 2 (.mv (.c (.bool false)))])
 (.seq (.seq (.ops [
 oO 3 (.mv (.c (.int .i64 0)))])
 (.block 0
 (.loop
 (.seq (.seq (.ops [
 oM 4 3,
 oM 5 0,
 oO 6 (.len (.t 5)),
 oO 7 (.bin .lss (.t 4) (.t 6))])
 (.cond (.t 7)
 .skip
 (.exit 0)))
 (.seq (.block 1
 (.seq (.ops [
 oM 10 0,
 oM 11 3,
 oO 12 (.idxA 9 (.t 10) (.t 11)),
 oO 13 (.load 9 true (.t 12)),
 oK 14 F_witanref01_Check [.t 13],
 oO 15 (.un .not (.t 14))])
 (.cond (.t 15)
 (.seq (.ops [
 oO 2 (.mv (.c (.bool false)))])
 .ret)
 .skip)))
 (.ops [
 oM 8 3,
 oO 9 (.bin .add (.t 8) (.c (.int .i64 1))),
 oM 3 9]))))))
 (.seq (.ops [
 oO 2 (.mv (.c (.bool true)))])
 .ret)))⟩
theorem K_witanref06_Points : chkFun DK Pg Try.f64 A_witanref06_Points = true := by kernel_rfl
theorem B_witanref06_Points {args : List AV} {m : Mem} {K : AV → Mem → Prop} (h : vcFun DK Pg A_witanref06_Points args m K) : ACall Pg F_witanref06_Points args m K := call_body mixed Try.func64 (by kernel_rfl) K_witanref06_Points h

noncomputable def A_witanlaw07_wakes : AFun := ⟨0, 45, [.t 0],
 (.seq (.ops [
 oO 0 (.mv (.c (.bool false)))])
 (.seq (.ops [
 oO 8 (.build [.int .u64 0, .int .u64 0, .int .u64 0, .int .u64 0] [(0, 1, .c (.int .u64 5))]),
 oO 9 (.build [.int .u64 0, .int .u64 0, .int .u64 0, .int .u64 0] [(0, 1, .c (.int .u64 3))]),
 oO 10 (.bsl 4 2 [.int .u64 0, .int .u64 0, .int .u64 0, .int .u64 0] [(0, 4, .t 8), (4, 4, .t 9)]),
 oK 11 F_feld_Commit [.t 10],
 oM 7 11,
 oO 12 (.ext (.t 7) 0),
 oO 13 (.ext (.t 7) 1),
 oM 1 12,
 oM 2 13])
 (.seq (.ops [
 oM 15 1,
 oO 16 (.build [.int .u64 0, .int .u64 0, .int .u64 0, .int .u64 0] [(0, 1, .c (.int .u64 2))]),
 oO 17 (.build [.int .u64 0, .int .u64 0, .int .u64 0, .int .u64 0] [(0, 1, .c (.int .u64 11))]),
 oK 18 F_feld_Fits [.t 15, .t 16, .t 17],
 oM 14 18,
 oO 19 (.ext (.t 14) 0),
 oO 20 (.ext (.t 14) 1),
 oM 3 19,
 oM 4 20])
 (.seq (.ops [
 oM 22 1,
 oO 23 (.build [.int .u64 0, .int .u64 0, .int .u64 0, .int .u64 0] [(0, 1, .c (.int .u64 2))]),
 oO 24 (.build [.int .u64 0, .int .u64 0, .int .u64 0, .int .u64 0] [(0, 1, .c (.int .u64 12))]),
 oK 25 F_feld_Fits [.t 22, .t 23, .t 24],
 oM 21 25,
 oO 26 (.ext (.t 21) 0),
 oO 27 (.ext (.t 21) 1),
 oM 5 26,
 oM 6 27])
 (.seq (.ops [
 oM 28 2,
 oO 29 (.bin .eql (.t 28) (.c (.int .i64 0))),
 oM 30 29,
 oG 31 (.mv (.t 4)) 30 true,
 oG 32 (.bin .eql (.t 31) (.c (.int .i64 0))) 30 true,
 oO 33 (.pick (.t 30) (.t 32) (.c (.bool false))),
 oM 34 33,
 oG 35 (.mv (.t 6)) 34 true,
 oG 36 (.bin .eql (.t 35) (.c (.int .i64 0))) 34 true,
 oO 37 (.pick (.t 34) (.t 36) (.c (.bool false))),
 oM 38 37,
 oG 39 (.mv (.t 3)) 38 true,
 oO 40 (.pick (.t 38) (.t 39) (.c (.bool false))),
 oM 41 40,
 oG 42 (.mv (.t 5)) 41 true,
 oG 43 (.un .not (.t 42)) 41 true,
 oO 44 (.pick (.t 41) (.t 43) (.c (.bool false))),
 oM 0 44])
 .ret)))))⟩
theorem K_witanlaw07_wakes : chkFun DK Pg Try.f65 A_witanlaw07_wakes = true := by kernel_rfl
theorem B_witanlaw07_wakes {args : List AV} {m : Mem} {K : AV → Mem → Prop} (h : vcFun DK Pg A_witanlaw07_wakes args m K) : ACall Pg F_witanlaw07_wakes args m K := call_body mixed Try.func65 (by kernel_rfl) K_witanlaw07_wakes h

noncomputable def A_witanref06_At : AFun := ⟨2, 25, [.cell 4 9 true],
 (.seq (.ops [
 oO 3 (.box 1 4 (.t 1)),
 oO 4 (.alloc 9 1 [.bool false, .int .u64 0, .int .u64 0, .int .u64 0, .int .u64 0, .int .u64 0, .int .u64 0, .int .u64 0, .int .u64 0])])
 (.seq (.ops [
 oK 7 F_witanref01_Inf [],
 oO 5 (.alloc 9 1 [.bool false, .int .u64 0, .int .u64 0, .int .u64 0, .int .u64 0, .int .u64 0, .int .u64 0, .int .u64 0, .int .u64 0]),
 ⟨none, .stA 9 1 9 (.t 5) (.t 7), none⟩])
 (.seq (.seq (.ops [
 oM 8 0,
 oO 9 (.len (.t 8)),
 oO 10 (.bin .sub (.t 9) (.c (.int .i64 1))),
 oM 6 10])
 (.block 0
 (.loop
 (.seq (.seq (.ops [
 oM 11 6,
 oO 12 (.bin .geq (.t 11) (.c (.int .i64 0)))])
 (.cond (.t 12)
 .skip
 (.exit 0)))
 (.seq (.block 1
 (.draw [
 oO 15 (.load 4 true (.t 3)),
 oK 16 F_witanref01_Red [.c (.int .i64 1), .t 15],
 oO 17 (.load 9 true (.t 5)),
 oK 18 F_witanref01_Times [.t 16, .t 17],
 oM 19 0,
 oM 20 6,
 oO 21 (.idxA 9 (.t 19) (.t 20)),
 oO 22 (.load 9 true (.t 21)),
 oK 23 F_witanref01_Sum [.t 18, .t 22],
 ⟨none, .stA 9 1 9 (.t 5) (.t 23), none⟩] ⟨.all, [], .look 0 (.look 2 (.look 4 (.look 5 (.look 6 (.look 7 (.run 1 true (.run 3 true (.run 8 false (.run 9 false .done)))))))))⟩))
 (.ops [
 oM 13 6,
 oO 14 (.bin .sub (.t 13) (.c (.int .i64 1))),
 oM 6 14]))))))
 (.seq (.ops [
 oO 24 (.load 9 true (.t 5)),
 ⟨none, .stA 9 1 9 (.t 4) (.t 24), none⟩])
 .ret))))⟩
theorem K_witanref06_At : chkFun DK Pg Try.f66 A_witanref06_At = true := by kernel_rfl
theorem B_witanref06_At {args : List AV} {m : Mem} {K : AV → Mem → Prop} (h : vcFun DK Pg A_witanref06_At args m K) : ACall Pg F_witanref06_At args m K := call_body mixed Try.func66 (by kernel_rfl) K_witanref06_At h

noncomputable def A_witanref06_Fits : AFun := ⟨3, 13, [.t 6],
 (.seq (.ops [
 oO 4 (.box 1 4 (.t 1)),
 oO 5 (.box 1 4 (.t 2)),
 oO 6 (.mv (.c (.bool false)))])
 (.seq (.draw [
 oO 7 (.load 4 true (.t 5)),
 oK 8 F_witanref01_Base [.t 7],
 oM 9 0,
 oO 10 (.load 4 true (.t 4)),
 oK 11 F_witanref06_At [.t 9, .t 10],
 oK 12 F_witanref06_same [.t 8, .t 11],
 oM 6 12] ⟨.all, [], .look 0 (.look 2 (.look 3 (.run 1 true (.run 4 false (.run 5 false (.look 6 .done))))))⟩)
 .ret))⟩
theorem K_witanref06_Fits : chkFun DK Pg Try.f67 A_witanref06_Fits = true := by kernel_rfl
theorem B_witanref06_Fits {args : List AV} {m : Mem} {K : AV → Mem → Prop} (h : vcFun DK Pg A_witanref06_Fits args m K) : ACall Pg F_witanref06_Fits args m K := call_body mixed Try.func67 (by kernel_rfl) K_witanref06_Fits h

noncomputable def A_poly_Eval : AFun := ⟨2, 23, [.cell 4 4 true],
 (.seq (.ops [
 oO 3 (.box 1 4 (.t 1)),
 oO 4 (.alloc 1 4 [.int .u64 0])])
 (.seq (.ops [
 oO 5 (.alloc 1 4 [.int .u64 0])])
 (.seq (.seq (.ops [
 oM 7 0,
 oO 8 (.len (.t 7)),
 oO 9 (.bin .sub (.t 8) (.c (.int .i64 1))),
 oM 6 9])
 (.block 0
 (.loop
 (.seq (.seq (.ops [
 oM 10 6,
 oO 11 (.bin .geq (.t 10) (.c (.int .i64 0)))])
 (.cond (.t 11)
 .skip
 (.exit 0)))
 (.seq (.block 1
 (.draw [
 oO 14 (.load 4 true (.t 5)),
 oO 15 (.load 4 true (.t 3)),
 oK 16 F_poly_mul [.t 14, .t 15],
 oM 17 0,
 oM 18 6,
 oO 19 (.idxA 4 (.t 17) (.t 18)),
 oO 20 (.load 4 true (.t 19)),
 oK 21 F_poly_add [.t 16, .t 20],
 ⟨none, .stA 1 4 4 (.t 5) (.t 21), none⟩] ⟨.all, [], .look 0 (.look 1 (.look 3 (.look 4 (.look 5 (.look 6 (.run 2 true (.run 7 false (.run 8 false .done))))))))⟩))
 (.ops [
 oM 12 6,
 oO 13 (.bin .sub (.t 12) (.c (.int .i64 1))),
 oM 6 13]))))))
 (.seq (.ops [
 oO 22 (.load 4 true (.t 5)),
 ⟨none, .stA 1 4 4 (.t 4) (.t 22), none⟩])
 .ret))))⟩
theorem K_poly_Eval : chkFun DK Pg Try.f68 A_poly_Eval = true := by kernel_rfl
theorem B_poly_Eval {args : List AV} {m : Mem} {K : AV → Mem → Prop} (h : vcFun DK Pg A_poly_Eval args m K) : ACall Pg F_poly_Eval args m K := call_body mixed Try.func68 (by kernel_rfl) K_poly_Eval h

noncomputable def A_field_Red : AFun := ⟨2, 19, [.cell 4 4 true],
 (.seq (.ops [
 oO 3 (.box 1 4 (.t 1)),
 oO 4 (.alloc 1 4 [.int .u64 0])])
 (.seq (.ops [
 oM 8 0,
 oK 9 F_field_less [.t 8],
 oM 7 9,
 oO 10 (.ext (.t 7) 0),
 oO 11 (.ext (.t 7) 1),
 oO 5 (.alloc 1 4 [.int .u64 0]),
 ⟨none, .stA 1 4 4 (.t 5) (.t 10), none⟩,
 oM 6 11])
 (.seq (.seq (.ops [
 oM 12 6,
 oO 13 (.un .not (.t 12))])
 (.cond (.t 13)
 (.seq (.ops [
 oO 14 (.build [.int .u64 0, .int .u64 0, .int .u64 0, .int .u64 0] []),
 ⟨none, .stA 1 4 4 (.t 4) (.t 14), none⟩])
 .ret)
 .skip))
 (.seq (.ops [
 oO 15 (.load 4 true (.t 3)),
 oO 16 (.build [.int .u64 0, .int .u64 0, .int .u64 0, .int .u64 0] []),
 oO 17 (.load 4 true (.t 5)),
 oK 18 F_field_fold [.t 15, .t 16, .t 17],
 ⟨none, .stA 1 4 4 (.t 4) (.t 18), none⟩])
 .ret))))⟩
theorem K_field_Red : chkFun DK Pg Try.f69 A_field_Red = true := by kernel_rfl
theorem B_field_Red {args : List AV} {m : Mem} {K : AV → Mem → Prop} (h : vcFun DK Pg A_field_Red args m K) : ACall Pg F_field_Red args m K := call_body mixed Try.func69 (by kernel_rfl) K_field_Red h

noncomputable def A_limb_Bytes : AFun := ⟨1, 24, [.cell 2 32 true],
 (.seq (.ops [
 oO 1 (.box 1 4 (.t 0)),
 oO 2 (.alloc 1 32 [.int .u8 0])])
 (.seq (.ops [
 oO 3 (.alloc 1 32 [.int .u8 0])])
 (.seq (.seq (.ops [
 oO 6 (.mv (.c (.int .i64 0)))])
 (.block 0
 (.loop
 (.seq (.ops [
 oO 7 (.bin .lss (.t 6) (.c (.int .i64 32)))])
 (.seq (.cond (.t 7)
 .skip
 (.exit 0))
 (.seq (.block 1
 (.seq (.ops [
 oM 8 6,
 oM 4 8])
 (.seq (.ops [
 oM 9 4,
 oO 10 (.binF .sub (.c (.int .i64 31)) (.t 9)),
 oM 5 10])
 (.ops [
 oM 11 4,
 oM 12 5,
 oO 13 (.bin .quo (.t 12) (.c (.int .i64 8))),
 oO 14 (.idxP 4 1 (.t 1) (.t 13)),
 oO 15 (.load 1 false (.t 14)),
 oM 16 5,
 oO 17 (.bin .rem (.t 16) (.c (.int .i64 8))),
 oO 18 (.binF .mul (.c (.int .i64 8)) (.t 17)),
 oO 19 (.bin .shr (.t 15) (.t 18)),
 oO 20 (.conv .u8 (.t 19)),
 oO 21 (.idxP 32 1 (.t 3) (.t 11)),
 ⟨none, .stA 1 32 1 (.t 21) (.t 20), none⟩]))))
 (.ops [
 oO 22 (.binF .add (.t 6) (.c (.int .i64 1))),
 oM 6 22])))))))
 (.seq (.ops [
 oO 23 (.load 32 true (.t 3)),
 ⟨none, .stA 1 32 32 (.t 2) (.t 23), none⟩])
 .ret))))⟩
theorem K_limb_Bytes : chkFun DK Pg Try.f70 A_limb_Bytes = true := by kernel_rfl
theorem B_limb_Bytes {args : List AV} {m : Mem} {K : AV → Mem → Prop} (h : vcFun DK Pg A_limb_Bytes args m K) : ACall Pg F_limb_Bytes args m K := call_body mixed Try.func70 (by kernel_rfl) K_limb_Bytes h

noncomputable def A_curve_Read : AFun := ⟨1, 67, [.cell 2 9 true, .t 3],
 (.seq (.ops [
 oO 2 (.alloc 9 1 [.bool false, .int .u64 0, .int .u64 0, .int .u64 0, .int .u64 0, .int .u64 0, .int .u64 0, .int .u64 0, .int .u64 0]),
 oO 3 (.mv (.c (.int .i64 0)))])
 (.seq (.block 0
 (.seq (.ops [
 oM 9 0,
 oO 10 (.len (.t 9)),
 oO 11 (.bin .eql (.t 10) (.c (.int .i64 1))),
 oM 12 11,
 oG 13 (.mv (.t 0)) 12 true,
 oG 14 (.idxA 1 (.t 13) (.c (.int .i64 0))) 12 true,
 oG 15 (.load 1 false (.t 14)) 12 true,
 oG 16 (.bin .eql (.t 15) (.c (.int .u8 0))) 12 true,
 oO 17 (.pick (.t 12) (.t 16) (.c (.bool false))),
 oM 8 17])
 (.cond (.t 8)
 (.seq (.ops [
 oO 18 (.build [.bool false, .int .u64 0, .int .u64 0, .int .u64 0, .int .u64 0, .int .u64 0, .int .u64 0, .int .u64 0, .int .u64 0] [(0, 1, .c (.bool true))]),
 ⟨none, .stA 9 1 9 (.t 2) (.t 18), none⟩,
 oO 3 (.mv (.c (.int .i64 0)))])
 .ret)
 (.seq (.ops [
 oM 20 0,
 oO 21 (.len (.t 20)),
 oO 22 (.bin .neq (.t 21) (.c (.int .i64 33))),
 oM 23 22,
 oG 24 (.mv (.t 0)) 23 false,
 oG 25 (.idxA 1 (.t 24) (.c (.int .i64 0))) 23 false,
 oG 26 (.load 1 false (.t 25)) 23 false,
 oG 27 (.bin .neq (.t 26) (.c (.int .u8 2))) 23 false,
 oG 28 (.mv (.t 27)) 23 false,
 oG 29 (.mv (.t 0)) 28 true,
 oG 30 (.idxA 1 (.t 29) (.c (.int .i64 0))) 28 true,
 oG 31 (.load 1 false (.t 30)) 28 true,
 oG 32 (.bin .neq (.t 31) (.c (.int .u8 3))) 28 true,
 oG 33 (.pick (.t 28) (.t 32) (.c (.bool false))) 23 false,
 oO 34 (.pick (.t 23) (.c (.bool true)) (.t 33)),
 oM 19 34])
 (.cond (.t 19)
 (.seq (.ops [
 oO 35 (.build [.bool false, .int .u64 0, .int .u64 0, .int .u64 0, .int .u64 0, .int .u64 0, .int .u64 0, .int .u64 0, .int .u64 0] []),
 ⟨none, .stA 9 1 9 (.t 2) (.t 35), none⟩,
 oO 3 (.mv (.c (.int .i64 7)))])
 .ret)
 .skip)))))
 (.seq (.ops [
 oM 37 0,
 oO 38 (.slice 1 (.t 37) (some (.c (.int .i64 1))) none none),
 oO 39 (.arrp 32 1 (.t 38)),
 oO 40 (.load 32 true (.t 39)),
 oK 41 F_field_Read [.c (.int .i64 0), .t 40],
 oM 36 41,
 oO 42 (.ext (.t 36) 0),
 oO 43 (.ext (.t 36) 1),
 oO 4 (.alloc 1 4 [.int .u64 0]),
 ⟨none, .stA 1 4 4 (.t 4) (.t 42), none⟩,
 oM 5 43])
 (.seq (.seq (.ops [
 oM 44 5,
 oO 45 (.bin .neq (.t 44) (.c (.int .i64 0)))])
 (.cond (.t 45)
 (.seq (.ops [
 oO 46 (.build [.bool false, .int .u64 0, .int .u64 0, .int .u64 0, .int .u64 0, .int .u64 0, .int .u64 0, .int .u64 0, .int .u64 0] []),
 oM 47 5,
 ⟨none, .stA 9 1 9 (.t 2) (.t 46), none⟩,
 oM 3 47])
 .ret)
 .skip))
 (.seq (.ops [
 oO 49 (.load 4 true (.t 4)),
 oK 50 F_curve_right [.t 49],
 oK 51 F_field_Root [.t 50],
 oM 48 51,
 oO 52 (.ext (.t 48) 0),
 oO 53 (.ext (.t 48) 1),
 oO 6 (.alloc 1 4 [.int .u64 0]),
 ⟨none, .stA 1 4 4 (.t 6) (.t 52), none⟩,
 oM 7 53])
 (.seq (.seq (.ops [
 oM 54 7,
 oO 55 (.un .not (.t 54))])
 (.cond (.t 55)
 (.seq (.ops [
 oO 56 (.build [.bool false, .int .u64 0, .int .u64 0, .int .u64 0, .int .u64 0, .int .u64 0, .int .u64 0, .int .u64 0, .int .u64 0] []),
 ⟨none, .stA 9 1 9 (.t 2) (.t 56), none⟩,
 oO 3 (.mv (.c (.int .i64 3)))])
 .ret)
 .skip))
 (.seq (.seq (.ops [
 oM 57 0,
 oO 58 (.idxA 1 (.t 57) (.c (.int .i64 0))),
 oO 59 (.load 1 false (.t 58)),
 oO 60 (.bin .eql (.t 59) (.c (.int .u8 3)))])
 (.cond (.t 60)
 (.ops [
 oO 61 (.build [.int .u64 0, .int .u64 0, .int .u64 0, .int .u64 0] []),
 oO 62 (.load 4 true (.t 6)),
 oK 63 F_curve_sub [.t 61, .t 62],
 ⟨none, .stA 1 4 4 (.t 6) (.t 63), none⟩])
 .skip))
 (.seq (.ops [
 oO 64 (.load 4 true (.t 4)),
 oO 65 (.load 4 true (.t 6)),
 oO 66 (.build [.bool false, .int .u64 0, .int .u64 0, .int .u64 0, .int .u64 0, .int .u64 0, .int .u64 0, .int .u64 0, .int .u64 0] [(1, 4, .t 64), (5, 4, .t 65)]),
 ⟨none, .stA 9 1 9 (.t 2) (.t 66), none⟩,
 oO 3 (.mv (.c (.int .i64 0)))])
 .ret))))))))⟩
theorem K_curve_Read : chkFun DK Pg Try.f71 A_curve_Read = true := by kernel_rfl
theorem B_curve_Read {args : List AV} {m : Mem} {K : AV → Mem → Prop} (h : vcFun DK Pg A_curve_Read args m K) : ACall Pg F_curve_Read args m K := call_body mixed Try.func71 (by kernel_rfl) K_curve_Read h

noncomputable def A_limb_Cmp : AFun := ⟨2, 26, [.t 4],
 (.seq (.ops [
 oO 2 (.box 1 4 (.t 0)),
 oO 3 (.box 1 4 (.t 1)),
 oO 4 (.mv (.c (.int .i64 0)))])
 (.seq (.seq (.ops [
 oO 5 (.mv (.c (.int .i64 3)))])
 (.block 0
 (.loop
 (.seq (.seq (.ops [
 oM 6 5,
 oO 7 (.bin .geq (.t 6) (.c (.int .i64 0)))])
 (.cond (.t 7)
 .skip
 (.exit 0)))
 (.seq (.block 1
 (.block 2
 (.seq (.draw [
 oM 11 5,
 oO 12 (.idxP 4 1 (.t 2) (.t 11)),
 oO 13 (.load 1 false (.t 12)),
 oM 14 5,
 oO 15 (.idxP 4 1 (.t 3) (.t 14)),
 oO 16 (.load 1 false (.t 15)),
 oO 17 (.bin .lss (.t 13) (.t 16)),
 oM 10 17] ⟨.no, [], .flat⟩)
 (.cond (.t 10)
 (.seq (.ops [
 oO 4 (.mv (.c (.int .i64 (-1))))])
 .ret)
 (.seq (.draw [
 oM 19 5,
 oO 20 (.idxP 4 1 (.t 2) (.t 19)),
 oO 21 (.load 1 false (.t 20)),
 oM 22 5,
 oO 23 (.idxP 4 1 (.t 3) (.t 22)),
 oO 24 (.load 1 false (.t 23)),
 oO 25 (.bin .gtr (.t 21) (.t 24)),
 oM 18 25] ⟨.no, [], .flat⟩)
 (.cond (.t 18)
 (.seq (.ops [
 oO 4 (.mv (.c (.int .i64 1)))])
 .ret)
 .skip))))))
 (.ops [
 oM 8 5,
 oO 9 (.bin .sub (.t 8) (.c (.int .i64 1))),
 oM 5 9]))))))
 (.seq (.ops [
 oO 4 (.mv (.c (.int .i64 0)))])
 .ret)))⟩
theorem K_limb_Cmp : chkFun DK Pg Try.f72 A_limb_Cmp = true := by kernel_rfl
theorem B_limb_Cmp {args : List AV} {m : Mem} {K : AV → Mem → Prop} (h : vcFun DK Pg A_limb_Cmp args m K) : ACall Pg F_limb_Cmp args m K := call_body mixed Try.func72 (by kernel_rfl) K_limb_Cmp h

noncomputable def A_field_Root : AFun := ⟨1, 54, [.cell 2 4 true, .t 3],
 (.seq (.ops [
 oO 1 (.box 1 4 (.t 0)),
 oO 2 (.alloc 1 4 [.int .u64 0]),
 oO 3 (.mv (.c (.bool false)))])
 (.seq (.ops [
 oK 9 F_field_Prime [.c (.int .i64 0)],
 oO 10 (.build [.int .u64 0, .int .u64 0, .int .u64 0, .int .u64 0] [(0, 1, .c (.int .u64 1))]),
 oK 11 F_limb_Add [.t 9, .t 10],
 oM 8 11,
 oO 12 (.ext (.t 8) 0),
 oO 13 (.ext (.t 8) 1),
 oO 4 (.alloc 1 4 [.int .u64 0]),
 ⟨none, .stA 1 4 4 (.t 4) (.t 12), none⟩,
 oM 5 13])
 (.seq (.seq (.ops [
 oO 14 (.mv (.c (.int .i64 0)))])
 (.block 0
 (.loop
 (.seq (.ops [
 oO 15 (.bin .lss (.t 14) (.c (.int .i64 4)))])
 (.seq (.cond (.t 15)
 .skip
 (.exit 0))
 (.seq (.block 1
 (.seq (.ops [
 oM 16 14,
 oM 6 16])
 (.seq (.ops [
 oM 17 6,
 oO 18 (.idxP 4 1 (.t 4) (.t 17)),
 oO 19 (.load 1 false (.t 18)),
 oO 20 (.bin .shr (.t 19) (.c (.int .u64 2))),
 oO 21 (.idxP 4 1 (.t 4) (.t 17)),
 ⟨none, .stA 1 4 1 (.t 21) (.t 20), none⟩])
 (.seq (.ops [
 oM 22 6,
 oO 23 (.binF .add (.t 22) (.c (.int .i64 1))),
 oO 24 (.bin .lss (.t 23) (.c (.int .i64 4)))])
 (.cond (.t 24)
 (.draw [
 oM 25 6,
 oO 26 (.idxP 4 1 (.t 4) (.t 25)),
 oO 27 (.load 1 false (.t 26)),
 oM 28 6,
 oO 29 (.binF .add (.t 28) (.c (.int .i64 1))),
 oO 30 (.idxP 4 1 (.t 4) (.t 29)),
 oO 31 (.load 1 false (.t 30)),
 oO 32 (.bin .shl (.t 31) (.c (.int .u64 62))),
 oO 33 (.bin .or (.t 27) (.t 32)),
 oO 34 (.idxP 4 1 (.t 4) (.t 25)),
 ⟨none, .stA 1 4 1 (.t 34) (.t 33), none⟩] ⟨.all, [], .look 0 (.look 1 (.look 2 (.look 3 (.look 4 (.look 5 (.look 6 (.look 7 (.look 8 (.look 9 (.run 10 false .done))))))))))⟩)
 .skip)))))
 (.ops [
 oO 35 (.binF .add (.t 14) (.c (.int .i64 1))),
 oM 14 35])))))))
 (.seq (.ops [
 oO 36 (.load 4 true (.t 1)),
 oO 37 (.load 4 true (.t 4)),
 oK 38 F_field_Pow [.c (.int .i64 0), .t 36, .t 37],
 oO 7 (.alloc 1 4 [.int .u64 0]),
 ⟨none, .stA 1 4 4 (.t 7) (.t 38), none⟩])
 (.seq (.seq (.draw [
 oO 39 (.load 4 true (.t 7)),
 oO 40 (.load 4 true (.t 7)),
 oK 41 F_field_Mul [.c (.int .i64 0), .t 39, .t 40],
 oO 42 (.load 4 true (.t 1)),
 oK 43 F_field_Red [.c (.int .i64 0), .t 42],
 oO 44 (.eqa [.i, .i, .i, .i] true (.t 41) (.t 43))] ⟨.all, [], .look 0 (.look 1 (.look 3 (.run 2 true (.run 4 true (.look 5 .done)))))⟩)
 (.cond (.t 44)
 (.seq (.ops [
 oO 45 (.build [.int .u64 0, .int .u64 0, .int .u64 0, .int .u64 0] []),
 ⟨none, .stA 1 4 4 (.t 2) (.t 45), none⟩,
 oO 3 (.mv (.c (.bool false)))])
 .ret)
 .skip))
 (.seq (.seq (.ops [
 oO 46 (.idxP 4 1 (.t 7) (.c (.int .i64 0))),
 oO 47 (.load 1 false (.t 46)),
 oO 48 (.bin .and (.t 47) (.c (.int .u64 1))),
 oO 49 (.bin .eql (.t 48) (.c (.int .u64 1)))])
 (.cond (.t 49)
 (.ops [
 oO 50 (.build [.int .u64 0, .int .u64 0, .int .u64 0, .int .u64 0] []),
 oO 51 (.load 4 true (.t 7)),
 oK 52 F_field_Sub [.c (.int .i64 0), .t 50, .t 51],
 ⟨none, .stA 1 4 4 (.t 7) (.t 52), none⟩])
 .skip))
 (.seq (.ops [
 oO 53 (.load 4 true (.t 7)),
 ⟨none, .stA 1 4 4 (.t 2) (.t 53), none⟩,
 oO 3 (.mv (.c (.bool true)))])
 .ret)))))))⟩
theorem K_field_Root : chkFun DK Pg Try.f73 A_field_Root = true := by kernel_rfl
theorem B_field_Root {args : List AV} {m : Mem} {K : AV → Mem → Prop} (h : vcFun DK Pg A_field_Root args m K) : ACall Pg F_field_Root args m K := call_body mixed Try.func73 (by kernel_rfl) K_field_Root h

noncomputable def A_feld_Sum : AFun := ⟨1, 70, [.t 2, .t 3],
 (.seq (.ops [
 oO 2 (.mv (.c (.nils))),
 oO 3 (.mv (.c (.int .i64 0)))])
 (.seq (.seq (.ops [
 oM 11 0,
 oO 12 (.len (.t 11)),
 oO 13 (.bin .gtr (.t 12) (.c (.int .i64 8)))])
 (.cond (.t 13)
 (.seq (.ops [
 oO 2 (.mv (.c (.nils))),
 oO 3 (.mv (.c (.int .i64 4)))])
 .ret)
 .skip))
 (.seq (.seq (.ops [
 oM 14 0,
 oO 15 (.len (.t 14)),
 oO 16 (.mv (.c (.int .i64 0)))])
 (.block 0
 (.loop
 (.seq (.ops [
 oO 17 (.bin .lss (.t 16) (.t 15))])
 (.seq (.cond (.t 17)
 .skip
 (.exit 0))
 (.seq (.block 1
 (.seq (.ops [
 oO 18 (.idxA 1 (.t 14) (.t 16)),
 oO 19 (.load 1 false (.t 18)),
 oM 5 19])
 (.seq (.ops [
 oM 20 5,
 oO 21 (.len (.t 20)),
 oM 22 0,
 oO 23 (.idxA 1 (.t 22) (.c (.int .i64 0))),
 oO 24 (.load 1 false (.t 23)),
 oO 25 (.len (.t 24)),
 oO 26 (.bin .neq (.t 21) (.t 25)),
 oM 27 26,
 oG 28 (.mv (.t 5)) 27 false,
 oG 29 (.len (.t 28)) 27 false,
 oG 30 (.bin .gtr (.t 29) (.c (.int .i64 64))) 27 false,
 oO 31 (.pick (.t 27) (.c (.bool true)) (.t 30))])
 (.cond (.t 31)
 (.seq (.ops [
 oO 2 (.mv (.c (.nils))),
 oO 3 (.mv (.c (.int .i64 4)))])
 .ret)
 .skip))))
 (.ops [
 oO 32 (.bin .add (.t 16) (.c (.int .i64 1))),
 oM 16 32])))))))
 (.seq (.ops [
 oO 6 (.mv (.c (.nils)))])
 (.seq (.seq (.ops [
 oM 33 0,
 oO 34 (.len (.t 33)),
 oO 35 (.mv (.c (.int .i64 0)))])
 (.block 2
 (.loop
 (.seq (.ops [
 oO 36 (.bin .lss (.t 35) (.t 34))])
 (.seq (.cond (.t 36)
 .skip
 (.exit 2))
 (.seq (.block 3
 (.seq (.ops [
 oM 37 35,
 oO 38 (.idxA 1 (.t 33) (.t 35)),
 oO 39 (.load 1 false (.t 38)),
 oM 7 37,
 oM 8 39])
 (.seq (.seq (.ops [
 oM 40 8,
 oK 41 F_feld_points [.t 40],
 oO 42 (.un .not (.t 41))])
 (.cond (.t 42)
 (.seq (.ops [
 oO 2 (.mv (.c (.nils))),
 oO 3 (.mv (.c (.int .i64 3)))])
 .ret)
 .skip))
 (.seq (.seq (.ops [
 oM 43 7,
 oO 44 (.bin .eql (.t 43) (.c (.int .i64 0)))])
 (.cond (.t 44)
 (.seq (.ops [
 oM 45 6,
 oM 46 8,
 oO 47 (.app 9 72 (.t 45) (.t 46)),
 oM 6 47])
 (.exit 3))
 .skip))
 (.seq (.ops [
 oM 48 8,
 oO 49 (.len (.t 48)),
 oO 50 (.mv (.c (.int .i64 0)))])
 (.block 4
 (.loop
 (.seq (.ops [
 oO 51 (.bin .lss (.t 50) (.t 49))])
 (.seq (.cond (.t 51)
 .skip
 (.exit 4))
 (.seq (.block 5
 (.seq (.ops [
 oM 52 50,
 oO 53 (.idxA 9 (.t 48) (.t 50)),
 oO 54 (.load 9 true (.t 53)),
 oO 10 (.alloc 9 1 [.bool false, .int .u64 0, .int .u64 0, .int .u64 0, .int .u64 0, .int .u64 0, .int .u64 0, .int .u64 0, .int .u64 0]),
 oM 9 52,
 ⟨none, .stA 9 1 9 (.t 10) (.t 54), none⟩])
 (.draw [
 oM 56 6,
 oM 57 9,
 oM 58 6,
 oM 59 9,
 oO 60 (.idxA 9 (.t 58) (.t 59)),
 oO 61 (.load 9 true (.t 60)),
 oO 62 (.load 9 true (.t 10)),
 oK 63 F_curve_Add [.t 61, .t 62],
 oM 55 63,
 oO 64 (.ext (.t 55) 0),
 oO 65 (.ext (.t 55) 1),
 oO 66 (.idxA 9 (.t 56) (.t 57)),
 oS 9 66 64] ⟨.all, [], .look 0 (.look 1 (.look 2 (.look 3 (.look 4 (.look 5 (.look 6 (.run 7 true (.look 8 (.look 9 (.look 10 (.look 11 (.run 12 false .done))))))))))))⟩)))
 (.ops [
 oO 67 (.bin .add (.t 50) (.c (.int .i64 1))),
 oM 50 67])))))))))))
 (.ops [
 oO 68 (.bin .add (.t 35) (.c (.int .i64 1))),
 oM 35 68])))))))
 (.seq (.ops [
 oM 69 6,
 oM 2 69,
 oO 3 (.mv (.c (.int .i64 0)))])
 .ret))))))⟩
theorem K_feld_Sum : chkFun DK Pg Try.f74 A_feld_Sum = true := by kernel_rfl
theorem B_feld_Sum {args : List AV} {m : Mem} {K : AV → Mem → Prop} (h : vcFun DK Pg A_feld_Sum args m K) : ACall Pg F_feld_Sum args m K := call_body mixed Try.func74 (by kernel_rfl) K_feld_Sum h

noncomputable def A_witanref01_PointBytes : AFun := ⟨1, 21, [.t 2],
 (.seq (.ops [
 oO 1 (.box 9 1 (.t 0)),
 oO 2 (.mv (.c (.nils)))])
 (.seq (.seq (.ops [
 oO 5 (.fldA 0 (.t 1)),
 oO 6 (.load 1 false (.t 5))])
 (.cond (.t 6)
 (.seq (.ops [
 oO 7 (.bsl 1 1 [.int .u8 0] [(0, 1, .c (.int .u8 0))]),
 oM 2 7])
 .ret)
 .skip))
 (.seq (.ops [
 oO 8 (.fldA 1 (.t 1)),
 oO 9 (.load 4 true (.t 8)),
 oK 10 F_witanref01_Bytes [.t 9],
 oO 3 (.alloc 1 32 [.int .u8 0]),
 oS 32 3 10])
 (.seq (.ops [
 oO 11 (.fldA 5 (.t 1)),
 oO 12 (.idxP 4 1 (.t 11) (.c (.int .i64 0))),
 oO 13 (.load 1 false (.t 12)),
 oO 14 (.bin .and (.t 13) (.c (.int .u64 1))),
 oO 15 (.conv .u8 (.t 14)),
 oO 16 (.bin .add (.c (.int .u8 2)) (.t 15)),
 oO 17 (.bsl 1 1 [.int .u8 0] [(0, 1, .t 16)]),
 oM 4 17])
 (.seq (.ops [
 oM 18 4,
 oO 19 (.slarr 32 1 (.t 3) none none none),
 oO 20 (.app 1 1 (.t 18) (.t 19)),
 oM 2 20])
 .ret)))))⟩
theorem K_witanref01_PointBytes : chkFun DK Pg Try.f75 A_witanref01_PointBytes = true := by kernel_rfl
theorem B_witanref01_PointBytes {args : List AV} {m : Mem} {K : AV → Mem → Prop} (h : vcFun DK Pg A_witanref01_PointBytes args m K) : ACall Pg F_witanref01_PointBytes args m K := call_body mixed Try.func75 (by kernel_rfl) K_witanref01_PointBytes h

noncomputable def A_witanref01_ReadPoint : AFun := ⟨1, 69, [.cell 2 9 true, .t 3],
 (.seq (.ops [
 oO 2 (.alloc 9 1 [.bool false, .int .u64 0, .int .u64 0, .int .u64 0, .int .u64 0, .int .u64 0, .int .u64 0, .int .u64 0, .int .u64 0]),
 oO 3 (.mv (.c (.int .i64 0)))])
 (.seq (.seq (.ops [
 oM 8 0,
 oO 9 (.len (.t 8)),
 oO 10 (.bin .eql (.t 9) (.c (.int .i64 1))),
 oM 11 10,
 oG 12 (.mv (.t 0)) 11 true,
 oG 13 (.idxA 1 (.t 12) (.c (.int .i64 0))) 11 true,
 oG 14 (.load 1 false (.t 13)) 11 true,
 oG 15 (.bin .eql (.t 14) (.c (.int .u8 0))) 11 true,
 oO 16 (.pick (.t 11) (.t 15) (.c (.bool false)))])
 (.cond (.t 16)
 (.seq (.ops [
 oK 17 F_witanref01_Inf [],
 ⟨none, .stA 9 1 9 (.t 2) (.t 17), none⟩,
 oO 3 (.mv (.c (.int .i64 0)))])
 .ret)
 .skip))
 (.seq (.seq (.ops [
 oM 18 0,
 oO 19 (.len (.t 18)),
 oO 20 (.bin .neq (.t 19) (.c (.int .i64 33))),
 oM 21 20,
 oG 22 (.mv (.t 0)) 21 false,
 oG 23 (.idxA 1 (.t 22) (.c (.int .i64 0))) 21 false,
 oG 24 (.load 1 false (.t 23)) 21 false,
 oG 25 (.bin .neq (.t 24) (.c (.int .u8 2))) 21 false,
 oG 26 (.mv (.t 25)) 21 false,
 oG 27 (.mv (.t 0)) 26 true,
 oG 28 (.idxA 1 (.t 27) (.c (.int .i64 0))) 26 true,
 oG 29 (.load 1 false (.t 28)) 26 true,
 oG 30 (.bin .neq (.t 29) (.c (.int .u8 3))) 26 true,
 oG 31 (.pick (.t 26) (.t 30) (.c (.bool false))) 21 false,
 oO 32 (.pick (.t 21) (.c (.bool true)) (.t 31))])
 (.cond (.t 32)
 (.seq (.ops [
 oO 33 (.build [.bool false, .int .u64 0, .int .u64 0, .int .u64 0, .int .u64 0, .int .u64 0, .int .u64 0, .int .u64 0, .int .u64 0] []),
 ⟨none, .stA 9 1 9 (.t 2) (.t 33), none⟩,
 oO 3 (.mv (.c (.int .i64 7)))])
 .ret)
 .skip))
 (.seq (.ops [
 oO 4 (.alloc 1 32 [.int .u8 0])])
 (.seq (.draw [
 oO 34 (.slarr 32 1 (.t 4) none none none),
 oM 35 0,
 oO 36 (.slice 1 (.t 35) (some (.c (.int .i64 1))) none none),
 oO 37 (.copy 1 (.t 34) (.t 36))] ⟨.all, [], .look 0 (.look 1 (.look 2 (.run 3 false .done)))⟩)
 (.seq (.ops [
 oO 38 (.load 32 true (.t 4)),
 oK 39 F_witanref01_Of [.t 38],
 oO 5 (.alloc 1 4 [.int .u64 0]),
 ⟨none, .stA 1 4 4 (.t 5) (.t 39), none⟩])
 (.seq (.seq (.draw [
 oO 40 (.load 4 true (.t 5)),
 oK 41 F_witanref01_Prime [.c (.int .i64 0)],
 oK 42 F_witanref01_Cmp [.t 40, .t 41],
 oO 43 (.bin .geq (.t 42) (.c (.int .i64 0)))] ⟨.all, [], .look 0 (.run 1 true (.run 2 true (.look 3 .done)))⟩)
 (.cond (.t 43)
 (.seq (.ops [
 oO 44 (.build [.bool false, .int .u64 0, .int .u64 0, .int .u64 0, .int .u64 0, .int .u64 0, .int .u64 0, .int .u64 0, .int .u64 0] []),
 ⟨none, .stA 9 1 9 (.t 2) (.t 44), none⟩,
 oO 3 (.mv (.c (.int .i64 2)))])
 .ret)
 .skip))
 (.seq (.draw [
 oO 46 (.load 4 true (.t 5)),
 oO 47 (.load 4 true (.t 5)),
 oK 48 F_witanref01_mul [.t 46, .t 47],
 oO 49 (.load 4 true (.t 5)),
 oK 50 F_witanref01_mul [.t 48, .t 49],
 oO 51 (.build [.int .u64 0, .int .u64 0, .int .u64 0, .int .u64 0] [(0, 1, .c (.int .u64 7))]),
 oK 52 F_witanref01_add [.t 50, .t 51],
 oK 53 F_witanref01_Root [.t 52],
 oM 45 53,
 oO 54 (.ext (.t 45) 0),
 oO 55 (.ext (.t 45) 1),
 oO 6 (.alloc 1 4 [.int .u64 0]),
 oS 4 6 54,
 oM 7 55] ⟨.all, [(11, some 12)], .look 0 (.look 1 (.look 3 (.look 5 (.run 2 true (.run 4 true (.run 6 true (.run 7 true (.look 8 (.look 9 (.pre 11 12 (.look 10 (.fill (.look 13 .done)))))))))))))⟩)
 (.seq (.seq (.ops [
 oM 56 7,
 oO 57 (.un .not (.t 56))])
 (.cond (.t 57)
 (.seq (.ops [
 oO 58 (.build [.bool false, .int .u64 0, .int .u64 0, .int .u64 0, .int .u64 0, .int .u64 0, .int .u64 0, .int .u64 0, .int .u64 0] []),
 ⟨none, .stA 9 1 9 (.t 2) (.t 58), none⟩,
 oO 3 (.mv (.c (.int .i64 3)))])
 .ret)
 .skip))
 (.seq (.seq (.ops [
 oM 59 0,
 oO 60 (.idxA 1 (.t 59) (.c (.int .i64 0))),
 oO 61 (.load 1 false (.t 60)),
 oO 62 (.bin .eql (.t 61) (.c (.int .u8 3)))])
 (.cond (.t 62)
 (.ops [
 oO 63 (.build [.int .u64 0, .int .u64 0, .int .u64 0, .int .u64 0] []),
 oO 64 (.load 4 true (.t 6)),
 oK 65 F_witanref01_sub [.t 63, .t 64],
 ⟨none, .stA 1 4 4 (.t 6) (.t 65), none⟩])
 .skip))
 (.seq (.ops [
 oO 66 (.load 4 true (.t 5)),
 oO 67 (.load 4 true (.t 6)),
 oO 68 (.build [.bool false, .int .u64 0, .int .u64 0, .int .u64 0, .int .u64 0, .int .u64 0, .int .u64 0, .int .u64 0, .int .u64 0] [(1, 4, .t 66), (5, 4, .t 67)]),
 ⟨none, .stA 9 1 9 (.t 2) (.t 68), none⟩,
 oO 3 (.mv (.c (.int .i64 0)))])
 .ret)))))))))))⟩
theorem K_witanref01_ReadPoint : chkFun DK Pg Try.f76 A_witanref01_ReadPoint = true := by kernel_rfl
theorem B_witanref01_ReadPoint {args : List AV} {m : Mem} {K : AV → Mem → Prop} (h : vcFun DK Pg A_witanref01_ReadPoint args m K) : ACall Pg F_witanref01_ReadPoint args m K := call_body mixed Try.func76 (by kernel_rfl) K_witanref01_ReadPoint h

noncomputable def A_Pblock_reader_num : AFun := ⟨2, 38, [.t 4],
 (.seq (.ops [
 oO 4 (.mv (.c (.int .i64 0)))])
 (.seq (.draw [
 oM 9 0,
 oO 10 (.nck (.t 9)),
 oO 11 (.fldA 0 (.t 10)),
 oO 12 (.load 1 false (.t 11)),
 oM 13 0,
 oO 14 (.nck (.t 13)),
 oO 15 (.fldA 1 (.t 14)),
 oO 16 (.load 1 false (.t 15)),
 oM 17 1,
 oK 18 F_bin_Get [.t 12, .t 16, .t 17],
 oM 8 18,
 oO 19 (.ext (.t 8) 0),
 oO 20 (.ext (.t 8) 1),
 oO 21 (.ext (.t 8) 2),
 oM 5 19,
 oM 6 20,
 oM 7 21] ⟨.all, [], .look 0 (.look 1 (.look 2 (.look 3 (.look 4 (.look 5 (.look 6 (.look 7 (.look 8 (.run 9 false (.look 10 (.look 11 (.look 12 (.look 13 (.look 14 (.look 15 (.look 16 .done))))))))))))))))⟩)
 (.seq (.seq (.ops [
 oM 22 0,
 oO 23 (.nck (.t 22)),
 oO 24 (.fldA 2 (.t 23)),
 oO 25 (.load 1 false (.t 24)),
 oM 26 25,
 oG 27 (.mv (.t 7)) 26 false,
 oG 28 (.bin .neq (.t 27) (.c (.int .i64 0))) 26 false,
 oO 29 (.pick (.t 26) (.c (.bool true)) (.t 28))])
 (.cond (.t 29)
 (.seq (.ops [
 oM 30 0,
 oO 31 (.nck (.t 30)),
 oO 32 (.fldA 2 (.t 31)),
 ⟨none, .store 1 (.t 32) (.c (.bool true)), none⟩])
 (.seq (.ops [
 oO 4 (.mv (.c (.int .i64 0)))])
 .ret))
 .skip))
 (.seq (.ops [
 oM 33 0,
 oM 34 6,
 oO 35 (.nck (.t 33)),
 oO 36 (.fldA 1 (.t 35)),
 oS 1 36 34])
 (.seq (.ops [
 oM 37 5,
 oM 4 37])
 .ret)))))⟩
theorem K_Pblock_reader_num : chkFun DK Pg Try.f77 A_Pblock_reader_num = true := by kernel_rfl
theorem B_Pblock_reader_num {args : List AV} {m : Mem} {K : AV → Mem → Prop} (h : vcFun DK Pg A_Pblock_reader_num args m K) : ACall Pg F_Pblock_reader_num args m K := call_body mixed Try.func77 (by kernel_rfl) K_Pblock_reader_num h

noncomputable def A_Pblock_reader_hash : AFun := ⟨1, 43, [.cell 2 32 true],
 (.seq (.ops [
 oO 2 (.alloc 1 32 [.int .u8 0])])
 (.seq (.seq (.draw [
 oM 3 0,
 oO 4 (.nck (.t 3)),
 oO 5 (.fldA 2 (.t 4)),
 oO 6 (.load 1 false (.t 5)),
 oM 7 6,
 oG 8 (.mv (.t 0)) 7 false,
 oG 9 (.nck (.t 8)) 7 false,
 oG 10 (.fldA 0 (.t 9)) 7 false,
 oG 11 (.load 1 false (.t 10)) 7 false,
 oG 12 (.len (.t 11)) 7 false,
 oG 13 (.mv (.t 0)) 7 false,
 oG 14 (.nck (.t 13)) 7 false,
 oG 15 (.fldA 1 (.t 14)) 7 false,
 oG 16 (.load 1 false (.t 15)) 7 false,
 oG 17 (.bin .sub (.t 12) (.t 16)) 7 false,
 oG 18 (.bin .lss (.t 17) (.c (.int .i64 32))) 7 false,
 oO 19 (.pick (.t 7) (.c (.bool true)) (.t 18))] ⟨.no, [], .flat⟩)
 (.cond (.t 19)
 (.seq (.ops [
 oM 20 0,
 oO 21 (.nck (.t 20)),
 oO 22 (.fldA 2 (.t 21)),
 ⟨none, .store 1 (.t 22) (.c (.bool true)), none⟩])
 (.seq (.ops [
 oO 23 (.build (List.replicate 32 (.int .u8 0)) []),
 oS 32 2 23])
 .ret))
 .skip))
 (.seq (.ops [
 oM 24 0,
 oO 25 (.nck (.t 24)),
 oO 26 (.fldA 1 (.t 25)),
 oO 27 (.load 1 false (.t 26)),
 oO 28 (.bin .add (.t 27) (.c (.int .i64 32))),
 oO 29 (.nck (.t 24)),
 oO 30 (.fldA 1 (.t 29)),
 oS 1 30 28])
 (.seq (.draw [
 oM 31 0,
 oO 32 (.nck (.t 31)),
 oO 33 (.fldA 0 (.t 32)),
 oO 34 (.load 1 false (.t 33)),
 oM 35 0,
 oO 36 (.nck (.t 35)),
 oO 37 (.fldA 1 (.t 36)),
 oO 38 (.load 1 false (.t 37)),
 oO 39 (.bin .sub (.t 38) (.c (.int .i64 32))),
 oO 40 (.slice 1 (.t 34) (some (.t 39)) none none),
 oO 41 (.arrp 32 1 (.t 40)),
 oO 42 (.load 32 true (.t 41)),
 oS 32 2 42] ⟨.all, [], .look 0 (.look 1 (.look 2 (.look 3 (.look 4 (.look 5 (.look 6 (.look 7 (.look 8 (.look 9 (.look 10 (.look 11 (.run 12 false .done))))))))))))⟩)
 .ret))))⟩
theorem K_Pblock_reader_hash : chkFun DK Pg Try.f78 A_Pblock_reader_hash = true := by kernel_rfl
theorem B_Pblock_reader_hash {args : List AV} {m : Mem} {K : AV → Mem → Prop} (h : vcFun DK Pg A_Pblock_reader_hash args m K) : ACall Pg F_Pblock_reader_hash args m K := call_body mixed Try.func78 (by kernel_rfl) K_Pblock_reader_hash h

noncomputable def A_Pblock_reader_part : AFun := ⟨1, 35, [.t 2],
 (.seq (.ops [
 oO 2 (.mv (.c (.nils)))])
 (.seq (.draw [
 oM 7 0,
 oO 8 (.nck (.t 7)),
 oO 9 (.fldA 0 (.t 8)),
 oO 10 (.load 1 false (.t 9)),
 oM 11 0,
 oO 12 (.nck (.t 11)),
 oO 13 (.fldA 1 (.t 12)),
 oO 14 (.load 1 false (.t 13)),
 oK 15 F_bin_GetPart [.t 10, .t 14],
 oM 6 15,
 oO 16 (.ext (.t 6) 0),
 oO 17 (.ext (.t 6) 1),
 oO 18 (.ext (.t 6) 2),
 oM 3 16,
 oM 4 17,
 oM 5 18] ⟨.all, [], .look 0 (.look 1 (.look 2 (.look 3 (.look 4 (.look 5 (.look 6 (.look 7 (.run 8 false (.look 9 (.look 10 (.look 11 (.look 12 (.look 13 (.look 14 (.look 15 .done)))))))))))))))⟩)
 (.seq (.seq (.ops [
 oM 19 0,
 oO 20 (.nck (.t 19)),
 oO 21 (.fldA 2 (.t 20)),
 oO 22 (.load 1 false (.t 21)),
 oM 23 22,
 oG 24 (.mv (.t 5)) 23 false,
 oG 25 (.bin .neq (.t 24) (.c (.int .i64 0))) 23 false,
 oO 26 (.pick (.t 23) (.c (.bool true)) (.t 25))])
 (.cond (.t 26)
 (.seq (.ops [
 oM 27 0,
 oO 28 (.nck (.t 27)),
 oO 29 (.fldA 2 (.t 28)),
 ⟨none, .store 1 (.t 29) (.c (.bool true)), none⟩])
 (.seq (.ops [
 oO 2 (.mv (.c (.nils)))])
 .ret))
 .skip))
 (.seq (.ops [
 oM 30 0,
 oM 31 4,
 oO 32 (.nck (.t 30)),
 oO 33 (.fldA 1 (.t 32)),
 oS 1 33 31])
 (.seq (.ops [
 oM 34 3,
 oM 2 34])
 .ret)))))⟩
theorem K_Pblock_reader_part : chkFun DK Pg Try.f79 A_Pblock_reader_part = true := by kernel_rfl
theorem B_Pblock_reader_part {args : List AV} {m : Mem} {K : AV → Mem → Prop} (h : vcFun DK Pg A_Pblock_reader_part args m K) : ACall Pg F_Pblock_reader_part args m K := call_body mixed Try.func79 (by kernel_rfl) K_Pblock_reader_part h

noncomputable def A_witanref10_Get : AFun := ⟨3, 52, [.t 6, .t 7, .t 8],
 (.seq (.ops [
 oO 6 (.mv (.c (.int .i64 0))),
 oO 7 (.mv (.c (.int .i64 0))),
 oO 8 (.mv (.c (.int .i64 0)))])
 (.seq (.seq (.ops [
 oM 11 2,
 oO 12 (.bin .lss (.t 11) (.c (.int .i64 1))),
 oM 13 12,
 oG 14 (.mv (.t 2)) 13 false,
 oG 15 (.bin .gtr (.t 14) (.c (.int .i64 7))) 13 false,
 oO 16 (.pick (.t 13) (.c (.bool true)) (.t 15)),
 oM 17 16,
 oG 18 (.mv (.t 1)) 17 false,
 oG 19 (.bin .lss (.t 18) (.c (.int .i64 0))) 17 false,
 oO 20 (.pick (.t 17) (.c (.bool true)) (.t 19)),
 oM 21 20,
 oG 22 (.mv (.t 1)) 21 false,
 oG 23 (.mv (.t 0)) 21 false,
 oG 24 (.len (.t 23)) 21 false,
 oG 25 (.bin .gtr (.t 22) (.t 24)) 21 false,
 oO 26 (.pick (.t 21) (.c (.bool true)) (.t 25))])
 (.cond (.t 26)
 (.seq (.ops [
 oO 6 (.mv (.c (.int .i64 0))),
 oO 7 (.mv (.c (.int .i64 0))),
 oO 8 (.mv (.c (.int .i64 1)))])
 .ret)
 .skip))
 (.seq (.seq (.ops [
 oM 27 0,
 oO 28 (.len (.t 27)),
 oM 29 1,
 oO 30 (.bin .sub (.t 28) (.t 29)),
 oM 31 2,
 oO 32 (.bin .lss (.t 30) (.t 31))])
 (.cond (.t 32)
 (.seq (.ops [
 oO 6 (.mv (.c (.int .i64 0))),
 oO 7 (.mv (.c (.int .i64 0))),
 oO 8 (.mv (.c (.int .i64 7)))])
 .ret)
 .skip))
 (.seq (.ops [
 oO 9 (.mv (.c (.int .i64 0)))])
 (.seq (.seq (.ops [
 oO 10 (.mv (.c (.int .i64 0)))])
 (.block 0
 (.loop
 (.seq (.seq (.ops [
 oM 33 10,
 oM 34 2,
 oO 35 (.bin .lss (.t 33) (.t 34))])
 (.cond (.t 35)
 .skip
 (.exit 0)))
 (.seq (.block 1
 (.ops [
 oM 38 9,
 oO 39 (.bin .shl (.t 38) (.c (.int .u64 8))),
 oM 40 0,
 oM 41 1,
 oM 42 10,
 oO 43 (.bin .add (.t 41) (.t 42)),
 oO 44 (.idxA 1 (.t 40) (.t 43)),
 oO 45 (.load 1 false (.t 44)),
 oO 46 (.conv .i64 (.t 45)),
 oO 47 (.bin .or (.t 39) (.t 46)),
 oM 9 47]))
 (.ops [
 oM 36 10,
 oO 37 (.bin .add (.t 36) (.c (.int .i64 1))),
 oM 10 37]))))))
 (.seq (.ops [
 oM 48 9,
 oM 49 1,
 oM 50 2,
 oO 51 (.bin .add (.t 49) (.t 50)),
 oM 6 48,
 oM 7 51,
 oO 8 (.mv (.c (.int .i64 0)))])
 .ret))))))⟩
theorem K_witanref10_Get : chkFun DK Pg Try.f80 A_witanref10_Get = true := by kernel_rfl
theorem B_witanref10_Get {args : List AV} {m : Mem} {K : AV → Mem → Prop} (h : vcFun DK Pg A_witanref10_Get args m K) : ACall Pg F_witanref10_Get args m K := call_body mixed Try.func80 (by kernel_rfl) K_witanref10_Get h

noncomputable def A_witanref10_GetPart : AFun := ⟨2, 40, [.t 4, .t 5, .t 6],
 (.seq (.ops [
 oO 4 (.mv (.c (.nils))),
 oO 5 (.mv (.c (.int .i64 0))),
 oO 6 (.mv (.c (.int .i64 0)))])
 (.seq (.ops [
 oM 11 0,
 oM 12 1,
 oK 13 F_witanref10_Get [.t 11, .t 12, .c (.int .i64 4)],
 oM 10 13,
 oO 14 (.ext (.t 10) 0),
 oO 15 (.ext (.t 10) 1),
 oO 16 (.ext (.t 10) 2),
 oM 7 14,
 oM 8 15,
 oM 9 16])
 (.seq (.seq (.ops [
 oM 17 9,
 oO 18 (.bin .neq (.t 17) (.c (.int .i64 0)))])
 (.cond (.t 18)
 (.seq (.ops [
 oM 19 9,
 oO 4 (.mv (.c (.nils))),
 oO 5 (.mv (.c (.int .i64 0))),
 oM 6 19])
 .ret)
 .skip))
 (.seq (.seq (.ops [
 oM 20 7,
 oO 21 (.bin .gtr (.t 20) (.c (.int .i64 16384))),
 oM 22 21,
 oG 23 (.mv (.t 7)) 22 false,
 oG 24 (.mv (.t 0)) 22 false,
 oG 25 (.len (.t 24)) 22 false,
 oG 26 (.mv (.t 8)) 22 false,
 oG 27 (.bin .sub (.t 25) (.t 26)) 22 false,
 oG 28 (.bin .gtr (.t 23) (.t 27)) 22 false,
 oO 29 (.pick (.t 22) (.c (.bool true)) (.t 28))])
 (.cond (.t 29)
 (.seq (.ops [
 oO 4 (.mv (.c (.nils))),
 oO 5 (.mv (.c (.int .i64 0))),
 oO 6 (.mv (.c (.int .i64 7)))])
 .ret)
 .skip))
 (.seq (.ops [
 oM 30 0,
 oM 31 8,
 oM 32 8,
 oM 33 7,
 oO 34 (.bin .add (.t 32) (.t 33)),
 oO 35 (.slice 1 (.t 30) (some (.t 31)) (some (.t 34)) none),
 oK 36 F_witankeep_Twin [.t 35],
 oM 37 8,
 oM 38 7,
 oO 39 (.bin .add (.t 37) (.t 38)),
 oM 4 36,
 oM 5 39,
 oO 6 (.mv (.c (.int .i64 0)))])
 .ret)))))⟩
theorem K_witanref10_GetPart : chkFun DK Pg Try.f81 A_witanref10_GetPart = true := by kernel_rfl
theorem B_witanref10_GetPart {args : List AV} {m : Mem} {K : AV → Mem → Prop} (h : vcFun DK Pg A_witanref10_GetPart args m K) : ACall Pg F_witanref10_GetPart args m K := call_body mixed Try.func81 (by kernel_rfl) K_witanref10_GetPart h

noncomputable def A_witankeep_Txs : AFun := ⟨2, 42, [.t 4],
 (.seq (.ops [
 oO 4 (.mv (.c (.bool false)))])
 (.seq (.seq (.ops [
 oM 6 0,
 oO 7 (.len (.t 6)),
 oM 8 1,
 oO 9 (.len (.t 8)),
 oO 10 (.bin .neq (.t 7) (.t 9))])
 (.cond (.t 10)
 (.seq (.ops [
 oO 4 (.mv (.c (.bool false)))])
 .ret)
 .skip))
 (.seq (.seq (.ops [
 oO 5 (.mv (.c (.int .i64 0)))])
 (.block 0
 (.loop
 (.seq (.seq (.ops [
 oM 11 5,
 oM 12 0,
 oO 13 (.len (.t 12)),
 oO 14 (.bin .lss (.t 11) (.t 13))])
 (.cond (.t 14)
 .skip
 (.exit 0)))
 (.seq (.block 1
 (.seq (.draw [
 oM 17 0,
 oM 18 5,
 oO 19 (.idxA 2 (.t 17) (.t 18)),
 oO 20 (.fldA 0 (.t 19)),
 oO 21 (.load 1 false (.t 20)),
 oM 22 1,
 oM 23 5,
 oO 24 (.idxA 2 (.t 22) (.t 23)),
 oO 25 (.fldA 0 (.t 24)),
 oO 26 (.load 1 false (.t 25)),
 oO 27 (.bin .neq (.t 21) (.t 26)),
 oM 28 27,
 oG 29 (.mv (.t 0)) 28 false,
 oG 30 (.mv (.t 5)) 28 false,
 oG 31 (.idxA 2 (.t 29) (.t 30)) 28 false,
 oG 32 (.fldA 1 (.t 31)) 28 false,
 oG 33 (.load 1 false (.t 32)) 28 false,
 oG 34 (.mv (.t 1)) 28 false,
 oG 35 (.mv (.t 5)) 28 false,
 oG 36 (.idxA 2 (.t 34) (.t 35)) 28 false,
 oG 37 (.fldA 1 (.t 36)) 28 false,
 oG 38 (.load 1 false (.t 37)) 28 false,
 oG 39 (.call (.c (.fn F_witankeep_Bytes [])) [.t 33, .t 38]) 28 false,
 oG 40 (.un .not (.t 39)) 28 false,
 oO 41 (.pick (.t 28) (.c (.bool true)) (.t 40))] ⟨.all, [], .look 0 (.look 1 (.look 2 (.look 3 (.look 4 (.look 5 (.look 6 (.look 7 (.look 8 (.look 9 (.look 10 (.look 11 (.look 12 (.look 13 (.look 14 (.look 15 (.look 16 (.look 17 (.look 18 (.look 19 (.look 20 (.look 21 (.run 22 true (.look 23 (.look 24 .done))))))))))))))))))))))))⟩)
 (.cond (.t 41)
 (.seq (.ops [
 oO 4 (.mv (.c (.bool false)))])
 .ret)
 .skip)))
 (.ops [
 oM 15 5,
 oO 16 (.bin .add (.t 15) (.c (.int .i64 1))),
 oM 5 16]))))))
 (.seq (.ops [
 oO 4 (.mv (.c (.bool true)))])
 .ret))))⟩
theorem K_witankeep_Txs : chkFun DK Pg Try.f82 A_witankeep_Txs = true := by kernel_rfl
theorem B_witankeep_Txs {args : List AV} {m : Mem} {K : AV → Mem → Prop} (h : vcFun DK Pg A_witankeep_Txs args m K) : ACall Pg F_witankeep_Txs args m K := call_body mixed Try.func82 (by kernel_rfl) K_witankeep_Txs h

noncomputable def A_bin_Put : AFun := ⟨3, 43, [.t 6, .t 7],
 (.seq (.ops [
 oO 6 (.mv (.c (.nils))),
 oO 7 (.mv (.c (.int .i64 0)))])
 (.seq (.seq (.ops [
 oM 10 2,
 oO 11 (.bin .lss (.t 10) (.c (.int .i64 1))),
 oM 12 11,
 oG 13 (.mv (.t 2)) 12 false,
 oG 14 (.bin .gtr (.t 13) (.c (.int .i64 7))) 12 false,
 oO 15 (.pick (.t 12) (.c (.bool true)) (.t 14)),
 oM 16 15,
 oG 17 (.mv (.t 1)) 16 false,
 oG 18 (.bin .lss (.t 17) (.c (.int .i64 0))) 16 false,
 oO 19 (.pick (.t 16) (.c (.bool true)) (.t 18)),
 oM 20 19,
 oG 21 (.mv (.t 1)) 20 false,
 oG 22 (.mv (.t 2)) 20 false,
 oG 23 (.call (.c (.fn F_bin_room [])) [.t 22]) 20 false,
 oG 24 (.bin .geq (.t 21) (.t 23)) 20 false,
 oO 25 (.pick (.t 20) (.c (.bool true)) (.t 24))])
 (.cond (.t 25)
 (.seq (.ops [
 oO 6 (.mv (.c (.nils))),
 oO 7 (.mv (.c (.int .i64 1)))])
 .ret)
 .skip))
 (.seq (.ops [
 oM 26 0,
 oK 27 F_slices_Clone_Sbyte_byte [.t 26],
 oM 8 27])
 (.seq (.seq (.ops [
 oM 28 2,
 oO 29 (.bin .sub (.t 28) (.c (.int .i64 1))),
 oM 9 29])
 (.block 0
 (.loop
 (.seq (.seq (.ops [
 oM 30 9,
 oO 31 (.bin .geq (.t 30) (.c (.int .i64 0)))])
 (.cond (.t 31)
 .skip
 (.exit 0)))
 (.seq (.block 1
 (.ops [
 oM 34 8,
 oM 35 1,
 oM 36 9,
 oO 37 (.bin .mul (.c (.int .i64 8)) (.t 36)),
 oO 38 (.bin .shr (.t 35) (.t 37)),
 oO 39 (.conv .u8 (.t 38)),
 oO 40 (.bsl 1 1 [.int .u8 0] [(0, 1, .t 39)]),
 oO 41 (.app 1 1 (.t 34) (.t 40)),
 oM 8 41]))
 (.ops [
 oM 32 9,
 oO 33 (.bin .sub (.t 32) (.c (.int .i64 1))),
 oM 9 33]))))))
 (.seq (.ops [
 oM 42 8,
 oM 6 42,
 oO 7 (.mv (.c (.int .i64 0)))])
 .ret)))))⟩
theorem K_bin_Put : chkFun DK Pg Try.f83 A_bin_Put = true := by kernel_rfl
theorem B_bin_Put {args : List AV} {m : Mem} {K : AV → Mem → Prop} (h : vcFun DK Pg A_bin_Put args m K) : ACall Pg F_bin_Put args m K := call_body mixed Try.func83 (by kernel_rfl) K_bin_Put h

noncomputable def A_bin_PutPart : AFun := ⟨2, 22, [.t 4, .t 5],
 (.seq (.ops [
 oO 4 (.mv (.c (.nils))),
 oO 5 (.mv (.c (.int .i64 0)))])
 (.seq (.seq (.ops [
 oM 8 1,
 oO 9 (.len (.t 8)),
 oO 10 (.bin .gtr (.t 9) (.c (.int .i64 16384)))])
 (.cond (.t 10)
 (.seq (.ops [
 oO 4 (.mv (.c (.nils))),
 oO 5 (.mv (.c (.int .i64 4)))])
 .ret)
 .skip))
 (.seq (.ops [
 oM 12 0,
 oM 13 1,
 oO 14 (.len (.t 13)),
 oK 15 F_bin_Put [.t 12, .t 14, .c (.int .i64 4)],
 oM 11 15,
 oO 16 (.ext (.t 11) 0),
 oO 17 (.ext (.t 11) 1),
 oM 6 16,
 oM 7 17])
 (.seq (.ops [
 oM 18 6,
 oM 19 1,
 oO 20 (.app 1 1 (.t 18) (.t 19)),
 oM 21 7,
 oM 4 20,
 oM 5 21])
 .ret))))⟩
theorem K_bin_PutPart : chkFun DK Pg Try.f84 A_bin_PutPart = true := by kernel_rfl
theorem B_bin_PutPart {args : List AV} {m : Mem} {K : AV → Mem → Prop} (h : vcFun DK Pg A_bin_PutPart args m K) : ACall Pg F_bin_PutPart args m K := call_body mixed Try.func84 (by kernel_rfl) K_bin_PutPart h

noncomputable def A_witankeep_TwinTxs : AFun := ⟨1, 27, [.t 2],
 (.seq (.ops [
 oO 2 (.mv (.c (.nils)))])
 (.seq (.ops [
 oO 3 (.mv (.c (.nils)))])
 (.seq (.seq (.ops [
 oO 4 (.mv (.c (.int .i64 0)))])
 (.block 0
 (.loop
 (.seq (.seq (.ops [
 oM 5 4,
 oM 6 0,
 oO 7 (.len (.t 6)),
 oO 8 (.bin .lss (.t 5) (.t 7))])
 (.cond (.t 8)
 .skip
 (.exit 0)))
 (.seq (.block 1
 (.draw [
 oM 11 3,
 oM 12 0,
 oM 13 4,
 oO 14 (.idxA 2 (.t 12) (.t 13)),
 oO 15 (.fldA 0 (.t 14)),
 oO 16 (.load 1 false (.t 15)),
 oM 17 0,
 oM 18 4,
 oO 19 (.idxA 2 (.t 17) (.t 18)),
 oO 20 (.fldA 1 (.t 19)),
 oO 21 (.load 1 false (.t 20)),
 oK 22 F_witankeep_Twin [.t 21],
 oO 23 (.build [.int .i64 0, .nils] [(0, 1, .t 16), (1, 1, .t 22)]),
 oO 24 (.bsl 2 1 [.int .i64 0, .nils] [(0, 2, .t 23)]),
 oO 25 (.app 2 32 (.t 11) (.t 24)),
 oM 3 25] ⟨.all, [], .look 0 (.look 1 (.look 2 (.look 3 (.look 4 (.look 5 (.look 6 (.look 7 (.look 8 (.look 9 (.look 10 (.run 11 true (.look 12 (.run 13 false (.run 14 false (.look 15 .done)))))))))))))))⟩))
 (.ops [
 oM 9 4,
 oO 10 (.bin .add (.t 9) (.c (.int .i64 1))),
 oM 4 10]))))))
 (.seq (.ops [
 oM 26 3,
 oM 2 26])
 .ret))))⟩
theorem K_witankeep_TwinTxs : chkFun DK Pg Try.f85 A_witankeep_TwinTxs = true := by kernel_rfl
theorem B_witankeep_TwinTxs {args : List AV} {m : Mem} {K : AV → Mem → Prop} (h : vcFun DK Pg A_witankeep_TwinTxs args m K) : ACall Pg F_witankeep_TwinTxs args m K := call_body mixed Try.func85 (by kernel_rfl) K_witankeep_TwinTxs h

noncomputable def A_sha_rounds : AFun := ⟨0, 2, [.t 0],
 (.seq (.ops [
 oO 0 (.mv (.c (.nils)))])
 (.seq (.ops [
 oO 1 (.bsl 1 64 [.int .u32 0] [(0, 1, .c (.int .u32 1116352408)), (1, 1, .c (.int .u32 1899447441)), (2, 1, .c (.int .u32 3049323471)), (3, 1, .c (.int .u32 3921009573)), (4, 1, .c (.int .u32 961987163)), (5, 1, .c (.int .u32 1508970993)), (6, 1, .c (.int .u32 2453635748)), (7, 1, .c (.int .u32 2870763221)), (8, 1, .c (.int .u32 3624381080)), (9, 1, .c (.int .u32 310598401)), (10, 1, .c (.int .u32 607225278)), (11, 1, .c (.int .u32 1426881987)), (12, 1, .c (.int .u32 1925078388)), (13, 1, .c (.int .u32 2162078206)), (14, 1, .c (.int .u32 2614888103)), (15, 1, .c (.int .u32 3248222580)), (16, 1, .c (.int .u32 3835390401)), (17, 1, .c (.int .u32 4022224774)), (18, 1, .c (.int .u32 264347078)), (19, 1, .c (.int .u32 604807628)), (20, 1, .c (.int .u32 770255983)), (21, 1, .c (.int .u32 1249150122)), (22, 1, .c (.int .u32 1555081692)), (23, 1, .c (.int .u32 1996064986)), (24, 1, .c (.int .u32 2554220882)), (25, 1, .c (.int .u32 2821834349)), (26, 1, .c (.int .u32 2952996808)), (27, 1, .c (.int .u32 3210313671)), (28, 1, .c (.int .u32 3336571891)), (29, 1, .c (.int .u32 3584528711)), (30, 1, .c (.int .u32 113926993)), (31, 1, .c (.int .u32 338241895)), (32, 1, .c (.int .u32 666307205)), (33, 1, .c (.int .u32 773529912)), (34, 1, .c (.int .u32 1294757372)), (35, 1, .c (.int .u32 1396182291)), (36, 1, .c (.int .u32 1695183700)), (37, 1, .c (.int .u32 1986661051)), (38, 1, .c (.int .u32 2177026350)), (39, 1, .c (.int .u32 2456956037)), (40, 1, .c (.int .u32 2730485921)), (41, 1, .c (.int .u32 2820302411)), (42, 1, .c (.int .u32 3259730800)), (43, 1, .c (.int .u32 3345764771)), (44, 1, .c (.int .u32 3516065817)), (45, 1, .c (.int .u32 3600352804)), (46, 1, .c (.int .u32 4094571909)), (47, 1, .c (.int .u32 275423344)), (48, 1, .c (.int .u32 430227734)), (49, 1, .c (.int .u32 506948616)), (50, 1, .c (.int .u32 659060556)), (51, 1, .c (.int .u32 883997877)), (52, 1, .c (.int .u32 958139571)), (53, 1, .c (.int .u32 1322822218)), (54, 1, .c (.int .u32 1537002063)), (55, 1, .c (.int .u32 1747873779)), (56, 1, .c (.int .u32 1955562222)), (57, 1, .c (.int .u32 2024104815)), (58, 1, .c (.int .u32 2227730452)), (59, 1, .c (.int .u32 2361852424)), (60, 1, .c (.int .u32 2428436474)), (61, 1, .c (.int .u32 2756734187)), (62, 1, .c (.int .u32 3204031479)), (63, 1, .c (.int .u32 3329325298))]),
 oM 0 1])
 .ret))⟩
theorem K_sha_rounds : chkFun DK Pg Try.f86 A_sha_rounds = true := by kernel_rfl
theorem B_sha_rounds {args : List AV} {m : Mem} {K : AV → Mem → Prop} (h : vcFun DK Pg A_sha_rounds args m K) : ACall Pg F_sha_rounds args m K := call_body mixed Try.func86 (by kernel_rfl) K_sha_rounds h

noncomputable def A_sha_padded : AFun := ⟨1, 35, [.t 2],
 (.seq (.ops [
 oO 2 (.mv (.c (.nils)))])
 (.seq (.ops [
 oO 6 (.bsl 1 0 [.int .u8 0] []),
 oM 7 0,
 oO 8 (.app 1 1 (.t 6) (.t 7)),
 oO 9 (.bsl 1 1 [.int .u8 0] [(0, 1, .c (.int .u8 128))]),
 oO 10 (.app 1 1 (.t 8) (.t 9)),
 oM 3 10])
 (.seq (.block 0
 (.loop
 (.seq (.seq (.ops [
 oM 11 3,
 oO 12 (.len (.t 11)),
 oO 13 (.bin .rem (.t 12) (.c (.int .i64 64))),
 oO 14 (.bin .neq (.t 13) (.c (.int .i64 56)))])
 (.cond (.t 14)
 .skip
 (.exit 0)))
 (.block 1
 (.ops [
 oM 15 3,
 oO 16 (.bsl 1 1 [.int .u8 0] [(0, 1, .c (.int .u8 0))]),
 oO 17 (.app 1 1 (.t 15) (.t 16)),
 oM 3 17])))))
 (.seq (.ops [
 oM 18 0,
 oO 19 (.len (.t 18)),
 oO 20 (.conv .u64 (.t 19)),
 oO 21 (.bin .shl (.t 20) (.c (.int .u64 3))),
 oM 4 21])
 (.seq (.seq (.ops [
 oO 5 (.mv (.c (.int .i64 7)))])
 (.block 2
 (.loop
 (.seq (.seq (.ops [
 oM 22 5,
 oO 23 (.bin .geq (.t 22) (.c (.int .i64 0)))])
 (.cond (.t 23)
 .skip
 (.exit 2)))
 (.seq (.block 3
 (.ops [
 oM 26 3,
 oM 27 4,
 oM 28 5,
 oO 29 (.bin .mul (.c (.int .i64 8)) (.t 28)),
 oO 30 (.bin .shr (.t 27) (.t 29)),
 oO 31 (.conv .u8 (.t 30)),
 oO 32 (.bsl 1 1 [.int .u8 0] [(0, 1, .t 31)]),
 oO 33 (.app 1 1 (.t 26) (.t 32)),
 oM 3 33]))
 (.ops [
 oM 24 5,
 oO 25 (.bin .sub (.t 24) (.c (.int .i64 1))),
 oM 5 25]))))))
 (.seq (.ops [
 oM 34 3,
 oM 2 34])
 .ret))))))⟩
theorem K_sha_padded : chkFun DK Pg Try.f87 A_sha_padded = true := by kernel_rfl
theorem B_sha_padded {args : List AV} {m : Mem} {K : AV → Mem → Prop} (h : vcFun DK Pg A_sha_padded args m K) : ACall Pg F_sha_padded args m K := call_body mixed Try.func87 (by kernel_rfl) K_sha_padded h

noncomputable def A_sha_high : AFun := ⟨1, 19, [.t 2],
 (.seq (.ops [
 oO 2 (.mv (.c (.int .u64 0)))])
 (.seq (.ops [
 oO 3 (.mv (.c (.int .u64 0)))])
 (.seq (.seq (.ops [
 oM 6 0,
 oO 7 (.len (.t 6)),
 oO 8 (.mv (.c (.int .i64 0)))])
 (.block 0
 (.loop
 (.seq (.ops [
 oO 9 (.bin .lss (.t 8) (.t 7))])
 (.seq (.cond (.t 9)
 .skip
 (.exit 0))
 (.seq (.block 1
 (.seq (.ops [
 oO 10 (.idxA 1 (.t 6) (.t 8)),
 oO 11 (.load 1 false (.t 10)),
 oM 5 11])
 (.ops [
 oM 12 3,
 oO 13 (.bin .shl (.t 12) (.c (.int .u64 8))),
 oM 14 5,
 oO 15 (.conv .u64 (.t 14)),
 oO 16 (.bin .or (.t 13) (.t 15)),
 oM 3 16])))
 (.ops [
 oO 17 (.bin .add (.t 8) (.c (.int .i64 1))),
 oM 8 17])))))))
 (.seq (.ops [
 oM 18 3,
 oM 2 18])
 .ret))))⟩
theorem K_sha_high : chkFun DK Pg Try.f88 A_sha_high = true := by kernel_rfl
theorem B_sha_high {args : List AV} {m : Mem} {K : AV → Mem → Prop} (h : vcFun DK Pg A_sha_high args m K) : ACall Pg F_sha_high args m K := call_body mixed Try.func88 (by kernel_rfl) K_sha_high h

noncomputable def A_bits_RotateLeft32 : AFun := ⟨2, 17, [.t 4],
 (.seq (.ops [
 oO 4 (.mv (.c (.int .u32 0)))])
 (.seq (.ops [
 oM 6 1,
 oO 7 (.conv .u64 (.t 6)),
 oO 8 (.bin .and (.t 7) (.c (.int .u64 31))),
 oM 5 8])
 (.seq (.ops [
 oM 9 0,
 oM 10 5,
 oO 11 (.bin .shl (.t 9) (.t 10)),
 oM 12 0,
 oM 13 5,
 oO 14 (.bin .sub (.c (.int .u64 32)) (.t 13)),
 oO 15 (.bin .shr (.t 12) (.t 14)),
 oO 16 (.bin .or (.t 11) (.t 15)),
 oM 4 16])
 .ret)))⟩
theorem K_bits_RotateLeft32 : chkFun DK Pg Try.f89 A_bits_RotateLeft32 = true := by kernel_rfl
theorem B_bits_RotateLeft32 {args : List AV} {m : Mem} {K : AV → Mem → Prop} (h : vcFun DK Pg A_bits_RotateLeft32 args m K) : ACall Pg F_bits_RotateLeft32 args m K := call_body mixed Try.func89 (by kernel_rfl) K_bits_RotateLeft32 h

noncomputable def A_witanref10_Put : AFun := ⟨3, 46, [.t 6, .t 7],
 (.seq (.ops [
 oO 6 (.mv (.c (.nils))),
 oO 7 (.mv (.c (.int .i64 0)))])
 (.seq (.seq (.ops [
 oM 10 2,
 oO 11 (.bin .lss (.t 10) (.c (.int .i64 1))),
 oM 12 11,
 oG 13 (.mv (.t 2)) 12 false,
 oG 14 (.bin .gtr (.t 13) (.c (.int .i64 7))) 12 false,
 oO 15 (.pick (.t 12) (.c (.bool true)) (.t 14)),
 oM 16 15,
 oG 17 (.mv (.t 1)) 16 false,
 oG 18 (.bin .lss (.t 17) (.c (.int .i64 0))) 16 false,
 oO 19 (.pick (.t 16) (.c (.bool true)) (.t 18)),
 oM 20 19,
 oG 21 (.mv (.t 1)) 20 false,
 oG 22 (.mv (.t 2)) 20 false,
 oG 23 (.bin .mul (.c (.int .i64 8)) (.t 22)) 20 false,
 oG 24 (.conv .u64 (.t 23)) 20 false,
 oG 25 (.bin .shr (.t 21) (.t 24)) 20 false,
 oG 26 (.bin .neq (.t 25) (.c (.int .i64 0))) 20 false,
 oO 27 (.pick (.t 20) (.c (.bool true)) (.t 26))])
 (.cond (.t 27)
 (.seq (.ops [
 oO 6 (.mv (.c (.nils))),
 oO 7 (.mv (.c (.int .i64 1)))])
 .ret)
 .skip))
 (.seq (.ops [
 oM 28 0,
 oK 29 F_witankeep_Twin [.t 28],
 oM 8 29])
 (.seq (.seq (.ops [
 oM 30 2,
 oO 31 (.bin .sub (.t 30) (.c (.int .i64 1))),
 oM 9 31])
 (.block 0
 (.loop
 (.seq (.seq (.ops [
 oM 32 9,
 oO 33 (.bin .geq (.t 32) (.c (.int .i64 0)))])
 (.cond (.t 33)
 .skip
 (.exit 0)))
 (.seq (.block 1
 (.ops [
 oM 36 8,
 oM 37 1,
 oM 38 9,
 oO 39 (.bin .mul (.c (.int .i64 8)) (.t 38)),
 oO 40 (.conv .u64 (.t 39)),
 oO 41 (.bin .shr (.t 37) (.t 40)),
 oO 42 (.conv .u8 (.t 41)),
 oO 43 (.bsl 1 1 [.int .u8 0] [(0, 1, .t 42)]),
 oO 44 (.app 1 1 (.t 36) (.t 43)),
 oM 8 44]))
 (.ops [
 oM 34 9,
 oO 35 (.bin .sub (.t 34) (.c (.int .i64 1))),
 oM 9 35]))))))
 (.seq (.ops [
 oM 45 8,
 oM 6 45,
 oO 7 (.mv (.c (.int .i64 0)))])
 .ret)))))⟩
theorem K_witanref10_Put : chkFun DK Pg Try.f90 A_witanref10_Put = true := by kernel_rfl
theorem B_witanref10_Put {args : List AV} {m : Mem} {K : AV → Mem → Prop} (h : vcFun DK Pg A_witanref10_Put args m K) : ACall Pg F_witanref10_Put args m K := call_body mixed Try.func90 (by kernel_rfl) K_witanref10_Put h

noncomputable def A_witanref10_PutPart : AFun := ⟨2, 21, [.t 4, .t 5],
 (.seq (.ops [
 oO 4 (.mv (.c (.nils))),
 oO 5 (.mv (.c (.int .i64 0)))])
 (.seq (.seq (.ops [
 oM 8 1,
 oO 9 (.len (.t 8)),
 oO 10 (.bin .gtr (.t 9) (.c (.int .i64 16384)))])
 (.cond (.t 10)
 (.seq (.ops [
 oO 4 (.mv (.c (.nils))),
 oO 5 (.mv (.c (.int .i64 4)))])
 .ret)
 .skip))
 (.seq (.ops [
 oM 12 0,
 oM 13 1,
 oO 14 (.len (.t 13)),
 oK 15 F_witanref10_Put [.t 12, .t 14, .c (.int .i64 4)],
 oM 11 15,
 oO 16 (.ext (.t 11) 0),
 oO 17 (.ext (.t 11) 1),
 oM 6 16,
 oM 7 17])
 (.seq (.ops [
 oM 18 6,
 oM 19 1,
 oO 20 (.app 1 1 (.t 18) (.t 19)),
 oM 4 20,
 oO 5 (.mv (.c (.int .i64 0)))])
 .ret))))⟩
theorem K_witanref10_PutPart : chkFun DK Pg Try.f91 A_witanref10_PutPart = true := by kernel_rfl
theorem B_witanref10_PutPart {args : List AV} {m : Mem} {K : AV → Mem → Prop} (h : vcFun DK Pg A_witanref10_PutPart args m K) : ACall Pg F_witanref10_PutPart args m K := call_body mixed Try.func91 (by kernel_rfl) K_witanref10_PutPart h

noncomputable def A_witanref04_Sum256 : AFun := ⟨1, 208, [.cell 2 32 true],
 (.seq (.ops [
 oO 2 (.alloc 1 32 [.int .u8 0])])
 (.seq (.ops [
 oK 21 F_witanref04_k256 [],
 oO 3 (.alloc 1 64 [.int .u32 0]),
 oS 64 3 21])
 (.seq (.ops [
 oO 22 (.build [.int .u32 0, .int .u32 0, .int .u32 0, .int .u32 0, .int .u32 0, .int .u32 0, .int .u32 0, .int .u32 0] [(0, 1, .c (.int .u32 1779033703)), (1, 1, .c (.int .u32 3144134277)), (2, 1, .c (.int .u32 1013904242)), (3, 1, .c (.int .u32 2773480762)), (4, 1, .c (.int .u32 1359893119)), (5, 1, .c (.int .u32 2600822924)), (6, 1, .c (.int .u32 528734635)), (7, 1, .c (.int .u32 1541459225))]),
 oO 4 (.alloc 1 8 [.int .u32 0]),
 oS 8 4 22])
 (.seq (.ops [
 oM 23 0,
 oK 24 F_witanref04_padded [.t 23],
 oM 5 24])
 (.seq (.seq (.ops [
 oO 6 (.mv (.c (.int .i64 0)))])
 (.block 0
 (.loop
 (.seq (.seq (.ops [
 oM 25 6,
 oM 26 5,
 oO 27 (.len (.t 26)),
 oO 28 (.bin .lss (.t 25) (.t 27))])
 (.cond (.t 28)
 .skip
 (.exit 0)))
 (.seq (.block 1
 (.seq (.ops [
 oO 7 (.alloc 1 64 [.int .u32 0])])
 (.seq (.seq (.ops [
 oO 8 (.mv (.c (.int .i64 0)))])
 (.block 2
 (.loop
 (.seq (.seq (.ops [
 oM 31 8,
 oO 32 (.bin .lss (.t 31) (.c (.int .i64 64)))])
 (.cond (.t 32)
 .skip
 (.exit 2)))
 (.seq (.block 3
 (.seq (.seq (.ops [
 oM 35 8,
 oO 36 (.bin .lss (.t 35) (.c (.int .i64 16)))])
 (.cond (.t 36)
 (.seq (.seq (.ops [
 oO 9 (.mv (.c (.int .i64 0)))])
 (.block 4
 (.loop
 (.seq (.seq (.ops [
 oM 37 9,
 oO 38 (.bin .lss (.t 37) (.c (.int .i64 4)))])
 (.cond (.t 38)
 .skip
 (.exit 4)))
 (.seq (.block 5
 (.draw [
 oM 41 8,
 oM 42 8,
 oO 43 (.idxP 64 1 (.t 7) (.t 42)),
 oO 44 (.load 1 false (.t 43)),
 oO 45 (.bin .shl (.t 44) (.c (.int .u64 8))),
 oM 46 5,
 oM 47 6,
 oM 48 8,
 oO 49 (.bin .mul (.c (.int .i64 4)) (.t 48)),
 oO 50 (.bin .add (.t 47) (.t 49)),
 oM 51 9,
 oO 52 (.bin .add (.t 50) (.t 51)),
 oO 53 (.idxA 1 (.t 46) (.t 52)),
 oO 54 (.load 1 false (.t 53)),
 oO 55 (.conv .u32 (.t 54)),
 oO 56 (.bin .or (.t 45) (.t 55)),
 oO 57 (.idxP 64 1 (.t 7) (.t 41)),
 oS 1 57 56] ⟨.all, [], .look 0 (.look 1 (.look 2 (.look 3 (.look 4 (.look 5 (.look 6 (.look 7 (.look 8 (.look 9 (.look 10 (.look 11 (.look 12 (.look 13 (.look 14 (.look 15 (.look 16 (.run 17 false .done)))))))))))))))))⟩))
 (.ops [
 oM 39 9,
 oO 40 (.bin .add (.t 39) (.c (.int .i64 1))),
 oM 9 40]))))))
 (.exit 3))
 .skip))
 (.seq (.draw [
 oM 58 8,
 oO 59 (.bin .sub (.t 58) (.c (.int .i64 15))),
 oO 60 (.idxP 64 1 (.t 7) (.t 59)),
 oO 61 (.load 1 false (.t 60)),
 oM 62 8,
 oO 63 (.bin .sub (.t 62) (.c (.int .i64 2))),
 oO 64 (.idxP 64 1 (.t 7) (.t 63)),
 oO 65 (.load 1 false (.t 64)),
 oM 10 61,
 oM 11 65] ⟨.no, [], .flat⟩)
 (.draw [
 oM 66 8,
 oM 67 8,
 oO 68 (.bin .sub (.t 67) (.c (.int .i64 16))),
 oO 69 (.idxP 64 1 (.t 7) (.t 68)),
 oO 70 (.load 1 false (.t 69)),
 oM 71 8,
 oO 72 (.bin .sub (.t 71) (.c (.int .i64 7))),
 oO 73 (.idxP 64 1 (.t 7) (.t 72)),
 oO 74 (.load 1 false (.t 73)),
 oO 75 (.bin .add (.t 70) (.t 74)),
 oM 76 10,
 oK 77 F_witanref04_rot32 [.t 76, .c (.int .i64 7)],
 oM 78 10,
 oK 79 F_witanref04_rot32 [.t 78, .c (.int .i64 18)],
 oO 80 (.bin .xor (.t 77) (.t 79)),
 oM 81 10,
 oO 82 (.bin .shr (.t 81) (.c (.int .u64 3))),
 oO 83 (.bin .xor (.t 80) (.t 82)),
 oO 84 (.bin .add (.t 75) (.t 83)),
 oM 85 11,
 oK 86 F_witanref04_rot32 [.t 85, .c (.int .i64 17)],
 oM 87 11,
 oK 88 F_witanref04_rot32 [.t 87, .c (.int .i64 19)],
 oO 89 (.bin .xor (.t 86) (.t 88)),
 oM 90 11,
 oO 91 (.bin .shr (.t 90) (.c (.int .u64 10))),
 oO 92 (.bin .xor (.t 89) (.t 91)),
 oO 93 (.bin .add (.t 84) (.t 92)),
 oO 94 (.idxP 64 1 (.t 7) (.t 66)),
 oS 1 94 93] ⟨.all, [], .look 0 (.look 1 (.look 2 (.look 3 (.look 4 (.look 5 (.look 6 (.look 7 (.look 8 (.look 9 (.look 10 (.look 12 (.look 15 (.look 16 (.look 19 (.look 21 (.look 24 (.look 25 (.run 11 true (.run 13 true (.look 14 (.look 17 (.look 18 (.run 20 true (.run 22 true (.look 23 (.look 26 (.look 27 (.look 28 (.run 29 false .done)))))))))))))))))))))))))))))⟩))))
 (.ops [
 oM 33 8,
 oO 34 (.bin .add (.t 33) (.c (.int .i64 1))),
 oM 8 34]))))))
 (.seq (.ops [
 oO 95 (.load 8 true (.t 4)),
 oO 12 (.alloc 1 8 [.int .u32 0]),
 oS 8 12 95])
 (.seq (.seq (.ops [
 oO 13 (.mv (.c (.int .i64 0)))])
 (.block 6
 (.loop
 (.seq (.seq (.ops [
 oM 96 13,
 oO 97 (.bin .lss (.t 96) (.c (.int .i64 64)))])
 (.cond (.t 97)
 .skip
 (.exit 6)))
 (.seq (.block 7
 (.seq (.draw [
 oO 100 (.idxP 8 1 (.t 12) (.c (.int .i64 0))),
 oO 101 (.load 1 false (.t 100)),
 oO 102 (.idxP 8 1 (.t 12) (.c (.int .i64 4))),
 oO 103 (.load 1 false (.t 102)),
 oM 14 101,
 oM 15 103] ⟨.no, [], .flat⟩)
 (.seq (.draw [
 oO 104 (.idxP 8 1 (.t 12) (.c (.int .i64 7))),
 oO 105 (.load 1 false (.t 104)),
 oM 106 15,
 oK 107 F_witanref04_rot32 [.t 106, .c (.int .i64 6)],
 oM 108 15,
 oK 109 F_witanref04_rot32 [.t 108, .c (.int .i64 11)],
 oO 110 (.bin .xor (.t 107) (.t 109)),
 oM 111 15,
 oK 112 F_witanref04_rot32 [.t 111, .c (.int .i64 25)],
 oO 113 (.bin .xor (.t 110) (.t 112)),
 oO 114 (.bin .add (.t 105) (.t 113)),
 oM 115 15,
 oO 116 (.idxP 8 1 (.t 12) (.c (.int .i64 5))),
 oO 117 (.load 1 false (.t 116)),
 oO 118 (.bin .and (.t 115) (.t 117)),
 oM 119 15,
 oO 120 (.un .xor (.t 119)),
 oO 121 (.idxP 8 1 (.t 12) (.c (.int .i64 6))),
 oO 122 (.load 1 false (.t 121)),
 oO 123 (.bin .and (.t 120) (.t 122)),
 oO 124 (.bin .xor (.t 118) (.t 123)),
 oO 125 (.bin .add (.t 114) (.t 124)),
 oM 126 13,
 oO 127 (.idxP 64 1 (.t 3) (.t 126)),
 oO 128 (.load 1 false (.t 127)),
 oO 129 (.bin .add (.t 125) (.t 128)),
 oM 130 13,
 oO 131 (.idxP 64 1 (.t 7) (.t 130)),
 oO 132 (.load 1 false (.t 131)),
 oO 133 (.bin .add (.t 129) (.t 132)),
 oM 16 133] ⟨.all, [], .look 0 (.look 1 (.look 2 (.look 4 (.look 7 (.look 11 (.look 12 (.look 13 (.look 14 (.look 15 (.look 16 (.look 17 (.look 18 (.look 19 (.look 20 (.look 22 (.look 23 (.look 24 (.look 26 (.look 27 (.look 28 (.run 3 true (.run 5 true (.look 6 (.run 8 true (.look 9 (.look 10 (.look 21 (.look 25 (.look 29 (.look 30 .done))))))))))))))))))))))))))))))⟩)
 (.seq (.draw [
 oM 134 14,
 oK 135 F_witanref04_rot32 [.t 134, .c (.int .i64 2)],
 oM 136 14,
 oK 137 F_witanref04_rot32 [.t 136, .c (.int .i64 13)],
 oO 138 (.bin .xor (.t 135) (.t 137)),
 oM 139 14,
 oK 140 F_witanref04_rot32 [.t 139, .c (.int .i64 22)],
 oO 141 (.bin .xor (.t 138) (.t 140)),
 oM 142 14,
 oO 143 (.idxP 8 1 (.t 12) (.c (.int .i64 1))),
 oO 144 (.load 1 false (.t 143)),
 oO 145 (.bin .and (.t 142) (.t 144)),
 oM 146 14,
 oO 147 (.idxP 8 1 (.t 12) (.c (.int .i64 2))),
 oO 148 (.load 1 false (.t 147)),
 oO 149 (.bin .and (.t 146) (.t 148)),
 oO 150 (.bin .xor (.t 145) (.t 149)),
 oO 151 (.idxP 8 1 (.t 12) (.c (.int .i64 1))),
 oO 152 (.load 1 false (.t 151)),
 oO 153 (.idxP 8 1 (.t 12) (.c (.int .i64 2))),
 oO 154 (.load 1 false (.t 153)),
 oO 155 (.bin .and (.t 152) (.t 154)),
 oO 156 (.bin .xor (.t 150) (.t 155)),
 oO 157 (.bin .add (.t 141) (.t 156)),
 oM 17 157] ⟨.all, [], .look 0 (.look 2 (.look 5 (.look 8 (.look 9 (.look 10 (.look 11 (.look 12 (.look 13 (.look 14 (.look 15 (.look 16 (.look 17 (.look 18 (.look 19 (.look 20 (.look 21 (.look 22 (.run 1 true (.run 3 true (.look 4 (.run 6 true (.look 7 (.look 23 (.look 24 .done))))))))))))))))))))))))⟩)
 (.ops [
 oM 158 16,
 oM 159 17,
 oO 160 (.bin .add (.t 158) (.t 159)),
 oO 161 (.idxP 8 1 (.t 12) (.c (.int .i64 0))),
 oO 162 (.load 1 false (.t 161)),
 oO 163 (.idxP 8 1 (.t 12) (.c (.int .i64 1))),
 oO 164 (.load 1 false (.t 163)),
 oO 165 (.idxP 8 1 (.t 12) (.c (.int .i64 2))),
 oO 166 (.load 1 false (.t 165)),
 oO 167 (.idxP 8 1 (.t 12) (.c (.int .i64 3))),
 oO 168 (.load 1 false (.t 167)),
 oM 169 16,
 oO 170 (.bin .add (.t 168) (.t 169)),
 oO 171 (.idxP 8 1 (.t 12) (.c (.int .i64 4))),
 oO 172 (.load 1 false (.t 171)),
 oO 173 (.idxP 8 1 (.t 12) (.c (.int .i64 5))),
 oO 174 (.load 1 false (.t 173)),
 oO 175 (.idxP 8 1 (.t 12) (.c (.int .i64 6))),
 oO 176 (.load 1 false (.t 175)),
 oO 177 (.build [.int .u32 0, .int .u32 0, .int .u32 0, .int .u32 0, .int .u32 0, .int .u32 0, .int .u32 0, .int .u32 0] [(0, 1, .t 160), (1, 1, .t 162), (2, 1, .t 164), (3, 1, .t 166), (4, 1, .t 170), (5, 1, .t 172), (6, 1, .t 174), (7, 1, .t 176)]),
 oS 8 12 177])))))
 (.ops [
 oM 98 13,
 oO 99 (.bin .add (.t 98) (.c (.int .i64 1))),
 oM 13 99]))))))
 (.seq (.ops [
 oO 18 (.mv (.c (.int .i64 0)))])
 (.block 8
 (.loop
 (.seq (.seq (.ops [
 oM 178 18,
 oO 179 (.bin .lss (.t 178) (.c (.int .i64 8)))])
 (.cond (.t 179)
 .skip
 (.exit 8)))
 (.seq (.block 9
 (.draw [
 oM 182 18,
 oO 183 (.idxP 8 1 (.t 4) (.t 182)),
 oO 184 (.load 1 false (.t 183)),
 oM 185 18,
 oO 186 (.idxP 8 1 (.t 12) (.t 185)),
 oO 187 (.load 1 false (.t 186)),
 oO 188 (.bin .add (.t 184) (.t 187)),
 oO 189 (.idxP 8 1 (.t 4) (.t 182)),
 oS 1 189 188] ⟨.all, [], .look 0 (.look 1 (.look 2 (.look 3 (.look 4 (.look 5 (.look 6 (.look 7 (.run 8 false .done))))))))⟩))
 (.ops [
 oM 180 18,
 oO 181 (.bin .add (.t 180) (.c (.int .i64 1))),
 oM 18 181])))))))))))
 (.ops [
 oM 29 6,
 oO 30 (.bin .add (.t 29) (.c (.int .i64 64))),
 oM 6 30]))))))
 (.seq (.ops [
 oO 19 (.alloc 1 32 [.int .u8 0])])
 (.seq (.seq (.ops [
 oO 20 (.mv (.c (.int .i64 0)))])
 (.block 10
 (.loop
 (.seq (.seq (.ops [
 oM 190 20,
 oO 191 (.bin .lss (.t 190) (.c (.int .i64 32)))])
 (.cond (.t 191)
 .skip
 (.exit 10)))
 (.seq (.block 11
 (.ops [
 oM 194 20,
 oM 195 20,
 oO 196 (.bin .quo (.t 195) (.c (.int .i64 4))),
 oO 197 (.idxP 8 1 (.t 4) (.t 196)),
 oO 198 (.load 1 false (.t 197)),
 oM 199 20,
 oO 200 (.bin .rem (.t 199) (.c (.int .i64 4))),
 oO 201 (.bin .mul (.c (.int .i64 8)) (.t 200)),
 oO 202 (.bin .sub (.c (.int .i64 24)) (.t 201)),
 oO 203 (.conv .u64 (.t 202)),
 oO 204 (.bin .shr (.t 198) (.t 203)),
 oO 205 (.conv .u8 (.t 204)),
 oO 206 (.idxP 32 1 (.t 19) (.t 194)),
 oS 1 206 205]))
 (.ops [
 oM 192 20,
 oO 193 (.bin .add (.t 192) (.c (.int .i64 1))),
 oM 20 193]))))))
 (.seq (.ops [
 oO 207 (.load 32 true (.t 19)),
 oS 32 2 207])
 .ret))))))))⟩
theorem K_witanref04_Sum256 : chkFun DK Pg Try.f92 A_witanref04_Sum256 = true := by kernel_rfl
theorem B_witanref04_Sum256 {args : List AV} {m : Mem} {K : AV → Mem → Prop} (h : vcFun DK Pg A_witanref04_Sum256 args m K) : ACall Pg F_witanref04_Sum256 args m K := call_body mixed Try.func92 (by kernel_rfl) K_witanref04_Sum256 h

noncomputable def A_curve_spread : AFun := ⟨1, 15, [.cell 2 12 true],
 (.seq (.ops [
 oO 1 (.box 9 1 (.t 0)),
 oO 2 (.alloc 12 1 (List.replicate 12 (.int .u64 0)))])
 (.seq (.seq (.ops [
 oO 3 (.fldA 0 (.t 1)),
 oO 4 (.load 1 false (.t 3))])
 (.cond (.t 4)
 (.seq (.ops [
 oO 5 (.build [.int .u64 0, .int .u64 0, .int .u64 0, .int .u64 0] [(0, 1, .c (.int .u64 1))]),
 oO 6 (.build [.int .u64 0, .int .u64 0, .int .u64 0, .int .u64 0] [(0, 1, .c (.int .u64 1))]),
 oO 7 (.build [.int .u64 0, .int .u64 0, .int .u64 0, .int .u64 0] []),
 oO 8 (.build (List.replicate 12 (.int .u64 0)) [(0, 4, .t 5), (4, 4, .t 6), (8, 4, .t 7)]),
 ⟨none, .stA 12 1 12 (.t 2) (.t 8), none⟩])
 .ret)
 .skip))
 (.seq (.ops [
 oO 9 (.fldA 1 (.t 1)),
 oO 10 (.load 4 true (.t 9)),
 oO 11 (.fldA 5 (.t 1)),
 oO 12 (.load 4 true (.t 11)),
 oO 13 (.build [.int .u64 0, .int .u64 0, .int .u64 0, .int .u64 0] [(0, 1, .c (.int .u64 1))]),
 oO 14 (.build (List.replicate 12 (.int .u64 0)) [(0, 4, .t 10), (4, 4, .t 12), (8, 4, .t 13)]),
 ⟨none, .stA 12 1 12 (.t 2) (.t 14), none⟩])
 .ret)))⟩
theorem K_curve_spread : chkFun DK Pg Try.f93 A_curve_spread = true := by kernel_rfl
theorem B_curve_spread {args : List AV} {m : Mem} {K : AV → Mem → Prop} (h : vcFun DK Pg A_curve_spread args m K) : ACall Pg F_curve_spread args m K := call_body mixed Try.func93 (by kernel_rfl) K_curve_spread h

noncomputable def A_curve_base : AFun := ⟨0, 4, [.cell 0 9 true],
 (.seq (.ops [
 oO 0 (.alloc 9 1 [.bool false, .int .u64 0, .int .u64 0, .int .u64 0, .int .u64 0, .int .u64 0, .int .u64 0, .int .u64 0, .int .u64 0])])
 (.seq (.ops [
 oO 1 (.build [.int .u64 0, .int .u64 0, .int .u64 0, .int .u64 0] [(0, 1, .c (.int .u64 6481385041966929816)), (1, 1, .c (.int .u64 188021827762530521)), (2, 1, .c (.int .u64 6170039885052185351)), (3, 1, .c (.int .u64 8772561819708210092))]),
 oO 2 (.build [.int .u64 0, .int .u64 0, .int .u64 0, .int .u64 0] [(0, 1, .c (.int .u64 11261198710074299576)), (1, 1, .c (.int .u64 18237243440184513561)), (2, 1, .c (.int .u64 6747795201694173352)), (3, 1, .c (.int .u64 5204712524664259685))]),
 oO 3 (.build [.bool false, .int .u64 0, .int .u64 0, .int .u64 0, .int .u64 0, .int .u64 0, .int .u64 0, .int .u64 0, .int .u64 0] [(1, 4, .t 1), (5, 4, .t 2)]),
 ⟨none, .stA 9 1 9 (.t 0) (.t 3), none⟩])
 .ret))⟩
theorem K_curve_base : chkFun DK Pg Try.f94 A_curve_base = true := by kernel_rfl
theorem B_curve_base {args : List AV} {m : Mem} {K : AV → Mem → Prop} (h : vcFun DK Pg A_curve_base args m K) : ACall Pg F_curve_base args m K := call_body mixed Try.func94 (by kernel_rfl) K_curve_base h

noncomputable def A_curve_jac_times : AFun := ⟨2, 28, [.cell 4 12 true],
 (.seq (.ops [
 oO 2 (.box 12 1 (.t 0)),
 oO 3 (.box 1 4 (.t 1)),
 oO 4 (.alloc 12 1 (List.replicate 12 (.int .u64 0)))])
 (.seq (.ops [
 oO 7 (.build [.int .u64 0, .int .u64 0, .int .u64 0, .int .u64 0] [(0, 1, .c (.int .u64 1))]),
 oO 8 (.build [.int .u64 0, .int .u64 0, .int .u64 0, .int .u64 0] [(0, 1, .c (.int .u64 1))]),
 oO 9 (.build [.int .u64 0, .int .u64 0, .int .u64 0, .int .u64 0] []),
 oO 10 (.build (List.replicate 12 (.int .u64 0)) [(0, 4, .t 7), (4, 4, .t 8), (8, 4, .t 9)]),
 oO 5 (.alloc 12 1 (List.replicate 12 (.int .u64 0))),
 ⟨none, .stA 12 1 12 (.t 5) (.t 10), none⟩])
 (.seq (.seq (.ops [
 oO 11 (.load 4 true (.t 3)),
 oK 12 F_limb_Len [.t 11],
 oO 13 (.bin .sub (.t 12) (.c (.int .i64 1))),
 oM 6 13])
 (.block 0
 (.loop
 (.seq (.seq (.ops [
 oM 14 6,
 oO 15 (.bin .geq (.t 14) (.c (.int .i64 0)))])
 (.cond (.t 15)
 .skip
 (.exit 0)))
 (.seq (.block 1
 (.seq (.ops [
 oO 18 (.load 12 true (.t 5)),
 oK 19 F_curve_jac_twice [.t 18],
 ⟨none, .stA 12 1 12 (.t 5) (.t 19), none⟩])
 (.seq (.ops [
 oO 20 (.load 4 true (.t 3)),
 oM 21 6,
 oK 22 F_limb_Bit [.t 20, .t 21],
 oO 23 (.bin .eql (.t 22) (.c (.int .i64 1)))])
 (.cond (.t 23)
 (.ops [
 oO 24 (.load 12 true (.t 5)),
 oO 25 (.load 12 true (.t 2)),
 oK 26 F_curve_jac_plus [.t 24, .t 25],
 ⟨none, .stA 12 1 12 (.t 5) (.t 26), none⟩])
 .skip))))
 (.ops [
 oM 16 6,
 oO 17 (.bin .sub (.t 16) (.c (.int .i64 1))),
 oM 6 17]))))))
 (.seq (.ops [
 oO 27 (.load 12 true (.t 5)),
 ⟨none, .stA 12 1 12 (.t 4) (.t 27), none⟩])
 .ret))))⟩
theorem K_curve_jac_times : chkFun DK Pg Try.f95 A_curve_jac_times = true := by kernel_rfl
theorem B_curve_jac_times {args : List AV} {m : Mem} {K : AV → Mem → Prop} (h : vcFun DK Pg A_curve_jac_times args m K) : ACall Pg F_curve_jac_times args m K := call_body mixed Try.func95 (by kernel_rfl) K_curve_jac_times h

noncomputable def A_curve_jac_point : AFun := ⟨1, 27, [.cell 2 9 true],
 (.seq (.ops [
 oO 1 (.box 12 1 (.t 0)),
 oO 2 (.alloc 9 1 [.bool false, .int .u64 0, .int .u64 0, .int .u64 0, .int .u64 0, .int .u64 0, .int .u64 0, .int .u64 0, .int .u64 0])])
 (.seq (.seq (.ops [
 oO 5 (.fldA 8 (.t 1)),
 oO 6 (.load 4 true (.t 5)),
 oO 7 (.build [.int .u64 0, .int .u64 0, .int .u64 0, .int .u64 0] []),
 oO 8 (.eqa [.i, .i, .i, .i] false (.t 6) (.t 7))])
 (.cond (.t 8)
 (.seq (.ops [
 oO 9 (.build [.bool false, .int .u64 0, .int .u64 0, .int .u64 0, .int .u64 0, .int .u64 0, .int .u64 0, .int .u64 0, .int .u64 0] [(0, 1, .c (.bool true))]),
 ⟨none, .stA 9 1 9 (.t 2) (.t 9), none⟩])
 .ret)
 .skip))
 (.seq (.ops [
 oO 10 (.fldA 8 (.t 1)),
 oO 11 (.load 4 true (.t 10)),
 oK 12 F_field_Inv [.c (.int .i64 0), .t 11],
 oO 3 (.alloc 1 4 [.int .u64 0]),
 ⟨none, .stA 1 4 4 (.t 3) (.t 12), none⟩])
 (.seq (.ops [
 oO 13 (.load 4 true (.t 3)),
 oO 14 (.load 4 true (.t 3)),
 oK 15 F_curve_mul [.t 13, .t 14],
 oO 4 (.alloc 1 4 [.int .u64 0]),
 ⟨none, .stA 1 4 4 (.t 4) (.t 15), none⟩])
 (.seq (.draw [
 oO 16 (.fldA 0 (.t 1)),
 oO 17 (.load 4 true (.t 16)),
 oO 18 (.load 4 true (.t 4)),
 oK 19 F_curve_mul [.t 17, .t 18],
 oO 20 (.fldA 4 (.t 1)),
 oO 21 (.load 4 true (.t 20)),
 oO 22 (.load 4 true (.t 4)),
 oO 23 (.load 4 true (.t 3)),
 oK 24 F_curve_mul [.t 22, .t 23],
 oK 25 F_curve_mul [.t 21, .t 24],
 oO 26 (.build [.bool false, .int .u64 0, .int .u64 0, .int .u64 0, .int .u64 0, .int .u64 0, .int .u64 0, .int .u64 0, .int .u64 0] [(1, 4, .t 19), (5, 4, .t 25)]),
 ⟨none, .stA 9 1 9 (.t 2) (.t 26), none⟩] ⟨.all, [], .look 0 (.look 1 (.look 2 (.look 4 (.look 5 (.look 6 (.look 7 (.run 3 true (.run 8 true (.run 9 true (.look 10 (.run 11 false .done)))))))))))⟩)
 .ret)))))⟩
theorem K_curve_jac_point : chkFun DK Pg Try.f96 A_curve_jac_point = true := by kernel_rfl
theorem B_curve_jac_point {args : List AV} {m : Mem} {K : AV → Mem → Prop} (h : vcFun DK Pg A_curve_jac_point args m K) : ACall Pg F_curve_jac_point args m K := call_body mixed Try.func96 (by kernel_rfl) K_curve_jac_point h

noncomputable def A_curve_jac_plus : AFun := ⟨2, 126, [.cell 4 12 true],
 (.seq (.ops [
 oO 2 (.box 12 1 (.t 0)),
 oO 3 (.box 12 1 (.t 1)),
 oO 4 (.alloc 12 1 (List.replicate 12 (.int .u64 0)))])
 (.seq (.ops [
 oO 19 (.build [.int .u64 0, .int .u64 0, .int .u64 0, .int .u64 0] []),
 oO 5 (.alloc 1 4 [.int .u64 0]),
 ⟨none, .stA 1 4 4 (.t 5) (.t 19), none⟩])
 (.seq (.block 0
 (.seq (.ops [
 oO 21 (.fldA 8 (.t 2)),
 oO 22 (.load 4 true (.t 21)),
 oO 23 (.load 4 true (.t 5)),
 oO 24 (.eqa [.i, .i, .i, .i] false (.t 22) (.t 23)),
 oM 20 24])
 (.cond (.t 20)
 (.seq (.ops [
 oO 25 (.load 12 true (.t 3)),
 ⟨none, .stA 12 1 12 (.t 4) (.t 25), none⟩])
 .ret)
 (.seq (.ops [
 oO 27 (.fldA 8 (.t 3)),
 oO 28 (.load 4 true (.t 27)),
 oO 29 (.load 4 true (.t 5)),
 oO 30 (.eqa [.i, .i, .i, .i] false (.t 28) (.t 29)),
 oM 26 30])
 (.cond (.t 26)
 (.seq (.ops [
 oO 31 (.load 12 true (.t 2)),
 ⟨none, .stA 12 1 12 (.t 4) (.t 31), none⟩])
 .ret)
 .skip)))))
 (.seq (.draw [
 oO 32 (.fldA 8 (.t 2)),
 oO 33 (.load 4 true (.t 32)),
 oO 34 (.fldA 8 (.t 2)),
 oO 35 (.load 4 true (.t 34)),
 oK 36 F_curve_mul [.t 33, .t 35],
 oO 37 (.fldA 8 (.t 3)),
 oO 38 (.load 4 true (.t 37)),
 oO 39 (.fldA 8 (.t 3)),
 oO 40 (.load 4 true (.t 39)),
 oK 41 F_curve_mul [.t 38, .t 40],
 oO 6 (.alloc 1 4 [.int .u64 0]),
 oO 7 (.alloc 1 4 [.int .u64 0]),
 oS 4 6 36,
 oS 4 7 41] ⟨.all, [(10, some 12), (11, some 13)], .look 0 (.look 1 (.look 2 (.look 3 (.look 5 (.look 6 (.look 7 (.look 8 (.run 4 true (.pre 10 12 (.run 9 true (.pre 11 13 (.fill .done))))))))))))⟩)
 (.seq (.draw [
 oO 42 (.fldA 0 (.t 2)),
 oO 43 (.load 4 true (.t 42)),
 oO 44 (.load 4 true (.t 7)),
 oK 45 F_curve_mul [.t 43, .t 44],
 oO 46 (.fldA 0 (.t 3)),
 oO 47 (.load 4 true (.t 46)),
 oO 48 (.load 4 true (.t 6)),
 oK 49 F_curve_mul [.t 47, .t 48],
 oO 8 (.alloc 1 4 [.int .u64 0]),
 oO 9 (.alloc 1 4 [.int .u64 0]),
 oS 4 8 45,
 oS 4 9 49] ⟨.all, [(8, some 10), (9, some 11)], .look 0 (.look 1 (.look 2 (.look 4 (.look 5 (.look 6 (.run 3 true (.pre 8 10 (.run 7 true (.pre 9 11 (.fill .done))))))))))⟩)
 (.seq (.draw [
 oO 50 (.fldA 4 (.t 2)),
 oO 51 (.load 4 true (.t 50)),
 oO 52 (.load 4 true (.t 7)),
 oO 53 (.fldA 8 (.t 3)),
 oO 54 (.load 4 true (.t 53)),
 oK 55 F_curve_mul [.t 52, .t 54],
 oK 56 F_curve_mul [.t 51, .t 55],
 oO 57 (.fldA 4 (.t 3)),
 oO 58 (.load 4 true (.t 57)),
 oO 59 (.load 4 true (.t 6)),
 oO 60 (.fldA 8 (.t 2)),
 oO 61 (.load 4 true (.t 60)),
 oK 62 F_curve_mul [.t 59, .t 61],
 oK 63 F_curve_mul [.t 58, .t 62],
 oO 10 (.alloc 1 4 [.int .u64 0]),
 oO 11 (.alloc 1 4 [.int .u64 0]),
 oS 4 10 56,
 oS 4 11 63] ⟨.all, [(14, some 16), (15, some 17)], .look 0 (.look 1 (.look 2 (.look 3 (.look 4 (.look 7 (.look 8 (.look 9 (.look 10 (.look 11 (.run 5 true (.run 6 true (.pre 14 16 (.run 12 true (.run 13 true (.pre 15 17 (.fill .done))))))))))))))))⟩)
 (.seq (.draw [
 oO 64 (.load 4 true (.t 9)),
 oO 65 (.load 4 true (.t 8)),
 oK 66 F_curve_sub [.t 64, .t 65],
 oO 67 (.load 4 true (.t 11)),
 oO 68 (.load 4 true (.t 10)),
 oK 69 F_curve_sub [.t 67, .t 68],
 oO 12 (.alloc 1 4 [.int .u64 0]),
 oO 13 (.alloc 1 4 [.int .u64 0]),
 oS 4 12 66,
 oS 4 13 69] ⟨.all, [(6, some 8), (7, some 9)], .look 0 (.look 1 (.look 3 (.look 4 (.run 2 true (.pre 6 8 (.run 5 true (.pre 7 9 (.fill .done))))))))⟩)
 (.seq (.block 1
 (.seq (.ops [
 oO 71 (.load 4 true (.t 12)),
 oO 72 (.load 4 true (.t 5)),
 oO 73 (.eqa [.i, .i, .i, .i] false (.t 71) (.t 72)),
 oM 74 73,
 oG 75 (.load 4 true (.t 13)) 74 true,
 oG 76 (.load 4 true (.t 5)) 74 true,
 oG 77 (.eqa [.i, .i, .i, .i] false (.t 75) (.t 76)) 74 true,
 oO 78 (.pick (.t 74) (.t 77) (.c (.bool false))),
 oM 70 78])
 (.cond (.t 70)
 (.seq (.ops [
 oO 79 (.load 12 true (.t 2)),
 oK 80 F_curve_jac_twice [.t 79],
 ⟨none, .stA 12 1 12 (.t 4) (.t 80), none⟩])
 .ret)
 (.seq (.ops [
 oO 82 (.load 4 true (.t 12)),
 oO 83 (.load 4 true (.t 5)),
 oO 84 (.eqa [.i, .i, .i, .i] false (.t 82) (.t 83)),
 oM 81 84])
 (.cond (.t 81)
 (.seq (.ops [
 oO 85 (.build [.int .u64 0, .int .u64 0, .int .u64 0, .int .u64 0] [(0, 1, .c (.int .u64 1))]),
 oO 86 (.build [.int .u64 0, .int .u64 0, .int .u64 0, .int .u64 0] [(0, 1, .c (.int .u64 1))]),
 oO 87 (.load 4 true (.t 5)),
 oO 88 (.build (List.replicate 12 (.int .u64 0)) [(0, 4, .t 85), (4, 4, .t 86), (8, 4, .t 87)]),
 ⟨none, .stA 12 1 12 (.t 4) (.t 88), none⟩])
 .ret)
 .skip)))))
 (.seq (.ops [
 oO 89 (.load 4 true (.t 12)),
 oO 90 (.load 4 true (.t 12)),
 oK 91 F_curve_mul [.t 89, .t 90],
 oO 14 (.alloc 1 4 [.int .u64 0]),
 ⟨none, .stA 1 4 4 (.t 14) (.t 91), none⟩])
 (.seq (.draw [
 oO 92 (.load 4 true (.t 14)),
 oO 93 (.load 4 true (.t 12)),
 oK 94 F_curve_mul [.t 92, .t 93],
 oO 95 (.load 4 true (.t 8)),
 oO 96 (.load 4 true (.t 14)),
 oK 97 F_curve_mul [.t 95, .t 96],
 oO 15 (.alloc 1 4 [.int .u64 0]),
 oO 16 (.alloc 1 4 [.int .u64 0]),
 oS 4 15 94,
 oS 4 16 97] ⟨.all, [(6, some 8), (7, some 9)], .look 0 (.look 1 (.look 3 (.look 4 (.run 2 true (.pre 6 8 (.run 5 true (.pre 7 9 (.fill .done))))))))⟩)
 (.seq (.draw [
 oO 98 (.load 4 true (.t 13)),
 oO 99 (.load 4 true (.t 13)),
 oK 100 F_curve_mul [.t 98, .t 99],
 oO 101 (.load 4 true (.t 15)),
 oK 102 F_curve_sub [.t 100, .t 101],
 oO 103 (.load 4 true (.t 16)),
 oO 104 (.load 4 true (.t 16)),
 oK 105 F_curve_add [.t 103, .t 104],
 oK 106 F_curve_sub [.t 102, .t 105],
 oO 17 (.alloc 1 4 [.int .u64 0]),
 oS 4 17 106] ⟨.all, [(9, some 10)], .look 0 (.look 1 (.look 3 (.look 5 (.look 6 (.run 2 true (.run 4 true (.run 7 true (.run 8 true (.pre 9 10 (.fill .done))))))))))⟩)
 (.seq (.draw [
 oO 107 (.load 4 true (.t 13)),
 oO 108 (.load 4 true (.t 16)),
 oO 109 (.load 4 true (.t 17)),
 oK 110 F_curve_sub [.t 108, .t 109],
 oK 111 F_curve_mul [.t 107, .t 110],
 oO 112 (.load 4 true (.t 10)),
 oO 113 (.load 4 true (.t 15)),
 oK 114 F_curve_mul [.t 112, .t 113],
 oK 115 F_curve_sub [.t 111, .t 114],
 oO 18 (.alloc 1 4 [.int .u64 0]),
 oS 4 18 115] ⟨.all, [(9, some 10)], .look 0 (.look 1 (.look 2 (.look 5 (.look 6 (.run 3 true (.run 4 true (.run 7 true (.run 8 true (.pre 9 10 (.fill .done))))))))))⟩)
 (.seq (.draw [
 oO 116 (.load 4 true (.t 17)),
 oO 117 (.load 4 true (.t 18)),
 oO 118 (.load 4 true (.t 12)),
 oO 119 (.fldA 8 (.t 2)),
 oO 120 (.load 4 true (.t 119)),
 oO 121 (.fldA 8 (.t 3)),
 oO 122 (.load 4 true (.t 121)),
 oK 123 F_curve_mul [.t 120, .t 122],
 oK 124 F_curve_mul [.t 118, .t 123],
 oO 125 (.build (List.replicate 12 (.int .u64 0)) [(0, 4, .t 116), (4, 4, .t 117), (8, 4, .t 124)]),
 ⟨none, .stA 12 1 12 (.t 4) (.t 125), none⟩] ⟨.all, [], .look 0 (.look 1 (.look 2 (.look 3 (.look 4 (.look 5 (.look 6 (.run 7 true (.run 8 true (.look 9 (.run 10 false .done))))))))))⟩)
 .ret)))))))))))))⟩
theorem K_curve_jac_plus : chkFun DK Pg Try.f97 A_curve_jac_plus = true := by kernel_rfl
theorem B_curve_jac_plus {args : List AV} {m : Mem} {K : AV → Mem → Prop} (h : vcFun DK Pg A_curve_jac_plus args m K) : ACall Pg F_curve_jac_plus args m K := call_body mixed Try.func97 (by kernel_rfl) K_curve_jac_plus h

noncomputable def A_curve_mul : AFun := ⟨2, 8, [.cell 4 4 true],
 (.seq (.ops [
 oO 2 (.box 1 4 (.t 0)),
 oO 3 (.box 1 4 (.t 1)),
 oO 4 (.alloc 1 4 [.int .u64 0])])
 (.seq (.ops [
 oO 5 (.load 4 true (.t 2)),
 oO 6 (.load 4 true (.t 3)),
 oK 7 F_field_Mul [.c (.int .i64 0), .t 5, .t 6],
 ⟨none, .stA 1 4 4 (.t 4) (.t 7), none⟩])
 .ret))⟩
theorem K_curve_mul : chkFun DK Pg Try.f98 A_curve_mul = true := by kernel_rfl
theorem B_curve_mul {args : List AV} {m : Mem} {K : AV → Mem → Prop} (h : vcFun DK Pg A_curve_mul args m K) : ACall Pg F_curve_mul args m K := call_body mixed Try.func98 (by kernel_rfl) K_curve_mul h

noncomputable def A_curve_right : AFun := ⟨1, 10, [.cell 2 4 true],
 (.seq (.ops [
 oO 1 (.box 1 4 (.t 0)),
 oO 2 (.alloc 1 4 [.int .u64 0])])
 (.seq (.draw [
 oO 3 (.load 4 true (.t 1)),
 oO 4 (.load 4 true (.t 1)),
 oK 5 F_curve_mul [.t 3, .t 4],
 oO 6 (.load 4 true (.t 1)),
 oK 7 F_curve_mul [.t 5, .t 6],
 oO 8 (.build [.int .u64 0, .int .u64 0, .int .u64 0, .int .u64 0] [(0, 1, .c (.int .u64 7))]),
 oK 9 F_curve_add [.t 7, .t 8],
 ⟨none, .stA 1 4 4 (.t 2) (.t 9), none⟩] ⟨.all, [], .look 0 (.look 1 (.look 3 (.look 5 (.run 2 true (.run 4 true (.run 6 false (.run 7 false .done)))))))⟩)
 .ret))⟩
theorem K_curve_right : chkFun DK Pg Try.f99 A_curve_right = true := by kernel_rfl
theorem B_curve_right {args : List AV} {m : Mem} {K : AV → Mem → Prop} (h : vcFun DK Pg A_curve_right args m K) : ACall Pg F_curve_right args m K := call_body mixed Try.func99 (by kernel_rfl) K_curve_right h

noncomputable def A_curve_sub : AFun := ⟨2, 8, [.cell 4 4 true],
 (.seq (.ops [
 oO 2 (.box 1 4 (.t 0)),
 oO 3 (.box 1 4 (.t 1)),
 oO 4 (.alloc 1 4 [.int .u64 0])])
 (.seq (.ops [
 oO 5 (.load 4 true (.t 2)),
 oO 6 (.load 4 true (.t 3)),
 oK 7 F_field_Sub [.c (.int .i64 0), .t 5, .t 6],
 ⟨none, .stA 1 4 4 (.t 4) (.t 7), none⟩])
 .ret))⟩
theorem K_curve_sub : chkFun DK Pg Try.f100 A_curve_sub = true := by kernel_rfl
theorem B_curve_sub {args : List AV} {m : Mem} {K : AV → Mem → Prop} (h : vcFun DK Pg A_curve_sub args m K) : ACall Pg F_curve_sub args m K := call_body mixed Try.func100 (by kernel_rfl) K_curve_sub h

noncomputable def A_witanref01_G : AFun := ⟨0, 4, [.cell 0 9 true],
 (.seq (.ops [
 oO 0 (.alloc 9 1 [.bool false, .int .u64 0, .int .u64 0, .int .u64 0, .int .u64 0, .int .u64 0, .int .u64 0, .int .u64 0, .int .u64 0])])
 (.seq (.ops [
 oO 1 (.build [.int .u64 0, .int .u64 0, .int .u64 0, .int .u64 0] [(0, 1, .c (.int .u64 6481385041966929816)), (1, 1, .c (.int .u64 188021827762530521)), (2, 1, .c (.int .u64 6170039885052185351)), (3, 1, .c (.int .u64 8772561819708210092))]),
 oO 2 (.build [.int .u64 0, .int .u64 0, .int .u64 0, .int .u64 0] [(0, 1, .c (.int .u64 11261198710074299576)), (1, 1, .c (.int .u64 18237243440184513561)), (2, 1, .c (.int .u64 6747795201694173352)), (3, 1, .c (.int .u64 5204712524664259685))]),
 oO 3 (.build [.bool false, .int .u64 0, .int .u64 0, .int .u64 0, .int .u64 0, .int .u64 0, .int .u64 0, .int .u64 0, .int .u64 0] [(1, 4, .t 1), (5, 4, .t 2)]),
 ⟨none, .stA 9 1 9 (.t 0) (.t 3), none⟩])
 .ret))⟩
theorem K_witanref01_G : chkFun DK Pg Try.f101 A_witanref01_G = true := by kernel_rfl
theorem B_witanref01_G {args : List AV} {m : Mem} {K : AV → Mem → Prop} (h : vcFun DK Pg A_witanref01_G args m K) : ACall Pg F_witanref01_G args m K := call_body mixed Try.func101 (by kernel_rfl) K_witanref01_G h

noncomputable def A_field_less : AFun := ⟨1, 12, [.cell 2 4 true, .t 3],
 (.seq (.ops [
 oO 2 (.alloc 1 4 [.int .u64 0]),
 oO 3 (.mv (.c (.bool false)))])
 (.seq (.seq (.ops [
 oM 4 0])
 (.block 0
 (.seq (.ops [
 oO 6 (.bin .eql (.t 4) (.c (.int .i64 0))),
 oM 5 6])
 (.cond (.t 5)
 (.seq (.ops [
 oO 7 (.build [.int .u64 0, .int .u64 0, .int .u64 0, .int .u64 0] [(0, 1, .c (.int .u64 4294968273))]),
 ⟨none, .stA 1 4 4 (.t 2) (.t 7), none⟩,
 oO 3 (.mv (.c (.bool true)))])
 .ret)
 (.seq (.ops [
 oO 9 (.bin .eql (.t 4) (.c (.int .i64 1))),
 oM 8 9])
 (.cond (.t 8)
 (.seq (.ops [
 oO 10 (.build [.int .u64 0, .int .u64 0, .int .u64 0, .int .u64 0] [(0, 1, .c (.int .u64 4624529908474429119)), (1, 1, .c (.int .u64 4994812053365940164)), (2, 1, .c (.int .u64 1))]),
 ⟨none, .stA 1 4 4 (.t 2) (.t 10), none⟩,
 oO 3 (.mv (.c (.bool true)))])
 .ret)
 .skip))))))
 (.seq (.ops [
 oO 11 (.build [.int .u64 0, .int .u64 0, .int .u64 0, .int .u64 0] []),
 ⟨none, .stA 1 4 4 (.t 2) (.t 11), none⟩,
 oO 3 (.mv (.c (.bool false)))])
 .ret)))⟩
theorem K_field_less : chkFun DK Pg Try.f102 A_field_less = true := by kernel_rfl
theorem B_field_less {args : List AV} {m : Mem} {K : AV → Mem → Prop} (h : vcFun DK Pg A_field_less args m K) : ACall Pg F_field_less args m K := call_body mixed Try.func102 (by kernel_rfl) K_field_less h

noncomputable def A_limb_Sub : AFun := ⟨2, 26, [.cell 4 4 true, .t 5],
 (.seq (.ops [
 oO 2 (.box 1 4 (.t 0)),
 oO 3 (.box 1 4 (.t 1)),
 oO 4 (.alloc 1 4 [.int .u64 0]),
 oO 5 (.mv (.c (.int .u64 0)))])
 (.seq (.seq (.ops [
 oO 7 (.mv (.c (.int .i64 0)))])
 (.block 0
 (.loop
 (.seq (.ops [
 oO 8 (.bin .lss (.t 7) (.c (.int .i64 4)))])
 (.seq (.cond (.t 8)
 .skip
 (.exit 0))
 (.seq (.block 1
 (.seq (.ops [
 oM 9 7,
 oM 6 9])
 (.draw [
 oM 11 6,
 oM 12 6,
 oO 13 (.idxP 4 1 (.t 2) (.t 12)),
 oO 14 (.load 1 false (.t 13)),
 oM 15 6,
 oO 16 (.idxP 4 1 (.t 3) (.t 15)),
 oO 17 (.load 1 false (.t 16)),
 oM 18 5,
 oO 19 (.x64 true F_bits_Sub64 (.t 14) (.t 17) (.t 18)),
 oM 10 19,
 oO 20 (.ext (.t 10) 0),
 oO 21 (.ext (.t 10) 1),
 oO 22 (.idxP 4 1 (.t 4) (.t 11)),
 ⟨none, .stA 1 4 1 (.t 22) (.t 20), none⟩,
 oM 5 21] ⟨.all, [], .look 0 (.look 1 (.look 2 (.look 3 (.look 4 (.look 5 (.look 6 (.look 7 (.run 8 true (.look 9 (.look 10 (.look 11 (.look 12 (.run 13 false (.look 14 .done))))))))))))))⟩)))
 (.ops [
 oO 23 (.binF .add (.t 7) (.c (.int .i64 1))),
 oM 7 23])))))))
 (.seq (.ops [
 oO 24 (.load 4 true (.t 4)),
 oM 25 5,
 ⟨none, .stA 1 4 4 (.t 4) (.t 24), none⟩,
 oM 5 25])
 .ret)))⟩
theorem K_limb_Sub : chkFun DK Pg Try.f103 A_limb_Sub = true := by kernel_rfl
theorem B_limb_Sub {args : List AV} {m : Mem} {K : AV → Mem → Prop} (h : vcFun DK Pg A_limb_Sub args m K) : ACall Pg F_limb_Sub args m K := call_body mixed Try.func103 (by kernel_rfl) K_limb_Sub h

noncomputable def A_limb_Mul : AFun := ⟨2, 75, [.cell 4 4 true, .cell 5 4 true],
 (.seq (.ops [
 oO 2 (.box 1 4 (.t 0)),
 oO 3 (.box 1 4 (.t 1)),
 oO 4 (.alloc 1 4 [.int .u64 0]),
 oO 5 (.alloc 1 4 [.int .u64 0])])
 (.seq (.ops [
 oO 6 (.alloc 1 8 [.int .u64 0])])
 (.seq (.seq (.ops [
 oO 14 (.mv (.c (.int .i64 0)))])
 (.block 0
 (.loop
 (.seq (.ops [
 oO 15 (.bin .lss (.t 14) (.c (.int .i64 4)))])
 (.seq (.cond (.t 15)
 .skip
 (.exit 0))
 (.seq (.block 1
 (.seq (.ops [
 oM 16 14,
 oM 7 16])
 (.seq (.ops [
 oO 8 (.mv (.c (.int .u64 0)))])
 (.seq (.seq (.ops [
 oO 17 (.mv (.c (.int .i64 0)))])
 (.block 2
 (.loop
 (.seq (.ops [
 oO 18 (.bin .lss (.t 17) (.c (.int .i64 4)))])
 (.seq (.cond (.t 18)
 .skip
 (.exit 2))
 (.seq (.block 3
 (.seq (.ops [
 oM 19 17,
 oM 9 19])
 (.seq (.draw [
 oM 21 7,
 oO 22 (.idxP 4 1 (.t 2) (.t 21)),
 oO 23 (.load 1 false (.t 22)),
 oM 24 9,
 oO 25 (.idxP 4 1 (.t 3) (.t 24)),
 oO 26 (.load 1 false (.t 25)),
 oK 27 F_bits_Mul64 [.t 23, .t 26],
 oM 20 27,
 oO 28 (.ext (.t 20) 0),
 oO 29 (.ext (.t 20) 1),
 oM 10 28,
 oM 11 29] ⟨.all, [], .look 0 (.look 1 (.look 2 (.look 3 (.look 4 (.look 5 (.run 6 false (.look 7 (.look 8 (.look 9 (.look 10 (.look 11 .done)))))))))))⟩)
 (.seq (.ops [
 oO 12 (.mv (.c (.int .u64 0))),
 oO 13 (.mv (.c (.int .u64 0)))])
 (.seq (.ops [
 oM 31 7,
 oM 32 9,
 oO 33 (.binF .add (.t 31) (.t 32)),
 oM 34 7,
 oM 35 9,
 oO 36 (.binF .add (.t 34) (.t 35)),
 oO 37 (.idxP 8 1 (.t 6) (.t 36)),
 oO 38 (.load 1 false (.t 37)),
 oM 39 11,
 oO 40 (.x64 false F_bits_Add64 (.t 38) (.t 39) (.c (.int .u64 0))),
 oM 30 40,
 oO 41 (.ext (.t 30) 0),
 oO 42 (.ext (.t 30) 1),
 oO 43 (.idxP 8 1 (.t 6) (.t 33)),
 ⟨none, .stA 1 8 1 (.t 43) (.t 41), none⟩,
 oM 12 42])
 (.seq (.ops [
 oM 45 7,
 oM 46 9,
 oO 47 (.binF .add (.t 45) (.t 46)),
 oM 48 7,
 oM 49 9,
 oO 50 (.binF .add (.t 48) (.t 49)),
 oO 51 (.idxP 8 1 (.t 6) (.t 50)),
 oO 52 (.load 1 false (.t 51)),
 oM 53 8,
 oO 54 (.x64 false F_bits_Add64 (.t 52) (.t 53) (.c (.int .u64 0))),
 oM 44 54,
 oO 55 (.ext (.t 44) 0),
 oO 56 (.ext (.t 44) 1),
 oO 57 (.idxP 8 1 (.t 6) (.t 47)),
 ⟨none, .stA 1 8 1 (.t 57) (.t 55), none⟩,
 oM 13 56])
 (.ops [
 oM 58 10,
 oM 59 12,
 oO 60 (.bin .add (.t 58) (.t 59)),
 oM 61 13,
 oO 62 (.bin .add (.t 60) (.t 61)),
 oM 8 62])))))))
 (.ops [
 oO 63 (.binF .add (.t 17) (.c (.int .i64 1))),
 oM 17 63])))))))
 (.ops [
 oM 64 7,
 oO 65 (.binF .add (.t 64) (.c (.int .i64 4))),
 oM 66 8,
 oO 67 (.idxP 8 1 (.t 6) (.t 65)),
 ⟨none, .stA 1 8 1 (.t 67) (.t 66), none⟩])))))
 (.ops [
 oO 68 (.binF .add (.t 14) (.c (.int .i64 1))),
 oM 14 68])))))))
 (.seq (.draw [
 oO 69 (.slarr 8 1 (.t 6) none (some (.c (.int .i64 4))) none),
 oO 70 (.arrp 4 1 (.t 69)),
 oO 71 (.load 4 true (.t 70)),
 oO 72 (.slarr 8 1 (.t 6) (some (.c (.int .i64 4))) none none),
 oO 73 (.arrp 4 1 (.t 72)),
 oO 74 (.load 4 true (.t 73)),
 ⟨none, .stA 1 4 4 (.t 4) (.t 71), none⟩,
 ⟨none, .stA 1 4 4 (.t 5) (.t 74), none⟩] ⟨(.but [4]), [], .look 0 (.look 1 (.look 2 (.look 3 (.look 4 (.look 5 (.run 6 true (.run 7 false .done)))))))⟩)
 .ret))))⟩
theorem K_limb_Mul : chkFun DK Pg Try.f104 A_limb_Mul = true := by kernel_rfl
theorem B_limb_Mul {args : List AV} {m : Mem} {K : AV → Mem → Prop} (h : vcFun DK Pg A_limb_Mul args m K) : ACall Pg F_limb_Mul args m K := call_body mixed Try.func104 (by kernel_rfl) K_limb_Mul h

noncomputable def A_field_fold : AFun := ⟨3, 51, [.cell 6 4 true],
 (.seq (.ops [
 oO 3 (.box 1 4 (.t 0)),
 oO 4 (.box 1 4 (.t 1)),
 oO 5 (.box 1 4 (.t 2)),
 oO 6 (.alloc 1 4 [.int .u64 0])])
 (.seq (.block 0
 (.loop
 (.seq (.seq (.ops [
 oO 12 (.load 4 true (.t 4)),
 oO 13 (.build [.int .u64 0, .int .u64 0, .int .u64 0, .int .u64 0] []),
 oO 14 (.eqa [.i, .i, .i, .i] true (.t 12) (.t 13))])
 (.cond (.t 14)
 .skip
 (.exit 0)))
 (.block 1
 (.seq (.ops [
 oO 16 (.load 4 true (.t 4)),
 oO 17 (.load 4 true (.t 5)),
 oK 18 F_limb_Mul [.t 16, .t 17],
 oM 15 18,
 oO 19 (.ext (.t 15) 0),
 oO 20 (.ext (.t 15) 1),
 oO 7 (.alloc 1 4 [.int .u64 0]),
 oO 8 (.alloc 1 4 [.int .u64 0]),
 ⟨none, .stA 1 4 4 (.t 7) (.t 19), none⟩,
 ⟨none, .stA 1 4 4 (.t 8) (.t 20), none⟩])
 (.seq (.ops [
 oO 9 (.mv (.c (.int .u64 0)))])
 (.seq (.ops [
 oO 22 (.load 4 true (.t 3)),
 oO 23 (.load 4 true (.t 7)),
 oK 24 F_limb_Add [.t 22, .t 23],
 oM 21 24,
 oO 25 (.ext (.t 21) 0),
 oO 26 (.ext (.t 21) 1),
 ⟨none, .stA 1 4 4 (.t 3) (.t 25), none⟩,
 oM 9 26])
 (.ops [
 oO 28 (.load 4 true (.t 8)),
 oM 29 9,
 oO 30 (.build [.int .u64 0, .int .u64 0, .int .u64 0, .int .u64 0] [(0, 1, .t 29)]),
 oK 31 F_limb_Add [.t 28, .t 30],
 oM 27 31,
 oO 32 (.ext (.t 27) 0),
 oO 33 (.ext (.t 27) 1),
 ⟨none, .stA 1 4 4 (.t 4) (.t 32), none⟩]))))))))
 (.seq (.ops [
 oO 35 (.build [.int .u64 0, .int .u64 0, .int .u64 0, .int .u64 0] []),
 oO 36 (.load 4 true (.t 5)),
 oK 37 F_limb_Sub [.t 35, .t 36],
 oM 34 37,
 oO 38 (.ext (.t 34) 0),
 oO 39 (.ext (.t 34) 1),
 oO 10 (.alloc 1 4 [.int .u64 0]),
 ⟨none, .stA 1 4 4 (.t 10) (.t 38), none⟩,
 oM 11 39])
 (.seq (.seq (.ops [
 oO 40 (.load 4 true (.t 3)),
 oO 41 (.load 4 true (.t 10)),
 oK 42 F_limb_Cmp [.t 40, .t 41],
 oO 43 (.bin .geq (.t 42) (.c (.int .i64 0)))])
 (.cond (.t 43)
 (.ops [
 oO 45 (.load 4 true (.t 3)),
 oO 46 (.load 4 true (.t 10)),
 oK 47 F_limb_Sub [.t 45, .t 46],
 oM 44 47,
 oO 48 (.ext (.t 44) 0),
 oO 49 (.ext (.t 44) 1),
 ⟨none, .stA 1 4 4 (.t 3) (.t 48), none⟩])
 .skip))
 (.seq (.ops [
 oO 50 (.load 4 true (.t 3)),
 ⟨none, .stA 1 4 4 (.t 6) (.t 50), none⟩])
 .ret)))))⟩
theorem K_field_fold : chkFun DK Pg Try.f105 A_field_fold = true := by kernel_rfl
theorem B_field_fold {args : List AV} {m : Mem} {K : AV → Mem → Prop} (h : vcFun DK Pg A_field_fold args m K) : ACall Pg F_field_fold args m K := call_body mixed Try.func105 (by kernel_rfl) K_field_fold h

noncomputable def A_limb_Add : AFun := ⟨2, 26, [.cell 4 4 true, .t 5],
 (.seq (.ops [
 oO 2 (.box 1 4 (.t 0)),
 oO 3 (.box 1 4 (.t 1)),
 oO 4 (.alloc 1 4 [.int .u64 0]),
 oO 5 (.mv (.c (.int .u64 0)))])
 (.seq (.seq (.ops [
 oO 7 (.mv (.c (.int .i64 0)))])
 (.block 0
 (.loop
 (.seq (.ops [
 oO 8 (.bin .lss (.t 7) (.c (.int .i64 4)))])
 (.seq (.cond (.t 8)
 .skip
 (.exit 0))
 (.seq (.block 1
 (.seq (.ops [
 oM 9 7,
 oM 6 9])
 (.draw [
 oM 11 6,
 oM 12 6,
 oO 13 (.idxP 4 1 (.t 2) (.t 12)),
 oO 14 (.load 1 false (.t 13)),
 oM 15 6,
 oO 16 (.idxP 4 1 (.t 3) (.t 15)),
 oO 17 (.load 1 false (.t 16)),
 oM 18 5,
 oO 19 (.x64 false F_bits_Add64 (.t 14) (.t 17) (.t 18)),
 oM 10 19,
 oO 20 (.ext (.t 10) 0),
 oO 21 (.ext (.t 10) 1),
 oO 22 (.idxP 4 1 (.t 4) (.t 11)),
 ⟨none, .stA 1 4 1 (.t 22) (.t 20), none⟩,
 oM 5 21] ⟨.all, [], .look 0 (.look 1 (.look 2 (.look 3 (.look 4 (.look 5 (.look 6 (.look 7 (.run 8 true (.look 9 (.look 10 (.look 11 (.look 12 (.run 13 false (.look 14 .done))))))))))))))⟩)))
 (.ops [
 oO 23 (.binF .add (.t 7) (.c (.int .i64 1))),
 oM 7 23])))))))
 (.seq (.ops [
 oO 24 (.load 4 true (.t 4)),
 oM 25 5,
 ⟨none, .stA 1 4 4 (.t 4) (.t 24), none⟩,
 oM 5 25])
 .ret)))⟩
theorem K_limb_Add : chkFun DK Pg Try.f106 A_limb_Add = true := by kernel_rfl
theorem B_limb_Add {args : List AV} {m : Mem} {K : AV → Mem → Prop} (h : vcFun DK Pg A_limb_Add args m K) : ACall Pg F_limb_Add args m K := call_body mixed Try.func106 (by kernel_rfl) K_limb_Add h

noncomputable def A_witanref01_Cmp : AFun := ⟨2, 18, [.t 4],
 (.seq (.ops [
 oO 2 (.box 1 4 (.t 0)),
 oO 3 (.box 1 4 (.t 1)),
 oO 4 (.mv (.c (.int .i64 0)))])
 (.seq (.seq (.ops [
 oO 7 (.load 4 true (.t 2)),
 oO 8 (.load 4 true (.t 3)),
 oO 9 (.eqa [.i, .i, .i, .i] false (.t 7) (.t 8))])
 (.cond (.t 9)
 (.seq (.ops [
 oO 4 (.mv (.c (.int .i64 0)))])
 .ret)
 .skip))
 (.seq (.seq (.ops [
 oO 11 (.load 4 true (.t 2)),
 oO 12 (.load 4 true (.t 3)),
 oK 13 F_witanref01_Sub [.t 11, .t 12],
 oM 10 13,
 oO 14 (.ext (.t 10) 0),
 oO 15 (.ext (.t 10) 1),
 oO 5 (.alloc 1 4 [.int .u64 0]),
 ⟨none, .stA 1 4 4 (.t 5) (.t 14), none⟩,
 oM 6 15])
 (.seq (.ops [
 oM 16 6,
 oO 17 (.bin .eql (.t 16) (.c (.int .u64 1)))])
 (.cond (.t 17)
 (.seq (.ops [
 oO 4 (.mv (.c (.int .i64 (-1))))])
 .ret)
 .skip)))
 (.seq (.ops [
 oO 4 (.mv (.c (.int .i64 1)))])
 .ret))))⟩
theorem K_witanref01_Cmp : chkFun DK Pg Try.f107 A_witanref01_Cmp = true := by kernel_rfl
theorem B_witanref01_Cmp {args : List AV} {m : Mem} {K : AV → Mem → Prop} (h : vcFun DK Pg A_witanref01_Cmp args m K) : ACall Pg F_witanref01_Cmp args m K := call_body mixed Try.func107 (by kernel_rfl) K_witanref01_Cmp h

noncomputable def A_witanref01_Prime : AFun := ⟨1, 20, [.cell 2 4 true],
 (.seq (.ops [
 oO 2 (.alloc 1 4 [.int .u64 0])])
 (.seq (.ops [
 oO 6 (.build [.int .u64 0, .int .u64 0, .int .u64 0, .int .u64 0] []),
 oM 7 0,
 oK 8 F_witanref01_small [.t 7],
 oK 9 F_witanref01_Sub [.t 6, .t 8],
 oM 5 9,
 oO 10 (.ext (.t 5) 0),
 oO 11 (.ext (.t 5) 1),
 oO 3 (.alloc 1 4 [.int .u64 0]),
 ⟨none, .stA 1 4 4 (.t 3) (.t 10), none⟩,
 oM 4 11])
 (.seq (.seq (.ops [
 oM 12 0,
 oO 13 (.bin .neq (.t 12) (.c (.int .i64 0))),
 oM 14 13,
 oG 15 (.mv (.t 0)) 14 true,
 oG 16 (.bin .neq (.t 15) (.c (.int .i64 1))) 14 true,
 oO 17 (.pick (.t 14) (.t 16) (.c (.bool false)))])
 (.cond (.t 17)
 (.seq (.ops [
 oO 18 (.build [.int .u64 0, .int .u64 0, .int .u64 0, .int .u64 0] []),
 ⟨none, .stA 1 4 4 (.t 2) (.t 18), none⟩])
 .ret)
 .skip))
 (.seq (.ops [
 oO 19 (.load 4 true (.t 3)),
 ⟨none, .stA 1 4 4 (.t 2) (.t 19), none⟩])
 .ret))))⟩
theorem K_witanref01_Prime : chkFun DK Pg Try.f108 A_witanref01_Prime = true := by kernel_rfl
theorem B_witanref01_Prime {args : List AV} {m : Mem} {K : AV → Mem → Prop} (h : vcFun DK Pg A_witanref01_Prime args m K) : ACall Pg F_witanref01_Prime args m K := call_body mixed Try.func108 (by kernel_rfl) K_witanref01_Prime h

noncomputable def A_witanref01_mul : AFun := ⟨2, 8, [.cell 4 4 true],
 (.seq (.ops [
 oO 2 (.box 1 4 (.t 0)),
 oO 3 (.box 1 4 (.t 1)),
 oO 4 (.alloc 1 4 [.int .u64 0])])
 (.seq (.ops [
 oO 5 (.load 4 true (.t 2)),
 oO 6 (.load 4 true (.t 3)),
 oK 7 F_witanref01_FMul [.c (.int .i64 0), .t 5, .t 6],
 ⟨none, .stA 1 4 4 (.t 4) (.t 7), none⟩])
 .ret))⟩
theorem K_witanref01_mul : chkFun DK Pg Try.f109 A_witanref01_mul = true := by kernel_rfl
theorem B_witanref01_mul {args : List AV} {m : Mem} {K : AV → Mem → Prop} (h : vcFun DK Pg A_witanref01_mul args m K) : ACall Pg F_witanref01_mul args m K := call_body mixed Try.func109 (by kernel_rfl) K_witanref01_mul h

noncomputable def A_witanref01_add : AFun := ⟨2, 8, [.cell 4 4 true],
 (.seq (.ops [
 oO 2 (.box 1 4 (.t 0)),
 oO 3 (.box 1 4 (.t 1)),
 oO 4 (.alloc 1 4 [.int .u64 0])])
 (.seq (.ops [
 oO 5 (.load 4 true (.t 2)),
 oO 6 (.load 4 true (.t 3)),
 oK 7 F_witanref01_FAdd [.c (.int .i64 0), .t 5, .t 6],
 ⟨none, .stA 1 4 4 (.t 4) (.t 7), none⟩])
 .ret))⟩
theorem K_witanref01_add : chkFun DK Pg Try.f110 A_witanref01_add = true := by kernel_rfl
theorem B_witanref01_add {args : List AV} {m : Mem} {K : AV → Mem → Prop} (h : vcFun DK Pg A_witanref01_add args m K) : ACall Pg F_witanref01_add args m K := call_body mixed Try.func110 (by kernel_rfl) K_witanref01_add h

noncomputable def A_witanref01_sub : AFun := ⟨2, 8, [.cell 4 4 true],
 (.seq (.ops [
 oO 2 (.box 1 4 (.t 0)),
 oO 3 (.box 1 4 (.t 1)),
 oO 4 (.alloc 1 4 [.int .u64 0])])
 (.seq (.ops [
 oO 5 (.load 4 true (.t 2)),
 oO 6 (.load 4 true (.t 3)),
 oK 7 F_witanref01_FSub [.c (.int .i64 0), .t 5, .t 6],
 ⟨none, .stA 1 4 4 (.t 4) (.t 7), none⟩])
 .ret))⟩
theorem K_witanref01_sub : chkFun DK Pg Try.f111 A_witanref01_sub = true := by kernel_rfl
theorem B_witanref01_sub {args : List AV} {m : Mem} {K : AV → Mem → Prop} (h : vcFun DK Pg A_witanref01_sub args m K) : ACall Pg F_witanref01_sub args m K := call_body mixed Try.func111 (by kernel_rfl) K_witanref01_sub h

noncomputable def A_witanref01_down : AFun := ⟨1, 27, [.cell 2 9 true],
 (.seq (.ops [
 oO 1 (.box 12 1 (.t 0)),
 oO 2 (.alloc 9 1 [.bool false, .int .u64 0, .int .u64 0, .int .u64 0, .int .u64 0, .int .u64 0, .int .u64 0, .int .u64 0, .int .u64 0])])
 (.seq (.seq (.ops [
 oO 5 (.fldA 8 (.t 1)),
 oO 6 (.load 4 true (.t 5)),
 oO 7 (.build [.int .u64 0, .int .u64 0, .int .u64 0, .int .u64 0] []),
 oO 8 (.eqa [.i, .i, .i, .i] false (.t 6) (.t 7))])
 (.cond (.t 8)
 (.seq (.ops [
 oK 9 F_witanref01_Inf [],
 ⟨none, .stA 9 1 9 (.t 2) (.t 9), none⟩])
 .ret)
 .skip))
 (.seq (.ops [
 oO 10 (.fldA 8 (.t 1)),
 oO 11 (.load 4 true (.t 10)),
 oK 12 F_witanref01_Inv [.c (.int .i64 0), .t 11],
 oO 3 (.alloc 1 4 [.int .u64 0]),
 ⟨none, .stA 1 4 4 (.t 3) (.t 12), none⟩])
 (.seq (.ops [
 oO 13 (.load 4 true (.t 3)),
 oO 14 (.load 4 true (.t 3)),
 oK 15 F_witanref01_mul [.t 13, .t 14],
 oO 4 (.alloc 1 4 [.int .u64 0]),
 ⟨none, .stA 1 4 4 (.t 4) (.t 15), none⟩])
 (.seq (.draw [
 oO 16 (.fldA 0 (.t 1)),
 oO 17 (.load 4 true (.t 16)),
 oO 18 (.load 4 true (.t 4)),
 oK 19 F_witanref01_mul [.t 17, .t 18],
 oO 20 (.fldA 4 (.t 1)),
 oO 21 (.load 4 true (.t 20)),
 oO 22 (.load 4 true (.t 4)),
 oO 23 (.load 4 true (.t 3)),
 oK 24 F_witanref01_mul [.t 22, .t 23],
 oK 25 F_witanref01_mul [.t 21, .t 24],
 oO 26 (.build [.bool false, .int .u64 0, .int .u64 0, .int .u64 0, .int .u64 0, .int .u64 0, .int .u64 0, .int .u64 0, .int .u64 0] [(1, 4, .t 19), (5, 4, .t 25)]),
 ⟨none, .stA 9 1 9 (.t 2) (.t 26), none⟩] ⟨.all, [], .look 0 (.look 1 (.look 2 (.look 4 (.look 5 (.look 6 (.look 7 (.run 3 true (.run 8 true (.run 9 true (.look 10 (.run 11 false .done)))))))))))⟩)
 .ret)))))⟩
theorem K_witanref01_down : chkFun DK Pg Try.f112 A_witanref01_down = true := by kernel_rfl
theorem B_witanref01_down {args : List AV} {m : Mem} {K : AV → Mem → Prop} (h : vcFun DK Pg A_witanref01_down args m K) : ACall Pg F_witanref01_down args m K := call_body mixed Try.func112 (by kernel_rfl) K_witanref01_down h

noncomputable def A_witanref01_times : AFun := ⟨2, 24, [.cell 4 12 true],
 (.seq (.ops [
 oO 2 (.box 1 4 (.t 0)),
 oO 3 (.box 9 1 (.t 1)),
 oO 4 (.alloc 12 1 (List.replicate 12 (.int .u64 0)))])
 (.seq (.ops [
 oK 7 F_witanref01_Inf [],
 oK 8 F_witanref01_up [.t 7],
 oO 5 (.alloc 12 1 (List.replicate 12 (.int .u64 0))),
 ⟨none, .stA 12 1 12 (.t 5) (.t 8), none⟩])
 (.seq (.seq (.ops [
 oO 6 (.mv (.c (.int .i64 255)))])
 (.block 0
 (.loop
 (.seq (.seq (.ops [
 oM 9 6,
 oO 10 (.bin .geq (.t 9) (.c (.int .i64 0)))])
 (.cond (.t 10)
 .skip
 (.exit 0)))
 (.seq (.block 1
 (.seq (.ops [
 oO 13 (.load 12 true (.t 5)),
 oK 14 F_witanref01_twice [.t 13],
 ⟨none, .stA 12 1 12 (.t 5) (.t 14), none⟩])
 (.seq (.ops [
 oO 15 (.load 4 true (.t 2)),
 oM 16 6,
 oK 17 F_witanref01_Bit [.t 15, .t 16],
 oO 18 (.bin .eql (.t 17) (.c (.int .i64 1)))])
 (.cond (.t 18)
 (.draw [
 oO 19 (.load 12 true (.t 5)),
 oO 20 (.load 9 true (.t 3)),
 oK 21 F_witanref01_up [.t 20],
 oK 22 F_witanref01_plus [.t 19, .t 21],
 ⟨none, .stA 12 1 12 (.t 5) (.t 22), none⟩] ⟨.all, [], .look 0 (.look 1 (.run 2 true (.run 3 false (.run 4 false .done))))⟩)
 .skip))))
 (.ops [
 oM 11 6,
 oO 12 (.bin .sub (.t 11) (.c (.int .i64 1))),
 oM 6 12]))))))
 (.seq (.ops [
 oO 23 (.load 12 true (.t 5)),
 ⟨none, .stA 12 1 12 (.t 4) (.t 23), none⟩])
 .ret))))⟩
theorem K_witanref01_times : chkFun DK Pg Try.f113 A_witanref01_times = true := by kernel_rfl
theorem B_witanref01_times {args : List AV} {m : Mem} {K : AV → Mem → Prop} (h : vcFun DK Pg A_witanref01_times args m K) : ACall Pg F_witanref01_times args m K := call_body mixed Try.func113 (by kernel_rfl) K_witanref01_times h

end Go.Proofs.Ytmngdaeogbjpiaa
end

