/- Texts of a proof, one behind the other; the last of these: The told forms of the functions that this seat reaches, each held against the program by a closed test; no condition. -/
import Derived.Test.YtdeholmpcbakbaaZ4
import Derived.Test.YtdeholmpcbakbaaProg
section
/- The told forms of the functions that this seat reaches, each held against the program by a closed test; no condition. -/
set_option maxRecDepth 100000
set_option maxHeartbeats 1000000
namespace Go.Proofs.Ytdeholmpcbakbaa
open Go Go.Wit

noncomputable abbrev Pg : Program := Try.prog
def oM (d s : Nat) : AOpr := ⟨some d, .mv (.t s), none⟩
def oK (d f : Nat) (l : List Opn) : AOpr := ⟨some d, .call (.c (.fn f [])) l, none⟩
def oO (d : Nat) (o : AOp) : AOpr := ⟨some d, o, none⟩
def oG (d : Nat) (o : AOp) (t : Nat) (b : Bool) : AOpr := ⟨some d, o, some (t, b)⟩
def oS (z a b : Nat) : AOpr := ⟨none, .store z (.t a) (.t b), none⟩
abbrev F_witanlaw08_PairStreams : Nat := 10
abbrev F_witanlaw08_PairExact : Nat := 11
abbrev F_witanlaw08_PairBack : Nat := 12
abbrev F_witanlaw09_DleqProves : Nat := 13
abbrev F_witanlaw09_DleqHolds : Nat := 14
abbrev F_witanlaw09_DleqBack : Nat := 15
abbrev F_witanlaw09_DleqParts : Nat := 16
abbrev F_draw_Scalar : Nat := 19
abbrev F_witanref04_Scalar : Nat := 20
abbrev F_witanref01_Cmp : Nat := 23
abbrev F_field_Prime : Nat := 24
abbrev F_witankeep_Point : Nat := 27
abbrev F_curve_Check : Nat := 28
abbrev F_sha_Sum : Nat := 29
abbrev F_limb_Mod : Nat := 33
abbrev F_limb_Of : Nat := 34
abbrev F_draw_Stream : Nat := 35
abbrev F_witanref04_Stream : Nat := 37
abbrev F_sha_Mac : Nat := 38
abbrev F_curve_Base : Nat := 39
abbrev F_curve_Bytes : Nat := 40
abbrev F_pair_Seal : Nat := 41
abbrev F_limb_Bytes : Nat := 42
abbrev F_witanlaw08_wakes : Nat := 43
abbrev F_pair_Key : Nat := 44
abbrev F_witanref01_Check : Nat := 45
abbrev F_witanref01_Times : Nat := 46
abbrev F_pair_Open : Nat := 47
abbrev F_witanref06_Seal : Nat := 48
abbrev F_witanref06_Open : Nat := 49
abbrev F_dleq_Prove : Nat := 50
abbrev F_witankeep_Proof : Nat := 51
abbrev F_witanlaw09_wakes : Nat := 52
abbrev F_witanref06_Prove : Nat := 53
abbrev F_dleq_Holds : Nat := 54
abbrev F_witanref06_Holds : Nat := 55
abbrev F_curve_Times : Nat := 56
abbrev F_witanref01_Add : Nat := 57
abbrev F_curve_Two : Nat := 58
abbrev F_field_Sub : Nat := 59
abbrev F_field_Mul : Nat := 60
abbrev F_draw_joined : Nat := 61
abbrev F_draw_with : Nat := 62
abbrev F_witanref04_Joined : Nat := 63
abbrev F_witanref04_Sum256 : Nat := 64
abbrev F_witanref04_join : Nat := 65
abbrev F_witanref01_Wide : Nat := 66
abbrev F_witanref01_Of : Nat := 67
abbrev F_witanref01_Sub : Nat := 68
abbrev F_field_less : Nat := 69
abbrev F_limb_Sub : Nat := 70
abbrev F_draw_number : Nat := 71
abbrev F_witanref04_be : Nat := 72
abbrev F_limb_Cmp : Nat := 74
abbrev F_curve_mul : Nat := 75
abbrev F_curve_right : Nat := 76
abbrev F_sha_rounds : Nat := 77
abbrev F_sha_padded : Nat := 78
abbrev F_sha_high : Nat := 79
abbrev F_bits_RotateLeft32 : Nat := 80
abbrev F_curve_sub : Nat := 83
abbrev F_limb_Add : Nat := 84
abbrev F_limb_Bit : Nat := 85
abbrev F_witanref04_Mac : Nat := 86
abbrev F_curve_spread : Nat := 87
abbrev F_curve_base : Nat := 88
abbrev F_curve_jac_times : Nat := 89
abbrev F_curve_jac_point : Nat := 90
abbrev F_pair_turned : Nat := 91
abbrev F_witanref01_Prime : Nat := 92
abbrev F_witanref01_mul : Nat := 93
abbrev F_witanref01_add : Nat := 94
abbrev F_witanref01_down : Nat := 95
abbrev F_witanref01_times : Nat := 96
abbrev F_witanref01_Bytes : Nat := 97
abbrev F_witanref06_stream : Nat := 98
abbrev F_dleq_challenge : Nat := 99
abbrev F_witanref06_challenge : Nat := 100
abbrev F_witanref01_Base : Nat := 101
abbrev F_witanref06_sub : Nat := 102
abbrev F_witanref06_mul : Nat := 103
abbrev F_curve_Add : Nat := 104
abbrev F_dleq_times : Nat := 105
abbrev F_witanref06_Below : Nat := 106
abbrev F_witanref01_Two : Nat := 107
abbrev F_witanref01_G : Nat := 108
abbrev F_bits_Add64 : Nat := 109
abbrev F_curve_jac_plus : Nat := 110
abbrev F_field_Red : Nat := 111
abbrev F_field_Add : Nat := 112
abbrev F_limb_Mul : Nat := 113
abbrev F_field_fold : Nat := 114
abbrev F_witanref04_k256 : Nat := 115
abbrev F_witanref04_padded : Nat := 116
abbrev F_witanref04_rot32 : Nat := 117
abbrev F_witanref01_fold : Nat := 118
abbrev F_bits_Sub64 : Nat := 119
abbrev F_witanref01_Inf : Nat := 120
abbrev F_witanref01_sub : Nat := 122
abbrev F_curve_add : Nat := 123
abbrev F_field_Pow : Nat := 124
abbrev F_limb_Len : Nat := 125
abbrev F_curve_jac_twice : Nat := 126
abbrev F_field_Inv : Nat := 127
abbrev F_pair_dealer : Nat := 128
abbrev F_witanref01_small : Nat := 129
abbrev F_witanref01_FMul : Nat := 130
abbrev F_witanref01_FAdd : Nat := 131
abbrev F_witanref01_Inv : Nat := 132
abbrev F_witanref01_up : Nat := 133
abbrev F_witanref01_twice : Nat := 134
abbrev F_witanref01_Bit : Nat := 135
abbrev F_witanref01_plus : Nat := 136
abbrev F_witanref01_PointBytes : Nat := 137
abbrev F_witanref01_FSub : Nat := 138
abbrev F_bits_Mul64 : Nat := 139
abbrev F_witanref01_Mul : Nat := 140
abbrev F_witanref01_Red : Nat := 141
abbrev F_witanref01_Pow : Nat := 142
abbrev F_bits_Len64 : Nat := 143
abbrev F_witanref01_ok : Nat := 144
theorem mixed : Pg.follows .mixedOrders = true := by kernel_rfl

noncomputable def A_witanlaw08_PairStreams : AFun := ⟨5, 124, [.t 10],
 (.seq (.ops [
 oO 5 (.box 1 4 (.t 0)),
 oO 6 (.box 1 4 (.t 1)),
 oO 7 (.box 1 4 (.t 2)),
 oO 10 (.mv (.c (.bool false)))])
 (.seq (.ops [
 oM 23 3,
 oO 24 (.conv .u64 (.t 23)),
 oO 25 (.bin .rem (.t 24) (.c (.int .u64 8))),
 oO 26 (.conv .i64 (.t 25)),
 oO 27 (.bin .add (.c (.int .i64 1)) (.t 26)),
 oM 28 4,
 oO 29 (.conv .u64 (.t 28)),
 oO 30 (.bin .rem (.t 29) (.c (.int .u64 8))),
 oO 31 (.conv .i64 (.t 30)),
 oO 32 (.bin .add (.c (.int .i64 1)) (.t 31)),
 oM 3 27,
 oM 4 32])
 (.seq (.ops [
 oO 33 (.load 4 true (.t 5)),
 oK 34 F_curve_Base [.t 33],
 oO 11 (.alloc 9 1 [.bool false, .int .u64 0, .int .u64 0, .int .u64 0, .int .u64 0, .int .u64 0, .int .u64 0, .int .u64 0, .int .u64 0]),
 ⟨none, .stA 9 1 9 (.t 11) (.t 34), none⟩])
 (.seq (.ops [
 oO 36 (.load 9 true (.t 11)),
 oK 37 F_curve_Bytes [.t 36],
 oM 35 37,
 oO 38 (.ext (.t 35) 0),
 oO 39 (.ext (.t 35) 1),
 oM 12 38,
 oM 13 39])
 (.seq (.ops [
 oM 41 12,
 oM 42 3,
 oO 43 (.conv .u8 (.t 42)),
 oM 44 4,
 oO 45 (.conv .u8 (.t 44)),
 oO 46 (.bsl 1 2 [.int .u8 0] [(0, 1, .t 43), (1, 1, .t 45)]),
 oO 47 (.app 1 1 (.t 41) (.t 46)),
 oK 48 F_draw_Stream [.t 47, .c (.int .i64 32)],
 oM 40 48,
 oO 49 (.ext (.t 40) 0),
 oO 50 (.ext (.t 40) 1),
 oM 14 49,
 oM 15 50])
 (.seq (.ops [
 oO 52 (.load 9 true (.t 11)),
 oM 53 3,
 oM 54 4,
 oO 55 (.load 4 true (.t 6)),
 oK 56 F_pair_Seal [.t 52, .t 53, .t 54, .t 55],
 oM 51 56,
 oO 57 (.ext (.t 51) 0),
 oO 58 (.ext (.t 51) 1),
 oO 16 (.alloc 1 32 [.int .u8 0]),
 oS 32 16 57,
 oM 17 58])
 (.seq (.ops [
 oO 60 (.load 9 true (.t 11)),
 oM 61 3,
 oM 62 4,
 oO 63 (.load 4 true (.t 7)),
 oK 64 F_pair_Seal [.t 60, .t 61, .t 62, .t 63],
 oM 59 64,
 oO 65 (.ext (.t 59) 0),
 oO 66 (.ext (.t 59) 1),
 oO 18 (.alloc 1 32 [.int .u8 0]),
 oS 32 18 65,
 oM 19 66])
 (.seq (.seq (.ops [
 oM 67 13,
 oO 68 (.bin .neq (.t 67) (.c (.int .i64 0))),
 oM 69 68,
 oG 70 (.mv (.t 15)) 69 false,
 oG 71 (.bin .neq (.t 70) (.c (.int .i64 0))) 69 false,
 oO 72 (.pick (.t 69) (.c (.bool true)) (.t 71)),
 oM 73 72,
 oG 74 (.mv (.t 17)) 73 false,
 oG 75 (.bin .neq (.t 74) (.c (.int .i64 0))) 73 false,
 oO 76 (.pick (.t 73) (.c (.bool true)) (.t 75)),
 oM 77 76,
 oG 78 (.mv (.t 19)) 77 false,
 oG 79 (.bin .neq (.t 78) (.c (.int .i64 0))) 77 false,
 oO 80 (.pick (.t 77) (.c (.bool true)) (.t 79)),
 oM 81 80,
 oG 82 (.mv (.t 14)) 81 false,
 oG 83 (.len (.t 82)) 81 false,
 oG 84 (.bin .neq (.t 83) (.c (.int .i64 32))) 81 false,
 oO 85 (.pick (.t 81) (.c (.bool true)) (.t 84))])
 (.cond (.t 85)
 (.seq (.ops [
 oO 10 (.mv (.c (.bool false)))])
 .ret)
 .skip))
 (.seq (.draw [
 oO 86 (.load 4 true (.t 6)),
 oK 87 F_limb_Bytes [.t 86],
 oO 88 (.load 4 true (.t 7)),
 oK 89 F_limb_Bytes [.t 88],
 oO 20 (.alloc 1 32 [.int .u8 0]),
 oO 21 (.alloc 1 32 [.int .u8 0]),
 oS 32 20 87,
 oS 32 21 89] ⟨.all, [(4, some 6), (5, some 7)], .look 0 (.look 2 (.run 1 true (.pre 4 6 (.run 3 true (.pre 5 7 (.fill .done))))))⟩)
 (.seq (.seq (.ops [
 oO 22 (.mv (.c (.int .i64 0)))])
 (.block 0
 (.loop
 (.seq (.seq (.ops [
 oM 90 22,
 oO 91 (.bin .lss (.t 90) (.c (.int .i64 32)))])
 (.cond (.t 91)
 .skip
 (.exit 0)))
 (.seq (.block 1
 (.seq (.draw [
 oM 94 22,
 oO 95 (.idxP 32 1 (.t 16) (.t 94)),
 oO 96 (.load 1 false (.t 95)),
 oM 97 22,
 oO 98 (.idxP 32 1 (.t 20) (.t 97)),
 oO 99 (.load 1 false (.t 98)),
 oM 100 14,
 oM 101 22,
 oO 102 (.idxA 1 (.t 100) (.t 101)),
 oO 103 (.load 1 false (.t 102)),
 oO 104 (.bin .xor (.t 99) (.t 103)),
 oO 105 (.bin .neq (.t 96) (.t 104)),
 oM 106 105,
 oG 107 (.mv (.t 22)) 106 false,
 oG 108 (.idxP 32 1 (.t 16) (.t 107)) 106 false,
 oG 109 (.load 1 false (.t 108)) 106 false,
 oG 110 (.mv (.t 22)) 106 false,
 oG 111 (.idxP 32 1 (.t 18) (.t 110)) 106 false,
 oG 112 (.load 1 false (.t 111)) 106 false,
 oG 113 (.bin .xor (.t 109) (.t 112)) 106 false,
 oG 114 (.mv (.t 22)) 106 false,
 oG 115 (.idxP 32 1 (.t 20) (.t 114)) 106 false,
 oG 116 (.load 1 false (.t 115)) 106 false,
 oG 117 (.mv (.t 22)) 106 false,
 oG 118 (.idxP 32 1 (.t 21) (.t 117)) 106 false,
 oG 119 (.load 1 false (.t 118)) 106 false,
 oG 120 (.bin .xor (.t 116) (.t 119)) 106 false,
 oG 121 (.bin .neq (.t 113) (.t 120)) 106 false,
 oO 122 (.pick (.t 106) (.c (.bool true)) (.t 121))] ⟨.no, [], .flat⟩)
 (.cond (.t 122)
 (.seq (.ops [
 oO 10 (.mv (.c (.bool false)))])
 .ret)
 .skip)))
 (.ops [
 oM 92 22,
 oO 93 (.bin .add (.t 92) (.c (.int .i64 1))),
 oM 22 93]))))))
 (.seq (.ops [
 oK 123 F_witanlaw08_wakes [],
 oM 10 123])
 .ret)))))))))))⟩
theorem K_witanlaw08_PairStreams : chkFun DK Pg Try.f10 A_witanlaw08_PairStreams = true := by kernel_rfl
theorem B_witanlaw08_PairStreams {args : List AV} {m : Mem} {K : AV → Mem → Prop} (h : vcFun DK Pg A_witanlaw08_PairStreams args m K) : ACall Pg F_witanlaw08_PairStreams args m K := call_body mixed Try.func10 (by kernel_rfl) K_witanlaw08_PairStreams h

noncomputable def A_witanlaw08_PairExact : AFun := ⟨7, 131, [.t 14],
 (.seq (.ops [
 oO 7 (.box 1 4 (.t 0)),
 oO 8 (.box 9 1 (.t 1)),
 oO 9 (.box 9 1 (.t 2)),
 oO 12 (.box 1 4 (.t 5)),
 oO 13 (.box 1 32 (.t 6)),
 oO 14 (.mv (.c (.bool false)))])
 (.seq (.ops [
 oO 22 (.load 4 true (.t 7)),
 oO 23 (.load 9 true (.t 8)),
 oK 24 F_pair_Key [.t 22, .t 23],
 oM 21 24,
 oO 25 (.ext (.t 21) 0),
 oO 26 (.ext (.t 21) 1),
 oO 15 (.alloc 9 1 [.bool false, .int .u64 0, .int .u64 0, .int .u64 0, .int .u64 0, .int .u64 0, .int .u64 0, .int .u64 0, .int .u64 0]),
 ⟨none, .stA 9 1 9 (.t 15) (.t 25), none⟩,
 oM 16 26])
 (.seq (.seq (.ops [
 oO 27 (.load 9 true (.t 8)),
 oK 28 F_witanref01_Check [.t 27],
 oO 29 (.un .not (.t 28))])
 (.cond (.t 29)
 (.seq (.ops [
 oM 30 16,
 oO 31 (.bin .neq (.t 30) (.c (.int .i64 3))),
 oM 32 31,
 oG 33 (.load 9 true (.t 15)) 32 false,
 oG 34 (.build [.bool false, .int .u64 0, .int .u64 0, .int .u64 0, .int .u64 0, .int .u64 0, .int .u64 0, .int .u64 0, .int .u64 0] []) 32 false,
 oG 35 (.call (.c (.fn F_witankeep_Point [])) [.t 33, .t 34]) 32 false,
 oG 36 (.un .not (.t 35)) 32 false,
 oO 37 (.pick (.t 32) (.c (.bool true)) (.t 36))])
 (.cond (.t 37)
 (.seq (.ops [
 oO 14 (.mv (.c (.bool false)))])
 .ret)
 .skip))
 (.seq (.draw [
 oM 38 16,
 oO 39 (.bin .neq (.t 38) (.c (.int .i64 0))),
 oM 40 39,
 oG 41 (.load 9 true (.t 15)) 40 false,
 oG 42 (.load 4 true (.t 7)) 40 false,
 oG 43 (.load 9 true (.t 8)) 40 false,
 oG 44 (.call (.c (.fn F_witanref01_Times [])) [.t 42, .t 43]) 40 false,
 oG 45 (.call (.c (.fn F_witankeep_Point [])) [.t 41, .t 44]) 40 false,
 oG 46 (.un .not (.t 45)) 40 false,
 oO 47 (.pick (.t 40) (.c (.bool true)) (.t 46))] ⟨.all, [], .look 0 (.look 1 (.look 2 (.look 3 (.look 4 (.look 5 (.run 6 true (.run 7 true (.look 8 (.look 9 .done)))))))))⟩)
 (.cond (.t 47)
 (.seq (.ops [
 oO 14 (.mv (.c (.bool false)))])
 .ret)
 .skip))))
 (.seq (.ops [
 oO 49 (.load 9 true (.t 9)),
 oM 50 3,
 oM 51 4,
 oO 52 (.load 4 true (.t 12)),
 oK 53 F_pair_Seal [.t 49, .t 50, .t 51, .t 52],
 oM 48 53,
 oO 54 (.ext (.t 48) 0),
 oO 55 (.ext (.t 48) 1),
 oO 17 (.alloc 1 32 [.int .u8 0]),
 oS 32 17 54,
 oM 16 55])
 (.seq (.ops [
 oO 57 (.load 9 true (.t 9)),
 oM 58 3,
 oM 59 4,
 oO 60 (.load 32 true (.t 13)),
 oK 61 F_pair_Open [.t 57, .t 58, .t 59, .t 60],
 oM 56 61,
 oO 62 (.ext (.t 56) 0),
 oO 63 (.ext (.t 56) 1),
 oO 18 (.alloc 1 4 [.int .u64 0]),
 ⟨none, .stA 1 4 4 (.t 18) (.t 62), none⟩,
 oM 19 63])
 (.seq (.ops [
 oO 20 (.mv (.c (.int .i64 0)))])
 (.seq (.seq (.ops [
 oM 64 3,
 oO 65 (.bin .lss (.t 64) (.c (.int .i64 1))),
 oM 66 65,
 oG 67 (.mv (.t 4)) 66 false,
 oG 68 (.bin .lss (.t 67) (.c (.int .i64 1))) 66 false,
 oO 69 (.pick (.t 66) (.c (.bool true)) (.t 68)),
 oM 70 69,
 oG 71 (.mv (.t 3)) 70 false,
 oG 72 (.bin .gtr (.t 71) (.c (.int .i64 8))) 70 false,
 oO 73 (.pick (.t 70) (.c (.bool true)) (.t 72)),
 oM 74 73,
 oG 75 (.mv (.t 4)) 74 false,
 oG 76 (.bin .gtr (.t 75) (.c (.int .i64 8))) 74 false,
 oO 77 (.pick (.t 74) (.c (.bool true)) (.t 76))])
 (.cond (.t 77)
 (.ops [
 oO 20 (.mv (.c (.int .i64 1)))])
 (.seq (.ops [
 oO 78 (.load 9 true (.t 9)),
 oK 79 F_witanref01_Check [.t 78],
 oO 80 (.un .not (.t 79))])
 (.cond (.t 80)
 (.ops [
 oO 20 (.mv (.c (.int .i64 3)))])
 .skip))))
 (.seq (.seq (.ops [
 oM 81 20,
 oO 82 (.bin .neq (.t 81) (.c (.int .i64 0)))])
 (.cond (.t 82)
 (.seq (.ops [
 oM 83 16,
 oM 84 20,
 oO 85 (.bin .eql (.t 83) (.t 84)),
 oM 86 85,
 oG 87 (.mv (.t 19)) 86 true,
 oG 88 (.mv (.t 20)) 86 true,
 oG 89 (.bin .eql (.t 87) (.t 88)) 86 true,
 oO 90 (.pick (.t 86) (.t 89) (.c (.bool false))),
 oM 91 90,
 oG 92 (.load 32 true (.t 17)) 91 true,
 oG 93 (.build (List.replicate 32 (.int .u8 0)) []) 91 true,
 oG 94 (.eqa (List.replicate 32 (.i)) false (.t 92) (.t 93)) 91 true,
 oO 95 (.pick (.t 91) (.t 94) (.c (.bool false))),
 oM 96 95,
 oG 97 (.load 4 true (.t 18)) 96 true,
 oG 98 (.build [.int .u64 0, .int .u64 0, .int .u64 0, .int .u64 0] []) 96 true,
 oG 99 (.eqa [.i, .i, .i, .i] false (.t 97) (.t 98)) 96 true,
 oO 100 (.pick (.t 96) (.t 99) (.c (.bool false))),
 oM 101 100,
 oG 102 (.call (.c (.fn F_witanlaw08_wakes [])) []) 101 true,
 oO 103 (.pick (.t 101) (.t 102) (.c (.bool false))),
 oM 14 103])
 .ret)
 .skip))
 (.seq (.draw [
 oM 104 16,
 oO 105 (.bin .eql (.t 104) (.c (.int .i64 0))),
 oM 106 105,
 oG 107 (.mv (.t 19)) 106 true,
 oG 108 (.bin .eql (.t 107) (.c (.int .i64 0))) 106 true,
 oO 109 (.pick (.t 106) (.t 108) (.c (.bool false))),
 oM 110 109,
 oG 111 (.load 32 true (.t 17)) 110 true,
 oG 112 (.load 9 true (.t 9)) 110 true,
 oG 113 (.mv (.t 3)) 110 true,
 oG 114 (.mv (.t 4)) 110 true,
 oG 115 (.load 4 true (.t 12)) 110 true,
 oG 116 (.call (.c (.fn F_witanref06_Seal [])) [.t 112, .t 113, .t 114, .t 115]) 110 true,
 oG 117 (.eqa (List.replicate 32 (.i)) false (.t 111) (.t 116)) 110 true,
 oO 118 (.pick (.t 110) (.t 117) (.c (.bool false))),
 oM 119 118,
 oG 120 (.load 4 true (.t 18)) 119 true,
 oG 121 (.load 9 true (.t 9)) 119 true,
 oG 122 (.mv (.t 3)) 119 true,
 oG 123 (.mv (.t 4)) 119 true,
 oG 124 (.load 32 true (.t 13)) 119 true,
 oG 125 (.call (.c (.fn F_witanref06_Open [])) [.t 121, .t 122, .t 123, .t 124]) 119 true,
 oG 126 (.eqa [.i, .i, .i, .i] false (.t 120) (.t 125)) 119 true,
 oO 127 (.pick (.t 119) (.t 126) (.c (.bool false))),
 oM 128 127,
 oG 129 (.call (.c (.fn F_witanlaw08_wakes [])) []) 128 true,
 oO 130 (.pick (.t 128) (.t 129) (.c (.bool false))),
 oM 14 130] ⟨.all, [], .look 0 (.look 1 (.look 2 (.look 3 (.look 4 (.look 5 (.look 6 (.look 7 (.look 8 (.look 9 (.look 10 (.look 11 (.run 12 true (.look 13 (.look 14 (.look 15 (.look 16 (.look 17 (.look 18 (.look 19 (.look 20 (.run 21 true (.look 22 (.look 23 (.look 24 (.run 25 true (.look 26 (.look 27 .done)))))))))))))))))))))))))))⟩)
 .ret)))))))))⟩
theorem K_witanlaw08_PairExact : chkFun DK Pg Try.f11 A_witanlaw08_PairExact = true := by kernel_rfl
theorem B_witanlaw08_PairExact {args : List AV} {m : Mem} {K : AV → Mem → Prop} (h : vcFun DK Pg A_witanlaw08_PairExact args m K) : ACall Pg F_witanlaw08_PairExact args m K := call_body mixed Try.func11 (by kernel_rfl) K_witanlaw08_PairExact h

noncomputable def A_witanlaw08_PairBack : AFun := ⟨6, 114, [.t 12],
 (.seq (.ops [
 oO 6 (.box 1 4 (.t 0)),
 oO 7 (.box 1 4 (.t 1)),
 oO 8 (.box 1 4 (.t 2)),
 oO 11 (.box 1 32 (.t 5)),
 oO 12 (.mv (.c (.bool false)))])
 (.seq (.ops [
 oM 21 3,
 oO 22 (.conv .u64 (.t 21)),
 oO 23 (.bin .rem (.t 22) (.c (.int .u64 8))),
 oO 24 (.conv .i64 (.t 23)),
 oO 25 (.bin .add (.c (.int .i64 1)) (.t 24)),
 oM 26 4,
 oO 27 (.conv .u64 (.t 26)),
 oO 28 (.bin .rem (.t 27) (.c (.int .u64 8))),
 oO 29 (.conv .i64 (.t 28)),
 oO 30 (.bin .add (.c (.int .i64 1)) (.t 29)),
 oM 3 25,
 oM 4 30])
 (.seq (.draw [
 oO 32 (.load 4 true (.t 6)),
 oO 33 (.load 4 true (.t 7)),
 oK 34 F_curve_Base [.t 33],
 oK 35 F_pair_Key [.t 32, .t 34],
 oM 31 35,
 oO 36 (.ext (.t 31) 0),
 oO 37 (.ext (.t 31) 1),
 oO 13 (.alloc 9 1 [.bool false, .int .u64 0, .int .u64 0, .int .u64 0, .int .u64 0, .int .u64 0, .int .u64 0, .int .u64 0, .int .u64 0]),
 oS 9 13 36,
 oM 14 37] ⟨.all, [(7, some 8)], .look 0 (.look 1 (.run 2 true (.run 3 true (.look 4 (.look 5 (.pre 7 8 (.look 6 (.fill (.look 9 .done)))))))))⟩)
 (.seq (.draw [
 oO 39 (.load 4 true (.t 7)),
 oO 40 (.load 4 true (.t 6)),
 oK 41 F_curve_Base [.t 40],
 oK 42 F_pair_Key [.t 39, .t 41],
 oM 38 42,
 oO 43 (.ext (.t 38) 0),
 oO 44 (.ext (.t 38) 1),
 oO 15 (.alloc 9 1 [.bool false, .int .u64 0, .int .u64 0, .int .u64 0, .int .u64 0, .int .u64 0, .int .u64 0, .int .u64 0, .int .u64 0]),
 oS 9 15 43,
 oM 16 44] ⟨.all, [(7, some 8)], .look 0 (.look 1 (.run 2 true (.run 3 true (.look 4 (.look 5 (.pre 7 8 (.look 6 (.fill (.look 9 .done)))))))))⟩)
 (.seq (.seq (.ops [
 oM 45 14,
 oO 46 (.bin .neq (.t 45) (.c (.int .i64 0))),
 oM 47 46,
 oG 48 (.mv (.t 16)) 47 false,
 oG 49 (.bin .neq (.t 48) (.c (.int .i64 0))) 47 false,
 oO 50 (.pick (.t 47) (.c (.bool true)) (.t 49)),
 oM 51 50,
 oG 52 (.load 9 true (.t 13)) 51 false,
 oG 53 (.load 9 true (.t 15)) 51 false,
 oG 54 (.call (.c (.fn F_witankeep_Point [])) [.t 52, .t 53]) 51 false,
 oG 55 (.un .not (.t 54)) 51 false,
 oO 56 (.pick (.t 51) (.c (.bool true)) (.t 55))])
 (.cond (.t 56)
 (.seq (.ops [
 oO 12 (.mv (.c (.bool false)))])
 .ret)
 .skip))
 (.seq (.ops [
 oO 58 (.load 9 true (.t 13)),
 oM 59 3,
 oM 60 4,
 oO 61 (.load 4 true (.t 8)),
 oK 62 F_pair_Seal [.t 58, .t 59, .t 60, .t 61],
 oM 57 62,
 oO 63 (.ext (.t 57) 0),
 oO 64 (.ext (.t 57) 1),
 oO 17 (.alloc 1 32 [.int .u8 0]),
 oS 32 17 63,
 oM 14 64])
 (.seq (.ops [
 oO 66 (.load 9 true (.t 15)),
 oM 67 3,
 oM 68 4,
 oO 69 (.load 32 true (.t 17)),
 oK 70 F_pair_Open [.t 66, .t 67, .t 68, .t 69],
 oM 65 70,
 oO 71 (.ext (.t 65) 0),
 oO 72 (.ext (.t 65) 1),
 oO 18 (.alloc 1 4 [.int .u64 0]),
 ⟨none, .stA 1 4 4 (.t 18) (.t 71), none⟩,
 oM 16 72])
 (.seq (.seq (.ops [
 oM 73 14,
 oO 74 (.bin .neq (.t 73) (.c (.int .i64 0))),
 oM 75 74,
 oG 76 (.mv (.t 16)) 75 false,
 oG 77 (.bin .neq (.t 76) (.c (.int .i64 0))) 75 false,
 oO 78 (.pick (.t 75) (.c (.bool true)) (.t 77)),
 oM 79 78,
 oG 80 (.load 4 true (.t 18)) 79 false,
 oG 81 (.load 4 true (.t 8)) 79 false,
 oG 82 (.eqa [.i, .i, .i, .i] true (.t 80) (.t 81)) 79 false,
 oO 83 (.pick (.t 79) (.c (.bool true)) (.t 82))])
 (.cond (.t 83)
 (.seq (.ops [
 oO 12 (.mv (.c (.bool false)))])
 .ret)
 .skip))
 (.seq (.ops [
 oO 85 (.load 9 true (.t 13)),
 oM 86 3,
 oM 87 4,
 oO 88 (.load 32 true (.t 11)),
 oK 89 F_pair_Open [.t 85, .t 86, .t 87, .t 88],
 oM 84 89,
 oO 90 (.ext (.t 84) 0),
 oO 91 (.ext (.t 84) 1),
 oO 19 (.alloc 1 4 [.int .u64 0]),
 ⟨none, .stA 1 4 4 (.t 19) (.t 90), none⟩,
 oM 14 91])
 (.seq (.ops [
 oO 93 (.load 9 true (.t 15)),
 oM 94 3,
 oM 95 4,
 oO 96 (.load 4 true (.t 19)),
 oK 97 F_pair_Seal [.t 93, .t 94, .t 95, .t 96],
 oM 92 97,
 oO 98 (.ext (.t 92) 0),
 oO 99 (.ext (.t 92) 1),
 oO 20 (.alloc 1 32 [.int .u8 0]),
 oS 32 20 98,
 oM 16 99])
 (.seq (.ops [
 oM 100 14,
 oO 101 (.bin .eql (.t 100) (.c (.int .i64 0))),
 oM 102 101,
 oG 103 (.mv (.t 16)) 102 true,
 oG 104 (.bin .eql (.t 103) (.c (.int .i64 0))) 102 true,
 oO 105 (.pick (.t 102) (.t 104) (.c (.bool false))),
 oM 106 105,
 oG 107 (.load 32 true (.t 20)) 106 true,
 oG 108 (.load 32 true (.t 11)) 106 true,
 oG 109 (.eqa (List.replicate 32 (.i)) false (.t 107) (.t 108)) 106 true,
 oO 110 (.pick (.t 106) (.t 109) (.c (.bool false))),
 oM 111 110,
 oG 112 (.call (.c (.fn F_witanlaw08_wakes [])) []) 111 true,
 oO 113 (.pick (.t 111) (.t 112) (.c (.bool false))),
 oM 12 113])
 .ret)))))))))))⟩
theorem K_witanlaw08_PairBack : chkFun DK Pg Try.f12 A_witanlaw08_PairBack = true := by kernel_rfl
theorem B_witanlaw08_PairBack {args : List AV} {m : Mem} {K : AV → Mem → Prop} (h : vcFun DK Pg A_witanlaw08_PairBack args m K) : ACall Pg F_witanlaw08_PairBack args m K := call_body mixed Try.func12 (by kernel_rfl) K_witanlaw08_PairBack h

noncomputable def A_witanlaw09_DleqProves : AFun := ⟨3, 42, [.t 6],
 (.seq (.ops [
 oO 3 (.box 1 4 (.t 0)),
 oO 4 (.box 1 4 (.t 1)),
 oO 5 (.box 9 1 (.t 2)),
 oO 6 (.mv (.c (.bool false)))])
 (.seq (.ops [
 oO 10 (.load 4 true (.t 3)),
 oO 11 (.load 4 true (.t 4)),
 oO 12 (.load 9 true (.t 5)),
 oK 13 F_dleq_Prove [.t 10, .t 11, .t 12],
 oM 9 13,
 oO 14 (.ext (.t 9) 0),
 oO 15 (.ext (.t 9) 1),
 oO 7 (.alloc 8 1 [.int .u64 0, .int .u64 0, .int .u64 0, .int .u64 0, .int .u64 0, .int .u64 0, .int .u64 0, .int .u64 0]),
 ⟨none, .stA 8 1 8 (.t 7) (.t 14), none⟩,
 oM 8 15])
 (.seq (.seq (.ops [
 oO 16 (.load 9 true (.t 5)),
 oK 17 F_witanref01_Check [.t 16],
 oO 18 (.un .not (.t 17))])
 (.cond (.t 18)
 (.seq (.ops [
 oM 19 8,
 oO 20 (.bin .eql (.t 19) (.c (.int .i64 3))),
 oM 21 20,
 oG 22 (.load 8 true (.t 7)) 21 true,
 oG 23 (.build [.int .u64 0, .int .u64 0, .int .u64 0, .int .u64 0, .int .u64 0, .int .u64 0, .int .u64 0, .int .u64 0] []) 21 true,
 oG 24 (.call (.c (.fn F_witankeep_Proof [])) [.t 22, .t 23]) 21 true,
 oO 25 (.pick (.t 21) (.t 24) (.c (.bool false))),
 oM 26 25,
 oG 27 (.call (.c (.fn F_witanlaw09_wakes [])) []) 26 true,
 oO 28 (.pick (.t 26) (.t 27) (.c (.bool false))),
 oM 6 28])
 .ret)
 .skip))
 (.seq (.draw [
 oM 29 8,
 oO 30 (.bin .eql (.t 29) (.c (.int .i64 0))),
 oM 31 30,
 oG 32 (.load 8 true (.t 7)) 31 true,
 oG 33 (.load 4 true (.t 3)) 31 true,
 oG 34 (.load 4 true (.t 4)) 31 true,
 oG 35 (.load 9 true (.t 5)) 31 true,
 oG 36 (.call (.c (.fn F_witanref06_Prove [])) [.t 33, .t 34, .t 35]) 31 true,
 oG 37 (.call (.c (.fn F_witankeep_Proof [])) [.t 32, .t 36]) 31 true,
 oO 38 (.pick (.t 31) (.t 37) (.c (.bool false))),
 oM 39 38,
 oG 40 (.call (.c (.fn F_witanlaw09_wakes [])) []) 39 true,
 oO 41 (.pick (.t 39) (.t 40) (.c (.bool false))),
 oM 6 41] ⟨.all, [], .look 0 (.look 1 (.look 2 (.look 3 (.look 4 (.look 5 (.look 6 (.run 7 true (.run 8 true (.look 9 (.look 10 (.run 11 true (.look 12 (.look 13 .done)))))))))))))⟩)
 .ret))))⟩
theorem K_witanlaw09_DleqProves : chkFun DK Pg Try.f13 A_witanlaw09_DleqProves = true := by kernel_rfl
theorem B_witanlaw09_DleqProves {args : List AV} {m : Mem} {K : AV → Mem → Prop} (h : vcFun DK Pg A_witanlaw09_DleqProves args m K) : ACall Pg F_witanlaw09_DleqProves args m K := call_body mixed Try.func13 (by kernel_rfl) K_witanlaw09_DleqProves h

noncomputable def A_witanlaw09_DleqHolds : AFun := ⟨4, 55, [.t 8],
 (.seq (.ops [
 oO 4 (.box 9 1 (.t 0)),
 oO 5 (.box 9 1 (.t 1)),
 oO 6 (.box 9 1 (.t 2)),
 oO 7 (.box 8 1 (.t 3)),
 oO 8 (.mv (.c (.bool false)))])
 (.seq (.ops [
 oO 12 (.load 9 true (.t 4)),
 oO 13 (.load 9 true (.t 5)),
 oO 14 (.load 9 true (.t 6)),
 oO 15 (.load 8 true (.t 7)),
 oK 16 F_dleq_Holds [.t 12, .t 13, .t 14, .t 15],
 oM 11 16,
 oO 17 (.ext (.t 11) 0),
 oO 18 (.ext (.t 11) 1),
 oM 9 17,
 oM 10 18])
 (.seq (.seq (.ops [
 oO 19 (.load 9 true (.t 4)),
 oK 20 F_witanref01_Check [.t 19],
 oO 21 (.un .not (.t 20)),
 oM 22 21,
 oG 23 (.load 9 true (.t 5)) 22 false,
 oG 24 (.call (.c (.fn F_witanref01_Check [])) [.t 23]) 22 false,
 oG 25 (.un .not (.t 24)) 22 false,
 oO 26 (.pick (.t 22) (.c (.bool true)) (.t 25)),
 oM 27 26,
 oG 28 (.load 9 true (.t 6)) 27 false,
 oG 29 (.call (.c (.fn F_witanref01_Check [])) [.t 28]) 27 false,
 oG 30 (.un .not (.t 29)) 27 false,
 oO 31 (.pick (.t 27) (.c (.bool true)) (.t 30))])
 (.cond (.t 31)
 (.seq (.ops [
 oM 32 10,
 oO 33 (.bin .eql (.t 32) (.c (.int .i64 3))),
 oM 34 33,
 oG 35 (.mv (.t 9)) 34 true,
 oG 36 (.un .not (.t 35)) 34 true,
 oO 37 (.pick (.t 34) (.t 36) (.c (.bool false))),
 oM 38 37,
 oG 39 (.call (.c (.fn F_witanlaw09_wakes [])) []) 38 true,
 oO 40 (.pick (.t 38) (.t 39) (.c (.bool false))),
 oM 8 40])
 .ret)
 .skip))
 (.seq (.ops [
 oM 41 10,
 oO 42 (.bin .eql (.t 41) (.c (.int .i64 0))),
 oM 43 42,
 oG 44 (.mv (.t 9)) 43 true,
 oG 45 (.load 9 true (.t 4)) 43 true,
 oG 46 (.load 9 true (.t 5)) 43 true,
 oG 47 (.load 9 true (.t 6)) 43 true,
 oG 48 (.load 8 true (.t 7)) 43 true,
 oG 49 (.call (.c (.fn F_witanref06_Holds [])) [.t 45, .t 46, .t 47, .t 48]) 43 true,
 oG 50 (.eqb false (.t 44) (.t 49)) 43 true,
 oO 51 (.pick (.t 43) (.t 50) (.c (.bool false))),
 oM 52 51,
 oG 53 (.call (.c (.fn F_witanlaw09_wakes [])) []) 52 true,
 oO 54 (.pick (.t 52) (.t 53) (.c (.bool false))),
 oM 8 54])
 .ret))))⟩
theorem K_witanlaw09_DleqHolds : chkFun DK Pg Try.f14 A_witanlaw09_DleqHolds = true := by kernel_rfl
theorem B_witanlaw09_DleqHolds {args : List AV} {m : Mem} {K : AV → Mem → Prop} (h : vcFun DK Pg A_witanlaw09_DleqHolds args m K) : ACall Pg F_witanlaw09_DleqHolds args m K := call_body mixed Try.func14 (by kernel_rfl) K_witanlaw09_DleqHolds h

noncomputable def A_witanlaw09_DleqBack : AFun := ⟨3, 111, [.t 6],
 (.seq (.ops [
 oO 3 (.box 1 4 (.t 0)),
 oO 4 (.box 1 4 (.t 1)),
 oO 5 (.box 1 4 (.t 2)),
 oO 6 (.mv (.c (.bool false)))])
 (.seq (.ops [
 oO 20 (.load 4 true (.t 5)),
 oK 21 F_curve_Base [.t 20],
 oO 7 (.alloc 9 1 [.bool false, .int .u64 0, .int .u64 0, .int .u64 0, .int .u64 0, .int .u64 0, .int .u64 0, .int .u64 0, .int .u64 0]),
 ⟨none, .stA 9 1 9 (.t 7) (.t 21), none⟩])
 (.seq (.ops [
 oO 22 (.load 4 true (.t 3)),
 oK 23 F_curve_Base [.t 22],
 oO 8 (.alloc 9 1 [.bool false, .int .u64 0, .int .u64 0, .int .u64 0, .int .u64 0, .int .u64 0, .int .u64 0, .int .u64 0, .int .u64 0]),
 ⟨none, .stA 9 1 9 (.t 8) (.t 23), none⟩])
 (.seq (.ops [
 oO 25 (.load 4 true (.t 3)),
 oO 26 (.load 9 true (.t 7)),
 oK 27 F_curve_Times [.t 25, .t 26],
 oM 24 27,
 oO 28 (.ext (.t 24) 0),
 oO 29 (.ext (.t 24) 1),
 oO 9 (.alloc 9 1 [.bool false, .int .u64 0, .int .u64 0, .int .u64 0, .int .u64 0, .int .u64 0, .int .u64 0, .int .u64 0, .int .u64 0]),
 ⟨none, .stA 9 1 9 (.t 9) (.t 28), none⟩,
 oM 10 29])
 (.seq (.ops [
 oO 31 (.load 4 true (.t 3)),
 oO 32 (.load 4 true (.t 4)),
 oO 33 (.load 9 true (.t 7)),
 oK 34 F_dleq_Prove [.t 31, .t 32, .t 33],
 oM 30 34,
 oO 35 (.ext (.t 30) 0),
 oO 36 (.ext (.t 30) 1),
 oO 11 (.alloc 8 1 [.int .u64 0, .int .u64 0, .int .u64 0, .int .u64 0, .int .u64 0, .int .u64 0, .int .u64 0, .int .u64 0]),
 ⟨none, .stA 8 1 8 (.t 11) (.t 35), none⟩,
 oM 12 36])
 (.seq (.ops [
 oO 38 (.load 9 true (.t 8)),
 oO 39 (.load 9 true (.t 7)),
 oO 40 (.load 9 true (.t 9)),
 oO 41 (.load 8 true (.t 11)),
 oK 42 F_dleq_Holds [.t 38, .t 39, .t 40, .t 41],
 oM 37 42,
 oO 43 (.ext (.t 37) 0),
 oO 44 (.ext (.t 37) 1),
 oM 13 43,
 oM 14 44])
 (.seq (.seq (.ops [
 oM 45 10,
 oO 46 (.bin .neq (.t 45) (.c (.int .i64 0))),
 oM 47 46,
 oG 48 (.mv (.t 12)) 47 false,
 oG 49 (.bin .neq (.t 48) (.c (.int .i64 0))) 47 false,
 oO 50 (.pick (.t 47) (.c (.bool true)) (.t 49)),
 oM 51 50,
 oG 52 (.mv (.t 14)) 51 false,
 oG 53 (.bin .neq (.t 52) (.c (.int .i64 0))) 51 false,
 oO 54 (.pick (.t 51) (.c (.bool true)) (.t 53)),
 oM 55 54,
 oG 56 (.mv (.t 13)) 55 false,
 oG 57 (.un .not (.t 56)) 55 false,
 oO 58 (.pick (.t 55) (.c (.bool true)) (.t 57))])
 (.cond (.t 58)
 (.seq (.ops [
 oO 6 (.mv (.c (.bool false)))])
 .ret)
 .skip))
 (.seq (.ops [
 oK 59 F_field_Prime [.c (.int .i64 1)],
 oO 15 (.alloc 1 4 [.int .u64 0]),
 ⟨none, .stA 1 4 4 (.t 15) (.t 59), none⟩])
 (.seq (.ops [
 oO 61 (.fldA 0 (.t 11)),
 oO 62 (.load 4 true (.t 61)),
 oO 63 (.load 4 true (.t 15)),
 oK 64 F_witanref01_Add [.t 62, .t 63],
 oM 60 64,
 oO 65 (.ext (.t 60) 0),
 oO 66 (.ext (.t 60) 1),
 oO 16 (.alloc 1 4 [.int .u64 0]),
 ⟨none, .stA 1 4 4 (.t 16) (.t 65), none⟩,
 oM 17 66])
 (.seq (.ops [
 oO 68 (.fldA 4 (.t 11)),
 oO 69 (.load 4 true (.t 68)),
 oO 70 (.load 4 true (.t 15)),
 oK 71 F_witanref01_Add [.t 69, .t 70],
 oM 67 71,
 oO 72 (.ext (.t 67) 0),
 oO 73 (.ext (.t 67) 1),
 oO 18 (.alloc 1 4 [.int .u64 0]),
 ⟨none, .stA 1 4 4 (.t 18) (.t 72), none⟩,
 oM 19 73])
 (.seq (.seq (.ops [
 oM 74 17,
 oO 75 (.bin .eql (.t 74) (.c (.int .u64 0)))])
 (.cond (.t 75)
 (.seq (.ops [
 oO 77 (.load 9 true (.t 8)),
 oO 78 (.load 9 true (.t 7)),
 oO 79 (.load 9 true (.t 9)),
 oO 80 (.load 4 true (.t 16)),
 oO 81 (.fldA 4 (.t 11)),
 oO 82 (.load 4 true (.t 81)),
 oO 83 (.build [.int .u64 0, .int .u64 0, .int .u64 0, .int .u64 0, .int .u64 0, .int .u64 0, .int .u64 0, .int .u64 0] [(0, 4, .t 80), (4, 4, .t 82)]),
 oK 84 F_dleq_Holds [.t 77, .t 78, .t 79, .t 83],
 oM 76 84,
 oO 85 (.ext (.t 76) 0),
 oO 86 (.ext (.t 76) 1),
 oM 13 85,
 oM 14 86])
 (.seq (.ops [
 oM 87 14,
 oO 88 (.bin .neq (.t 87) (.c (.int .i64 0))),
 oM 89 88,
 oG 90 (.mv (.t 13)) 89 false,
 oO 91 (.pick (.t 89) (.c (.bool true)) (.t 90))])
 (.cond (.t 91)
 (.seq (.ops [
 oO 6 (.mv (.c (.bool false)))])
 .ret)
 .skip)))
 .skip))
 (.seq (.seq (.ops [
 oM 92 19,
 oO 93 (.bin .eql (.t 92) (.c (.int .u64 0)))])
 (.cond (.t 93)
 (.seq (.ops [
 oO 95 (.load 9 true (.t 8)),
 oO 96 (.load 9 true (.t 7)),
 oO 97 (.load 9 true (.t 9)),
 oO 98 (.fldA 0 (.t 11)),
 oO 99 (.load 4 true (.t 98)),
 oO 100 (.load 4 true (.t 18)),
 oO 101 (.build [.int .u64 0, .int .u64 0, .int .u64 0, .int .u64 0, .int .u64 0, .int .u64 0, .int .u64 0, .int .u64 0] [(0, 4, .t 99), (4, 4, .t 100)]),
 oK 102 F_dleq_Holds [.t 95, .t 96, .t 97, .t 101],
 oM 94 102,
 oO 103 (.ext (.t 94) 0),
 oO 104 (.ext (.t 94) 1),
 oM 13 103,
 oM 14 104])
 (.seq (.ops [
 oM 105 14,
 oO 106 (.bin .neq (.t 105) (.c (.int .i64 0))),
 oM 107 106,
 oG 108 (.mv (.t 13)) 107 false,
 oO 109 (.pick (.t 107) (.c (.bool true)) (.t 108))])
 (.cond (.t 109)
 (.seq (.ops [
 oO 6 (.mv (.c (.bool false)))])
 .ret)
 .skip)))
 .skip))
 (.seq (.ops [
 oK 110 F_witanlaw09_wakes [],
 oM 6 110])
 .ret)))))))))))))⟩
theorem K_witanlaw09_DleqBack : chkFun DK Pg Try.f15 A_witanlaw09_DleqBack = true := by kernel_rfl
theorem B_witanlaw09_DleqBack {args : List AV} {m : Mem} {K : AV → Mem → Prop} (h : vcFun DK Pg A_witanlaw09_DleqBack args m K) : ACall Pg F_witanlaw09_DleqBack args m K := call_body mixed Try.func15 (by kernel_rfl) K_witanlaw09_DleqBack h

noncomputable def A_witanlaw09_DleqParts : AFun := ⟨3, 147, [.t 6],
 (.seq (.ops [
 oO 3 (.box 1 4 (.t 0)),
 oO 4 (.box 1 4 (.t 1)),
 oO 5 (.box 1 4 (.t 2)),
 oO 6 (.mv (.c (.bool false)))])
 (.seq (.ops [
 oO 24 (.load 4 true (.t 5)),
 oK 25 F_curve_Base [.t 24],
 oO 7 (.alloc 9 1 [.bool false, .int .u64 0, .int .u64 0, .int .u64 0, .int .u64 0, .int .u64 0, .int .u64 0, .int .u64 0, .int .u64 0]),
 ⟨none, .stA 9 1 9 (.t 7) (.t 25), none⟩])
 (.seq (.ops [
 oO 26 (.load 4 true (.t 3)),
 oK 27 F_curve_Base [.t 26],
 oO 8 (.alloc 9 1 [.bool false, .int .u64 0, .int .u64 0, .int .u64 0, .int .u64 0, .int .u64 0, .int .u64 0, .int .u64 0, .int .u64 0]),
 ⟨none, .stA 9 1 9 (.t 8) (.t 27), none⟩])
 (.seq (.ops [
 oO 29 (.load 4 true (.t 3)),
 oO 30 (.load 9 true (.t 7)),
 oK 31 F_curve_Times [.t 29, .t 30],
 oM 28 31,
 oO 32 (.ext (.t 28) 0),
 oO 33 (.ext (.t 28) 1),
 oO 9 (.alloc 9 1 [.bool false, .int .u64 0, .int .u64 0, .int .u64 0, .int .u64 0, .int .u64 0, .int .u64 0, .int .u64 0, .int .u64 0]),
 ⟨none, .stA 9 1 9 (.t 9) (.t 32), none⟩,
 oM 10 33])
 (.seq (.ops [
 oO 34 (.load 4 true (.t 4)),
 oK 35 F_curve_Base [.t 34],
 oO 11 (.alloc 9 1 [.bool false, .int .u64 0, .int .u64 0, .int .u64 0, .int .u64 0, .int .u64 0, .int .u64 0, .int .u64 0, .int .u64 0]),
 ⟨none, .stA 9 1 9 (.t 11) (.t 35), none⟩])
 (.seq (.ops [
 oO 37 (.load 4 true (.t 4)),
 oO 38 (.load 9 true (.t 7)),
 oK 39 F_curve_Times [.t 37, .t 38],
 oM 36 39,
 oO 40 (.ext (.t 36) 0),
 oO 41 (.ext (.t 36) 1),
 oO 12 (.alloc 9 1 [.bool false, .int .u64 0, .int .u64 0, .int .u64 0, .int .u64 0, .int .u64 0, .int .u64 0, .int .u64 0, .int .u64 0]),
 ⟨none, .stA 9 1 9 (.t 12) (.t 40), none⟩,
 oM 13 41])
 (.seq (.ops [
 oO 43 (.load 4 true (.t 3)),
 oO 44 (.load 4 true (.t 4)),
 oO 45 (.load 9 true (.t 7)),
 oK 46 F_dleq_Prove [.t 43, .t 44, .t 45],
 oM 42 46,
 oO 47 (.ext (.t 42) 0),
 oO 48 (.ext (.t 42) 1),
 oO 14 (.alloc 8 1 [.int .u64 0, .int .u64 0, .int .u64 0, .int .u64 0, .int .u64 0, .int .u64 0, .int .u64 0, .int .u64 0]),
 ⟨none, .stA 8 1 8 (.t 14) (.t 47), none⟩,
 oM 15 48])
 (.seq (.seq (.ops [
 oM 49 10,
 oO 50 (.bin .neq (.t 49) (.c (.int .i64 0))),
 oM 51 50,
 oG 52 (.mv (.t 13)) 51 false,
 oG 53 (.bin .neq (.t 52) (.c (.int .i64 0))) 51 false,
 oO 54 (.pick (.t 51) (.c (.bool true)) (.t 53)),
 oM 55 54,
 oG 56 (.mv (.t 15)) 55 false,
 oG 57 (.bin .neq (.t 56) (.c (.int .i64 0))) 55 false,
 oO 58 (.pick (.t 55) (.c (.bool true)) (.t 57))])
 (.cond (.t 58)
 (.seq (.ops [
 oO 6 (.mv (.c (.bool false)))])
 .ret)
 .skip))
 (.seq (.ops [
 oO 16 (.mv (.c (.nils)))])
 (.seq (.seq (.ops [
 oO 59 (.load 9 true (.t 8)),
 oO 60 (.load 9 true (.t 7)),
 oO 61 (.load 9 true (.t 9)),
 oO 62 (.load 9 true (.t 11)),
 oO 63 (.load 9 true (.t 12)),
 oO 64 (.bsl 9 5 [.bool false, .int .u64 0, .int .u64 0, .int .u64 0, .int .u64 0, .int .u64 0, .int .u64 0, .int .u64 0, .int .u64 0] [(0, 9, .t 59), (9, 9, .t 60), (18, 9, .t 61), (27, 9, .t 62), (36, 9, .t 63)]),
 oO 65 (.len (.t 64)),
 oO 66 (.mv (.c (.int .i64 0)))])
 (.block 0
 (.loop
 (.seq (.ops [
 oO 67 (.bin .lss (.t 66) (.t 65))])
 (.seq (.cond (.t 67)
 .skip
 (.exit 0))
 (.seq (.block 1
 (.seq (.ops [
 oO 68 (.idxA 9 (.t 64) (.t 66)),
 oO 69 (.load 9 true (.t 68)),
 oO 18 (.alloc 9 1 [.bool false, .int .u64 0, .int .u64 0, .int .u64 0, .int .u64 0, .int .u64 0, .int .u64 0, .int .u64 0, .int .u64 0]),
 ⟨none, .stA 9 1 9 (.t 18) (.t 69), none⟩])
 (.seq (.ops [
 oO 71 (.load 9 true (.t 18)),
 oK 72 F_curve_Bytes [.t 71],
 oM 70 72,
 oO 73 (.ext (.t 70) 0),
 oO 74 (.ext (.t 70) 1),
 oM 19 73,
 oM 20 74])
 (.seq (.seq (.ops [
 oM 75 20,
 oO 76 (.bin .neq (.t 75) (.c (.int .i64 0)))])
 (.cond (.t 76)
 (.seq (.ops [
 oO 6 (.mv (.c (.bool false)))])
 .ret)
 .skip))
 (.ops [
 oM 77 16,
 oM 78 19,
 oO 79 (.bsl 1 1 [.nils] [(0, 1, .t 78)]),
 oO 80 (.app 1 24 (.t 77) (.t 79)),
 oM 16 80])))))
 (.ops [
 oO 81 (.bin .add (.t 66) (.c (.int .i64 1))),
 oM 66 81])))))))
 (.seq (.ops [
 oM 83 16,
 ⟨some 84, .call (.c (.fn F_draw_Scalar [])) [.c (.str ⟨#[100, 108, 101, 113]⟩), .t 83], none⟩,
 oM 82 84,
 oO 85 (.ext (.t 82) 0),
 oO 86 (.ext (.t 82) 1),
 oO 21 (.alloc 1 4 [.int .u64 0]),
 ⟨none, .stA 1 4 4 (.t 21) (.t 85), none⟩,
 oM 10 86])
 (.seq (.draw [
 oO 88 (.fldA 4 (.t 14)),
 oO 89 (.load 4 true (.t 88)),
 oO 90 (.build [.int .u64 0, .int .u64 0, .int .u64 0, .int .u64 0] [(0, 1, .c (.int .u64 1))]),
 oK 91 F_curve_Base [.t 90],
 oO 92 (.fldA 0 (.t 14)),
 oO 93 (.load 4 true (.t 92)),
 oO 94 (.load 9 true (.t 8)),
 oK 95 F_curve_Two [.t 89, .t 91, .t 93, .t 94],
 oM 87 95,
 oO 96 (.ext (.t 87) 0),
 oO 97 (.ext (.t 87) 1),
 oO 22 (.alloc 9 1 [.bool false, .int .u64 0, .int .u64 0, .int .u64 0, .int .u64 0, .int .u64 0, .int .u64 0, .int .u64 0, .int .u64 0]),
 oS 9 22 96,
 oM 13 97] ⟨.all, [(11, some 12)], .look 0 (.look 1 (.look 2 (.look 4 (.look 5 (.look 6 (.run 3 true (.run 7 true (.look 8 (.look 9 (.pre 11 12 (.look 10 (.fill (.look 13 .done)))))))))))))⟩)
 (.seq (.ops [
 oO 99 (.fldA 4 (.t 14)),
 oO 100 (.load 4 true (.t 99)),
 oO 101 (.load 9 true (.t 7)),
 oO 102 (.fldA 0 (.t 14)),
 oO 103 (.load 4 true (.t 102)),
 oO 104 (.load 9 true (.t 9)),
 oK 105 F_curve_Two [.t 100, .t 101, .t 103, .t 104],
 oM 98 105,
 oO 106 (.ext (.t 98) 0),
 oO 107 (.ext (.t 98) 1),
 oO 23 (.alloc 9 1 [.bool false, .int .u64 0, .int .u64 0, .int .u64 0, .int .u64 0, .int .u64 0, .int .u64 0, .int .u64 0, .int .u64 0]),
 ⟨none, .stA 9 1 9 (.t 23) (.t 106), none⟩,
 oM 15 107])
 (.seq (.draw [
 oM 108 10,
 oO 109 (.bin .eql (.t 108) (.c (.int .i64 0))),
 oM 110 109,
 oG 111 (.mv (.t 13)) 110 true,
 oG 112 (.bin .eql (.t 111) (.c (.int .i64 0))) 110 true,
 oO 113 (.pick (.t 110) (.t 112) (.c (.bool false))),
 oM 114 113,
 oG 115 (.mv (.t 15)) 114 true,
 oG 116 (.bin .eql (.t 115) (.c (.int .i64 0))) 114 true,
 oO 117 (.pick (.t 114) (.t 116) (.c (.bool false))),
 oM 118 117,
 oG 119 (.fldA 0 (.t 14)) 118 true,
 oG 120 (.load 4 true (.t 119)) 118 true,
 oG 121 (.load 4 true (.t 21)) 118 true,
 oG 122 (.eqa [.i, .i, .i, .i] false (.t 120) (.t 121)) 118 true,
 oO 123 (.pick (.t 118) (.t 122) (.c (.bool false))),
 oM 124 123,
 oG 125 (.fldA 4 (.t 14)) 124 true,
 oG 126 (.load 4 true (.t 125)) 124 true,
 oG 127 (.load 4 true (.t 4)) 124 true,
 oG 128 (.load 4 true (.t 21)) 124 true,
 oG 129 (.load 4 true (.t 3)) 124 true,
 oG 130 (.call (.c (.fn F_field_Mul [])) [.c (.int .i64 1), .t 128, .t 129]) 124 true,
 oG 131 (.call (.c (.fn F_field_Sub [])) [.c (.int .i64 1), .t 127, .t 130]) 124 true,
 oG 132 (.eqa [.i, .i, .i, .i] false (.t 126) (.t 131)) 124 true,
 oO 133 (.pick (.t 124) (.t 132) (.c (.bool false))),
 oM 134 133,
 oG 135 (.load 9 true (.t 22)) 134 true,
 oG 136 (.load 9 true (.t 11)) 134 true,
 oG 137 (.call (.c (.fn F_witankeep_Point [])) [.t 135, .t 136]) 134 true,
 oO 138 (.pick (.t 134) (.t 137) (.c (.bool false))),
 oM 139 138,
 oG 140 (.load 9 true (.t 23)) 139 true,
 oG 141 (.load 9 true (.t 12)) 139 true,
 oG 142 (.call (.c (.fn F_witankeep_Point [])) [.t 140, .t 141]) 139 true,
 oO 143 (.pick (.t 139) (.t 142) (.c (.bool false))),
 oM 144 143,
 oG 145 (.call (.c (.fn F_witanlaw09_wakes [])) []) 144 true,
 oO 146 (.pick (.t 144) (.t 145) (.c (.bool false))),
 oM 6 146] ⟨.all, [], .look 0 (.look 1 (.look 2 (.look 3 (.look 4 (.look 5 (.look 6 (.look 7 (.look 8 (.look 9 (.look 10 (.look 11 (.look 12 (.look 13 (.look 14 (.look 15 (.look 16 (.look 17 (.look 18 (.look 19 (.look 20 (.look 21 (.run 22 true (.run 23 true (.look 24 (.look 25 (.look 26 (.look 27 (.look 28 (.run 29 true (.look 30 (.look 31 (.look 32 (.look 33 (.run 34 true (.look 35 (.look 36 (.run 37 true (.look 38 (.look 39 .done)))))))))))))))))))))))))))))))))))))))⟩)
 .ret))))))))))))))⟩
theorem K_witanlaw09_DleqParts : chkFun DK Pg Try.f16 A_witanlaw09_DleqParts = true := by kernel_rfl
theorem B_witanlaw09_DleqParts {args : List AV} {m : Mem} {K : AV → Mem → Prop} (h : vcFun DK Pg A_witanlaw09_DleqParts args m K) : ACall Pg F_witanlaw09_DleqParts args m K := call_body mixed Try.func16 (by kernel_rfl) K_witanlaw09_DleqParts h

noncomputable def A_draw_Scalar : AFun := ⟨2, 35, [.cell 4 4 true, .t 5],
 (.seq (.ops [
 oO 4 (.alloc 1 4 [.int .u64 0]),
 oO 5 (.mv (.c (.int .i64 0)))])
 (.seq (.ops [
 oM 11 0,
 oM 12 1,
 oK 13 F_draw_joined [.t 11, .t 12],
 oM 10 13,
 oO 14 (.ext (.t 10) 0),
 oO 15 (.ext (.t 10) 1),
 oM 6 14,
 oM 7 15])
 (.seq (.seq (.ops [
 oM 16 7,
 oO 17 (.un .not (.t 16))])
 (.cond (.t 17)
 (.seq (.ops [
 oO 18 (.build [.int .u64 0, .int .u64 0, .int .u64 0, .int .u64 0] []),
 ⟨none, .stA 1 4 4 (.t 4) (.t 18), none⟩,
 oO 5 (.mv (.c (.int .i64 4)))])
 .ret)
 .skip))
 (.seq (.ops [
 oM 19 6,
 oO 20 (.bsl 1 1 [.int .u8 0] [(0, 1, .c (.int .u8 0))]),
 oK 21 F_draw_with [.t 19, .t 20],
 oK 22 F_sha_Sum [.t 21],
 oK 23 F_limb_Of [.t 22],
 oM 24 6,
 oO 25 (.bsl 1 1 [.int .u8 0] [(0, 1, .c (.int .u8 1))]),
 oK 26 F_draw_with [.t 24, .t 25],
 oK 27 F_sha_Sum [.t 26],
 oK 28 F_limb_Of [.t 27],
 oO 8 (.alloc 1 4 [.int .u64 0]),
 oO 9 (.alloc 1 4 [.int .u64 0]),
 ⟨none, .stA 1 4 4 (.t 8) (.t 23), none⟩,
 ⟨none, .stA 1 4 4 (.t 9) (.t 28), none⟩])
 (.seq (.draw [
 oO 29 (.load 4 true (.t 8)),
 oO 30 (.load 4 true (.t 9)),
 oK 31 F_field_Prime [.c (.int .i64 1)],
 oK 32 F_limb_Mod [.t 29, .t 30, .t 31],
 oO 33 (.ext (.t 32) 0),
 oO 34 (.ext (.t 32) 1),
 ⟨none, .stA 1 4 4 (.t 4) (.t 33), none⟩,
 oM 5 34] ⟨.all, [], .look 0 (.look 1 (.run 2 true (.run 3 false (.look 4 (.look 5 (.run 6 false (.look 7 .done)))))))⟩)
 .ret)))))⟩
theorem K_draw_Scalar : chkFun DK Pg Try.f19 A_draw_Scalar = true := by kernel_rfl
theorem B_draw_Scalar {args : List AV} {m : Mem} {K : AV → Mem → Prop} (h : vcFun DK Pg A_draw_Scalar args m K) : ACall Pg F_draw_Scalar args m K := call_body mixed Try.func19 (by kernel_rfl) K_draw_Scalar h

noncomputable def A_witanref04_Scalar : AFun := ⟨2, 34, [.cell 4 4 true, .t 5],
 (.seq (.ops [
 oO 4 (.alloc 1 4 [.int .u64 0]),
 oO 5 (.mv (.c (.bool false)))])
 (.seq (.ops [
 oM 11 0,
 oM 12 1,
 oK 13 F_witanref04_Joined [.t 11, .t 12],
 oM 10 13,
 oO 14 (.ext (.t 10) 0),
 oO 15 (.ext (.t 10) 1),
 oM 6 14,
 oM 7 15])
 (.seq (.seq (.ops [
 oM 16 7,
 oO 17 (.un .not (.t 16))])
 (.cond (.t 17)
 (.seq (.ops [
 oO 18 (.build [.int .u64 0, .int .u64 0, .int .u64 0, .int .u64 0] []),
 oS 4 4 18,
 oO 5 (.mv (.c (.bool false)))])
 .ret)
 .skip))
 (.seq (.ops [
 oM 19 6,
 oO 20 (.bsl 1 1 [.int .u8 0] [(0, 1, .c (.int .u8 0))]),
 oO 21 (.bsl 1 2 [.nils] [(0, 1, .t 19), (1, 1, .t 20)]),
 oK 22 F_witanref04_join [.t 21],
 oK 23 F_witanref04_Sum256 [.t 22],
 oO 8 (.alloc 1 32 [.int .u8 0]),
 oS 32 8 23])
 (.seq (.ops [
 oM 24 6,
 oO 25 (.bsl 1 1 [.int .u8 0] [(0, 1, .c (.int .u8 1))]),
 oO 26 (.bsl 1 2 [.nils] [(0, 1, .t 24), (1, 1, .t 25)]),
 oK 27 F_witanref04_join [.t 26],
 oK 28 F_witanref04_Sum256 [.t 27],
 oO 9 (.alloc 1 32 [.int .u8 0]),
 oS 32 9 28])
 (.seq (.draw [
 oO 29 (.load 32 true (.t 8)),
 oK 30 F_witanref01_Of [.t 29],
 oO 31 (.load 32 true (.t 9)),
 oK 32 F_witanref01_Of [.t 31],
 oK 33 F_witanref01_Wide [.c (.int .i64 1), .t 30, .t 32],
 oS 4 4 33,
 oO 5 (.mv (.c (.bool true)))] ⟨.all, [], .look 0 (.look 2 (.run 1 true (.run 3 false (.run 4 false (.run 5 false (.look 6 .done))))))⟩)
 .ret))))))⟩
theorem K_witanref04_Scalar : chkFun DK Pg Try.f20 A_witanref04_Scalar = true := by kernel_rfl
theorem B_witanref04_Scalar {args : List AV} {m : Mem} {K : AV → Mem → Prop} (h : vcFun DK Pg A_witanref04_Scalar args m K) : ACall Pg F_witanref04_Scalar args m K := call_body mixed Try.func20 (by kernel_rfl) K_witanref04_Scalar h

noncomputable def A_witanref01_Cmp : AFun := ⟨2, 18, [.t 4],
 (.seq (.ops [
 oO 2 (.box 1 4 (.t 0)),
 oO 3 (.box 1 4 (.t 1)),
 oO 4 (.mv (.c (.int .i64 0)))])
 (.seq (.seq (.ops [
 oO 7 (.load 4 true (.t 2)),
 oO 8 (.load 4 true (.t 3)),
 oO 9 (.eqa [.i, .i, .i, .i] false (.t 7) (.t 8))])
 (.cond (.t 9)
 (.seq (.ops [
 oO 4 (.mv (.c (.int .i64 0)))])
 .ret)
 .skip))
 (.seq (.seq (.ops [
 oO 11 (.load 4 true (.t 2)),
 oO 12 (.load 4 true (.t 3)),
 oK 13 F_witanref01_Sub [.t 11, .t 12],
 oM 10 13,
 oO 14 (.ext (.t 10) 0),
 oO 15 (.ext (.t 10) 1),
 oO 5 (.alloc 1 4 [.int .u64 0]),
 ⟨none, .stA 1 4 4 (.t 5) (.t 14), none⟩,
 oM 6 15])
 (.seq (.ops [
 oM 16 6,
 oO 17 (.bin .eql (.t 16) (.c (.int .u64 1)))])
 (.cond (.t 17)
 (.seq (.ops [
 oO 4 (.mv (.c (.int .i64 (-1))))])
 .ret)
 .skip)))
 (.seq (.ops [
 oO 4 (.mv (.c (.int .i64 1)))])
 .ret))))⟩
theorem K_witanref01_Cmp : chkFun DK Pg Try.f23 A_witanref01_Cmp = true := by kernel_rfl
theorem B_witanref01_Cmp {args : List AV} {m : Mem} {K : AV → Mem → Prop} (h : vcFun DK Pg A_witanref01_Cmp args m K) : ACall Pg F_witanref01_Cmp args m K := call_body mixed Try.func23 (by kernel_rfl) K_witanref01_Cmp h

noncomputable def A_field_Prime : AFun := ⟨1, 22, [.cell 2 4 true],
 (.seq (.ops [
 oO 2 (.alloc 1 4 [.int .u64 0])])
 (.seq (.ops [
 oM 8 0,
 oK 9 F_field_less [.t 8],
 oM 7 9,
 oO 10 (.ext (.t 7) 0),
 oO 11 (.ext (.t 7) 1),
 oO 3 (.alloc 1 4 [.int .u64 0]),
 ⟨none, .stA 1 4 4 (.t 3) (.t 10), none⟩,
 oM 4 11])
 (.seq (.seq (.ops [
 oM 12 4,
 oO 13 (.un .not (.t 12))])
 (.cond (.t 13)
 (.seq (.ops [
 oO 14 (.build [.int .u64 0, .int .u64 0, .int .u64 0, .int .u64 0] []),
 ⟨none, .stA 1 4 4 (.t 2) (.t 14), none⟩])
 .ret)
 .skip))
 (.seq (.ops [
 oO 16 (.build [.int .u64 0, .int .u64 0, .int .u64 0, .int .u64 0] []),
 oO 17 (.load 4 true (.t 3)),
 oK 18 F_limb_Sub [.t 16, .t 17],
 oM 15 18,
 oO 19 (.ext (.t 15) 0),
 oO 20 (.ext (.t 15) 1),
 oO 5 (.alloc 1 4 [.int .u64 0]),
 ⟨none, .stA 1 4 4 (.t 5) (.t 19), none⟩,
 oM 6 20])
 (.seq (.ops [
 oO 21 (.load 4 true (.t 5)),
 ⟨none, .stA 1 4 4 (.t 2) (.t 21), none⟩])
 .ret)))))⟩
theorem K_field_Prime : chkFun DK Pg Try.f24 A_field_Prime = true := by kernel_rfl
theorem B_field_Prime {args : List AV} {m : Mem} {K : AV → Mem → Prop} (h : vcFun DK Pg A_field_Prime args m K) : ACall Pg F_field_Prime args m K := call_body mixed Try.func24 (by kernel_rfl) K_field_Prime h

noncomputable def A_witankeep_Point : AFun := ⟨2, 24, [.t 4],
 (.seq (.ops [
 oO 2 (.box 9 1 (.t 0)),
 oO 3 (.box 9 1 (.t 1)),
 oO 4 (.mv (.c (.bool false)))])
 (.seq (.ops [
 oO 5 (.fldA 0 (.t 2)),
 oO 6 (.load 1 false (.t 5)),
 oO 7 (.fldA 0 (.t 3)),
 oO 8 (.load 1 false (.t 7)),
 oO 9 (.eqb false (.t 6) (.t 8)),
 oM 10 9,
 oG 11 (.fldA 1 (.t 2)) 10 true,
 oG 12 (.load 4 true (.t 11)) 10 true,
 oG 13 (.fldA 1 (.t 3)) 10 true,
 oG 14 (.load 4 true (.t 13)) 10 true,
 oG 15 (.eqa [.i, .i, .i, .i] false (.t 12) (.t 14)) 10 true,
 oO 16 (.pick (.t 10) (.t 15) (.c (.bool false))),
 oM 17 16,
 oG 18 (.fldA 5 (.t 2)) 17 true,
 oG 19 (.load 4 true (.t 18)) 17 true,
 oG 20 (.fldA 5 (.t 3)) 17 true,
 oG 21 (.load 4 true (.t 20)) 17 true,
 oG 22 (.eqa [.i, .i, .i, .i] false (.t 19) (.t 21)) 17 true,
 oO 23 (.pick (.t 17) (.t 22) (.c (.bool false))),
 oM 4 23])
 .ret))⟩
theorem K_witankeep_Point : chkFun DK Pg Try.f27 A_witankeep_Point = true := by kernel_rfl
theorem B_witankeep_Point {args : List AV} {m : Mem} {K : AV → Mem → Prop} (h : vcFun DK Pg A_witankeep_Point args m K) : ACall Pg F_witankeep_Point args m K := call_body mixed Try.func27 (by kernel_rfl) K_witankeep_Point h

noncomputable def A_curve_Check : AFun := ⟨1, 33, [.t 2],
 (.seq (.ops [
 oO 1 (.box 9 1 (.t 0)),
 oO 2 (.mv (.c (.int .i64 0)))])
 (.seq (.seq (.ops [
 oO 4 (.fldA 0 (.t 1)),
 oO 5 (.load 1 false (.t 4))])
 (.cond (.t 5)
 (.seq (.seq (.ops [
 oO 6 (.load 9 true (.t 1)),
 oO 7 (.build [.bool false, .int .u64 0, .int .u64 0, .int .u64 0, .int .u64 0, .int .u64 0, .int .u64 0, .int .u64 0, .int .u64 0] [(0, 1, .c (.bool true))]),
 oO 8 (.eqa [.b, .i, .i, .i, .i, .i, .i, .i, .i] true (.t 6) (.t 7))])
 (.cond (.t 8)
 (.seq (.ops [
 oO 2 (.mv (.c (.int .i64 3)))])
 .ret)
 .skip))
 (.seq (.ops [
 oO 2 (.mv (.c (.int .i64 0)))])
 .ret))
 .skip))
 (.seq (.ops [
 oK 9 F_field_Prime [.c (.int .i64 0)],
 oO 3 (.alloc 1 4 [.int .u64 0]),
 ⟨none, .stA 1 4 4 (.t 3) (.t 9), none⟩])
 (.seq (.seq (.draw [
 oO 10 (.fldA 1 (.t 1)),
 oO 11 (.load 4 true (.t 10)),
 oO 12 (.load 4 true (.t 3)),
 oK 13 F_limb_Cmp [.t 11, .t 12],
 oO 14 (.bin .geq (.t 13) (.c (.int .i64 0))),
 oM 15 14,
 oG 16 (.fldA 5 (.t 1)) 15 false,
 oG 17 (.load 4 true (.t 16)) 15 false,
 oG 18 (.load 4 true (.t 3)) 15 false,
 oG 19 (.call (.c (.fn F_limb_Cmp [])) [.t 17, .t 18]) 15 false,
 oG 20 (.bin .geq (.t 19) (.c (.int .i64 0))) 15 false,
 oO 21 (.pick (.t 15) (.c (.bool true)) (.t 20)),
 oM 22 21,
 oG 23 (.fldA 5 (.t 1)) 22 false,
 oG 24 (.load 4 true (.t 23)) 22 false,
 oG 25 (.fldA 5 (.t 1)) 22 false,
 oG 26 (.load 4 true (.t 25)) 22 false,
 oG 27 (.call (.c (.fn F_curve_mul [])) [.t 24, .t 26]) 22 false,
 oG 28 (.fldA 1 (.t 1)) 22 false,
 oG 29 (.load 4 true (.t 28)) 22 false,
 oG 30 (.call (.c (.fn F_curve_right [])) [.t 29]) 22 false,
 oG 31 (.eqa [.i, .i, .i, .i] true (.t 27) (.t 30)) 22 false,
 oO 32 (.pick (.t 22) (.c (.bool true)) (.t 31))] ⟨.all, [], .look 0 (.look 1 (.look 2 (.run 3 true (.look 4 (.look 5 (.look 6 (.look 7 (.look 8 (.run 9 true (.look 10 (.look 11 (.look 12 (.look 13 (.look 14 (.look 15 (.look 16 (.look 18 (.look 19 (.run 17 true (.run 20 true (.look 21 (.look 22 .done))))))))))))))))))))))⟩)
 (.cond (.t 32)
 (.seq (.ops [
 oO 2 (.mv (.c (.int .i64 3)))])
 .ret)
 .skip))
 (.seq (.ops [
 oO 2 (.mv (.c (.int .i64 0)))])
 .ret)))))⟩
theorem K_curve_Check : chkFun DK Pg Try.f28 A_curve_Check = true := by kernel_rfl
theorem B_curve_Check {args : List AV} {m : Mem} {K : AV → Mem → Prop} (h : vcFun DK Pg A_curve_Check args m K) : ACall Pg F_curve_Check args m K := call_body mixed Try.func28 (by kernel_rfl) K_curve_Check h

noncomputable def A_sha_Sum : AFun := ⟨1, 201, [.cell 2 32 true],
 (.seq (.ops [
 oO 2 (.alloc 1 32 [.int .u8 0])])
 (.seq (.ops [
 oO 23 (.build [.int .u32 0, .int .u32 0, .int .u32 0, .int .u32 0, .int .u32 0, .int .u32 0, .int .u32 0, .int .u32 0] [(0, 1, .c (.int .u32 1779033703)), (1, 1, .c (.int .u32 3144134277)), (2, 1, .c (.int .u32 1013904242)), (3, 1, .c (.int .u32 2773480762)), (4, 1, .c (.int .u32 1359893119)), (5, 1, .c (.int .u32 2600822924)), (6, 1, .c (.int .u32 528734635)), (7, 1, .c (.int .u32 1541459225))]),
 oO 3 (.alloc 1 8 [.int .u32 0]),
 oS 8 3 23])
 (.seq (.ops [
 oK 24 F_sha_rounds [],
 oM 4 24])
 (.seq (.seq (.ops [
 oM 25 0,
 oK 26 F_sha_padded [.t 25],
 oM 5 26])
 (.block 0
 (.loop
 (.seq (.seq (.ops [
 oM 27 5,
 oO 28 (.len (.t 27)),
 oO 29 (.bin .gtr (.t 28) (.c (.int .i64 0)))])
 (.cond (.t 29)
 .skip
 (.exit 0)))
 (.seq (.block 1
 (.seq (.ops [
 oO 6 (.alloc 1 64 [.int .u32 0])])
 (.seq (.seq (.ops [
 oO 32 (.mv (.c (.int .i64 0)))])
 (.block 2
 (.loop
 (.seq (.ops [
 oO 33 (.bin .lss (.t 32) (.c (.int .i64 64)))])
 (.seq (.cond (.t 33)
 .skip
 (.exit 2))
 (.seq (.block 3
 (.seq (.ops [
 oM 34 32,
 oM 7 34])
 (.seq (.seq (.ops [
 oM 35 7,
 oO 36 (.bin .lss (.t 35) (.c (.int .i64 16)))])
 (.cond (.t 36)
 (.seq (.ops [
 oM 37 7,
 oM 38 5,
 oM 39 7,
 oO 40 (.bin .mul (.c (.int .i64 4)) (.t 39)),
 oM 41 7,
 oO 42 (.bin .mul (.c (.int .i64 4)) (.t 41)),
 oO 43 (.bin .add (.t 42) (.c (.int .i64 4))),
 oO 44 (.slice 1 (.t 38) (some (.t 40)) (some (.t 43)) none),
 oK 45 F_sha_high [.t 44],
 oO 46 (.conv .u32 (.t 45)),
 oO 47 (.idxP 64 1 (.t 6) (.t 37)),
 oS 1 47 46])
 (.exit 3))
 .skip))
 (.seq (.draw [
 oM 48 7,
 oO 49 (.bin .sub (.t 48) (.c (.int .i64 15))),
 oO 50 (.idxP 64 1 (.t 6) (.t 49)),
 oO 51 (.load 1 false (.t 50)),
 oM 52 7,
 oO 53 (.bin .sub (.t 52) (.c (.int .i64 2))),
 oO 54 (.idxP 64 1 (.t 6) (.t 53)),
 oO 55 (.load 1 false (.t 54)),
 oM 8 51,
 oM 9 55] ⟨.no, [], .flat⟩)
 (.seq (.ops [
 oM 56 8,
 oK 57 F_bits_RotateLeft32 [.t 56, .c (.int .i64 (-7))],
 oM 58 8,
 oK 59 F_bits_RotateLeft32 [.t 58, .c (.int .i64 (-18))],
 oO 60 (.bin .xor (.t 57) (.t 59)),
 oM 61 8,
 oO 62 (.bin .shr (.t 61) (.c (.int .u64 3))),
 oO 63 (.bin .xor (.t 60) (.t 62)),
 oM 10 63])
 (.seq (.ops [
 oM 64 9,
 oK 65 F_bits_RotateLeft32 [.t 64, .c (.int .i64 (-17))],
 oM 66 9,
 oK 67 F_bits_RotateLeft32 [.t 66, .c (.int .i64 (-19))],
 oO 68 (.bin .xor (.t 65) (.t 67)),
 oM 69 9,
 oO 70 (.bin .shr (.t 69) (.c (.int .u64 10))),
 oO 71 (.bin .xor (.t 68) (.t 70)),
 oM 11 71])
 (.draw [
 oM 72 7,
 oM 73 7,
 oO 74 (.bin .sub (.t 73) (.c (.int .i64 16))),
 oO 75 (.idxP 64 1 (.t 6) (.t 74)),
 oO 76 (.load 1 false (.t 75)),
 oM 77 10,
 oO 78 (.bin .add (.t 76) (.t 77)),
 oM 79 7,
 oO 80 (.bin .sub (.t 79) (.c (.int .i64 7))),
 oO 81 (.idxP 64 1 (.t 6) (.t 80)),
 oO 82 (.load 1 false (.t 81)),
 oO 83 (.bin .add (.t 78) (.t 82)),
 oM 84 11,
 oO 85 (.bin .add (.t 83) (.t 84)),
 oO 86 (.idxP 64 1 (.t 6) (.t 72)),
 oS 1 86 85] ⟨.all, [], .look 0 (.look 1 (.look 2 (.look 3 (.look 4 (.look 5 (.look 6 (.look 7 (.look 8 (.look 9 (.look 10 (.look 11 (.look 12 (.look 13 (.look 14 (.run 15 false .done)))))))))))))))⟩)))))))
 (.ops [
 oO 87 (.bin .add (.t 32) (.c (.int .i64 1))),
 oM 32 87])))))))
 (.seq (.ops [
 oO 88 (.load 8 true (.t 3)),
 oO 12 (.alloc 1 8 [.int .u32 0]),
 oS 8 12 88])
 (.seq (.seq (.ops [
 oO 89 (.mv (.c (.int .i64 0)))])
 (.block 4
 (.loop
 (.seq (.ops [
 oO 90 (.bin .lss (.t 89) (.c (.int .i64 64)))])
 (.seq (.cond (.t 90)
 .skip
 (.exit 4))
 (.seq (.block 5
 (.seq (.ops [
 oM 91 89,
 oM 13 91])
 (.seq (.draw [
 oO 92 (.idxP 8 1 (.t 12) (.c (.int .i64 4))),
 oO 93 (.load 1 false (.t 92)),
 oO 94 (.idxP 8 1 (.t 12) (.c (.int .i64 0))),
 oO 95 (.load 1 false (.t 94)),
 oM 14 93,
 oM 15 95] ⟨.no, [], .flat⟩)
 (.seq (.ops [
 oM 96 14,
 oK 97 F_bits_RotateLeft32 [.t 96, .c (.int .i64 (-6))],
 oM 98 14,
 oK 99 F_bits_RotateLeft32 [.t 98, .c (.int .i64 (-11))],
 oO 100 (.bin .xor (.t 97) (.t 99)),
 oM 101 14,
 oK 102 F_bits_RotateLeft32 [.t 101, .c (.int .i64 (-25))],
 oO 103 (.bin .xor (.t 100) (.t 102)),
 oM 16 103])
 (.seq (.draw [
 oO 104 (.idxP 8 1 (.t 12) (.c (.int .i64 7))),
 oO 105 (.load 1 false (.t 104)),
 oM 106 16,
 oO 107 (.bin .add (.t 105) (.t 106)),
 oM 108 14,
 oO 109 (.idxP 8 1 (.t 12) (.c (.int .i64 5))),
 oO 110 (.load 1 false (.t 109)),
 oO 111 (.bin .and (.t 108) (.t 110)),
 oM 112 14,
 oO 113 (.un .xor (.t 112)),
 oO 114 (.idxP 8 1 (.t 12) (.c (.int .i64 6))),
 oO 115 (.load 1 false (.t 114)),
 oO 116 (.bin .and (.t 113) (.t 115)),
 oO 117 (.bin .xor (.t 111) (.t 116)),
 oO 118 (.bin .add (.t 107) (.t 117)),
 oM 119 4,
 oM 120 13,
 oO 121 (.idxA 1 (.t 119) (.t 120)),
 oO 122 (.load 1 false (.t 121)),
 oO 123 (.bin .add (.t 118) (.t 122)),
 oM 124 13,
 oO 125 (.idxP 64 1 (.t 6) (.t 124)),
 oO 126 (.load 1 false (.t 125)),
 oO 127 (.bin .add (.t 123) (.t 126)),
 oM 17 127] ⟨.no, [], .flat⟩)
 (.seq (.ops [
 oM 128 15,
 oK 129 F_bits_RotateLeft32 [.t 128, .c (.int .i64 (-2))],
 oM 130 15,
 oK 131 F_bits_RotateLeft32 [.t 130, .c (.int .i64 (-13))],
 oO 132 (.bin .xor (.t 129) (.t 131)),
 oM 133 15,
 oK 134 F_bits_RotateLeft32 [.t 133, .c (.int .i64 (-22))],
 oO 135 (.bin .xor (.t 132) (.t 134)),
 oM 18 135])
 (.seq (.ops [
 oM 136 18,
 oM 137 15,
 oO 138 (.idxP 8 1 (.t 12) (.c (.int .i64 1))),
 oO 139 (.load 1 false (.t 138)),
 oO 140 (.bin .and (.t 137) (.t 139)),
 oM 141 15,
 oO 142 (.idxP 8 1 (.t 12) (.c (.int .i64 2))),
 oO 143 (.load 1 false (.t 142)),
 oO 144 (.bin .and (.t 141) (.t 143)),
 oO 145 (.bin .xor (.t 140) (.t 144)),
 oO 146 (.idxP 8 1 (.t 12) (.c (.int .i64 1))),
 oO 147 (.load 1 false (.t 146)),
 oO 148 (.idxP 8 1 (.t 12) (.c (.int .i64 2))),
 oO 149 (.load 1 false (.t 148)),
 oO 150 (.bin .and (.t 147) (.t 149)),
 oO 151 (.bin .xor (.t 145) (.t 150)),
 oO 152 (.bin .add (.t 136) (.t 151)),
 oM 19 152])
 (.ops [
 oM 153 17,
 oM 154 19,
 oO 155 (.bin .add (.t 153) (.t 154)),
 oM 156 15,
 oO 157 (.idxP 8 1 (.t 12) (.c (.int .i64 1))),
 oO 158 (.load 1 false (.t 157)),
 oO 159 (.idxP 8 1 (.t 12) (.c (.int .i64 2))),
 oO 160 (.load 1 false (.t 159)),
 oO 161 (.idxP 8 1 (.t 12) (.c (.int .i64 3))),
 oO 162 (.load 1 false (.t 161)),
 oM 163 17,
 oO 164 (.bin .add (.t 162) (.t 163)),
 oM 165 14,
 oO 166 (.idxP 8 1 (.t 12) (.c (.int .i64 5))),
 oO 167 (.load 1 false (.t 166)),
 oO 168 (.idxP 8 1 (.t 12) (.c (.int .i64 6))),
 oO 169 (.load 1 false (.t 168)),
 oO 170 (.build [.int .u32 0, .int .u32 0, .int .u32 0, .int .u32 0, .int .u32 0, .int .u32 0, .int .u32 0, .int .u32 0] [(0, 1, .t 155), (1, 1, .t 156), (2, 1, .t 158), (3, 1, .t 160), (4, 1, .t 164), (5, 1, .t 165), (6, 1, .t 167), (7, 1, .t 169)]),
 oS 8 12 170]))))))))
 (.ops [
 oO 171 (.bin .add (.t 89) (.c (.int .i64 1))),
 oM 89 171])))))))
 (.seq (.ops [
 oO 172 (.mv (.c (.int .i64 0)))])
 (.block 6
 (.loop
 (.seq (.ops [
 oO 173 (.bin .lss (.t 172) (.c (.int .i64 8)))])
 (.seq (.cond (.t 173)
 .skip
 (.exit 6))
 (.seq (.block 7
 (.seq (.ops [
 oM 174 172,
 oM 20 174])
 (.draw [
 oM 175 20,
 oO 176 (.idxP 8 1 (.t 3) (.t 175)),
 oO 177 (.load 1 false (.t 176)),
 oM 178 20,
 oO 179 (.idxP 8 1 (.t 12) (.t 178)),
 oO 180 (.load 1 false (.t 179)),
 oO 181 (.bin .add (.t 177) (.t 180)),
 oO 182 (.idxP 8 1 (.t 3) (.t 175)),
 oS 1 182 181] ⟨.all, [], .look 0 (.look 1 (.look 2 (.look 3 (.look 4 (.look 5 (.look 6 (.look 7 (.run 8 false .done))))))))⟩)))
 (.ops [
 oO 183 (.bin .add (.t 172) (.c (.int .i64 1))),
 oM 172 183]))))))))))))
 (.ops [
 oM 30 5,
 oO 31 (.slice 1 (.t 30) (some (.c (.int .i64 64))) none none),
 oM 5 31]))))))
 (.seq (.ops [
 oO 21 (.alloc 1 32 [.int .u8 0])])
 (.seq (.seq (.ops [
 oO 184 (.mv (.c (.int .i64 0)))])
 (.block 8
 (.loop
 (.seq (.ops [
 oO 185 (.bin .lss (.t 184) (.c (.int .i64 32)))])
 (.seq (.cond (.t 185)
 .skip
 (.exit 8))
 (.seq (.block 9
 (.seq (.ops [
 oM 186 184,
 oM 22 186])
 (.ops [
 oM 187 22,
 oM 188 22,
 oO 189 (.bin .quo (.t 188) (.c (.int .i64 4))),
 oO 190 (.idxP 8 1 (.t 3) (.t 189)),
 oO 191 (.load 1 false (.t 190)),
 oM 192 22,
 oO 193 (.bin .rem (.t 192) (.c (.int .i64 4))),
 oO 194 (.bin .mul (.c (.int .i64 8)) (.t 193)),
 oO 195 (.bin .sub (.c (.int .i64 24)) (.t 194)),
 oO 196 (.bin .shr (.t 191) (.t 195)),
 oO 197 (.conv .u8 (.t 196)),
 oO 198 (.idxP 32 1 (.t 21) (.t 187)),
 oS 1 198 197])))
 (.ops [
 oO 199 (.bin .add (.t 184) (.c (.int .i64 1))),
 oM 184 199])))))))
 (.seq (.ops [
 oO 200 (.load 32 true (.t 21)),
 oS 32 2 200])
 .ret)))))))⟩
theorem K_sha_Sum : chkFun DK Pg Try.f29 A_sha_Sum = true := by kernel_rfl
theorem B_sha_Sum {args : List AV} {m : Mem} {K : AV → Mem → Prop} (h : vcFun DK Pg A_sha_Sum args m K) : ACall Pg F_sha_Sum args m K := call_body mixed Try.func29 (by kernel_rfl) K_sha_Sum h

noncomputable def A_limb_Mod : AFun := ⟨3, 57, [.cell 6 4 true, .t 7],
 (.seq (.ops [
 oO 3 (.box 1 4 (.t 0)),
 oO 4 (.box 1 4 (.t 1)),
 oO 5 (.box 1 4 (.t 2)),
 oO 6 (.alloc 1 4 [.int .u64 0]),
 oO 7 (.mv (.c (.int .i64 0)))])
 (.seq (.seq (.ops [
 oO 12 (.load 4 true (.t 5)),
 oO 13 (.build [.int .u64 0, .int .u64 0, .int .u64 0, .int .u64 0] []),
 oO 14 (.eqa [.i, .i, .i, .i] false (.t 12) (.t 13))])
 (.cond (.t 14)
 (.seq (.ops [
 oO 15 (.build [.int .u64 0, .int .u64 0, .int .u64 0, .int .u64 0] []),
 ⟨none, .stA 1 4 4 (.t 6) (.t 15), none⟩,
 oO 7 (.mv (.c (.int .i64 1)))])
 .ret)
 .skip))
 (.seq (.ops [
 oO 8 (.alloc 1 4 [.int .u64 0])])
 (.seq (.seq (.ops [
 oO 9 (.mv (.c (.int .i64 511)))])
 (.block 0
 (.loop
 (.seq (.seq (.ops [
 oM 16 9,
 oO 17 (.bin .geq (.t 16) (.c (.int .i64 0)))])
 (.cond (.t 17)
 .skip
 (.exit 0)))
 (.seq (.block 1
 (.seq (.ops [
 oO 20 (.load 4 true (.t 4)),
 oO 10 (.alloc 1 4 [.int .u64 0]),
 ⟨none, .stA 1 4 4 (.t 10) (.t 20), none⟩])
 (.seq (.seq (.ops [
 oM 21 9,
 oO 22 (.bin .geq (.t 21) (.c (.int .i64 256)))])
 (.cond (.t 22)
 (.ops [
 oO 23 (.load 4 true (.t 3)),
 ⟨none, .stA 1 4 4 (.t 10) (.t 23), none⟩])
 .skip))
 (.seq (.ops [
 oO 24 (.idxP 4 1 (.t 8) (.c (.int .i64 3))),
 oO 25 (.load 1 false (.t 24)),
 oO 26 (.bin .shr (.t 25) (.c (.int .u64 63))),
 oM 11 26])
 (.seq (.ops [
 oO 28 (.load 4 true (.t 8)),
 oO 29 (.load 4 true (.t 8)),
 oK 30 F_limb_Add [.t 28, .t 29],
 oM 27 30,
 oO 31 (.ext (.t 27) 0),
 oO 32 (.ext (.t 27) 1),
 ⟨none, .stA 1 4 4 (.t 8) (.t 31), none⟩])
 (.seq (.draw [
 oO 33 (.idxP 4 1 (.t 8) (.c (.int .i64 0))),
 oO 34 (.load 1 false (.t 33)),
 oO 35 (.load 4 true (.t 10)),
 oM 36 9,
 oO 37 (.bin .rem (.t 36) (.c (.int .i64 256))),
 oK 38 F_limb_Bit [.t 35, .t 37],
 oO 39 (.conv .u64 (.t 38)),
 oO 40 (.bin .or (.t 34) (.t 39)),
 oO 41 (.idxP 4 1 (.t 8) (.c (.int .i64 0))),
 oS 1 41 40] ⟨.all, [], .look 0 (.look 1 (.look 2 (.look 3 (.look 4 (.run 5 true (.look 6 (.look 7 (.look 8 (.run 9 false .done)))))))))⟩)
 (.seq (.ops [
 oM 42 11,
 oO 43 (.bin .eql (.t 42) (.c (.int .u64 1))),
 oM 44 43,
 oG 45 (.load 4 true (.t 8)) 44 false,
 oG 46 (.load 4 true (.t 5)) 44 false,
 oG 47 (.call (.c (.fn F_limb_Cmp [])) [.t 45, .t 46]) 44 false,
 oG 48 (.bin .geq (.t 47) (.c (.int .i64 0))) 44 false,
 oO 49 (.pick (.t 44) (.c (.bool true)) (.t 48))])
 (.cond (.t 49)
 (.ops [
 oO 51 (.load 4 true (.t 8)),
 oO 52 (.load 4 true (.t 5)),
 oK 53 F_limb_Sub [.t 51, .t 52],
 oM 50 53,
 oO 54 (.ext (.t 50) 0),
 oO 55 (.ext (.t 50) 1),
 ⟨none, .stA 1 4 4 (.t 8) (.t 54), none⟩])
 .skip))))))))
 (.ops [
 oM 18 9,
 oO 19 (.bin .sub (.t 18) (.c (.int .i64 1))),
 oM 9 19]))))))
 (.seq (.ops [
 oO 56 (.load 4 true (.t 8)),
 ⟨none, .stA 1 4 4 (.t 6) (.t 56), none⟩,
 oO 7 (.mv (.c (.int .i64 0)))])
 .ret)))))⟩
theorem K_limb_Mod : chkFun DK Pg Try.f33 A_limb_Mod = true := by kernel_rfl
theorem B_limb_Mod {args : List AV} {m : Mem} {K : AV → Mem → Prop} (h : vcFun DK Pg A_limb_Mod args m K) : ACall Pg F_limb_Mod args m K := call_body mixed Try.func33 (by kernel_rfl) K_limb_Mod h

noncomputable def A_limb_Of : AFun := ⟨1, 28, [.cell 2 4 true],
 (.seq (.ops [
 oO 1 (.box 1 32 (.t 0)),
 oO 2 (.alloc 1 4 [.int .u64 0])])
 (.seq (.ops [
 oO 3 (.alloc 1 4 [.int .u64 0])])
 (.seq (.seq (.ops [
 oO 7 (.load 32 true (.t 1)),
 oO 8 (.mv (.c (.int .i64 0)))])
 (.block 0
 (.loop
 (.seq (.ops [
 oO 9 (.bin .lss (.t 8) (.c (.int .i64 32)))])
 (.seq (.cond (.t 9)
 .skip
 (.exit 0))
 (.seq (.block 1
 (.seq (.ops [
 oM 10 8,
 oO 11 (.idx 32 1 false (.t 7) (.t 8)),
 oM 4 10,
 oM 5 11])
 (.seq (.ops [
 oM 12 4,
 oO 13 (.binF .sub (.c (.int .i64 31)) (.t 12)),
 oM 6 13])
 (.draw [
 oM 14 6,
 oO 15 (.bin .quo (.t 14) (.c (.int .i64 8))),
 oO 16 (.idxP 4 1 (.t 3) (.t 15)),
 oO 17 (.load 1 false (.t 16)),
 oM 18 5,
 oO 19 (.conv .u64 (.t 18)),
 oM 20 6,
 oO 21 (.bin .rem (.t 20) (.c (.int .i64 8))),
 oO 22 (.binF .mul (.c (.int .i64 8)) (.t 21)),
 oO 23 (.bin .shl (.t 19) (.t 22)),
 oO 24 (.bin .or (.t 17) (.t 23)),
 oO 25 (.idxP 4 1 (.t 3) (.t 15)),
 ⟨none, .stA 1 4 1 (.t 25) (.t 24), none⟩] ⟨.all, [], .look 0 (.look 1 (.look 2 (.look 3 (.look 4 (.look 5 (.look 6 (.look 7 (.look 8 (.look 9 (.look 10 (.look 11 (.run 12 false .done))))))))))))⟩))))
 (.ops [
 oO 26 (.binF .add (.t 8) (.c (.int .i64 1))),
 oM 8 26])))))))
 (.seq (.ops [
 oO 27 (.load 4 true (.t 3)),
 ⟨none, .stA 1 4 4 (.t 2) (.t 27), none⟩])
 .ret))))⟩
theorem K_limb_Of : chkFun DK Pg Try.f34 A_limb_Of = true := by kernel_rfl
theorem B_limb_Of {args : List AV} {m : Mem} {K : AV → Mem → Prop} (h : vcFun DK Pg A_limb_Of args m K) : ACall Pg F_limb_Of args m K := call_body mixed Try.func34 (by kernel_rfl) K_limb_Of h

noncomputable def A_draw_Stream : AFun := ⟨2, 33, [.t 4, .t 5],
 (.seq (.ops [
 oO 4 (.mv (.c (.nils))),
 oO 5 (.mv (.c (.int .i64 0)))])
 (.seq (.seq (.ops [
 oM 9 1,
 oO 10 (.bin .lss (.t 9) (.c (.int .i64 0))),
 oM 11 10,
 oG 12 (.mv (.t 1)) 11 false,
 oG 13 (.bin .gtr (.t 12) (.c (.int .i64 65536))) 11 false,
 oO 14 (.pick (.t 11) (.c (.bool true)) (.t 13))])
 (.cond (.t 14)
 (.seq (.ops [
 oO 4 (.mv (.c (.nils))),
 oO 5 (.mv (.c (.int .i64 4)))])
 .ret)
 .skip))
 (.seq (.ops [
 oO 6 (.mv (.c (.nils)))])
 (.seq (.seq (.ops [
 oO 7 (.mv (.c (.int .u64 0)))])
 (.block 0
 (.loop
 (.seq (.seq (.ops [
 oM 15 6,
 oO 16 (.len (.t 15)),
 oM 17 1,
 oO 18 (.bin .lss (.t 16) (.t 17))])
 (.cond (.t 18)
 .skip
 (.exit 0)))
 (.seq (.block 1
 (.seq (.ops [
 oM 21 0,
 oM 22 7,
 oK 23 F_draw_number [.t 22, .c (.int .i64 8)],
 oK 24 F_sha_Mac [.t 21, .t 23],
 oO 8 (.alloc 1 32 [.int .u8 0]),
 oS 32 8 24])
 (.ops [
 oM 25 6,
 oO 26 (.slarr 32 1 (.t 8) none none none),
 oO 27 (.app 1 1 (.t 25) (.t 26)),
 oM 6 27])))
 (.ops [
 oM 19 7,
 oO 20 (.bin .add (.t 19) (.c (.int .u64 1))),
 oM 7 20]))))))
 (.seq (.ops [
 oO 28 (.bsl 1 0 [.int .u8 0] []),
 oM 29 6,
 oM 30 1,
 oO 31 (.slice 1 (.t 29) none (some (.t 30)) none),
 oO 32 (.app 1 1 (.t 28) (.t 31)),
 oM 4 32,
 oO 5 (.mv (.c (.int .i64 0)))])
 .ret)))))⟩
theorem K_draw_Stream : chkFun DK Pg Try.f35 A_draw_Stream = true := by kernel_rfl
theorem B_draw_Stream {args : List AV} {m : Mem} {K : AV → Mem → Prop} (h : vcFun DK Pg A_draw_Stream args m K) : ACall Pg F_draw_Stream args m K := call_body mixed Try.func35 (by kernel_rfl) K_draw_Stream h

noncomputable def A_witanref04_Stream : AFun := ⟨2, 24, [.t 4],
 (.seq (.ops [
 oO 4 (.mv (.c (.nils)))])
 (.seq (.ops [
 oO 5 (.mv (.c (.nils)))])
 (.seq (.seq (.ops [
 oO 6 (.mv (.c (.int .u64 0)))])
 (.block 0
 (.loop
 (.seq (.seq (.ops [
 oM 8 5,
 oO 9 (.len (.t 8)),
 oM 10 1,
 oO 11 (.bin .lss (.t 9) (.t 10))])
 (.cond (.t 11)
 .skip
 (.exit 0)))
 (.seq (.block 1
 (.seq (.ops [
 oM 14 0,
 oM 15 6,
 oK 16 F_witanref04_be [.t 15, .c (.int .i64 8)],
 oK 17 F_witanref04_Mac [.t 14, .t 16],
 oO 7 (.alloc 1 32 [.int .u8 0]),
 oS 32 7 17])
 (.ops [
 oM 18 5,
 oO 19 (.slarr 32 1 (.t 7) none none none),
 oO 20 (.app 1 1 (.t 18) (.t 19)),
 oM 5 20])))
 (.ops [
 oM 12 6,
 oO 13 (.bin .add (.t 12) (.c (.int .u64 1))),
 oM 6 13]))))))
 (.seq (.ops [
 oM 21 5,
 oM 22 1,
 oO 23 (.slice 1 (.t 21) none (some (.t 22)) none),
 oM 4 23])
 .ret))))⟩
theorem K_witanref04_Stream : chkFun DK Pg Try.f37 A_witanref04_Stream = true := by kernel_rfl
theorem B_witanref04_Stream {args : List AV} {m : Mem} {K : AV → Mem → Prop} (h : vcFun DK Pg A_witanref04_Stream args m K) : ACall Pg F_witanref04_Stream args m K := call_body mixed Try.func37 (by kernel_rfl) K_witanref04_Stream h

noncomputable def A_sha_Mac : AFun := ⟨2, 50, [.cell 4 32 true],
 (.seq (.ops [
 oO 4 (.alloc 1 32 [.int .u8 0])])
 (.seq (.seq (.ops [
 oM 10 0,
 oO 11 (.len (.t 10)),
 oO 12 (.bin .gtr (.t 11) (.c (.int .i64 64)))])
 (.cond (.t 12)
 (.seq (.ops [
 oM 13 0,
 oK 14 F_sha_Sum [.t 13],
 oO 5 (.alloc 1 32 [.int .u8 0]),
 oS 32 5 14])
 (.ops [
 oO 15 (.slarr 32 1 (.t 5) none none none),
 oM 0 15]))
 .skip))
 (.seq (.draw [
 oO 16 (.mksl 1 1 [.int .u8 0] (.c (.int .i64 64)) (.c (.int .i64 64))),
 oO 17 (.mksl 1 1 [.int .u8 0] (.c (.int .i64 64)) (.c (.int .i64 64))),
 oM 6 16,
 oM 7 17] ⟨.all, [(1, none)], .run 0 true (.look 2 (.fill (.look 3 .done)))⟩)
 (.seq (.ops [
 oM 18 6,
 oM 19 0,
 oO 20 (.copy 1 (.t 18) (.t 19))])
 (.seq (.ops [
 oM 21 7,
 oM 22 0,
 oO 23 (.copy 1 (.t 21) (.t 22))])
 (.seq (.seq (.ops [
 oM 24 6,
 oO 25 (.len (.t 24)),
 oO 26 (.mv (.c (.int .i64 0)))])
 (.block 0
 (.loop
 (.seq (.ops [
 oO 27 (.bin .lss (.t 26) (.t 25))])
 (.seq (.cond (.t 27)
 .skip
 (.exit 0))
 (.seq (.block 1
 (.seq (.ops [
 oM 28 26,
 oM 8 28])
 (.seq (.ops [
 oM 29 6,
 oM 30 8,
 oO 31 (.idxA 1 (.t 29) (.t 30)),
 oO 32 (.load 1 false (.t 31)),
 oO 33 (.bin .xor (.t 32) (.c (.int .u8 54))),
 oO 34 (.idxA 1 (.t 29) (.t 30)),
 oS 1 34 33])
 (.ops [
 oM 35 7,
 oM 36 8,
 oO 37 (.idxA 1 (.t 35) (.t 36)),
 oO 38 (.load 1 false (.t 37)),
 oO 39 (.bin .xor (.t 38) (.c (.int .u8 92))),
 oO 40 (.idxA 1 (.t 35) (.t 36)),
 oS 1 40 39]))))
 (.ops [
 oO 41 (.bin .add (.t 26) (.c (.int .i64 1))),
 oM 26 41])))))))
 (.seq (.ops [
 oM 42 6,
 oM 43 1,
 oO 44 (.app 1 1 (.t 42) (.t 43)),
 oK 45 F_sha_Sum [.t 44],
 oO 9 (.alloc 1 32 [.int .u8 0]),
 oS 32 9 45])
 (.seq (.ops [
 oM 46 7,
 oO 47 (.slarr 32 1 (.t 9) none none none),
 oO 48 (.app 1 1 (.t 46) (.t 47)),
 oK 49 F_sha_Sum [.t 48],
 oS 32 4 49])
 .ret))))))))⟩
theorem K_sha_Mac : chkFun DK Pg Try.f38 A_sha_Mac = true := by kernel_rfl
theorem B_sha_Mac {args : List AV} {m : Mem} {K : AV → Mem → Prop} (h : vcFun DK Pg A_sha_Mac args m K) : ACall Pg F_sha_Mac args m K := call_body mixed Try.func38 (by kernel_rfl) K_sha_Mac h

noncomputable def A_curve_Base : AFun := ⟨1, 8, [.cell 2 9 true],
 (.seq (.ops [
 oO 1 (.box 1 4 (.t 0)),
 oO 2 (.alloc 9 1 [.bool false, .int .u64 0, .int .u64 0, .int .u64 0, .int .u64 0, .int .u64 0, .int .u64 0, .int .u64 0, .int .u64 0])])
 (.seq (.draw [
 oK 3 F_curve_base [],
 oK 4 F_curve_spread [.t 3],
 oO 5 (.load 4 true (.t 1)),
 oK 6 F_curve_jac_times [.t 4, .t 5],
 oK 7 F_curve_jac_point [.t 6],
 ⟨none, .stA 9 1 9 (.t 2) (.t 7), none⟩] ⟨.all, [], .look 2 (.run 0 true (.run 1 true (.run 3 false (.run 4 false (.run 5 false .done)))))⟩)
 .ret))⟩
theorem K_curve_Base : chkFun DK Pg Try.f39 A_curve_Base = true := by kernel_rfl
theorem B_curve_Base {args : List AV} {m : Mem} {K : AV → Mem → Prop} (h : vcFun DK Pg A_curve_Base args m K) : ACall Pg F_curve_Base args m K := call_body mixed Try.func39 (by kernel_rfl) K_curve_Base h

noncomputable def A_curve_Bytes : AFun := ⟨1, 28, [.t 2, .t 3],
 (.seq (.ops [
 oO 1 (.box 9 1 (.t 0)),
 oO 2 (.mv (.c (.nils))),
 oO 3 (.mv (.c (.int .i64 0)))])
 (.seq (.ops [
 oO 6 (.load 9 true (.t 1)),
 oK 7 F_curve_Check [.t 6],
 oM 4 7])
 (.seq (.block 0
 (.seq (.ops [
 oM 9 4,
 oO 10 (.bin .neq (.t 9) (.c (.int .i64 0))),
 oM 8 10])
 (.cond (.t 8)
 (.seq (.ops [
 oM 11 4,
 oO 2 (.mv (.c (.nils))),
 oM 3 11])
 .ret)
 (.seq (.ops [
 oO 13 (.fldA 0 (.t 1)),
 oO 14 (.load 1 false (.t 13)),
 oM 12 14])
 (.cond (.t 12)
 (.seq (.ops [
 oO 15 (.bsl 1 1 [.int .u8 0] [(0, 1, .c (.int .u8 0))]),
 oM 2 15,
 oO 3 (.mv (.c (.int .i64 0)))])
 .ret)
 .skip)))))
 (.seq (.ops [
 oO 16 (.fldA 1 (.t 1)),
 oO 17 (.load 4 true (.t 16)),
 oK 18 F_limb_Bytes [.t 17],
 oO 5 (.alloc 1 32 [.int .u8 0]),
 oS 32 5 18])
 (.seq (.draw [
 oO 19 (.fldA 5 (.t 1)),
 oO 20 (.idxP 4 1 (.t 19) (.c (.int .i64 0))),
 oO 21 (.load 1 false (.t 20)),
 oO 22 (.bin .and (.t 21) (.c (.int .u64 1))),
 oO 23 (.bin .add (.c (.int .u64 2)) (.t 22)),
 oO 24 (.conv .u8 (.t 23)),
 oO 25 (.bsl 1 1 [.int .u8 0] [(0, 1, .t 24)]),
 oO 26 (.slarr 32 1 (.t 5) none none none),
 oO 27 (.app 1 1 (.t 25) (.t 26)),
 oM 2 27,
 oO 3 (.mv (.c (.int .i64 0)))] ⟨.all, [], .look 0 (.look 1 (.look 2 (.look 3 (.look 4 (.look 5 (.look 7 (.run 6 true (.run 8 false (.look 9 (.look 10 .done))))))))))⟩)
 .ret)))))⟩
theorem K_curve_Bytes : chkFun DK Pg Try.f40 A_curve_Bytes = true := by kernel_rfl
theorem B_curve_Bytes {args : List AV} {m : Mem} {K : AV → Mem → Prop} (h : vcFun DK Pg A_curve_Bytes args m K) : ACall Pg F_curve_Bytes args m K := call_body mixed Try.func40 (by kernel_rfl) K_curve_Bytes h

noncomputable def A_pair_Seal : AFun := ⟨4, 18, [.cell 8 32 true, .t 9],
 (.seq (.ops [
 oO 4 (.box 9 1 (.t 0)),
 oO 7 (.box 1 4 (.t 3)),
 oO 8 (.alloc 1 32 [.int .u8 0]),
 oO 9 (.mv (.c (.int .i64 0)))])
 (.seq (.draw [
 oO 10 (.load 9 true (.t 4)),
 oM 11 1,
 oM 12 2,
 oO 13 (.load 4 true (.t 7)),
 oK 14 F_limb_Bytes [.t 13],
 oK 15 F_pair_turned [.t 10, .t 11, .t 12, .t 14],
 oO 16 (.ext (.t 15) 0),
 oO 17 (.ext (.t 15) 1),
 oS 32 8 16,
 oM 9 17] ⟨.all, [], .look 0 (.look 1 (.look 2 (.look 3 (.run 4 true (.run 5 false (.look 6 (.look 7 (.run 8 false (.look 9 .done)))))))))⟩)
 .ret))⟩
theorem K_pair_Seal : chkFun DK Pg Try.f41 A_pair_Seal = true := by kernel_rfl
theorem B_pair_Seal {args : List AV} {m : Mem} {K : AV → Mem → Prop} (h : vcFun DK Pg A_pair_Seal args m K) : ACall Pg F_pair_Seal args m K := call_body mixed Try.func41 (by kernel_rfl) K_pair_Seal h

noncomputable def A_limb_Bytes : AFun := ⟨1, 24, [.cell 2 32 true],
 (.seq (.ops [
 oO 1 (.box 1 4 (.t 0)),
 oO 2 (.alloc 1 32 [.int .u8 0])])
 (.seq (.ops [
 oO 3 (.alloc 1 32 [.int .u8 0])])
 (.seq (.seq (.ops [
 oO 6 (.mv (.c (.int .i64 0)))])
 (.block 0
 (.loop
 (.seq (.ops [
 oO 7 (.bin .lss (.t 6) (.c (.int .i64 32)))])
 (.seq (.cond (.t 7)
 .skip
 (.exit 0))
 (.seq (.block 1
 (.seq (.ops [
 oM 8 6,
 oM 4 8])
 (.seq (.ops [
 oM 9 4,
 oO 10 (.binF .sub (.c (.int .i64 31)) (.t 9)),
 oM 5 10])
 (.ops [
 oM 11 4,
 oM 12 5,
 oO 13 (.bin .quo (.t 12) (.c (.int .i64 8))),
 oO 14 (.idxP 4 1 (.t 1) (.t 13)),
 oO 15 (.load 1 false (.t 14)),
 oM 16 5,
 oO 17 (.bin .rem (.t 16) (.c (.int .i64 8))),
 oO 18 (.binF .mul (.c (.int .i64 8)) (.t 17)),
 oO 19 (.bin .shr (.t 15) (.t 18)),
 oO 20 (.conv .u8 (.t 19)),
 oO 21 (.idxP 32 1 (.t 3) (.t 11)),
 ⟨none, .stA 1 32 1 (.t 21) (.t 20), none⟩]))))
 (.ops [
 oO 22 (.binF .add (.t 6) (.c (.int .i64 1))),
 oM 6 22])))))))
 (.seq (.ops [
 oO 23 (.load 32 true (.t 3)),
 ⟨none, .stA 1 32 32 (.t 2) (.t 23), none⟩])
 .ret))))⟩
theorem K_limb_Bytes : chkFun DK Pg Try.f42 A_limb_Bytes = true := by kernel_rfl
theorem B_limb_Bytes {args : List AV} {m : Mem} {K : AV → Mem → Prop} (h : vcFun DK Pg A_limb_Bytes args m K) : ACall Pg F_limb_Bytes args m K := call_body mixed Try.func42 (by kernel_rfl) K_limb_Bytes h

noncomputable def A_witanlaw08_wakes : AFun := ⟨0, 36, [.t 0],
 (.seq (.ops [
 oO 0 (.mv (.c (.bool false)))])
 (.seq (.ops [
 oO 6 (.build [.int .u64 0, .int .u64 0, .int .u64 0, .int .u64 0] [(0, 1, .c (.int .u64 5))]),
 oK 7 F_curve_Base [.t 6],
 oO 1 (.alloc 9 1 [.bool false, .int .u64 0, .int .u64 0, .int .u64 0, .int .u64 0, .int .u64 0, .int .u64 0, .int .u64 0, .int .u64 0]),
 ⟨none, .stA 9 1 9 (.t 1) (.t 7), none⟩])
 (.seq (.ops [
 oO 9 (.load 9 true (.t 1)),
 oO 10 (.build [.int .u64 0, .int .u64 0, .int .u64 0, .int .u64 0] [(0, 1, .c (.int .u64 77))]),
 oK 11 F_pair_Seal [.t 9, .c (.int .i64 1), .c (.int .i64 2), .t 10],
 oM 8 11,
 oO 12 (.ext (.t 8) 0),
 oO 13 (.ext (.t 8) 1),
 oO 2 (.alloc 1 32 [.int .u8 0]),
 oS 32 2 12,
 oM 3 13])
 (.seq (.ops [
 oO 15 (.load 9 true (.t 1)),
 oO 16 (.load 32 true (.t 2)),
 oK 17 F_pair_Open [.t 15, .c (.int .i64 1), .c (.int .i64 2), .t 16],
 oM 14 17,
 oO 18 (.ext (.t 14) 0),
 oO 19 (.ext (.t 14) 1),
 oO 4 (.alloc 1 4 [.int .u64 0]),
 ⟨none, .stA 1 4 4 (.t 4) (.t 18), none⟩,
 oM 5 19])
 (.seq (.ops [
 oM 20 3,
 oO 21 (.bin .eql (.t 20) (.c (.int .i64 0))),
 oM 22 21,
 oG 23 (.mv (.t 5)) 22 true,
 oG 24 (.bin .eql (.t 23) (.c (.int .i64 0))) 22 true,
 oO 25 (.pick (.t 22) (.t 24) (.c (.bool false))),
 oM 26 25,
 oG 27 (.load 4 true (.t 4)) 26 true,
 oG 28 (.build [.int .u64 0, .int .u64 0, .int .u64 0, .int .u64 0] [(0, 1, .c (.int .u64 77))]) 26 true,
 oG 29 (.eqa [.i, .i, .i, .i] false (.t 27) (.t 28)) 26 true,
 oO 30 (.pick (.t 26) (.t 29) (.c (.bool false))),
 oM 31 30,
 oG 32 (.load 32 true (.t 2)) 31 true,
 oG 33 (.build (List.replicate 32 (.int .u8 0)) [(31, 1, .c (.int .u8 77))]) 31 true,
 oG 34 (.eqa (List.replicate 32 (.i)) true (.t 32) (.t 33)) 31 true,
 oO 35 (.pick (.t 31) (.t 34) (.c (.bool false))),
 oM 0 35])
 .ret)))))⟩
theorem K_witanlaw08_wakes : chkFun DK Pg Try.f43 A_witanlaw08_wakes = true := by kernel_rfl
theorem B_witanlaw08_wakes {args : List AV} {m : Mem} {K : AV → Mem → Prop} (h : vcFun DK Pg A_witanlaw08_wakes args m K) : ACall Pg F_witanlaw08_wakes args m K := call_body mixed Try.func43 (by kernel_rfl) K_witanlaw08_wakes h

noncomputable def A_pair_Key : AFun := ⟨2, 11, [.cell 4 9 true, .t 5],
 (.seq (.ops [
 oO 2 (.box 1 4 (.t 0)),
 oO 3 (.box 9 1 (.t 1)),
 oO 4 (.alloc 9 1 [.bool false, .int .u64 0, .int .u64 0, .int .u64 0, .int .u64 0, .int .u64 0, .int .u64 0, .int .u64 0, .int .u64 0]),
 oO 5 (.mv (.c (.int .i64 0)))])
 (.seq (.ops [
 oO 6 (.load 4 true (.t 2)),
 oO 7 (.load 9 true (.t 3)),
 oK 8 F_curve_Times [.t 6, .t 7],
 oO 9 (.ext (.t 8) 0),
 oO 10 (.ext (.t 8) 1),
 ⟨none, .stA 9 1 9 (.t 4) (.t 9), none⟩,
 oM 5 10])
 .ret))⟩
theorem K_pair_Key : chkFun DK Pg Try.f44 A_pair_Key = true := by kernel_rfl
theorem B_pair_Key {args : List AV} {m : Mem} {K : AV → Mem → Prop} (h : vcFun DK Pg A_pair_Key args m K) : ACall Pg F_pair_Key args m K := call_body mixed Try.func44 (by kernel_rfl) K_pair_Key h

noncomputable def A_witanref01_Check : AFun := ⟨1, 45, [.t 2],
 (.seq (.ops [
 oO 1 (.box 9 1 (.t 0)),
 oO 2 (.mv (.c (.bool false)))])
 (.seq (.seq (.ops [
 oO 3 (.fldA 0 (.t 1)),
 oO 4 (.load 1 false (.t 3))])
 (.cond (.t 4)
 (.seq (.ops [
 oO 5 (.fldA 1 (.t 1)),
 oO 6 (.load 4 true (.t 5)),
 oO 7 (.build [.int .u64 0, .int .u64 0, .int .u64 0, .int .u64 0] []),
 oO 8 (.eqa [.i, .i, .i, .i] false (.t 6) (.t 7)),
 oM 9 8,
 oG 10 (.fldA 5 (.t 1)) 9 true,
 oG 11 (.load 4 true (.t 10)) 9 true,
 oG 12 (.build [.int .u64 0, .int .u64 0, .int .u64 0, .int .u64 0] []) 9 true,
 oG 13 (.eqa [.i, .i, .i, .i] false (.t 11) (.t 12)) 9 true,
 oO 14 (.pick (.t 9) (.t 13) (.c (.bool false))),
 oM 2 14])
 .ret)
 .skip))
 (.seq (.draw [
 oO 15 (.fldA 1 (.t 1)),
 oO 16 (.load 4 true (.t 15)),
 oK 17 F_witanref01_Prime [.c (.int .i64 0)],
 oK 18 F_witanref01_Cmp [.t 16, .t 17],
 oO 19 (.bin .lss (.t 18) (.c (.int .i64 0))),
 oM 20 19,
 oG 21 (.fldA 5 (.t 1)) 20 true,
 oG 22 (.load 4 true (.t 21)) 20 true,
 oG 23 (.call (.c (.fn F_witanref01_Prime [])) [.c (.int .i64 0)]) 20 true,
 oG 24 (.call (.c (.fn F_witanref01_Cmp [])) [.t 22, .t 23]) 20 true,
 oG 25 (.bin .lss (.t 24) (.c (.int .i64 0))) 20 true,
 oO 26 (.pick (.t 20) (.t 25) (.c (.bool false))),
 oM 27 26,
 oG 28 (.fldA 5 (.t 1)) 27 true,
 oG 29 (.load 4 true (.t 28)) 27 true,
 oG 30 (.fldA 5 (.t 1)) 27 true,
 oG 31 (.load 4 true (.t 30)) 27 true,
 oG 32 (.call (.c (.fn F_witanref01_mul [])) [.t 29, .t 31]) 27 true,
 oG 33 (.fldA 1 (.t 1)) 27 true,
 oG 34 (.load 4 true (.t 33)) 27 true,
 oG 35 (.fldA 1 (.t 1)) 27 true,
 oG 36 (.load 4 true (.t 35)) 27 true,
 oG 37 (.call (.c (.fn F_witanref01_mul [])) [.t 34, .t 36]) 27 true,
 oG 38 (.fldA 1 (.t 1)) 27 true,
 oG 39 (.load 4 true (.t 38)) 27 true,
 oG 40 (.call (.c (.fn F_witanref01_mul [])) [.t 37, .t 39]) 27 true,
 oG 41 (.build [.int .u64 0, .int .u64 0, .int .u64 0, .int .u64 0] [(0, 1, .c (.int .u64 7))]) 27 true,
 oG 42 (.call (.c (.fn F_witanref01_add [])) [.t 40, .t 41]) 27 true,
 oG 43 (.eqa [.i, .i, .i, .i] false (.t 32) (.t 42)) 27 true,
 oO 44 (.pick (.t 27) (.t 43) (.c (.bool false))),
 oM 2 44] ⟨.all, [], .look 0 (.look 1 (.run 2 true (.run 3 true (.look 4 (.look 5 (.look 6 (.look 7 (.run 8 true (.run 9 true (.look 10 (.look 11 (.look 12 (.look 13 (.look 14 (.look 15 (.look 16 (.look 18 (.look 19 (.look 20 (.look 21 (.look 23 (.look 24 (.look 26 (.run 17 true (.run 22 true (.run 25 true (.run 27 true (.look 28 (.look 29 (.look 30 .done))))))))))))))))))))))))))))))⟩)
 .ret)))⟩
theorem K_witanref01_Check : chkFun DK Pg Try.f45 A_witanref01_Check = true := by kernel_rfl
theorem B_witanref01_Check {args : List AV} {m : Mem} {K : AV → Mem → Prop} (h : vcFun DK Pg A_witanref01_Check args m K) : ACall Pg F_witanref01_Check args m K := call_body mixed Try.func45 (by kernel_rfl) K_witanref01_Check h

noncomputable def A_witanref01_Times : AFun := ⟨2, 9, [.cell 4 9 true],
 (.seq (.ops [
 oO 2 (.box 1 4 (.t 0)),
 oO 3 (.box 9 1 (.t 1)),
 oO 4 (.alloc 9 1 [.bool false, .int .u64 0, .int .u64 0, .int .u64 0, .int .u64 0, .int .u64 0, .int .u64 0, .int .u64 0, .int .u64 0])])
 (.seq (.ops [
 oO 5 (.load 4 true (.t 2)),
 oO 6 (.load 9 true (.t 3)),
 oK 7 F_witanref01_times [.t 5, .t 6],
 oK 8 F_witanref01_down [.t 7],
 ⟨none, .stA 9 1 9 (.t 4) (.t 8), none⟩])
 .ret))⟩
theorem K_witanref01_Times : chkFun DK Pg Try.f46 A_witanref01_Times = true := by kernel_rfl
theorem B_witanref01_Times {args : List AV} {m : Mem} {K : AV → Mem → Prop} (h : vcFun DK Pg A_witanref01_Times args m K) : ACall Pg F_witanref01_Times args m K := call_body mixed Try.func46 (by kernel_rfl) K_witanref01_Times h

noncomputable def A_pair_Open : AFun := ⟨4, 26, [.cell 8 4 true, .t 9],
 (.seq (.ops [
 oO 4 (.box 9 1 (.t 0)),
 oO 7 (.box 1 32 (.t 3)),
 oO 8 (.alloc 1 4 [.int .u64 0]),
 oO 9 (.mv (.c (.int .i64 0)))])
 (.seq (.ops [
 oO 13 (.load 9 true (.t 4)),
 oM 14 1,
 oM 15 2,
 oO 16 (.load 32 true (.t 7)),
 oK 17 F_pair_turned [.t 13, .t 14, .t 15, .t 16],
 oM 12 17,
 oO 18 (.ext (.t 12) 0),
 oO 19 (.ext (.t 12) 1),
 oO 10 (.alloc 1 32 [.int .u8 0]),
 oS 32 10 18,
 oM 11 19])
 (.seq (.seq (.ops [
 oM 20 11,
 oO 21 (.bin .neq (.t 20) (.c (.int .i64 0)))])
 (.cond (.t 21)
 (.seq (.ops [
 oO 22 (.build [.int .u64 0, .int .u64 0, .int .u64 0, .int .u64 0] []),
 oM 23 11,
 ⟨none, .stA 1 4 4 (.t 8) (.t 22), none⟩,
 oM 9 23])
 .ret)
 .skip))
 (.seq (.ops [
 oO 24 (.load 32 true (.t 10)),
 oK 25 F_limb_Of [.t 24],
 ⟨none, .stA 1 4 4 (.t 8) (.t 25), none⟩,
 oO 9 (.mv (.c (.int .i64 0)))])
 .ret))))⟩
theorem K_pair_Open : chkFun DK Pg Try.f47 A_pair_Open = true := by kernel_rfl
theorem B_pair_Open {args : List AV} {m : Mem} {K : AV → Mem → Prop} (h : vcFun DK Pg A_pair_Open args m K) : ACall Pg F_pair_Open args m K := call_body mixed Try.func47 (by kernel_rfl) K_pair_Open h

noncomputable def A_witanref06_Seal : AFun := ⟨4, 32, [.cell 8 32 true],
 (.seq (.ops [
 oO 4 (.box 9 1 (.t 0)),
 oO 7 (.box 1 4 (.t 3)),
 oO 8 (.alloc 1 32 [.int .u8 0])])
 (.seq (.ops [
 oO 12 (.load 4 true (.t 7)),
 oK 13 F_witanref01_Bytes [.t 12],
 oO 9 (.alloc 1 32 [.int .u8 0]),
 oS 32 9 13])
 (.seq (.ops [
 oO 14 (.load 9 true (.t 4)),
 oM 15 1,
 oM 16 2,
 oK 17 F_witanref06_stream [.t 14, .t 15, .t 16],
 oM 10 17])
 (.seq (.seq (.ops [
 oO 11 (.mv (.c (.int .i64 0)))])
 (.block 0
 (.loop
 (.seq (.seq (.ops [
 oM 18 11,
 oO 19 (.bin .lss (.t 18) (.c (.int .i64 32)))])
 (.cond (.t 19)
 .skip
 (.exit 0)))
 (.seq (.block 1
 (.draw [
 oM 22 11,
 oO 23 (.idxP 32 1 (.t 9) (.t 22)),
 oO 24 (.load 1 false (.t 23)),
 oM 25 10,
 oM 26 11,
 oO 27 (.idxA 1 (.t 25) (.t 26)),
 oO 28 (.load 1 false (.t 27)),
 oO 29 (.bin .xor (.t 24) (.t 28)),
 oO 30 (.idxP 32 1 (.t 9) (.t 22)),
 oS 1 30 29] ⟨.all, [], .look 0 (.look 1 (.look 2 (.look 3 (.look 4 (.look 5 (.look 6 (.look 7 (.look 8 (.run 9 false .done)))))))))⟩))
 (.ops [
 oM 20 11,
 oO 21 (.bin .add (.t 20) (.c (.int .i64 1))),
 oM 11 21]))))))
 (.seq (.ops [
 oO 31 (.load 32 true (.t 9)),
 oS 32 8 31])
 .ret)))))⟩
theorem K_witanref06_Seal : chkFun DK Pg Try.f48 A_witanref06_Seal = true := by kernel_rfl
theorem B_witanref06_Seal {args : List AV} {m : Mem} {K : AV → Mem → Prop} (h : vcFun DK Pg A_witanref06_Seal args m K) : ACall Pg F_witanref06_Seal args m K := call_body mixed Try.func48 (by kernel_rfl) K_witanref06_Seal h

noncomputable def A_witanref06_Open : AFun := ⟨4, 16, [.cell 8 4 true],
 (.seq (.ops [
 oO 4 (.box 9 1 (.t 0)),
 oO 7 (.box 1 32 (.t 3)),
 oO 8 (.alloc 1 4 [.int .u64 0])])
 (.seq (.draw [
 oO 9 (.load 9 true (.t 4)),
 oM 10 1,
 oM 11 2,
 oO 12 (.load 32 true (.t 7)),
 oK 13 F_witanref01_Of [.t 12],
 oK 14 F_witanref06_Seal [.t 9, .t 10, .t 11, .t 13],
 oK 15 F_witanref01_Of [.t 14],
 ⟨none, .stA 1 4 4 (.t 8) (.t 15), none⟩] ⟨.all, [], .look 0 (.look 1 (.look 2 (.look 3 (.run 4 true (.run 5 false (.run 6 false (.run 7 false .done)))))))⟩)
 .ret))⟩
theorem K_witanref06_Open : chkFun DK Pg Try.f49 A_witanref06_Open = true := by kernel_rfl
theorem B_witanref06_Open {args : List AV} {m : Mem} {K : AV → Mem → Prop} (h : vcFun DK Pg A_witanref06_Open args m K) : ACall Pg F_witanref06_Open args m K := call_body mixed Try.func49 (by kernel_rfl) K_witanref06_Open h

noncomputable def A_dleq_Prove : AFun := ⟨3, 55, [.cell 6 8 true, .t 7],
 (.seq (.ops [
 oO 3 (.box 1 4 (.t 0)),
 oO 4 (.box 1 4 (.t 1)),
 oO 5 (.box 9 1 (.t 2)),
 oO 6 (.alloc 8 1 [.int .u64 0, .int .u64 0, .int .u64 0, .int .u64 0, .int .u64 0, .int .u64 0, .int .u64 0, .int .u64 0]),
 oO 7 (.mv (.c (.int .i64 0)))])
 (.seq (.ops [
 oO 14 (.load 9 true (.t 5)),
 oK 15 F_curve_Check [.t 14],
 oM 8 15])
 (.seq (.seq (.ops [
 oM 16 8,
 oO 17 (.bin .neq (.t 16) (.c (.int .i64 0)))])
 (.cond (.t 17)
 (.seq (.ops [
 oO 18 (.build [.int .u64 0, .int .u64 0, .int .u64 0, .int .u64 0, .int .u64 0, .int .u64 0, .int .u64 0, .int .u64 0] []),
 oM 19 8,
 ⟨none, .stA 8 1 8 (.t 6) (.t 18), none⟩,
 oM 7 19])
 .ret)
 .skip))
 (.seq (.ops [
 oO 21 (.load 4 true (.t 3)),
 oO 22 (.load 9 true (.t 5)),
 oK 23 F_curve_Times [.t 21, .t 22],
 oM 20 23,
 oO 24 (.ext (.t 20) 0),
 oO 25 (.ext (.t 20) 1),
 oO 9 (.alloc 9 1 [.bool false, .int .u64 0, .int .u64 0, .int .u64 0, .int .u64 0, .int .u64 0, .int .u64 0, .int .u64 0, .int .u64 0]),
 ⟨none, .stA 9 1 9 (.t 9) (.t 24), none⟩,
 oM 10 25])
 (.seq (.ops [
 oO 27 (.load 4 true (.t 4)),
 oO 28 (.load 9 true (.t 5)),
 oK 29 F_curve_Times [.t 27, .t 28],
 oM 26 29,
 oO 30 (.ext (.t 26) 0),
 oO 31 (.ext (.t 26) 1),
 oO 11 (.alloc 9 1 [.bool false, .int .u64 0, .int .u64 0, .int .u64 0, .int .u64 0, .int .u64 0, .int .u64 0, .int .u64 0, .int .u64 0]),
 ⟨none, .stA 9 1 9 (.t 11) (.t 30), none⟩,
 oM 12 31])
 (.seq (.draw [
 oO 33 (.load 4 true (.t 3)),
 oK 34 F_curve_Base [.t 33],
 oO 35 (.load 9 true (.t 5)),
 oO 36 (.load 9 true (.t 9)),
 oO 37 (.load 4 true (.t 4)),
 oK 38 F_curve_Base [.t 37],
 oO 39 (.load 9 true (.t 11)),
 oO 40 (.bsl 9 5 [.bool false, .int .u64 0, .int .u64 0, .int .u64 0, .int .u64 0, .int .u64 0, .int .u64 0, .int .u64 0, .int .u64 0] [(0, 9, .t 34), (9, 9, .t 35), (18, 9, .t 36), (27, 9, .t 38), (36, 9, .t 39)]),
 oK 41 F_dleq_challenge [.t 40],
 oM 32 41,
 oO 42 (.ext (.t 32) 0),
 oO 43 (.ext (.t 32) 1),
 oO 13 (.alloc 1 4 [.int .u64 0]),
 oS 4 13 42,
 oM 8 43] ⟨.all, [(12, some 13)], .look 0 (.look 2 (.look 3 (.look 4 (.look 6 (.run 1 true (.run 5 true (.run 7 true (.run 8 true (.look 9 (.look 10 (.pre 12 13 (.look 11 (.fill (.look 14 .done))))))))))))))⟩)
 (.seq (.seq (.ops [
 oM 44 8,
 oO 45 (.bin .neq (.t 44) (.c (.int .i64 0)))])
 (.cond (.t 45)
 (.seq (.ops [
 oO 46 (.build [.int .u64 0, .int .u64 0, .int .u64 0, .int .u64 0, .int .u64 0, .int .u64 0, .int .u64 0, .int .u64 0] []),
 oM 47 8,
 ⟨none, .stA 8 1 8 (.t 6) (.t 46), none⟩,
 oM 7 47])
 .ret)
 .skip))
 (.seq (.draw [
 oO 48 (.load 4 true (.t 13)),
 oO 49 (.load 4 true (.t 4)),
 oO 50 (.load 4 true (.t 13)),
 oO 51 (.load 4 true (.t 3)),
 oK 52 F_field_Mul [.c (.int .i64 1), .t 50, .t 51],
 oK 53 F_field_Sub [.c (.int .i64 1), .t 49, .t 52],
 oO 54 (.build [.int .u64 0, .int .u64 0, .int .u64 0, .int .u64 0, .int .u64 0, .int .u64 0, .int .u64 0, .int .u64 0] [(0, 4, .t 48), (4, 4, .t 53)]),
 ⟨none, .stA 8 1 8 (.t 6) (.t 54), none⟩,
 oO 7 (.mv (.c (.int .i64 0)))] ⟨.all, [], .look 0 (.look 1 (.look 2 (.look 3 (.run 4 true (.run 5 true (.look 6 (.run 7 false (.look 8 .done))))))))⟩)
 .ret))))))))⟩
theorem K_dleq_Prove : chkFun DK Pg Try.f50 A_dleq_Prove = true := by kernel_rfl
theorem B_dleq_Prove {args : List AV} {m : Mem} {K : AV → Mem → Prop} (h : vcFun DK Pg A_dleq_Prove args m K) : ACall Pg F_dleq_Prove args m K := call_body mixed Try.func50 (by kernel_rfl) K_dleq_Prove h

noncomputable def A_witankeep_Proof : AFun := ⟨2, 17, [.t 4],
 (.seq (.ops [
 oO 2 (.box 8 1 (.t 0)),
 oO 3 (.box 8 1 (.t 1)),
 oO 4 (.mv (.c (.bool false)))])
 (.seq (.ops [
 oO 5 (.fldA 0 (.t 2)),
 oO 6 (.load 4 true (.t 5)),
 oO 7 (.fldA 0 (.t 3)),
 oO 8 (.load 4 true (.t 7)),
 oO 9 (.eqa [.i, .i, .i, .i] false (.t 6) (.t 8)),
 oM 10 9,
 oG 11 (.fldA 4 (.t 2)) 10 true,
 oG 12 (.load 4 true (.t 11)) 10 true,
 oG 13 (.fldA 4 (.t 3)) 10 true,
 oG 14 (.load 4 true (.t 13)) 10 true,
 oG 15 (.eqa [.i, .i, .i, .i] false (.t 12) (.t 14)) 10 true,
 oO 16 (.pick (.t 10) (.t 15) (.c (.bool false))),
 oM 4 16])
 .ret))⟩
theorem K_witankeep_Proof : chkFun DK Pg Try.f51 A_witankeep_Proof = true := by kernel_rfl
theorem B_witankeep_Proof {args : List AV} {m : Mem} {K : AV → Mem → Prop} (h : vcFun DK Pg A_witankeep_Proof args m K) : ACall Pg F_witankeep_Proof args m K := call_body mixed Try.func51 (by kernel_rfl) K_witankeep_Proof h

noncomputable def A_witanlaw09_wakes : AFun := ⟨0, 67, [.t 0],
 (.seq (.ops [
 oO 0 (.mv (.c (.bool false)))])
 (.seq (.ops [
 oO 10 (.build [.int .u64 0, .int .u64 0, .int .u64 0, .int .u64 0] [(0, 1, .c (.int .u64 9))]),
 oK 11 F_curve_Base [.t 10],
 oO 1 (.alloc 9 1 [.bool false, .int .u64 0, .int .u64 0, .int .u64 0, .int .u64 0, .int .u64 0, .int .u64 0, .int .u64 0, .int .u64 0]),
 ⟨none, .stA 9 1 9 (.t 1) (.t 11), none⟩])
 (.seq (.ops [
 oO 13 (.build [.int .u64 0, .int .u64 0, .int .u64 0, .int .u64 0] [(0, 1, .c (.int .u64 5))]),
 oO 14 (.build [.int .u64 0, .int .u64 0, .int .u64 0, .int .u64 0] [(0, 1, .c (.int .u64 7))]),
 oO 15 (.load 9 true (.t 1)),
 oK 16 F_dleq_Prove [.t 13, .t 14, .t 15],
 oM 12 16,
 oO 17 (.ext (.t 12) 0),
 oO 18 (.ext (.t 12) 1),
 oO 2 (.alloc 8 1 [.int .u64 0, .int .u64 0, .int .u64 0, .int .u64 0, .int .u64 0, .int .u64 0, .int .u64 0, .int .u64 0]),
 ⟨none, .stA 8 1 8 (.t 2) (.t 17), none⟩,
 oM 3 18])
 (.seq (.ops [
 oO 20 (.build [.int .u64 0, .int .u64 0, .int .u64 0, .int .u64 0] [(0, 1, .c (.int .u64 5))]),
 oO 21 (.load 9 true (.t 1)),
 oK 22 F_curve_Times [.t 20, .t 21],
 oM 19 22,
 oO 23 (.ext (.t 19) 0),
 oO 24 (.ext (.t 19) 1),
 oO 4 (.alloc 9 1 [.bool false, .int .u64 0, .int .u64 0, .int .u64 0, .int .u64 0, .int .u64 0, .int .u64 0, .int .u64 0, .int .u64 0]),
 ⟨none, .stA 9 1 9 (.t 4) (.t 23), none⟩,
 oM 5 24])
 (.seq (.draw [
 oO 26 (.build [.int .u64 0, .int .u64 0, .int .u64 0, .int .u64 0] [(0, 1, .c (.int .u64 5))]),
 oK 27 F_curve_Base [.t 26],
 oO 28 (.load 9 true (.t 1)),
 oO 29 (.load 9 true (.t 4)),
 oO 30 (.load 8 true (.t 2)),
 oK 31 F_dleq_Holds [.t 27, .t 28, .t 29, .t 30],
 oM 25 31,
 oO 32 (.ext (.t 25) 0),
 oO 33 (.ext (.t 25) 1),
 oM 6 32,
 oM 7 33] ⟨.all, [], .look 0 (.look 2 (.look 3 (.look 4 (.run 1 true (.run 5 false (.look 6 (.look 7 (.look 8 (.look 9 (.look 10 .done))))))))))⟩)
 (.seq (.draw [
 oO 35 (.build [.int .u64 0, .int .u64 0, .int .u64 0, .int .u64 0] [(0, 1, .c (.int .u64 5))]),
 oK 36 F_curve_Base [.t 35],
 oO 37 (.load 9 true (.t 1)),
 oO 38 (.load 9 true (.t 4)),
 oK 39 F_field_Prime [.c (.int .i64 1)],
 oO 40 (.fldA 4 (.t 2)),
 oO 41 (.load 4 true (.t 40)),
 oO 42 (.build [.int .u64 0, .int .u64 0, .int .u64 0, .int .u64 0, .int .u64 0, .int .u64 0, .int .u64 0, .int .u64 0] [(0, 4, .t 39), (4, 4, .t 41)]),
 oK 43 F_dleq_Holds [.t 36, .t 37, .t 38, .t 42],
 oM 34 43,
 oO 44 (.ext (.t 34) 0),
 oO 45 (.ext (.t 34) 1),
 oM 8 44,
 oM 9 45] ⟨.all, [], .look 0 (.look 2 (.look 3 (.look 5 (.look 6 (.run 1 true (.run 4 true (.look 7 (.run 8 false (.look 9 (.look 10 (.look 11 (.look 12 (.look 13 .done)))))))))))))⟩)
 (.seq (.ops [
 oM 46 3,
 oO 47 (.bin .eql (.t 46) (.c (.int .i64 0))),
 oM 48 47,
 oG 49 (.mv (.t 5)) 48 true,
 oG 50 (.bin .eql (.t 49) (.c (.int .i64 0))) 48 true,
 oO 51 (.pick (.t 48) (.t 50) (.c (.bool false))),
 oM 52 51,
 oG 53 (.mv (.t 7)) 52 true,
 oG 54 (.bin .eql (.t 53) (.c (.int .i64 0))) 52 true,
 oO 55 (.pick (.t 52) (.t 54) (.c (.bool false))),
 oM 56 55,
 oG 57 (.mv (.t 9)) 56 true,
 oG 58 (.bin .eql (.t 57) (.c (.int .i64 0))) 56 true,
 oO 59 (.pick (.t 56) (.t 58) (.c (.bool false))),
 oM 60 59,
 oG 61 (.mv (.t 6)) 60 true,
 oO 62 (.pick (.t 60) (.t 61) (.c (.bool false))),
 oM 63 62,
 oG 64 (.mv (.t 8)) 63 true,
 oG 65 (.un .not (.t 64)) 63 true,
 oO 66 (.pick (.t 63) (.t 65) (.c (.bool false))),
 oM 0 66])
 .ret)))))))⟩
theorem K_witanlaw09_wakes : chkFun DK Pg Try.f52 A_witanlaw09_wakes = true := by kernel_rfl
theorem B_witanlaw09_wakes {args : List AV} {m : Mem} {K : AV → Mem → Prop} (h : vcFun DK Pg A_witanlaw09_wakes args m K) : ACall Pg F_witanlaw09_wakes args m K := call_body mixed Try.func52 (by kernel_rfl) K_witanlaw09_wakes h

noncomputable def A_witanref06_Prove : AFun := ⟨3, 28, [.cell 6 8 true],
 (.seq (.ops [
 oO 3 (.box 1 4 (.t 0)),
 oO 4 (.box 1 4 (.t 1)),
 oO 5 (.box 9 1 (.t 2)),
 oO 6 (.alloc 8 1 [.int .u64 0, .int .u64 0, .int .u64 0, .int .u64 0, .int .u64 0, .int .u64 0, .int .u64 0, .int .u64 0])])
 (.seq (.draw [
 oO 8 (.load 4 true (.t 3)),
 oK 9 F_witanref01_Base [.t 8],
 oO 10 (.load 9 true (.t 5)),
 oO 11 (.load 4 true (.t 3)),
 oO 12 (.load 9 true (.t 5)),
 oK 13 F_witanref01_Times [.t 11, .t 12],
 oO 14 (.load 4 true (.t 4)),
 oK 15 F_witanref01_Base [.t 14],
 oO 16 (.load 4 true (.t 4)),
 oO 17 (.load 9 true (.t 5)),
 oK 18 F_witanref01_Times [.t 16, .t 17],
 oO 19 (.bsl 9 5 [.bool false, .int .u64 0, .int .u64 0, .int .u64 0, .int .u64 0, .int .u64 0, .int .u64 0, .int .u64 0, .int .u64 0] [(0, 9, .t 9), (9, 9, .t 10), (18, 9, .t 13), (27, 9, .t 15), (36, 9, .t 18)]),
 oK 20 F_witanref06_challenge [.t 19],
 oO 7 (.alloc 1 4 [.int .u64 0]),
 oS 4 7 20] ⟨.all, [(13, some 14)], .look 0 (.look 2 (.look 3 (.look 4 (.look 6 (.look 8 (.look 9 (.run 1 true (.run 5 true (.run 7 true (.run 10 true (.run 11 true (.run 12 true (.pre 13 14 (.fill .done))))))))))))))⟩)
 (.seq (.draw [
 oO 21 (.load 4 true (.t 7)),
 oO 22 (.load 4 true (.t 4)),
 oO 23 (.load 4 true (.t 7)),
 oO 24 (.load 4 true (.t 3)),
 oK 25 F_witanref06_mul [.t 23, .t 24],
 oK 26 F_witanref06_sub [.t 22, .t 25],
 oO 27 (.build [.int .u64 0, .int .u64 0, .int .u64 0, .int .u64 0, .int .u64 0, .int .u64 0, .int .u64 0, .int .u64 0] [(0, 4, .t 21), (4, 4, .t 26)]),
 ⟨none, .stA 8 1 8 (.t 6) (.t 27), none⟩] ⟨.all, [], .look 0 (.look 1 (.look 2 (.look 3 (.run 4 true (.run 5 true (.look 6 (.run 7 false .done)))))))⟩)
 .ret)))⟩
theorem K_witanref06_Prove : chkFun DK Pg Try.f53 A_witanref06_Prove = true := by kernel_rfl
theorem B_witanref06_Prove {args : List AV} {m : Mem} {K : AV → Mem → Prop} (h : vcFun DK Pg A_witanref06_Prove args m K) : ACall Pg F_witanref06_Prove args m K := call_body mixed Try.func53 (by kernel_rfl) K_witanref06_Prove h

noncomputable def A_dleq_Holds : AFun := ⟨4, 82, [.t 8, .t 9],
 (.seq (.ops [
 oO 4 (.box 9 1 (.t 0)),
 oO 5 (.box 9 1 (.t 1)),
 oO 6 (.box 9 1 (.t 2)),
 oO 7 (.box 8 1 (.t 3)),
 oO 8 (.mv (.c (.bool false))),
 oO 9 (.mv (.c (.int .i64 0)))])
 (.seq (.seq (.ops [
 oO 17 (.load 9 true (.t 4)),
 oK 18 F_curve_Check [.t 17],
 oO 19 (.bin .neq (.t 18) (.c (.int .i64 0))),
 oM 20 19,
 oG 21 (.load 9 true (.t 5)) 20 false,
 oG 22 (.call (.c (.fn F_curve_Check [])) [.t 21]) 20 false,
 oG 23 (.bin .neq (.t 22) (.c (.int .i64 0))) 20 false,
 oO 24 (.pick (.t 20) (.c (.bool true)) (.t 23)),
 oM 25 24,
 oG 26 (.load 9 true (.t 6)) 25 false,
 oG 27 (.call (.c (.fn F_curve_Check [])) [.t 26]) 25 false,
 oG 28 (.bin .neq (.t 27) (.c (.int .i64 0))) 25 false,
 oO 29 (.pick (.t 25) (.c (.bool true)) (.t 28))])
 (.cond (.t 29)
 (.seq (.ops [
 oO 8 (.mv (.c (.bool false))),
 oO 9 (.mv (.c (.int .i64 3)))])
 .ret)
 .skip))
 (.seq (.ops [
 oK 30 F_field_Prime [.c (.int .i64 1)],
 oO 10 (.alloc 1 4 [.int .u64 0]),
 ⟨none, .stA 1 4 4 (.t 10) (.t 30), none⟩])
 (.seq (.seq (.ops [
 oO 31 (.fldA 0 (.t 7)),
 oO 32 (.load 4 true (.t 31)),
 oO 33 (.load 4 true (.t 10)),
 oK 34 F_limb_Cmp [.t 32, .t 33],
 oO 35 (.bin .geq (.t 34) (.c (.int .i64 0))),
 oM 36 35,
 oG 37 (.fldA 4 (.t 7)) 36 false,
 oG 38 (.load 4 true (.t 37)) 36 false,
 oG 39 (.load 4 true (.t 10)) 36 false,
 oG 40 (.call (.c (.fn F_limb_Cmp [])) [.t 38, .t 39]) 36 false,
 oG 41 (.bin .geq (.t 40) (.c (.int .i64 0))) 36 false,
 oO 42 (.pick (.t 36) (.c (.bool true)) (.t 41))])
 (.cond (.t 42)
 (.seq (.ops [
 oO 8 (.mv (.c (.bool false))),
 oO 9 (.mv (.c (.int .i64 0)))])
 .ret)
 .skip))
 (.seq (.draw [
 oO 44 (.fldA 4 (.t 7)),
 oO 45 (.load 4 true (.t 44)),
 oK 46 F_curve_Base [.t 45],
 oO 47 (.fldA 0 (.t 7)),
 oO 48 (.load 4 true (.t 47)),
 oO 49 (.load 9 true (.t 4)),
 oK 50 F_dleq_times [.t 48, .t 49],
 oK 51 F_curve_Add [.t 46, .t 50],
 oM 43 51,
 oO 52 (.ext (.t 43) 0),
 oO 53 (.ext (.t 43) 1),
 oO 11 (.alloc 9 1 [.bool false, .int .u64 0, .int .u64 0, .int .u64 0, .int .u64 0, .int .u64 0, .int .u64 0, .int .u64 0, .int .u64 0]),
 oS 9 11 52,
 oM 12 53] ⟨.all, [(11, some 12)], .look 0 (.look 1 (.look 3 (.look 4 (.look 5 (.run 2 true (.run 6 true (.run 7 true (.look 8 (.look 9 (.pre 11 12 (.look 10 (.fill (.look 13 .done)))))))))))))⟩)
 (.seq (.ops [
 oO 55 (.fldA 4 (.t 7)),
 oO 56 (.load 4 true (.t 55)),
 oO 57 (.load 9 true (.t 5)),
 oO 58 (.fldA 0 (.t 7)),
 oO 59 (.load 4 true (.t 58)),
 oO 60 (.load 9 true (.t 6)),
 oK 61 F_curve_Two [.t 56, .t 57, .t 59, .t 60],
 oM 54 61,
 oO 62 (.ext (.t 54) 0),
 oO 63 (.ext (.t 54) 1),
 oO 13 (.alloc 9 1 [.bool false, .int .u64 0, .int .u64 0, .int .u64 0, .int .u64 0, .int .u64 0, .int .u64 0, .int .u64 0, .int .u64 0]),
 ⟨none, .stA 9 1 9 (.t 13) (.t 62), none⟩,
 oM 14 63])
 (.seq (.ops [
 oO 65 (.load 9 true (.t 4)),
 oO 66 (.load 9 true (.t 5)),
 oO 67 (.load 9 true (.t 6)),
 oO 68 (.load 9 true (.t 11)),
 oO 69 (.load 9 true (.t 13)),
 oO 70 (.bsl 9 5 [.bool false, .int .u64 0, .int .u64 0, .int .u64 0, .int .u64 0, .int .u64 0, .int .u64 0, .int .u64 0, .int .u64 0] [(0, 9, .t 65), (9, 9, .t 66), (18, 9, .t 67), (27, 9, .t 68), (36, 9, .t 69)]),
 oK 71 F_dleq_challenge [.t 70],
 oM 64 71,
 oO 72 (.ext (.t 64) 0),
 oO 73 (.ext (.t 64) 1),
 oO 15 (.alloc 1 4 [.int .u64 0]),
 ⟨none, .stA 1 4 4 (.t 15) (.t 72), none⟩,
 oM 16 73])
 (.seq (.ops [
 oM 74 16,
 oO 75 (.bin .eql (.t 74) (.c (.int .i64 0))),
 oM 76 75,
 oG 77 (.load 4 true (.t 15)) 76 true,
 oG 78 (.fldA 0 (.t 7)) 76 true,
 oG 79 (.load 4 true (.t 78)) 76 true,
 oG 80 (.eqa [.i, .i, .i, .i] false (.t 77) (.t 79)) 76 true,
 oO 81 (.pick (.t 76) (.t 80) (.c (.bool false))),
 oM 8 81,
 oO 9 (.mv (.c (.int .i64 0)))])
 .ret))))))))⟩
theorem K_dleq_Holds : chkFun DK Pg Try.f54 A_dleq_Holds = true := by kernel_rfl
theorem B_dleq_Holds {args : List AV} {m : Mem} {K : AV → Mem → Prop} (h : vcFun DK Pg A_dleq_Holds args m K) : ACall Pg F_dleq_Holds args m K := call_body mixed Try.func54 (by kernel_rfl) K_dleq_Holds h

noncomputable def A_witanref06_Holds : AFun := ⟨4, 35, [.t 8],
 (.seq (.ops [
 oO 4 (.box 9 1 (.t 0)),
 oO 5 (.box 9 1 (.t 1)),
 oO 6 (.box 9 1 (.t 2)),
 oO 7 (.box 8 1 (.t 3)),
 oO 8 (.mv (.c (.bool false)))])
 (.seq (.draw [
 oO 9 (.load 8 true (.t 7)),
 oK 10 F_witanref06_Below [.t 9],
 oM 11 10,
 oG 12 (.load 9 true (.t 4)) 11 true,
 oG 13 (.load 9 true (.t 5)) 11 true,
 oG 14 (.load 9 true (.t 6)) 11 true,
 oG 15 (.fldA 4 (.t 7)) 11 true,
 oG 16 (.load 4 true (.t 15)) 11 true,
 oG 17 (.call (.c (.fn F_witanref01_G [])) []) 11 true,
 oG 18 (.fldA 0 (.t 7)) 11 true,
 oG 19 (.load 4 true (.t 18)) 11 true,
 oG 20 (.load 9 true (.t 4)) 11 true,
 oG 21 (.call (.c (.fn F_witanref01_Two [])) [.t 16, .t 17, .t 19, .t 20]) 11 true,
 oG 22 (.fldA 4 (.t 7)) 11 true,
 oG 23 (.load 4 true (.t 22)) 11 true,
 oG 24 (.load 9 true (.t 5)) 11 true,
 oG 25 (.fldA 0 (.t 7)) 11 true,
 oG 26 (.load 4 true (.t 25)) 11 true,
 oG 27 (.load 9 true (.t 6)) 11 true,
 oG 28 (.call (.c (.fn F_witanref01_Two [])) [.t 23, .t 24, .t 26, .t 27]) 11 true,
 oG 29 (.bsl 9 5 [.bool false, .int .u64 0, .int .u64 0, .int .u64 0, .int .u64 0, .int .u64 0, .int .u64 0, .int .u64 0, .int .u64 0] [(0, 9, .t 12), (9, 9, .t 13), (18, 9, .t 14), (27, 9, .t 21), (36, 9, .t 28)]) 11 true,
 oG 30 (.call (.c (.fn F_witanref06_challenge [])) [.t 29]) 11 true,
 oG 31 (.fldA 0 (.t 7)) 11 true,
 oG 32 (.load 4 true (.t 31)) 11 true,
 oG 33 (.eqa [.i, .i, .i, .i] false (.t 30) (.t 32)) 11 true,
 oO 34 (.pick (.t 11) (.t 33) (.c (.bool false))),
 oM 8 34] ⟨.all, [], .look 0 (.run 1 true (.look 2 (.look 3 (.look 4 (.look 5 (.look 6 (.look 7 (.look 9 (.look 10 (.look 11 (.look 13 (.look 14 (.look 15 (.look 16 (.look 17 (.look 18 (.look 22 (.look 23 (.run 8 true (.run 12 true (.run 19 true (.run 20 true (.run 21 true (.look 24 (.look 25 (.look 26 .done))))))))))))))))))))))))))⟩)
 .ret))⟩
theorem K_witanref06_Holds : chkFun DK Pg Try.f55 A_witanref06_Holds = true := by kernel_rfl
theorem B_witanref06_Holds {args : List AV} {m : Mem} {K : AV → Mem → Prop} (h : vcFun DK Pg A_witanref06_Holds args m K) : ACall Pg F_witanref06_Holds args m K := call_body mixed Try.func55 (by kernel_rfl) K_witanref06_Holds h

noncomputable def A_curve_Times : AFun := ⟨2, 18, [.cell 4 9 true, .t 5],
 (.seq (.ops [
 oO 2 (.box 1 4 (.t 0)),
 oO 3 (.box 9 1 (.t 1)),
 oO 4 (.alloc 9 1 [.bool false, .int .u64 0, .int .u64 0, .int .u64 0, .int .u64 0, .int .u64 0, .int .u64 0, .int .u64 0, .int .u64 0]),
 oO 5 (.mv (.c (.int .i64 0)))])
 (.seq (.ops [
 oO 7 (.load 9 true (.t 3)),
 oK 8 F_curve_Check [.t 7],
 oM 6 8])
 (.seq (.seq (.ops [
 oM 9 6,
 oO 10 (.bin .neq (.t 9) (.c (.int .i64 0)))])
 (.cond (.t 10)
 (.seq (.ops [
 oO 11 (.build [.bool false, .int .u64 0, .int .u64 0, .int .u64 0, .int .u64 0, .int .u64 0, .int .u64 0, .int .u64 0, .int .u64 0] []),
 oM 12 6,
 ⟨none, .stA 9 1 9 (.t 4) (.t 11), none⟩,
 oM 5 12])
 .ret)
 .skip))
 (.seq (.draw [
 oO 13 (.load 9 true (.t 3)),
 oK 14 F_curve_spread [.t 13],
 oO 15 (.load 4 true (.t 2)),
 oK 16 F_curve_jac_times [.t 14, .t 15],
 oK 17 F_curve_jac_point [.t 16],
 ⟨none, .stA 9 1 9 (.t 4) (.t 17), none⟩,
 oO 5 (.mv (.c (.int .i64 0)))] ⟨.all, [], .look 0 (.look 2 (.run 1 true (.run 3 false (.run 4 false (.run 5 false (.look 6 .done))))))⟩)
 .ret))))⟩
theorem K_curve_Times : chkFun DK Pg Try.f56 A_curve_Times = true := by kernel_rfl
theorem B_curve_Times {args : List AV} {m : Mem} {K : AV → Mem → Prop} (h : vcFun DK Pg A_curve_Times args m K) : ACall Pg F_curve_Times args m K := call_body mixed Try.func56 (by kernel_rfl) K_curve_Times h

noncomputable def A_witanref01_Add : AFun := ⟨2, 28, [.cell 4 4 true, .t 5],
 (.seq (.ops [
 oO 2 (.box 1 4 (.t 0)),
 oO 3 (.box 1 4 (.t 1)),
 oO 4 (.alloc 1 4 [.int .u64 0]),
 oO 5 (.mv (.c (.int .u64 0)))])
 (.seq (.ops [
 oO 6 (.mv (.c (.int .u64 0)))])
 (.seq (.ops [
 oO 7 (.alloc 1 4 [.int .u64 0])])
 (.seq (.seq (.ops [
 oO 8 (.mv (.c (.int .i64 0)))])
 (.block 0
 (.loop
 (.seq (.seq (.ops [
 oM 9 8,
 oO 10 (.bin .lss (.t 9) (.c (.int .i64 4)))])
 (.cond (.t 10)
 .skip
 (.exit 0)))
 (.seq (.block 1
 (.draw [
 oM 14 8,
 oM 15 8,
 oO 16 (.idxP 4 1 (.t 2) (.t 15)),
 oO 17 (.load 1 false (.t 16)),
 oM 18 8,
 oO 19 (.idxP 4 1 (.t 3) (.t 18)),
 oO 20 (.load 1 false (.t 19)),
 oM 21 6,
 oO 22 (.x64 false F_bits_Add64 (.t 17) (.t 20) (.t 21)),
 oM 13 22,
 oO 23 (.ext (.t 13) 0),
 oO 24 (.ext (.t 13) 1),
 oO 25 (.idxP 4 1 (.t 7) (.t 14)),
 ⟨none, .stA 1 4 1 (.t 25) (.t 23), none⟩,
 oM 6 24] ⟨.all, [], .look 0 (.look 1 (.look 2 (.look 3 (.look 4 (.look 5 (.look 6 (.look 7 (.run 8 true (.look 9 (.look 10 (.look 11 (.look 12 (.run 13 false (.look 14 .done))))))))))))))⟩))
 (.ops [
 oM 11 8,
 oO 12 (.binF .add (.t 11) (.c (.int .i64 1))),
 oM 8 12]))))))
 (.seq (.ops [
 oO 26 (.load 4 true (.t 7)),
 oM 27 6,
 ⟨none, .stA 1 4 4 (.t 4) (.t 26), none⟩,
 oM 5 27])
 .ret)))))⟩
theorem K_witanref01_Add : chkFun DK Pg Try.f57 A_witanref01_Add = true := by kernel_rfl
theorem B_witanref01_Add {args : List AV} {m : Mem} {K : AV → Mem → Prop} (h : vcFun DK Pg A_witanref01_Add args m K) : ACall Pg F_witanref01_Add args m K := call_body mixed Try.func57 (by kernel_rfl) K_witanref01_Add h

noncomputable def A_curve_Two : AFun := ⟨4, 29, [.cell 8 9 true, .t 9],
 (.seq (.ops [
 oO 4 (.box 1 4 (.t 0)),
 oO 5 (.box 9 1 (.t 1)),
 oO 6 (.box 1 4 (.t 2)),
 oO 7 (.box 9 1 (.t 3)),
 oO 8 (.alloc 9 1 [.bool false, .int .u64 0, .int .u64 0, .int .u64 0, .int .u64 0, .int .u64 0, .int .u64 0, .int .u64 0, .int .u64 0]),
 oO 9 (.mv (.c (.int .i64 0)))])
 (.seq (.seq (.ops [
 oO 10 (.load 9 true (.t 5)),
 oK 11 F_curve_Check [.t 10],
 oO 12 (.bin .neq (.t 11) (.c (.int .i64 0))),
 oM 13 12,
 oG 14 (.load 9 true (.t 7)) 13 false,
 oG 15 (.call (.c (.fn F_curve_Check [])) [.t 14]) 13 false,
 oG 16 (.bin .neq (.t 15) (.c (.int .i64 0))) 13 false,
 oO 17 (.pick (.t 13) (.c (.bool true)) (.t 16))])
 (.cond (.t 17)
 (.seq (.ops [
 oO 18 (.build [.bool false, .int .u64 0, .int .u64 0, .int .u64 0, .int .u64 0, .int .u64 0, .int .u64 0, .int .u64 0, .int .u64 0] []),
 ⟨none, .stA 9 1 9 (.t 8) (.t 18), none⟩,
 oO 9 (.mv (.c (.int .i64 3)))])
 .ret)
 .skip))
 (.seq (.draw [
 oO 19 (.load 9 true (.t 5)),
 oK 20 F_curve_spread [.t 19],
 oO 21 (.load 4 true (.t 4)),
 oK 22 F_curve_jac_times [.t 20, .t 21],
 oO 23 (.load 9 true (.t 7)),
 oK 24 F_curve_spread [.t 23],
 oO 25 (.load 4 true (.t 6)),
 oK 26 F_curve_jac_times [.t 24, .t 25],
 oK 27 F_curve_jac_plus [.t 22, .t 26],
 oK 28 F_curve_jac_point [.t 27],
 ⟨none, .stA 9 1 9 (.t 8) (.t 28), none⟩,
 oO 9 (.mv (.c (.int .i64 0)))] ⟨.all, [], .look 0 (.look 2 (.look 4 (.look 6 (.run 1 true (.run 3 true (.run 5 true (.run 7 false (.run 8 false (.run 9 false (.run 10 false (.look 11 .done)))))))))))⟩)
 .ret)))⟩
theorem K_curve_Two : chkFun DK Pg Try.f58 A_curve_Two = true := by kernel_rfl
theorem B_curve_Two {args : List AV} {m : Mem} {K : AV → Mem → Prop} (h : vcFun DK Pg A_curve_Two args m K) : ACall Pg F_curve_Two args m K := call_body mixed Try.func58 (by kernel_rfl) K_curve_Two h

noncomputable def A_field_Sub : AFun := ⟨3, 32, [.cell 6 4 true],
 (.seq (.ops [
 oO 4 (.box 1 4 (.t 1)),
 oO 5 (.box 1 4 (.t 2)),
 oO 6 (.alloc 1 4 [.int .u64 0])])
 (.seq (.ops [
 oM 12 0,
 oK 13 F_field_less [.t 12],
 oM 11 13,
 oO 14 (.ext (.t 11) 0),
 oO 15 (.ext (.t 11) 1),
 oO 7 (.alloc 1 4 [.int .u64 0]),
 ⟨none, .stA 1 4 4 (.t 7) (.t 14), none⟩,
 oM 8 15])
 (.seq (.seq (.ops [
 oM 16 8,
 oO 17 (.un .not (.t 16))])
 (.cond (.t 17)
 (.seq (.ops [
 oO 18 (.build [.int .u64 0, .int .u64 0, .int .u64 0, .int .u64 0] []),
 ⟨none, .stA 1 4 4 (.t 6) (.t 18), none⟩])
 .ret)
 .skip))
 (.seq (.draw [
 oM 20 0,
 oK 21 F_field_Prime [.t 20],
 oM 22 0,
 oO 23 (.load 4 true (.t 5)),
 oK 24 F_field_Red [.t 22, .t 23],
 oK 25 F_limb_Sub [.t 21, .t 24],
 oM 19 25,
 oO 26 (.ext (.t 19) 0),
 oO 27 (.ext (.t 19) 1),
 oO 9 (.alloc 1 4 [.int .u64 0]),
 oS 4 9 26,
 oM 10 27] ⟨.all, [(9, some 10)], .look 0 (.look 2 (.look 3 (.run 1 true (.run 4 true (.run 5 true (.look 6 (.look 7 (.pre 9 10 (.look 8 (.fill (.look 11 .done)))))))))))⟩)
 (.seq (.ops [
 oM 28 0,
 oO 29 (.load 4 true (.t 4)),
 oO 30 (.load 4 true (.t 9)),
 oK 31 F_field_Add [.t 28, .t 29, .t 30],
 ⟨none, .stA 1 4 4 (.t 6) (.t 31), none⟩])
 .ret)))))⟩
theorem K_field_Sub : chkFun DK Pg Try.f59 A_field_Sub = true := by kernel_rfl
theorem B_field_Sub {args : List AV} {m : Mem} {K : AV → Mem → Prop} (h : vcFun DK Pg A_field_Sub args m K) : ACall Pg F_field_Sub args m K := call_body mixed Try.func59 (by kernel_rfl) K_field_Sub h

noncomputable def A_field_Mul : AFun := ⟨3, 29, [.cell 6 4 true],
 (.seq (.ops [
 oO 4 (.box 1 4 (.t 1)),
 oO 5 (.box 1 4 (.t 2)),
 oO 6 (.alloc 1 4 [.int .u64 0])])
 (.seq (.ops [
 oM 12 0,
 oK 13 F_field_less [.t 12],
 oM 11 13,
 oO 14 (.ext (.t 11) 0),
 oO 15 (.ext (.t 11) 1),
 oO 7 (.alloc 1 4 [.int .u64 0]),
 ⟨none, .stA 1 4 4 (.t 7) (.t 14), none⟩,
 oM 8 15])
 (.seq (.seq (.ops [
 oM 16 8,
 oO 17 (.un .not (.t 16))])
 (.cond (.t 17)
 (.seq (.ops [
 oO 18 (.build [.int .u64 0, .int .u64 0, .int .u64 0, .int .u64 0] []),
 ⟨none, .stA 1 4 4 (.t 6) (.t 18), none⟩])
 .ret)
 .skip))
 (.seq (.ops [
 oO 20 (.load 4 true (.t 4)),
 oO 21 (.load 4 true (.t 5)),
 oK 22 F_limb_Mul [.t 20, .t 21],
 oM 19 22,
 oO 23 (.ext (.t 19) 0),
 oO 24 (.ext (.t 19) 1),
 oO 9 (.alloc 1 4 [.int .u64 0]),
 oO 10 (.alloc 1 4 [.int .u64 0]),
 ⟨none, .stA 1 4 4 (.t 9) (.t 23), none⟩,
 ⟨none, .stA 1 4 4 (.t 10) (.t 24), none⟩])
 (.seq (.ops [
 oO 25 (.load 4 true (.t 9)),
 oO 26 (.load 4 true (.t 10)),
 oO 27 (.load 4 true (.t 7)),
 oK 28 F_field_fold [.t 25, .t 26, .t 27],
 ⟨none, .stA 1 4 4 (.t 6) (.t 28), none⟩])
 .ret)))))⟩
theorem K_field_Mul : chkFun DK Pg Try.f60 A_field_Mul = true := by kernel_rfl
theorem B_field_Mul {args : List AV} {m : Mem} {K : AV → Mem → Prop} (h : vcFun DK Pg A_field_Mul args m K) : ACall Pg F_field_Mul args m K := call_body mixed Try.func60 (by kernel_rfl) K_field_Mul h

noncomputable def A_draw_joined : AFun := ⟨2, 53, [.t 4, .t 5],
 (.seq (.ops [
 oO 4 (.mv (.c (.nils))),
 oO 5 (.mv (.c (.bool false)))])
 (.seq (.ops [
 oM 12 0,
 oO 13 (.lens (.t 12)),
 oO 14 (.bin .add (.c (.int .i64 4)) (.t 13)),
 oM 6 14])
 (.seq (.seq (.ops [
 oM 15 1,
 oO 16 (.len (.t 15)),
 oO 17 (.mv (.c (.int .i64 0)))])
 (.block 0
 (.loop
 (.seq (.ops [
 oO 18 (.bin .lss (.t 17) (.t 16))])
 (.seq (.cond (.t 18)
 .skip
 (.exit 0))
 (.seq (.block 1
 (.seq (.ops [
 oO 19 (.idxA 1 (.t 15) (.t 17)),
 oO 20 (.load 1 false (.t 19)),
 oM 8 20])
 (.seq (.seq (.ops [
 oM 21 6,
 oO 22 (.bin .gtr (.t 21) (.c (.int .i64 65536)))])
 (.cond (.t 22)
 (.seq (.ops [
 oO 4 (.mv (.c (.nils))),
 oO 5 (.mv (.c (.bool false)))])
 .ret)
 .skip))
 (.ops [
 oM 23 6,
 oM 24 8,
 oO 25 (.len (.t 24)),
 oO 26 (.bin .add (.c (.int .i64 4)) (.t 25)),
 oO 27 (.bin .add (.t 23) (.t 26)),
 oM 6 27]))))
 (.ops [
 oO 28 (.bin .add (.t 17) (.c (.int .i64 1))),
 oM 17 28])))))))
 (.seq (.seq (.ops [
 oM 29 6,
 oO 30 (.bin .gtr (.t 29) (.c (.int .i64 65536)))])
 (.cond (.t 30)
 (.seq (.ops [
 oO 4 (.mv (.c (.nils))),
 oO 5 (.mv (.c (.bool false)))])
 .ret)
 .skip))
 (.seq (.ops [
 oM 31 0,
 oO 32 (.lens (.t 31)),
 oO 33 (.conv .u64 (.t 32)),
 oK 34 F_draw_number [.t 33, .c (.int .i64 4)],
 oM 35 0,
 oO 36 (.app 1 1 (.t 34) (.t 35)),
 oM 9 36])
 (.seq (.seq (.ops [
 oM 37 1,
 oO 38 (.len (.t 37)),
 oO 39 (.mv (.c (.int .i64 0)))])
 (.block 2
 (.loop
 (.seq (.ops [
 oO 40 (.bin .lss (.t 39) (.t 38))])
 (.seq (.cond (.t 40)
 .skip
 (.exit 2))
 (.seq (.block 3
 (.seq (.ops [
 oO 41 (.idxA 1 (.t 37) (.t 39)),
 oO 42 (.load 1 false (.t 41)),
 oM 11 42])
 (.ops [
 oM 43 9,
 oM 44 11,
 oO 45 (.len (.t 44)),
 oO 46 (.conv .u64 (.t 45)),
 oK 47 F_draw_number [.t 46, .c (.int .i64 4)],
 oO 48 (.app 1 1 (.t 43) (.t 47)),
 oM 49 11,
 oO 50 (.app 1 1 (.t 48) (.t 49)),
 oM 9 50])))
 (.ops [
 oO 51 (.bin .add (.t 39) (.c (.int .i64 1))),
 oM 39 51])))))))
 (.seq (.ops [
 oM 52 9,
 oM 4 52,
 oO 5 (.mv (.c (.bool true)))])
 .ret)))))))⟩
theorem K_draw_joined : chkFun DK Pg Try.f61 A_draw_joined = true := by kernel_rfl
theorem B_draw_joined {args : List AV} {m : Mem} {K : AV → Mem → Prop} (h : vcFun DK Pg A_draw_joined args m K) : ACall Pg F_draw_joined args m K := call_body mixed Try.func61 (by kernel_rfl) K_draw_joined h

noncomputable def A_draw_with : AFun := ⟨2, 10, [.t 4],
 (.seq (.ops [
 oO 4 (.mv (.c (.nils)))])
 (.seq (.ops [
 oO 5 (.bsl 1 0 [.int .u8 0] []),
 oM 6 0,
 oO 7 (.app 1 1 (.t 5) (.t 6)),
 oM 8 1,
 oO 9 (.app 1 1 (.t 7) (.t 8)),
 oM 4 9])
 .ret))⟩
theorem K_draw_with : chkFun DK Pg Try.f62 A_draw_with = true := by kernel_rfl
theorem B_draw_with {args : List AV} {m : Mem} {K : AV → Mem → Prop} (h : vcFun DK Pg A_draw_with args m K) : ACall Pg F_draw_with args m K := call_body mixed Try.func62 (by kernel_rfl) K_draw_with h

noncomputable def A_witanref04_Joined : AFun := ⟨2, 49, [.t 4, .t 5],
 (.seq (.ops [
 oO 4 (.mv (.c (.nils))),
 oO 5 (.mv (.c (.bool false)))])
 (.seq (.seq (.ops [
 oM 8 0,
 oO 9 (.lens (.t 8)),
 oO 10 (.bin .gtr (.t 9) (.c (.int .i64 65532)))])
 (.cond (.t 10)
 (.seq (.ops [
 oO 4 (.mv (.c (.nils))),
 oO 5 (.mv (.c (.bool false)))])
 .ret)
 .skip))
 (.seq (.ops [
 oM 11 0,
 oO 12 (.lens (.t 11)),
 oO 13 (.conv .u64 (.t 12)),
 oK 14 F_witanref04_be [.t 13, .c (.int .i64 4)],
 oM 15 0,
 oO 16 (.sbytes (.t 15)),
 oO 17 (.bsl 1 2 [.nils] [(0, 1, .t 14), (1, 1, .t 16)]),
 oK 18 F_witanref04_join [.t 17],
 oM 6 18])
 (.seq (.seq (.ops [
 oO 7 (.mv (.c (.int .i64 0)))])
 (.block 0
 (.loop
 (.seq (.seq (.ops [
 oM 19 7,
 oM 20 1,
 oO 21 (.len (.t 20)),
 oO 22 (.bin .lss (.t 19) (.t 21))])
 (.cond (.t 22)
 .skip
 (.exit 0)))
 (.seq (.block 1
 (.seq (.seq (.ops [
 oM 25 1,
 oM 26 7,
 oO 27 (.idxA 1 (.t 25) (.t 26)),
 oO 28 (.load 1 false (.t 27)),
 oO 29 (.len (.t 28)),
 oM 30 6,
 oO 31 (.len (.t 30)),
 oO 32 (.bin .sub (.c (.int .i64 65532)) (.t 31)),
 oO 33 (.bin .gtr (.t 29) (.t 32))])
 (.cond (.t 33)
 (.seq (.ops [
 oO 4 (.mv (.c (.nils))),
 oO 5 (.mv (.c (.bool false)))])
 .ret)
 .skip))
 (.draw [
 oM 34 6,
 oM 35 1,
 oM 36 7,
 oO 37 (.idxA 1 (.t 35) (.t 36)),
 oO 38 (.load 1 false (.t 37)),
 oO 39 (.len (.t 38)),
 oO 40 (.conv .u64 (.t 39)),
 oK 41 F_witanref04_be [.t 40, .c (.int .i64 4)],
 oO 42 (.app 1 1 (.t 34) (.t 41)),
 oM 43 1,
 oM 44 7,
 oO 45 (.idxA 1 (.t 43) (.t 44)),
 oO 46 (.load 1 false (.t 45)),
 oO 47 (.app 1 1 (.t 42) (.t 46)),
 oM 6 47] ⟨.no, [], .look 0 (.look 1 (.look 2 (.look 3 (.look 4 (.look 5 (.look 6 (.look 9 (.look 10 (.look 11 (.look 12 (.run 7 true (.run 8 true (.run 13 false (.look 14 .done))))))))))))))⟩)))
 (.ops [
 oM 23 7,
 oO 24 (.bin .add (.t 23) (.c (.int .i64 1))),
 oM 7 24]))))))
 (.seq (.ops [
 oM 48 6,
 oM 4 48,
 oO 5 (.mv (.c (.bool true)))])
 .ret)))))⟩
theorem K_witanref04_Joined : chkFun DK Pg Try.f63 A_witanref04_Joined = true := by kernel_rfl
theorem B_witanref04_Joined {args : List AV} {m : Mem} {K : AV → Mem → Prop} (h : vcFun DK Pg A_witanref04_Joined args m K) : ACall Pg F_witanref04_Joined args m K := call_body mixed Try.func63 (by kernel_rfl) K_witanref04_Joined h

noncomputable def A_witanref04_Sum256 : AFun := ⟨1, 208, [.cell 2 32 true],
 (.seq (.ops [
 oO 2 (.alloc 1 32 [.int .u8 0])])
 (.seq (.ops [
 oK 21 F_witanref04_k256 [],
 oO 3 (.alloc 1 64 [.int .u32 0]),
 oS 64 3 21])
 (.seq (.ops [
 oO 22 (.build [.int .u32 0, .int .u32 0, .int .u32 0, .int .u32 0, .int .u32 0, .int .u32 0, .int .u32 0, .int .u32 0] [(0, 1, .c (.int .u32 1779033703)), (1, 1, .c (.int .u32 3144134277)), (2, 1, .c (.int .u32 1013904242)), (3, 1, .c (.int .u32 2773480762)), (4, 1, .c (.int .u32 1359893119)), (5, 1, .c (.int .u32 2600822924)), (6, 1, .c (.int .u32 528734635)), (7, 1, .c (.int .u32 1541459225))]),
 oO 4 (.alloc 1 8 [.int .u32 0]),
 oS 8 4 22])
 (.seq (.ops [
 oM 23 0,
 oK 24 F_witanref04_padded [.t 23],
 oM 5 24])
 (.seq (.seq (.ops [
 oO 6 (.mv (.c (.int .i64 0)))])
 (.block 0
 (.loop
 (.seq (.seq (.ops [
 oM 25 6,
 oM 26 5,
 oO 27 (.len (.t 26)),
 oO 28 (.bin .lss (.t 25) (.t 27))])
 (.cond (.t 28)
 .skip
 (.exit 0)))
 (.seq (.block 1
 (.seq (.ops [
 oO 7 (.alloc 1 64 [.int .u32 0])])
 (.seq (.seq (.ops [
 oO 8 (.mv (.c (.int .i64 0)))])
 (.block 2
 (.loop
 (.seq (.seq (.ops [
 oM 31 8,
 oO 32 (.bin .lss (.t 31) (.c (.int .i64 64)))])
 (.cond (.t 32)
 .skip
 (.exit 2)))
 (.seq (.block 3
 (.seq (.seq (.ops [
 oM 35 8,
 oO 36 (.bin .lss (.t 35) (.c (.int .i64 16)))])
 (.cond (.t 36)
 (.seq (.seq (.ops [
 oO 9 (.mv (.c (.int .i64 0)))])
 (.block 4
 (.loop
 (.seq (.seq (.ops [
 oM 37 9,
 oO 38 (.bin .lss (.t 37) (.c (.int .i64 4)))])
 (.cond (.t 38)
 .skip
 (.exit 4)))
 (.seq (.block 5
 (.draw [
 oM 41 8,
 oM 42 8,
 oO 43 (.idxP 64 1 (.t 7) (.t 42)),
 oO 44 (.load 1 false (.t 43)),
 oO 45 (.bin .shl (.t 44) (.c (.int .u64 8))),
 oM 46 5,
 oM 47 6,
 oM 48 8,
 oO 49 (.bin .mul (.c (.int .i64 4)) (.t 48)),
 oO 50 (.bin .add (.t 47) (.t 49)),
 oM 51 9,
 oO 52 (.bin .add (.t 50) (.t 51)),
 oO 53 (.idxA 1 (.t 46) (.t 52)),
 oO 54 (.load 1 false (.t 53)),
 oO 55 (.conv .u32 (.t 54)),
 oO 56 (.bin .or (.t 45) (.t 55)),
 oO 57 (.idxP 64 1 (.t 7) (.t 41)),
 oS 1 57 56] ⟨.all, [], .look 0 (.look 1 (.look 2 (.look 3 (.look 4 (.look 5 (.look 6 (.look 7 (.look 8 (.look 9 (.look 10 (.look 11 (.look 12 (.look 13 (.look 14 (.look 15 (.look 16 (.run 17 false .done)))))))))))))))))⟩))
 (.ops [
 oM 39 9,
 oO 40 (.bin .add (.t 39) (.c (.int .i64 1))),
 oM 9 40]))))))
 (.exit 3))
 .skip))
 (.seq (.draw [
 oM 58 8,
 oO 59 (.bin .sub (.t 58) (.c (.int .i64 15))),
 oO 60 (.idxP 64 1 (.t 7) (.t 59)),
 oO 61 (.load 1 false (.t 60)),
 oM 62 8,
 oO 63 (.bin .sub (.t 62) (.c (.int .i64 2))),
 oO 64 (.idxP 64 1 (.t 7) (.t 63)),
 oO 65 (.load 1 false (.t 64)),
 oM 10 61,
 oM 11 65] ⟨.no, [], .flat⟩)
 (.draw [
 oM 66 8,
 oM 67 8,
 oO 68 (.bin .sub (.t 67) (.c (.int .i64 16))),
 oO 69 (.idxP 64 1 (.t 7) (.t 68)),
 oO 70 (.load 1 false (.t 69)),
 oM 71 8,
 oO 72 (.bin .sub (.t 71) (.c (.int .i64 7))),
 oO 73 (.idxP 64 1 (.t 7) (.t 72)),
 oO 74 (.load 1 false (.t 73)),
 oO 75 (.bin .add (.t 70) (.t 74)),
 oM 76 10,
 oK 77 F_witanref04_rot32 [.t 76, .c (.int .i64 7)],
 oM 78 10,
 oK 79 F_witanref04_rot32 [.t 78, .c (.int .i64 18)],
 oO 80 (.bin .xor (.t 77) (.t 79)),
 oM 81 10,
 oO 82 (.bin .shr (.t 81) (.c (.int .u64 3))),
 oO 83 (.bin .xor (.t 80) (.t 82)),
 oO 84 (.bin .add (.t 75) (.t 83)),
 oM 85 11,
 oK 86 F_witanref04_rot32 [.t 85, .c (.int .i64 17)],
 oM 87 11,
 oK 88 F_witanref04_rot32 [.t 87, .c (.int .i64 19)],
 oO 89 (.bin .xor (.t 86) (.t 88)),
 oM 90 11,
 oO 91 (.bin .shr (.t 90) (.c (.int .u64 10))),
 oO 92 (.bin .xor (.t 89) (.t 91)),
 oO 93 (.bin .add (.t 84) (.t 92)),
 oO 94 (.idxP 64 1 (.t 7) (.t 66)),
 oS 1 94 93] ⟨.all, [], .look 0 (.look 1 (.look 2 (.look 3 (.look 4 (.look 5 (.look 6 (.look 7 (.look 8 (.look 9 (.look 10 (.look 12 (.look 15 (.look 16 (.look 19 (.look 21 (.look 24 (.look 25 (.run 11 true (.run 13 true (.look 14 (.look 17 (.look 18 (.run 20 true (.run 22 true (.look 23 (.look 26 (.look 27 (.look 28 (.run 29 false .done)))))))))))))))))))))))))))))⟩))))
 (.ops [
 oM 33 8,
 oO 34 (.bin .add (.t 33) (.c (.int .i64 1))),
 oM 8 34]))))))
 (.seq (.ops [
 oO 95 (.load 8 true (.t 4)),
 oO 12 (.alloc 1 8 [.int .u32 0]),
 oS 8 12 95])
 (.seq (.seq (.ops [
 oO 13 (.mv (.c (.int .i64 0)))])
 (.block 6
 (.loop
 (.seq (.seq (.ops [
 oM 96 13,
 oO 97 (.bin .lss (.t 96) (.c (.int .i64 64)))])
 (.cond (.t 97)
 .skip
 (.exit 6)))
 (.seq (.block 7
 (.seq (.draw [
 oO 100 (.idxP 8 1 (.t 12) (.c (.int .i64 0))),
 oO 101 (.load 1 false (.t 100)),
 oO 102 (.idxP 8 1 (.t 12) (.c (.int .i64 4))),
 oO 103 (.load 1 false (.t 102)),
 oM 14 101,
 oM 15 103] ⟨.no, [], .flat⟩)
 (.seq (.draw [
 oO 104 (.idxP 8 1 (.t 12) (.c (.int .i64 7))),
 oO 105 (.load 1 false (.t 104)),
 oM 106 15,
 oK 107 F_witanref04_rot32 [.t 106, .c (.int .i64 6)],
 oM 108 15,
 oK 109 F_witanref04_rot32 [.t 108, .c (.int .i64 11)],
 oO 110 (.bin .xor (.t 107) (.t 109)),
 oM 111 15,
 oK 112 F_witanref04_rot32 [.t 111, .c (.int .i64 25)],
 oO 113 (.bin .xor (.t 110) (.t 112)),
 oO 114 (.bin .add (.t 105) (.t 113)),
 oM 115 15,
 oO 116 (.idxP 8 1 (.t 12) (.c (.int .i64 5))),
 oO 117 (.load 1 false (.t 116)),
 oO 118 (.bin .and (.t 115) (.t 117)),
 oM 119 15,
 oO 120 (.un .xor (.t 119)),
 oO 121 (.idxP 8 1 (.t 12) (.c (.int .i64 6))),
 oO 122 (.load 1 false (.t 121)),
 oO 123 (.bin .and (.t 120) (.t 122)),
 oO 124 (.bin .xor (.t 118) (.t 123)),
 oO 125 (.bin .add (.t 114) (.t 124)),
 oM 126 13,
 oO 127 (.idxP 64 1 (.t 3) (.t 126)),
 oO 128 (.load 1 false (.t 127)),
 oO 129 (.bin .add (.t 125) (.t 128)),
 oM 130 13,
 oO 131 (.idxP 64 1 (.t 7) (.t 130)),
 oO 132 (.load 1 false (.t 131)),
 oO 133 (.bin .add (.t 129) (.t 132)),
 oM 16 133] ⟨.all, [], .look 0 (.look 1 (.look 2 (.look 4 (.look 7 (.look 11 (.look 12 (.look 13 (.look 14 (.look 15 (.look 16 (.look 17 (.look 18 (.look 19 (.look 20 (.look 22 (.look 23 (.look 24 (.look 26 (.look 27 (.look 28 (.run 3 true (.run 5 true (.look 6 (.run 8 true (.look 9 (.look 10 (.look 21 (.look 25 (.look 29 (.look 30 .done))))))))))))))))))))))))))))))⟩)
 (.seq (.draw [
 oM 134 14,
 oK 135 F_witanref04_rot32 [.t 134, .c (.int .i64 2)],
 oM 136 14,
 oK 137 F_witanref04_rot32 [.t 136, .c (.int .i64 13)],
 oO 138 (.bin .xor (.t 135) (.t 137)),
 oM 139 14,
 oK 140 F_witanref04_rot32 [.t 139, .c (.int .i64 22)],
 oO 141 (.bin .xor (.t 138) (.t 140)),
 oM 142 14,
 oO 143 (.idxP 8 1 (.t 12) (.c (.int .i64 1))),
 oO 144 (.load 1 false (.t 143)),
 oO 145 (.bin .and (.t 142) (.t 144)),
 oM 146 14,
 oO 147 (.idxP 8 1 (.t 12) (.c (.int .i64 2))),
 oO 148 (.load 1 false (.t 147)),
 oO 149 (.bin .and (.t 146) (.t 148)),
 oO 150 (.bin .xor (.t 145) (.t 149)),
 oO 151 (.idxP 8 1 (.t 12) (.c (.int .i64 1))),
 oO 152 (.load 1 false (.t 151)),
 oO 153 (.idxP 8 1 (.t 12) (.c (.int .i64 2))),
 oO 154 (.load 1 false (.t 153)),
 oO 155 (.bin .and (.t 152) (.t 154)),
 oO 156 (.bin .xor (.t 150) (.t 155)),
 oO 157 (.bin .add (.t 141) (.t 156)),
 oM 17 157] ⟨.all, [], .look 0 (.look 2 (.look 5 (.look 8 (.look 9 (.look 10 (.look 11 (.look 12 (.look 13 (.look 14 (.look 15 (.look 16 (.look 17 (.look 18 (.look 19 (.look 20 (.look 21 (.look 22 (.run 1 true (.run 3 true (.look 4 (.run 6 true (.look 7 (.look 23 (.look 24 .done))))))))))))))))))))))))⟩)
 (.ops [
 oM 158 16,
 oM 159 17,
 oO 160 (.bin .add (.t 158) (.t 159)),
 oO 161 (.idxP 8 1 (.t 12) (.c (.int .i64 0))),
 oO 162 (.load 1 false (.t 161)),
 oO 163 (.idxP 8 1 (.t 12) (.c (.int .i64 1))),
 oO 164 (.load 1 false (.t 163)),
 oO 165 (.idxP 8 1 (.t 12) (.c (.int .i64 2))),
 oO 166 (.load 1 false (.t 165)),
 oO 167 (.idxP 8 1 (.t 12) (.c (.int .i64 3))),
 oO 168 (.load 1 false (.t 167)),
 oM 169 16,
 oO 170 (.bin .add (.t 168) (.t 169)),
 oO 171 (.idxP 8 1 (.t 12) (.c (.int .i64 4))),
 oO 172 (.load 1 false (.t 171)),
 oO 173 (.idxP 8 1 (.t 12) (.c (.int .i64 5))),
 oO 174 (.load 1 false (.t 173)),
 oO 175 (.idxP 8 1 (.t 12) (.c (.int .i64 6))),
 oO 176 (.load 1 false (.t 175)),
 oO 177 (.build [.int .u32 0, .int .u32 0, .int .u32 0, .int .u32 0, .int .u32 0, .int .u32 0, .int .u32 0, .int .u32 0] [(0, 1, .t 160), (1, 1, .t 162), (2, 1, .t 164), (3, 1, .t 166), (4, 1, .t 170), (5, 1, .t 172), (6, 1, .t 174), (7, 1, .t 176)]),
 oS 8 12 177])))))
 (.ops [
 oM 98 13,
 oO 99 (.bin .add (.t 98) (.c (.int .i64 1))),
 oM 13 99]))))))
 (.seq (.ops [
 oO 18 (.mv (.c (.int .i64 0)))])
 (.block 8
 (.loop
 (.seq (.seq (.ops [
 oM 178 18,
 oO 179 (.bin .lss (.t 178) (.c (.int .i64 8)))])
 (.cond (.t 179)
 .skip
 (.exit 8)))
 (.seq (.block 9
 (.draw [
 oM 182 18,
 oO 183 (.idxP 8 1 (.t 4) (.t 182)),
 oO 184 (.load 1 false (.t 183)),
 oM 185 18,
 oO 186 (.idxP 8 1 (.t 12) (.t 185)),
 oO 187 (.load 1 false (.t 186)),
 oO 188 (.bin .add (.t 184) (.t 187)),
 oO 189 (.idxP 8 1 (.t 4) (.t 182)),
 oS 1 189 188] ⟨.all, [], .look 0 (.look 1 (.look 2 (.look 3 (.look 4 (.look 5 (.look 6 (.look 7 (.run 8 false .done))))))))⟩))
 (.ops [
 oM 180 18,
 oO 181 (.bin .add (.t 180) (.c (.int .i64 1))),
 oM 18 181])))))))))))
 (.ops [
 oM 29 6,
 oO 30 (.bin .add (.t 29) (.c (.int .i64 64))),
 oM 6 30]))))))
 (.seq (.ops [
 oO 19 (.alloc 1 32 [.int .u8 0])])
 (.seq (.seq (.ops [
 oO 20 (.mv (.c (.int .i64 0)))])
 (.block 10
 (.loop
 (.seq (.seq (.ops [
 oM 190 20,
 oO 191 (.bin .lss (.t 190) (.c (.int .i64 32)))])
 (.cond (.t 191)
 .skip
 (.exit 10)))
 (.seq (.block 11
 (.ops [
 oM 194 20,
 oM 195 20,
 oO 196 (.bin .quo (.t 195) (.c (.int .i64 4))),
 oO 197 (.idxP 8 1 (.t 4) (.t 196)),
 oO 198 (.load 1 false (.t 197)),
 oM 199 20,
 oO 200 (.bin .rem (.t 199) (.c (.int .i64 4))),
 oO 201 (.bin .mul (.c (.int .i64 8)) (.t 200)),
 oO 202 (.bin .sub (.c (.int .i64 24)) (.t 201)),
 oO 203 (.conv .u64 (.t 202)),
 oO 204 (.bin .shr (.t 198) (.t 203)),
 oO 205 (.conv .u8 (.t 204)),
 oO 206 (.idxP 32 1 (.t 19) (.t 194)),
 oS 1 206 205]))
 (.ops [
 oM 192 20,
 oO 193 (.bin .add (.t 192) (.c (.int .i64 1))),
 oM 20 193]))))))
 (.seq (.ops [
 oO 207 (.load 32 true (.t 19)),
 oS 32 2 207])
 .ret))))))))⟩
theorem K_witanref04_Sum256 : chkFun DK Pg Try.f64 A_witanref04_Sum256 = true := by kernel_rfl
theorem B_witanref04_Sum256 {args : List AV} {m : Mem} {K : AV → Mem → Prop} (h : vcFun DK Pg A_witanref04_Sum256 args m K) : ACall Pg F_witanref04_Sum256 args m K := call_body mixed Try.func64 (by kernel_rfl) K_witanref04_Sum256 h

noncomputable def A_witanref04_join : AFun := ⟨1, 18, [.t 2],
 (.seq (.ops [
 oO 2 (.mv (.c (.nils)))])
 (.seq (.ops [
 oO 3 (.mv (.c (.nils)))])
 (.seq (.seq (.ops [
 oO 4 (.mv (.c (.int .i64 0)))])
 (.block 0
 (.loop
 (.seq (.seq (.ops [
 oM 5 4,
 oM 6 0,
 oO 7 (.len (.t 6)),
 oO 8 (.bin .lss (.t 5) (.t 7))])
 (.cond (.t 8)
 .skip
 (.exit 0)))
 (.seq (.block 1
 (.ops [
 oM 11 3,
 oM 12 0,
 oM 13 4,
 oO 14 (.idxA 1 (.t 12) (.t 13)),
 oO 15 (.load 1 false (.t 14)),
 oO 16 (.app 1 1 (.t 11) (.t 15)),
 oM 3 16]))
 (.ops [
 oM 9 4,
 oO 10 (.bin .add (.t 9) (.c (.int .i64 1))),
 oM 4 10]))))))
 (.seq (.ops [
 oM 17 3,
 oM 2 17])
 .ret))))⟩
theorem K_witanref04_join : chkFun DK Pg Try.f65 A_witanref04_join = true := by kernel_rfl
theorem B_witanref04_join {args : List AV} {m : Mem} {K : AV → Mem → Prop} (h : vcFun DK Pg A_witanref04_join args m K) : ACall Pg F_witanref04_join args m K := call_body mixed Try.func65 (by kernel_rfl) K_witanref04_join h

noncomputable def A_witanref01_Wide : AFun := ⟨3, 11, [.cell 6 4 true],
 (.seq (.ops [
 oO 4 (.box 1 4 (.t 1)),
 oO 5 (.box 1 4 (.t 2)),
 oO 6 (.alloc 1 4 [.int .u64 0])])
 (.seq (.ops [
 oM 7 0,
 oO 8 (.load 4 true (.t 5)),
 oO 9 (.load 4 true (.t 4)),
 oK 10 F_witanref01_fold [.t 7, .t 8, .t 9],
 ⟨none, .stA 1 4 4 (.t 6) (.t 10), none⟩])
 .ret))⟩
theorem K_witanref01_Wide : chkFun DK Pg Try.f66 A_witanref01_Wide = true := by kernel_rfl
theorem B_witanref01_Wide {args : List AV} {m : Mem} {K : AV → Mem → Prop} (h : vcFun DK Pg A_witanref01_Wide args m K) : ACall Pg F_witanref01_Wide args m K := call_body mixed Try.func66 (by kernel_rfl) K_witanref01_Wide h

noncomputable def A_witanref01_Of : AFun := ⟨1, 25, [.cell 2 4 true],
 (.seq (.ops [
 oO 1 (.box 1 32 (.t 0)),
 oO 2 (.alloc 1 4 [.int .u64 0])])
 (.seq (.ops [
 oO 3 (.alloc 1 4 [.int .u64 0])])
 (.seq (.seq (.ops [
 oO 4 (.mv (.c (.int .i64 0)))])
 (.block 0
 (.loop
 (.seq (.seq (.ops [
 oM 5 4,
 oO 6 (.bin .lss (.t 5) (.c (.int .i64 32)))])
 (.cond (.t 6)
 .skip
 (.exit 0)))
 (.seq (.block 1
 (.draw [
 oM 9 4,
 oO 10 (.bin .quo (.t 9) (.c (.int .i64 8))),
 oO 11 (.binF .sub (.c (.int .i64 3)) (.t 10)),
 oM 12 4,
 oO 13 (.bin .quo (.t 12) (.c (.int .i64 8))),
 oO 14 (.binF .sub (.c (.int .i64 3)) (.t 13)),
 oO 15 (.idxP 4 1 (.t 3) (.t 14)),
 oO 16 (.load 1 false (.t 15)),
 oO 17 (.bin .shl (.t 16) (.c (.int .u64 8))),
 oM 18 4,
 oO 19 (.idxP 32 1 (.t 1) (.t 18)),
 oO 20 (.load 1 false (.t 19)),
 oO 21 (.conv .u64 (.t 20)),
 oO 22 (.bin .or (.t 17) (.t 21)),
 oO 23 (.idxP 4 1 (.t 3) (.t 11)),
 ⟨none, .stA 1 4 1 (.t 23) (.t 22), none⟩] ⟨.all, [], .look 0 (.look 1 (.look 2 (.look 3 (.look 4 (.look 5 (.look 6 (.look 7 (.look 8 (.look 9 (.look 10 (.look 11 (.look 12 (.look 13 (.look 14 (.run 15 false .done)))))))))))))))⟩))
 (.ops [
 oM 7 4,
 oO 8 (.binF .add (.t 7) (.c (.int .i64 1))),
 oM 4 8]))))))
 (.seq (.ops [
 oO 24 (.load 4 true (.t 3)),
 ⟨none, .stA 1 4 4 (.t 2) (.t 24), none⟩])
 .ret))))⟩
theorem K_witanref01_Of : chkFun DK Pg Try.f67 A_witanref01_Of = true := by kernel_rfl
theorem B_witanref01_Of {args : List AV} {m : Mem} {K : AV → Mem → Prop} (h : vcFun DK Pg A_witanref01_Of args m K) : ACall Pg F_witanref01_Of args m K := call_body mixed Try.func67 (by kernel_rfl) K_witanref01_Of h

noncomputable def A_witanref01_Sub : AFun := ⟨2, 28, [.cell 4 4 true, .t 5],
 (.seq (.ops [
 oO 2 (.box 1 4 (.t 0)),
 oO 3 (.box 1 4 (.t 1)),
 oO 4 (.alloc 1 4 [.int .u64 0]),
 oO 5 (.mv (.c (.int .u64 0)))])
 (.seq (.ops [
 oO 6 (.mv (.c (.int .u64 0)))])
 (.seq (.ops [
 oO 7 (.alloc 1 4 [.int .u64 0])])
 (.seq (.seq (.ops [
 oO 8 (.mv (.c (.int .i64 0)))])
 (.block 0
 (.loop
 (.seq (.seq (.ops [
 oM 9 8,
 oO 10 (.bin .lss (.t 9) (.c (.int .i64 4)))])
 (.cond (.t 10)
 .skip
 (.exit 0)))
 (.seq (.block 1
 (.draw [
 oM 14 8,
 oM 15 8,
 oO 16 (.idxP 4 1 (.t 2) (.t 15)),
 oO 17 (.load 1 false (.t 16)),
 oM 18 8,
 oO 19 (.idxP 4 1 (.t 3) (.t 18)),
 oO 20 (.load 1 false (.t 19)),
 oM 21 6,
 oO 22 (.x64 true F_bits_Sub64 (.t 17) (.t 20) (.t 21)),
 oM 13 22,
 oO 23 (.ext (.t 13) 0),
 oO 24 (.ext (.t 13) 1),
 oO 25 (.idxP 4 1 (.t 7) (.t 14)),
 ⟨none, .stA 1 4 1 (.t 25) (.t 23), none⟩,
 oM 6 24] ⟨.all, [], .look 0 (.look 1 (.look 2 (.look 3 (.look 4 (.look 5 (.look 6 (.look 7 (.run 8 true (.look 9 (.look 10 (.look 11 (.look 12 (.run 13 false (.look 14 .done))))))))))))))⟩))
 (.ops [
 oM 11 8,
 oO 12 (.binF .add (.t 11) (.c (.int .i64 1))),
 oM 8 12]))))))
 (.seq (.ops [
 oO 26 (.load 4 true (.t 7)),
 oM 27 6,
 ⟨none, .stA 1 4 4 (.t 4) (.t 26), none⟩,
 oM 5 27])
 .ret)))))⟩
theorem K_witanref01_Sub : chkFun DK Pg Try.f68 A_witanref01_Sub = true := by kernel_rfl
theorem B_witanref01_Sub {args : List AV} {m : Mem} {K : AV → Mem → Prop} (h : vcFun DK Pg A_witanref01_Sub args m K) : ACall Pg F_witanref01_Sub args m K := call_body mixed Try.func68 (by kernel_rfl) K_witanref01_Sub h

noncomputable def A_field_less : AFun := ⟨1, 12, [.cell 2 4 true, .t 3],
 (.seq (.ops [
 oO 2 (.alloc 1 4 [.int .u64 0]),
 oO 3 (.mv (.c (.bool false)))])
 (.seq (.seq (.ops [
 oM 4 0])
 (.block 0
 (.seq (.ops [
 oO 6 (.bin .eql (.t 4) (.c (.int .i64 0))),
 oM 5 6])
 (.cond (.t 5)
 (.seq (.ops [
 oO 7 (.build [.int .u64 0, .int .u64 0, .int .u64 0, .int .u64 0] [(0, 1, .c (.int .u64 4294968273))]),
 ⟨none, .stA 1 4 4 (.t 2) (.t 7), none⟩,
 oO 3 (.mv (.c (.bool true)))])
 .ret)
 (.seq (.ops [
 oO 9 (.bin .eql (.t 4) (.c (.int .i64 1))),
 oM 8 9])
 (.cond (.t 8)
 (.seq (.ops [
 oO 10 (.build [.int .u64 0, .int .u64 0, .int .u64 0, .int .u64 0] [(0, 1, .c (.int .u64 4624529908474429119)), (1, 1, .c (.int .u64 4994812053365940164)), (2, 1, .c (.int .u64 1))]),
 ⟨none, .stA 1 4 4 (.t 2) (.t 10), none⟩,
 oO 3 (.mv (.c (.bool true)))])
 .ret)
 .skip))))))
 (.seq (.ops [
 oO 11 (.build [.int .u64 0, .int .u64 0, .int .u64 0, .int .u64 0] []),
 ⟨none, .stA 1 4 4 (.t 2) (.t 11), none⟩,
 oO 3 (.mv (.c (.bool false)))])
 .ret)))⟩
theorem K_field_less : chkFun DK Pg Try.f69 A_field_less = true := by kernel_rfl
theorem B_field_less {args : List AV} {m : Mem} {K : AV → Mem → Prop} (h : vcFun DK Pg A_field_less args m K) : ACall Pg F_field_less args m K := call_body mixed Try.func69 (by kernel_rfl) K_field_less h

noncomputable def A_limb_Sub : AFun := ⟨2, 26, [.cell 4 4 true, .t 5],
 (.seq (.ops [
 oO 2 (.box 1 4 (.t 0)),
 oO 3 (.box 1 4 (.t 1)),
 oO 4 (.alloc 1 4 [.int .u64 0]),
 oO 5 (.mv (.c (.int .u64 0)))])
 (.seq (.seq (.ops [
 oO 7 (.mv (.c (.int .i64 0)))])
 (.block 0
 (.loop
 (.seq (.ops [
 oO 8 (.bin .lss (.t 7) (.c (.int .i64 4)))])
 (.seq (.cond (.t 8)
 .skip
 (.exit 0))
 (.seq (.block 1
 (.seq (.ops [
 oM 9 7,
 oM 6 9])
 (.draw [
 oM 11 6,
 oM 12 6,
 oO 13 (.idxP 4 1 (.t 2) (.t 12)),
 oO 14 (.load 1 false (.t 13)),
 oM 15 6,
 oO 16 (.idxP 4 1 (.t 3) (.t 15)),
 oO 17 (.load 1 false (.t 16)),
 oM 18 5,
 oO 19 (.x64 true F_bits_Sub64 (.t 14) (.t 17) (.t 18)),
 oM 10 19,
 oO 20 (.ext (.t 10) 0),
 oO 21 (.ext (.t 10) 1),
 oO 22 (.idxP 4 1 (.t 4) (.t 11)),
 ⟨none, .stA 1 4 1 (.t 22) (.t 20), none⟩,
 oM 5 21] ⟨.all, [], .look 0 (.look 1 (.look 2 (.look 3 (.look 4 (.look 5 (.look 6 (.look 7 (.run 8 true (.look 9 (.look 10 (.look 11 (.look 12 (.run 13 false (.look 14 .done))))))))))))))⟩)))
 (.ops [
 oO 23 (.binF .add (.t 7) (.c (.int .i64 1))),
 oM 7 23])))))))
 (.seq (.ops [
 oO 24 (.load 4 true (.t 4)),
 oM 25 5,
 ⟨none, .stA 1 4 4 (.t 4) (.t 24), none⟩,
 oM 5 25])
 .ret)))⟩
theorem K_limb_Sub : chkFun DK Pg Try.f70 A_limb_Sub = true := by kernel_rfl
theorem B_limb_Sub {args : List AV} {m : Mem} {K : AV → Mem → Prop} (h : vcFun DK Pg A_limb_Sub args m K) : ACall Pg F_limb_Sub args m K := call_body mixed Try.func70 (by kernel_rfl) K_limb_Sub h

noncomputable def A_draw_number : AFun := ⟨2, 22, [.t 4],
 (.seq (.ops [
 oO 4 (.mv (.c (.nils)))])
 (.seq (.ops [
 oO 5 (.mv (.c (.nils)))])
 (.seq (.seq (.ops [
 oM 7 1,
 oO 8 (.bin .sub (.t 7) (.c (.int .i64 1))),
 oM 6 8])
 (.block 0
 (.loop
 (.seq (.seq (.ops [
 oM 9 6,
 oO 10 (.bin .geq (.t 9) (.c (.int .i64 0)))])
 (.cond (.t 10)
 .skip
 (.exit 0)))
 (.seq (.block 1
 (.ops [
 oM 13 5,
 oM 14 0,
 oM 15 6,
 oO 16 (.bin .mul (.c (.int .i64 8)) (.t 15)),
 oO 17 (.bin .shr (.t 14) (.t 16)),
 oO 18 (.conv .u8 (.t 17)),
 oO 19 (.bsl 1 1 [.int .u8 0] [(0, 1, .t 18)]),
 oO 20 (.app 1 1 (.t 13) (.t 19)),
 oM 5 20]))
 (.ops [
 oM 11 6,
 oO 12 (.bin .sub (.t 11) (.c (.int .i64 1))),
 oM 6 12]))))))
 (.seq (.ops [
 oM 21 5,
 oM 4 21])
 .ret))))⟩
theorem K_draw_number : chkFun DK Pg Try.f71 A_draw_number = true := by kernel_rfl
theorem B_draw_number {args : List AV} {m : Mem} {K : AV → Mem → Prop} (h : vcFun DK Pg A_draw_number args m K) : ACall Pg F_draw_number args m K := call_body mixed Try.func71 (by kernel_rfl) K_draw_number h

noncomputable def A_witanref04_be : AFun := ⟨2, 23, [.t 4],
 (.seq (.ops [
 oO 4 (.mv (.c (.nils)))])
 (.seq (.ops [
 oO 5 (.mv (.c (.nils)))])
 (.seq (.seq (.ops [
 oM 7 1,
 oO 8 (.bin .sub (.t 7) (.c (.int .i64 1))),
 oM 6 8])
 (.block 0
 (.loop
 (.seq (.seq (.ops [
 oM 9 6,
 oO 10 (.bin .geq (.t 9) (.c (.int .i64 0)))])
 (.cond (.t 10)
 .skip
 (.exit 0)))
 (.seq (.block 1
 (.ops [
 oM 13 5,
 oM 14 0,
 oM 15 6,
 oO 16 (.bin .mul (.c (.int .i64 8)) (.t 15)),
 oO 17 (.conv .u64 (.t 16)),
 oO 18 (.bin .shr (.t 14) (.t 17)),
 oO 19 (.conv .u8 (.t 18)),
 oO 20 (.bsl 1 1 [.int .u8 0] [(0, 1, .t 19)]),
 oO 21 (.app 1 1 (.t 13) (.t 20)),
 oM 5 21]))
 (.ops [
 oM 11 6,
 oO 12 (.bin .sub (.t 11) (.c (.int .i64 1))),
 oM 6 12]))))))
 (.seq (.ops [
 oM 22 5,
 oM 4 22])
 .ret))))⟩
theorem K_witanref04_be : chkFun DK Pg Try.f72 A_witanref04_be = true := by kernel_rfl
theorem B_witanref04_be {args : List AV} {m : Mem} {K : AV → Mem → Prop} (h : vcFun DK Pg A_witanref04_be args m K) : ACall Pg F_witanref04_be args m K := call_body mixed Try.func72 (by kernel_rfl) K_witanref04_be h

noncomputable def A_limb_Cmp : AFun := ⟨2, 26, [.t 4],
 (.seq (.ops [
 oO 2 (.box 1 4 (.t 0)),
 oO 3 (.box 1 4 (.t 1)),
 oO 4 (.mv (.c (.int .i64 0)))])
 (.seq (.seq (.ops [
 oO 5 (.mv (.c (.int .i64 3)))])
 (.block 0
 (.loop
 (.seq (.seq (.ops [
 oM 6 5,
 oO 7 (.bin .geq (.t 6) (.c (.int .i64 0)))])
 (.cond (.t 7)
 .skip
 (.exit 0)))
 (.seq (.block 1
 (.block 2
 (.seq (.draw [
 oM 11 5,
 oO 12 (.idxP 4 1 (.t 2) (.t 11)),
 oO 13 (.load 1 false (.t 12)),
 oM 14 5,
 oO 15 (.idxP 4 1 (.t 3) (.t 14)),
 oO 16 (.load 1 false (.t 15)),
 oO 17 (.bin .lss (.t 13) (.t 16)),
 oM 10 17] ⟨.no, [], .flat⟩)
 (.cond (.t 10)
 (.seq (.ops [
 oO 4 (.mv (.c (.int .i64 (-1))))])
 .ret)
 (.seq (.draw [
 oM 19 5,
 oO 20 (.idxP 4 1 (.t 2) (.t 19)),
 oO 21 (.load 1 false (.t 20)),
 oM 22 5,
 oO 23 (.idxP 4 1 (.t 3) (.t 22)),
 oO 24 (.load 1 false (.t 23)),
 oO 25 (.bin .gtr (.t 21) (.t 24)),
 oM 18 25] ⟨.no, [], .flat⟩)
 (.cond (.t 18)
 (.seq (.ops [
 oO 4 (.mv (.c (.int .i64 1)))])
 .ret)
 .skip))))))
 (.ops [
 oM 8 5,
 oO 9 (.bin .sub (.t 8) (.c (.int .i64 1))),
 oM 5 9]))))))
 (.seq (.ops [
 oO 4 (.mv (.c (.int .i64 0)))])
 .ret)))⟩
theorem K_limb_Cmp : chkFun DK Pg Try.f74 A_limb_Cmp = true := by kernel_rfl
theorem B_limb_Cmp {args : List AV} {m : Mem} {K : AV → Mem → Prop} (h : vcFun DK Pg A_limb_Cmp args m K) : ACall Pg F_limb_Cmp args m K := call_body mixed Try.func74 (by kernel_rfl) K_limb_Cmp h

noncomputable def A_curve_mul : AFun := ⟨2, 8, [.cell 4 4 true],
 (.seq (.ops [
 oO 2 (.box 1 4 (.t 0)),
 oO 3 (.box 1 4 (.t 1)),
 oO 4 (.alloc 1 4 [.int .u64 0])])
 (.seq (.ops [
 oO 5 (.load 4 true (.t 2)),
 oO 6 (.load 4 true (.t 3)),
 oK 7 F_field_Mul [.c (.int .i64 0), .t 5, .t 6],
 ⟨none, .stA 1 4 4 (.t 4) (.t 7), none⟩])
 .ret))⟩
theorem K_curve_mul : chkFun DK Pg Try.f75 A_curve_mul = true := by kernel_rfl
theorem B_curve_mul {args : List AV} {m : Mem} {K : AV → Mem → Prop} (h : vcFun DK Pg A_curve_mul args m K) : ACall Pg F_curve_mul args m K := call_body mixed Try.func75 (by kernel_rfl) K_curve_mul h

noncomputable def A_curve_right : AFun := ⟨1, 10, [.cell 2 4 true],
 (.seq (.ops [
 oO 1 (.box 1 4 (.t 0)),
 oO 2 (.alloc 1 4 [.int .u64 0])])
 (.seq (.draw [
 oO 3 (.load 4 true (.t 1)),
 oO 4 (.load 4 true (.t 1)),
 oK 5 F_curve_mul [.t 3, .t 4],
 oO 6 (.load 4 true (.t 1)),
 oK 7 F_curve_mul [.t 5, .t 6],
 oO 8 (.build [.int .u64 0, .int .u64 0, .int .u64 0, .int .u64 0] [(0, 1, .c (.int .u64 7))]),
 oK 9 F_curve_add [.t 7, .t 8],
 ⟨none, .stA 1 4 4 (.t 2) (.t 9), none⟩] ⟨.all, [], .look 0 (.look 1 (.look 3 (.look 5 (.run 2 true (.run 4 true (.run 6 false (.run 7 false .done)))))))⟩)
 .ret))⟩
theorem K_curve_right : chkFun DK Pg Try.f76 A_curve_right = true := by kernel_rfl
theorem B_curve_right {args : List AV} {m : Mem} {K : AV → Mem → Prop} (h : vcFun DK Pg A_curve_right args m K) : ACall Pg F_curve_right args m K := call_body mixed Try.func76 (by kernel_rfl) K_curve_right h

noncomputable def A_sha_rounds : AFun := ⟨0, 2, [.t 0],
 (.seq (.ops [
 oO 0 (.mv (.c (.nils)))])
 (.seq (.ops [
 oO 1 (.bsl 1 64 [.int .u32 0] [(0, 1, .c (.int .u32 1116352408)), (1, 1, .c (.int .u32 1899447441)), (2, 1, .c (.int .u32 3049323471)), (3, 1, .c (.int .u32 3921009573)), (4, 1, .c (.int .u32 961987163)), (5, 1, .c (.int .u32 1508970993)), (6, 1, .c (.int .u32 2453635748)), (7, 1, .c (.int .u32 2870763221)), (8, 1, .c (.int .u32 3624381080)), (9, 1, .c (.int .u32 310598401)), (10, 1, .c (.int .u32 607225278)), (11, 1, .c (.int .u32 1426881987)), (12, 1, .c (.int .u32 1925078388)), (13, 1, .c (.int .u32 2162078206)), (14, 1, .c (.int .u32 2614888103)), (15, 1, .c (.int .u32 3248222580)), (16, 1, .c (.int .u32 3835390401)), (17, 1, .c (.int .u32 4022224774)), (18, 1, .c (.int .u32 264347078)), (19, 1, .c (.int .u32 604807628)), (20, 1, .c (.int .u32 770255983)), (21, 1, .c (.int .u32 1249150122)), (22, 1, .c (.int .u32 1555081692)), (23, 1, .c (.int .u32 1996064986)), (24, 1, .c (.int .u32 2554220882)), (25, 1, .c (.int .u32 2821834349)), (26, 1, .c (.int .u32 2952996808)), (27, 1, .c (.int .u32 3210313671)), (28, 1, .c (.int .u32 3336571891)), (29, 1, .c (.int .u32 3584528711)), (30, 1, .c (.int .u32 113926993)), (31, 1, .c (.int .u32 338241895)), (32, 1, .c (.int .u32 666307205)), (33, 1, .c (.int .u32 773529912)), (34, 1, .c (.int .u32 1294757372)), (35, 1, .c (.int .u32 1396182291)), (36, 1, .c (.int .u32 1695183700)), (37, 1, .c (.int .u32 1986661051)), (38, 1, .c (.int .u32 2177026350)), (39, 1, .c (.int .u32 2456956037)), (40, 1, .c (.int .u32 2730485921)), (41, 1, .c (.int .u32 2820302411)), (42, 1, .c (.int .u32 3259730800)), (43, 1, .c (.int .u32 3345764771)), (44, 1, .c (.int .u32 3516065817)), (45, 1, .c (.int .u32 3600352804)), (46, 1, .c (.int .u32 4094571909)), (47, 1, .c (.int .u32 275423344)), (48, 1, .c (.int .u32 430227734)), (49, 1, .c (.int .u32 506948616)), (50, 1, .c (.int .u32 659060556)), (51, 1, .c (.int .u32 883997877)), (52, 1, .c (.int .u32 958139571)), (53, 1, .c (.int .u32 1322822218)), (54, 1, .c (.int .u32 1537002063)), (55, 1, .c (.int .u32 1747873779)), (56, 1, .c (.int .u32 1955562222)), (57, 1, .c (.int .u32 2024104815)), (58, 1, .c (.int .u32 2227730452)), (59, 1, .c (.int .u32 2361852424)), (60, 1, .c (.int .u32 2428436474)), (61, 1, .c (.int .u32 2756734187)), (62, 1, .c (.int .u32 3204031479)), (63, 1, .c (.int .u32 3329325298))]),
 oM 0 1])
 .ret))⟩
theorem K_sha_rounds : chkFun DK Pg Try.f77 A_sha_rounds = true := by kernel_rfl
theorem B_sha_rounds {args : List AV} {m : Mem} {K : AV → Mem → Prop} (h : vcFun DK Pg A_sha_rounds args m K) : ACall Pg F_sha_rounds args m K := call_body mixed Try.func77 (by kernel_rfl) K_sha_rounds h

noncomputable def A_sha_padded : AFun := ⟨1, 35, [.t 2],
 (.seq (.ops [
 oO 2 (.mv (.c (.nils)))])
 (.seq (.ops [
 oO 6 (.bsl 1 0 [.int .u8 0] []),
 oM 7 0,
 oO 8 (.app 1 1 (.t 6) (.t 7)),
 oO 9 (.bsl 1 1 [.int .u8 0] [(0, 1, .c (.int .u8 128))]),
 oO 10 (.app 1 1 (.t 8) (.t 9)),
 oM 3 10])
 (.seq (.block 0
 (.loop
 (.seq (.seq (.ops [
 oM 11 3,
 oO 12 (.len (.t 11)),
 oO 13 (.bin .rem (.t 12) (.c (.int .i64 64))),
 oO 14 (.bin .neq (.t 13) (.c (.int .i64 56)))])
 (.cond (.t 14)
 .skip
 (.exit 0)))
 (.block 1
 (.ops [
 oM 15 3,
 oO 16 (.bsl 1 1 [.int .u8 0] [(0, 1, .c (.int .u8 0))]),
 oO 17 (.app 1 1 (.t 15) (.t 16)),
 oM 3 17])))))
 (.seq (.ops [
 oM 18 0,
 oO 19 (.len (.t 18)),
 oO 20 (.conv .u64 (.t 19)),
 oO 21 (.bin .shl (.t 20) (.c (.int .u64 3))),
 oM 4 21])
 (.seq (.seq (.ops [
 oO 5 (.mv (.c (.int .i64 7)))])
 (.block 2
 (.loop
 (.seq (.seq (.ops [
 oM 22 5,
 oO 23 (.bin .geq (.t 22) (.c (.int .i64 0)))])
 (.cond (.t 23)
 .skip
 (.exit 2)))
 (.seq (.block 3
 (.ops [
 oM 26 3,
 oM 27 4,
 oM 28 5,
 oO 29 (.bin .mul (.c (.int .i64 8)) (.t 28)),
 oO 30 (.bin .shr (.t 27) (.t 29)),
 oO 31 (.conv .u8 (.t 30)),
 oO 32 (.bsl 1 1 [.int .u8 0] [(0, 1, .t 31)]),
 oO 33 (.app 1 1 (.t 26) (.t 32)),
 oM 3 33]))
 (.ops [
 oM 24 5,
 oO 25 (.bin .sub (.t 24) (.c (.int .i64 1))),
 oM 5 25]))))))
 (.seq (.ops [
 oM 34 3,
 oM 2 34])
 .ret))))))⟩
theorem K_sha_padded : chkFun DK Pg Try.f78 A_sha_padded = true := by kernel_rfl
theorem B_sha_padded {args : List AV} {m : Mem} {K : AV → Mem → Prop} (h : vcFun DK Pg A_sha_padded args m K) : ACall Pg F_sha_padded args m K := call_body mixed Try.func78 (by kernel_rfl) K_sha_padded h

noncomputable def A_sha_high : AFun := ⟨1, 19, [.t 2],
 (.seq (.ops [
 oO 2 (.mv (.c (.int .u64 0)))])
 (.seq (.ops [
 oO 3 (.mv (.c (.int .u64 0)))])
 (.seq (.seq (.ops [
 oM 6 0,
 oO 7 (.len (.t 6)),
 oO 8 (.mv (.c (.int .i64 0)))])
 (.block 0
 (.loop
 (.seq (.ops [
 oO 9 (.bin .lss (.t 8) (.t 7))])
 (.seq (.cond (.t 9)
 .skip
 (.exit 0))
 (.seq (.block 1
 (.seq (.ops [
 oO 10 (.idxA 1 (.t 6) (.t 8)),
 oO 11 (.load 1 false (.t 10)),
 oM 5 11])
 (.ops [
 oM 12 3,
 oO 13 (.bin .shl (.t 12) (.c (.int .u64 8))),
 oM 14 5,
 oO 15 (.conv .u64 (.t 14)),
 oO 16 (.bin .or (.t 13) (.t 15)),
 oM 3 16])))
 (.ops [
 oO 17 (.bin .add (.t 8) (.c (.int .i64 1))),
 oM 8 17])))))))
 (.seq (.ops [
 oM 18 3,
 oM 2 18])
 .ret))))⟩
theorem K_sha_high : chkFun DK Pg Try.f79 A_sha_high = true := by kernel_rfl
theorem B_sha_high {args : List AV} {m : Mem} {K : AV → Mem → Prop} (h : vcFun DK Pg A_sha_high args m K) : ACall Pg F_sha_high args m K := call_body mixed Try.func79 (by kernel_rfl) K_sha_high h

noncomputable def A_bits_RotateLeft32 : AFun := ⟨2, 17, [.t 4],
 (.seq (.ops [
 oO 4 (.mv (.c (.int .u32 0)))])
 (.seq (.ops [
 oM 6 1,
 oO 7 (.conv .u64 (.t 6)),
 oO 8 (.bin .and (.t 7) (.c (.int .u64 31))),
 oM 5 8])
 (.seq (.ops [
 oM 9 0,
 oM 10 5,
 oO 11 (.bin .shl (.t 9) (.t 10)),
 oM 12 0,
 oM 13 5,
 oO 14 (.bin .sub (.c (.int .u64 32)) (.t 13)),
 oO 15 (.bin .shr (.t 12) (.t 14)),
 oO 16 (.bin .or (.t 11) (.t 15)),
 oM 4 16])
 .ret)))⟩
theorem K_bits_RotateLeft32 : chkFun DK Pg Try.f80 A_bits_RotateLeft32 = true := by kernel_rfl
theorem B_bits_RotateLeft32 {args : List AV} {m : Mem} {K : AV → Mem → Prop} (h : vcFun DK Pg A_bits_RotateLeft32 args m K) : ACall Pg F_bits_RotateLeft32 args m K := call_body mixed Try.func80 (by kernel_rfl) K_bits_RotateLeft32 h

noncomputable def A_curve_sub : AFun := ⟨2, 8, [.cell 4 4 true],
 (.seq (.ops [
 oO 2 (.box 1 4 (.t 0)),
 oO 3 (.box 1 4 (.t 1)),
 oO 4 (.alloc 1 4 [.int .u64 0])])
 (.seq (.ops [
 oO 5 (.load 4 true (.t 2)),
 oO 6 (.load 4 true (.t 3)),
 oK 7 F_field_Sub [.c (.int .i64 0), .t 5, .t 6],
 ⟨none, .stA 1 4 4 (.t 4) (.t 7), none⟩])
 .ret))⟩
theorem K_curve_sub : chkFun DK Pg Try.f83 A_curve_sub = true := by kernel_rfl
theorem B_curve_sub {args : List AV} {m : Mem} {K : AV → Mem → Prop} (h : vcFun DK Pg A_curve_sub args m K) : ACall Pg F_curve_sub args m K := call_body mixed Try.func83 (by kernel_rfl) K_curve_sub h

noncomputable def A_limb_Add : AFun := ⟨2, 26, [.cell 4 4 true, .t 5],
 (.seq (.ops [
 oO 2 (.box 1 4 (.t 0)),
 oO 3 (.box 1 4 (.t 1)),
 oO 4 (.alloc 1 4 [.int .u64 0]),
 oO 5 (.mv (.c (.int .u64 0)))])
 (.seq (.seq (.ops [
 oO 7 (.mv (.c (.int .i64 0)))])
 (.block 0
 (.loop
 (.seq (.ops [
 oO 8 (.bin .lss (.t 7) (.c (.int .i64 4)))])
 (.seq (.cond (.t 8)
 .skip
 (.exit 0))
 (.seq (.block 1
 (.seq (.ops [
 oM 9 7,
 oM 6 9])
 (.draw [
 oM 11 6,
 oM 12 6,
 oO 13 (.idxP 4 1 (.t 2) (.t 12)),
 oO 14 (.load 1 false (.t 13)),
 oM 15 6,
 oO 16 (.idxP 4 1 (.t 3) (.t 15)),
 oO 17 (.load 1 false (.t 16)),
 oM 18 5,
 oO 19 (.x64 false F_bits_Add64 (.t 14) (.t 17) (.t 18)),
 oM 10 19,
 oO 20 (.ext (.t 10) 0),
 oO 21 (.ext (.t 10) 1),
 oO 22 (.idxP 4 1 (.t 4) (.t 11)),
 ⟨none, .stA 1 4 1 (.t 22) (.t 20), none⟩,
 oM 5 21] ⟨.all, [], .look 0 (.look 1 (.look 2 (.look 3 (.look 4 (.look 5 (.look 6 (.look 7 (.run 8 true (.look 9 (.look 10 (.look 11 (.look 12 (.run 13 false (.look 14 .done))))))))))))))⟩)))
 (.ops [
 oO 23 (.binF .add (.t 7) (.c (.int .i64 1))),
 oM 7 23])))))))
 (.seq (.ops [
 oO 24 (.load 4 true (.t 4)),
 oM 25 5,
 ⟨none, .stA 1 4 4 (.t 4) (.t 24), none⟩,
 oM 5 25])
 .ret)))⟩
theorem K_limb_Add : chkFun DK Pg Try.f84 A_limb_Add = true := by kernel_rfl
theorem B_limb_Add {args : List AV} {m : Mem} {K : AV → Mem → Prop} (h : vcFun DK Pg A_limb_Add args m K) : ACall Pg F_limb_Add args m K := call_body mixed Try.func84 (by kernel_rfl) K_limb_Add h

noncomputable def A_limb_Bit : AFun := ⟨2, 20, [.t 4],
 (.seq (.ops [
 oO 2 (.box 1 4 (.t 0)),
 oO 4 (.mv (.c (.int .i64 0)))])
 (.seq (.seq (.ops [
 oM 5 1,
 oO 6 (.bin .lss (.t 5) (.c (.int .i64 0))),
 oM 7 6,
 oG 8 (.mv (.t 1)) 7 false,
 oG 9 (.bin .geq (.t 8) (.c (.int .i64 256))) 7 false,
 oO 10 (.pick (.t 7) (.c (.bool true)) (.t 9))])
 (.cond (.t 10)
 (.seq (.ops [
 oO 4 (.mv (.c (.int .i64 0)))])
 .ret)
 .skip))
 (.seq (.ops [
 oM 11 1,
 oO 12 (.bin .quo (.t 11) (.c (.int .i64 64))),
 oO 13 (.idxP 4 1 (.t 2) (.t 12)),
 oO 14 (.load 1 false (.t 13)),
 oM 15 1,
 oO 16 (.bin .rem (.t 15) (.c (.int .i64 64))),
 oO 17 (.bin .shr (.t 14) (.t 16)),
 oO 18 (.bin .and (.t 17) (.c (.int .u64 1))),
 oO 19 (.conv .i64 (.t 18)),
 oM 4 19])
 .ret)))⟩
theorem K_limb_Bit : chkFun DK Pg Try.f85 A_limb_Bit = true := by kernel_rfl
theorem B_limb_Bit {args : List AV} {m : Mem} {K : AV → Mem → Prop} (h : vcFun DK Pg A_limb_Bit args m K) : ACall Pg F_limb_Bit args m K := call_body mixed Try.func85 (by kernel_rfl) K_limb_Bit h

noncomputable def A_witanref04_Mac : AFun := ⟨2, 47, [.cell 4 32 true],
 (.seq (.ops [
 oO 4 (.alloc 1 32 [.int .u8 0])])
 (.seq (.ops [
 oO 5 (.alloc 1 64 [.int .u8 0]),
 oO 6 (.alloc 1 64 [.int .u8 0])])
 (.seq (.seq (.ops [
 oM 11 0,
 oO 12 (.len (.t 11)),
 oO 13 (.bin .gtr (.t 12) (.c (.int .i64 64)))])
 (.cond (.t 13)
 (.seq (.ops [
 oM 14 0,
 oK 15 F_witanref04_Sum256 [.t 14],
 oO 7 (.alloc 1 32 [.int .u8 0]),
 oS 32 7 15])
 (.ops [
 oO 16 (.slarr 32 1 (.t 7) none none none),
 oM 0 16]))
 .skip))
 (.seq (.seq (.ops [
 oO 8 (.mv (.c (.int .i64 0)))])
 (.block 0
 (.loop
 (.seq (.seq (.ops [
 oM 17 8,
 oO 18 (.bin .lss (.t 17) (.c (.int .i64 64)))])
 (.cond (.t 18)
 .skip
 (.exit 0)))
 (.seq (.block 1
 (.seq (.ops [
 oO 9 (.mv (.c (.int .u8 0)))])
 (.seq (.seq (.ops [
 oM 21 8,
 oM 22 0,
 oO 23 (.len (.t 22)),
 oO 24 (.bin .lss (.t 21) (.t 23))])
 (.cond (.t 24)
 (.ops [
 oM 25 0,
 oM 26 8,
 oO 27 (.idxA 1 (.t 25) (.t 26)),
 oO 28 (.load 1 false (.t 27)),
 oM 9 28])
 .skip))
 (.ops [
 oM 29 8,
 oM 30 8,
 oM 31 9,
 oO 32 (.bin .xor (.t 31) (.c (.int .u8 54))),
 oM 33 9,
 oO 34 (.bin .xor (.t 33) (.c (.int .u8 92))),
 oO 35 (.idxP 64 1 (.t 5) (.t 29)),
 oS 1 35 32,
 oO 36 (.idxP 64 1 (.t 6) (.t 30)),
 oS 1 36 34]))))
 (.ops [
 oM 19 8,
 oO 20 (.bin .add (.t 19) (.c (.int .i64 1))),
 oM 8 20]))))))
 (.seq (.ops [
 oO 37 (.slarr 64 1 (.t 5) none none none),
 oM 38 1,
 oO 39 (.bsl 1 2 [.nils] [(0, 1, .t 37), (1, 1, .t 38)]),
 oK 40 F_witanref04_join [.t 39],
 oK 41 F_witanref04_Sum256 [.t 40],
 oO 10 (.alloc 1 32 [.int .u8 0]),
 oS 32 10 41])
 (.seq (.draw [
 oO 42 (.slarr 64 1 (.t 6) none none none),
 oO 43 (.slarr 32 1 (.t 10) none none none),
 oO 44 (.bsl 1 2 [.nils] [(0, 1, .t 42), (1, 1, .t 43)]),
 oK 45 F_witanref04_join [.t 44],
 oK 46 F_witanref04_Sum256 [.t 45],
 oS 32 4 46] ⟨.all, [], .look 0 (.look 1 (.run 2 false (.run 3 false (.run 4 false (.run 5 false .done)))))⟩)
 .ret))))))⟩
theorem K_witanref04_Mac : chkFun DK Pg Try.f86 A_witanref04_Mac = true := by kernel_rfl
theorem B_witanref04_Mac {args : List AV} {m : Mem} {K : AV → Mem → Prop} (h : vcFun DK Pg A_witanref04_Mac args m K) : ACall Pg F_witanref04_Mac args m K := call_body mixed Try.func86 (by kernel_rfl) K_witanref04_Mac h

noncomputable def A_curve_spread : AFun := ⟨1, 15, [.cell 2 12 true],
 (.seq (.ops [
 oO 1 (.box 9 1 (.t 0)),
 oO 2 (.alloc 12 1 (List.replicate 12 (.int .u64 0)))])
 (.seq (.seq (.ops [
 oO 3 (.fldA 0 (.t 1)),
 oO 4 (.load 1 false (.t 3))])
 (.cond (.t 4)
 (.seq (.ops [
 oO 5 (.build [.int .u64 0, .int .u64 0, .int .u64 0, .int .u64 0] [(0, 1, .c (.int .u64 1))]),
 oO 6 (.build [.int .u64 0, .int .u64 0, .int .u64 0, .int .u64 0] [(0, 1, .c (.int .u64 1))]),
 oO 7 (.build [.int .u64 0, .int .u64 0, .int .u64 0, .int .u64 0] []),
 oO 8 (.build (List.replicate 12 (.int .u64 0)) [(0, 4, .t 5), (4, 4, .t 6), (8, 4, .t 7)]),
 ⟨none, .stA 12 1 12 (.t 2) (.t 8), none⟩])
 .ret)
 .skip))
 (.seq (.ops [
 oO 9 (.fldA 1 (.t 1)),
 oO 10 (.load 4 true (.t 9)),
 oO 11 (.fldA 5 (.t 1)),
 oO 12 (.load 4 true (.t 11)),
 oO 13 (.build [.int .u64 0, .int .u64 0, .int .u64 0, .int .u64 0] [(0, 1, .c (.int .u64 1))]),
 oO 14 (.build (List.replicate 12 (.int .u64 0)) [(0, 4, .t 10), (4, 4, .t 12), (8, 4, .t 13)]),
 ⟨none, .stA 12 1 12 (.t 2) (.t 14), none⟩])
 .ret)))⟩
theorem K_curve_spread : chkFun DK Pg Try.f87 A_curve_spread = true := by kernel_rfl
theorem B_curve_spread {args : List AV} {m : Mem} {K : AV → Mem → Prop} (h : vcFun DK Pg A_curve_spread args m K) : ACall Pg F_curve_spread args m K := call_body mixed Try.func87 (by kernel_rfl) K_curve_spread h

noncomputable def A_curve_base : AFun := ⟨0, 4, [.cell 0 9 true],
 (.seq (.ops [
 oO 0 (.alloc 9 1 [.bool false, .int .u64 0, .int .u64 0, .int .u64 0, .int .u64 0, .int .u64 0, .int .u64 0, .int .u64 0, .int .u64 0])])
 (.seq (.ops [
 oO 1 (.build [.int .u64 0, .int .u64 0, .int .u64 0, .int .u64 0] [(0, 1, .c (.int .u64 6481385041966929816)), (1, 1, .c (.int .u64 188021827762530521)), (2, 1, .c (.int .u64 6170039885052185351)), (3, 1, .c (.int .u64 8772561819708210092))]),
 oO 2 (.build [.int .u64 0, .int .u64 0, .int .u64 0, .int .u64 0] [(0, 1, .c (.int .u64 11261198710074299576)), (1, 1, .c (.int .u64 18237243440184513561)), (2, 1, .c (.int .u64 6747795201694173352)), (3, 1, .c (.int .u64 5204712524664259685))]),
 oO 3 (.build [.bool false, .int .u64 0, .int .u64 0, .int .u64 0, .int .u64 0, .int .u64 0, .int .u64 0, .int .u64 0, .int .u64 0] [(1, 4, .t 1), (5, 4, .t 2)]),
 ⟨none, .stA 9 1 9 (.t 0) (.t 3), none⟩])
 .ret))⟩
theorem K_curve_base : chkFun DK Pg Try.f88 A_curve_base = true := by kernel_rfl
theorem B_curve_base {args : List AV} {m : Mem} {K : AV → Mem → Prop} (h : vcFun DK Pg A_curve_base args m K) : ACall Pg F_curve_base args m K := call_body mixed Try.func88 (by kernel_rfl) K_curve_base h

noncomputable def A_curve_jac_times : AFun := ⟨2, 28, [.cell 4 12 true],
 (.seq (.ops [
 oO 2 (.box 12 1 (.t 0)),
 oO 3 (.box 1 4 (.t 1)),
 oO 4 (.alloc 12 1 (List.replicate 12 (.int .u64 0)))])
 (.seq (.ops [
 oO 7 (.build [.int .u64 0, .int .u64 0, .int .u64 0, .int .u64 0] [(0, 1, .c (.int .u64 1))]),
 oO 8 (.build [.int .u64 0, .int .u64 0, .int .u64 0, .int .u64 0] [(0, 1, .c (.int .u64 1))]),
 oO 9 (.build [.int .u64 0, .int .u64 0, .int .u64 0, .int .u64 0] []),
 oO 10 (.build (List.replicate 12 (.int .u64 0)) [(0, 4, .t 7), (4, 4, .t 8), (8, 4, .t 9)]),
 oO 5 (.alloc 12 1 (List.replicate 12 (.int .u64 0))),
 ⟨none, .stA 12 1 12 (.t 5) (.t 10), none⟩])
 (.seq (.seq (.ops [
 oO 11 (.load 4 true (.t 3)),
 oK 12 F_limb_Len [.t 11],
 oO 13 (.bin .sub (.t 12) (.c (.int .i64 1))),
 oM 6 13])
 (.block 0
 (.loop
 (.seq (.seq (.ops [
 oM 14 6,
 oO 15 (.bin .geq (.t 14) (.c (.int .i64 0)))])
 (.cond (.t 15)
 .skip
 (.exit 0)))
 (.seq (.block 1
 (.seq (.ops [
 oO 18 (.load 12 true (.t 5)),
 oK 19 F_curve_jac_twice [.t 18],
 ⟨none, .stA 12 1 12 (.t 5) (.t 19), none⟩])
 (.seq (.ops [
 oO 20 (.load 4 true (.t 3)),
 oM 21 6,
 oK 22 F_limb_Bit [.t 20, .t 21],
 oO 23 (.bin .eql (.t 22) (.c (.int .i64 1)))])
 (.cond (.t 23)
 (.ops [
 oO 24 (.load 12 true (.t 5)),
 oO 25 (.load 12 true (.t 2)),
 oK 26 F_curve_jac_plus [.t 24, .t 25],
 ⟨none, .stA 12 1 12 (.t 5) (.t 26), none⟩])
 .skip))))
 (.ops [
 oM 16 6,
 oO 17 (.bin .sub (.t 16) (.c (.int .i64 1))),
 oM 6 17]))))))
 (.seq (.ops [
 oO 27 (.load 12 true (.t 5)),
 ⟨none, .stA 12 1 12 (.t 4) (.t 27), none⟩])
 .ret))))⟩
theorem K_curve_jac_times : chkFun DK Pg Try.f89 A_curve_jac_times = true := by kernel_rfl
theorem B_curve_jac_times {args : List AV} {m : Mem} {K : AV → Mem → Prop} (h : vcFun DK Pg A_curve_jac_times args m K) : ACall Pg F_curve_jac_times args m K := call_body mixed Try.func89 (by kernel_rfl) K_curve_jac_times h

noncomputable def A_curve_jac_point : AFun := ⟨1, 27, [.cell 2 9 true],
 (.seq (.ops [
 oO 1 (.box 12 1 (.t 0)),
 oO 2 (.alloc 9 1 [.bool false, .int .u64 0, .int .u64 0, .int .u64 0, .int .u64 0, .int .u64 0, .int .u64 0, .int .u64 0, .int .u64 0])])
 (.seq (.seq (.ops [
 oO 5 (.fldA 8 (.t 1)),
 oO 6 (.load 4 true (.t 5)),
 oO 7 (.build [.int .u64 0, .int .u64 0, .int .u64 0, .int .u64 0] []),
 oO 8 (.eqa [.i, .i, .i, .i] false (.t 6) (.t 7))])
 (.cond (.t 8)
 (.seq (.ops [
 oO 9 (.build [.bool false, .int .u64 0, .int .u64 0, .int .u64 0, .int .u64 0, .int .u64 0, .int .u64 0, .int .u64 0, .int .u64 0] [(0, 1, .c (.bool true))]),
 ⟨none, .stA 9 1 9 (.t 2) (.t 9), none⟩])
 .ret)
 .skip))
 (.seq (.ops [
 oO 10 (.fldA 8 (.t 1)),
 oO 11 (.load 4 true (.t 10)),
 oK 12 F_field_Inv [.c (.int .i64 0), .t 11],
 oO 3 (.alloc 1 4 [.int .u64 0]),
 ⟨none, .stA 1 4 4 (.t 3) (.t 12), none⟩])
 (.seq (.ops [
 oO 13 (.load 4 true (.t 3)),
 oO 14 (.load 4 true (.t 3)),
 oK 15 F_curve_mul [.t 13, .t 14],
 oO 4 (.alloc 1 4 [.int .u64 0]),
 ⟨none, .stA 1 4 4 (.t 4) (.t 15), none⟩])
 (.seq (.draw [
 oO 16 (.fldA 0 (.t 1)),
 oO 17 (.load 4 true (.t 16)),
 oO 18 (.load 4 true (.t 4)),
 oK 19 F_curve_mul [.t 17, .t 18],
 oO 20 (.fldA 4 (.t 1)),
 oO 21 (.load 4 true (.t 20)),
 oO 22 (.load 4 true (.t 4)),
 oO 23 (.load 4 true (.t 3)),
 oK 24 F_curve_mul [.t 22, .t 23],
 oK 25 F_curve_mul [.t 21, .t 24],
 oO 26 (.build [.bool false, .int .u64 0, .int .u64 0, .int .u64 0, .int .u64 0, .int .u64 0, .int .u64 0, .int .u64 0, .int .u64 0] [(1, 4, .t 19), (5, 4, .t 25)]),
 ⟨none, .stA 9 1 9 (.t 2) (.t 26), none⟩] ⟨.all, [], .look 0 (.look 1 (.look 2 (.look 4 (.look 5 (.look 6 (.look 7 (.run 3 true (.run 8 true (.run 9 true (.look 10 (.run 11 false .done)))))))))))⟩)
 .ret)))))⟩
theorem K_curve_jac_point : chkFun DK Pg Try.f90 A_curve_jac_point = true := by kernel_rfl
theorem B_curve_jac_point {args : List AV} {m : Mem} {K : AV → Mem → Prop} (h : vcFun DK Pg A_curve_jac_point args m K) : ACall Pg F_curve_jac_point args m K := call_body mixed Try.func90 (by kernel_rfl) K_curve_jac_point h

noncomputable def A_pair_turned : AFun := ⟨4, 61, [.cell 8 32 true, .t 9],
 (.seq (.ops [
 oO 4 (.box 9 1 (.t 0)),
 oO 7 (.box 1 32 (.t 3)),
 oO 8 (.alloc 1 32 [.int .u8 0]),
 oO 9 (.mv (.c (.int .i64 0)))])
 (.seq (.seq (.ops [
 oM 14 1,
 oK 15 F_pair_dealer [.t 14],
 oO 16 (.un .not (.t 15)),
 oM 17 16,
 oG 18 (.mv (.t 2)) 17 false,
 oG 19 (.call (.c (.fn F_pair_dealer [])) [.t 18]) 17 false,
 oG 20 (.un .not (.t 19)) 17 false,
 oO 21 (.pick (.t 17) (.c (.bool true)) (.t 20))])
 (.cond (.t 21)
 (.seq (.ops [
 oO 22 (.build (List.replicate 32 (.int .u8 0)) []),
 oS 32 8 22,
 oO 9 (.mv (.c (.int .i64 1)))])
 .ret)
 .skip))
 (.seq (.ops [
 oO 24 (.load 9 true (.t 4)),
 oK 25 F_curve_Bytes [.t 24],
 oM 23 25,
 oO 26 (.ext (.t 23) 0),
 oO 27 (.ext (.t 23) 1),
 oM 10 26,
 oM 11 27])
 (.seq (.seq (.ops [
 oM 28 11,
 oO 29 (.bin .neq (.t 28) (.c (.int .i64 0)))])
 (.cond (.t 29)
 (.seq (.ops [
 oO 30 (.build (List.replicate 32 (.int .u8 0)) []),
 oM 31 11,
 oS 32 8 30,
 oM 9 31])
 .ret)
 .skip))
 (.seq (.ops [
 oM 33 10,
 oM 34 1,
 oO 35 (.conv .u8 (.t 34)),
 oM 36 2,
 oO 37 (.conv .u8 (.t 36)),
 oO 38 (.bsl 1 2 [.int .u8 0] [(0, 1, .t 35), (1, 1, .t 37)]),
 oO 39 (.app 1 1 (.t 33) (.t 38)),
 oK 40 F_draw_Stream [.t 39, .c (.int .i64 32)],
 oM 32 40,
 oO 41 (.ext (.t 32) 0),
 oO 42 (.ext (.t 32) 1),
 oM 12 41,
 oM 11 42])
 (.seq (.seq (.ops [
 oM 43 11,
 oO 44 (.bin .neq (.t 43) (.c (.int .i64 0)))])
 (.cond (.t 44)
 (.seq (.ops [
 oO 45 (.build (List.replicate 32 (.int .u8 0)) []),
 oM 46 11,
 oS 32 8 45,
 oM 9 46])
 .ret)
 .skip))
 (.seq (.seq (.ops [
 oO 47 (.mv (.c (.int .i64 0)))])
 (.block 0
 (.loop
 (.seq (.ops [
 oO 48 (.bin .lss (.t 47) (.c (.int .i64 32)))])
 (.seq (.cond (.t 48)
 .skip
 (.exit 0))
 (.seq (.block 1
 (.seq (.ops [
 oM 49 47,
 oM 13 49])
 (.draw [
 oM 50 13,
 oO 51 (.idxP 32 1 (.t 7) (.t 50)),
 oO 52 (.load 1 false (.t 51)),
 oM 53 12,
 oM 54 13,
 oO 55 (.idxA 1 (.t 53) (.t 54)),
 oO 56 (.load 1 false (.t 55)),
 oO 57 (.bin .xor (.t 52) (.t 56)),
 oO 58 (.idxP 32 1 (.t 7) (.t 50)),
 oS 1 58 57] ⟨.all, [], .look 0 (.look 1 (.look 2 (.look 3 (.look 4 (.look 5 (.look 6 (.look 7 (.look 8 (.run 9 false .done)))))))))⟩)))
 (.ops [
 oO 59 (.bin .add (.t 47) (.c (.int .i64 1))),
 oM 47 59])))))))
 (.seq (.ops [
 oO 60 (.load 32 true (.t 7)),
 oS 32 8 60,
 oO 9 (.mv (.c (.int .i64 0)))])
 .ret))))))))⟩
theorem K_pair_turned : chkFun DK Pg Try.f91 A_pair_turned = true := by kernel_rfl
theorem B_pair_turned {args : List AV} {m : Mem} {K : AV → Mem → Prop} (h : vcFun DK Pg A_pair_turned args m K) : ACall Pg F_pair_turned args m K := call_body mixed Try.func91 (by kernel_rfl) K_pair_turned h

noncomputable def A_witanref01_Prime : AFun := ⟨1, 20, [.cell 2 4 true],
 (.seq (.ops [
 oO 2 (.alloc 1 4 [.int .u64 0])])
 (.seq (.ops [
 oO 6 (.build [.int .u64 0, .int .u64 0, .int .u64 0, .int .u64 0] []),
 oM 7 0,
 oK 8 F_witanref01_small [.t 7],
 oK 9 F_witanref01_Sub [.t 6, .t 8],
 oM 5 9,
 oO 10 (.ext (.t 5) 0),
 oO 11 (.ext (.t 5) 1),
 oO 3 (.alloc 1 4 [.int .u64 0]),
 ⟨none, .stA 1 4 4 (.t 3) (.t 10), none⟩,
 oM 4 11])
 (.seq (.seq (.ops [
 oM 12 0,
 oO 13 (.bin .neq (.t 12) (.c (.int .i64 0))),
 oM 14 13,
 oG 15 (.mv (.t 0)) 14 true,
 oG 16 (.bin .neq (.t 15) (.c (.int .i64 1))) 14 true,
 oO 17 (.pick (.t 14) (.t 16) (.c (.bool false)))])
 (.cond (.t 17)
 (.seq (.ops [
 oO 18 (.build [.int .u64 0, .int .u64 0, .int .u64 0, .int .u64 0] []),
 ⟨none, .stA 1 4 4 (.t 2) (.t 18), none⟩])
 .ret)
 .skip))
 (.seq (.ops [
 oO 19 (.load 4 true (.t 3)),
 ⟨none, .stA 1 4 4 (.t 2) (.t 19), none⟩])
 .ret))))⟩
theorem K_witanref01_Prime : chkFun DK Pg Try.f92 A_witanref01_Prime = true := by kernel_rfl
theorem B_witanref01_Prime {args : List AV} {m : Mem} {K : AV → Mem → Prop} (h : vcFun DK Pg A_witanref01_Prime args m K) : ACall Pg F_witanref01_Prime args m K := call_body mixed Try.func92 (by kernel_rfl) K_witanref01_Prime h

noncomputable def A_witanref01_mul : AFun := ⟨2, 8, [.cell 4 4 true],
 (.seq (.ops [
 oO 2 (.box 1 4 (.t 0)),
 oO 3 (.box 1 4 (.t 1)),
 oO 4 (.alloc 1 4 [.int .u64 0])])
 (.seq (.ops [
 oO 5 (.load 4 true (.t 2)),
 oO 6 (.load 4 true (.t 3)),
 oK 7 F_witanref01_FMul [.c (.int .i64 0), .t 5, .t 6],
 ⟨none, .stA 1 4 4 (.t 4) (.t 7), none⟩])
 .ret))⟩
theorem K_witanref01_mul : chkFun DK Pg Try.f93 A_witanref01_mul = true := by kernel_rfl
theorem B_witanref01_mul {args : List AV} {m : Mem} {K : AV → Mem → Prop} (h : vcFun DK Pg A_witanref01_mul args m K) : ACall Pg F_witanref01_mul args m K := call_body mixed Try.func93 (by kernel_rfl) K_witanref01_mul h

noncomputable def A_witanref01_add : AFun := ⟨2, 8, [.cell 4 4 true],
 (.seq (.ops [
 oO 2 (.box 1 4 (.t 0)),
 oO 3 (.box 1 4 (.t 1)),
 oO 4 (.alloc 1 4 [.int .u64 0])])
 (.seq (.ops [
 oO 5 (.load 4 true (.t 2)),
 oO 6 (.load 4 true (.t 3)),
 oK 7 F_witanref01_FAdd [.c (.int .i64 0), .t 5, .t 6],
 ⟨none, .stA 1 4 4 (.t 4) (.t 7), none⟩])
 .ret))⟩
theorem K_witanref01_add : chkFun DK Pg Try.f94 A_witanref01_add = true := by kernel_rfl
theorem B_witanref01_add {args : List AV} {m : Mem} {K : AV → Mem → Prop} (h : vcFun DK Pg A_witanref01_add args m K) : ACall Pg F_witanref01_add args m K := call_body mixed Try.func94 (by kernel_rfl) K_witanref01_add h

noncomputable def A_witanref01_down : AFun := ⟨1, 27, [.cell 2 9 true],
 (.seq (.ops [
 oO 1 (.box 12 1 (.t 0)),
 oO 2 (.alloc 9 1 [.bool false, .int .u64 0, .int .u64 0, .int .u64 0, .int .u64 0, .int .u64 0, .int .u64 0, .int .u64 0, .int .u64 0])])
 (.seq (.seq (.ops [
 oO 5 (.fldA 8 (.t 1)),
 oO 6 (.load 4 true (.t 5)),
 oO 7 (.build [.int .u64 0, .int .u64 0, .int .u64 0, .int .u64 0] []),
 oO 8 (.eqa [.i, .i, .i, .i] false (.t 6) (.t 7))])
 (.cond (.t 8)
 (.seq (.ops [
 oK 9 F_witanref01_Inf [],
 ⟨none, .stA 9 1 9 (.t 2) (.t 9), none⟩])
 .ret)
 .skip))
 (.seq (.ops [
 oO 10 (.fldA 8 (.t 1)),
 oO 11 (.load 4 true (.t 10)),
 oK 12 F_witanref01_Inv [.c (.int .i64 0), .t 11],
 oO 3 (.alloc 1 4 [.int .u64 0]),
 ⟨none, .stA 1 4 4 (.t 3) (.t 12), none⟩])
 (.seq (.ops [
 oO 13 (.load 4 true (.t 3)),
 oO 14 (.load 4 true (.t 3)),
 oK 15 F_witanref01_mul [.t 13, .t 14],
 oO 4 (.alloc 1 4 [.int .u64 0]),
 ⟨none, .stA 1 4 4 (.t 4) (.t 15), none⟩])
 (.seq (.draw [
 oO 16 (.fldA 0 (.t 1)),
 oO 17 (.load 4 true (.t 16)),
 oO 18 (.load 4 true (.t 4)),
 oK 19 F_witanref01_mul [.t 17, .t 18],
 oO 20 (.fldA 4 (.t 1)),
 oO 21 (.load 4 true (.t 20)),
 oO 22 (.load 4 true (.t 4)),
 oO 23 (.load 4 true (.t 3)),
 oK 24 F_witanref01_mul [.t 22, .t 23],
 oK 25 F_witanref01_mul [.t 21, .t 24],
 oO 26 (.build [.bool false, .int .u64 0, .int .u64 0, .int .u64 0, .int .u64 0, .int .u64 0, .int .u64 0, .int .u64 0, .int .u64 0] [(1, 4, .t 19), (5, 4, .t 25)]),
 ⟨none, .stA 9 1 9 (.t 2) (.t 26), none⟩] ⟨.all, [], .look 0 (.look 1 (.look 2 (.look 4 (.look 5 (.look 6 (.look 7 (.run 3 true (.run 8 true (.run 9 true (.look 10 (.run 11 false .done)))))))))))⟩)
 .ret)))))⟩
theorem K_witanref01_down : chkFun DK Pg Try.f95 A_witanref01_down = true := by kernel_rfl
theorem B_witanref01_down {args : List AV} {m : Mem} {K : AV → Mem → Prop} (h : vcFun DK Pg A_witanref01_down args m K) : ACall Pg F_witanref01_down args m K := call_body mixed Try.func95 (by kernel_rfl) K_witanref01_down h

noncomputable def A_witanref01_times : AFun := ⟨2, 24, [.cell 4 12 true],
 (.seq (.ops [
 oO 2 (.box 1 4 (.t 0)),
 oO 3 (.box 9 1 (.t 1)),
 oO 4 (.alloc 12 1 (List.replicate 12 (.int .u64 0)))])
 (.seq (.ops [
 oK 7 F_witanref01_Inf [],
 oK 8 F_witanref01_up [.t 7],
 oO 5 (.alloc 12 1 (List.replicate 12 (.int .u64 0))),
 ⟨none, .stA 12 1 12 (.t 5) (.t 8), none⟩])
 (.seq (.seq (.ops [
 oO 6 (.mv (.c (.int .i64 255)))])
 (.block 0
 (.loop
 (.seq (.seq (.ops [
 oM 9 6,
 oO 10 (.bin .geq (.t 9) (.c (.int .i64 0)))])
 (.cond (.t 10)
 .skip
 (.exit 0)))
 (.seq (.block 1
 (.seq (.ops [
 oO 13 (.load 12 true (.t 5)),
 oK 14 F_witanref01_twice [.t 13],
 ⟨none, .stA 12 1 12 (.t 5) (.t 14), none⟩])
 (.seq (.ops [
 oO 15 (.load 4 true (.t 2)),
 oM 16 6,
 oK 17 F_witanref01_Bit [.t 15, .t 16],
 oO 18 (.bin .eql (.t 17) (.c (.int .i64 1)))])
 (.cond (.t 18)
 (.draw [
 oO 19 (.load 12 true (.t 5)),
 oO 20 (.load 9 true (.t 3)),
 oK 21 F_witanref01_up [.t 20],
 oK 22 F_witanref01_plus [.t 19, .t 21],
 ⟨none, .stA 12 1 12 (.t 5) (.t 22), none⟩] ⟨.all, [], .look 0 (.look 1 (.run 2 true (.run 3 false (.run 4 false .done))))⟩)
 .skip))))
 (.ops [
 oM 11 6,
 oO 12 (.bin .sub (.t 11) (.c (.int .i64 1))),
 oM 6 12]))))))
 (.seq (.ops [
 oO 23 (.load 12 true (.t 5)),
 ⟨none, .stA 12 1 12 (.t 4) (.t 23), none⟩])
 .ret))))⟩
theorem K_witanref01_times : chkFun DK Pg Try.f96 A_witanref01_times = true := by kernel_rfl
theorem B_witanref01_times {args : List AV} {m : Mem} {K : AV → Mem → Prop} (h : vcFun DK Pg A_witanref01_times args m K) : ACall Pg F_witanref01_times args m K := call_body mixed Try.func96 (by kernel_rfl) K_witanref01_times h

noncomputable def A_witanref01_Bytes : AFun := ⟨1, 24, [.cell 2 32 true],
 (.seq (.ops [
 oO 1 (.box 1 4 (.t 0)),
 oO 2 (.alloc 1 32 [.int .u8 0])])
 (.seq (.ops [
 oO 3 (.alloc 1 32 [.int .u8 0])])
 (.seq (.seq (.ops [
 oO 4 (.mv (.c (.int .i64 0)))])
 (.block 0
 (.loop
 (.seq (.seq (.ops [
 oM 5 4,
 oO 6 (.bin .lss (.t 5) (.c (.int .i64 32)))])
 (.cond (.t 6)
 .skip
 (.exit 0)))
 (.seq (.block 1
 (.ops [
 oM 9 4,
 oM 10 4,
 oO 11 (.bin .quo (.t 10) (.c (.int .i64 8))),
 oO 12 (.binF .sub (.c (.int .i64 3)) (.t 11)),
 oO 13 (.idxP 4 1 (.t 1) (.t 12)),
 oO 14 (.load 1 false (.t 13)),
 oM 15 4,
 oO 16 (.bin .rem (.t 15) (.c (.int .i64 8))),
 oO 17 (.binF .mul (.c (.int .i64 8)) (.t 16)),
 oO 18 (.binF .sub (.c (.int .i64 56)) (.t 17)),
 oO 19 (.conv .u64 (.t 18)),
 oO 20 (.bin .shr (.t 14) (.t 19)),
 oO 21 (.conv .u8 (.t 20)),
 oO 22 (.idxP 32 1 (.t 3) (.t 9)),
 ⟨none, .stA 1 32 1 (.t 22) (.t 21), none⟩]))
 (.ops [
 oM 7 4,
 oO 8 (.binF .add (.t 7) (.c (.int .i64 1))),
 oM 4 8]))))))
 (.seq (.ops [
 oO 23 (.load 32 true (.t 3)),
 ⟨none, .stA 1 32 32 (.t 2) (.t 23), none⟩])
 .ret))))⟩
theorem K_witanref01_Bytes : chkFun DK Pg Try.f97 A_witanref01_Bytes = true := by kernel_rfl
theorem B_witanref01_Bytes {args : List AV} {m : Mem} {K : AV → Mem → Prop} (h : vcFun DK Pg A_witanref01_Bytes args m K) : ACall Pg F_witanref01_Bytes args m K := call_body mixed Try.func97 (by kernel_rfl) K_witanref01_Bytes h

noncomputable def A_witanref06_stream : AFun := ⟨3, 20, [.t 6],
 (.seq (.ops [
 oO 3 (.box 9 1 (.t 0)),
 oO 6 (.mv (.c (.nils)))])
 (.seq (.ops [
 oO 7 (.mv (.c (.nils)))])
 (.seq (.ops [
 oM 8 7,
 oO 9 (.load 9 true (.t 3)),
 oK 10 F_witanref01_PointBytes [.t 9],
 oO 11 (.app 1 1 (.t 8) (.t 10)),
 oM 12 1,
 oO 13 (.conv .u8 (.t 12)),
 oM 14 2,
 oO 15 (.conv .u8 (.t 14)),
 oO 16 (.bsl 1 2 [.int .u8 0] [(0, 1, .t 13), (1, 1, .t 15)]),
 oO 17 (.app 1 1 (.t 11) (.t 16)),
 oM 7 17])
 (.seq (.ops [
 oM 18 7,
 oK 19 F_witanref04_Stream [.t 18, .c (.int .i64 32)],
 oM 6 19])
 .ret))))⟩
theorem K_witanref06_stream : chkFun DK Pg Try.f98 A_witanref06_stream = true := by kernel_rfl
theorem B_witanref06_stream {args : List AV} {m : Mem} {K : AV → Mem → Prop} (h : vcFun DK Pg A_witanref06_stream args m K) : ACall Pg F_witanref06_stream args m K := call_body mixed Try.func98 (by kernel_rfl) K_witanref06_stream h

noncomputable def A_dleq_challenge : AFun := ⟨1, 33, [.cell 2 4 true, .t 3],
 (.seq (.ops [
 oO 2 (.alloc 1 4 [.int .u64 0]),
 oO 3 (.mv (.c (.int .i64 0)))])
 (.seq (.ops [
 oO 4 (.mv (.c (.nils)))])
 (.seq (.seq (.ops [
 oM 9 0,
 oO 10 (.len (.t 9)),
 oO 11 (.mv (.c (.int .i64 0)))])
 (.block 0
 (.loop
 (.seq (.ops [
 oO 12 (.bin .lss (.t 11) (.t 10))])
 (.seq (.cond (.t 12)
 .skip
 (.exit 0))
 (.seq (.block 1
 (.seq (.ops [
 oO 13 (.idxA 9 (.t 9) (.t 11)),
 oO 14 (.load 9 true (.t 13)),
 oO 6 (.alloc 9 1 [.bool false, .int .u64 0, .int .u64 0, .int .u64 0, .int .u64 0, .int .u64 0, .int .u64 0, .int .u64 0, .int .u64 0]),
 ⟨none, .stA 9 1 9 (.t 6) (.t 14), none⟩])
 (.seq (.ops [
 oO 16 (.load 9 true (.t 6)),
 oK 17 F_curve_Bytes [.t 16],
 oM 15 17,
 oO 18 (.ext (.t 15) 0),
 oO 19 (.ext (.t 15) 1),
 oM 7 18,
 oM 8 19])
 (.seq (.seq (.ops [
 oM 20 8,
 oO 21 (.bin .neq (.t 20) (.c (.int .i64 0)))])
 (.cond (.t 21)
 (.seq (.ops [
 oO 22 (.build [.int .u64 0, .int .u64 0, .int .u64 0, .int .u64 0] []),
 oM 23 8,
 ⟨none, .stA 1 4 4 (.t 2) (.t 22), none⟩,
 oM 3 23])
 .ret)
 .skip))
 (.ops [
 oM 24 4,
 oM 25 7,
 oO 26 (.bsl 1 1 [.nils] [(0, 1, .t 25)]),
 oO 27 (.app 1 24 (.t 24) (.t 26)),
 oM 4 27])))))
 (.ops [
 oO 28 (.bin .add (.t 11) (.c (.int .i64 1))),
 oM 11 28])))))))
 (.seq (.ops [
 oM 29 4,
 ⟨some 30, .call (.c (.fn F_draw_Scalar [])) [.c (.str ⟨#[100, 108, 101, 113]⟩), .t 29], none⟩,
 oO 31 (.ext (.t 30) 0),
 oO 32 (.ext (.t 30) 1),
 ⟨none, .stA 1 4 4 (.t 2) (.t 31), none⟩,
 oM 3 32])
 .ret))))⟩
theorem K_dleq_challenge : chkFun DK Pg Try.f99 A_dleq_challenge = true := by kernel_rfl
theorem B_dleq_challenge {args : List AV} {m : Mem} {K : AV → Mem → Prop} (h : vcFun DK Pg A_dleq_challenge args m K) : ACall Pg F_dleq_challenge args m K := call_body mixed Try.func99 (by kernel_rfl) K_dleq_challenge h

noncomputable def A_witanref06_challenge : AFun := ⟨1, 27, [.cell 2 4 true],
 (.seq (.ops [
 oO 2 (.alloc 1 4 [.int .u64 0])])
 (.seq (.ops [
 oO 3 (.mv (.c (.nils)))])
 (.seq (.seq (.ops [
 oO 4 (.mv (.c (.int .i64 0)))])
 (.block 0
 (.loop
 (.seq (.seq (.ops [
 oM 7 4,
 oM 8 0,
 oO 9 (.len (.t 8)),
 oO 10 (.bin .lss (.t 7) (.t 9))])
 (.cond (.t 10)
 .skip
 (.exit 0)))
 (.seq (.block 1
 (.ops [
 oM 13 3,
 oM 14 0,
 oM 15 4,
 oO 16 (.idxA 9 (.t 14) (.t 15)),
 oO 17 (.load 9 true (.t 16)),
 oK 18 F_witanref01_PointBytes [.t 17],
 oO 19 (.bsl 1 1 [.nils] [(0, 1, .t 18)]),
 oO 20 (.app 1 24 (.t 13) (.t 19)),
 oM 3 20]))
 (.ops [
 oM 11 4,
 oO 12 (.bin .add (.t 11) (.c (.int .i64 1))),
 oM 4 12]))))))
 (.seq (.ops [
 oM 22 3,
 ⟨some 23, .call (.c (.fn F_witanref04_Scalar [])) [.c (.str ⟨#[100, 108, 101, 113]⟩), .t 22], none⟩,
 oM 21 23,
 oO 24 (.ext (.t 21) 0),
 oO 25 (.ext (.t 21) 1),
 oO 5 (.alloc 1 4 [.int .u64 0]),
 ⟨none, .stA 1 4 4 (.t 5) (.t 24), none⟩,
 oM 6 25])
 (.seq (.ops [
 oO 26 (.load 4 true (.t 5)),
 ⟨none, .stA 1 4 4 (.t 2) (.t 26), none⟩])
 .ret)))))⟩
theorem K_witanref06_challenge : chkFun DK Pg Try.f100 A_witanref06_challenge = true := by kernel_rfl
theorem B_witanref06_challenge {args : List AV} {m : Mem} {K : AV → Mem → Prop} (h : vcFun DK Pg A_witanref06_challenge args m K) : ACall Pg F_witanref06_challenge args m K := call_body mixed Try.func100 (by kernel_rfl) K_witanref06_challenge h

noncomputable def A_witanref01_Base : AFun := ⟨1, 6, [.cell 2 9 true],
 (.seq (.ops [
 oO 1 (.box 1 4 (.t 0)),
 oO 2 (.alloc 9 1 [.bool false, .int .u64 0, .int .u64 0, .int .u64 0, .int .u64 0, .int .u64 0, .int .u64 0, .int .u64 0, .int .u64 0])])
 (.seq (.draw [
 oO 3 (.load 4 true (.t 1)),
 oK 4 F_witanref01_G [],
 oK 5 F_witanref01_Times [.t 3, .t 4],
 ⟨none, .stA 9 1 9 (.t 2) (.t 5), none⟩] ⟨.all, [], .look 0 (.run 1 true (.run 2 false (.run 3 false .done)))⟩)
 .ret))⟩
theorem K_witanref01_Base : chkFun DK Pg Try.f101 A_witanref01_Base = true := by kernel_rfl
theorem B_witanref01_Base {args : List AV} {m : Mem} {K : AV → Mem → Prop} (h : vcFun DK Pg A_witanref01_Base args m K) : ACall Pg F_witanref01_Base args m K := call_body mixed Try.func101 (by kernel_rfl) K_witanref01_Base h

noncomputable def A_witanref06_sub : AFun := ⟨2, 8, [.cell 4 4 true],
 (.seq (.ops [
 oO 2 (.box 1 4 (.t 0)),
 oO 3 (.box 1 4 (.t 1)),
 oO 4 (.alloc 1 4 [.int .u64 0])])
 (.seq (.ops [
 oO 5 (.load 4 true (.t 2)),
 oO 6 (.load 4 true (.t 3)),
 oK 7 F_witanref01_FSub [.c (.int .i64 1), .t 5, .t 6],
 ⟨none, .stA 1 4 4 (.t 4) (.t 7), none⟩])
 .ret))⟩
theorem K_witanref06_sub : chkFun DK Pg Try.f102 A_witanref06_sub = true := by kernel_rfl
theorem B_witanref06_sub {args : List AV} {m : Mem} {K : AV → Mem → Prop} (h : vcFun DK Pg A_witanref06_sub args m K) : ACall Pg F_witanref06_sub args m K := call_body mixed Try.func102 (by kernel_rfl) K_witanref06_sub h

noncomputable def A_witanref06_mul : AFun := ⟨2, 8, [.cell 4 4 true],
 (.seq (.ops [
 oO 2 (.box 1 4 (.t 0)),
 oO 3 (.box 1 4 (.t 1)),
 oO 4 (.alloc 1 4 [.int .u64 0])])
 (.seq (.ops [
 oO 5 (.load 4 true (.t 2)),
 oO 6 (.load 4 true (.t 3)),
 oK 7 F_witanref01_FMul [.c (.int .i64 1), .t 5, .t 6],
 ⟨none, .stA 1 4 4 (.t 4) (.t 7), none⟩])
 .ret))⟩
theorem K_witanref06_mul : chkFun DK Pg Try.f103 A_witanref06_mul = true := by kernel_rfl
theorem B_witanref06_mul {args : List AV} {m : Mem} {K : AV → Mem → Prop} (h : vcFun DK Pg A_witanref06_mul args m K) : ACall Pg F_witanref06_mul args m K := call_body mixed Try.func103 (by kernel_rfl) K_witanref06_mul h

noncomputable def A_curve_Add : AFun := ⟨2, 21, [.cell 4 9 true, .t 5],
 (.seq (.ops [
 oO 2 (.box 9 1 (.t 0)),
 oO 3 (.box 9 1 (.t 1)),
 oO 4 (.alloc 9 1 [.bool false, .int .u64 0, .int .u64 0, .int .u64 0, .int .u64 0, .int .u64 0, .int .u64 0, .int .u64 0, .int .u64 0]),
 oO 5 (.mv (.c (.int .i64 0)))])
 (.seq (.seq (.ops [
 oO 6 (.load 9 true (.t 2)),
 oK 7 F_curve_Check [.t 6],
 oO 8 (.bin .neq (.t 7) (.c (.int .i64 0))),
 oM 9 8,
 oG 10 (.load 9 true (.t 3)) 9 false,
 oG 11 (.call (.c (.fn F_curve_Check [])) [.t 10]) 9 false,
 oG 12 (.bin .neq (.t 11) (.c (.int .i64 0))) 9 false,
 oO 13 (.pick (.t 9) (.c (.bool true)) (.t 12))])
 (.cond (.t 13)
 (.seq (.ops [
 oO 14 (.build [.bool false, .int .u64 0, .int .u64 0, .int .u64 0, .int .u64 0, .int .u64 0, .int .u64 0, .int .u64 0, .int .u64 0] []),
 ⟨none, .stA 9 1 9 (.t 4) (.t 14), none⟩,
 oO 5 (.mv (.c (.int .i64 3)))])
 .ret)
 .skip))
 (.seq (.draw [
 oO 15 (.load 9 true (.t 2)),
 oK 16 F_curve_spread [.t 15],
 oO 17 (.load 9 true (.t 3)),
 oK 18 F_curve_spread [.t 17],
 oK 19 F_curve_jac_plus [.t 16, .t 18],
 oK 20 F_curve_jac_point [.t 19],
 ⟨none, .stA 9 1 9 (.t 4) (.t 20), none⟩,
 oO 5 (.mv (.c (.int .i64 0)))] ⟨.all, [], .look 0 (.look 2 (.run 1 true (.run 3 false (.run 4 false (.run 5 false (.run 6 false (.look 7 .done)))))))⟩)
 .ret)))⟩
theorem K_curve_Add : chkFun DK Pg Try.f104 A_curve_Add = true := by kernel_rfl
theorem B_curve_Add {args : List AV} {m : Mem} {K : AV → Mem → Prop} (h : vcFun DK Pg A_curve_Add args m K) : ACall Pg F_curve_Add args m K := call_body mixed Try.func104 (by kernel_rfl) K_curve_Add h

noncomputable def A_dleq_times : AFun := ⟨2, 14, [.cell 4 9 true],
 (.seq (.ops [
 oO 2 (.box 1 4 (.t 0)),
 oO 3 (.box 9 1 (.t 1)),
 oO 4 (.alloc 9 1 [.bool false, .int .u64 0, .int .u64 0, .int .u64 0, .int .u64 0, .int .u64 0, .int .u64 0, .int .u64 0, .int .u64 0])])
 (.seq (.ops [
 oO 8 (.load 4 true (.t 2)),
 oO 9 (.load 9 true (.t 3)),
 oK 10 F_curve_Times [.t 8, .t 9],
 oM 7 10,
 oO 11 (.ext (.t 7) 0),
 oO 12 (.ext (.t 7) 1),
 oO 5 (.alloc 9 1 [.bool false, .int .u64 0, .int .u64 0, .int .u64 0, .int .u64 0, .int .u64 0, .int .u64 0, .int .u64 0, .int .u64 0]),
 ⟨none, .stA 9 1 9 (.t 5) (.t 11), none⟩,
 oM 6 12])
 (.seq (.ops [
 oO 13 (.load 9 true (.t 5)),
 ⟨none, .stA 9 1 9 (.t 4) (.t 13), none⟩])
 .ret)))⟩
theorem K_dleq_times : chkFun DK Pg Try.f105 A_dleq_times = true := by kernel_rfl
theorem B_dleq_times {args : List AV} {m : Mem} {K : AV → Mem → Prop} (h : vcFun DK Pg A_dleq_times args m K) : ACall Pg F_dleq_times args m K := call_body mixed Try.func105 (by kernel_rfl) K_dleq_times h

noncomputable def A_witanref06_Below : AFun := ⟨1, 17, [.t 2],
 (.seq (.ops [
 oO 1 (.box 8 1 (.t 0)),
 oO 2 (.mv (.c (.bool false)))])
 (.seq (.ops [
 oK 4 F_witanref01_Prime [.c (.int .i64 1)],
 oO 3 (.alloc 1 4 [.int .u64 0]),
 ⟨none, .stA 1 4 4 (.t 3) (.t 4), none⟩])
 (.seq (.ops [
 oO 5 (.fldA 0 (.t 1)),
 oO 6 (.load 4 true (.t 5)),
 oO 7 (.load 4 true (.t 3)),
 oK 8 F_witanref01_Cmp [.t 6, .t 7],
 oO 9 (.bin .lss (.t 8) (.c (.int .i64 0))),
 oM 10 9,
 oG 11 (.fldA 4 (.t 1)) 10 true,
 oG 12 (.load 4 true (.t 11)) 10 true,
 oG 13 (.load 4 true (.t 3)) 10 true,
 oG 14 (.call (.c (.fn F_witanref01_Cmp [])) [.t 12, .t 13]) 10 true,
 oG 15 (.bin .lss (.t 14) (.c (.int .i64 0))) 10 true,
 oO 16 (.pick (.t 10) (.t 15) (.c (.bool false))),
 oM 2 16])
 .ret)))⟩
theorem K_witanref06_Below : chkFun DK Pg Try.f106 A_witanref06_Below = true := by kernel_rfl
theorem B_witanref06_Below {args : List AV} {m : Mem} {K : AV → Mem → Prop} (h : vcFun DK Pg A_witanref06_Below args m K) : ACall Pg F_witanref06_Below args m K := call_body mixed Try.func106 (by kernel_rfl) K_witanref06_Below h

noncomputable def A_witanref01_Two : AFun := ⟨4, 17, [.cell 8 9 true],
 (.seq (.ops [
 oO 4 (.box 1 4 (.t 0)),
 oO 5 (.box 9 1 (.t 1)),
 oO 6 (.box 1 4 (.t 2)),
 oO 7 (.box 9 1 (.t 3)),
 oO 8 (.alloc 9 1 [.bool false, .int .u64 0, .int .u64 0, .int .u64 0, .int .u64 0, .int .u64 0, .int .u64 0, .int .u64 0, .int .u64 0])])
 (.seq (.draw [
 oO 9 (.load 4 true (.t 4)),
 oO 10 (.load 9 true (.t 5)),
 oK 11 F_witanref01_times [.t 9, .t 10],
 oO 12 (.load 4 true (.t 6)),
 oO 13 (.load 9 true (.t 7)),
 oK 14 F_witanref01_times [.t 12, .t 13],
 oK 15 F_witanref01_plus [.t 11, .t 14],
 oK 16 F_witanref01_down [.t 15],
 ⟨none, .stA 9 1 9 (.t 8) (.t 16), none⟩] ⟨.all, [], .look 0 (.look 1 (.look 3 (.look 4 (.run 2 true (.run 5 false (.run 6 false (.run 7 false (.run 8 false .done))))))))⟩)
 .ret))⟩
theorem K_witanref01_Two : chkFun DK Pg Try.f107 A_witanref01_Two = true := by kernel_rfl
theorem B_witanref01_Two {args : List AV} {m : Mem} {K : AV → Mem → Prop} (h : vcFun DK Pg A_witanref01_Two args m K) : ACall Pg F_witanref01_Two args m K := call_body mixed Try.func107 (by kernel_rfl) K_witanref01_Two h

noncomputable def A_witanref01_G : AFun := ⟨0, 4, [.cell 0 9 true],
 (.seq (.ops [
 oO 0 (.alloc 9 1 [.bool false, .int .u64 0, .int .u64 0, .int .u64 0, .int .u64 0, .int .u64 0, .int .u64 0, .int .u64 0, .int .u64 0])])
 (.seq (.ops [
 oO 1 (.build [.int .u64 0, .int .u64 0, .int .u64 0, .int .u64 0] [(0, 1, .c (.int .u64 6481385041966929816)), (1, 1, .c (.int .u64 188021827762530521)), (2, 1, .c (.int .u64 6170039885052185351)), (3, 1, .c (.int .u64 8772561819708210092))]),
 oO 2 (.build [.int .u64 0, .int .u64 0, .int .u64 0, .int .u64 0] [(0, 1, .c (.int .u64 11261198710074299576)), (1, 1, .c (.int .u64 18237243440184513561)), (2, 1, .c (.int .u64 6747795201694173352)), (3, 1, .c (.int .u64 5204712524664259685))]),
 oO 3 (.build [.bool false, .int .u64 0, .int .u64 0, .int .u64 0, .int .u64 0, .int .u64 0, .int .u64 0, .int .u64 0, .int .u64 0] [(1, 4, .t 1), (5, 4, .t 2)]),
 ⟨none, .stA 9 1 9 (.t 0) (.t 3), none⟩])
 .ret))⟩
theorem K_witanref01_G : chkFun DK Pg Try.f108 A_witanref01_G = true := by kernel_rfl
theorem B_witanref01_G {args : List AV} {m : Mem} {K : AV → Mem → Prop} (h : vcFun DK Pg A_witanref01_G args m K) : ACall Pg F_witanref01_G args m K := call_body mixed Try.func108 (by kernel_rfl) K_witanref01_G h

noncomputable def A_curve_jac_plus : AFun := ⟨2, 126, [.cell 4 12 true],
 (.seq (.ops [
 oO 2 (.box 12 1 (.t 0)),
 oO 3 (.box 12 1 (.t 1)),
 oO 4 (.alloc 12 1 (List.replicate 12 (.int .u64 0)))])
 (.seq (.ops [
 oO 19 (.build [.int .u64 0, .int .u64 0, .int .u64 0, .int .u64 0] []),
 oO 5 (.alloc 1 4 [.int .u64 0]),
 ⟨none, .stA 1 4 4 (.t 5) (.t 19), none⟩])
 (.seq (.block 0
 (.seq (.ops [
 oO 21 (.fldA 8 (.t 2)),
 oO 22 (.load 4 true (.t 21)),
 oO 23 (.load 4 true (.t 5)),
 oO 24 (.eqa [.i, .i, .i, .i] false (.t 22) (.t 23)),
 oM 20 24])
 (.cond (.t 20)
 (.seq (.ops [
 oO 25 (.load 12 true (.t 3)),
 ⟨none, .stA 12 1 12 (.t 4) (.t 25), none⟩])
 .ret)
 (.seq (.ops [
 oO 27 (.fldA 8 (.t 3)),
 oO 28 (.load 4 true (.t 27)),
 oO 29 (.load 4 true (.t 5)),
 oO 30 (.eqa [.i, .i, .i, .i] false (.t 28) (.t 29)),
 oM 26 30])
 (.cond (.t 26)
 (.seq (.ops [
 oO 31 (.load 12 true (.t 2)),
 ⟨none, .stA 12 1 12 (.t 4) (.t 31), none⟩])
 .ret)
 .skip)))))
 (.seq (.draw [
 oO 32 (.fldA 8 (.t 2)),
 oO 33 (.load 4 true (.t 32)),
 oO 34 (.fldA 8 (.t 2)),
 oO 35 (.load 4 true (.t 34)),
 oK 36 F_curve_mul [.t 33, .t 35],
 oO 37 (.fldA 8 (.t 3)),
 oO 38 (.load 4 true (.t 37)),
 oO 39 (.fldA 8 (.t 3)),
 oO 40 (.load 4 true (.t 39)),
 oK 41 F_curve_mul [.t 38, .t 40],
 oO 6 (.alloc 1 4 [.int .u64 0]),
 oO 7 (.alloc 1 4 [.int .u64 0]),
 oS 4 6 36,
 oS 4 7 41] ⟨.all, [(10, some 12), (11, some 13)], .look 0 (.look 1 (.look 2 (.look 3 (.look 5 (.look 6 (.look 7 (.look 8 (.run 4 true (.pre 10 12 (.run 9 true (.pre 11 13 (.fill .done))))))))))))⟩)
 (.seq (.draw [
 oO 42 (.fldA 0 (.t 2)),
 oO 43 (.load 4 true (.t 42)),
 oO 44 (.load 4 true (.t 7)),
 oK 45 F_curve_mul [.t 43, .t 44],
 oO 46 (.fldA 0 (.t 3)),
 oO 47 (.load 4 true (.t 46)),
 oO 48 (.load 4 true (.t 6)),
 oK 49 F_curve_mul [.t 47, .t 48],
 oO 8 (.alloc 1 4 [.int .u64 0]),
 oO 9 (.alloc 1 4 [.int .u64 0]),
 oS 4 8 45,
 oS 4 9 49] ⟨.all, [(8, some 10), (9, some 11)], .look 0 (.look 1 (.look 2 (.look 4 (.look 5 (.look 6 (.run 3 true (.pre 8 10 (.run 7 true (.pre 9 11 (.fill .done))))))))))⟩)
 (.seq (.draw [
 oO 50 (.fldA 4 (.t 2)),
 oO 51 (.load 4 true (.t 50)),
 oO 52 (.load 4 true (.t 7)),
 oO 53 (.fldA 8 (.t 3)),
 oO 54 (.load 4 true (.t 53)),
 oK 55 F_curve_mul [.t 52, .t 54],
 oK 56 F_curve_mul [.t 51, .t 55],
 oO 57 (.fldA 4 (.t 3)),
 oO 58 (.load 4 true (.t 57)),
 oO 59 (.load 4 true (.t 6)),
 oO 60 (.fldA 8 (.t 2)),
 oO 61 (.load 4 true (.t 60)),
 oK 62 F_curve_mul [.t 59, .t 61],
 oK 63 F_curve_mul [.t 58, .t 62],
 oO 10 (.alloc 1 4 [.int .u64 0]),
 oO 11 (.alloc 1 4 [.int .u64 0]),
 oS 4 10 56,
 oS 4 11 63] ⟨.all, [(14, some 16), (15, some 17)], .look 0 (.look 1 (.look 2 (.look 3 (.look 4 (.look 7 (.look 8 (.look 9 (.look 10 (.look 11 (.run 5 true (.run 6 true (.pre 14 16 (.run 12 true (.run 13 true (.pre 15 17 (.fill .done))))))))))))))))⟩)
 (.seq (.draw [
 oO 64 (.load 4 true (.t 9)),
 oO 65 (.load 4 true (.t 8)),
 oK 66 F_curve_sub [.t 64, .t 65],
 oO 67 (.load 4 true (.t 11)),
 oO 68 (.load 4 true (.t 10)),
 oK 69 F_curve_sub [.t 67, .t 68],
 oO 12 (.alloc 1 4 [.int .u64 0]),
 oO 13 (.alloc 1 4 [.int .u64 0]),
 oS 4 12 66,
 oS 4 13 69] ⟨.all, [(6, some 8), (7, some 9)], .look 0 (.look 1 (.look 3 (.look 4 (.run 2 true (.pre 6 8 (.run 5 true (.pre 7 9 (.fill .done))))))))⟩)
 (.seq (.block 1
 (.seq (.ops [
 oO 71 (.load 4 true (.t 12)),
 oO 72 (.load 4 true (.t 5)),
 oO 73 (.eqa [.i, .i, .i, .i] false (.t 71) (.t 72)),
 oM 74 73,
 oG 75 (.load 4 true (.t 13)) 74 true,
 oG 76 (.load 4 true (.t 5)) 74 true,
 oG 77 (.eqa [.i, .i, .i, .i] false (.t 75) (.t 76)) 74 true,
 oO 78 (.pick (.t 74) (.t 77) (.c (.bool false))),
 oM 70 78])
 (.cond (.t 70)
 (.seq (.ops [
 oO 79 (.load 12 true (.t 2)),
 oK 80 F_curve_jac_twice [.t 79],
 ⟨none, .stA 12 1 12 (.t 4) (.t 80), none⟩])
 .ret)
 (.seq (.ops [
 oO 82 (.load 4 true (.t 12)),
 oO 83 (.load 4 true (.t 5)),
 oO 84 (.eqa [.i, .i, .i, .i] false (.t 82) (.t 83)),
 oM 81 84])
 (.cond (.t 81)
 (.seq (.ops [
 oO 85 (.build [.int .u64 0, .int .u64 0, .int .u64 0, .int .u64 0] [(0, 1, .c (.int .u64 1))]),
 oO 86 (.build [.int .u64 0, .int .u64 0, .int .u64 0, .int .u64 0] [(0, 1, .c (.int .u64 1))]),
 oO 87 (.load 4 true (.t 5)),
 oO 88 (.build (List.replicate 12 (.int .u64 0)) [(0, 4, .t 85), (4, 4, .t 86), (8, 4, .t 87)]),
 ⟨none, .stA 12 1 12 (.t 4) (.t 88), none⟩])
 .ret)
 .skip)))))
 (.seq (.ops [
 oO 89 (.load 4 true (.t 12)),
 oO 90 (.load 4 true (.t 12)),
 oK 91 F_curve_mul [.t 89, .t 90],
 oO 14 (.alloc 1 4 [.int .u64 0]),
 ⟨none, .stA 1 4 4 (.t 14) (.t 91), none⟩])
 (.seq (.draw [
 oO 92 (.load 4 true (.t 14)),
 oO 93 (.load 4 true (.t 12)),
 oK 94 F_curve_mul [.t 92, .t 93],
 oO 95 (.load 4 true (.t 8)),
 oO 96 (.load 4 true (.t 14)),
 oK 97 F_curve_mul [.t 95, .t 96],
 oO 15 (.alloc 1 4 [.int .u64 0]),
 oO 16 (.alloc 1 4 [.int .u64 0]),
 oS 4 15 94,
 oS 4 16 97] ⟨.all, [(6, some 8), (7, some 9)], .look 0 (.look 1 (.look 3 (.look 4 (.run 2 true (.pre 6 8 (.run 5 true (.pre 7 9 (.fill .done))))))))⟩)
 (.seq (.draw [
 oO 98 (.load 4 true (.t 13)),
 oO 99 (.load 4 true (.t 13)),
 oK 100 F_curve_mul [.t 98, .t 99],
 oO 101 (.load 4 true (.t 15)),
 oK 102 F_curve_sub [.t 100, .t 101],
 oO 103 (.load 4 true (.t 16)),
 oO 104 (.load 4 true (.t 16)),
 oK 105 F_curve_add [.t 103, .t 104],
 oK 106 F_curve_sub [.t 102, .t 105],
 oO 17 (.alloc 1 4 [.int .u64 0]),
 oS 4 17 106] ⟨.all, [(9, some 10)], .look 0 (.look 1 (.look 3 (.look 5 (.look 6 (.run 2 true (.run 4 true (.run 7 true (.run 8 true (.pre 9 10 (.fill .done))))))))))⟩)
 (.seq (.draw [
 oO 107 (.load 4 true (.t 13)),
 oO 108 (.load 4 true (.t 16)),
 oO 109 (.load 4 true (.t 17)),
 oK 110 F_curve_sub [.t 108, .t 109],
 oK 111 F_curve_mul [.t 107, .t 110],
 oO 112 (.load 4 true (.t 10)),
 oO 113 (.load 4 true (.t 15)),
 oK 114 F_curve_mul [.t 112, .t 113],
 oK 115 F_curve_sub [.t 111, .t 114],
 oO 18 (.alloc 1 4 [.int .u64 0]),
 oS 4 18 115] ⟨.all, [(9, some 10)], .look 0 (.look 1 (.look 2 (.look 5 (.look 6 (.run 3 true (.run 4 true (.run 7 true (.run 8 true (.pre 9 10 (.fill .done))))))))))⟩)
 (.seq (.draw [
 oO 116 (.load 4 true (.t 17)),
 oO 117 (.load 4 true (.t 18)),
 oO 118 (.load 4 true (.t 12)),
 oO 119 (.fldA 8 (.t 2)),
 oO 120 (.load 4 true (.t 119)),
 oO 121 (.fldA 8 (.t 3)),
 oO 122 (.load 4 true (.t 121)),
 oK 123 F_curve_mul [.t 120, .t 122],
 oK 124 F_curve_mul [.t 118, .t 123],
 oO 125 (.build (List.replicate 12 (.int .u64 0)) [(0, 4, .t 116), (4, 4, .t 117), (8, 4, .t 124)]),
 ⟨none, .stA 12 1 12 (.t 4) (.t 125), none⟩] ⟨.all, [], .look 0 (.look 1 (.look 2 (.look 3 (.look 4 (.look 5 (.look 6 (.run 7 true (.run 8 true (.look 9 (.run 10 false .done))))))))))⟩)
 .ret)))))))))))))⟩
theorem K_curve_jac_plus : chkFun DK Pg Try.f110 A_curve_jac_plus = true := by kernel_rfl
theorem B_curve_jac_plus {args : List AV} {m : Mem} {K : AV → Mem → Prop} (h : vcFun DK Pg A_curve_jac_plus args m K) : ACall Pg F_curve_jac_plus args m K := call_body mixed Try.func110 (by kernel_rfl) K_curve_jac_plus h

noncomputable def A_field_Red : AFun := ⟨2, 19, [.cell 4 4 true],
 (.seq (.ops [
 oO 3 (.box 1 4 (.t 1)),
 oO 4 (.alloc 1 4 [.int .u64 0])])
 (.seq (.ops [
 oM 8 0,
 oK 9 F_field_less [.t 8],
 oM 7 9,
 oO 10 (.ext (.t 7) 0),
 oO 11 (.ext (.t 7) 1),
 oO 5 (.alloc 1 4 [.int .u64 0]),
 ⟨none, .stA 1 4 4 (.t 5) (.t 10), none⟩,
 oM 6 11])
 (.seq (.seq (.ops [
 oM 12 6,
 oO 13 (.un .not (.t 12))])
 (.cond (.t 13)
 (.seq (.ops [
 oO 14 (.build [.int .u64 0, .int .u64 0, .int .u64 0, .int .u64 0] []),
 ⟨none, .stA 1 4 4 (.t 4) (.t 14), none⟩])
 .ret)
 .skip))
 (.seq (.ops [
 oO 15 (.load 4 true (.t 3)),
 oO 16 (.build [.int .u64 0, .int .u64 0, .int .u64 0, .int .u64 0] []),
 oO 17 (.load 4 true (.t 5)),
 oK 18 F_field_fold [.t 15, .t 16, .t 17],
 ⟨none, .stA 1 4 4 (.t 4) (.t 18), none⟩])
 .ret))))⟩
theorem K_field_Red : chkFun DK Pg Try.f111 A_field_Red = true := by kernel_rfl
theorem B_field_Red {args : List AV} {m : Mem} {K : AV → Mem → Prop} (h : vcFun DK Pg A_field_Red args m K) : ACall Pg F_field_Red args m K := call_body mixed Try.func111 (by kernel_rfl) K_field_Red h

noncomputable def A_field_Add : AFun := ⟨3, 30, [.cell 6 4 true],
 (.seq (.ops [
 oO 4 (.box 1 4 (.t 1)),
 oO 5 (.box 1 4 (.t 2)),
 oO 6 (.alloc 1 4 [.int .u64 0])])
 (.seq (.ops [
 oM 12 0,
 oK 13 F_field_less [.t 12],
 oM 11 13,
 oO 14 (.ext (.t 11) 0),
 oO 15 (.ext (.t 11) 1),
 oO 7 (.alloc 1 4 [.int .u64 0]),
 ⟨none, .stA 1 4 4 (.t 7) (.t 14), none⟩,
 oM 8 15])
 (.seq (.seq (.ops [
 oM 16 8,
 oO 17 (.un .not (.t 16))])
 (.cond (.t 17)
 (.seq (.ops [
 oO 18 (.build [.int .u64 0, .int .u64 0, .int .u64 0, .int .u64 0] []),
 ⟨none, .stA 1 4 4 (.t 6) (.t 18), none⟩])
 .ret)
 .skip))
 (.seq (.ops [
 oO 20 (.load 4 true (.t 4)),
 oO 21 (.load 4 true (.t 5)),
 oK 22 F_limb_Add [.t 20, .t 21],
 oM 19 22,
 oO 23 (.ext (.t 19) 0),
 oO 24 (.ext (.t 19) 1),
 oO 9 (.alloc 1 4 [.int .u64 0]),
 ⟨none, .stA 1 4 4 (.t 9) (.t 23), none⟩,
 oM 10 24])
 (.seq (.ops [
 oO 25 (.load 4 true (.t 9)),
 oM 26 10,
 oO 27 (.build [.int .u64 0, .int .u64 0, .int .u64 0, .int .u64 0] [(0, 1, .t 26)]),
 oO 28 (.load 4 true (.t 7)),
 oK 29 F_field_fold [.t 25, .t 27, .t 28],
 ⟨none, .stA 1 4 4 (.t 6) (.t 29), none⟩])
 .ret)))))⟩
theorem K_field_Add : chkFun DK Pg Try.f112 A_field_Add = true := by kernel_rfl
theorem B_field_Add {args : List AV} {m : Mem} {K : AV → Mem → Prop} (h : vcFun DK Pg A_field_Add args m K) : ACall Pg F_field_Add args m K := call_body mixed Try.func112 (by kernel_rfl) K_field_Add h

noncomputable def A_limb_Mul : AFun := ⟨2, 75, [.cell 4 4 true, .cell 5 4 true],
 (.seq (.ops [
 oO 2 (.box 1 4 (.t 0)),
 oO 3 (.box 1 4 (.t 1)),
 oO 4 (.alloc 1 4 [.int .u64 0]),
 oO 5 (.alloc 1 4 [.int .u64 0])])
 (.seq (.ops [
 oO 6 (.alloc 1 8 [.int .u64 0])])
 (.seq (.seq (.ops [
 oO 14 (.mv (.c (.int .i64 0)))])
 (.block 0
 (.loop
 (.seq (.ops [
 oO 15 (.bin .lss (.t 14) (.c (.int .i64 4)))])
 (.seq (.cond (.t 15)
 .skip
 (.exit 0))
 (.seq (.block 1
 (.seq (.ops [
 oM 16 14,
 oM 7 16])
 (.seq (.ops [
 oO 8 (.mv (.c (.int .u64 0)))])
 (.seq (.seq (.ops [
 oO 17 (.mv (.c (.int .i64 0)))])
 (.block 2
 (.loop
 (.seq (.ops [
 oO 18 (.bin .lss (.t 17) (.c (.int .i64 4)))])
 (.seq (.cond (.t 18)
 .skip
 (.exit 2))
 (.seq (.block 3
 (.seq (.ops [
 oM 19 17,
 oM 9 19])
 (.seq (.draw [
 oM 21 7,
 oO 22 (.idxP 4 1 (.t 2) (.t 21)),
 oO 23 (.load 1 false (.t 22)),
 oM 24 9,
 oO 25 (.idxP 4 1 (.t 3) (.t 24)),
 oO 26 (.load 1 false (.t 25)),
 oK 27 F_bits_Mul64 [.t 23, .t 26],
 oM 20 27,
 oO 28 (.ext (.t 20) 0),
 oO 29 (.ext (.t 20) 1),
 oM 10 28,
 oM 11 29] ⟨.all, [], .look 0 (.look 1 (.look 2 (.look 3 (.look 4 (.look 5 (.run 6 false (.look 7 (.look 8 (.look 9 (.look 10 (.look 11 .done)))))))))))⟩)
 (.seq (.ops [
 oO 12 (.mv (.c (.int .u64 0))),
 oO 13 (.mv (.c (.int .u64 0)))])
 (.seq (.ops [
 oM 31 7,
 oM 32 9,
 oO 33 (.binF .add (.t 31) (.t 32)),
 oM 34 7,
 oM 35 9,
 oO 36 (.binF .add (.t 34) (.t 35)),
 oO 37 (.idxP 8 1 (.t 6) (.t 36)),
 oO 38 (.load 1 false (.t 37)),
 oM 39 11,
 oO 40 (.x64 false F_bits_Add64 (.t 38) (.t 39) (.c (.int .u64 0))),
 oM 30 40,
 oO 41 (.ext (.t 30) 0),
 oO 42 (.ext (.t 30) 1),
 oO 43 (.idxP 8 1 (.t 6) (.t 33)),
 ⟨none, .stA 1 8 1 (.t 43) (.t 41), none⟩,
 oM 12 42])
 (.seq (.ops [
 oM 45 7,
 oM 46 9,
 oO 47 (.binF .add (.t 45) (.t 46)),
 oM 48 7,
 oM 49 9,
 oO 50 (.binF .add (.t 48) (.t 49)),
 oO 51 (.idxP 8 1 (.t 6) (.t 50)),
 oO 52 (.load 1 false (.t 51)),
 oM 53 8,
 oO 54 (.x64 false F_bits_Add64 (.t 52) (.t 53) (.c (.int .u64 0))),
 oM 44 54,
 oO 55 (.ext (.t 44) 0),
 oO 56 (.ext (.t 44) 1),
 oO 57 (.idxP 8 1 (.t 6) (.t 47)),
 ⟨none, .stA 1 8 1 (.t 57) (.t 55), none⟩,
 oM 13 56])
 (.ops [
 oM 58 10,
 oM 59 12,
 oO 60 (.bin .add (.t 58) (.t 59)),
 oM 61 13,
 oO 62 (.bin .add (.t 60) (.t 61)),
 oM 8 62])))))))
 (.ops [
 oO 63 (.binF .add (.t 17) (.c (.int .i64 1))),
 oM 17 63])))))))
 (.ops [
 oM 64 7,
 oO 65 (.binF .add (.t 64) (.c (.int .i64 4))),
 oM 66 8,
 oO 67 (.idxP 8 1 (.t 6) (.t 65)),
 ⟨none, .stA 1 8 1 (.t 67) (.t 66), none⟩])))))
 (.ops [
 oO 68 (.binF .add (.t 14) (.c (.int .i64 1))),
 oM 14 68])))))))
 (.seq (.draw [
 oO 69 (.slarr 8 1 (.t 6) none (some (.c (.int .i64 4))) none),
 oO 70 (.arrp 4 1 (.t 69)),
 oO 71 (.load 4 true (.t 70)),
 oO 72 (.slarr 8 1 (.t 6) (some (.c (.int .i64 4))) none none),
 oO 73 (.arrp 4 1 (.t 72)),
 oO 74 (.load 4 true (.t 73)),
 ⟨none, .stA 1 4 4 (.t 4) (.t 71), none⟩,
 ⟨none, .stA 1 4 4 (.t 5) (.t 74), none⟩] ⟨(.but [4]), [], .look 0 (.look 1 (.look 2 (.look 3 (.look 4 (.look 5 (.run 6 true (.run 7 false .done)))))))⟩)
 .ret))))⟩
theorem K_limb_Mul : chkFun DK Pg Try.f113 A_limb_Mul = true := by kernel_rfl
theorem B_limb_Mul {args : List AV} {m : Mem} {K : AV → Mem → Prop} (h : vcFun DK Pg A_limb_Mul args m K) : ACall Pg F_limb_Mul args m K := call_body mixed Try.func113 (by kernel_rfl) K_limb_Mul h

noncomputable def A_field_fold : AFun := ⟨3, 51, [.cell 6 4 true],
 (.seq (.ops [
 oO 3 (.box 1 4 (.t 0)),
 oO 4 (.box 1 4 (.t 1)),
 oO 5 (.box 1 4 (.t 2)),
 oO 6 (.alloc 1 4 [.int .u64 0])])
 (.seq (.block 0
 (.loop
 (.seq (.seq (.ops [
 oO 12 (.load 4 true (.t 4)),
 oO 13 (.build [.int .u64 0, .int .u64 0, .int .u64 0, .int .u64 0] []),
 oO 14 (.eqa [.i, .i, .i, .i] true (.t 12) (.t 13))])
 (.cond (.t 14)
 .skip
 (.exit 0)))
 (.block 1
 (.seq (.ops [
 oO 16 (.load 4 true (.t 4)),
 oO 17 (.load 4 true (.t 5)),
 oK 18 F_limb_Mul [.t 16, .t 17],
 oM 15 18,
 oO 19 (.ext (.t 15) 0),
 oO 20 (.ext (.t 15) 1),
 oO 7 (.alloc 1 4 [.int .u64 0]),
 oO 8 (.alloc 1 4 [.int .u64 0]),
 ⟨none, .stA 1 4 4 (.t 7) (.t 19), none⟩,
 ⟨none, .stA 1 4 4 (.t 8) (.t 20), none⟩])
 (.seq (.ops [
 oO 9 (.mv (.c (.int .u64 0)))])
 (.seq (.ops [
 oO 22 (.load 4 true (.t 3)),
 oO 23 (.load 4 true (.t 7)),
 oK 24 F_limb_Add [.t 22, .t 23],
 oM 21 24,
 oO 25 (.ext (.t 21) 0),
 oO 26 (.ext (.t 21) 1),
 ⟨none, .stA 1 4 4 (.t 3) (.t 25), none⟩,
 oM 9 26])
 (.ops [
 oO 28 (.load 4 true (.t 8)),
 oM 29 9,
 oO 30 (.build [.int .u64 0, .int .u64 0, .int .u64 0, .int .u64 0] [(0, 1, .t 29)]),
 oK 31 F_limb_Add [.t 28, .t 30],
 oM 27 31,
 oO 32 (.ext (.t 27) 0),
 oO 33 (.ext (.t 27) 1),
 ⟨none, .stA 1 4 4 (.t 4) (.t 32), none⟩]))))))))
 (.seq (.ops [
 oO 35 (.build [.int .u64 0, .int .u64 0, .int .u64 0, .int .u64 0] []),
 oO 36 (.load 4 true (.t 5)),
 oK 37 F_limb_Sub [.t 35, .t 36],
 oM 34 37,
 oO 38 (.ext (.t 34) 0),
 oO 39 (.ext (.t 34) 1),
 oO 10 (.alloc 1 4 [.int .u64 0]),
 ⟨none, .stA 1 4 4 (.t 10) (.t 38), none⟩,
 oM 11 39])
 (.seq (.seq (.ops [
 oO 40 (.load 4 true (.t 3)),
 oO 41 (.load 4 true (.t 10)),
 oK 42 F_limb_Cmp [.t 40, .t 41],
 oO 43 (.bin .geq (.t 42) (.c (.int .i64 0)))])
 (.cond (.t 43)
 (.ops [
 oO 45 (.load 4 true (.t 3)),
 oO 46 (.load 4 true (.t 10)),
 oK 47 F_limb_Sub [.t 45, .t 46],
 oM 44 47,
 oO 48 (.ext (.t 44) 0),
 oO 49 (.ext (.t 44) 1),
 ⟨none, .stA 1 4 4 (.t 3) (.t 48), none⟩])
 .skip))
 (.seq (.ops [
 oO 50 (.load 4 true (.t 3)),
 ⟨none, .stA 1 4 4 (.t 6) (.t 50), none⟩])
 .ret)))))⟩
theorem K_field_fold : chkFun DK Pg Try.f114 A_field_fold = true := by kernel_rfl
theorem B_field_fold {args : List AV} {m : Mem} {K : AV → Mem → Prop} (h : vcFun DK Pg A_field_fold args m K) : ACall Pg F_field_fold args m K := call_body mixed Try.func114 (by kernel_rfl) K_field_fold h

noncomputable def A_witanref04_k256 : AFun := ⟨0, 2, [.cell 0 64 true],
 (.seq (.ops [
 oO 0 (.alloc 1 64 [.int .u32 0])])
 (.seq (.ops [
 oO 1 (.build (List.replicate 64 (.int .u32 0)) [(0, 1, .c (.int .u32 1116352408)), (1, 1, .c (.int .u32 1899447441)), (2, 1, .c (.int .u32 3049323471)), (3, 1, .c (.int .u32 3921009573)), (4, 1, .c (.int .u32 961987163)), (5, 1, .c (.int .u32 1508970993)), (6, 1, .c (.int .u32 2453635748)), (7, 1, .c (.int .u32 2870763221)), (8, 1, .c (.int .u32 3624381080)), (9, 1, .c (.int .u32 310598401)), (10, 1, .c (.int .u32 607225278)), (11, 1, .c (.int .u32 1426881987)), (12, 1, .c (.int .u32 1925078388)), (13, 1, .c (.int .u32 2162078206)), (14, 1, .c (.int .u32 2614888103)), (15, 1, .c (.int .u32 3248222580)), (16, 1, .c (.int .u32 3835390401)), (17, 1, .c (.int .u32 4022224774)), (18, 1, .c (.int .u32 264347078)), (19, 1, .c (.int .u32 604807628)), (20, 1, .c (.int .u32 770255983)), (21, 1, .c (.int .u32 1249150122)), (22, 1, .c (.int .u32 1555081692)), (23, 1, .c (.int .u32 1996064986)), (24, 1, .c (.int .u32 2554220882)), (25, 1, .c (.int .u32 2821834349)), (26, 1, .c (.int .u32 2952996808)), (27, 1, .c (.int .u32 3210313671)), (28, 1, .c (.int .u32 3336571891)), (29, 1, .c (.int .u32 3584528711)), (30, 1, .c (.int .u32 113926993)), (31, 1, .c (.int .u32 338241895)), (32, 1, .c (.int .u32 666307205)), (33, 1, .c (.int .u32 773529912)), (34, 1, .c (.int .u32 1294757372)), (35, 1, .c (.int .u32 1396182291)), (36, 1, .c (.int .u32 1695183700)), (37, 1, .c (.int .u32 1986661051)), (38, 1, .c (.int .u32 2177026350)), (39, 1, .c (.int .u32 2456956037)), (40, 1, .c (.int .u32 2730485921)), (41, 1, .c (.int .u32 2820302411)), (42, 1, .c (.int .u32 3259730800)), (43, 1, .c (.int .u32 3345764771)), (44, 1, .c (.int .u32 3516065817)), (45, 1, .c (.int .u32 3600352804)), (46, 1, .c (.int .u32 4094571909)), (47, 1, .c (.int .u32 275423344)), (48, 1, .c (.int .u32 430227734)), (49, 1, .c (.int .u32 506948616)), (50, 1, .c (.int .u32 659060556)), (51, 1, .c (.int .u32 883997877)), (52, 1, .c (.int .u32 958139571)), (53, 1, .c (.int .u32 1322822218)), (54, 1, .c (.int .u32 1537002063)), (55, 1, .c (.int .u32 1747873779)), (56, 1, .c (.int .u32 1955562222)), (57, 1, .c (.int .u32 2024104815)), (58, 1, .c (.int .u32 2227730452)), (59, 1, .c (.int .u32 2361852424)), (60, 1, .c (.int .u32 2428436474)), (61, 1, .c (.int .u32 2756734187)), (62, 1, .c (.int .u32 3204031479)), (63, 1, .c (.int .u32 3329325298))]),
 oS 64 0 1])
 .ret))⟩
theorem K_witanref04_k256 : chkFun DK Pg Try.f115 A_witanref04_k256 = true := by kernel_rfl
theorem B_witanref04_k256 {args : List AV} {m : Mem} {K : AV → Mem → Prop} (h : vcFun DK Pg A_witanref04_k256 args m K) : ACall Pg F_witanref04_k256 args m K := call_body mixed Try.func115 (by kernel_rfl) K_witanref04_k256 h

noncomputable def A_witanref04_padded : AFun := ⟨1, 37, [.t 2],
 (.seq (.ops [
 oO 2 (.mv (.c (.nils)))])
 (.seq (.ops [
 oO 3 (.mv (.c (.nils)))])
 (.seq (.ops [
 oM 6 3,
 oM 7 0,
 oO 8 (.app 1 1 (.t 6) (.t 7)),
 oO 9 (.bsl 1 1 [.int .u8 0] [(0, 1, .c (.int .u8 128))]),
 oO 10 (.app 1 1 (.t 8) (.t 9)),
 oM 3 10])
 (.seq (.block 0
 (.loop
 (.seq (.seq (.ops [
 oM 11 3,
 oO 12 (.len (.t 11)),
 oO 13 (.bin .add (.t 12) (.c (.int .i64 8))),
 oO 14 (.bin .rem (.t 13) (.c (.int .i64 64))),
 oO 15 (.bin .neq (.t 14) (.c (.int .i64 0)))])
 (.cond (.t 15)
 .skip
 (.exit 0)))
 (.block 1
 (.ops [
 oM 16 3,
 oO 17 (.bsl 1 1 [.int .u8 0] [(0, 1, .c (.int .u8 0))]),
 oO 18 (.app 1 1 (.t 16) (.t 17)),
 oM 3 18])))))
 (.seq (.ops [
 oM 19 0,
 oO 20 (.len (.t 19)),
 oO 21 (.conv .u64 (.t 20)),
 oO 22 (.bin .mul (.t 21) (.c (.int .u64 8))),
 oM 4 22])
 (.seq (.seq (.ops [
 oO 5 (.mv (.c (.int .i64 7)))])
 (.block 2
 (.loop
 (.seq (.seq (.ops [
 oM 23 5,
 oO 24 (.bin .geq (.t 23) (.c (.int .i64 0)))])
 (.cond (.t 24)
 .skip
 (.exit 2)))
 (.seq (.block 3
 (.ops [
 oM 27 3,
 oM 28 4,
 oM 29 5,
 oO 30 (.conv .u64 (.t 29)),
 oO 31 (.bin .mul (.c (.int .u64 8)) (.t 30)),
 oO 32 (.bin .shr (.t 28) (.t 31)),
 oO 33 (.conv .u8 (.t 32)),
 oO 34 (.bsl 1 1 [.int .u8 0] [(0, 1, .t 33)]),
 oO 35 (.app 1 1 (.t 27) (.t 34)),
 oM 3 35]))
 (.ops [
 oM 25 5,
 oO 26 (.bin .sub (.t 25) (.c (.int .i64 1))),
 oM 5 26]))))))
 (.seq (.ops [
 oM 36 3,
 oM 2 36])
 .ret)))))))⟩
theorem K_witanref04_padded : chkFun DK Pg Try.f116 A_witanref04_padded = true := by kernel_rfl
theorem B_witanref04_padded {args : List AV} {m : Mem} {K : AV → Mem → Prop} (h : vcFun DK Pg A_witanref04_padded args m K) : ACall Pg F_witanref04_padded args m K := call_body mixed Try.func116 (by kernel_rfl) K_witanref04_padded h

noncomputable def A_witanref04_rot32 : AFun := ⟨2, 9, [.t 4],
 (.seq (.ops [
 oO 4 (.mv (.c (.int .u32 0)))])
 (.seq (.ops [
 oM 5 0,
 oM 6 1,
 oO 7 (.un .neg (.t 6)),
 oK 8 F_bits_RotateLeft32 [.t 5, .t 7],
 oM 4 8])
 .ret))⟩
theorem K_witanref04_rot32 : chkFun DK Pg Try.f117 A_witanref04_rot32 = true := by kernel_rfl
theorem B_witanref04_rot32 {args : List AV} {m : Mem} {K : AV → Mem → Prop} (h : vcFun DK Pg A_witanref04_rot32 args m K) : ACall Pg F_witanref04_rot32 args m K := call_body mixed Try.func117 (by kernel_rfl) K_witanref04_rot32 h

noncomputable def A_witanref01_fold : AFun := ⟨3, 48, [.cell 6 4 true],
 (.seq (.ops [
 oO 4 (.box 1 4 (.t 1)),
 oO 5 (.box 1 4 (.t 2)),
 oO 6 (.alloc 1 4 [.int .u64 0])])
 (.seq (.block 0
 (.loop
 (.seq (.seq (.ops [
 oO 11 (.load 4 true (.t 5)),
 oO 12 (.build [.int .u64 0, .int .u64 0, .int .u64 0, .int .u64 0] []),
 oO 13 (.eqa [.i, .i, .i, .i] true (.t 11) (.t 12))])
 (.cond (.t 13)
 .skip
 (.exit 0)))
 (.block 1
 (.seq (.draw [
 oO 15 (.load 4 true (.t 5)),
 oM 16 0,
 oK 17 F_witanref01_small [.t 16],
 oK 18 F_witanref01_Mul [.t 15, .t 17],
 oM 14 18,
 oO 19 (.ext (.t 14) 0),
 oO 20 (.ext (.t 14) 1),
 oO 7 (.alloc 1 4 [.int .u64 0]),
 oO 8 (.alloc 1 4 [.int .u64 0]),
 oS 4 7 19,
 oS 4 8 20] ⟨.all, [(7, some 9), (8, some 10)], .look 0 (.look 1 (.run 2 true (.run 3 true (.look 4 (.look 5 (.pre 7 9 (.look 6 (.pre 8 10 (.fill .done)))))))))⟩)
 (.seq (.ops [
 oO 22 (.load 4 true (.t 4)),
 oO 23 (.load 4 true (.t 7)),
 oK 24 F_witanref01_Add [.t 22, .t 23],
 oM 21 24,
 oO 25 (.ext (.t 21) 0),
 oO 26 (.ext (.t 21) 1),
 oO 9 (.alloc 1 4 [.int .u64 0]),
 ⟨none, .stA 1 4 4 (.t 9) (.t 25), none⟩,
 oM 10 26])
 (.seq (.ops [
 oO 27 (.load 4 true (.t 9)),
 ⟨none, .stA 1 4 4 (.t 4) (.t 27), none⟩])
 (.ops [
 oO 29 (.load 4 true (.t 8)),
 oM 30 10,
 oO 31 (.build [.int .u64 0, .int .u64 0, .int .u64 0, .int .u64 0] [(0, 1, .t 30)]),
 oK 32 F_witanref01_Add [.t 29, .t 31],
 oM 28 32,
 oO 33 (.ext (.t 28) 0),
 oO 34 (.ext (.t 28) 1),
 ⟨none, .stA 1 4 4 (.t 5) (.t 33), none⟩]))))))))
 (.seq (.seq (.draw [
 oO 35 (.load 4 true (.t 4)),
 oM 36 0,
 oK 37 F_witanref01_Prime [.t 36],
 oK 38 F_witanref01_Cmp [.t 35, .t 37],
 oO 39 (.bin .geq (.t 38) (.c (.int .i64 0)))] ⟨.all, [], .look 0 (.look 1 (.run 2 true (.run 3 true (.look 4 .done))))⟩)
 (.cond (.t 39)
 (.draw [
 oO 41 (.load 4 true (.t 4)),
 oM 42 0,
 oK 43 F_witanref01_Prime [.t 42],
 oK 44 F_witanref01_Sub [.t 41, .t 43],
 oM 40 44,
 oO 45 (.ext (.t 40) 0),
 oO 46 (.ext (.t 40) 1),
 ⟨none, .stA 1 4 4 (.t 4) (.t 45), none⟩] ⟨.all, [], .look 0 (.look 1 (.run 2 true (.run 3 false (.look 4 (.look 5 (.look 6 (.run 7 false .done)))))))⟩)
 .skip))
 (.seq (.ops [
 oO 47 (.load 4 true (.t 4)),
 ⟨none, .stA 1 4 4 (.t 6) (.t 47), none⟩])
 .ret))))⟩
theorem K_witanref01_fold : chkFun DK Pg Try.f118 A_witanref01_fold = true := by kernel_rfl
theorem B_witanref01_fold {args : List AV} {m : Mem} {K : AV → Mem → Prop} (h : vcFun DK Pg A_witanref01_fold args m K) : ACall Pg F_witanref01_fold args m K := call_body mixed Try.func118 (by kernel_rfl) K_witanref01_fold h

noncomputable def A_witanref01_Inf : AFun := ⟨0, 2, [.cell 0 9 true],
 (.seq (.ops [
 oO 0 (.alloc 9 1 [.bool false, .int .u64 0, .int .u64 0, .int .u64 0, .int .u64 0, .int .u64 0, .int .u64 0, .int .u64 0, .int .u64 0])])
 (.seq (.ops [
 oO 1 (.build [.bool false, .int .u64 0, .int .u64 0, .int .u64 0, .int .u64 0, .int .u64 0, .int .u64 0, .int .u64 0, .int .u64 0] [(0, 1, .c (.bool true))]),
 ⟨none, .stA 9 1 9 (.t 0) (.t 1), none⟩])
 .ret))⟩
theorem K_witanref01_Inf : chkFun DK Pg Try.f120 A_witanref01_Inf = true := by kernel_rfl
theorem B_witanref01_Inf {args : List AV} {m : Mem} {K : AV → Mem → Prop} (h : vcFun DK Pg A_witanref01_Inf args m K) : ACall Pg F_witanref01_Inf args m K := call_body mixed Try.func120 (by kernel_rfl) K_witanref01_Inf h

noncomputable def A_witanref01_sub : AFun := ⟨2, 8, [.cell 4 4 true],
 (.seq (.ops [
 oO 2 (.box 1 4 (.t 0)),
 oO 3 (.box 1 4 (.t 1)),
 oO 4 (.alloc 1 4 [.int .u64 0])])
 (.seq (.ops [
 oO 5 (.load 4 true (.t 2)),
 oO 6 (.load 4 true (.t 3)),
 oK 7 F_witanref01_FSub [.c (.int .i64 0), .t 5, .t 6],
 ⟨none, .stA 1 4 4 (.t 4) (.t 7), none⟩])
 .ret))⟩
theorem K_witanref01_sub : chkFun DK Pg Try.f122 A_witanref01_sub = true := by kernel_rfl
theorem B_witanref01_sub {args : List AV} {m : Mem} {K : AV → Mem → Prop} (h : vcFun DK Pg A_witanref01_sub args m K) : ACall Pg F_witanref01_sub args m K := call_body mixed Try.func122 (by kernel_rfl) K_witanref01_sub h

noncomputable def A_curve_add : AFun := ⟨2, 8, [.cell 4 4 true],
 (.seq (.ops [
 oO 2 (.box 1 4 (.t 0)),
 oO 3 (.box 1 4 (.t 1)),
 oO 4 (.alloc 1 4 [.int .u64 0])])
 (.seq (.ops [
 oO 5 (.load 4 true (.t 2)),
 oO 6 (.load 4 true (.t 3)),
 oK 7 F_field_Add [.c (.int .i64 0), .t 5, .t 6],
 ⟨none, .stA 1 4 4 (.t 4) (.t 7), none⟩])
 .ret))⟩
theorem K_curve_add : chkFun DK Pg Try.f123 A_curve_add = true := by kernel_rfl
theorem B_curve_add {args : List AV} {m : Mem} {K : AV → Mem → Prop} (h : vcFun DK Pg A_curve_add args m K) : ACall Pg F_curve_add args m K := call_body mixed Try.func123 (by kernel_rfl) K_curve_add h

noncomputable def A_field_Pow : AFun := ⟨3, 40, [.cell 6 4 true],
 (.seq (.ops [
 oO 4 (.box 1 4 (.t 1)),
 oO 5 (.box 1 4 (.t 2)),
 oO 6 (.alloc 1 4 [.int .u64 0])])
 (.seq (.ops [
 oM 12 0,
 oK 13 F_field_less [.t 12],
 oM 11 13,
 oO 14 (.ext (.t 11) 0),
 oO 15 (.ext (.t 11) 1),
 oO 7 (.alloc 1 4 [.int .u64 0]),
 ⟨none, .stA 1 4 4 (.t 7) (.t 14), none⟩,
 oM 8 15])
 (.seq (.seq (.ops [
 oM 16 8,
 oO 17 (.un .not (.t 16))])
 (.cond (.t 17)
 (.seq (.ops [
 oO 18 (.build [.int .u64 0, .int .u64 0, .int .u64 0, .int .u64 0] []),
 ⟨none, .stA 1 4 4 (.t 6) (.t 18), none⟩])
 .ret)
 .skip))
 (.seq (.ops [
 oO 19 (.build [.int .u64 0, .int .u64 0, .int .u64 0, .int .u64 0] [(0, 1, .c (.int .u64 1))]),
 oO 9 (.alloc 1 4 [.int .u64 0]),
 ⟨none, .stA 1 4 4 (.t 9) (.t 19), none⟩])
 (.seq (.seq (.ops [
 oO 20 (.load 4 true (.t 5)),
 oK 21 F_limb_Len [.t 20],
 oO 22 (.bin .sub (.t 21) (.c (.int .i64 1))),
 oM 10 22])
 (.block 0
 (.loop
 (.seq (.seq (.ops [
 oM 23 10,
 oO 24 (.bin .geq (.t 23) (.c (.int .i64 0)))])
 (.cond (.t 24)
 .skip
 (.exit 0)))
 (.seq (.block 1
 (.seq (.ops [
 oM 27 0,
 oO 28 (.load 4 true (.t 9)),
 oO 29 (.load 4 true (.t 9)),
 oK 30 F_field_Mul [.t 27, .t 28, .t 29],
 ⟨none, .stA 1 4 4 (.t 9) (.t 30), none⟩])
 (.seq (.ops [
 oO 31 (.load 4 true (.t 5)),
 oM 32 10,
 oK 33 F_limb_Bit [.t 31, .t 32],
 oO 34 (.bin .eql (.t 33) (.c (.int .i64 1)))])
 (.cond (.t 34)
 (.ops [
 oM 35 0,
 oO 36 (.load 4 true (.t 9)),
 oO 37 (.load 4 true (.t 4)),
 oK 38 F_field_Mul [.t 35, .t 36, .t 37],
 ⟨none, .stA 1 4 4 (.t 9) (.t 38), none⟩])
 .skip))))
 (.ops [
 oM 25 10,
 oO 26 (.bin .sub (.t 25) (.c (.int .i64 1))),
 oM 10 26]))))))
 (.seq (.ops [
 oO 39 (.load 4 true (.t 9)),
 ⟨none, .stA 1 4 4 (.t 6) (.t 39), none⟩])
 .ret))))))⟩
theorem K_field_Pow : chkFun DK Pg Try.f124 A_field_Pow = true := by kernel_rfl
theorem B_field_Pow {args : List AV} {m : Mem} {K : AV → Mem → Prop} (h : vcFun DK Pg A_field_Pow args m K) : ACall Pg F_field_Pow args m K := call_body mixed Try.func124 (by kernel_rfl) K_field_Pow h

noncomputable def A_limb_Len : AFun := ⟨1, 19, [.t 2],
 (.seq (.ops [
 oO 1 (.box 1 4 (.t 0)),
 oO 2 (.mv (.c (.int .i64 0)))])
 (.seq (.seq (.ops [
 oO 3 (.mv (.c (.int .i64 3)))])
 (.block 0
 (.loop
 (.seq (.seq (.ops [
 oM 4 3,
 oO 5 (.bin .geq (.t 4) (.c (.int .i64 0)))])
 (.cond (.t 5)
 .skip
 (.exit 0)))
 (.seq (.block 1
 (.seq (.ops [
 oM 8 3,
 oO 9 (.idxP 4 1 (.t 1) (.t 8)),
 oO 10 (.load 1 false (.t 9)),
 oO 11 (.bin .neq (.t 10) (.c (.int .u64 0)))])
 (.cond (.t 11)
 (.seq (.ops [
 oM 12 3,
 oO 13 (.bin .mul (.c (.int .i64 64)) (.t 12)),
 oM 14 3,
 oO 15 (.idxP 4 1 (.t 1) (.t 14)),
 oO 16 (.load 1 false (.t 15)),
 oK 17 F_bits_Len64 [.t 16],
 oO 18 (.bin .add (.t 13) (.t 17)),
 oM 2 18])
 .ret)
 .skip)))
 (.ops [
 oM 6 3,
 oO 7 (.bin .sub (.t 6) (.c (.int .i64 1))),
 oM 3 7]))))))
 (.seq (.ops [
 oO 2 (.mv (.c (.int .i64 0)))])
 .ret)))⟩
theorem K_limb_Len : chkFun DK Pg Try.f125 A_limb_Len = true := by kernel_rfl
theorem B_limb_Len {args : List AV} {m : Mem} {K : AV → Mem → Prop} (h : vcFun DK Pg A_limb_Len args m K) : ACall Pg F_limb_Len args m K := call_body mixed Try.func125 (by kernel_rfl) K_limb_Len h

noncomputable def A_curve_jac_twice : AFun := ⟨1, 74, [.cell 2 12 true],
 (.seq (.ops [
 oO 1 (.box 12 1 (.t 0)),
 oO 2 (.alloc 12 1 (List.replicate 12 (.int .u64 0)))])
 (.seq (.ops [
 oO 11 (.fldA 4 (.t 1)),
 oO 12 (.load 4 true (.t 11)),
 oO 13 (.fldA 4 (.t 1)),
 oO 14 (.load 4 true (.t 13)),
 oK 15 F_curve_mul [.t 12, .t 14],
 oO 3 (.alloc 1 4 [.int .u64 0]),
 ⟨none, .stA 1 4 4 (.t 3) (.t 15), none⟩])
 (.seq (.ops [
 oO 16 (.fldA 0 (.t 1)),
 oO 17 (.load 4 true (.t 16)),
 oO 18 (.load 4 true (.t 3)),
 oK 19 F_curve_mul [.t 17, .t 18],
 oO 4 (.alloc 1 4 [.int .u64 0]),
 ⟨none, .stA 1 4 4 (.t 4) (.t 19), none⟩])
 (.seq (.draw [
 oO 20 (.load 4 true (.t 4)),
 oO 21 (.load 4 true (.t 4)),
 oK 22 F_curve_add [.t 20, .t 21],
 oO 23 (.load 4 true (.t 4)),
 oO 24 (.load 4 true (.t 4)),
 oK 25 F_curve_add [.t 23, .t 24],
 oK 26 F_curve_add [.t 22, .t 25],
 ⟨none, .stA 1 4 4 (.t 4) (.t 26), none⟩] ⟨.all, [], .look 0 (.look 1 (.look 3 (.look 4 (.run 2 true (.run 5 false (.run 6 false (.run 7 false .done)))))))⟩)
 (.seq (.ops [
 oO 27 (.fldA 0 (.t 1)),
 oO 28 (.load 4 true (.t 27)),
 oO 29 (.fldA 0 (.t 1)),
 oO 30 (.load 4 true (.t 29)),
 oK 31 F_curve_mul [.t 28, .t 30],
 oO 5 (.alloc 1 4 [.int .u64 0]),
 ⟨none, .stA 1 4 4 (.t 5) (.t 31), none⟩])
 (.seq (.draw [
 oO 32 (.load 4 true (.t 5)),
 oO 33 (.load 4 true (.t 5)),
 oK 34 F_curve_add [.t 32, .t 33],
 oO 35 (.load 4 true (.t 5)),
 oK 36 F_curve_add [.t 34, .t 35],
 oO 6 (.alloc 1 4 [.int .u64 0]),
 oS 4 6 36] ⟨.all, [(5, some 6)], .look 0 (.look 1 (.look 3 (.run 2 true (.run 4 true (.pre 5 6 (.fill .done))))))⟩)
 (.seq (.draw [
 oO 37 (.load 4 true (.t 6)),
 oO 38 (.load 4 true (.t 6)),
 oK 39 F_curve_mul [.t 37, .t 38],
 oO 40 (.load 4 true (.t 4)),
 oO 41 (.load 4 true (.t 4)),
 oK 42 F_curve_add [.t 40, .t 41],
 oK 43 F_curve_sub [.t 39, .t 42],
 oO 7 (.alloc 1 4 [.int .u64 0]),
 oS 4 7 43] ⟨.all, [(7, some 8)], .look 0 (.look 1 (.look 3 (.look 4 (.run 2 true (.run 5 true (.run 6 true (.pre 7 8 (.fill .done))))))))⟩)
 (.seq (.ops [
 oO 44 (.load 4 true (.t 3)),
 oO 45 (.load 4 true (.t 3)),
 oK 46 F_curve_mul [.t 44, .t 45],
 oO 8 (.alloc 1 4 [.int .u64 0]),
 ⟨none, .stA 1 4 4 (.t 8) (.t 46), none⟩])
 (.seq (.draw [
 oO 47 (.load 4 true (.t 8)),
 oO 48 (.load 4 true (.t 8)),
 oK 49 F_curve_add [.t 47, .t 48],
 oO 50 (.load 4 true (.t 8)),
 oO 51 (.load 4 true (.t 8)),
 oK 52 F_curve_add [.t 50, .t 51],
 oK 53 F_curve_add [.t 49, .t 52],
 ⟨none, .stA 1 4 4 (.t 8) (.t 53), none⟩] ⟨.all, [], .look 0 (.look 1 (.look 3 (.look 4 (.run 2 true (.run 5 false (.run 6 false (.run 7 false .done)))))))⟩)
 (.seq (.draw [
 oO 54 (.load 4 true (.t 6)),
 oO 55 (.load 4 true (.t 4)),
 oO 56 (.load 4 true (.t 7)),
 oK 57 F_curve_sub [.t 55, .t 56],
 oK 58 F_curve_mul [.t 54, .t 57],
 oO 59 (.load 4 true (.t 8)),
 oO 60 (.load 4 true (.t 8)),
 oK 61 F_curve_add [.t 59, .t 60],
 oK 62 F_curve_sub [.t 58, .t 61],
 oO 9 (.alloc 1 4 [.int .u64 0]),
 oS 4 9 62] ⟨.all, [(9, some 10)], .look 0 (.look 1 (.look 2 (.look 5 (.look 6 (.run 3 true (.run 4 true (.run 7 true (.run 8 true (.pre 9 10 (.fill .done))))))))))⟩)
 (.seq (.ops [
 oO 63 (.fldA 4 (.t 1)),
 oO 64 (.load 4 true (.t 63)),
 oO 65 (.fldA 8 (.t 1)),
 oO 66 (.load 4 true (.t 65)),
 oK 67 F_curve_mul [.t 64, .t 66],
 oO 10 (.alloc 1 4 [.int .u64 0]),
 ⟨none, .stA 1 4 4 (.t 10) (.t 67), none⟩])
 (.seq (.draw [
 oO 68 (.load 4 true (.t 7)),
 oO 69 (.load 4 true (.t 9)),
 oO 70 (.load 4 true (.t 10)),
 oO 71 (.load 4 true (.t 10)),
 oK 72 F_curve_add [.t 70, .t 71],
 oO 73 (.build (List.replicate 12 (.int .u64 0)) [(0, 4, .t 68), (4, 4, .t 69), (8, 4, .t 72)]),
 ⟨none, .stA 12 1 12 (.t 2) (.t 73), none⟩] ⟨.all, [], .look 0 (.look 1 (.look 2 (.look 3 (.run 4 true (.look 5 (.run 6 false .done))))))⟩)
 .ret))))))))))))⟩
theorem K_curve_jac_twice : chkFun DK Pg Try.f126 A_curve_jac_twice = true := by kernel_rfl
theorem B_curve_jac_twice {args : List AV} {m : Mem} {K : AV → Mem → Prop} (h : vcFun DK Pg A_curve_jac_twice args m K) : ACall Pg F_curve_jac_twice args m K := call_body mixed Try.func126 (by kernel_rfl) K_curve_jac_twice h

noncomputable def A_field_Inv : AFun := ⟨2, 18, [.cell 4 4 true],
 (.seq (.ops [
 oO 3 (.box 1 4 (.t 1)),
 oO 4 (.alloc 1 4 [.int .u64 0])])
 (.seq (.ops [
 oM 8 0,
 oK 9 F_field_Prime [.t 8],
 oO 10 (.build [.int .u64 0, .int .u64 0, .int .u64 0, .int .u64 0] [(0, 1, .c (.int .u64 2))]),
 oK 11 F_limb_Sub [.t 9, .t 10],
 oM 7 11,
 oO 12 (.ext (.t 7) 0),
 oO 13 (.ext (.t 7) 1),
 oO 5 (.alloc 1 4 [.int .u64 0]),
 ⟨none, .stA 1 4 4 (.t 5) (.t 12), none⟩,
 oM 6 13])
 (.seq (.ops [
 oM 14 0,
 oO 15 (.load 4 true (.t 3)),
 oO 16 (.load 4 true (.t 5)),
 oK 17 F_field_Pow [.t 14, .t 15, .t 16],
 ⟨none, .stA 1 4 4 (.t 4) (.t 17), none⟩])
 .ret)))⟩
theorem K_field_Inv : chkFun DK Pg Try.f127 A_field_Inv = true := by kernel_rfl
theorem B_field_Inv {args : List AV} {m : Mem} {K : AV → Mem → Prop} (h : vcFun DK Pg A_field_Inv args m K) : ACall Pg F_field_Inv args m K := call_body mixed Try.func127 (by kernel_rfl) K_field_Inv h

noncomputable def A_pair_dealer : AFun := ⟨1, 9, [.t 2],
 (.seq (.ops [
 oO 2 (.mv (.c (.bool false)))])
 (.seq (.ops [
 oM 3 0,
 oO 4 (.bin .geq (.t 3) (.c (.int .i64 1))),
 oM 5 4,
 oG 6 (.mv (.t 0)) 5 true,
 oG 7 (.bin .leq (.t 6) (.c (.int .i64 8))) 5 true,
 oO 8 (.pick (.t 5) (.t 7) (.c (.bool false))),
 oM 2 8])
 .ret))⟩
theorem K_pair_dealer : chkFun DK Pg Try.f128 A_pair_dealer = true := by kernel_rfl
theorem B_pair_dealer {args : List AV} {m : Mem} {K : AV → Mem → Prop} (h : vcFun DK Pg A_pair_dealer args m K) : ACall Pg F_pair_dealer args m K := call_body mixed Try.func128 (by kernel_rfl) K_pair_dealer h

noncomputable def A_witanref01_small : AFun := ⟨1, 7, [.cell 2 4 true],
 (.seq (.ops [
 oO 2 (.alloc 1 4 [.int .u64 0])])
 (.seq (.seq (.ops [
 oM 3 0,
 oO 4 (.bin .eql (.t 3) (.c (.int .i64 1)))])
 (.cond (.t 4)
 (.seq (.ops [
 oO 5 (.build [.int .u64 0, .int .u64 0, .int .u64 0, .int .u64 0] [(0, 1, .c (.int .u64 4624529908474429119)), (1, 1, .c (.int .u64 4994812053365940164)), (2, 1, .c (.int .u64 1)), (3, 1, .c (.int .u64 0))]),
 ⟨none, .stA 1 4 4 (.t 2) (.t 5), none⟩])
 .ret)
 .skip))
 (.seq (.ops [
 oO 6 (.build [.int .u64 0, .int .u64 0, .int .u64 0, .int .u64 0] [(0, 1, .c (.int .u64 4294968273))]),
 ⟨none, .stA 1 4 4 (.t 2) (.t 6), none⟩])
 .ret)))⟩
theorem K_witanref01_small : chkFun DK Pg Try.f129 A_witanref01_small = true := by kernel_rfl
theorem B_witanref01_small {args : List AV} {m : Mem} {K : AV → Mem → Prop} (h : vcFun DK Pg A_witanref01_small args m K) : ACall Pg F_witanref01_small args m K := call_body mixed Try.func129 (by kernel_rfl) K_witanref01_small h

noncomputable def A_witanref01_FMul : AFun := ⟨3, 23, [.cell 6 4 true],
 (.seq (.ops [
 oO 4 (.box 1 4 (.t 1)),
 oO 5 (.box 1 4 (.t 2)),
 oO 6 (.alloc 1 4 [.int .u64 0])])
 (.seq (.seq (.ops [
 oM 9 0,
 oK 10 F_witanref01_ok [.t 9],
 oO 11 (.un .not (.t 10))])
 (.cond (.t 11)
 (.seq (.ops [
 oO 12 (.build [.int .u64 0, .int .u64 0, .int .u64 0, .int .u64 0] []),
 ⟨none, .stA 1 4 4 (.t 6) (.t 12), none⟩])
 .ret)
 .skip))
 (.seq (.ops [
 oO 14 (.load 4 true (.t 4)),
 oO 15 (.load 4 true (.t 5)),
 oK 16 F_witanref01_Mul [.t 14, .t 15],
 oM 13 16,
 oO 17 (.ext (.t 13) 0),
 oO 18 (.ext (.t 13) 1),
 oO 7 (.alloc 1 4 [.int .u64 0]),
 oO 8 (.alloc 1 4 [.int .u64 0]),
 ⟨none, .stA 1 4 4 (.t 7) (.t 17), none⟩,
 ⟨none, .stA 1 4 4 (.t 8) (.t 18), none⟩])
 (.seq (.ops [
 oM 19 0,
 oO 20 (.load 4 true (.t 7)),
 oO 21 (.load 4 true (.t 8)),
 oK 22 F_witanref01_fold [.t 19, .t 20, .t 21],
 ⟨none, .stA 1 4 4 (.t 6) (.t 22), none⟩])
 .ret))))⟩
theorem K_witanref01_FMul : chkFun DK Pg Try.f130 A_witanref01_FMul = true := by kernel_rfl
theorem B_witanref01_FMul {args : List AV} {m : Mem} {K : AV → Mem → Prop} (h : vcFun DK Pg A_witanref01_FMul args m K) : ACall Pg F_witanref01_FMul args m K := call_body mixed Try.func130 (by kernel_rfl) K_witanref01_FMul h

noncomputable def A_witanref01_FAdd : AFun := ⟨3, 28, [.cell 6 4 true],
 (.seq (.ops [
 oO 4 (.box 1 4 (.t 1)),
 oO 5 (.box 1 4 (.t 2)),
 oO 6 (.alloc 1 4 [.int .u64 0])])
 (.seq (.seq (.ops [
 oM 9 0,
 oK 10 F_witanref01_ok [.t 9],
 oO 11 (.un .not (.t 10))])
 (.cond (.t 11)
 (.seq (.ops [
 oO 12 (.build [.int .u64 0, .int .u64 0, .int .u64 0, .int .u64 0] []),
 ⟨none, .stA 1 4 4 (.t 6) (.t 12), none⟩])
 .ret)
 .skip))
 (.seq (.draw [
 oM 14 0,
 oO 15 (.load 4 true (.t 4)),
 oK 16 F_witanref01_Red [.t 14, .t 15],
 oM 17 0,
 oO 18 (.load 4 true (.t 5)),
 oK 19 F_witanref01_Red [.t 17, .t 18],
 oK 20 F_witanref01_Add [.t 16, .t 19],
 oM 13 20,
 oO 21 (.ext (.t 13) 0),
 oO 22 (.ext (.t 13) 1),
 oO 7 (.alloc 1 4 [.int .u64 0]),
 oS 4 7 21,
 oM 8 22] ⟨.all, [(10, some 11)], .look 0 (.look 1 (.look 3 (.look 4 (.run 2 true (.run 5 true (.run 6 true (.look 7 (.look 8 (.pre 10 11 (.look 9 (.fill (.look 12 .done))))))))))))⟩)
 (.seq (.ops [
 oM 23 0,
 oO 24 (.load 4 true (.t 7)),
 oM 25 8,
 oO 26 (.build [.int .u64 0, .int .u64 0, .int .u64 0, .int .u64 0] [(0, 1, .t 25)]),
 oK 27 F_witanref01_fold [.t 23, .t 24, .t 26],
 ⟨none, .stA 1 4 4 (.t 6) (.t 27), none⟩])
 .ret))))⟩
theorem K_witanref01_FAdd : chkFun DK Pg Try.f131 A_witanref01_FAdd = true := by kernel_rfl
theorem B_witanref01_FAdd {args : List AV} {m : Mem} {K : AV → Mem → Prop} (h : vcFun DK Pg A_witanref01_FAdd args m K) : ACall Pg F_witanref01_FAdd args m K := call_body mixed Try.func131 (by kernel_rfl) K_witanref01_FAdd h

noncomputable def A_witanref01_Inv : AFun := ⟨2, 18, [.cell 4 4 true],
 (.seq (.ops [
 oO 3 (.box 1 4 (.t 1)),
 oO 4 (.alloc 1 4 [.int .u64 0])])
 (.seq (.ops [
 oM 8 0,
 oK 9 F_witanref01_Prime [.t 8],
 oO 10 (.build [.int .u64 0, .int .u64 0, .int .u64 0, .int .u64 0] [(0, 1, .c (.int .u64 2))]),
 oK 11 F_witanref01_Sub [.t 9, .t 10],
 oM 7 11,
 oO 12 (.ext (.t 7) 0),
 oO 13 (.ext (.t 7) 1),
 oO 5 (.alloc 1 4 [.int .u64 0]),
 ⟨none, .stA 1 4 4 (.t 5) (.t 12), none⟩,
 oM 6 13])
 (.seq (.ops [
 oM 14 0,
 oO 15 (.load 4 true (.t 3)),
 oO 16 (.load 4 true (.t 5)),
 oK 17 F_witanref01_Pow [.t 14, .t 15, .t 16],
 ⟨none, .stA 1 4 4 (.t 4) (.t 17), none⟩])
 .ret)))⟩
theorem K_witanref01_Inv : chkFun DK Pg Try.f132 A_witanref01_Inv = true := by kernel_rfl
theorem B_witanref01_Inv {args : List AV} {m : Mem} {K : AV → Mem → Prop} (h : vcFun DK Pg A_witanref01_Inv args m K) : ACall Pg F_witanref01_Inv args m K := call_body mixed Try.func132 (by kernel_rfl) K_witanref01_Inv h

noncomputable def A_witanref01_up : AFun := ⟨1, 15, [.cell 2 12 true],
 (.seq (.ops [
 oO 1 (.box 9 1 (.t 0)),
 oO 2 (.alloc 12 1 (List.replicate 12 (.int .u64 0)))])
 (.seq (.seq (.ops [
 oO 3 (.fldA 0 (.t 1)),
 oO 4 (.load 1 false (.t 3))])
 (.cond (.t 4)
 (.seq (.ops [
 oO 5 (.build [.int .u64 0, .int .u64 0, .int .u64 0, .int .u64 0] [(0, 1, .c (.int .u64 1))]),
 oO 6 (.build [.int .u64 0, .int .u64 0, .int .u64 0, .int .u64 0] [(0, 1, .c (.int .u64 1))]),
 oO 7 (.build [.int .u64 0, .int .u64 0, .int .u64 0, .int .u64 0] []),
 oO 8 (.build (List.replicate 12 (.int .u64 0)) [(0, 4, .t 5), (4, 4, .t 6), (8, 4, .t 7)]),
 ⟨none, .stA 12 1 12 (.t 2) (.t 8), none⟩])
 .ret)
 .skip))
 (.seq (.ops [
 oO 9 (.fldA 1 (.t 1)),
 oO 10 (.load 4 true (.t 9)),
 oO 11 (.fldA 5 (.t 1)),
 oO 12 (.load 4 true (.t 11)),
 oO 13 (.build [.int .u64 0, .int .u64 0, .int .u64 0, .int .u64 0] [(0, 1, .c (.int .u64 1))]),
 oO 14 (.build (List.replicate 12 (.int .u64 0)) [(0, 4, .t 10), (4, 4, .t 12), (8, 4, .t 13)]),
 ⟨none, .stA 12 1 12 (.t 2) (.t 14), none⟩])
 .ret)))⟩
theorem K_witanref01_up : chkFun DK Pg Try.f133 A_witanref01_up = true := by kernel_rfl
theorem B_witanref01_up {args : List AV} {m : Mem} {K : AV → Mem → Prop} (h : vcFun DK Pg A_witanref01_up args m K) : ACall Pg F_witanref01_up args m K := call_body mixed Try.func133 (by kernel_rfl) K_witanref01_up h

noncomputable def A_witanref01_twice : AFun := ⟨1, 92, [.cell 2 12 true],
 (.seq (.ops [
 oO 1 (.box 12 1 (.t 0)),
 oO 2 (.alloc 12 1 (List.replicate 12 (.int .u64 0)))])
 (.seq (.seq (.ops [
 oO 11 (.fldA 8 (.t 1)),
 oO 12 (.load 4 true (.t 11)),
 oO 13 (.build [.int .u64 0, .int .u64 0, .int .u64 0, .int .u64 0] []),
 oO 14 (.eqa [.i, .i, .i, .i] false (.t 12) (.t 13)),
 oM 15 14,
 oG 16 (.fldA 4 (.t 1)) 15 false,
 oG 17 (.load 4 true (.t 16)) 15 false,
 oG 18 (.build [.int .u64 0, .int .u64 0, .int .u64 0, .int .u64 0] []) 15 false,
 oG 19 (.eqa [.i, .i, .i, .i] false (.t 17) (.t 18)) 15 false,
 oO 20 (.pick (.t 15) (.c (.bool true)) (.t 19))])
 (.cond (.t 20)
 (.seq (.ops [
 oK 21 F_witanref01_Inf [],
 oK 22 F_witanref01_up [.t 21],
 ⟨none, .stA 12 1 12 (.t 2) (.t 22), none⟩])
 .ret)
 .skip))
 (.seq (.draw [
 oO 23 (.fldA 0 (.t 1)),
 oO 24 (.load 4 true (.t 23)),
 oO 25 (.fldA 0 (.t 1)),
 oO 26 (.load 4 true (.t 25)),
 oK 27 F_witanref01_mul [.t 24, .t 26],
 oO 28 (.fldA 4 (.t 1)),
 oO 29 (.load 4 true (.t 28)),
 oO 30 (.fldA 4 (.t 1)),
 oO 31 (.load 4 true (.t 30)),
 oK 32 F_witanref01_mul [.t 29, .t 31],
 oO 3 (.alloc 1 4 [.int .u64 0]),
 oO 4 (.alloc 1 4 [.int .u64 0]),
 oS 4 3 27,
 oS 4 4 32] ⟨.all, [(10, some 12), (11, some 13)], .look 0 (.look 1 (.look 2 (.look 3 (.look 5 (.look 6 (.look 7 (.look 8 (.run 4 true (.pre 10 12 (.run 9 true (.pre 11 13 (.fill .done))))))))))))⟩)
 (.seq (.ops [
 oO 33 (.load 4 true (.t 4)),
 oO 34 (.load 4 true (.t 4)),
 oK 35 F_witanref01_mul [.t 33, .t 34],
 oO 5 (.alloc 1 4 [.int .u64 0]),
 ⟨none, .stA 1 4 4 (.t 5) (.t 35), none⟩])
 (.seq (.draw [
 oO 36 (.fldA 0 (.t 1)),
 oO 37 (.load 4 true (.t 36)),
 oO 38 (.load 4 true (.t 4)),
 oK 39 F_witanref01_add [.t 37, .t 38],
 oO 40 (.fldA 0 (.t 1)),
 oO 41 (.load 4 true (.t 40)),
 oO 42 (.load 4 true (.t 4)),
 oK 43 F_witanref01_add [.t 41, .t 42],
 oK 44 F_witanref01_mul [.t 39, .t 43],
 oO 6 (.alloc 1 4 [.int .u64 0]),
 oS 4 6 44] ⟨.all, [(9, some 10)], .look 0 (.look 1 (.look 2 (.look 4 (.look 5 (.look 6 (.run 3 true (.run 7 true (.run 8 true (.pre 9 10 (.fill .done))))))))))⟩)
 (.seq (.draw [
 oO 45 (.load 4 true (.t 6)),
 oO 46 (.load 4 true (.t 3)),
 oK 47 F_witanref01_sub [.t 45, .t 46],
 oO 48 (.load 4 true (.t 5)),
 oK 49 F_witanref01_sub [.t 47, .t 48],
 ⟨none, .stA 1 4 4 (.t 6) (.t 49), none⟩] ⟨.all, [], .look 0 (.look 1 (.look 3 (.run 2 true (.run 4 false (.run 5 false .done)))))⟩)
 (.seq (.ops [
 oO 50 (.load 4 true (.t 6)),
 oO 51 (.load 4 true (.t 6)),
 oK 52 F_witanref01_add [.t 50, .t 51],
 ⟨none, .stA 1 4 4 (.t 6) (.t 52), none⟩])
 (.seq (.draw [
 oO 53 (.load 4 true (.t 3)),
 oO 54 (.load 4 true (.t 3)),
 oK 55 F_witanref01_add [.t 53, .t 54],
 oO 56 (.load 4 true (.t 3)),
 oK 57 F_witanref01_add [.t 55, .t 56],
 oO 7 (.alloc 1 4 [.int .u64 0]),
 oS 4 7 57] ⟨.all, [(5, some 6)], .look 0 (.look 1 (.look 3 (.run 2 true (.run 4 true (.pre 5 6 (.fill .done))))))⟩)
 (.seq (.draw [
 oO 58 (.load 4 true (.t 7)),
 oO 59 (.load 4 true (.t 7)),
 oK 60 F_witanref01_mul [.t 58, .t 59],
 oO 61 (.load 4 true (.t 6)),
 oO 62 (.load 4 true (.t 6)),
 oK 63 F_witanref01_add [.t 61, .t 62],
 oK 64 F_witanref01_sub [.t 60, .t 63],
 oO 8 (.alloc 1 4 [.int .u64 0]),
 oS 4 8 64] ⟨.all, [(7, some 8)], .look 0 (.look 1 (.look 3 (.look 4 (.run 2 true (.run 5 true (.run 6 true (.pre 7 8 (.fill .done))))))))⟩)
 (.seq (.ops [
 oO 65 (.load 4 true (.t 5)),
 oO 66 (.load 4 true (.t 5)),
 oK 67 F_witanref01_add [.t 65, .t 66],
 ⟨none, .stA 1 4 4 (.t 5) (.t 67), none⟩])
 (.seq (.ops [
 oO 68 (.load 4 true (.t 5)),
 oO 69 (.load 4 true (.t 5)),
 oK 70 F_witanref01_add [.t 68, .t 69],
 ⟨none, .stA 1 4 4 (.t 5) (.t 70), none⟩])
 (.seq (.ops [
 oO 71 (.load 4 true (.t 5)),
 oO 72 (.load 4 true (.t 5)),
 oK 73 F_witanref01_add [.t 71, .t 72],
 ⟨none, .stA 1 4 4 (.t 5) (.t 73), none⟩])
 (.seq (.draw [
 oO 74 (.load 4 true (.t 7)),
 oO 75 (.load 4 true (.t 6)),
 oO 76 (.load 4 true (.t 8)),
 oK 77 F_witanref01_sub [.t 75, .t 76],
 oK 78 F_witanref01_mul [.t 74, .t 77],
 oO 79 (.load 4 true (.t 5)),
 oK 80 F_witanref01_sub [.t 78, .t 79],
 oO 9 (.alloc 1 4 [.int .u64 0]),
 oS 4 9 80] ⟨.all, [(7, some 8)], .look 0 (.look 1 (.look 2 (.look 5 (.run 3 true (.run 4 true (.run 6 true (.pre 7 8 (.fill .done))))))))⟩)
 (.seq (.ops [
 oO 81 (.fldA 4 (.t 1)),
 oO 82 (.load 4 true (.t 81)),
 oO 83 (.fldA 8 (.t 1)),
 oO 84 (.load 4 true (.t 83)),
 oK 85 F_witanref01_mul [.t 82, .t 84],
 oO 10 (.alloc 1 4 [.int .u64 0]),
 ⟨none, .stA 1 4 4 (.t 10) (.t 85), none⟩])
 (.seq (.draw [
 oO 86 (.load 4 true (.t 8)),
 oO 87 (.load 4 true (.t 9)),
 oO 88 (.load 4 true (.t 10)),
 oO 89 (.load 4 true (.t 10)),
 oK 90 F_witanref01_add [.t 88, .t 89],
 oO 91 (.build (List.replicate 12 (.int .u64 0)) [(0, 4, .t 86), (4, 4, .t 87), (8, 4, .t 90)]),
 ⟨none, .stA 12 1 12 (.t 2) (.t 91), none⟩] ⟨.all, [], .look 0 (.look 1 (.look 2 (.look 3 (.run 4 true (.look 5 (.run 6 false .done))))))⟩)
 .ret)))))))))))))))⟩
theorem K_witanref01_twice : chkFun DK Pg Try.f134 A_witanref01_twice = true := by kernel_rfl
theorem B_witanref01_twice {args : List AV} {m : Mem} {K : AV → Mem → Prop} (h : vcFun DK Pg A_witanref01_twice args m K) : ACall Pg F_witanref01_twice args m K := call_body mixed Try.func134 (by kernel_rfl) K_witanref01_twice h

noncomputable def A_witanref01_Bit : AFun := ⟨2, 21, [.t 4],
 (.seq (.ops [
 oO 2 (.box 1 4 (.t 0)),
 oO 4 (.mv (.c (.int .i64 0)))])
 (.seq (.seq (.ops [
 oM 5 1,
 oO 6 (.bin .lss (.t 5) (.c (.int .i64 0))),
 oM 7 6,
 oG 8 (.mv (.t 1)) 7 false,
 oG 9 (.bin .gtr (.t 8) (.c (.int .i64 255))) 7 false,
 oO 10 (.pick (.t 7) (.c (.bool true)) (.t 9))])
 (.cond (.t 10)
 (.seq (.ops [
 oO 4 (.mv (.c (.int .i64 0)))])
 .ret)
 .skip))
 (.seq (.ops [
 oM 11 1,
 oO 12 (.bin .quo (.t 11) (.c (.int .i64 64))),
 oO 13 (.idxP 4 1 (.t 2) (.t 12)),
 oO 14 (.load 1 false (.t 13)),
 oM 15 1,
 oO 16 (.bin .rem (.t 15) (.c (.int .i64 64))),
 oO 17 (.conv .u64 (.t 16)),
 oO 18 (.bin .shr (.t 14) (.t 17)),
 oO 19 (.bin .and (.t 18) (.c (.int .u64 1))),
 oO 20 (.conv .i64 (.t 19)),
 oM 4 20])
 .ret)))⟩
theorem K_witanref01_Bit : chkFun DK Pg Try.f135 A_witanref01_Bit = true := by kernel_rfl
theorem B_witanref01_Bit {args : List AV} {m : Mem} {K : AV → Mem → Prop} (h : vcFun DK Pg A_witanref01_Bit args m K) : ACall Pg F_witanref01_Bit args m K := call_body mixed Try.func135 (by kernel_rfl) K_witanref01_Bit h

end Go.Proofs.Ytdeholmpcbakbaa
end

