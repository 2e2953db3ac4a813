/- Texts of a proof, one behind the other; the last of these: The told forms of the functions that this seat reaches, each held against the program by a closed test; no condition. -/
import Derived.Test.YtfolpdmbpbbimaaZ4
import Derived.Test.YtfolpdmbpbbimaaProg
section
/- The told forms of the functions that this seat reaches, each held against the program by a closed test; no condition. -/
set_option maxRecDepth 100000
set_option maxHeartbeats 1000000
namespace Go.Proofs.Ytfolpdmbpbbimaa
open Go Go.Wit

noncomputable abbrev Pg : Program := Try.prog
def oM (d s : Nat) : AOpr := ⟨some d, .mv (.t s), none⟩
def oK (d f : Nat) (l : List Opn) : AOpr := ⟨some d, .call (.c (.fn f [])) l, none⟩
def oO (d : Nat) (o : AOp) : AOpr := ⟨some d, o, none⟩
def oG (d : Nat) (o : AOp) (t : Nat) (b : Bool) : AOpr := ⟨some d, o, some (t, b)⟩
def oS (z a b : Nat) : AOpr := ⟨none, .store z (.t a) (.t b), none⟩
abbrev F_witanlaw21_DealSecrets : Nat := 3
abbrev F_witanlaw21_DealSubmits : Nat := 9
abbrev F_witanlaw21_DealLong : Nat := 10
abbrev F_deal_Secret : Nat := 11
abbrev F_deal_Poly : Nat := 12
abbrev F_field_Prime : Nat := 13
abbrev F_limb_Cmp : Nat := 14
abbrev F_witankeep_Nums : Nat := 15
abbrev F_witanlaw21_wakes : Nat := 16
abbrev F_act_Check : Nat := 21
abbrev F_curve_Base : Nat := 28
abbrev F_deal_Post : Nat := 29
abbrev F_poly_Eval : Nat := 30
abbrev F_pair_Key : Nat := 31
abbrev F_pair_Open : Nat := 32
abbrev F_deal_Submit : Nat := 34
abbrev F_deal_Register : Nat := 35
abbrev F_curve_Times : Nat := 36
abbrev F_contract_Base : Nat := 37
abbrev F_dleq_Holds : Nat := 38
abbrev F_witankeep_Point : Nat := 39
abbrev F_deal_Share : Nat := 40
abbrev F_deal_Dispute : Nat := 41
abbrev F_deal_Final : Nat := 42
abbrev F_deal_long : Nat := 43
abbrev F_draw_Scalar : Nat := 44
abbrev F_deal_some : Nat := 45
abbrev F_deal_scalar : Nat := 46
abbrev F_field_less : Nat := 47
abbrev F_limb_Sub : Nat := 48
abbrev F_act_Open : Nat := 60
abbrev F_act_empty : Nat := 61
abbrev F_act_Registered_check : Nat := 62
abbrev F_act_Posted_check : Nat := 63
abbrev F_act_Disputed_check : Nat := 64
abbrev F_act_Submitted_check : Nat := 65
abbrev F_act_whole : Nat := 74
abbrev F_curve_spread : Nat := 75
abbrev F_curve_base : Nat := 76
abbrev F_curve_jac_times : Nat := 77
abbrev F_curve_jac_point : Nat := 78
abbrev F_deal_number : Nat := 79
abbrev F_curve_Check : Nat := 80
abbrev F_pair_Seal : Nat := 81
abbrev F_deal_place : Nat := 82
abbrev F_feld_Commit : Nat := 83
abbrev F_poly_add : Nat := 84
abbrev F_poly_mul : Nat := 85
abbrev F_pair_turned : Nat := 86
abbrev F_limb_Of : Nat := 87
abbrev F_dleq_Prove : Nat := 92
abbrev F_label_Check : Nat := 93
abbrev F_draw_Point : Nat := 94
abbrev F_curve_Add : Nat := 95
abbrev F_dleq_times : Nat := 96
abbrev F_curve_Two : Nat := 97
abbrev F_dleq_challenge : Nat := 98
abbrev F_deal_share : Nat := 99
abbrev F_field_Add : Nat := 100
abbrev F_draw_joined : Nat := 101
abbrev F_sha_Sum : Nat := 102
abbrev F_draw_with : Nat := 103
abbrev F_limb_Mod : Nat := 104
abbrev F_bin_Put : Nat := 105
abbrev F_bits_Sub64 : Nat := 106
abbrev F_curve_Bytes : Nat := 111
abbrev F_limb_Bytes : Nat := 112
abbrev F_act_point : Nat := 113
abbrev F_act_proof : Nat := 114
abbrev F_limb_Len : Nat := 121
abbrev F_curve_jac_twice : Nat := 122
abbrev F_limb_Bit : Nat := 123
abbrev F_curve_jac_plus : Nat := 124
abbrev F_field_Inv : Nat := 125
abbrev F_curve_mul : Nat := 126
abbrev F_curve_right : Nat := 127
abbrev F_field_Mul : Nat := 128
abbrev F_pair_dealer : Nat := 129
abbrev F_draw_Stream : Nat := 130
abbrev F_field_Sub : Nat := 131
abbrev F_draw_number : Nat := 133
abbrev F_curve_Read : Nat := 134
abbrev F_deal_share_1 : Nat := 135
abbrev F_judge_Place : Nat := 136
abbrev F_feld_Fits : Nat := 137
abbrev F_limb_Add : Nat := 138
abbrev F_field_fold : Nat := 139
abbrev F_sha_rounds : Nat := 140
abbrev F_sha_padded : Nat := 141
abbrev F_sha_high : Nat := 142
abbrev F_bits_RotateLeft32 : Nat := 143
abbrev F_bin_room : Nat := 144
abbrev F_slices_Clone_Sbyte_byte : Nat := 145
abbrev F_bits_Len64 : Nat := 152
abbrev F_curve_add : Nat := 153
abbrev F_curve_sub : Nat := 154
abbrev F_field_Pow : Nat := 155
abbrev F_limb_Mul : Nat := 156
abbrev F_sha_Mac : Nat := 157
abbrev F_field_Red : Nat := 158
abbrev F_field_Read : Nat := 159
abbrev F_field_Root : Nat := 160
abbrev F_judge_dealer : Nat := 161
abbrev F_bits_Add64 : Nat := 163
abbrev F_bits_Mul64 : Nat := 166
theorem mixed : Pg.follows .mixedOrders = true := by kernel_rfl

noncomputable def A_witanlaw21_DealSecrets : AFun := ⟨3, 114, [.t 6],
 (.seq (.ops [
 oO 6 (.mv (.c (.bool false)))])
 (.seq (.ops [
 oM 16 1,
 oO 17 (.conv .u64 (.t 16)),
 oO 18 (.bin .rem (.t 17) (.c (.int .u64 6))),
 oO 19 (.conv .i64 (.t 18)),
 oM 20 2,
 oO 21 (.conv .u64 (.t 20)),
 oO 22 (.bin .rem (.t 21) (.c (.int .u64 6))),
 oO 23 (.conv .i64 (.t 22)),
 oM 1 19,
 oM 2 23])
 (.seq (.seq (.ops [
 oM 24 0,
 oO 25 (.len (.t 24)),
 oO 26 (.bin .gtr (.t 25) (.c (.int .i64 100)))])
 (.cond (.t 26)
 (.seq (.ops [
 oO 6 (.mv (.c (.bool true)))])
 .ret)
 .skip))
 (.seq (.ops [
 oM 28 0,
 oK 29 F_deal_Secret [.t 28],
 oM 27 29,
 oO 30 (.ext (.t 27) 0),
 oO 31 (.ext (.t 27) 1),
 oO 7 (.alloc 1 4 [.int .u64 0]),
 ⟨none, .stA 1 4 4 (.t 7) (.t 30), none⟩,
 oM 8 31])
 (.seq (.ops [
 oM 33 0,
 oM 34 1,
 oK 35 F_deal_Poly [.t 33, .t 34],
 oM 32 35,
 oO 36 (.ext (.t 32) 0),
 oO 37 (.ext (.t 32) 1),
 oM 9 36,
 oM 10 37])
 (.seq (.ops [
 oM 39 0,
 oM 40 2,
 oK 41 F_deal_Poly [.t 39, .t 40],
 oM 38 41,
 oO 42 (.ext (.t 38) 0),
 oO 43 (.ext (.t 38) 1),
 oM 11 42,
 oM 12 43])
 (.seq (.seq (.ops [
 oM 44 8,
 oO 45 (.bin .neq (.t 44) (.c (.int .i64 0))),
 oM 46 45,
 oG 47 (.mv (.t 10)) 46 false,
 oG 48 (.bin .neq (.t 47) (.c (.int .i64 0))) 46 false,
 oO 49 (.pick (.t 46) (.c (.bool true)) (.t 48)),
 oM 50 49,
 oG 51 (.mv (.t 12)) 50 false,
 oG 52 (.bin .neq (.t 51) (.c (.int .i64 0))) 50 false,
 oO 53 (.pick (.t 50) (.c (.bool true)) (.t 52)),
 oM 54 53,
 oG 55 (.mv (.t 9)) 54 false,
 oG 56 (.len (.t 55)) 54 false,
 oG 57 (.mv (.t 1)) 54 false,
 oG 58 (.bin .add (.t 57) (.c (.int .i64 1))) 54 false,
 oG 59 (.bin .neq (.t 56) (.t 58)) 54 false,
 oO 60 (.pick (.t 54) (.c (.bool true)) (.t 59)),
 oM 61 60,
 oG 62 (.mv (.t 11)) 61 false,
 oG 63 (.len (.t 62)) 61 false,
 oG 64 (.mv (.t 2)) 61 false,
 oG 65 (.bin .add (.t 64) (.c (.int .i64 1))) 61 false,
 oG 66 (.bin .neq (.t 63) (.t 65)) 61 false,
 oO 67 (.pick (.t 61) (.c (.bool true)) (.t 66))])
 (.cond (.t 67)
 (.seq (.ops [
 oO 6 (.mv (.c (.bool false)))])
 .ret)
 .skip))
 (.seq (.ops [
 oK 68 F_field_Prime [.c (.int .i64 1)],
 oO 13 (.alloc 1 4 [.int .u64 0]),
 ⟨none, .stA 1 4 4 (.t 13) (.t 68), none⟩])
 (.seq (.ops [
 oM 69 1,
 oM 70 2,
 oO 71 (.mn (.t 69) (.t 70)),
 oO 72 (.bin .add (.t 71) (.c (.int .i64 1))),
 oM 14 72])
 (.seq (.seq (.ops [
 oO 15 (.mv (.c (.int .i64 0)))])
 (.block 0
 (.loop
 (.seq (.seq (.ops [
 oM 73 15,
 oM 74 9,
 oO 75 (.len (.t 74)),
 oO 76 (.bin .lss (.t 73) (.t 75))])
 (.cond (.t 76)
 .skip
 (.exit 0)))
 (.seq (.block 1
 (.seq (.draw [
 oM 79 9,
 oM 80 15,
 oO 81 (.idxA 4 (.t 79) (.t 80)),
 oO 82 (.load 4 true (.t 81)),
 oO 83 (.load 4 true (.t 13)),
 oK 84 F_limb_Cmp [.t 82, .t 83],
 oO 85 (.bin .geq (.t 84) (.c (.int .i64 0)))] ⟨.all, [], .look 0 (.look 1 (.look 2 (.look 3 (.look 4 (.run 5 true (.look 6 .done))))))⟩)
 (.cond (.t 85)
 (.seq (.ops [
 oO 6 (.mv (.c (.bool false)))])
 .ret)
 .skip)))
 (.ops [
 oM 77 15,
 oO 78 (.bin .add (.t 77) (.c (.int .i64 1))),
 oM 15 78]))))))
 (.seq (.draw [
 oO 86 (.load 4 true (.t 7)),
 oO 87 (.build [.int .u64 0, .int .u64 0, .int .u64 0, .int .u64 0] []),
 oO 88 (.eqa [.i, .i, .i, .i] true (.t 86) (.t 87)),
 oM 89 88,
 oG 90 (.mv (.t 9)) 89 true,
 oG 91 (.idxA 4 (.t 90) (.c (.int .i64 0))) 89 true,
 oG 92 (.load 4 true (.t 91)) 89 true,
 oG 93 (.build [.int .u64 0, .int .u64 0, .int .u64 0, .int .u64 0] []) 89 true,
 oG 94 (.eqa [.i, .i, .i, .i] true (.t 92) (.t 93)) 89 true,
 oO 95 (.pick (.t 89) (.t 94) (.c (.bool false))),
 oM 96 95,
 oG 97 (.load 4 true (.t 7)) 96 true,
 oG 98 (.load 4 true (.t 13)) 96 true,
 oG 99 (.call (.c (.fn F_limb_Cmp [])) [.t 97, .t 98]) 96 true,
 oG 100 (.bin .lss (.t 99) (.c (.int .i64 0))) 96 true,
 oO 101 (.pick (.t 96) (.t 100) (.c (.bool false))),
 oM 102 101,
 oG 103 (.mv (.t 9)) 102 true,
 oG 104 (.mv (.t 14)) 102 true,
 oG 105 (.slice 4 (.t 103) none (some (.t 104)) none) 102 true,
 oG 106 (.mv (.t 11)) 102 true,
 oG 107 (.mv (.t 14)) 102 true,
 oG 108 (.slice 4 (.t 106) none (some (.t 107)) none) 102 true,
 oG 109 (.call (.c (.fn F_witankeep_Nums [])) [.t 105, .t 108]) 102 true,
 oO 110 (.pick (.t 102) (.t 109) (.c (.bool false))),
 oM 111 110,
 oG 112 (.call (.c (.fn F_witanlaw21_wakes [])) []) 111 true,
 oO 113 (.pick (.t 111) (.t 112) (.c (.bool false))),
 oM 6 113] ⟨.all, [], .look 0 (.look 1 (.look 2 (.look 3 (.look 4 (.look 5 (.look 6 (.look 7 (.look 8 (.look 9 (.look 10 (.look 11 (.look 12 (.run 13 true (.look 14 (.look 15 (.look 16 (.look 17 (.look 18 (.look 19 (.look 20 (.look 21 (.look 22 (.run 23 true (.look 24 (.look 25 (.run 26 true (.look 27 (.look 28 .done))))))))))))))))))))))))))))⟩)
 .ret)))))))))))⟩
theorem K_witanlaw21_DealSecrets : chkFun DK Pg Try.f3 A_witanlaw21_DealSecrets = true := by kernel_rfl
theorem B_witanlaw21_DealSecrets {args : List AV} {m : Mem} {K : AV → Mem → Prop} (h : vcFun DK Pg A_witanlaw21_DealSecrets args m K) : ACall Pg F_witanlaw21_DealSecrets args m K := call_body mixed Try.func3 (by kernel_rfl) K_witanlaw21_DealSecrets h

noncomputable def A_witanlaw21_DealSubmits : AFun := ⟨1, 111, [.t 2],
 (.seq (.ops [
 oO 2 (.mv (.c (.bool false)))])
 (.seq (.seq (.ops [
 oM 13 0,
 oO 14 (.len (.t 13)),
 oO 15 (.bin .gtr (.t 14) (.c (.int .i64 100)))])
 (.cond (.t 15)
 (.seq (.ops [
 oO 2 (.mv (.c (.bool true)))])
 .ret)
 .skip))
 (.seq (.ops [
 oM 17 0,
 oK 18 F_deal_Submit [.t 17],
 oM 16 18,
 oO 19 (.ext (.t 16) 0),
 oO 20 (.ext (.t 16) 1),
 ⟨some 3, .alloc 22 1 [.int .i64 0, .bool false, .int .u64 0, .int .u64 0, .int .u64 0, .int .u64 0, .int .u64 0, .int .u64 0, .int .u64 0, .int .u64 0, .str ⟨#[]⟩, .nils, .nils, .int .i64 0, .int .u64 0, .int .u64 0, .int .u64 0, .int .u64 0, .int .u64 0, .int .u64 0, .int .u64 0, .int .u64 0], none⟩,
 oS 22 3 19,
 oM 4 20])
 (.seq (.ops [
 oM 22 0,
 oK 23 F_deal_Poly [.t 22, .c (.int .i64 0)],
 oM 21 23,
 oO 24 (.ext (.t 21) 0),
 oO 25 (.ext (.t 21) 1),
 oM 5 24,
 oM 6 25])
 (.seq (.ops [
 oM 27 0,
 oK 28 F_deal_Secret [.t 27],
 oM 26 28,
 oO 29 (.ext (.t 26) 0),
 oO 30 (.ext (.t 26) 1),
 oO 7 (.alloc 1 4 [.int .u64 0]),
 ⟨none, .stA 1 4 4 (.t 7) (.t 29), none⟩,
 oM 8 30])
 (.seq (.ops [
 oM 32 0,
 ⟨some 33, .call (.c (.fn F_deal_Register [])) [.t 32, .c (.str ⟨#[120]⟩)], none⟩,
 oM 31 33,
 oO 34 (.ext (.t 31) 0),
 oO 35 (.ext (.t 31) 1),
 ⟨some 9, .alloc 22 1 [.int .i64 0, .bool false, .int .u64 0, .int .u64 0, .int .u64 0, .int .u64 0, .int .u64 0, .int .u64 0, .int .u64 0, .int .u64 0, .str ⟨#[]⟩, .nils, .nils, .int .i64 0, .int .u64 0, .int .u64 0, .int .u64 0, .int .u64 0, .int .u64 0, .int .u64 0, .int .u64 0, .int .u64 0], none⟩,
 oS 22 9 34,
 oM 10 35])
 (.seq (.seq (.ops [
 oM 36 4,
 oO 37 (.bin .neq (.t 36) (.c (.int .i64 0))),
 oM 38 37,
 oG 39 (.mv (.t 6)) 38 false,
 oG 40 (.bin .neq (.t 39) (.c (.int .i64 0))) 38 false,
 oO 41 (.pick (.t 38) (.c (.bool true)) (.t 40)),
 oM 42 41,
 oG 43 (.mv (.t 8)) 42 false,
 oG 44 (.bin .neq (.t 43) (.c (.int .i64 0))) 42 false,
 oO 45 (.pick (.t 42) (.c (.bool true)) (.t 44)),
 oM 46 45,
 oG 47 (.mv (.t 10)) 46 false,
 oG 48 (.bin .neq (.t 47) (.c (.int .i64 0))) 46 false,
 oO 49 (.pick (.t 46) (.c (.bool true)) (.t 48)),
 oM 50 49,
 oG 51 (.mv (.t 5)) 50 false,
 oG 52 (.len (.t 51)) 50 false,
 oG 53 (.bin .neq (.t 52) (.c (.int .i64 1))) 50 false,
 oO 54 (.pick (.t 50) (.c (.bool true)) (.t 53))])
 (.cond (.t 54)
 (.seq (.ops [
 oO 2 (.mv (.c (.bool false)))])
 .ret)
 .skip))
 (.seq (.draw [
 oM 56 5,
 oO 57 (.idxA 4 (.t 56) (.c (.int .i64 0))),
 oO 58 (.load 4 true (.t 57)),
 oK 59 F_contract_Base [],
 oK 60 F_curve_Times [.t 58, .t 59],
 oM 55 60,
 oO 61 (.ext (.t 55) 0),
 oO 62 (.ext (.t 55) 1),
 oO 11 (.alloc 9 1 [.bool false, .int .u64 0, .int .u64 0, .int .u64 0, .int .u64 0, .int .u64 0, .int .u64 0, .int .u64 0, .int .u64 0]),
 oS 9 11 61,
 oM 4 62] ⟨.all, [(8, some 9)], .look 0 (.look 1 (.look 2 (.run 3 true (.run 4 true (.look 5 (.look 6 (.pre 8 9 (.look 7 (.fill (.look 10 .done))))))))))⟩)
 (.seq (.draw [
 oM 64 5,
 oO 65 (.idxA 4 (.t 64) (.c (.int .i64 0))),
 oO 66 (.load 4 true (.t 65)),
 oK 67 F_curve_Base [.t 66],
 oK 68 F_contract_Base [],
 oO 69 (.fldA 1 (.t 3)),
 oO 70 (.load 9 true (.t 69)),
 oO 71 (.fldA 14 (.t 3)),
 oO 72 (.load 8 true (.t 71)),
 oK 73 F_dleq_Holds [.t 67, .t 68, .t 70, .t 72],
 oM 63 73,
 oO 74 (.ext (.t 63) 0),
 oO 75 (.ext (.t 63) 1),
 oM 12 74,
 oM 6 75] ⟨.all, [], .look 0 (.look 1 (.look 2 (.look 5 (.look 6 (.look 7 (.look 8 (.run 3 true (.run 4 true (.run 9 false (.look 10 (.look 11 (.look 12 (.look 13 (.look 14 .done))))))))))))))⟩)
 (.seq (.draw [
 oM 76 4,
 oO 77 (.bin .eql (.t 76) (.c (.int .i64 0))),
 oM 78 77,
 oG 79 (.mv (.t 6)) 78 true,
 oG 80 (.bin .eql (.t 79) (.c (.int .i64 0))) 78 true,
 oO 81 (.pick (.t 78) (.t 80) (.c (.bool false))),
 oM 82 81,
 oG 83 (.mv (.t 12)) 82 true,
 oO 84 (.pick (.t 82) (.t 83) (.c (.bool false))),
 oM 85 84,
 oG 86 (.load 9 true (.t 11)) 85 true,
 oG 87 (.fldA 1 (.t 3)) 85 true,
 oG 88 (.load 9 true (.t 87)) 85 true,
 oG 89 (.call (.c (.fn F_witankeep_Point [])) [.t 86, .t 88]) 85 true,
 oO 90 (.pick (.t 85) (.t 89) (.c (.bool false))),
 oM 91 90,
 oG 92 (.fldA 1 (.t 9)) 91 true,
 oG 93 (.load 9 true (.t 92)) 91 true,
 oG 94 (.load 4 true (.t 7)) 91 true,
 oG 95 (.call (.c (.fn F_curve_Base [])) [.t 94]) 91 true,
 oG 96 (.call (.c (.fn F_witankeep_Point [])) [.t 93, .t 95]) 91 true,
 oO 97 (.pick (.t 91) (.t 96) (.c (.bool false))),
 oM 98 97,
 oG 99 (.load 22 true (.t 3)) 98 true,
 oG 100 (.call (.c (.fn F_act_Check [])) [.t 99]) 98 true,
 oG 101 (.bin .eql (.t 100) (.c (.int .i64 0))) 98 true,
 oO 102 (.pick (.t 98) (.t 101) (.c (.bool false))),
 oM 103 102,
 oG 104 (.load 22 true (.t 9)) 103 true,
 oG 105 (.call (.c (.fn F_act_Check [])) [.t 104]) 103 true,
 oG 106 (.bin .eql (.t 105) (.c (.int .i64 0))) 103 true,
 oO 107 (.pick (.t 103) (.t 106) (.c (.bool false))),
 oM 108 107,
 oG 109 (.call (.c (.fn F_witanlaw21_wakes [])) []) 108 true,
 oO 110 (.pick (.t 108) (.t 109) (.c (.bool false))),
 oM 2 110] ⟨.all, [], .look 0 (.look 1 (.look 2 (.look 3 (.look 4 (.look 5 (.look 6 (.look 7 (.look 8 (.look 9 (.look 10 (.look 11 (.look 12 (.run 13 true (.look 14 (.look 15 (.look 16 (.look 17 (.look 18 (.run 19 true (.run 20 true (.look 21 (.look 22 (.look 23 (.run 24 true (.look 25 (.look 26 (.look 27 (.look 28 (.run 29 true (.look 30 (.look 31 (.look 32 (.run 33 true (.look 34 (.look 35 .done)))))))))))))))))))))))))))))))))))⟩)
 .ret))))))))))⟩
theorem K_witanlaw21_DealSubmits : chkFun DK Pg Try.f9 A_witanlaw21_DealSubmits = true := by kernel_rfl
theorem B_witanlaw21_DealSubmits {args : List AV} {m : Mem} {K : AV → Mem → Prop} (h : vcFun DK Pg A_witanlaw21_DealSubmits args m K) : ACall Pg F_witanlaw21_DealSubmits args m K := call_body mixed Try.func9 (by kernel_rfl) K_witanlaw21_DealSubmits h

noncomputable def A_witanlaw21_DealLong : AFun := ⟨1, 133, [.t 2],
 (.seq (.ops [
 oO 2 (.mv (.c (.bool false)))])
 (.seq (.ops [
 oM 23 0,
 oO 24 (.conv .u64 (.t 23)),
 oO 25 (.bin .rem (.t 24) (.c (.int .u64 2))),
 oO 26 (.conv .i64 (.t 25)),
 oM 0 26])
 (.seq (.ops [
 oM 27 0,
 oO 28 (.bin .add (.c (.int .i64 16384)) (.t 27)),
 oO 29 (.mksl 1 1 [.int .u8 0] (.t 28) (.t 28)),
 oM 3 29])
 (.seq (.ops [
 oM 31 3,
 oK 32 F_deal_Secret [.t 31],
 oM 30 32,
 oO 33 (.ext (.t 30) 0),
 oO 34 (.ext (.t 30) 1),
 oO 4 (.alloc 1 4 [.int .u64 0]),
 ⟨none, .stA 1 4 4 (.t 4) (.t 33), none⟩,
 oM 5 34])
 (.seq (.ops [
 oM 36 3,
 oK 37 F_deal_Poly [.t 36, .c (.int .i64 1)],
 oM 35 37,
 oO 38 (.ext (.t 35) 0),
 oO 39 (.ext (.t 35) 1),
 oM 6 38,
 oM 7 39])
 (.seq (.ops [
 oM 41 3,
 ⟨some 42, .call (.c (.fn F_deal_Register [])) [.t 41, .c (.str ⟨#[120]⟩)], none⟩,
 oM 40 42,
 oO 43 (.ext (.t 40) 0),
 oO 44 (.ext (.t 40) 1),
 ⟨some 8, .alloc 22 1 [.int .i64 0, .bool false, .int .u64 0, .int .u64 0, .int .u64 0, .int .u64 0, .int .u64 0, .int .u64 0, .int .u64 0, .int .u64 0, .str ⟨#[]⟩, .nils, .nils, .int .i64 0, .int .u64 0, .int .u64 0, .int .u64 0, .int .u64 0, .int .u64 0, .int .u64 0, .int .u64 0, .int .u64 0], none⟩,
 oS 22 8 43,
 oM 9 44])
 (.seq (.ops [
 oM 46 3,
 oO 47 (.build [.int .u64 0, .int .u64 0, .int .u64 0, .int .u64 0] [(0, 1, .c (.int .u64 1))]),
 oK 48 F_curve_Base [.t 47],
 ⟨some 49, .build [.int .i64 0, .bool false, .int .u64 0, .int .u64 0, .int .u64 0, .int .u64 0, .int .u64 0, .int .u64 0, .int .u64 0, .int .u64 0, .str ⟨#[]⟩, .int .i64 0, .bool false, .nils, .nils, .bool false, .bool false, .bool false, .int .u64 0, .int .u64 0, .int .u64 0, .int .u64 0, .int .u64 0, .int .u64 0, .int .u64 0, .int .u64 0] [(1, 9, .t 48)], none⟩,
 ⟨some 50, .bsl 26 1 [.int .i64 0, .bool false, .int .u64 0, .int .u64 0, .int .u64 0, .int .u64 0, .int .u64 0, .int .u64 0, .int .u64 0, .int .u64 0, .str ⟨#[]⟩, .int .i64 0, .bool false, .nils, .nils, .bool false, .bool false, .bool false, .int .u64 0, .int .u64 0, .int .u64 0, .int .u64 0, .int .u64 0, .int .u64 0, .int .u64 0, .int .u64 0] [(0, 26, .t 49)], none⟩,
 oK 51 F_deal_Post [.t 46, .c (.int .i64 1), .t 50, .c (.int .i64 1)],
 oM 45 51,
 oO 52 (.ext (.t 45) 0),
 oO 53 (.ext (.t 45) 1),
 ⟨some 10, .alloc 22 1 [.int .i64 0, .bool false, .int .u64 0, .int .u64 0, .int .u64 0, .int .u64 0, .int .u64 0, .int .u64 0, .int .u64 0, .int .u64 0, .str ⟨#[]⟩, .nils, .nils, .int .i64 0, .int .u64 0, .int .u64 0, .int .u64 0, .int .u64 0, .int .u64 0, .int .u64 0, .int .u64 0, .int .u64 0], none⟩,
 oS 22 10 52,
 oM 11 53])
 (.seq (.ops [
 oM 55 3,
 oK 56 F_deal_Share [.t 55, .c (.nils), .c (.int .i64 1), .c (.int .i64 2)],
 oM 54 56,
 oO 57 (.ext (.t 54) 0),
 oO 58 (.ext (.t 54) 1),
 oO 59 (.ext (.t 54) 2),
 oO 12 (.alloc 1 4 [.int .u64 0]),
 ⟨none, .stA 1 4 4 (.t 12) (.t 57), none⟩,
 oM 13 58,
 oM 14 59])
 (.seq (.ops [
 oM 61 3,
 oK 62 F_deal_Dispute [.t 61, .c (.nils), .c (.int .i64 1), .c (.int .i64 2)],
 oM 60 62,
 oO 63 (.ext (.t 60) 0),
 oO 64 (.ext (.t 60) 1),
 ⟨some 15, .alloc 22 1 [.int .i64 0, .bool false, .int .u64 0, .int .u64 0, .int .u64 0, .int .u64 0, .int .u64 0, .int .u64 0, .int .u64 0, .int .u64 0, .str ⟨#[]⟩, .nils, .nils, .int .i64 0, .int .u64 0, .int .u64 0, .int .u64 0, .int .u64 0, .int .u64 0, .int .u64 0, .int .u64 0, .int .u64 0], none⟩,
 oS 22 15 63,
 oM 16 64])
 (.seq (.ops [
 oM 66 3,
 oK 67 F_deal_Submit [.t 66],
 oM 65 67,
 oO 68 (.ext (.t 65) 0),
 oO 69 (.ext (.t 65) 1),
 ⟨some 17, .alloc 22 1 [.int .i64 0, .bool false, .int .u64 0, .int .u64 0, .int .u64 0, .int .u64 0, .int .u64 0, .int .u64 0, .int .u64 0, .int .u64 0, .str ⟨#[]⟩, .nils, .nils, .int .i64 0, .int .u64 0, .int .u64 0, .int .u64 0, .int .u64 0, .int .u64 0, .int .u64 0, .int .u64 0, .int .u64 0], none⟩,
 oS 22 17 68,
 oM 18 69])
 (.seq (.ops [
 oM 71 3,
 ⟨some 72, .build [.int .i64 0, .bool false, .int .u64 0, .int .u64 0, .int .u64 0, .int .u64 0, .int .u64 0, .int .u64 0, .int .u64 0, .int .u64 0, .str ⟨#[]⟩, .int .i64 0, .bool false, .nils, .nils, .bool false, .bool false, .bool false, .int .u64 0, .int .u64 0, .int .u64 0, .int .u64 0, .int .u64 0, .int .u64 0, .int .u64 0, .int .u64 0] [], none⟩,
 ⟨some 73, .bsl 26 1 [.int .i64 0, .bool false, .int .u64 0, .int .u64 0, .int .u64 0, .int .u64 0, .int .u64 0, .int .u64 0, .int .u64 0, .int .u64 0, .str ⟨#[]⟩, .int .i64 0, .bool false, .nils, .nils, .bool false, .bool false, .bool false, .int .u64 0, .int .u64 0, .int .u64 0, .int .u64 0, .int .u64 0, .int .u64 0, .int .u64 0, .int .u64 0] [(0, 26, .t 72)], none⟩,
 oK 74 F_deal_Final [.t 71, .c (.int .i64 1), .t 73, .c (.int .i64 1)],
 oM 70 74,
 oO 75 (.ext (.t 70) 0),
 oO 76 (.ext (.t 70) 1),
 oO 19 (.alloc 1 4 [.int .u64 0]),
 ⟨none, .stA 1 4 4 (.t 19) (.t 75), none⟩,
 oM 20 76])
 (.seq (.seq (.ops [
 oM 77 0,
 oO 78 (.bin .eql (.t 77) (.c (.int .i64 0)))])
 (.cond (.t 78)
 (.seq (.ops [
 oM 79 5,
 oO 80 (.bin .eql (.t 79) (.c (.int .i64 0))),
 oM 81 80,
 oG 82 (.mv (.t 7)) 81 true,
 oG 83 (.bin .eql (.t 82) (.c (.int .i64 0))) 81 true,
 oO 84 (.pick (.t 81) (.t 83) (.c (.bool false))),
 oM 85 84,
 oG 86 (.mv (.t 9)) 85 true,
 oG 87 (.bin .eql (.t 86) (.c (.int .i64 0))) 85 true,
 oO 88 (.pick (.t 85) (.t 87) (.c (.bool false))),
 oM 89 88,
 oG 90 (.mv (.t 11)) 89 true,
 oG 91 (.bin .eql (.t 90) (.c (.int .i64 0))) 89 true,
 oO 92 (.pick (.t 89) (.t 91) (.c (.bool false))),
 oM 93 92,
 oG 94 (.mv (.t 14)) 93 true,
 oG 95 (.bin .eql (.t 94) (.c (.int .i64 5))) 93 true,
 oO 96 (.pick (.t 93) (.t 95) (.c (.bool false))),
 oM 97 96,
 oG 98 (.mv (.t 16)) 97 true,
 oG 99 (.bin .eql (.t 98) (.c (.int .i64 5))) 97 true,
 oO 100 (.pick (.t 97) (.t 99) (.c (.bool false))),
 oM 101 100,
 oG 102 (.mv (.t 18)) 101 true,
 oG 103 (.bin .eql (.t 102) (.c (.int .i64 0))) 101 true,
 oO 104 (.pick (.t 101) (.t 103) (.c (.bool false))),
 oM 105 104,
 oG 106 (.mv (.t 20)) 105 true,
 oG 107 (.bin .eql (.t 106) (.c (.int .i64 0))) 105 true,
 oO 108 (.pick (.t 105) (.t 107) (.c (.bool false))),
 oM 109 108,
 oG 110 (.call (.c (.fn F_witanlaw21_wakes [])) []) 109 true,
 oO 111 (.pick (.t 109) (.t 110) (.c (.bool false))),
 oM 2 111])
 .ret)
 .skip))
 (.seq (.ops [
 oM 112 5,
 oM 113 7,
 oM 114 9,
 oM 115 11,
 oM 116 14,
 oM 117 16,
 oM 118 18,
 oM 119 20,
 oO 120 (.bsl 1 8 [.int .i64 0] [(0, 1, .t 112), (1, 1, .t 113), (2, 1, .t 114), (3, 1, .t 115), (4, 1, .t 116), (5, 1, .t 117), (6, 1, .t 118), (7, 1, .t 119)]),
 oM 21 120])
 (.seq (.seq (.ops [
 oO 22 (.mv (.c (.int .i64 0)))])
 (.block 0
 (.loop
 (.seq (.seq (.ops [
 oM 121 22,
 oM 122 21,
 oO 123 (.len (.t 122)),
 oO 124 (.bin .lss (.t 121) (.t 123))])
 (.cond (.t 124)
 .skip
 (.exit 0)))
 (.seq (.block 1
 (.seq (.ops [
 oM 127 21,
 oM 128 22,
 oO 129 (.idxA 1 (.t 127) (.t 128)),
 oO 130 (.load 1 false (.t 129)),
 oO 131 (.bin .neq (.t 130) (.c (.int .i64 4)))])
 (.cond (.t 131)
 (.seq (.ops [
 oO 2 (.mv (.c (.bool false)))])
 .ret)
 .skip)))
 (.ops [
 oM 125 22,
 oO 126 (.bin .add (.t 125) (.c (.int .i64 1))),
 oM 22 126]))))))
 (.seq (.ops [
 oK 132 F_witanlaw21_wakes [],
 oM 2 132])
 .ret)))))))))))))))⟩
theorem K_witanlaw21_DealLong : chkFun DK Pg Try.f10 A_witanlaw21_DealLong = true := by kernel_rfl
theorem B_witanlaw21_DealLong {args : List AV} {m : Mem} {K : AV → Mem → Prop} (h : vcFun DK Pg A_witanlaw21_DealLong args m K) : ACall Pg F_witanlaw21_DealLong args m K := call_body mixed Try.func10 (by kernel_rfl) K_witanlaw21_DealLong h

noncomputable def A_deal_Secret : AFun := ⟨1, 21, [.cell 2 4 true, .t 3],
 (.seq (.ops [
 oO 2 (.alloc 1 4 [.int .u64 0]),
 oO 3 (.mv (.c (.int .i64 0)))])
 (.seq (.seq (.ops [
 oM 6 0,
 oK 7 F_deal_long [.t 6]])
 (.cond (.t 7)
 (.seq (.ops [
 oO 8 (.build [.int .u64 0, .int .u64 0, .int .u64 0, .int .u64 0] []),
 ⟨none, .stA 1 4 4 (.t 2) (.t 8), none⟩,
 oO 3 (.mv (.c (.int .i64 4)))])
 .ret)
 .skip))
 (.seq (.ops [
 oM 10 0,
 oO 11 (.bsl 1 1 [.nils] [(0, 1, .t 10)]),
 ⟨some 12, .call (.c (.fn F_draw_Scalar [])) [.c (.str ⟨#[115, 101, 99, 114, 101, 116]⟩), .t 11], none⟩,
 oM 9 12,
 oO 13 (.ext (.t 9) 0),
 oO 14 (.ext (.t 9) 1),
 oO 4 (.alloc 1 4 [.int .u64 0]),
 ⟨none, .stA 1 4 4 (.t 4) (.t 13), none⟩,
 oM 5 14])
 (.seq (.seq (.ops [
 oM 15 5,
 oO 16 (.bin .neq (.t 15) (.c (.int .i64 0)))])
 (.cond (.t 16)
 (.seq (.ops [
 oO 17 (.build [.int .u64 0, .int .u64 0, .int .u64 0, .int .u64 0] []),
 oM 18 5,
 ⟨none, .stA 1 4 4 (.t 2) (.t 17), none⟩,
 oM 3 18])
 .ret)
 .skip))
 (.seq (.ops [
 oO 19 (.load 4 true (.t 4)),
 oK 20 F_deal_some [.t 19],
 ⟨none, .stA 1 4 4 (.t 2) (.t 20), none⟩,
 oO 3 (.mv (.c (.int .i64 0)))])
 .ret)))))⟩
theorem K_deal_Secret : chkFun DK Pg Try.f11 A_deal_Secret = true := by kernel_rfl
theorem B_deal_Secret {args : List AV} {m : Mem} {K : AV → Mem → Prop} (h : vcFun DK Pg A_deal_Secret args m K) : ACall Pg F_deal_Secret args m K := call_body mixed Try.func11 (by kernel_rfl) K_deal_Secret h

noncomputable def A_deal_Poly : AFun := ⟨2, 44, [.t 4, .t 5],
 (.seq (.ops [
 oO 4 (.mv (.c (.nils))),
 oO 5 (.mv (.c (.int .i64 0)))])
 (.seq (.block 0
 (.seq (.ops [
 oM 11 0,
 oK 12 F_deal_long [.t 11],
 oM 10 12])
 (.cond (.t 10)
 (.seq (.ops [
 oO 4 (.mv (.c (.nils))),
 oO 5 (.mv (.c (.int .i64 4)))])
 .ret)
 (.seq (.ops [
 oM 14 1,
 oO 15 (.bin .lss (.t 14) (.c (.int .i64 0))),
 oM 16 15,
 oG 17 (.mv (.t 1)) 16 false,
 oG 18 (.bin .geq (.t 17) (.c (.int .i64 64))) 16 false,
 oO 19 (.pick (.t 16) (.c (.bool true)) (.t 18)),
 oM 13 19])
 (.cond (.t 13)
 (.seq (.ops [
 oO 4 (.mv (.c (.nils))),
 oO 5 (.mv (.c (.int .i64 1)))])
 .ret)
 .skip)))))
 (.seq (.ops [
 oO 6 (.mv (.c (.nils)))])
 (.seq (.seq (.ops [
 oM 20 1,
 oO 21 (.bin .add (.t 20) (.c (.int .i64 1))),
 oO 22 (.mv (.c (.int .i64 0)))])
 (.block 1
 (.loop
 (.seq (.ops [
 oO 23 (.bin .lss (.t 22) (.t 21))])
 (.seq (.cond (.t 23)
 .skip
 (.exit 1))
 (.seq (.block 2
 (.seq (.ops [
 oM 24 22,
 oM 7 24])
 (.seq (.ops [
 oM 26 0,
 oM 27 7,
 ⟨some 28, .call (.c (.fn F_deal_scalar [])) [.c (.str ⟨#[112, 111, 108, 121]⟩), .t 26, .t 27], none⟩,
 oM 25 28,
 oO 29 (.ext (.t 25) 0),
 oO 30 (.ext (.t 25) 1),
 oO 8 (.alloc 1 4 [.int .u64 0]),
 ⟨none, .stA 1 4 4 (.t 8) (.t 29), none⟩,
 oM 9 30])
 (.seq (.seq (.ops [
 oM 31 9,
 oO 32 (.bin .neq (.t 31) (.c (.int .i64 0)))])
 (.cond (.t 32)
 (.seq (.ops [
 oM 33 9,
 oO 4 (.mv (.c (.nils))),
 oM 5 33])
 .ret)
 .skip))
 (.seq (.seq (.ops [
 oM 34 7,
 oO 35 (.bin .eql (.t 34) (.c (.int .i64 0)))])
 (.cond (.t 35)
 (.ops [
 oO 36 (.load 4 true (.t 8)),
 oK 37 F_deal_some [.t 36],
 ⟨none, .stA 1 4 4 (.t 8) (.t 37), none⟩])
 .skip))
 (.ops [
 oM 38 6,
 oO 39 (.load 4 true (.t 8)),
 oO 40 (.bsl 4 1 [.int .u64 0, .int .u64 0, .int .u64 0, .int .u64 0] [(0, 4, .t 39)]),
 oO 41 (.app 4 32 (.t 38) (.t 40)),
 oM 6 41]))))))
 (.ops [
 oO 42 (.bin .add (.t 22) (.c (.int .i64 1))),
 oM 22 42])))))))
 (.seq (.ops [
 oM 43 6,
 oM 4 43,
 oO 5 (.mv (.c (.int .i64 0)))])
 .ret)))))⟩
theorem K_deal_Poly : chkFun DK Pg Try.f12 A_deal_Poly = true := by kernel_rfl
theorem B_deal_Poly {args : List AV} {m : Mem} {K : AV → Mem → Prop} (h : vcFun DK Pg A_deal_Poly args m K) : ACall Pg F_deal_Poly args m K := call_body mixed Try.func12 (by kernel_rfl) K_deal_Poly h

noncomputable def A_field_Prime : AFun := ⟨1, 22, [.cell 2 4 true],
 (.seq (.ops [
 oO 2 (.alloc 1 4 [.int .u64 0])])
 (.seq (.ops [
 oM 8 0,
 oK 9 F_field_less [.t 8],
 oM 7 9,
 oO 10 (.ext (.t 7) 0),
 oO 11 (.ext (.t 7) 1),
 oO 3 (.alloc 1 4 [.int .u64 0]),
 ⟨none, .stA 1 4 4 (.t 3) (.t 10), none⟩,
 oM 4 11])
 (.seq (.seq (.ops [
 oM 12 4,
 oO 13 (.un .not (.t 12))])
 (.cond (.t 13)
 (.seq (.ops [
 oO 14 (.build [.int .u64 0, .int .u64 0, .int .u64 0, .int .u64 0] []),
 ⟨none, .stA 1 4 4 (.t 2) (.t 14), none⟩])
 .ret)
 .skip))
 (.seq (.ops [
 oO 16 (.build [.int .u64 0, .int .u64 0, .int .u64 0, .int .u64 0] []),
 oO 17 (.load 4 true (.t 3)),
 oK 18 F_limb_Sub [.t 16, .t 17],
 oM 15 18,
 oO 19 (.ext (.t 15) 0),
 oO 20 (.ext (.t 15) 1),
 oO 5 (.alloc 1 4 [.int .u64 0]),
 ⟨none, .stA 1 4 4 (.t 5) (.t 19), none⟩,
 oM 6 20])
 (.seq (.ops [
 oO 21 (.load 4 true (.t 5)),
 ⟨none, .stA 1 4 4 (.t 2) (.t 21), none⟩])
 .ret)))))⟩
theorem K_field_Prime : chkFun DK Pg Try.f13 A_field_Prime = true := by kernel_rfl
theorem B_field_Prime {args : List AV} {m : Mem} {K : AV → Mem → Prop} (h : vcFun DK Pg A_field_Prime args m K) : ACall Pg F_field_Prime args m K := call_body mixed Try.func13 (by kernel_rfl) K_field_Prime h

noncomputable def A_limb_Cmp : AFun := ⟨2, 26, [.t 4],
 (.seq (.ops [
 oO 2 (.box 1 4 (.t 0)),
 oO 3 (.box 1 4 (.t 1)),
 oO 4 (.mv (.c (.int .i64 0)))])
 (.seq (.seq (.ops [
 oO 5 (.mv (.c (.int .i64 3)))])
 (.block 0
 (.loop
 (.seq (.seq (.ops [
 oM 6 5,
 oO 7 (.bin .geq (.t 6) (.c (.int .i64 0)))])
 (.cond (.t 7)
 .skip
 (.exit 0)))
 (.seq (.block 1
 (.block 2
 (.seq (.draw [
 oM 11 5,
 oO 12 (.idxP 4 1 (.t 2) (.t 11)),
 oO 13 (.load 1 false (.t 12)),
 oM 14 5,
 oO 15 (.idxP 4 1 (.t 3) (.t 14)),
 oO 16 (.load 1 false (.t 15)),
 oO 17 (.bin .lss (.t 13) (.t 16)),
 oM 10 17] ⟨.no, [], .flat⟩)
 (.cond (.t 10)
 (.seq (.ops [
 oO 4 (.mv (.c (.int .i64 (-1))))])
 .ret)
 (.seq (.draw [
 oM 19 5,
 oO 20 (.idxP 4 1 (.t 2) (.t 19)),
 oO 21 (.load 1 false (.t 20)),
 oM 22 5,
 oO 23 (.idxP 4 1 (.t 3) (.t 22)),
 oO 24 (.load 1 false (.t 23)),
 oO 25 (.bin .gtr (.t 21) (.t 24)),
 oM 18 25] ⟨.no, [], .flat⟩)
 (.cond (.t 18)
 (.seq (.ops [
 oO 4 (.mv (.c (.int .i64 1)))])
 .ret)
 .skip))))))
 (.ops [
 oM 8 5,
 oO 9 (.bin .sub (.t 8) (.c (.int .i64 1))),
 oM 5 9]))))))
 (.seq (.ops [
 oO 4 (.mv (.c (.int .i64 0)))])
 .ret)))⟩
theorem K_limb_Cmp : chkFun DK Pg Try.f14 A_limb_Cmp = true := by kernel_rfl
theorem B_limb_Cmp {args : List AV} {m : Mem} {K : AV → Mem → Prop} (h : vcFun DK Pg A_limb_Cmp args m K) : ACall Pg F_limb_Cmp args m K := call_body mixed Try.func14 (by kernel_rfl) K_limb_Cmp h

noncomputable def A_witankeep_Nums : AFun := ⟨2, 26, [.t 4],
 (.seq (.ops [
 oO 4 (.mv (.c (.bool false)))])
 (.seq (.seq (.ops [
 oM 6 0,
 oO 7 (.len (.t 6)),
 oM 8 1,
 oO 9 (.len (.t 8)),
 oO 10 (.bin .neq (.t 7) (.t 9))])
 (.cond (.t 10)
 (.seq (.ops [
 oO 4 (.mv (.c (.bool false)))])
 .ret)
 .skip))
 (.seq (.seq (.ops [
 oO 5 (.mv (.c (.int .i64 0)))])
 (.block 0
 (.loop
 (.seq (.seq (.ops [
 oM 11 5,
 oM 12 0,
 oO 13 (.len (.t 12)),
 oO 14 (.bin .lss (.t 11) (.t 13))])
 (.cond (.t 14)
 .skip
 (.exit 0)))
 (.seq (.block 1
 (.seq (.draw [
 oM 17 0,
 oM 18 5,
 oO 19 (.idxA 4 (.t 17) (.t 18)),
 oO 20 (.load 4 true (.t 19)),
 oM 21 1,
 oM 22 5,
 oO 23 (.idxA 4 (.t 21) (.t 22)),
 oO 24 (.load 4 true (.t 23)),
 oO 25 (.eqa [.i, .i, .i, .i] true (.t 20) (.t 24))] ⟨.no, [], .flat⟩)
 (.cond (.t 25)
 (.seq (.ops [
 oO 4 (.mv (.c (.bool false)))])
 .ret)
 .skip)))
 (.ops [
 oM 15 5,
 oO 16 (.bin .add (.t 15) (.c (.int .i64 1))),
 oM 5 16]))))))
 (.seq (.ops [
 oO 4 (.mv (.c (.bool true)))])
 .ret))))⟩
theorem K_witankeep_Nums : chkFun DK Pg Try.f15 A_witankeep_Nums = true := by kernel_rfl
theorem B_witankeep_Nums {args : List AV} {m : Mem} {K : AV → Mem → Prop} (h : vcFun DK Pg A_witankeep_Nums args m K) : ACall Pg F_witankeep_Nums args m K := call_body mixed Try.func15 (by kernel_rfl) K_witankeep_Nums h

noncomputable def A_witanlaw21_wakes : AFun := ⟨0, 37, [.t 0],
 (.seq (.ops [
 oO 0 (.mv (.c (.bool false)))])
 (.seq (.ops [
 oO 6 (.bsl 1 1 [.int .u8 0] [(0, 1, .c (.int .u8 1))]),
 ⟨some 7, .call (.c (.fn F_deal_Register [])) [.t 6, .c (.str ⟨#[32, 120]⟩)], none⟩,
 oM 5 7,
 oO 8 (.ext (.t 5) 0),
 oO 9 (.ext (.t 5) 1),
 ⟨some 1, .alloc 22 1 [.int .i64 0, .bool false, .int .u64 0, .int .u64 0, .int .u64 0, .int .u64 0, .int .u64 0, .int .u64 0, .int .u64 0, .int .u64 0, .str ⟨#[]⟩, .nils, .nils, .int .i64 0, .int .u64 0, .int .u64 0, .int .u64 0, .int .u64 0, .int .u64 0, .int .u64 0, .int .u64 0, .int .u64 0], none⟩,
 oS 22 1 8,
 oM 2 9])
 (.seq (.ops [
 oO 11 (.bsl 1 1 [.int .u8 0] [(0, 1, .c (.int .u8 1))]),
 ⟨some 12, .call (.c (.fn F_deal_Register [])) [.t 11, .c (.str ⟨#[120]⟩)], none⟩,
 oM 10 12,
 oO 13 (.ext (.t 10) 0),
 oO 14 (.ext (.t 10) 1),
 ⟨some 3, .alloc 22 1 [.int .i64 0, .bool false, .int .u64 0, .int .u64 0, .int .u64 0, .int .u64 0, .int .u64 0, .int .u64 0, .int .u64 0, .int .u64 0, .str ⟨#[]⟩, .nils, .nils, .int .i64 0, .int .u64 0, .int .u64 0, .int .u64 0, .int .u64 0, .int .u64 0, .int .u64 0, .int .u64 0, .int .u64 0], none⟩,
 oS 22 3 13,
 oM 4 14])
 (.seq (.ops [
 oM 15 2,
 oO 16 (.bin .eql (.t 15) (.c (.int .i64 8))),
 oM 17 16,
 oG 18 (.mv (.t 4)) 17 true,
 oG 19 (.bin .eql (.t 18) (.c (.int .i64 0))) 17 true,
 oO 20 (.pick (.t 17) (.t 19) (.c (.bool false))),
 oM 21 20,
 oG 22 (.fldA 0 (.t 3)) 21 true,
 oG 23 (.load 1 false (.t 22)) 21 true,
 oG 24 (.bin .eql (.t 23) (.c (.int .i64 1))) 21 true,
 oO 25 (.pick (.t 21) (.t 24) (.c (.bool false))),
 oM 26 25,
 oG 27 (.fldA 10 (.t 3)) 26 true,
 oG 28 (.load 1 false (.t 27)) 26 true,
 ⟨some 29, .bin .eql (.t 28) (.c (.str ⟨#[120]⟩)), (some (26, true))⟩,
 oO 30 (.pick (.t 26) (.t 29) (.c (.bool false))),
 oM 31 30,
 oG 32 (.fldA 1 (.t 3)) 31 true,
 oG 33 (.fldA 0 (.t 32)) 31 true,
 oG 34 (.load 1 false (.t 33)) 31 true,
 oG 35 (.un .not (.t 34)) 31 true,
 oO 36 (.pick (.t 31) (.t 35) (.c (.bool false))),
 oM 0 36])
 .ret))))⟩
theorem K_witanlaw21_wakes : chkFun DK Pg Try.f16 A_witanlaw21_wakes = true := by kernel_rfl
theorem B_witanlaw21_wakes {args : List AV} {m : Mem} {K : AV → Mem → Prop} (h : vcFun DK Pg A_witanlaw21_wakes args m K) : ACall Pg F_witanlaw21_wakes args m K := call_body mixed Try.func16 (by kernel_rfl) K_witanlaw21_wakes h

noncomputable def A_act_Check : AFun := ⟨1, 35, [.t 2],
 (.seq (.ops [
 oO 1 (.box 22 1 (.t 0)),
 oO 2 (.mv (.c (.int .i64 0)))])
 (.seq (.ops [
 oO 4 (.load 22 true (.t 1)),
 oK 5 F_act_Open [.t 4],
 oM 3 5])
 (.seq (.block 0
 (.seq (.ops [
 oM 7 3,
 oO 8 (.eqnI false (.t 7)),
 oM 6 8])
 (.cond (.t 6)
 (.seq (.ops [
 oO 2 (.mv (.c (.int .i64 19)))])
 .ret)
 (.seq (.ops [
 oO 10 (.load 22 true (.t 1)),
 oK 11 F_act_empty [.t 10],
 oO 12 (.un .not (.t 11)),
 oM 9 12])
 (.cond (.t 9)
 (.seq (.ops [
 oO 2 (.mv (.c (.int .i64 1)))])
 .ret)
 .skip)))))
 (.seq (.seq (.ops [
 oO 13 (.fldA 0 (.t 1)),
 oO 14 (.load 1 false (.t 13))])
 (.block 1
 (.seq (.ops [
 oO 16 (.bin .eql (.t 14) (.c (.int .i64 1))),
 oM 15 16])
 (.cond (.t 15)
 (.seq (.ops [
 oM 17 3,
 ⟨some 18, .tas (.t 17) 108 false (.agg [.bool false, .int .u64 0, .int .u64 0, .int .u64 0, .int .u64 0, .int .u64 0, .int .u64 0, .int .u64 0, .int .u64 0, .str ⟨#[]⟩]), none⟩,
 oK 19 F_act_Registered_check [.t 18],
 oM 2 19])
 .ret)
 (.seq (.ops [
 oO 21 (.bin .eql (.t 14) (.c (.int .i64 2))),
 oM 20 21])
 (.cond (.t 20)
 (.seq (.ops [
 oM 22 3,
 oO 23 (.tas (.t 22) 111 false (.agg [.nils, .nils])),
 oK 24 F_act_Posted_check [.t 23],
 oM 2 24])
 .ret)
 (.seq (.ops [
 oO 26 (.bin .eql (.t 14) (.c (.int .i64 3))),
 oM 25 26])
 (.cond (.t 25)
 (.seq (.ops [
 oM 27 3,
 oO 28 (.tas (.t 27) 113 false (.agg [.int .i64 0, .bool false, .int .u64 0, .int .u64 0, .int .u64 0, .int .u64 0, .int .u64 0, .int .u64 0, .int .u64 0, .int .u64 0, .int .u64 0, .int .u64 0, .int .u64 0, .int .u64 0, .int .u64 0, .int .u64 0, .int .u64 0, .int .u64 0])),
 oK 29 F_act_Disputed_check [.t 28],
 oM 2 29])
 .ret)
 (.seq (.ops [
 oO 31 (.bin .eql (.t 14) (.c (.int .i64 4))),
 oM 30 31])
 (.cond (.t 30)
 (.seq (.ops [
 oM 32 3,
 oO 33 (.tas (.t 32) 115 false (.agg [.bool false, .int .u64 0, .int .u64 0, .int .u64 0, .int .u64 0, .int .u64 0, .int .u64 0, .int .u64 0, .int .u64 0, .int .u64 0, .int .u64 0, .int .u64 0, .int .u64 0, .int .u64 0, .int .u64 0, .int .u64 0, .int .u64 0])),
 oK 34 F_act_Submitted_check [.t 33],
 oM 2 34])
 .ret)
 .skip))))))))))
 (.seq (.ops [
 oO 2 (.mv (.c (.int .i64 0)))])
 .ret)))))⟩
theorem K_act_Check : chkFun DK Pg Try.f21 A_act_Check = true := by kernel_rfl
theorem B_act_Check {args : List AV} {m : Mem} {K : AV → Mem → Prop} (h : vcFun DK Pg A_act_Check args m K) : ACall Pg F_act_Check args m K := call_body mixed Try.func21 (by kernel_rfl) K_act_Check h

noncomputable def A_curve_Base : AFun := ⟨1, 8, [.cell 2 9 true],
 (.seq (.ops [
 oO 1 (.box 1 4 (.t 0)),
 oO 2 (.alloc 9 1 [.bool false, .int .u64 0, .int .u64 0, .int .u64 0, .int .u64 0, .int .u64 0, .int .u64 0, .int .u64 0, .int .u64 0])])
 (.seq (.draw [
 oK 3 F_curve_base [],
 oK 4 F_curve_spread [.t 3],
 oO 5 (.load 4 true (.t 1)),
 oK 6 F_curve_jac_times [.t 4, .t 5],
 oK 7 F_curve_jac_point [.t 6],
 ⟨none, .stA 9 1 9 (.t 2) (.t 7), none⟩] ⟨.all, [], .look 2 (.run 0 true (.run 1 true (.run 3 false (.run 4 false (.run 5 false .done)))))⟩)
 .ret))⟩
theorem K_curve_Base : chkFun DK Pg Try.f28 A_curve_Base = true := by kernel_rfl
theorem B_curve_Base {args : List AV} {m : Mem} {K : AV → Mem → Prop} (h : vcFun DK Pg A_curve_Base args m K) : ACall Pg F_curve_Base args m K := call_body mixed Try.func28 (by kernel_rfl) K_curve_Base h

noncomputable def A_deal_Post : AFun := ⟨4, 122, [.cell 8 22 true, .t 9],
 (.seq (.ops [
 ⟨some 8, .alloc 22 1 [.int .i64 0, .bool false, .int .u64 0, .int .u64 0, .int .u64 0, .int .u64 0, .int .u64 0, .int .u64 0, .int .u64 0, .int .u64 0, .str ⟨#[]⟩, .nils, .nils, .int .i64 0, .int .u64 0, .int .u64 0, .int .u64 0, .int .u64 0, .int .u64 0, .int .u64 0, .int .u64 0, .int .u64 0], none⟩,
 oO 9 (.mv (.c (.int .i64 0)))])
 (.seq (.ops [
 oM 23 0,
 oM 24 1,
 oK 25 F_deal_Poly [.t 23, .t 24],
 oM 22 25,
 oO 26 (.ext (.t 22) 0),
 oO 27 (.ext (.t 22) 1),
 oM 10 26,
 oM 11 27])
 (.seq (.block 0
 (.seq (.ops [
 oM 29 11,
 oO 30 (.bin .neq (.t 29) (.c (.int .i64 0))),
 oM 28 30])
 (.cond (.t 28)
 (.seq (.ops [
 ⟨some 31, .build [.int .i64 0, .bool false, .int .u64 0, .int .u64 0, .int .u64 0, .int .u64 0, .int .u64 0, .int .u64 0, .int .u64 0, .int .u64 0, .str ⟨#[]⟩, .nils, .nils, .int .i64 0, .int .u64 0, .int .u64 0, .int .u64 0, .int .u64 0, .int .u64 0, .int .u64 0, .int .u64 0, .int .u64 0] [], none⟩,
 oM 32 11,
 oS 22 8 31,
 oM 9 32])
 .ret)
 (.seq (.ops [
 oM 34 2,
 oM 35 3,
 oK 36 F_deal_number [.t 34, .t 35],
 oO 37 (.un .not (.t 36)),
 oM 38 37,
 oG 39 (.mv (.t 2)) 38 false,
 oG 40 (.len (.t 39)) 38 false,
 oG 41 (.bin .gtr (.t 40) (.c (.int .i64 8))) 38 false,
 oO 42 (.pick (.t 38) (.c (.bool true)) (.t 41)),
 oM 33 42])
 (.cond (.t 33)
 (.seq (.ops [
 ⟨some 43, .build [.int .i64 0, .bool false, .int .u64 0, .int .u64 0, .int .u64 0, .int .u64 0, .int .u64 0, .int .u64 0, .int .u64 0, .int .u64 0, .str ⟨#[]⟩, .nils, .nils, .int .i64 0, .int .u64 0, .int .u64 0, .int .u64 0, .int .u64 0, .int .u64 0, .int .u64 0, .int .u64 0, .int .u64 0] [], none⟩,
 oS 22 8 43,
 oO 9 (.mv (.c (.int .i64 1)))])
 .ret)
 .skip)))))
 (.seq (.seq (.ops [
 oM 44 2,
 oO 45 (.len (.t 44)),
 oO 46 (.mv (.c (.int .i64 0)))])
 (.block 1
 (.loop
 (.seq (.ops [
 oO 47 (.bin .lss (.t 46) (.t 45))])
 (.seq (.cond (.t 47)
 .skip
 (.exit 1))
 (.seq (.block 2
 (.seq (.ops [
 oO 48 (.idxA 26 (.t 44) (.t 46)),
 oO 49 (.load 26 true (.t 48)),
 ⟨some 13, .alloc 26 1 [.int .i64 0, .bool false, .int .u64 0, .int .u64 0, .int .u64 0, .int .u64 0, .int .u64 0, .int .u64 0, .int .u64 0, .int .u64 0, .str ⟨#[]⟩, .int .i64 0, .bool false, .nils, .nils, .bool false, .bool false, .bool false, .int .u64 0, .int .u64 0, .int .u64 0, .int .u64 0, .int .u64 0, .int .u64 0, .int .u64 0, .int .u64 0], none⟩,
 oS 26 13 49])
 (.seq (.ops [
 oO 50 (.fldA 1 (.t 13)),
 oO 51 (.load 9 true (.t 50)),
 oK 52 F_curve_Check [.t 51],
 oO 53 (.bin .neq (.t 52) (.c (.int .i64 0)))])
 (.cond (.t 53)
 (.seq (.ops [
 ⟨some 54, .build [.int .i64 0, .bool false, .int .u64 0, .int .u64 0, .int .u64 0, .int .u64 0, .int .u64 0, .int .u64 0, .int .u64 0, .int .u64 0, .str ⟨#[]⟩, .nils, .nils, .int .i64 0, .int .u64 0, .int .u64 0, .int .u64 0, .int .u64 0, .int .u64 0, .int .u64 0, .int .u64 0, .int .u64 0] [], none⟩,
 oS 22 8 54,
 oO 9 (.mv (.c (.int .i64 3)))])
 .ret)
 .skip))))
 (.ops [
 oO 55 (.bin .add (.t 46) (.c (.int .i64 1))),
 oM 46 55])))))))
 (.seq (.ops [
 oM 57 0,
 oK 58 F_deal_Secret [.t 57],
 oM 56 58,
 oO 59 (.ext (.t 56) 0),
 oO 60 (.ext (.t 56) 1),
 oO 14 (.alloc 1 4 [.int .u64 0]),
 ⟨none, .stA 1 4 4 (.t 14) (.t 59), none⟩,
 oM 11 60])
 (.seq (.seq (.ops [
 oM 61 11,
 oO 62 (.bin .neq (.t 61) (.c (.int .i64 0)))])
 (.cond (.t 62)
 (.seq (.ops [
 ⟨some 63, .build [.int .i64 0, .bool false, .int .u64 0, .int .u64 0, .int .u64 0, .int .u64 0, .int .u64 0, .int .u64 0, .int .u64 0, .int .u64 0, .str ⟨#[]⟩, .nils, .nils, .int .i64 0, .int .u64 0, .int .u64 0, .int .u64 0, .int .u64 0, .int .u64 0, .int .u64 0, .int .u64 0, .int .u64 0] [], none⟩,
 oM 64 11,
 oS 22 8 63,
 oM 9 64])
 .ret)
 .skip))
 (.seq (.ops [
 ⟨some 65, .build [.int .i64 0, .bool false, .int .u64 0, .int .u64 0, .int .u64 0, .int .u64 0, .int .u64 0, .int .u64 0, .int .u64 0, .int .u64 0, .str ⟨#[]⟩, .nils, .nils, .int .i64 0, .int .u64 0, .int .u64 0, .int .u64 0, .int .u64 0, .int .u64 0, .int .u64 0, .int .u64 0, .int .u64 0] [(0, 1, .c (.int .i64 2))], none⟩,
 ⟨some 15, .alloc 22 1 [.int .i64 0, .bool false, .int .u64 0, .int .u64 0, .int .u64 0, .int .u64 0, .int .u64 0, .int .u64 0, .int .u64 0, .int .u64 0, .str ⟨#[]⟩, .nils, .nils, .int .i64 0, .int .u64 0, .int .u64 0, .int .u64 0, .int .u64 0, .int .u64 0, .int .u64 0, .int .u64 0, .int .u64 0], none⟩,
 oS 22 15 65])
 (.seq (.seq (.ops [
 oM 66 2,
 oO 67 (.len (.t 66)),
 oO 68 (.mv (.c (.int .i64 0)))])
 (.block 3
 (.loop
 (.seq (.ops [
 oO 69 (.bin .lss (.t 68) (.t 67))])
 (.seq (.cond (.t 69)
 .skip
 (.exit 3))
 (.seq (.block 4
 (.seq (.ops [
 oM 70 68,
 oO 71 (.idxA 26 (.t 66) (.t 68)),
 oO 72 (.load 26 true (.t 71)),
 ⟨some 17, .alloc 26 1 [.int .i64 0, .bool false, .int .u64 0, .int .u64 0, .int .u64 0, .int .u64 0, .int .u64 0, .int .u64 0, .int .u64 0, .int .u64 0, .str ⟨#[]⟩, .int .i64 0, .bool false, .nils, .nils, .bool false, .bool false, .bool false, .int .u64 0, .int .u64 0, .int .u64 0, .int .u64 0, .int .u64 0, .int .u64 0, .int .u64 0, .int .u64 0], none⟩,
 oM 16 70,
 oS 26 17 72])
 (.seq (.ops [
 oM 73 16,
 oO 74 (.bin .add (.t 73) (.c (.int .i64 1))),
 oM 18 74])
 (.seq (.seq (.ops [
 oM 75 18,
 oM 76 3,
 oO 77 (.bin .eql (.t 75) (.t 76))])
 (.cond (.t 77)
 (.exit 4)
 .skip))
 (.seq (.ops [
 oO 79 (.load 4 true (.t 14)),
 oO 80 (.fldA 1 (.t 17)),
 oO 81 (.load 9 true (.t 80)),
 oK 82 F_pair_Key [.t 79, .t 81],
 oM 78 82,
 oO 83 (.ext (.t 78) 0),
 oO 84 (.ext (.t 78) 1),
 oO 19 (.alloc 9 1 [.bool false, .int .u64 0, .int .u64 0, .int .u64 0, .int .u64 0, .int .u64 0, .int .u64 0, .int .u64 0, .int .u64 0]),
 ⟨none, .stA 9 1 9 (.t 19) (.t 83), none⟩,
 oM 20 84])
 (.seq (.seq (.ops [
 oM 85 20,
 oO 86 (.bin .neq (.t 85) (.c (.int .i64 0)))])
 (.cond (.t 86)
 (.seq (.ops [
 ⟨some 87, .build [.int .i64 0, .bool false, .int .u64 0, .int .u64 0, .int .u64 0, .int .u64 0, .int .u64 0, .int .u64 0, .int .u64 0, .int .u64 0, .str ⟨#[]⟩, .nils, .nils, .int .i64 0, .int .u64 0, .int .u64 0, .int .u64 0, .int .u64 0, .int .u64 0, .int .u64 0, .int .u64 0, .int .u64 0] [], none⟩,
 oM 88 20,
 oS 22 8 87,
 oM 9 88])
 .ret)
 .skip))
 (.seq (.draw [
 oO 90 (.load 9 true (.t 19)),
 oM 91 3,
 oM 92 18,
 oM 93 10,
 oM 94 18,
 oK 95 F_deal_place [.t 94],
 oK 96 F_poly_Eval [.t 93, .t 95],
 oK 97 F_pair_Seal [.t 90, .t 91, .t 92, .t 96],
 oM 89 97,
 oO 98 (.ext (.t 89) 0),
 oO 99 (.ext (.t 89) 1),
 oO 21 (.alloc 1 32 [.int .u8 0]),
 oS 32 21 98,
 oM 20 99] ⟨.all, [(11, some 12)], .look 0 (.look 1 (.look 2 (.look 3 (.look 4 (.run 5 true (.run 6 true (.run 7 true (.look 8 (.look 9 (.pre 11 12 (.look 10 (.fill (.look 13 .done)))))))))))))⟩)
 (.seq (.seq (.ops [
 oM 100 20,
 oO 101 (.bin .neq (.t 100) (.c (.int .i64 0)))])
 (.cond (.t 101)
 (.seq (.ops [
 ⟨some 102, .build [.int .i64 0, .bool false, .int .u64 0, .int .u64 0, .int .u64 0, .int .u64 0, .int .u64 0, .int .u64 0, .int .u64 0, .int .u64 0, .str ⟨#[]⟩, .nils, .nils, .int .i64 0, .int .u64 0, .int .u64 0, .int .u64 0, .int .u64 0, .int .u64 0, .int .u64 0, .int .u64 0, .int .u64 0] [], none⟩,
 oM 103 20,
 oS 22 8 102,
 oM 9 103])
 .ret)
 .skip))
 (.ops [
 oO 104 (.fldA 11 (.t 15)),
 oO 105 (.load 1 false (.t 104)),
 oO 106 (.load 32 true (.t 21)),
 oO 107 (.bsl 32 1 (List.replicate 32 (.int .u8 0)) [(0, 32, .t 106)]),
 oO 108 (.app 32 32 (.t 105) (.t 107)),
 oO 109 (.fldA 11 (.t 15)),
 oS 1 109 108])))))))))
 (.ops [
 oO 110 (.bin .add (.t 68) (.c (.int .i64 1))),
 oM 68 110])))))))
 (.seq (.ops [
 oM 112 10,
 oK 113 F_feld_Commit [.t 112],
 oM 111 113,
 oO 114 (.ext (.t 111) 0),
 oO 115 (.ext (.t 111) 1),
 oO 116 (.fldA 12 (.t 15)),
 oS 1 116 114,
 oM 11 115])
 (.seq (.seq (.ops [
 oM 117 11,
 oO 118 (.bin .neq (.t 117) (.c (.int .i64 0)))])
 (.cond (.t 118)
 (.seq (.ops [
 ⟨some 119, .build [.int .i64 0, .bool false, .int .u64 0, .int .u64 0, .int .u64 0, .int .u64 0, .int .u64 0, .int .u64 0, .int .u64 0, .int .u64 0, .str ⟨#[]⟩, .nils, .nils, .int .i64 0, .int .u64 0, .int .u64 0, .int .u64 0, .int .u64 0, .int .u64 0, .int .u64 0, .int .u64 0, .int .u64 0] [], none⟩,
 oM 120 11,
 oS 22 8 119,
 oM 9 120])
 .ret)
 .skip))
 (.seq (.ops [
 oO 121 (.load 22 true (.t 15)),
 oS 22 8 121,
 oO 9 (.mv (.c (.int .i64 0)))])
 .ret)))))))))))⟩
theorem K_deal_Post : chkFun DK Pg Try.f29 A_deal_Post = true := by kernel_rfl
theorem B_deal_Post {args : List AV} {m : Mem} {K : AV → Mem → Prop} (h : vcFun DK Pg A_deal_Post args m K) : ACall Pg F_deal_Post args m K := call_body mixed Try.func29 (by kernel_rfl) K_deal_Post h

noncomputable def A_poly_Eval : AFun := ⟨2, 23, [.cell 4 4 true],
 (.seq (.ops [
 oO 3 (.box 1 4 (.t 1)),
 oO 4 (.alloc 1 4 [.int .u64 0])])
 (.seq (.ops [
 oO 5 (.alloc 1 4 [.int .u64 0])])
 (.seq (.seq (.ops [
 oM 7 0,
 oO 8 (.len (.t 7)),
 oO 9 (.bin .sub (.t 8) (.c (.int .i64 1))),
 oM 6 9])
 (.block 0
 (.loop
 (.seq (.seq (.ops [
 oM 10 6,
 oO 11 (.bin .geq (.t 10) (.c (.int .i64 0)))])
 (.cond (.t 11)
 .skip
 (.exit 0)))
 (.seq (.block 1
 (.draw [
 oO 14 (.load 4 true (.t 5)),
 oO 15 (.load 4 true (.t 3)),
 oK 16 F_poly_mul [.t 14, .t 15],
 oM 17 0,
 oM 18 6,
 oO 19 (.idxA 4 (.t 17) (.t 18)),
 oO 20 (.load 4 true (.t 19)),
 oK 21 F_poly_add [.t 16, .t 20],
 ⟨none, .stA 1 4 4 (.t 5) (.t 21), none⟩] ⟨.all, [], .look 0 (.look 1 (.look 3 (.look 4 (.look 5 (.look 6 (.run 2 true (.run 7 false (.run 8 false .done))))))))⟩))
 (.ops [
 oM 12 6,
 oO 13 (.bin .sub (.t 12) (.c (.int .i64 1))),
 oM 6 13]))))))
 (.seq (.ops [
 oO 22 (.load 4 true (.t 5)),
 ⟨none, .stA 1 4 4 (.t 4) (.t 22), none⟩])
 .ret))))⟩
theorem K_poly_Eval : chkFun DK Pg Try.f30 A_poly_Eval = true := by kernel_rfl
theorem B_poly_Eval {args : List AV} {m : Mem} {K : AV → Mem → Prop} (h : vcFun DK Pg A_poly_Eval args m K) : ACall Pg F_poly_Eval args m K := call_body mixed Try.func30 (by kernel_rfl) K_poly_Eval h

noncomputable def A_pair_Key : AFun := ⟨2, 11, [.cell 4 9 true, .t 5],
 (.seq (.ops [
 oO 2 (.box 1 4 (.t 0)),
 oO 3 (.box 9 1 (.t 1)),
 oO 4 (.alloc 9 1 [.bool false, .int .u64 0, .int .u64 0, .int .u64 0, .int .u64 0, .int .u64 0, .int .u64 0, .int .u64 0, .int .u64 0]),
 oO 5 (.mv (.c (.int .i64 0)))])
 (.seq (.ops [
 oO 6 (.load 4 true (.t 2)),
 oO 7 (.load 9 true (.t 3)),
 oK 8 F_curve_Times [.t 6, .t 7],
 oO 9 (.ext (.t 8) 0),
 oO 10 (.ext (.t 8) 1),
 ⟨none, .stA 9 1 9 (.t 4) (.t 9), none⟩,
 oM 5 10])
 .ret))⟩
theorem K_pair_Key : chkFun DK Pg Try.f31 A_pair_Key = true := by kernel_rfl
theorem B_pair_Key {args : List AV} {m : Mem} {K : AV → Mem → Prop} (h : vcFun DK Pg A_pair_Key args m K) : ACall Pg F_pair_Key args m K := call_body mixed Try.func31 (by kernel_rfl) K_pair_Key h

noncomputable def A_deal_Submit : AFun := ⟨1, 57, [.cell 2 22 true, .t 3],
 (.seq (.ops [
 ⟨some 2, .alloc 22 1 [.int .i64 0, .bool false, .int .u64 0, .int .u64 0, .int .u64 0, .int .u64 0, .int .u64 0, .int .u64 0, .int .u64 0, .int .u64 0, .str ⟨#[]⟩, .nils, .nils, .int .i64 0, .int .u64 0, .int .u64 0, .int .u64 0, .int .u64 0, .int .u64 0, .int .u64 0, .int .u64 0, .int .u64 0], none⟩,
 oO 3 (.mv (.c (.int .i64 0)))])
 (.seq (.ops [
 oM 11 0,
 oK 12 F_deal_Poly [.t 11, .c (.int .i64 0)],
 oM 10 12,
 oO 13 (.ext (.t 10) 0),
 oO 14 (.ext (.t 10) 1),
 oM 4 13,
 oM 5 14])
 (.seq (.seq (.ops [
 oM 15 5,
 oO 16 (.bin .neq (.t 15) (.c (.int .i64 0)))])
 (.cond (.t 16)
 (.seq (.ops [
 ⟨some 17, .build [.int .i64 0, .bool false, .int .u64 0, .int .u64 0, .int .u64 0, .int .u64 0, .int .u64 0, .int .u64 0, .int .u64 0, .int .u64 0, .str ⟨#[]⟩, .nils, .nils, .int .i64 0, .int .u64 0, .int .u64 0, .int .u64 0, .int .u64 0, .int .u64 0, .int .u64 0, .int .u64 0, .int .u64 0] [], none⟩,
 oM 18 5,
 oS 22 2 17,
 oM 3 18])
 .ret)
 .skip))
 (.seq (.ops [
 oM 20 0,
 ⟨some 21, .call (.c (.fn F_deal_scalar [])) [.c (.str ⟨#[110, 111, 110, 99, 101]⟩), .t 20, .c (.int .i64 0)], none⟩,
 oM 19 21,
 oO 22 (.ext (.t 19) 0),
 oO 23 (.ext (.t 19) 1),
 oO 6 (.alloc 1 4 [.int .u64 0]),
 ⟨none, .stA 1 4 4 (.t 6) (.t 22), none⟩,
 oM 5 23])
 (.seq (.seq (.ops [
 oM 24 5,
 oO 25 (.bin .neq (.t 24) (.c (.int .i64 0)))])
 (.cond (.t 25)
 (.seq (.ops [
 ⟨some 26, .build [.int .i64 0, .bool false, .int .u64 0, .int .u64 0, .int .u64 0, .int .u64 0, .int .u64 0, .int .u64 0, .int .u64 0, .int .u64 0, .str ⟨#[]⟩, .nils, .nils, .int .i64 0, .int .u64 0, .int .u64 0, .int .u64 0, .int .u64 0, .int .u64 0, .int .u64 0, .int .u64 0, .int .u64 0] [], none⟩,
 oM 27 5,
 oS 22 2 26,
 oM 3 27])
 .ret)
 .skip))
 (.seq (.ops [
 oK 28 F_contract_Base [],
 oO 7 (.alloc 9 1 [.bool false, .int .u64 0, .int .u64 0, .int .u64 0, .int .u64 0, .int .u64 0, .int .u64 0, .int .u64 0, .int .u64 0]),
 ⟨none, .stA 9 1 9 (.t 7) (.t 28), none⟩])
 (.seq (.draw [
 oM 30 4,
 oO 31 (.idxA 4 (.t 30) (.c (.int .i64 0))),
 oO 32 (.load 4 true (.t 31)),
 oO 33 (.load 9 true (.t 7)),
 oK 34 F_curve_Times [.t 32, .t 33],
 oM 29 34,
 oO 35 (.ext (.t 29) 0),
 oO 36 (.ext (.t 29) 1),
 oO 8 (.alloc 9 1 [.bool false, .int .u64 0, .int .u64 0, .int .u64 0, .int .u64 0, .int .u64 0, .int .u64 0, .int .u64 0, .int .u64 0]),
 oS 9 8 35,
 oM 5 36] ⟨.all, [(8, some 9)], .look 0 (.look 1 (.look 2 (.look 3 (.run 4 true (.look 5 (.look 6 (.pre 8 9 (.look 7 (.fill (.look 10 .done))))))))))⟩)
 (.seq (.seq (.ops [
 oM 37 5,
 oO 38 (.bin .neq (.t 37) (.c (.int .i64 0)))])
 (.cond (.t 38)
 (.seq (.ops [
 ⟨some 39, .build [.int .i64 0, .bool false, .int .u64 0, .int .u64 0, .int .u64 0, .int .u64 0, .int .u64 0, .int .u64 0, .int .u64 0, .int .u64 0, .str ⟨#[]⟩, .nils, .nils, .int .i64 0, .int .u64 0, .int .u64 0, .int .u64 0, .int .u64 0, .int .u64 0, .int .u64 0, .int .u64 0, .int .u64 0] [], none⟩,
 oM 40 5,
 oS 22 2 39,
 oM 3 40])
 .ret)
 .skip))
 (.seq (.draw [
 oM 42 4,
 oO 43 (.idxA 4 (.t 42) (.c (.int .i64 0))),
 oO 44 (.load 4 true (.t 43)),
 oO 45 (.load 4 true (.t 6)),
 oO 46 (.load 9 true (.t 7)),
 oK 47 F_dleq_Prove [.t 44, .t 45, .t 46],
 oM 41 47,
 oO 48 (.ext (.t 41) 0),
 oO 49 (.ext (.t 41) 1),
 oO 9 (.alloc 8 1 [.int .u64 0, .int .u64 0, .int .u64 0, .int .u64 0, .int .u64 0, .int .u64 0, .int .u64 0, .int .u64 0]),
 oS 8 9 48,
 oM 5 49] ⟨.all, [(9, some 10)], .look 0 (.look 1 (.look 2 (.look 3 (.look 4 (.run 5 true (.look 6 (.look 7 (.pre 9 10 (.look 8 (.fill (.look 11 .done)))))))))))⟩)
 (.seq (.seq (.ops [
 oM 50 5,
 oO 51 (.bin .neq (.t 50) (.c (.int .i64 0)))])
 (.cond (.t 51)
 (.seq (.ops [
 ⟨some 52, .build [.int .i64 0, .bool false, .int .u64 0, .int .u64 0, .int .u64 0, .int .u64 0, .int .u64 0, .int .u64 0, .int .u64 0, .int .u64 0, .str ⟨#[]⟩, .nils, .nils, .int .i64 0, .int .u64 0, .int .u64 0, .int .u64 0, .int .u64 0, .int .u64 0, .int .u64 0, .int .u64 0, .int .u64 0] [], none⟩,
 oM 53 5,
 oS 22 2 52,
 oM 3 53])
 .ret)
 .skip))
 (.seq (.ops [
 oO 54 (.load 9 true (.t 8)),
 oO 55 (.load 8 true (.t 9)),
 ⟨some 56, .build [.int .i64 0, .bool false, .int .u64 0, .int .u64 0, .int .u64 0, .int .u64 0, .int .u64 0, .int .u64 0, .int .u64 0, .int .u64 0, .str ⟨#[]⟩, .nils, .nils, .int .i64 0, .int .u64 0, .int .u64 0, .int .u64 0, .int .u64 0, .int .u64 0, .int .u64 0, .int .u64 0, .int .u64 0] [(0, 1, .c (.int .i64 4)), (1, 9, .t 54), (14, 8, .t 55)], none⟩,
 oS 22 2 56,
 oO 3 (.mv (.c (.int .i64 0)))])
 .ret)))))))))))⟩
theorem K_deal_Submit : chkFun DK Pg Try.f34 A_deal_Submit = true := by kernel_rfl
theorem B_deal_Submit {args : List AV} {m : Mem} {K : AV → Mem → Prop} (h : vcFun DK Pg A_deal_Submit args m K) : ACall Pg F_deal_Submit args m K := call_body mixed Try.func34 (by kernel_rfl) K_deal_Submit h

noncomputable def A_deal_Register : AFun := ⟨2, 27, [.cell 4 22 true, .t 5],
 (.seq (.ops [
 ⟨some 4, .alloc 22 1 [.int .i64 0, .bool false, .int .u64 0, .int .u64 0, .int .u64 0, .int .u64 0, .int .u64 0, .int .u64 0, .int .u64 0, .int .u64 0, .str ⟨#[]⟩, .nils, .nils, .int .i64 0, .int .u64 0, .int .u64 0, .int .u64 0, .int .u64 0, .int .u64 0, .int .u64 0, .int .u64 0, .int .u64 0], none⟩,
 oO 5 (.mv (.c (.int .i64 0)))])
 (.seq (.ops [
 oM 9 0,
 oK 10 F_deal_Secret [.t 9],
 oM 8 10,
 oO 11 (.ext (.t 8) 0),
 oO 12 (.ext (.t 8) 1),
 oO 6 (.alloc 1 4 [.int .u64 0]),
 ⟨none, .stA 1 4 4 (.t 6) (.t 11), none⟩,
 oM 7 12])
 (.seq (.block 0
 (.seq (.ops [
 oM 14 7,
 oO 15 (.bin .neq (.t 14) (.c (.int .i64 0))),
 oM 13 15])
 (.cond (.t 13)
 (.seq (.ops [
 ⟨some 16, .build [.int .i64 0, .bool false, .int .u64 0, .int .u64 0, .int .u64 0, .int .u64 0, .int .u64 0, .int .u64 0, .int .u64 0, .int .u64 0, .str ⟨#[]⟩, .nils, .nils, .int .i64 0, .int .u64 0, .int .u64 0, .int .u64 0, .int .u64 0, .int .u64 0, .int .u64 0, .int .u64 0, .int .u64 0] [], none⟩,
 oM 17 7,
 oS 22 4 16,
 oM 5 17])
 .ret)
 (.seq (.ops [
 oM 19 1,
 oK 20 F_label_Check [.t 19],
 oO 21 (.bin .neq (.t 20) (.c (.int .i64 0))),
 oM 18 21])
 (.cond (.t 18)
 (.seq (.ops [
 ⟨some 22, .build [.int .i64 0, .bool false, .int .u64 0, .int .u64 0, .int .u64 0, .int .u64 0, .int .u64 0, .int .u64 0, .int .u64 0, .int .u64 0, .str ⟨#[]⟩, .nils, .nils, .int .i64 0, .int .u64 0, .int .u64 0, .int .u64 0, .int .u64 0, .int .u64 0, .int .u64 0, .int .u64 0, .int .u64 0] [], none⟩,
 oS 22 4 22,
 oO 5 (.mv (.c (.int .i64 8)))])
 .ret)
 .skip)))))
 (.seq (.ops [
 oO 23 (.load 4 true (.t 6)),
 oK 24 F_curve_Base [.t 23],
 oM 25 1,
 ⟨some 26, .build [.int .i64 0, .bool false, .int .u64 0, .int .u64 0, .int .u64 0, .int .u64 0, .int .u64 0, .int .u64 0, .int .u64 0, .int .u64 0, .str ⟨#[]⟩, .nils, .nils, .int .i64 0, .int .u64 0, .int .u64 0, .int .u64 0, .int .u64 0, .int .u64 0, .int .u64 0, .int .u64 0, .int .u64 0] [(0, 1, .c (.int .i64 1)), (1, 9, .t 24), (10, 1, .t 25)], none⟩,
 oS 22 4 26,
 oO 5 (.mv (.c (.int .i64 0)))])
 .ret))))⟩
theorem K_deal_Register : chkFun DK Pg Try.f35 A_deal_Register = true := by kernel_rfl
theorem B_deal_Register {args : List AV} {m : Mem} {K : AV → Mem → Prop} (h : vcFun DK Pg A_deal_Register args m K) : ACall Pg F_deal_Register args m K := call_body mixed Try.func35 (by kernel_rfl) K_deal_Register h

noncomputable def A_curve_Times : AFun := ⟨2, 18, [.cell 4 9 true, .t 5],
 (.seq (.ops [
 oO 2 (.box 1 4 (.t 0)),
 oO 3 (.box 9 1 (.t 1)),
 oO 4 (.alloc 9 1 [.bool false, .int .u64 0, .int .u64 0, .int .u64 0, .int .u64 0, .int .u64 0, .int .u64 0, .int .u64 0, .int .u64 0]),
 oO 5 (.mv (.c (.int .i64 0)))])
 (.seq (.ops [
 oO 7 (.load 9 true (.t 3)),
 oK 8 F_curve_Check [.t 7],
 oM 6 8])
 (.seq (.seq (.ops [
 oM 9 6,
 oO 10 (.bin .neq (.t 9) (.c (.int .i64 0)))])
 (.cond (.t 10)
 (.seq (.ops [
 oO 11 (.build [.bool false, .int .u64 0, .int .u64 0, .int .u64 0, .int .u64 0, .int .u64 0, .int .u64 0, .int .u64 0, .int .u64 0] []),
 oM 12 6,
 ⟨none, .stA 9 1 9 (.t 4) (.t 11), none⟩,
 oM 5 12])
 .ret)
 .skip))
 (.seq (.draw [
 oO 13 (.load 9 true (.t 3)),
 oK 14 F_curve_spread [.t 13],
 oO 15 (.load 4 true (.t 2)),
 oK 16 F_curve_jac_times [.t 14, .t 15],
 oK 17 F_curve_jac_point [.t 16],
 ⟨none, .stA 9 1 9 (.t 4) (.t 17), none⟩,
 oO 5 (.mv (.c (.int .i64 0)))] ⟨.all, [], .look 0 (.look 2 (.run 1 true (.run 3 false (.run 4 false (.run 5 false (.look 6 .done))))))⟩)
 .ret))))⟩
theorem K_curve_Times : chkFun DK Pg Try.f36 A_curve_Times = true := by kernel_rfl
theorem B_curve_Times {args : List AV} {m : Mem} {K : AV → Mem → Prop} (h : vcFun DK Pg A_curve_Times args m K) : ACall Pg F_curve_Times args m K := call_body mixed Try.func36 (by kernel_rfl) K_curve_Times h

noncomputable def A_contract_Base : AFun := ⟨0, 10, [.cell 0 9 true],
 (.seq (.ops [
 oO 0 (.alloc 9 1 [.bool false, .int .u64 0, .int .u64 0, .int .u64 0, .int .u64 0, .int .u64 0, .int .u64 0, .int .u64 0, .int .u64 0])])
 (.seq (.ops [
 ⟨some 5, .call (.c (.fn F_draw_Point [])) [.c (.str ⟨#[119, 105, 116, 97, 110]⟩), .c (.nils)], none⟩,
 oM 4 5,
 oO 6 (.ext (.t 4) 0),
 oO 7 (.ext (.t 4) 1),
 oO 8 (.ext (.t 4) 2),
 oO 1 (.alloc 9 1 [.bool false, .int .u64 0, .int .u64 0, .int .u64 0, .int .u64 0, .int .u64 0, .int .u64 0, .int .u64 0, .int .u64 0]),
 ⟨none, .stA 9 1 9 (.t 1) (.t 6), none⟩,
 oM 2 7,
 oM 3 8])
 (.seq (.ops [
 oO 9 (.load 9 true (.t 1)),
 ⟨none, .stA 9 1 9 (.t 0) (.t 9), none⟩])
 .ret)))⟩
theorem K_contract_Base : chkFun DK Pg Try.f37 A_contract_Base = true := by kernel_rfl
theorem B_contract_Base {args : List AV} {m : Mem} {K : AV → Mem → Prop} (h : vcFun DK Pg A_contract_Base args m K) : ACall Pg F_contract_Base args m K := call_body mixed Try.func37 (by kernel_rfl) K_contract_Base h

noncomputable def A_dleq_Holds : AFun := ⟨4, 82, [.t 8, .t 9],
 (.seq (.ops [
 oO 4 (.box 9 1 (.t 0)),
 oO 5 (.box 9 1 (.t 1)),
 oO 6 (.box 9 1 (.t 2)),
 oO 7 (.box 8 1 (.t 3)),
 oO 8 (.mv (.c (.bool false))),
 oO 9 (.mv (.c (.int .i64 0)))])
 (.seq (.seq (.ops [
 oO 17 (.load 9 true (.t 4)),
 oK 18 F_curve_Check [.t 17],
 oO 19 (.bin .neq (.t 18) (.c (.int .i64 0))),
 oM 20 19,
 oG 21 (.load 9 true (.t 5)) 20 false,
 oG 22 (.call (.c (.fn F_curve_Check [])) [.t 21]) 20 false,
 oG 23 (.bin .neq (.t 22) (.c (.int .i64 0))) 20 false,
 oO 24 (.pick (.t 20) (.c (.bool true)) (.t 23)),
 oM 25 24,
 oG 26 (.load 9 true (.t 6)) 25 false,
 oG 27 (.call (.c (.fn F_curve_Check [])) [.t 26]) 25 false,
 oG 28 (.bin .neq (.t 27) (.c (.int .i64 0))) 25 false,
 oO 29 (.pick (.t 25) (.c (.bool true)) (.t 28))])
 (.cond (.t 29)
 (.seq (.ops [
 oO 8 (.mv (.c (.bool false))),
 oO 9 (.mv (.c (.int .i64 3)))])
 .ret)
 .skip))
 (.seq (.ops [
 oK 30 F_field_Prime [.c (.int .i64 1)],
 oO 10 (.alloc 1 4 [.int .u64 0]),
 ⟨none, .stA 1 4 4 (.t 10) (.t 30), none⟩])
 (.seq (.seq (.ops [
 oO 31 (.fldA 0 (.t 7)),
 oO 32 (.load 4 true (.t 31)),
 oO 33 (.load 4 true (.t 10)),
 oK 34 F_limb_Cmp [.t 32, .t 33],
 oO 35 (.bin .geq (.t 34) (.c (.int .i64 0))),
 oM 36 35,
 oG 37 (.fldA 4 (.t 7)) 36 false,
 oG 38 (.load 4 true (.t 37)) 36 false,
 oG 39 (.load 4 true (.t 10)) 36 false,
 oG 40 (.call (.c (.fn F_limb_Cmp [])) [.t 38, .t 39]) 36 false,
 oG 41 (.bin .geq (.t 40) (.c (.int .i64 0))) 36 false,
 oO 42 (.pick (.t 36) (.c (.bool true)) (.t 41))])
 (.cond (.t 42)
 (.seq (.ops [
 oO 8 (.mv (.c (.bool false))),
 oO 9 (.mv (.c (.int .i64 0)))])
 .ret)
 .skip))
 (.seq (.draw [
 oO 44 (.fldA 4 (.t 7)),
 oO 45 (.load 4 true (.t 44)),
 oK 46 F_curve_Base [.t 45],
 oO 47 (.fldA 0 (.t 7)),
 oO 48 (.load 4 true (.t 47)),
 oO 49 (.load 9 true (.t 4)),
 oK 50 F_dleq_times [.t 48, .t 49],
 oK 51 F_curve_Add [.t 46, .t 50],
 oM 43 51,
 oO 52 (.ext (.t 43) 0),
 oO 53 (.ext (.t 43) 1),
 oO 11 (.alloc 9 1 [.bool false, .int .u64 0, .int .u64 0, .int .u64 0, .int .u64 0, .int .u64 0, .int .u64 0, .int .u64 0, .int .u64 0]),
 oS 9 11 52,
 oM 12 53] ⟨.all, [(11, some 12)], .look 0 (.look 1 (.look 3 (.look 4 (.look 5 (.run 2 true (.run 6 true (.run 7 true (.look 8 (.look 9 (.pre 11 12 (.look 10 (.fill (.look 13 .done)))))))))))))⟩)
 (.seq (.ops [
 oO 55 (.fldA 4 (.t 7)),
 oO 56 (.load 4 true (.t 55)),
 oO 57 (.load 9 true (.t 5)),
 oO 58 (.fldA 0 (.t 7)),
 oO 59 (.load 4 true (.t 58)),
 oO 60 (.load 9 true (.t 6)),
 oK 61 F_curve_Two [.t 56, .t 57, .t 59, .t 60],
 oM 54 61,
 oO 62 (.ext (.t 54) 0),
 oO 63 (.ext (.t 54) 1),
 oO 13 (.alloc 9 1 [.bool false, .int .u64 0, .int .u64 0, .int .u64 0, .int .u64 0, .int .u64 0, .int .u64 0, .int .u64 0, .int .u64 0]),
 ⟨none, .stA 9 1 9 (.t 13) (.t 62), none⟩,
 oM 14 63])
 (.seq (.ops [
 oO 65 (.load 9 true (.t 4)),
 oO 66 (.load 9 true (.t 5)),
 oO 67 (.load 9 true (.t 6)),
 oO 68 (.load 9 true (.t 11)),
 oO 69 (.load 9 true (.t 13)),
 oO 70 (.bsl 9 5 [.bool false, .int .u64 0, .int .u64 0, .int .u64 0, .int .u64 0, .int .u64 0, .int .u64 0, .int .u64 0, .int .u64 0] [(0, 9, .t 65), (9, 9, .t 66), (18, 9, .t 67), (27, 9, .t 68), (36, 9, .t 69)]),
 oK 71 F_dleq_challenge [.t 70],
 oM 64 71,
 oO 72 (.ext (.t 64) 0),
 oO 73 (.ext (.t 64) 1),
 oO 15 (.alloc 1 4 [.int .u64 0]),
 ⟨none, .stA 1 4 4 (.t 15) (.t 72), none⟩,
 oM 16 73])
 (.seq (.ops [
 oM 74 16,
 oO 75 (.bin .eql (.t 74) (.c (.int .i64 0))),
 oM 76 75,
 oG 77 (.load 4 true (.t 15)) 76 true,
 oG 78 (.fldA 0 (.t 7)) 76 true,
 oG 79 (.load 4 true (.t 78)) 76 true,
 oG 80 (.eqa [.i, .i, .i, .i] false (.t 77) (.t 79)) 76 true,
 oO 81 (.pick (.t 76) (.t 80) (.c (.bool false))),
 oM 8 81,
 oO 9 (.mv (.c (.int .i64 0)))])
 .ret))))))))⟩
theorem K_dleq_Holds : chkFun DK Pg Try.f38 A_dleq_Holds = true := by kernel_rfl
theorem B_dleq_Holds {args : List AV} {m : Mem} {K : AV → Mem → Prop} (h : vcFun DK Pg A_dleq_Holds args m K) : ACall Pg F_dleq_Holds args m K := call_body mixed Try.func38 (by kernel_rfl) K_dleq_Holds h

noncomputable def A_witankeep_Point : AFun := ⟨2, 24, [.t 4],
 (.seq (.ops [
 oO 2 (.box 9 1 (.t 0)),
 oO 3 (.box 9 1 (.t 1)),
 oO 4 (.mv (.c (.bool false)))])
 (.seq (.ops [
 oO 5 (.fldA 0 (.t 2)),
 oO 6 (.load 1 false (.t 5)),
 oO 7 (.fldA 0 (.t 3)),
 oO 8 (.load 1 false (.t 7)),
 oO 9 (.eqb false (.t 6) (.t 8)),
 oM 10 9,
 oG 11 (.fldA 1 (.t 2)) 10 true,
 oG 12 (.load 4 true (.t 11)) 10 true,
 oG 13 (.fldA 1 (.t 3)) 10 true,
 oG 14 (.load 4 true (.t 13)) 10 true,
 oG 15 (.eqa [.i, .i, .i, .i] false (.t 12) (.t 14)) 10 true,
 oO 16 (.pick (.t 10) (.t 15) (.c (.bool false))),
 oM 17 16,
 oG 18 (.fldA 5 (.t 2)) 17 true,
 oG 19 (.load 4 true (.t 18)) 17 true,
 oG 20 (.fldA 5 (.t 3)) 17 true,
 oG 21 (.load 4 true (.t 20)) 17 true,
 oG 22 (.eqa [.i, .i, .i, .i] false (.t 19) (.t 21)) 17 true,
 oO 23 (.pick (.t 17) (.t 22) (.c (.bool false))),
 oM 4 23])
 .ret))⟩
theorem K_witankeep_Point : chkFun DK Pg Try.f39 A_witankeep_Point = true := by kernel_rfl
theorem B_witankeep_Point {args : List AV} {m : Mem} {K : AV → Mem → Prop} (h : vcFun DK Pg A_witankeep_Point args m K) : ACall Pg F_witankeep_Point args m K := call_body mixed Try.func39 (by kernel_rfl) K_witankeep_Point h

noncomputable def A_deal_Share : AFun := ⟨4, 24, [.cell 8 4 true, .t 9, .t 10],
 (.seq (.ops [
 oO 8 (.alloc 1 4 [.int .u64 0]),
 oO 9 (.mv (.c (.bool false))),
 oO 10 (.mv (.c (.int .i64 0)))])
 (.seq (.ops [
 oM 12 0,
 oM 13 1,
 oM 14 2,
 oM 15 3,
 oK 16 F_deal_share [.t 12, .t 13, .t 14, .t 15],
 oM 11 16,
 oO 17 (.ext (.t 11) 0),
 oO 18 (.ext (.t 11) 1),
 oO 19 (.ext (.t 11) 2),
 oO 20 (.ext (.t 11) 3),
 ⟨none, .stA 1 4 4 (.t 8) (.t 18), none⟩,
 oM 9 19,
 oM 10 20])
 (.seq (.ops [
 oO 21 (.load 4 true (.t 8)),
 oM 22 9,
 oM 23 10,
 ⟨none, .stA 1 4 4 (.t 8) (.t 21), none⟩,
 oM 9 22,
 oM 10 23])
 .ret)))⟩
theorem K_deal_Share : chkFun DK Pg Try.f40 A_deal_Share = true := by kernel_rfl
theorem B_deal_Share {args : List AV} {m : Mem} {K : AV → Mem → Prop} (h : vcFun DK Pg A_deal_Share args m K) : ACall Pg F_deal_Share args m K := call_body mixed Try.func40 (by kernel_rfl) K_deal_Share h

noncomputable def A_deal_Dispute : AFun := ⟨4, 67, [.cell 8 22 true, .t 9],
 (.seq (.ops [
 ⟨some 8, .alloc 22 1 [.int .i64 0, .bool false, .int .u64 0, .int .u64 0, .int .u64 0, .int .u64 0, .int .u64 0, .int .u64 0, .int .u64 0, .int .u64 0, .str ⟨#[]⟩, .nils, .nils, .int .i64 0, .int .u64 0, .int .u64 0, .int .u64 0, .int .u64 0, .int .u64 0, .int .u64 0, .int .u64 0, .int .u64 0], none⟩,
 oO 9 (.mv (.c (.int .i64 0)))])
 (.seq (.ops [
 oM 19 0,
 oM 20 1,
 oM 21 2,
 oM 22 3,
 oK 23 F_deal_share [.t 19, .t 20, .t 21, .t 22],
 oM 18 23,
 oO 24 (.ext (.t 18) 0),
 oO 25 (.ext (.t 18) 1),
 oO 26 (.ext (.t 18) 2),
 oO 27 (.ext (.t 18) 3),
 oO 10 (.alloc 9 1 [.bool false, .int .u64 0, .int .u64 0, .int .u64 0, .int .u64 0, .int .u64 0, .int .u64 0, .int .u64 0, .int .u64 0]),
 oO 11 (.alloc 1 4 [.int .u64 0]),
 ⟨none, .stA 9 1 9 (.t 10) (.t 24), none⟩,
 ⟨none, .stA 1 4 4 (.t 11) (.t 25), none⟩,
 oM 12 26,
 oM 13 27])
 (.seq (.seq (.ops [
 oM 28 13,
 oO 29 (.bin .neq (.t 28) (.c (.int .i64 0)))])
 (.cond (.t 29)
 (.seq (.ops [
 ⟨some 30, .build [.int .i64 0, .bool false, .int .u64 0, .int .u64 0, .int .u64 0, .int .u64 0, .int .u64 0, .int .u64 0, .int .u64 0, .int .u64 0, .str ⟨#[]⟩, .nils, .nils, .int .i64 0, .int .u64 0, .int .u64 0, .int .u64 0, .int .u64 0, .int .u64 0, .int .u64 0, .int .u64 0, .int .u64 0] [], none⟩,
 oM 31 13,
 oS 22 8 30,
 oM 9 31])
 .ret)
 .skip))
 (.seq (.ops [
 oM 33 0,
 oK 34 F_deal_Secret [.t 33],
 oM 32 34,
 oO 35 (.ext (.t 32) 0),
 oO 36 (.ext (.t 32) 1),
 oO 14 (.alloc 1 4 [.int .u64 0]),
 ⟨none, .stA 1 4 4 (.t 14) (.t 35), none⟩,
 oM 15 36])
 (.seq (.ops [
 oM 38 0,
 oM 39 2,
 ⟨some 40, .call (.c (.fn F_deal_scalar [])) [.c (.str ⟨#[110, 111, 110, 99, 101]⟩), .t 38, .t 39], none⟩,
 oM 37 40,
 oO 41 (.ext (.t 37) 0),
 oO 42 (.ext (.t 37) 1),
 oO 16 (.alloc 1 4 [.int .u64 0]),
 ⟨none, .stA 1 4 4 (.t 16) (.t 41), none⟩,
 oM 13 42])
 (.seq (.seq (.ops [
 oM 43 13,
 oO 44 (.bin .neq (.t 43) (.c (.int .i64 0)))])
 (.cond (.t 44)
 (.seq (.ops [
 ⟨some 45, .build [.int .i64 0, .bool false, .int .u64 0, .int .u64 0, .int .u64 0, .int .u64 0, .int .u64 0, .int .u64 0, .int .u64 0, .int .u64 0, .str ⟨#[]⟩, .nils, .nils, .int .i64 0, .int .u64 0, .int .u64 0, .int .u64 0, .int .u64 0, .int .u64 0, .int .u64 0, .int .u64 0, .int .u64 0] [], none⟩,
 oM 46 13,
 oS 22 8 45,
 oM 9 46])
 .ret)
 .skip))
 (.seq (.draw [
 oO 48 (.load 4 true (.t 14)),
 oO 49 (.load 4 true (.t 16)),
 oM 50 1,
 oM 51 2,
 oO 52 (.bin .sub (.t 51) (.c (.int .i64 1))),
 oO 53 (.idxA 26 (.t 50) (.t 52)),
 oO 54 (.fldA 1 (.t 53)),
 oO 55 (.load 9 true (.t 54)),
 oK 56 F_dleq_Prove [.t 48, .t 49, .t 55],
 oM 47 56,
 oO 57 (.ext (.t 47) 0),
 oO 58 (.ext (.t 47) 1),
 oO 17 (.alloc 8 1 [.int .u64 0, .int .u64 0, .int .u64 0, .int .u64 0, .int .u64 0, .int .u64 0, .int .u64 0, .int .u64 0]),
 oS 8 17 57,
 oM 13 58] ⟨.all, [(12, some 13)], .look 0 (.look 1 (.look 2 (.look 3 (.look 4 (.look 5 (.look 6 (.look 7 (.run 8 true (.look 9 (.look 10 (.pre 12 13 (.look 11 (.fill (.look 14 .done))))))))))))))⟩)
 (.seq (.seq (.ops [
 oM 59 13,
 oO 60 (.bin .neq (.t 59) (.c (.int .i64 0)))])
 (.cond (.t 60)
 (.seq (.ops [
 ⟨some 61, .build [.int .i64 0, .bool false, .int .u64 0, .int .u64 0, .int .u64 0, .int .u64 0, .int .u64 0, .int .u64 0, .int .u64 0, .int .u64 0, .str ⟨#[]⟩, .nils, .nils, .int .i64 0, .int .u64 0, .int .u64 0, .int .u64 0, .int .u64 0, .int .u64 0, .int .u64 0, .int .u64 0, .int .u64 0] [], none⟩,
 oM 62 13,
 oS 22 8 61,
 oM 9 62])
 .ret)
 .skip))
 (.seq (.ops [
 oM 63 2,
 oO 64 (.load 9 true (.t 10)),
 oO 65 (.load 8 true (.t 17)),
 ⟨some 66, .build [.int .i64 0, .bool false, .int .u64 0, .int .u64 0, .int .u64 0, .int .u64 0, .int .u64 0, .int .u64 0, .int .u64 0, .int .u64 0, .str ⟨#[]⟩, .nils, .nils, .int .i64 0, .int .u64 0, .int .u64 0, .int .u64 0, .int .u64 0, .int .u64 0, .int .u64 0, .int .u64 0, .int .u64 0] [(0, 1, .c (.int .i64 3)), (13, 1, .t 63), (1, 9, .t 64), (14, 8, .t 65)], none⟩,
 oS 22 8 66,
 oO 9 (.mv (.c (.int .i64 0)))])
 .ret)))))))))⟩
theorem K_deal_Dispute : chkFun DK Pg Try.f41 A_deal_Dispute = true := by kernel_rfl
theorem B_deal_Dispute {args : List AV} {m : Mem} {K : AV → Mem → Prop} (h : vcFun DK Pg A_deal_Dispute args m K) : ACall Pg F_deal_Dispute args m K := call_body mixed Try.func41 (by kernel_rfl) K_deal_Dispute h

noncomputable def A_deal_Final : AFun := ⟨4, 71, [.cell 8 4 true, .t 9],
 (.seq (.ops [
 oO 8 (.alloc 1 4 [.int .u64 0]),
 oO 9 (.mv (.c (.int .i64 0)))])
 (.seq (.ops [
 oM 17 0,
 oM 18 1,
 oK 19 F_deal_Poly [.t 17, .t 18],
 oM 16 19,
 oO 20 (.ext (.t 16) 0),
 oO 21 (.ext (.t 16) 1),
 oM 10 20,
 oM 11 21])
 (.seq (.block 0
 (.seq (.ops [
 oM 23 11,
 oO 24 (.bin .neq (.t 23) (.c (.int .i64 0))),
 oM 22 24])
 (.cond (.t 22)
 (.seq (.ops [
 oO 25 (.build [.int .u64 0, .int .u64 0, .int .u64 0, .int .u64 0] []),
 oM 26 11,
 ⟨none, .stA 1 4 4 (.t 8) (.t 25), none⟩,
 oM 9 26])
 .ret)
 (.seq (.ops [
 oM 28 2,
 oM 29 3,
 oK 30 F_deal_number [.t 28, .t 29],
 oO 31 (.un .not (.t 30)),
 oM 27 31])
 (.cond (.t 27)
 (.seq (.ops [
 oO 32 (.build [.int .u64 0, .int .u64 0, .int .u64 0, .int .u64 0] []),
 ⟨none, .stA 1 4 4 (.t 8) (.t 32), none⟩,
 oO 9 (.mv (.c (.int .i64 1)))])
 .ret)
 .skip)))))
 (.seq (.ops [
 oO 12 (.alloc 1 4 [.int .u64 0])])
 (.seq (.seq (.ops [
 oM 33 2,
 oO 34 (.len (.t 33)),
 oO 35 (.mv (.c (.int .i64 0)))])
 (.block 1
 (.loop
 (.seq (.ops [
 oO 36 (.bin .lss (.t 35) (.t 34))])
 (.seq (.cond (.t 36)
 .skip
 (.exit 1))
 (.seq (.block 2
 (.seq (.ops [
 oM 37 35,
 oO 38 (.idxA 26 (.t 33) (.t 35)),
 oO 39 (.load 26 true (.t 38)),
 ⟨some 14, .alloc 26 1 [.int .i64 0, .bool false, .int .u64 0, .int .u64 0, .int .u64 0, .int .u64 0, .int .u64 0, .int .u64 0, .int .u64 0, .int .u64 0, .str ⟨#[]⟩, .int .i64 0, .bool false, .nils, .nils, .bool false, .bool false, .bool false, .int .u64 0, .int .u64 0, .int .u64 0, .int .u64 0, .int .u64 0, .int .u64 0, .int .u64 0, .int .u64 0], none⟩,
 oM 13 37,
 oS 26 14 39])
 (.seq (.ops [
 oM 40 10,
 oM 41 3,
 oK 42 F_deal_place [.t 41],
 oK 43 F_poly_Eval [.t 40, .t 42],
 oO 15 (.alloc 1 4 [.int .u64 0]),
 ⟨none, .stA 1 4 4 (.t 15) (.t 43), none⟩])
 (.seq (.block 3
 (.seq (.ops [
 oO 45 (.fldA 15 (.t 14)),
 oO 46 (.load 1 false (.t 45)),
 oM 44 46])
 (.cond (.t 44)
 (.exit 2)
 (.seq (.ops [
 oM 48 13,
 oO 49 (.bin .add (.t 48) (.c (.int .i64 1))),
 oM 50 3,
 oO 51 (.bin .neq (.t 49) (.t 50)),
 oM 47 51])
 (.cond (.t 47)
 (.seq (.ops [
 oM 53 0,
 oM 54 2,
 oM 55 13,
 oO 56 (.bin .add (.t 55) (.c (.int .i64 1))),
 oM 57 3,
 oK 58 F_deal_Share [.t 53, .t 54, .t 56, .t 57],
 oM 52 58,
 oO 59 (.ext (.t 52) 0),
 oO 60 (.ext (.t 52) 1),
 oO 61 (.ext (.t 52) 2),
 ⟨none, .stA 1 4 4 (.t 15) (.t 59), none⟩,
 oM 11 61])
 (.seq (.ops [
 oM 62 11,
 oO 63 (.bin .neq (.t 62) (.c (.int .i64 0)))])
 (.cond (.t 63)
 (.seq (.ops [
 oO 64 (.build [.int .u64 0, .int .u64 0, .int .u64 0, .int .u64 0] []),
 oM 65 11,
 ⟨none, .stA 1 4 4 (.t 8) (.t 64), none⟩,
 oM 9 65])
 .ret)
 .skip)))
 .skip)))))
 (.ops [
 oO 66 (.load 4 true (.t 12)),
 oO 67 (.load 4 true (.t 15)),
 oK 68 F_field_Add [.c (.int .i64 1), .t 66, .t 67],
 ⟨none, .stA 1 4 4 (.t 12) (.t 68), none⟩])))))
 (.ops [
 oO 69 (.bin .add (.t 35) (.c (.int .i64 1))),
 oM 35 69])))))))
 (.seq (.ops [
 oO 70 (.load 4 true (.t 12)),
 ⟨none, .stA 1 4 4 (.t 8) (.t 70), none⟩,
 oO 9 (.mv (.c (.int .i64 0)))])
 .ret))))))⟩
theorem K_deal_Final : chkFun DK Pg Try.f42 A_deal_Final = true := by kernel_rfl
theorem B_deal_Final {args : List AV} {m : Mem} {K : AV → Mem → Prop} (h : vcFun DK Pg A_deal_Final args m K) : ACall Pg F_deal_Final args m K := call_body mixed Try.func42 (by kernel_rfl) K_deal_Final h

noncomputable def A_deal_long : AFun := ⟨1, 6, [.t 2],
 (.seq (.ops [
 oO 2 (.mv (.c (.bool false)))])
 (.seq (.ops [
 oM 3 0,
 oO 4 (.len (.t 3)),
 oO 5 (.bin .gtr (.t 4) (.c (.int .i64 16384))),
 oM 2 5])
 .ret))⟩
theorem K_deal_long : chkFun DK Pg Try.f43 A_deal_long = true := by kernel_rfl
theorem B_deal_long {args : List AV} {m : Mem} {K : AV → Mem → Prop} (h : vcFun DK Pg A_deal_long args m K) : ACall Pg F_deal_long args m K := call_body mixed Try.func43 (by kernel_rfl) K_deal_long h

noncomputable def A_draw_Scalar : AFun := ⟨2, 35, [.cell 4 4 true, .t 5],
 (.seq (.ops [
 oO 4 (.alloc 1 4 [.int .u64 0]),
 oO 5 (.mv (.c (.int .i64 0)))])
 (.seq (.ops [
 oM 11 0,
 oM 12 1,
 oK 13 F_draw_joined [.t 11, .t 12],
 oM 10 13,
 oO 14 (.ext (.t 10) 0),
 oO 15 (.ext (.t 10) 1),
 oM 6 14,
 oM 7 15])
 (.seq (.seq (.ops [
 oM 16 7,
 oO 17 (.un .not (.t 16))])
 (.cond (.t 17)
 (.seq (.ops [
 oO 18 (.build [.int .u64 0, .int .u64 0, .int .u64 0, .int .u64 0] []),
 ⟨none, .stA 1 4 4 (.t 4) (.t 18), none⟩,
 oO 5 (.mv (.c (.int .i64 4)))])
 .ret)
 .skip))
 (.seq (.ops [
 oM 19 6,
 oO 20 (.bsl 1 1 [.int .u8 0] [(0, 1, .c (.int .u8 0))]),
 oK 21 F_draw_with [.t 19, .t 20],
 oK 22 F_sha_Sum [.t 21],
 oK 23 F_limb_Of [.t 22],
 oM 24 6,
 oO 25 (.bsl 1 1 [.int .u8 0] [(0, 1, .c (.int .u8 1))]),
 oK 26 F_draw_with [.t 24, .t 25],
 oK 27 F_sha_Sum [.t 26],
 oK 28 F_limb_Of [.t 27],
 oO 8 (.alloc 1 4 [.int .u64 0]),
 oO 9 (.alloc 1 4 [.int .u64 0]),
 ⟨none, .stA 1 4 4 (.t 8) (.t 23), none⟩,
 ⟨none, .stA 1 4 4 (.t 9) (.t 28), none⟩])
 (.seq (.draw [
 oO 29 (.load 4 true (.t 8)),
 oO 30 (.load 4 true (.t 9)),
 oK 31 F_field_Prime [.c (.int .i64 1)],
 oK 32 F_limb_Mod [.t 29, .t 30, .t 31],
 oO 33 (.ext (.t 32) 0),
 oO 34 (.ext (.t 32) 1),
 ⟨none, .stA 1 4 4 (.t 4) (.t 33), none⟩,
 oM 5 34] ⟨.all, [], .look 0 (.look 1 (.run 2 true (.run 3 false (.look 4 (.look 5 (.run 6 false (.look 7 .done)))))))⟩)
 .ret)))))⟩
theorem K_draw_Scalar : chkFun DK Pg Try.f44 A_draw_Scalar = true := by kernel_rfl
theorem B_draw_Scalar {args : List AV} {m : Mem} {K : AV → Mem → Prop} (h : vcFun DK Pg A_draw_Scalar args m K) : ACall Pg F_draw_Scalar args m K := call_body mixed Try.func44 (by kernel_rfl) K_draw_Scalar h

noncomputable def A_deal_some : AFun := ⟨1, 8, [.cell 2 4 true],
 (.seq (.ops [
 oO 1 (.box 1 4 (.t 0)),
 oO 2 (.alloc 1 4 [.int .u64 0])])
 (.seq (.seq (.ops [
 oO 3 (.load 4 true (.t 1)),
 oO 4 (.build [.int .u64 0, .int .u64 0, .int .u64 0, .int .u64 0] []),
 oO 5 (.eqa [.i, .i, .i, .i] false (.t 3) (.t 4))])
 (.cond (.t 5)
 (.seq (.ops [
 oO 6 (.build [.int .u64 0, .int .u64 0, .int .u64 0, .int .u64 0] [(0, 1, .c (.int .u64 1))]),
 ⟨none, .stA 1 4 4 (.t 2) (.t 6), none⟩])
 .ret)
 .skip))
 (.seq (.ops [
 oO 7 (.load 4 true (.t 1)),
 ⟨none, .stA 1 4 4 (.t 2) (.t 7), none⟩])
 .ret)))⟩
theorem K_deal_some : chkFun DK Pg Try.f45 A_deal_some = true := by kernel_rfl
theorem B_deal_some {args : List AV} {m : Mem} {K : AV → Mem → Prop} (h : vcFun DK Pg A_deal_some args m K) : ACall Pg F_deal_some args m K := call_body mixed Try.func45 (by kernel_rfl) K_deal_some h

noncomputable def A_deal_scalar : AFun := ⟨3, 26, [.cell 6 4 true, .t 7],
 (.seq (.ops [
 oO 6 (.alloc 1 4 [.int .u64 0]),
 oO 7 (.mv (.c (.int .i64 0)))])
 (.seq (.ops [
 oM 11 2,
 oK 12 F_bin_Put [.c (.nils), .t 11, .c (.int .i64 4)],
 oM 10 12,
 oO 13 (.ext (.t 10) 0),
 oO 14 (.ext (.t 10) 1),
 oM 8 13,
 oM 9 14])
 (.seq (.seq (.ops [
 oM 15 9,
 oO 16 (.bin .neq (.t 15) (.c (.int .i64 0)))])
 (.cond (.t 16)
 (.seq (.ops [
 oO 17 (.build [.int .u64 0, .int .u64 0, .int .u64 0, .int .u64 0] []),
 oM 18 9,
 ⟨none, .stA 1 4 4 (.t 6) (.t 17), none⟩,
 oM 7 18])
 .ret)
 .skip))
 (.seq (.ops [
 oM 19 0,
 oM 20 1,
 oM 21 8,
 oO 22 (.bsl 1 2 [.nils] [(0, 1, .t 20), (1, 1, .t 21)]),
 oK 23 F_draw_Scalar [.t 19, .t 22],
 oO 24 (.ext (.t 23) 0),
 oO 25 (.ext (.t 23) 1),
 ⟨none, .stA 1 4 4 (.t 6) (.t 24), none⟩,
 oM 7 25])
 .ret))))⟩
theorem K_deal_scalar : chkFun DK Pg Try.f46 A_deal_scalar = true := by kernel_rfl
theorem B_deal_scalar {args : List AV} {m : Mem} {K : AV → Mem → Prop} (h : vcFun DK Pg A_deal_scalar args m K) : ACall Pg F_deal_scalar args m K := call_body mixed Try.func46 (by kernel_rfl) K_deal_scalar h

noncomputable def A_field_less : AFun := ⟨1, 12, [.cell 2 4 true, .t 3],
 (.seq (.ops [
 oO 2 (.alloc 1 4 [.int .u64 0]),
 oO 3 (.mv (.c (.bool false)))])
 (.seq (.seq (.ops [
 oM 4 0])
 (.block 0
 (.seq (.ops [
 oO 6 (.bin .eql (.t 4) (.c (.int .i64 0))),
 oM 5 6])
 (.cond (.t 5)
 (.seq (.ops [
 oO 7 (.build [.int .u64 0, .int .u64 0, .int .u64 0, .int .u64 0] [(0, 1, .c (.int .u64 4294968273))]),
 ⟨none, .stA 1 4 4 (.t 2) (.t 7), none⟩,
 oO 3 (.mv (.c (.bool true)))])
 .ret)
 (.seq (.ops [
 oO 9 (.bin .eql (.t 4) (.c (.int .i64 1))),
 oM 8 9])
 (.cond (.t 8)
 (.seq (.ops [
 oO 10 (.build [.int .u64 0, .int .u64 0, .int .u64 0, .int .u64 0] [(0, 1, .c (.int .u64 4624529908474429119)), (1, 1, .c (.int .u64 4994812053365940164)), (2, 1, .c (.int .u64 1))]),
 ⟨none, .stA 1 4 4 (.t 2) (.t 10), none⟩,
 oO 3 (.mv (.c (.bool true)))])
 .ret)
 .skip))))))
 (.seq (.ops [
 oO 11 (.build [.int .u64 0, .int .u64 0, .int .u64 0, .int .u64 0] []),
 ⟨none, .stA 1 4 4 (.t 2) (.t 11), none⟩,
 oO 3 (.mv (.c (.bool false)))])
 .ret)))⟩
theorem K_field_less : chkFun DK Pg Try.f47 A_field_less = true := by kernel_rfl
theorem B_field_less {args : List AV} {m : Mem} {K : AV → Mem → Prop} (h : vcFun DK Pg A_field_less args m K) : ACall Pg F_field_less args m K := call_body mixed Try.func47 (by kernel_rfl) K_field_less h

noncomputable def A_limb_Sub : AFun := ⟨2, 26, [.cell 4 4 true, .t 5],
 (.seq (.ops [
 oO 2 (.box 1 4 (.t 0)),
 oO 3 (.box 1 4 (.t 1)),
 oO 4 (.alloc 1 4 [.int .u64 0]),
 oO 5 (.mv (.c (.int .u64 0)))])
 (.seq (.seq (.ops [
 oO 7 (.mv (.c (.int .i64 0)))])
 (.block 0
 (.loop
 (.seq (.ops [
 oO 8 (.bin .lss (.t 7) (.c (.int .i64 4)))])
 (.seq (.cond (.t 8)
 .skip
 (.exit 0))
 (.seq (.block 1
 (.seq (.ops [
 oM 9 7,
 oM 6 9])
 (.draw [
 oM 11 6,
 oM 12 6,
 oO 13 (.idxP 4 1 (.t 2) (.t 12)),
 oO 14 (.load 1 false (.t 13)),
 oM 15 6,
 oO 16 (.idxP 4 1 (.t 3) (.t 15)),
 oO 17 (.load 1 false (.t 16)),
 oM 18 5,
 oO 19 (.x64 true F_bits_Sub64 (.t 14) (.t 17) (.t 18)),
 oM 10 19,
 oO 20 (.ext (.t 10) 0),
 oO 21 (.ext (.t 10) 1),
 oO 22 (.idxP 4 1 (.t 4) (.t 11)),
 ⟨none, .stA 1 4 1 (.t 22) (.t 20), none⟩,
 oM 5 21] ⟨.all, [], .look 0 (.look 1 (.look 2 (.look 3 (.look 4 (.look 5 (.look 6 (.look 7 (.run 8 true (.look 9 (.look 10 (.look 11 (.look 12 (.run 13 false (.look 14 .done))))))))))))))⟩)))
 (.ops [
 oO 23 (.binF .add (.t 7) (.c (.int .i64 1))),
 oM 7 23])))))))
 (.seq (.ops [
 oO 24 (.load 4 true (.t 4)),
 oM 25 5,
 ⟨none, .stA 1 4 4 (.t 4) (.t 24), none⟩,
 oM 5 25])
 .ret)))⟩
theorem K_limb_Sub : chkFun DK Pg Try.f48 A_limb_Sub = true := by kernel_rfl
theorem B_limb_Sub {args : List AV} {m : Mem} {K : AV → Mem → Prop} (h : vcFun DK Pg A_limb_Sub args m K) : ACall Pg F_limb_Sub args m K := call_body mixed Try.func48 (by kernel_rfl) K_limb_Sub h

noncomputable def A_act_Open : AFun := ⟨1, 43, [.t 2],
 (.seq (.ops [
 oO 1 (.box 22 1 (.t 0)),
 oO 2 (.mv (.c (.nili)))])
 (.seq (.seq (.ops [
 oO 3 (.fldA 0 (.t 1)),
 oO 4 (.load 1 false (.t 3))])
 (.block 0
 (.seq (.ops [
 oO 6 (.bin .eql (.t 4) (.c (.int .i64 1))),
 oM 5 6])
 (.cond (.t 5)
 (.seq (.ops [
 oO 7 (.fldA 1 (.t 1)),
 oO 8 (.load 9 true (.t 7)),
 oO 9 (.fldA 10 (.t 1)),
 oO 10 (.load 1 false (.t 9)),
 ⟨some 11, .build [.bool false, .int .u64 0, .int .u64 0, .int .u64 0, .int .u64 0, .int .u64 0, .int .u64 0, .int .u64 0, .int .u64 0, .str ⟨#[]⟩] [(0, 9, .t 8), (9, 1, .t 10)], none⟩,
 oO 12 (.mkif 108 (.t 11)),
 oM 2 12])
 .ret)
 (.seq (.ops [
 oO 14 (.bin .eql (.t 4) (.c (.int .i64 2))),
 oM 13 14])
 (.cond (.t 13)
 (.seq (.ops [
 oO 15 (.fldA 11 (.t 1)),
 oO 16 (.load 1 false (.t 15)),
 oO 17 (.fldA 12 (.t 1)),
 oO 18 (.load 1 false (.t 17)),
 oO 19 (.build [.nils, .nils] [(0, 1, .t 16), (1, 1, .t 18)]),
 oO 20 (.mkif 111 (.t 19)),
 oM 2 20])
 .ret)
 (.seq (.ops [
 oO 22 (.bin .eql (.t 4) (.c (.int .i64 3))),
 oM 21 22])
 (.cond (.t 21)
 (.seq (.ops [
 oO 23 (.fldA 13 (.t 1)),
 oO 24 (.load 1 false (.t 23)),
 oO 25 (.fldA 1 (.t 1)),
 oO 26 (.load 9 true (.t 25)),
 oO 27 (.fldA 14 (.t 1)),
 oO 28 (.load 8 true (.t 27)),
 oO 29 (.build [.int .i64 0, .bool false, .int .u64 0, .int .u64 0, .int .u64 0, .int .u64 0, .int .u64 0, .int .u64 0, .int .u64 0, .int .u64 0, .int .u64 0, .int .u64 0, .int .u64 0, .int .u64 0, .int .u64 0, .int .u64 0, .int .u64 0, .int .u64 0] [(0, 1, .t 24), (1, 9, .t 26), (10, 8, .t 28)]),
 oO 30 (.mkif 113 (.t 29)),
 oM 2 30])
 .ret)
 (.seq (.ops [
 oO 32 (.bin .eql (.t 4) (.c (.int .i64 4))),
 oM 31 32])
 (.cond (.t 31)
 (.seq (.ops [
 oO 33 (.fldA 1 (.t 1)),
 oO 34 (.load 9 true (.t 33)),
 oO 35 (.fldA 14 (.t 1)),
 oO 36 (.load 8 true (.t 35)),
 oO 37 (.build [.bool false, .int .u64 0, .int .u64 0, .int .u64 0, .int .u64 0, .int .u64 0, .int .u64 0, .int .u64 0, .int .u64 0, .int .u64 0, .int .u64 0, .int .u64 0, .int .u64 0, .int .u64 0, .int .u64 0, .int .u64 0, .int .u64 0] [(0, 9, .t 34), (9, 8, .t 36)]),
 oO 38 (.mkif 115 (.t 37)),
 oM 2 38])
 .ret)
 (.seq (.ops [
 oO 40 (.bin .eql (.t 4) (.c (.int .i64 5))),
 oM 39 40])
 (.cond (.t 39)
 (.seq (.ops [
 oO 41 (.build [] []),
 oO 42 (.mkif 167 (.t 41)),
 oM 2 42])
 .ret)
 .skip))))))))))))
 (.seq (.ops [
 oO 2 (.mv (.c (.nili)))])
 .ret)))⟩
theorem K_act_Open : chkFun DK Pg Try.f60 A_act_Open = true := by kernel_rfl
theorem B_act_Open {args : List AV} {m : Mem} {K : AV → Mem → Prop} (h : vcFun DK Pg A_act_Open args m K) : ACall Pg F_act_Open args m K := call_body mixed Try.func60 (by kernel_rfl) K_act_Open h

noncomputable def A_act_empty : AFun := ⟨1, 51, [.t 2],
 (.seq (.ops [
 oO 1 (.box 22 1 (.t 0)),
 oO 2 (.mv (.c (.bool false)))])
 (.seq (.ops [
 oO 4 (.load 22 true (.t 1)),
 oK 5 F_act_Open [.t 4],
 oK 6 F_act_whole [.t 5],
 ⟨some 3, .alloc 22 1 [.int .i64 0, .bool false, .int .u64 0, .int .u64 0, .int .u64 0, .int .u64 0, .int .u64 0, .int .u64 0, .int .u64 0, .int .u64 0, .str ⟨#[]⟩, .nils, .nils, .int .i64 0, .int .u64 0, .int .u64 0, .int .u64 0, .int .u64 0, .int .u64 0, .int .u64 0, .int .u64 0, .int .u64 0], none⟩,
 oS 22 3 6])
 (.seq (.ops [
 oO 7 (.fldA 1 (.t 1)),
 oO 8 (.load 9 true (.t 7)),
 oO 9 (.fldA 1 (.t 3)),
 oO 10 (.load 9 true (.t 9)),
 oO 11 (.eqa [.b, .i, .i, .i, .i, .i, .i, .i, .i] false (.t 8) (.t 10)),
 oM 12 11,
 oG 13 (.fldA 10 (.t 1)) 12 true,
 oG 14 (.load 1 false (.t 13)) 12 true,
 oG 15 (.fldA 10 (.t 3)) 12 true,
 oG 16 (.load 1 false (.t 15)) 12 true,
 oG 17 (.bin .eql (.t 14) (.t 16)) 12 true,
 oO 18 (.pick (.t 12) (.t 17) (.c (.bool false))),
 oM 19 18,
 oG 20 (.fldA 11 (.t 1)) 19 true,
 oG 21 (.load 1 false (.t 20)) 19 true,
 oG 22 (.len (.t 21)) 19 true,
 oG 23 (.fldA 11 (.t 3)) 19 true,
 oG 24 (.load 1 false (.t 23)) 19 true,
 oG 25 (.len (.t 24)) 19 true,
 oG 26 (.bin .eql (.t 22) (.t 25)) 19 true,
 oO 27 (.pick (.t 19) (.t 26) (.c (.bool false))),
 oM 28 27,
 oG 29 (.fldA 12 (.t 1)) 28 true,
 oG 30 (.load 1 false (.t 29)) 28 true,
 oG 31 (.len (.t 30)) 28 true,
 oG 32 (.fldA 12 (.t 3)) 28 true,
 oG 33 (.load 1 false (.t 32)) 28 true,
 oG 34 (.len (.t 33)) 28 true,
 oG 35 (.bin .eql (.t 31) (.t 34)) 28 true,
 oO 36 (.pick (.t 28) (.t 35) (.c (.bool false))),
 oM 37 36,
 oG 38 (.fldA 13 (.t 1)) 37 true,
 oG 39 (.load 1 false (.t 38)) 37 true,
 oG 40 (.fldA 13 (.t 3)) 37 true,
 oG 41 (.load 1 false (.t 40)) 37 true,
 oG 42 (.bin .eql (.t 39) (.t 41)) 37 true,
 oO 43 (.pick (.t 37) (.t 42) (.c (.bool false))),
 oM 44 43,
 oG 45 (.fldA 14 (.t 1)) 44 true,
 oG 46 (.load 8 true (.t 45)) 44 true,
 oG 47 (.fldA 14 (.t 3)) 44 true,
 oG 48 (.load 8 true (.t 47)) 44 true,
 oG 49 (.eqa [.i, .i, .i, .i, .i, .i, .i, .i] false (.t 46) (.t 48)) 44 true,
 oO 50 (.pick (.t 44) (.t 49) (.c (.bool false))),
 oM 2 50])
 .ret)))⟩
theorem K_act_empty : chkFun DK Pg Try.f61 A_act_empty = true := by kernel_rfl
theorem B_act_empty {args : List AV} {m : Mem} {K : AV → Mem → Prop} (h : vcFun DK Pg A_act_empty args m K) : ACall Pg F_act_empty args m K := call_body mixed Try.func61 (by kernel_rfl) K_act_empty h

noncomputable def A_act_Registered_check : AFun := ⟨1, 10, [.t 2],
 (.seq (.ops [
 oO 1 (.box 10 1 (.t 0)),
 oO 2 (.mv (.c (.int .i64 0)))])
 (.seq (.seq (.ops [
 oO 3 (.fldA 0 (.t 1)),
 oO 4 (.load 9 true (.t 3)),
 oK 5 F_act_point [.t 4],
 oO 6 (.un .not (.t 5))])
 (.cond (.t 6)
 (.seq (.ops [
 oO 2 (.mv (.c (.int .i64 3)))])
 .ret)
 .skip))
 (.seq (.ops [
 oO 7 (.fldA 9 (.t 1)),
 oO 8 (.load 1 false (.t 7)),
 oK 9 F_label_Check [.t 8],
 oM 2 9])
 .ret)))⟩
theorem K_act_Registered_check : chkFun DK Pg Try.f62 A_act_Registered_check = true := by kernel_rfl
theorem B_act_Registered_check {args : List AV} {m : Mem} {K : AV → Mem → Prop} (h : vcFun DK Pg A_act_Registered_check args m K) : ACall Pg F_act_Registered_check args m K := call_body mixed Try.func62 (by kernel_rfl) K_act_Registered_check h

noncomputable def A_act_Posted_check : AFun := ⟨1, 41, [.t 2],
 (.seq (.ops [
 oO 1 (.box 2 1 (.t 0)),
 oO 2 (.mv (.c (.int .i64 0)))])
 (.seq (.seq (.ops [
 oO 5 (.fldA 0 (.t 1)),
 oO 6 (.load 1 false (.t 5)),
 oO 7 (.len (.t 6)),
 oO 8 (.bin .gtr (.t 7) (.c (.int .i64 8))),
 oM 9 8,
 oG 10 (.fldA 1 (.t 1)) 9 false,
 oG 11 (.load 1 false (.t 10)) 9 false,
 oG 12 (.len (.t 11)) 9 false,
 oG 13 (.bin .lss (.t 12) (.c (.int .i64 1))) 9 false,
 oO 14 (.pick (.t 9) (.c (.bool true)) (.t 13)),
 oM 15 14,
 oG 16 (.fldA 1 (.t 1)) 15 false,
 oG 17 (.load 1 false (.t 16)) 15 false,
 oG 18 (.len (.t 17)) 15 false,
 oG 19 (.bin .gtr (.t 18) (.c (.int .i64 64))) 15 false,
 oO 20 (.pick (.t 15) (.c (.bool true)) (.t 19))])
 (.cond (.t 20)
 (.seq (.ops [
 oO 2 (.mv (.c (.int .i64 4)))])
 .ret)
 .skip))
 (.seq (.seq (.ops [
 oO 21 (.fldA 1 (.t 1)),
 oO 22 (.load 1 false (.t 21)),
 oO 23 (.len (.t 22)),
 oO 24 (.mv (.c (.int .i64 0)))])
 (.block 0
 (.loop
 (.seq (.ops [
 oO 25 (.bin .lss (.t 24) (.t 23))])
 (.seq (.cond (.t 25)
 .skip
 (.exit 0))
 (.seq (.block 1
 (.seq (.ops [
 oM 26 24,
 oO 27 (.idxA 9 (.t 22) (.t 24)),
 oO 28 (.load 9 true (.t 27)),
 oO 4 (.alloc 9 1 [.bool false, .int .u64 0, .int .u64 0, .int .u64 0, .int .u64 0, .int .u64 0, .int .u64 0, .int .u64 0, .int .u64 0]),
 oM 3 26,
 ⟨none, .stA 9 1 9 (.t 4) (.t 28), none⟩])
 (.seq (.ops [
 oO 29 (.load 9 true (.t 4)),
 oK 30 F_curve_Check [.t 29],
 oO 31 (.bin .neq (.t 30) (.c (.int .i64 0))),
 oM 32 31,
 oG 33 (.mv (.t 3)) 32 false,
 oG 34 (.bin .eql (.t 33) (.c (.int .i64 0))) 32 false,
 oG 35 (.mv (.t 34)) 32 false,
 oG 36 (.fldA 0 (.t 4)) 35 true,
 oG 37 (.load 1 false (.t 36)) 35 true,
 oG 38 (.pick (.t 35) (.t 37) (.c (.bool false))) 32 false,
 oO 39 (.pick (.t 32) (.c (.bool true)) (.t 38))])
 (.cond (.t 39)
 (.seq (.ops [
 oO 2 (.mv (.c (.int .i64 3)))])
 .ret)
 .skip))))
 (.ops [
 oO 40 (.bin .add (.t 24) (.c (.int .i64 1))),
 oM 24 40])))))))
 (.seq (.ops [
 oO 2 (.mv (.c (.int .i64 0)))])
 .ret))))⟩
theorem K_act_Posted_check : chkFun DK Pg Try.f63 A_act_Posted_check = true := by kernel_rfl
theorem B_act_Posted_check {args : List AV} {m : Mem} {K : AV → Mem → Prop} (h : vcFun DK Pg A_act_Posted_check args m K) : ACall Pg F_act_Posted_check args m K := call_body mixed Try.func63 (by kernel_rfl) K_act_Posted_check h

noncomputable def A_act_Disputed_check : AFun := ⟨1, 17, [.t 2],
 (.seq (.ops [
 oO 1 (.box 18 1 (.t 0)),
 oO 2 (.mv (.c (.int .i64 0)))])
 (.seq (.seq (.ops [
 oO 3 (.fldA 0 (.t 1)),
 oO 4 (.load 1 false (.t 3)),
 oO 5 (.bin .lss (.t 4) (.c (.int .i64 1))),
 oM 6 5,
 oG 7 (.fldA 0 (.t 1)) 6 false,
 oG 8 (.load 1 false (.t 7)) 6 false,
 oG 9 (.bin .gtr (.t 8) (.c (.int .i64 8))) 6 false,
 oO 10 (.pick (.t 6) (.c (.bool true)) (.t 9))])
 (.cond (.t 10)
 (.seq (.ops [
 oO 2 (.mv (.c (.int .i64 1)))])
 .ret)
 .skip))
 (.seq (.ops [
 oO 11 (.fldA 1 (.t 1)),
 oO 12 (.load 9 true (.t 11)),
 oO 13 (.fldA 10 (.t 1)),
 oO 14 (.load 8 true (.t 13)),
 oO 15 (.build [.bool false, .int .u64 0, .int .u64 0, .int .u64 0, .int .u64 0, .int .u64 0, .int .u64 0, .int .u64 0, .int .u64 0, .int .u64 0, .int .u64 0, .int .u64 0, .int .u64 0, .int .u64 0, .int .u64 0, .int .u64 0, .int .u64 0] [(0, 9, .t 12), (9, 8, .t 14)]),
 oK 16 F_act_Submitted_check [.t 15],
 oM 2 16])
 .ret)))⟩
theorem K_act_Disputed_check : chkFun DK Pg Try.f64 A_act_Disputed_check = true := by kernel_rfl
theorem B_act_Disputed_check {args : List AV} {m : Mem} {K : AV → Mem → Prop} (h : vcFun DK Pg A_act_Disputed_check args m K) : ACall Pg F_act_Disputed_check args m K := call_body mixed Try.func64 (by kernel_rfl) K_act_Disputed_check h

noncomputable def A_act_Submitted_check : AFun := ⟨1, 13, [.t 2],
 (.seq (.ops [
 oO 1 (.box 17 1 (.t 0)),
 oO 2 (.mv (.c (.int .i64 0)))])
 (.seq (.block 0
 (.seq (.ops [
 oO 4 (.fldA 0 (.t 1)),
 oO 5 (.load 9 true (.t 4)),
 oK 6 F_act_point [.t 5],
 oO 7 (.un .not (.t 6)),
 oM 3 7])
 (.cond (.t 3)
 (.seq (.ops [
 oO 2 (.mv (.c (.int .i64 3)))])
 .ret)
 (.seq (.ops [
 oO 9 (.fldA 9 (.t 1)),
 oO 10 (.load 8 true (.t 9)),
 oK 11 F_act_proof [.t 10],
 oO 12 (.un .not (.t 11)),
 oM 8 12])
 (.cond (.t 8)
 (.seq (.ops [
 oO 2 (.mv (.c (.int .i64 2)))])
 .ret)
 .skip)))))
 (.seq (.ops [
 oO 2 (.mv (.c (.int .i64 0)))])
 .ret)))⟩
theorem K_act_Submitted_check : chkFun DK Pg Try.f65 A_act_Submitted_check = true := by kernel_rfl
theorem B_act_Submitted_check {args : List AV} {m : Mem} {K : AV → Mem → Prop} (h : vcFun DK Pg A_act_Submitted_check args m K) : ACall Pg F_act_Submitted_check args m K := call_body mixed Try.func65 (by kernel_rfl) K_act_Submitted_check h

noncomputable def A_act_whole : AFun := ⟨1, 58, [.cell 2 22 true],
 (.seq (.ops [
 ⟨some 2, .alloc 22 1 [.int .i64 0, .bool false, .int .u64 0, .int .u64 0, .int .u64 0, .int .u64 0, .int .u64 0, .int .u64 0, .int .u64 0, .int .u64 0, .str ⟨#[]⟩, .nils, .nils, .int .i64 0, .int .u64 0, .int .u64 0, .int .u64 0, .int .u64 0, .int .u64 0, .int .u64 0, .int .u64 0, .int .u64 0], none⟩])
 (.seq (.seq (.ops [
 oM 12 0,
 ⟨some 13, .tas (.t 12) 108 true (.agg [.bool false, .int .u64 0, .int .u64 0, .int .u64 0, .int .u64 0, .int .u64 0, .int .u64 0, .int .u64 0, .int .u64 0, .str ⟨#[]⟩]), none⟩,
 oM 11 13,
 oO 14 (.ext (.t 11) 0),
 oO 15 (.ext (.t 11) 1),
 ⟨some 3, .alloc 10 1 [.bool false, .int .u64 0, .int .u64 0, .int .u64 0, .int .u64 0, .int .u64 0, .int .u64 0, .int .u64 0, .int .u64 0, .str ⟨#[]⟩], none⟩,
 ⟨none, .stA 10 1 10 (.t 3) (.t 14), none⟩,
 oM 4 15])
 (.seq (.ops [
 oM 16 4])
 (.cond (.t 16)
 (.seq (.ops [
 oO 17 (.fldA 0 (.t 3)),
 oO 18 (.load 9 true (.t 17)),
 oO 19 (.fldA 9 (.t 3)),
 oO 20 (.load 1 false (.t 19)),
 ⟨some 21, .build [.int .i64 0, .bool false, .int .u64 0, .int .u64 0, .int .u64 0, .int .u64 0, .int .u64 0, .int .u64 0, .int .u64 0, .int .u64 0, .str ⟨#[]⟩, .nils, .nils, .int .i64 0, .int .u64 0, .int .u64 0, .int .u64 0, .int .u64 0, .int .u64 0, .int .u64 0, .int .u64 0, .int .u64 0] [(0, 1, .c (.int .i64 1)), (1, 9, .t 18), (10, 1, .t 20)], none⟩,
 oS 22 2 21])
 .ret)
 .skip)))
 (.seq (.seq (.ops [
 oM 23 0,
 oO 24 (.tas (.t 23) 111 true (.agg [.nils, .nils])),
 oM 22 24,
 oO 25 (.ext (.t 22) 0),
 oO 26 (.ext (.t 22) 1),
 oO 5 (.alloc 2 1 [.nils, .nils]),
 ⟨none, .stA 2 1 2 (.t 5) (.t 25), none⟩,
 oM 6 26])
 (.seq (.ops [
 oM 27 6])
 (.cond (.t 27)
 (.seq (.ops [
 oO 28 (.fldA 0 (.t 5)),
 oO 29 (.load 1 false (.t 28)),
 oO 30 (.fldA 1 (.t 5)),
 oO 31 (.load 1 false (.t 30)),
 ⟨some 32, .build [.int .i64 0, .bool false, .int .u64 0, .int .u64 0, .int .u64 0, .int .u64 0, .int .u64 0, .int .u64 0, .int .u64 0, .int .u64 0, .str ⟨#[]⟩, .nils, .nils, .int .i64 0, .int .u64 0, .int .u64 0, .int .u64 0, .int .u64 0, .int .u64 0, .int .u64 0, .int .u64 0, .int .u64 0] [(0, 1, .c (.int .i64 2)), (11, 1, .t 29), (12, 1, .t 31)], none⟩,
 oS 22 2 32])
 .ret)
 .skip)))
 (.seq (.seq (.ops [
 oM 34 0,
 oO 35 (.tas (.t 34) 113 true (.agg [.int .i64 0, .bool false, .int .u64 0, .int .u64 0, .int .u64 0, .int .u64 0, .int .u64 0, .int .u64 0, .int .u64 0, .int .u64 0, .int .u64 0, .int .u64 0, .int .u64 0, .int .u64 0, .int .u64 0, .int .u64 0, .int .u64 0, .int .u64 0])),
 oM 33 35,
 oO 36 (.ext (.t 33) 0),
 oO 37 (.ext (.t 33) 1),
 oO 7 (.alloc 18 1 [.int .i64 0, .bool false, .int .u64 0, .int .u64 0, .int .u64 0, .int .u64 0, .int .u64 0, .int .u64 0, .int .u64 0, .int .u64 0, .int .u64 0, .int .u64 0, .int .u64 0, .int .u64 0, .int .u64 0, .int .u64 0, .int .u64 0, .int .u64 0]),
 oS 18 7 36,
 oM 8 37])
 (.seq (.ops [
 oM 38 8])
 (.cond (.t 38)
 (.seq (.ops [
 oO 39 (.fldA 0 (.t 7)),
 oO 40 (.load 1 false (.t 39)),
 oO 41 (.fldA 1 (.t 7)),
 oO 42 (.load 9 true (.t 41)),
 oO 43 (.fldA 10 (.t 7)),
 oO 44 (.load 8 true (.t 43)),
 ⟨some 45, .build [.int .i64 0, .bool false, .int .u64 0, .int .u64 0, .int .u64 0, .int .u64 0, .int .u64 0, .int .u64 0, .int .u64 0, .int .u64 0, .str ⟨#[]⟩, .nils, .nils, .int .i64 0, .int .u64 0, .int .u64 0, .int .u64 0, .int .u64 0, .int .u64 0, .int .u64 0, .int .u64 0, .int .u64 0] [(0, 1, .c (.int .i64 3)), (13, 1, .t 40), (1, 9, .t 42), (14, 8, .t 44)], none⟩,
 oS 22 2 45])
 .ret)
 .skip)))
 (.seq (.seq (.ops [
 oM 47 0,
 oO 48 (.tas (.t 47) 115 true (.agg [.bool false, .int .u64 0, .int .u64 0, .int .u64 0, .int .u64 0, .int .u64 0, .int .u64 0, .int .u64 0, .int .u64 0, .int .u64 0, .int .u64 0, .int .u64 0, .int .u64 0, .int .u64 0, .int .u64 0, .int .u64 0, .int .u64 0])),
 oM 46 48,
 oO 49 (.ext (.t 46) 0),
 oO 50 (.ext (.t 46) 1),
 oO 9 (.alloc 17 1 [.bool false, .int .u64 0, .int .u64 0, .int .u64 0, .int .u64 0, .int .u64 0, .int .u64 0, .int .u64 0, .int .u64 0, .int .u64 0, .int .u64 0, .int .u64 0, .int .u64 0, .int .u64 0, .int .u64 0, .int .u64 0, .int .u64 0]),
 oS 17 9 49,
 oM 10 50])
 (.seq (.ops [
 oM 51 10])
 (.cond (.t 51)
 (.seq (.ops [
 oO 52 (.fldA 0 (.t 9)),
 oO 53 (.load 9 true (.t 52)),
 oO 54 (.fldA 9 (.t 9)),
 oO 55 (.load 8 true (.t 54)),
 ⟨some 56, .build [.int .i64 0, .bool false, .int .u64 0, .int .u64 0, .int .u64 0, .int .u64 0, .int .u64 0, .int .u64 0, .int .u64 0, .int .u64 0, .str ⟨#[]⟩, .nils, .nils, .int .i64 0, .int .u64 0, .int .u64 0, .int .u64 0, .int .u64 0, .int .u64 0, .int .u64 0, .int .u64 0, .int .u64 0] [(0, 1, .c (.int .i64 4)), (1, 9, .t 53), (14, 8, .t 55)], none⟩,
 oS 22 2 56])
 .ret)
 .skip)))
 (.seq (.ops [
 ⟨some 57, .build [.int .i64 0, .bool false, .int .u64 0, .int .u64 0, .int .u64 0, .int .u64 0, .int .u64 0, .int .u64 0, .int .u64 0, .int .u64 0, .str ⟨#[]⟩, .nils, .nils, .int .i64 0, .int .u64 0, .int .u64 0, .int .u64 0, .int .u64 0, .int .u64 0, .int .u64 0, .int .u64 0, .int .u64 0] [(0, 1, .c (.int .i64 5))], none⟩,
 oS 22 2 57])
 .ret))))))⟩
theorem K_act_whole : chkFun DK Pg Try.f74 A_act_whole = true := by kernel_rfl
theorem B_act_whole {args : List AV} {m : Mem} {K : AV → Mem → Prop} (h : vcFun DK Pg A_act_whole args m K) : ACall Pg F_act_whole args m K := call_body mixed Try.func74 (by kernel_rfl) K_act_whole h

noncomputable def A_curve_spread : AFun := ⟨1, 15, [.cell 2 12 true],
 (.seq (.ops [
 oO 1 (.box 9 1 (.t 0)),
 oO 2 (.alloc 12 1 (List.replicate 12 (.int .u64 0)))])
 (.seq (.seq (.ops [
 oO 3 (.fldA 0 (.t 1)),
 oO 4 (.load 1 false (.t 3))])
 (.cond (.t 4)
 (.seq (.ops [
 oO 5 (.build [.int .u64 0, .int .u64 0, .int .u64 0, .int .u64 0] [(0, 1, .c (.int .u64 1))]),
 oO 6 (.build [.int .u64 0, .int .u64 0, .int .u64 0, .int .u64 0] [(0, 1, .c (.int .u64 1))]),
 oO 7 (.build [.int .u64 0, .int .u64 0, .int .u64 0, .int .u64 0] []),
 oO 8 (.build (List.replicate 12 (.int .u64 0)) [(0, 4, .t 5), (4, 4, .t 6), (8, 4, .t 7)]),
 ⟨none, .stA 12 1 12 (.t 2) (.t 8), none⟩])
 .ret)
 .skip))
 (.seq (.ops [
 oO 9 (.fldA 1 (.t 1)),
 oO 10 (.load 4 true (.t 9)),
 oO 11 (.fldA 5 (.t 1)),
 oO 12 (.load 4 true (.t 11)),
 oO 13 (.build [.int .u64 0, .int .u64 0, .int .u64 0, .int .u64 0] [(0, 1, .c (.int .u64 1))]),
 oO 14 (.build (List.replicate 12 (.int .u64 0)) [(0, 4, .t 10), (4, 4, .t 12), (8, 4, .t 13)]),
 ⟨none, .stA 12 1 12 (.t 2) (.t 14), none⟩])
 .ret)))⟩
theorem K_curve_spread : chkFun DK Pg Try.f75 A_curve_spread = true := by kernel_rfl
theorem B_curve_spread {args : List AV} {m : Mem} {K : AV → Mem → Prop} (h : vcFun DK Pg A_curve_spread args m K) : ACall Pg F_curve_spread args m K := call_body mixed Try.func75 (by kernel_rfl) K_curve_spread h

noncomputable def A_curve_base : AFun := ⟨0, 4, [.cell 0 9 true],
 (.seq (.ops [
 oO 0 (.alloc 9 1 [.bool false, .int .u64 0, .int .u64 0, .int .u64 0, .int .u64 0, .int .u64 0, .int .u64 0, .int .u64 0, .int .u64 0])])
 (.seq (.ops [
 oO 1 (.build [.int .u64 0, .int .u64 0, .int .u64 0, .int .u64 0] [(0, 1, .c (.int .u64 6481385041966929816)), (1, 1, .c (.int .u64 188021827762530521)), (2, 1, .c (.int .u64 6170039885052185351)), (3, 1, .c (.int .u64 8772561819708210092))]),
 oO 2 (.build [.int .u64 0, .int .u64 0, .int .u64 0, .int .u64 0] [(0, 1, .c (.int .u64 11261198710074299576)), (1, 1, .c (.int .u64 18237243440184513561)), (2, 1, .c (.int .u64 6747795201694173352)), (3, 1, .c (.int .u64 5204712524664259685))]),
 oO 3 (.build [.bool false, .int .u64 0, .int .u64 0, .int .u64 0, .int .u64 0, .int .u64 0, .int .u64 0, .int .u64 0, .int .u64 0] [(1, 4, .t 1), (5, 4, .t 2)]),
 ⟨none, .stA 9 1 9 (.t 0) (.t 3), none⟩])
 .ret))⟩
theorem K_curve_base : chkFun DK Pg Try.f76 A_curve_base = true := by kernel_rfl
theorem B_curve_base {args : List AV} {m : Mem} {K : AV → Mem → Prop} (h : vcFun DK Pg A_curve_base args m K) : ACall Pg F_curve_base args m K := call_body mixed Try.func76 (by kernel_rfl) K_curve_base h

noncomputable def A_curve_jac_times : AFun := ⟨2, 28, [.cell 4 12 true],
 (.seq (.ops [
 oO 2 (.box 12 1 (.t 0)),
 oO 3 (.box 1 4 (.t 1)),
 oO 4 (.alloc 12 1 (List.replicate 12 (.int .u64 0)))])
 (.seq (.ops [
 oO 7 (.build [.int .u64 0, .int .u64 0, .int .u64 0, .int .u64 0] [(0, 1, .c (.int .u64 1))]),
 oO 8 (.build [.int .u64 0, .int .u64 0, .int .u64 0, .int .u64 0] [(0, 1, .c (.int .u64 1))]),
 oO 9 (.build [.int .u64 0, .int .u64 0, .int .u64 0, .int .u64 0] []),
 oO 10 (.build (List.replicate 12 (.int .u64 0)) [(0, 4, .t 7), (4, 4, .t 8), (8, 4, .t 9)]),
 oO 5 (.alloc 12 1 (List.replicate 12 (.int .u64 0))),
 ⟨none, .stA 12 1 12 (.t 5) (.t 10), none⟩])
 (.seq (.seq (.ops [
 oO 11 (.load 4 true (.t 3)),
 oK 12 F_limb_Len [.t 11],
 oO 13 (.bin .sub (.t 12) (.c (.int .i64 1))),
 oM 6 13])
 (.block 0
 (.loop
 (.seq (.seq (.ops [
 oM 14 6,
 oO 15 (.bin .geq (.t 14) (.c (.int .i64 0)))])
 (.cond (.t 15)
 .skip
 (.exit 0)))
 (.seq (.block 1
 (.seq (.ops [
 oO 18 (.load 12 true (.t 5)),
 oK 19 F_curve_jac_twice [.t 18],
 ⟨none, .stA 12 1 12 (.t 5) (.t 19), none⟩])
 (.seq (.ops [
 oO 20 (.load 4 true (.t 3)),
 oM 21 6,
 oK 22 F_limb_Bit [.t 20, .t 21],
 oO 23 (.bin .eql (.t 22) (.c (.int .i64 1)))])
 (.cond (.t 23)
 (.ops [
 oO 24 (.load 12 true (.t 5)),
 oO 25 (.load 12 true (.t 2)),
 oK 26 F_curve_jac_plus [.t 24, .t 25],
 ⟨none, .stA 12 1 12 (.t 5) (.t 26), none⟩])
 .skip))))
 (.ops [
 oM 16 6,
 oO 17 (.bin .sub (.t 16) (.c (.int .i64 1))),
 oM 6 17]))))))
 (.seq (.ops [
 oO 27 (.load 12 true (.t 5)),
 ⟨none, .stA 12 1 12 (.t 4) (.t 27), none⟩])
 .ret))))⟩
theorem K_curve_jac_times : chkFun DK Pg Try.f77 A_curve_jac_times = true := by kernel_rfl
theorem B_curve_jac_times {args : List AV} {m : Mem} {K : AV → Mem → Prop} (h : vcFun DK Pg A_curve_jac_times args m K) : ACall Pg F_curve_jac_times args m K := call_body mixed Try.func77 (by kernel_rfl) K_curve_jac_times h

noncomputable def A_curve_jac_point : AFun := ⟨1, 27, [.cell 2 9 true],
 (.seq (.ops [
 oO 1 (.box 12 1 (.t 0)),
 oO 2 (.alloc 9 1 [.bool false, .int .u64 0, .int .u64 0, .int .u64 0, .int .u64 0, .int .u64 0, .int .u64 0, .int .u64 0, .int .u64 0])])
 (.seq (.seq (.ops [
 oO 5 (.fldA 8 (.t 1)),
 oO 6 (.load 4 true (.t 5)),
 oO 7 (.build [.int .u64 0, .int .u64 0, .int .u64 0, .int .u64 0] []),
 oO 8 (.eqa [.i, .i, .i, .i] false (.t 6) (.t 7))])
 (.cond (.t 8)
 (.seq (.ops [
 oO 9 (.build [.bool false, .int .u64 0, .int .u64 0, .int .u64 0, .int .u64 0, .int .u64 0, .int .u64 0, .int .u64 0, .int .u64 0] [(0, 1, .c (.bool true))]),
 ⟨none, .stA 9 1 9 (.t 2) (.t 9), none⟩])
 .ret)
 .skip))
 (.seq (.ops [
 oO 10 (.fldA 8 (.t 1)),
 oO 11 (.load 4 true (.t 10)),
 oK 12 F_field_Inv [.c (.int .i64 0), .t 11],
 oO 3 (.alloc 1 4 [.int .u64 0]),
 ⟨none, .stA 1 4 4 (.t 3) (.t 12), none⟩])
 (.seq (.ops [
 oO 13 (.load 4 true (.t 3)),
 oO 14 (.load 4 true (.t 3)),
 oK 15 F_curve_mul [.t 13, .t 14],
 oO 4 (.alloc 1 4 [.int .u64 0]),
 ⟨none, .stA 1 4 4 (.t 4) (.t 15), none⟩])
 (.seq (.draw [
 oO 16 (.fldA 0 (.t 1)),
 oO 17 (.load 4 true (.t 16)),
 oO 18 (.load 4 true (.t 4)),
 oK 19 F_curve_mul [.t 17, .t 18],
 oO 20 (.fldA 4 (.t 1)),
 oO 21 (.load 4 true (.t 20)),
 oO 22 (.load 4 true (.t 4)),
 oO 23 (.load 4 true (.t 3)),
 oK 24 F_curve_mul [.t 22, .t 23],
 oK 25 F_curve_mul [.t 21, .t 24],
 oO 26 (.build [.bool false, .int .u64 0, .int .u64 0, .int .u64 0, .int .u64 0, .int .u64 0, .int .u64 0, .int .u64 0, .int .u64 0] [(1, 4, .t 19), (5, 4, .t 25)]),
 ⟨none, .stA 9 1 9 (.t 2) (.t 26), none⟩] ⟨.all, [], .look 0 (.look 1 (.look 2 (.look 4 (.look 5 (.look 6 (.look 7 (.run 3 true (.run 8 true (.run 9 true (.look 10 (.run 11 false .done)))))))))))⟩)
 .ret)))))⟩
theorem K_curve_jac_point : chkFun DK Pg Try.f78 A_curve_jac_point = true := by kernel_rfl
theorem B_curve_jac_point {args : List AV} {m : Mem} {K : AV → Mem → Prop} (h : vcFun DK Pg A_curve_jac_point args m K) : ACall Pg F_curve_jac_point args m K := call_body mixed Try.func78 (by kernel_rfl) K_curve_jac_point h

noncomputable def A_deal_number : AFun := ⟨2, 13, [.t 4],
 (.seq (.ops [
 oO 4 (.mv (.c (.bool false)))])
 (.seq (.ops [
 oM 5 1,
 oO 6 (.bin .geq (.t 5) (.c (.int .i64 1))),
 oM 7 6,
 oG 8 (.mv (.t 1)) 7 true,
 oG 9 (.mv (.t 0)) 7 true,
 oG 10 (.len (.t 9)) 7 true,
 oG 11 (.bin .leq (.t 8) (.t 10)) 7 true,
 oO 12 (.pick (.t 7) (.t 11) (.c (.bool false))),
 oM 4 12])
 .ret))⟩
theorem K_deal_number : chkFun DK Pg Try.f79 A_deal_number = true := by kernel_rfl
theorem B_deal_number {args : List AV} {m : Mem} {K : AV → Mem → Prop} (h : vcFun DK Pg A_deal_number args m K) : ACall Pg F_deal_number args m K := call_body mixed Try.func79 (by kernel_rfl) K_deal_number h

noncomputable def A_curve_Check : AFun := ⟨1, 33, [.t 2],
 (.seq (.ops [
 oO 1 (.box 9 1 (.t 0)),
 oO 2 (.mv (.c (.int .i64 0)))])
 (.seq (.seq (.ops [
 oO 4 (.fldA 0 (.t 1)),
 oO 5 (.load 1 false (.t 4))])
 (.cond (.t 5)
 (.seq (.seq (.ops [
 oO 6 (.load 9 true (.t 1)),
 oO 7 (.build [.bool false, .int .u64 0, .int .u64 0, .int .u64 0, .int .u64 0, .int .u64 0, .int .u64 0, .int .u64 0, .int .u64 0] [(0, 1, .c (.bool true))]),
 oO 8 (.eqa [.b, .i, .i, .i, .i, .i, .i, .i, .i] true (.t 6) (.t 7))])
 (.cond (.t 8)
 (.seq (.ops [
 oO 2 (.mv (.c (.int .i64 3)))])
 .ret)
 .skip))
 (.seq (.ops [
 oO 2 (.mv (.c (.int .i64 0)))])
 .ret))
 .skip))
 (.seq (.ops [
 oK 9 F_field_Prime [.c (.int .i64 0)],
 oO 3 (.alloc 1 4 [.int .u64 0]),
 ⟨none, .stA 1 4 4 (.t 3) (.t 9), none⟩])
 (.seq (.seq (.draw [
 oO 10 (.fldA 1 (.t 1)),
 oO 11 (.load 4 true (.t 10)),
 oO 12 (.load 4 true (.t 3)),
 oK 13 F_limb_Cmp [.t 11, .t 12],
 oO 14 (.bin .geq (.t 13) (.c (.int .i64 0))),
 oM 15 14,
 oG 16 (.fldA 5 (.t 1)) 15 false,
 oG 17 (.load 4 true (.t 16)) 15 false,
 oG 18 (.load 4 true (.t 3)) 15 false,
 oG 19 (.call (.c (.fn F_limb_Cmp [])) [.t 17, .t 18]) 15 false,
 oG 20 (.bin .geq (.t 19) (.c (.int .i64 0))) 15 false,
 oO 21 (.pick (.t 15) (.c (.bool true)) (.t 20)),
 oM 22 21,
 oG 23 (.fldA 5 (.t 1)) 22 false,
 oG 24 (.load 4 true (.t 23)) 22 false,
 oG 25 (.fldA 5 (.t 1)) 22 false,
 oG 26 (.load 4 true (.t 25)) 22 false,
 oG 27 (.call (.c (.fn F_curve_mul [])) [.t 24, .t 26]) 22 false,
 oG 28 (.fldA 1 (.t 1)) 22 false,
 oG 29 (.load 4 true (.t 28)) 22 false,
 oG 30 (.call (.c (.fn F_curve_right [])) [.t 29]) 22 false,
 oG 31 (.eqa [.i, .i, .i, .i] true (.t 27) (.t 30)) 22 false,
 oO 32 (.pick (.t 22) (.c (.bool true)) (.t 31))] ⟨.all, [], .look 0 (.look 1 (.look 2 (.run 3 true (.look 4 (.look 5 (.look 6 (.look 7 (.look 8 (.run 9 true (.look 10 (.look 11 (.look 12 (.look 13 (.look 14 (.look 15 (.look 16 (.look 18 (.look 19 (.run 17 true (.run 20 true (.look 21 (.look 22 .done))))))))))))))))))))))⟩)
 (.cond (.t 32)
 (.seq (.ops [
 oO 2 (.mv (.c (.int .i64 3)))])
 .ret)
 .skip))
 (.seq (.ops [
 oO 2 (.mv (.c (.int .i64 0)))])
 .ret)))))⟩
theorem K_curve_Check : chkFun DK Pg Try.f80 A_curve_Check = true := by kernel_rfl
theorem B_curve_Check {args : List AV} {m : Mem} {K : AV → Mem → Prop} (h : vcFun DK Pg A_curve_Check args m K) : ACall Pg F_curve_Check args m K := call_body mixed Try.func80 (by kernel_rfl) K_curve_Check h

noncomputable def A_pair_Seal : AFun := ⟨4, 18, [.cell 8 32 true, .t 9],
 (.seq (.ops [
 oO 4 (.box 9 1 (.t 0)),
 oO 7 (.box 1 4 (.t 3)),
 oO 8 (.alloc 1 32 [.int .u8 0]),
 oO 9 (.mv (.c (.int .i64 0)))])
 (.seq (.draw [
 oO 10 (.load 9 true (.t 4)),
 oM 11 1,
 oM 12 2,
 oO 13 (.load 4 true (.t 7)),
 oK 14 F_limb_Bytes [.t 13],
 oK 15 F_pair_turned [.t 10, .t 11, .t 12, .t 14],
 oO 16 (.ext (.t 15) 0),
 oO 17 (.ext (.t 15) 1),
 oS 32 8 16,
 oM 9 17] ⟨.all, [], .look 0 (.look 1 (.look 2 (.look 3 (.run 4 true (.run 5 false (.look 6 (.look 7 (.run 8 false (.look 9 .done)))))))))⟩)
 .ret))⟩
theorem K_pair_Seal : chkFun DK Pg Try.f81 A_pair_Seal = true := by kernel_rfl
theorem B_pair_Seal {args : List AV} {m : Mem} {K : AV → Mem → Prop} (h : vcFun DK Pg A_pair_Seal args m K) : ACall Pg F_pair_Seal args m K := call_body mixed Try.func81 (by kernel_rfl) K_pair_Seal h

noncomputable def A_deal_place : AFun := ⟨1, 6, [.cell 2 4 true],
 (.seq (.ops [
 oO 2 (.alloc 1 4 [.int .u64 0])])
 (.seq (.ops [
 oM 3 0,
 oO 4 (.conv .u64 (.t 3)),
 oO 5 (.build [.int .u64 0, .int .u64 0, .int .u64 0, .int .u64 0] [(0, 1, .t 4)]),
 ⟨none, .stA 1 4 4 (.t 2) (.t 5), none⟩])
 .ret))⟩
theorem K_deal_place : chkFun DK Pg Try.f82 A_deal_place = true := by kernel_rfl
theorem B_deal_place {args : List AV} {m : Mem} {K : AV → Mem → Prop} (h : vcFun DK Pg A_deal_place args m K) : ACall Pg F_deal_place args m K := call_body mixed Try.func82 (by kernel_rfl) K_deal_place h

noncomputable def A_feld_Commit : AFun := ⟨1, 23, [.t 2, .t 3],
 (.seq (.ops [
 oO 2 (.mv (.c (.nils))),
 oO 3 (.mv (.c (.int .i64 0)))])
 (.seq (.seq (.ops [
 oM 7 0,
 oO 8 (.len (.t 7)),
 oO 9 (.bin .gtr (.t 8) (.c (.int .i64 64)))])
 (.cond (.t 9)
 (.seq (.ops [
 oO 2 (.mv (.c (.nils))),
 oO 3 (.mv (.c (.int .i64 4)))])
 .ret)
 .skip))
 (.seq (.ops [
 oO 4 (.mv (.c (.nils)))])
 (.seq (.seq (.ops [
 oM 10 0,
 oO 11 (.len (.t 10)),
 oO 12 (.mv (.c (.int .i64 0)))])
 (.block 0
 (.loop
 (.seq (.ops [
 oO 13 (.bin .lss (.t 12) (.t 11))])
 (.seq (.cond (.t 13)
 .skip
 (.exit 0))
 (.seq (.block 1
 (.seq (.ops [
 oO 14 (.idxA 4 (.t 10) (.t 12)),
 oO 15 (.load 4 true (.t 14)),
 oO 6 (.alloc 1 4 [.int .u64 0]),
 ⟨none, .stA 1 4 4 (.t 6) (.t 15), none⟩])
 (.ops [
 oM 16 4,
 oO 17 (.load 4 true (.t 6)),
 oK 18 F_curve_Base [.t 17],
 oO 19 (.bsl 9 1 [.bool false, .int .u64 0, .int .u64 0, .int .u64 0, .int .u64 0, .int .u64 0, .int .u64 0, .int .u64 0, .int .u64 0] [(0, 9, .t 18)]),
 oO 20 (.app 9 72 (.t 16) (.t 19)),
 oM 4 20])))
 (.ops [
 oO 21 (.bin .add (.t 12) (.c (.int .i64 1))),
 oM 12 21])))))))
 (.seq (.ops [
 oM 22 4,
 oM 2 22,
 oO 3 (.mv (.c (.int .i64 0)))])
 .ret)))))⟩
theorem K_feld_Commit : chkFun DK Pg Try.f83 A_feld_Commit = true := by kernel_rfl
theorem B_feld_Commit {args : List AV} {m : Mem} {K : AV → Mem → Prop} (h : vcFun DK Pg A_feld_Commit args m K) : ACall Pg F_feld_Commit args m K := call_body mixed Try.func83 (by kernel_rfl) K_feld_Commit h

noncomputable def A_poly_add : AFun := ⟨2, 8, [.cell 4 4 true],
 (.seq (.ops [
 oO 2 (.box 1 4 (.t 0)),
 oO 3 (.box 1 4 (.t 1)),
 oO 4 (.alloc 1 4 [.int .u64 0])])
 (.seq (.ops [
 oO 5 (.load 4 true (.t 2)),
 oO 6 (.load 4 true (.t 3)),
 oK 7 F_field_Add [.c (.int .i64 1), .t 5, .t 6],
 ⟨none, .stA 1 4 4 (.t 4) (.t 7), none⟩])
 .ret))⟩
theorem K_poly_add : chkFun DK Pg Try.f84 A_poly_add = true := by kernel_rfl
theorem B_poly_add {args : List AV} {m : Mem} {K : AV → Mem → Prop} (h : vcFun DK Pg A_poly_add args m K) : ACall Pg F_poly_add args m K := call_body mixed Try.func84 (by kernel_rfl) K_poly_add h

noncomputable def A_poly_mul : AFun := ⟨2, 8, [.cell 4 4 true],
 (.seq (.ops [
 oO 2 (.box 1 4 (.t 0)),
 oO 3 (.box 1 4 (.t 1)),
 oO 4 (.alloc 1 4 [.int .u64 0])])
 (.seq (.ops [
 oO 5 (.load 4 true (.t 2)),
 oO 6 (.load 4 true (.t 3)),
 oK 7 F_field_Mul [.c (.int .i64 1), .t 5, .t 6],
 ⟨none, .stA 1 4 4 (.t 4) (.t 7), none⟩])
 .ret))⟩
theorem K_poly_mul : chkFun DK Pg Try.f85 A_poly_mul = true := by kernel_rfl
theorem B_poly_mul {args : List AV} {m : Mem} {K : AV → Mem → Prop} (h : vcFun DK Pg A_poly_mul args m K) : ACall Pg F_poly_mul args m K := call_body mixed Try.func85 (by kernel_rfl) K_poly_mul h

noncomputable def A_pair_turned : AFun := ⟨4, 61, [.cell 8 32 true, .t 9],
 (.seq (.ops [
 oO 4 (.box 9 1 (.t 0)),
 oO 7 (.box 1 32 (.t 3)),
 oO 8 (.alloc 1 32 [.int .u8 0]),
 oO 9 (.mv (.c (.int .i64 0)))])
 (.seq (.seq (.ops [
 oM 14 1,
 oK 15 F_pair_dealer [.t 14],
 oO 16 (.un .not (.t 15)),
 oM 17 16,
 oG 18 (.mv (.t 2)) 17 false,
 oG 19 (.call (.c (.fn F_pair_dealer [])) [.t 18]) 17 false,
 oG 20 (.un .not (.t 19)) 17 false,
 oO 21 (.pick (.t 17) (.c (.bool true)) (.t 20))])
 (.cond (.t 21)
 (.seq (.ops [
 oO 22 (.build (List.replicate 32 (.int .u8 0)) []),
 oS 32 8 22,
 oO 9 (.mv (.c (.int .i64 1)))])
 .ret)
 .skip))
 (.seq (.ops [
 oO 24 (.load 9 true (.t 4)),
 oK 25 F_curve_Bytes [.t 24],
 oM 23 25,
 oO 26 (.ext (.t 23) 0),
 oO 27 (.ext (.t 23) 1),
 oM 10 26,
 oM 11 27])
 (.seq (.seq (.ops [
 oM 28 11,
 oO 29 (.bin .neq (.t 28) (.c (.int .i64 0)))])
 (.cond (.t 29)
 (.seq (.ops [
 oO 30 (.build (List.replicate 32 (.int .u8 0)) []),
 oM 31 11,
 oS 32 8 30,
 oM 9 31])
 .ret)
 .skip))
 (.seq (.ops [
 oM 33 10,
 oM 34 1,
 oO 35 (.conv .u8 (.t 34)),
 oM 36 2,
 oO 37 (.conv .u8 (.t 36)),
 oO 38 (.bsl 1 2 [.int .u8 0] [(0, 1, .t 35), (1, 1, .t 37)]),
 oO 39 (.app 1 1 (.t 33) (.t 38)),
 oK 40 F_draw_Stream [.t 39, .c (.int .i64 32)],
 oM 32 40,
 oO 41 (.ext (.t 32) 0),
 oO 42 (.ext (.t 32) 1),
 oM 12 41,
 oM 11 42])
 (.seq (.seq (.ops [
 oM 43 11,
 oO 44 (.bin .neq (.t 43) (.c (.int .i64 0)))])
 (.cond (.t 44)
 (.seq (.ops [
 oO 45 (.build (List.replicate 32 (.int .u8 0)) []),
 oM 46 11,
 oS 32 8 45,
 oM 9 46])
 .ret)
 .skip))
 (.seq (.seq (.ops [
 oO 47 (.mv (.c (.int .i64 0)))])
 (.block 0
 (.loop
 (.seq (.ops [
 oO 48 (.bin .lss (.t 47) (.c (.int .i64 32)))])
 (.seq (.cond (.t 48)
 .skip
 (.exit 0))
 (.seq (.block 1
 (.seq (.ops [
 oM 49 47,
 oM 13 49])
 (.draw [
 oM 50 13,
 oO 51 (.idxP 32 1 (.t 7) (.t 50)),
 oO 52 (.load 1 false (.t 51)),
 oM 53 12,
 oM 54 13,
 oO 55 (.idxA 1 (.t 53) (.t 54)),
 oO 56 (.load 1 false (.t 55)),
 oO 57 (.bin .xor (.t 52) (.t 56)),
 oO 58 (.idxP 32 1 (.t 7) (.t 50)),
 oS 1 58 57] ⟨.all, [], .look 0 (.look 1 (.look 2 (.look 3 (.look 4 (.look 5 (.look 6 (.look 7 (.look 8 (.run 9 false .done)))))))))⟩)))
 (.ops [
 oO 59 (.bin .add (.t 47) (.c (.int .i64 1))),
 oM 47 59])))))))
 (.seq (.ops [
 oO 60 (.load 32 true (.t 7)),
 oS 32 8 60,
 oO 9 (.mv (.c (.int .i64 0)))])
 .ret))))))))⟩
theorem K_pair_turned : chkFun DK Pg Try.f86 A_pair_turned = true := by kernel_rfl
theorem B_pair_turned {args : List AV} {m : Mem} {K : AV → Mem → Prop} (h : vcFun DK Pg A_pair_turned args m K) : ACall Pg F_pair_turned args m K := call_body mixed Try.func86 (by kernel_rfl) K_pair_turned h

noncomputable def A_limb_Of : AFun := ⟨1, 28, [.cell 2 4 true],
 (.seq (.ops [
 oO 1 (.box 1 32 (.t 0)),
 oO 2 (.alloc 1 4 [.int .u64 0])])
 (.seq (.ops [
 oO 3 (.alloc 1 4 [.int .u64 0])])
 (.seq (.seq (.ops [
 oO 7 (.load 32 true (.t 1)),
 oO 8 (.mv (.c (.int .i64 0)))])
 (.block 0
 (.loop
 (.seq (.ops [
 oO 9 (.bin .lss (.t 8) (.c (.int .i64 32)))])
 (.seq (.cond (.t 9)
 .skip
 (.exit 0))
 (.seq (.block 1
 (.seq (.ops [
 oM 10 8,
 oO 11 (.idx 32 1 false (.t 7) (.t 8)),
 oM 4 10,
 oM 5 11])
 (.seq (.ops [
 oM 12 4,
 oO 13 (.binF .sub (.c (.int .i64 31)) (.t 12)),
 oM 6 13])
 (.draw [
 oM 14 6,
 oO 15 (.bin .quo (.t 14) (.c (.int .i64 8))),
 oO 16 (.idxP 4 1 (.t 3) (.t 15)),
 oO 17 (.load 1 false (.t 16)),
 oM 18 5,
 oO 19 (.conv .u64 (.t 18)),
 oM 20 6,
 oO 21 (.bin .rem (.t 20) (.c (.int .i64 8))),
 oO 22 (.binF .mul (.c (.int .i64 8)) (.t 21)),
 oO 23 (.bin .shl (.t 19) (.t 22)),
 oO 24 (.bin .or (.t 17) (.t 23)),
 oO 25 (.idxP 4 1 (.t 3) (.t 15)),
 ⟨none, .stA 1 4 1 (.t 25) (.t 24), none⟩] ⟨.all, [], .look 0 (.look 1 (.look 2 (.look 3 (.look 4 (.look 5 (.look 6 (.look 7 (.look 8 (.look 9 (.look 10 (.look 11 (.run 12 false .done))))))))))))⟩))))
 (.ops [
 oO 26 (.binF .add (.t 8) (.c (.int .i64 1))),
 oM 8 26])))))))
 (.seq (.ops [
 oO 27 (.load 4 true (.t 3)),
 ⟨none, .stA 1 4 4 (.t 2) (.t 27), none⟩])
 .ret))))⟩
theorem K_limb_Of : chkFun DK Pg Try.f87 A_limb_Of = true := by kernel_rfl
theorem B_limb_Of {args : List AV} {m : Mem} {K : AV → Mem → Prop} (h : vcFun DK Pg A_limb_Of args m K) : ACall Pg F_limb_Of args m K := call_body mixed Try.func87 (by kernel_rfl) K_limb_Of h

noncomputable def A_dleq_Prove : AFun := ⟨3, 55, [.cell 6 8 true, .t 7],
 (.seq (.ops [
 oO 3 (.box 1 4 (.t 0)),
 oO 4 (.box 1 4 (.t 1)),
 oO 5 (.box 9 1 (.t 2)),
 oO 6 (.alloc 8 1 [.int .u64 0, .int .u64 0, .int .u64 0, .int .u64 0, .int .u64 0, .int .u64 0, .int .u64 0, .int .u64 0]),
 oO 7 (.mv (.c (.int .i64 0)))])
 (.seq (.ops [
 oO 14 (.load 9 true (.t 5)),
 oK 15 F_curve_Check [.t 14],
 oM 8 15])
 (.seq (.seq (.ops [
 oM 16 8,
 oO 17 (.bin .neq (.t 16) (.c (.int .i64 0)))])
 (.cond (.t 17)
 (.seq (.ops [
 oO 18 (.build [.int .u64 0, .int .u64 0, .int .u64 0, .int .u64 0, .int .u64 0, .int .u64 0, .int .u64 0, .int .u64 0] []),
 oM 19 8,
 ⟨none, .stA 8 1 8 (.t 6) (.t 18), none⟩,
 oM 7 19])
 .ret)
 .skip))
 (.seq (.ops [
 oO 21 (.load 4 true (.t 3)),
 oO 22 (.load 9 true (.t 5)),
 oK 23 F_curve_Times [.t 21, .t 22],
 oM 20 23,
 oO 24 (.ext (.t 20) 0),
 oO 25 (.ext (.t 20) 1),
 oO 9 (.alloc 9 1 [.bool false, .int .u64 0, .int .u64 0, .int .u64 0, .int .u64 0, .int .u64 0, .int .u64 0, .int .u64 0, .int .u64 0]),
 ⟨none, .stA 9 1 9 (.t 9) (.t 24), none⟩,
 oM 10 25])
 (.seq (.ops [
 oO 27 (.load 4 true (.t 4)),
 oO 28 (.load 9 true (.t 5)),
 oK 29 F_curve_Times [.t 27, .t 28],
 oM 26 29,
 oO 30 (.ext (.t 26) 0),
 oO 31 (.ext (.t 26) 1),
 oO 11 (.alloc 9 1 [.bool false, .int .u64 0, .int .u64 0, .int .u64 0, .int .u64 0, .int .u64 0, .int .u64 0, .int .u64 0, .int .u64 0]),
 ⟨none, .stA 9 1 9 (.t 11) (.t 30), none⟩,
 oM 12 31])
 (.seq (.draw [
 oO 33 (.load 4 true (.t 3)),
 oK 34 F_curve_Base [.t 33],
 oO 35 (.load 9 true (.t 5)),
 oO 36 (.load 9 true (.t 9)),
 oO 37 (.load 4 true (.t 4)),
 oK 38 F_curve_Base [.t 37],
 oO 39 (.load 9 true (.t 11)),
 oO 40 (.bsl 9 5 [.bool false, .int .u64 0, .int .u64 0, .int .u64 0, .int .u64 0, .int .u64 0, .int .u64 0, .int .u64 0, .int .u64 0] [(0, 9, .t 34), (9, 9, .t 35), (18, 9, .t 36), (27, 9, .t 38), (36, 9, .t 39)]),
 oK 41 F_dleq_challenge [.t 40],
 oM 32 41,
 oO 42 (.ext (.t 32) 0),
 oO 43 (.ext (.t 32) 1),
 oO 13 (.alloc 1 4 [.int .u64 0]),
 oS 4 13 42,
 oM 8 43] ⟨.all, [(12, some 13)], .look 0 (.look 2 (.look 3 (.look 4 (.look 6 (.run 1 true (.run 5 true (.run 7 true (.run 8 true (.look 9 (.look 10 (.pre 12 13 (.look 11 (.fill (.look 14 .done))))))))))))))⟩)
 (.seq (.seq (.ops [
 oM 44 8,
 oO 45 (.bin .neq (.t 44) (.c (.int .i64 0)))])
 (.cond (.t 45)
 (.seq (.ops [
 oO 46 (.build [.int .u64 0, .int .u64 0, .int .u64 0, .int .u64 0, .int .u64 0, .int .u64 0, .int .u64 0, .int .u64 0] []),
 oM 47 8,
 ⟨none, .stA 8 1 8 (.t 6) (.t 46), none⟩,
 oM 7 47])
 .ret)
 .skip))
 (.seq (.draw [
 oO 48 (.load 4 true (.t 13)),
 oO 49 (.load 4 true (.t 4)),
 oO 50 (.load 4 true (.t 13)),
 oO 51 (.load 4 true (.t 3)),
 oK 52 F_field_Mul [.c (.int .i64 1), .t 50, .t 51],
 oK 53 F_field_Sub [.c (.int .i64 1), .t 49, .t 52],
 oO 54 (.build [.int .u64 0, .int .u64 0, .int .u64 0, .int .u64 0, .int .u64 0, .int .u64 0, .int .u64 0, .int .u64 0] [(0, 4, .t 48), (4, 4, .t 53)]),
 ⟨none, .stA 8 1 8 (.t 6) (.t 54), none⟩,
 oO 7 (.mv (.c (.int .i64 0)))] ⟨.all, [], .look 0 (.look 1 (.look 2 (.look 3 (.run 4 true (.run 5 true (.look 6 (.run 7 false (.look 8 .done))))))))⟩)
 .ret))))))))⟩
theorem K_dleq_Prove : chkFun DK Pg Try.f92 A_dleq_Prove = true := by kernel_rfl
theorem B_dleq_Prove {args : List AV} {m : Mem} {K : AV → Mem → Prop} (h : vcFun DK Pg A_dleq_Prove args m K) : ACall Pg F_dleq_Prove args m K := call_body mixed Try.func92 (by kernel_rfl) K_dleq_Prove h

noncomputable def A_draw_Point : AFun := ⟨2, 46, [.cell 4 9 true, .t 5, .t 6],
 (.seq (.ops [
 oO 4 (.alloc 9 1 [.bool false, .int .u64 0, .int .u64 0, .int .u64 0, .int .u64 0, .int .u64 0, .int .u64 0, .int .u64 0, .int .u64 0]),
 oO 5 (.mv (.c (.int .i64 0))),
 oO 6 (.mv (.c (.int .i64 0)))])
 (.seq (.ops [
 oM 14 0,
 oM 15 1,
 oO 16 (.bsl 1 1 [.nils] [(0, 1, .t 15)]),
 oK 17 F_draw_joined [.t 14, .t 16],
 oM 13 17,
 oO 18 (.ext (.t 13) 0),
 oO 19 (.ext (.t 13) 1),
 oM 7 18,
 oM 8 19])
 (.seq (.seq (.ops [
 oM 20 8,
 oO 21 (.un .not (.t 20))])
 (.cond (.t 21)
 (.seq (.ops [
 oO 22 (.build [.bool false, .int .u64 0, .int .u64 0, .int .u64 0, .int .u64 0, .int .u64 0, .int .u64 0, .int .u64 0, .int .u64 0] []),
 ⟨none, .stA 9 1 9 (.t 4) (.t 22), none⟩,
 oO 5 (.mv (.c (.int .i64 0))),
 oO 6 (.mv (.c (.int .i64 4)))])
 .ret)
 .skip))
 (.seq (.seq (.ops [
 oO 23 (.mv (.c (.int .i64 0)))])
 (.block 0
 (.loop
 (.seq (.ops [
 oO 24 (.bin .lss (.t 23) (.c (.int .i64 256)))])
 (.seq (.cond (.t 24)
 .skip
 (.exit 0))
 (.seq (.block 1
 (.seq (.ops [
 oM 25 23,
 oM 9 25])
 (.seq (.ops [
 oM 26 7,
 oM 27 9,
 oO 28 (.conv .u64 (.t 27)),
 oK 29 F_draw_number [.t 28, .c (.int .i64 4)],
 oK 30 F_draw_with [.t 26, .t 29],
 oK 31 F_sha_Sum [.t 30],
 oO 10 (.alloc 1 32 [.int .u8 0]),
 oS 32 10 31])
 (.seq (.ops [
 oO 33 (.bsl 1 1 [.int .u8 0] [(0, 1, .c (.int .u8 2))]),
 oO 34 (.slarr 32 1 (.t 10) none none none),
 oO 35 (.app 1 1 (.t 33) (.t 34)),
 oK 36 F_curve_Read [.t 35],
 oM 32 36,
 oO 37 (.ext (.t 32) 0),
 oO 38 (.ext (.t 32) 1),
 oO 11 (.alloc 9 1 [.bool false, .int .u64 0, .int .u64 0, .int .u64 0, .int .u64 0, .int .u64 0, .int .u64 0, .int .u64 0, .int .u64 0]),
 ⟨none, .stA 9 1 9 (.t 11) (.t 37), none⟩,
 oM 12 38])
 (.seq (.ops [
 oM 39 12,
 oO 40 (.bin .eql (.t 39) (.c (.int .i64 0)))])
 (.cond (.t 40)
 (.seq (.ops [
 oO 41 (.load 9 true (.t 11)),
 oM 42 9,
 oO 43 (.bin .add (.t 42) (.c (.int .i64 1))),
 ⟨none, .stA 9 1 9 (.t 4) (.t 41), none⟩,
 oM 5 43,
 oO 6 (.mv (.c (.int .i64 0)))])
 .ret)
 .skip))))))
 (.ops [
 oO 44 (.bin .add (.t 23) (.c (.int .i64 1))),
 oM 23 44])))))))
 (.seq (.ops [
 oO 45 (.build [.bool false, .int .u64 0, .int .u64 0, .int .u64 0, .int .u64 0, .int .u64 0, .int .u64 0, .int .u64 0, .int .u64 0] []),
 ⟨none, .stA 9 1 9 (.t 4) (.t 45), none⟩,
 oO 5 (.mv (.c (.int .i64 0))),
 oO 6 (.mv (.c (.int .i64 5)))])
 .ret)))))⟩
theorem K_draw_Point : chkFun DK Pg Try.f94 A_draw_Point = true := by kernel_rfl
theorem B_draw_Point {args : List AV} {m : Mem} {K : AV → Mem → Prop} (h : vcFun DK Pg A_draw_Point args m K) : ACall Pg F_draw_Point args m K := call_body mixed Try.func94 (by kernel_rfl) K_draw_Point h

noncomputable def A_curve_Add : AFun := ⟨2, 21, [.cell 4 9 true, .t 5],
 (.seq (.ops [
 oO 2 (.box 9 1 (.t 0)),
 oO 3 (.box 9 1 (.t 1)),
 oO 4 (.alloc 9 1 [.bool false, .int .u64 0, .int .u64 0, .int .u64 0, .int .u64 0, .int .u64 0, .int .u64 0, .int .u64 0, .int .u64 0]),
 oO 5 (.mv (.c (.int .i64 0)))])
 (.seq (.seq (.ops [
 oO 6 (.load 9 true (.t 2)),
 oK 7 F_curve_Check [.t 6],
 oO 8 (.bin .neq (.t 7) (.c (.int .i64 0))),
 oM 9 8,
 oG 10 (.load 9 true (.t 3)) 9 false,
 oG 11 (.call (.c (.fn F_curve_Check [])) [.t 10]) 9 false,
 oG 12 (.bin .neq (.t 11) (.c (.int .i64 0))) 9 false,
 oO 13 (.pick (.t 9) (.c (.bool true)) (.t 12))])
 (.cond (.t 13)
 (.seq (.ops [
 oO 14 (.build [.bool false, .int .u64 0, .int .u64 0, .int .u64 0, .int .u64 0, .int .u64 0, .int .u64 0, .int .u64 0, .int .u64 0] []),
 ⟨none, .stA 9 1 9 (.t 4) (.t 14), none⟩,
 oO 5 (.mv (.c (.int .i64 3)))])
 .ret)
 .skip))
 (.seq (.draw [
 oO 15 (.load 9 true (.t 2)),
 oK 16 F_curve_spread [.t 15],
 oO 17 (.load 9 true (.t 3)),
 oK 18 F_curve_spread [.t 17],
 oK 19 F_curve_jac_plus [.t 16, .t 18],
 oK 20 F_curve_jac_point [.t 19],
 ⟨none, .stA 9 1 9 (.t 4) (.t 20), none⟩,
 oO 5 (.mv (.c (.int .i64 0)))] ⟨.all, [], .look 0 (.look 2 (.run 1 true (.run 3 false (.run 4 false (.run 5 false (.run 6 false (.look 7 .done)))))))⟩)
 .ret)))⟩
theorem K_curve_Add : chkFun DK Pg Try.f95 A_curve_Add = true := by kernel_rfl
theorem B_curve_Add {args : List AV} {m : Mem} {K : AV → Mem → Prop} (h : vcFun DK Pg A_curve_Add args m K) : ACall Pg F_curve_Add args m K := call_body mixed Try.func95 (by kernel_rfl) K_curve_Add h

noncomputable def A_dleq_times : AFun := ⟨2, 14, [.cell 4 9 true],
 (.seq (.ops [
 oO 2 (.box 1 4 (.t 0)),
 oO 3 (.box 9 1 (.t 1)),
 oO 4 (.alloc 9 1 [.bool false, .int .u64 0, .int .u64 0, .int .u64 0, .int .u64 0, .int .u64 0, .int .u64 0, .int .u64 0, .int .u64 0])])
 (.seq (.ops [
 oO 8 (.load 4 true (.t 2)),
 oO 9 (.load 9 true (.t 3)),
 oK 10 F_curve_Times [.t 8, .t 9],
 oM 7 10,
 oO 11 (.ext (.t 7) 0),
 oO 12 (.ext (.t 7) 1),
 oO 5 (.alloc 9 1 [.bool false, .int .u64 0, .int .u64 0, .int .u64 0, .int .u64 0, .int .u64 0, .int .u64 0, .int .u64 0, .int .u64 0]),
 ⟨none, .stA 9 1 9 (.t 5) (.t 11), none⟩,
 oM 6 12])
 (.seq (.ops [
 oO 13 (.load 9 true (.t 5)),
 ⟨none, .stA 9 1 9 (.t 4) (.t 13), none⟩])
 .ret)))⟩
theorem K_dleq_times : chkFun DK Pg Try.f96 A_dleq_times = true := by kernel_rfl
theorem B_dleq_times {args : List AV} {m : Mem} {K : AV → Mem → Prop} (h : vcFun DK Pg A_dleq_times args m K) : ACall Pg F_dleq_times args m K := call_body mixed Try.func96 (by kernel_rfl) K_dleq_times h

noncomputable def A_curve_Two : AFun := ⟨4, 29, [.cell 8 9 true, .t 9],
 (.seq (.ops [
 oO 4 (.box 1 4 (.t 0)),
 oO 5 (.box 9 1 (.t 1)),
 oO 6 (.box 1 4 (.t 2)),
 oO 7 (.box 9 1 (.t 3)),
 oO 8 (.alloc 9 1 [.bool false, .int .u64 0, .int .u64 0, .int .u64 0, .int .u64 0, .int .u64 0, .int .u64 0, .int .u64 0, .int .u64 0]),
 oO 9 (.mv (.c (.int .i64 0)))])
 (.seq (.seq (.ops [
 oO 10 (.load 9 true (.t 5)),
 oK 11 F_curve_Check [.t 10],
 oO 12 (.bin .neq (.t 11) (.c (.int .i64 0))),
 oM 13 12,
 oG 14 (.load 9 true (.t 7)) 13 false,
 oG 15 (.call (.c (.fn F_curve_Check [])) [.t 14]) 13 false,
 oG 16 (.bin .neq (.t 15) (.c (.int .i64 0))) 13 false,
 oO 17 (.pick (.t 13) (.c (.bool true)) (.t 16))])
 (.cond (.t 17)
 (.seq (.ops [
 oO 18 (.build [.bool false, .int .u64 0, .int .u64 0, .int .u64 0, .int .u64 0, .int .u64 0, .int .u64 0, .int .u64 0, .int .u64 0] []),
 ⟨none, .stA 9 1 9 (.t 8) (.t 18), none⟩,
 oO 9 (.mv (.c (.int .i64 3)))])
 .ret)
 .skip))
 (.seq (.draw [
 oO 19 (.load 9 true (.t 5)),
 oK 20 F_curve_spread [.t 19],
 oO 21 (.load 4 true (.t 4)),
 oK 22 F_curve_jac_times [.t 20, .t 21],
 oO 23 (.load 9 true (.t 7)),
 oK 24 F_curve_spread [.t 23],
 oO 25 (.load 4 true (.t 6)),
 oK 26 F_curve_jac_times [.t 24, .t 25],
 oK 27 F_curve_jac_plus [.t 22, .t 26],
 oK 28 F_curve_jac_point [.t 27],
 ⟨none, .stA 9 1 9 (.t 8) (.t 28), none⟩,
 oO 9 (.mv (.c (.int .i64 0)))] ⟨.all, [], .look 0 (.look 2 (.look 4 (.look 6 (.run 1 true (.run 3 true (.run 5 true (.run 7 false (.run 8 false (.run 9 false (.run 10 false (.look 11 .done)))))))))))⟩)
 .ret)))⟩
theorem K_curve_Two : chkFun DK Pg Try.f97 A_curve_Two = true := by kernel_rfl
theorem B_curve_Two {args : List AV} {m : Mem} {K : AV → Mem → Prop} (h : vcFun DK Pg A_curve_Two args m K) : ACall Pg F_curve_Two args m K := call_body mixed Try.func97 (by kernel_rfl) K_curve_Two h

noncomputable def A_dleq_challenge : AFun := ⟨1, 33, [.cell 2 4 true, .t 3],
 (.seq (.ops [
 oO 2 (.alloc 1 4 [.int .u64 0]),
 oO 3 (.mv (.c (.int .i64 0)))])
 (.seq (.ops [
 oO 4 (.mv (.c (.nils)))])
 (.seq (.seq (.ops [
 oM 9 0,
 oO 10 (.len (.t 9)),
 oO 11 (.mv (.c (.int .i64 0)))])
 (.block 0
 (.loop
 (.seq (.ops [
 oO 12 (.bin .lss (.t 11) (.t 10))])
 (.seq (.cond (.t 12)
 .skip
 (.exit 0))
 (.seq (.block 1
 (.seq (.ops [
 oO 13 (.idxA 9 (.t 9) (.t 11)),
 oO 14 (.load 9 true (.t 13)),
 oO 6 (.alloc 9 1 [.bool false, .int .u64 0, .int .u64 0, .int .u64 0, .int .u64 0, .int .u64 0, .int .u64 0, .int .u64 0, .int .u64 0]),
 ⟨none, .stA 9 1 9 (.t 6) (.t 14), none⟩])
 (.seq (.ops [
 oO 16 (.load 9 true (.t 6)),
 oK 17 F_curve_Bytes [.t 16],
 oM 15 17,
 oO 18 (.ext (.t 15) 0),
 oO 19 (.ext (.t 15) 1),
 oM 7 18,
 oM 8 19])
 (.seq (.seq (.ops [
 oM 20 8,
 oO 21 (.bin .neq (.t 20) (.c (.int .i64 0)))])
 (.cond (.t 21)
 (.seq (.ops [
 oO 22 (.build [.int .u64 0, .int .u64 0, .int .u64 0, .int .u64 0] []),
 oM 23 8,
 ⟨none, .stA 1 4 4 (.t 2) (.t 22), none⟩,
 oM 3 23])
 .ret)
 .skip))
 (.ops [
 oM 24 4,
 oM 25 7,
 oO 26 (.bsl 1 1 [.nils] [(0, 1, .t 25)]),
 oO 27 (.app 1 24 (.t 24) (.t 26)),
 oM 4 27])))))
 (.ops [
 oO 28 (.bin .add (.t 11) (.c (.int .i64 1))),
 oM 11 28])))))))
 (.seq (.ops [
 oM 29 4,
 ⟨some 30, .call (.c (.fn F_draw_Scalar [])) [.c (.str ⟨#[100, 108, 101, 113]⟩), .t 29], none⟩,
 oO 31 (.ext (.t 30) 0),
 oO 32 (.ext (.t 30) 1),
 ⟨none, .stA 1 4 4 (.t 2) (.t 31), none⟩,
 oM 3 32])
 .ret))))⟩
theorem K_dleq_challenge : chkFun DK Pg Try.f98 A_dleq_challenge = true := by kernel_rfl
theorem B_dleq_challenge {args : List AV} {m : Mem} {K : AV → Mem → Prop} (h : vcFun DK Pg A_dleq_challenge args m K) : ACall Pg F_dleq_challenge args m K := call_body mixed Try.func98 (by kernel_rfl) K_dleq_challenge h

noncomputable def A_deal_share : AFun := ⟨4, 152, [.cell 8 9 true, .cell 9 4 true, .t 10, .t 11],
 (.seq (.ops [
 oO 8 (.alloc 9 1 [.bool false, .int .u64 0, .int .u64 0, .int .u64 0, .int .u64 0, .int .u64 0, .int .u64 0, .int .u64 0, .int .u64 0]),
 oO 9 (.alloc 1 4 [.int .u64 0]),
 oO 10 (.mv (.c (.bool false))),
 oO 11 (.mv (.c (.int .i64 0)))])
 (.seq (.ops [
 oO 12 (.mv (.c (.fn F_deal_share_1 [])))])
 (.seq (.ops [
 oM 17 0,
 oK 18 F_deal_Secret [.t 17],
 oM 16 18,
 oO 19 (.ext (.t 16) 0),
 oO 20 (.ext (.t 16) 1),
 oO 13 (.alloc 1 4 [.int .u64 0]),
 ⟨none, .stA 1 4 4 (.t 13) (.t 19), none⟩,
 oM 11 20])
 (.seq (.seq (.ops [
 oM 21 11,
 oO 22 (.bin .neq (.t 21) (.c (.int .i64 0)))])
 (.cond (.t 22)
 (.seq (.ops [
 oM 23 12,
 oM 24 11,
 oO 25 (.call (.t 23) [.t 24]),
 oO 26 (.ext (.t 25) 0),
 oO 27 (.ext (.t 25) 1),
 oO 28 (.ext (.t 25) 2),
 oO 29 (.ext (.t 25) 3),
 ⟨none, .stA 9 1 9 (.t 8) (.t 26), none⟩,
 ⟨none, .stA 1 4 4 (.t 9) (.t 27), none⟩,
 oM 10 28,
 oM 11 29])
 .ret)
 .skip))
 (.seq (.ops [
 oM 31 2,
 oM 32 3,
 oK 33 F_judge_Place [.t 31, .t 32],
 oM 30 33,
 oO 34 (.ext (.t 30) 0),
 oO 35 (.ext (.t 30) 1),
 oM 14 34,
 oM 11 35])
 (.seq (.block 0
 (.seq (.ops [
 oM 37 11,
 oO 38 (.bin .neq (.t 37) (.c (.int .i64 0))),
 oM 36 38])
 (.cond (.t 36)
 (.seq (.ops [
 oM 39 12,
 oM 40 11,
 oO 41 (.call (.t 39) [.t 40]),
 oO 42 (.ext (.t 41) 0),
 oO 43 (.ext (.t 41) 1),
 oO 44 (.ext (.t 41) 2),
 oO 45 (.ext (.t 41) 3),
 ⟨none, .stA 9 1 9 (.t 8) (.t 42), none⟩,
 ⟨none, .stA 1 4 4 (.t 9) (.t 43), none⟩,
 oM 10 44,
 oM 11 45])
 .ret)
 (.seq (.ops [
 oM 47 1,
 oM 48 2,
 oK 49 F_deal_number [.t 47, .t 48],
 oO 50 (.un .not (.t 49)),
 oM 51 50,
 oG 52 (.mv (.t 1)) 51 false,
 oG 53 (.mv (.t 3)) 51 false,
 oG 54 (.call (.c (.fn F_deal_number [])) [.t 52, .t 53]) 51 false,
 oG 55 (.un .not (.t 54)) 51 false,
 oO 56 (.pick (.t 51) (.c (.bool true)) (.t 55)),
 oM 57 56,
 oG 58 (.mv (.t 1)) 57 false,
 oG 59 (.mv (.t 2)) 57 false,
 oG 60 (.bin .sub (.t 59) (.c (.int .i64 1))) 57 false,
 oG 61 (.idxA 26 (.t 58) (.t 60)) 57 false,
 oG 62 (.fldA 12 (.t 61)) 57 false,
 oG 63 (.load 1 false (.t 62)) 57 false,
 oG 64 (.un .not (.t 63)) 57 false,
 oO 65 (.pick (.t 57) (.c (.bool true)) (.t 64)),
 oM 66 65,
 oG 67 (.mv (.t 14)) 66 false,
 oG 68 (.mv (.t 1)) 66 false,
 oG 69 (.mv (.t 2)) 66 false,
 oG 70 (.bin .sub (.t 69) (.c (.int .i64 1))) 66 false,
 oG 71 (.idxA 26 (.t 68) (.t 70)) 66 false,
 oG 72 (.fldA 13 (.t 71)) 66 false,
 oG 73 (.load 1 false (.t 72)) 66 false,
 oG 74 (.len (.t 73)) 66 false,
 oG 75 (.bin .geq (.t 67) (.t 74)) 66 false,
 oO 76 (.pick (.t 66) (.c (.bool true)) (.t 75)),
 oM 46 76])
 (.cond (.t 46)
 (.seq (.ops [
 oM 77 12,
 oO 78 (.call (.t 77) [.c (.int .i64 5)]),
 oO 79 (.ext (.t 78) 0),
 oO 80 (.ext (.t 78) 1),
 oO 81 (.ext (.t 78) 2),
 oO 82 (.ext (.t 78) 3),
 ⟨none, .stA 9 1 9 (.t 8) (.t 79), none⟩,
 ⟨none, .stA 1 4 4 (.t 9) (.t 80), none⟩,
 oM 10 81,
 oM 11 82])
 .ret)
 .skip)))))
 (.seq (.ops [
 oM 83 1,
 oM 84 2,
 oO 85 (.bin .sub (.t 84) (.c (.int .i64 1))),
 oO 86 (.idxA 26 (.t 83) (.t 85)),
 oO 87 (.load 26 true (.t 86)),
 ⟨some 15, .alloc 26 1 [.int .i64 0, .bool false, .int .u64 0, .int .u64 0, .int .u64 0, .int .u64 0, .int .u64 0, .int .u64 0, .int .u64 0, .int .u64 0, .str ⟨#[]⟩, .int .i64 0, .bool false, .nils, .nils, .bool false, .bool false, .bool false, .int .u64 0, .int .u64 0, .int .u64 0, .int .u64 0, .int .u64 0, .int .u64 0, .int .u64 0, .int .u64 0], none⟩,
 oS 26 15 87])
 (.seq (.ops [
 oO 89 (.load 4 true (.t 13)),
 oO 90 (.fldA 1 (.t 15)),
 oO 91 (.load 9 true (.t 90)),
 oK 92 F_pair_Key [.t 89, .t 91],
 oM 88 92,
 oO 93 (.ext (.t 88) 0),
 oO 94 (.ext (.t 88) 1),
 ⟨none, .stA 9 1 9 (.t 8) (.t 93), none⟩,
 oM 11 94])
 (.seq (.seq (.ops [
 oM 95 11,
 oO 96 (.bin .neq (.t 95) (.c (.int .i64 0)))])
 (.cond (.t 96)
 (.seq (.ops [
 oM 97 12,
 oM 98 11,
 oO 99 (.call (.t 97) [.t 98]),
 oO 100 (.ext (.t 99) 0),
 oO 101 (.ext (.t 99) 1),
 oO 102 (.ext (.t 99) 2),
 oO 103 (.ext (.t 99) 3),
 ⟨none, .stA 9 1 9 (.t 8) (.t 100), none⟩,
 ⟨none, .stA 1 4 4 (.t 9) (.t 101), none⟩,
 oM 10 102,
 oM 11 103])
 .ret)
 .skip))
 (.seq (.draw [
 oO 105 (.load 9 true (.t 8)),
 oM 106 2,
 oM 107 3,
 oO 108 (.fldA 13 (.t 15)),
 oO 109 (.load 1 false (.t 108)),
 oM 110 14,
 oO 111 (.idxA 32 (.t 109) (.t 110)),
 oO 112 (.load 32 true (.t 111)),
 oK 113 F_pair_Open [.t 105, .t 106, .t 107, .t 112],
 oM 104 113,
 oO 114 (.ext (.t 104) 0),
 oO 115 (.ext (.t 104) 1),
 ⟨none, .stA 1 4 4 (.t 9) (.t 114), none⟩,
 oM 11 115] ⟨.all, [], .look 0 (.look 1 (.look 2 (.look 3 (.look 4 (.look 5 (.look 6 (.look 7 (.run 8 false (.look 9 (.look 10 (.look 11 (.run 12 false (.look 13 .done)))))))))))))⟩)
 (.seq (.seq (.ops [
 oM 116 11,
 oO 117 (.bin .neq (.t 116) (.c (.int .i64 0)))])
 (.cond (.t 117)
 (.seq (.ops [
 oM 118 12,
 oM 119 11,
 oO 120 (.call (.t 118) [.t 119]),
 oO 121 (.ext (.t 120) 0),
 oO 122 (.ext (.t 120) 1),
 oO 123 (.ext (.t 120) 2),
 oO 124 (.ext (.t 120) 3),
 ⟨none, .stA 9 1 9 (.t 8) (.t 121), none⟩,
 ⟨none, .stA 1 4 4 (.t 9) (.t 122), none⟩,
 oM 10 123,
 oM 11 124])
 .ret)
 .skip))
 (.seq (.draw [
 oO 126 (.fldA 14 (.t 15)),
 oO 127 (.load 1 false (.t 126)),
 oM 128 3,
 oK 129 F_deal_place [.t 128],
 oO 130 (.load 4 true (.t 9)),
 oK 131 F_feld_Fits [.t 127, .t 129, .t 130],
 oM 125 131,
 oO 132 (.ext (.t 125) 0),
 oO 133 (.ext (.t 125) 1),
 oM 10 132,
 oM 11 133] ⟨.all, [], .look 0 (.look 1 (.look 2 (.look 4 (.run 3 true (.run 5 false (.look 6 (.look 7 (.look 8 (.look 9 (.look 10 .done))))))))))⟩)
 (.seq (.seq (.ops [
 oM 134 11,
 oO 135 (.bin .neq (.t 134) (.c (.int .i64 0)))])
 (.cond (.t 135)
 (.seq (.ops [
 oM 136 12,
 oM 137 11,
 oO 138 (.call (.t 136) [.t 137]),
 oO 139 (.ext (.t 138) 0),
 oO 140 (.ext (.t 138) 1),
 oO 141 (.ext (.t 138) 2),
 oO 142 (.ext (.t 138) 3),
 ⟨none, .stA 9 1 9 (.t 8) (.t 139), none⟩,
 ⟨none, .stA 1 4 4 (.t 9) (.t 140), none⟩,
 oM 10 141,
 oM 11 142])
 .ret)
 .skip))
 (.seq (.draw [
 oO 143 (.load 9 true (.t 8)),
 oO 144 (.load 4 true (.t 9)),
 oM 145 10,
 oM 146 145,
 oG 147 (.load 4 true (.t 9)) 146 true,
 oG 148 (.call (.c (.fn F_field_Prime [])) [.c (.int .i64 1)]) 146 true,
 oG 149 (.call (.c (.fn F_limb_Cmp [])) [.t 147, .t 148]) 146 true,
 oG 150 (.bin .lss (.t 149) (.c (.int .i64 0))) 146 true,
 oO 151 (.pick (.t 146) (.t 150) (.c (.bool false))),
 ⟨none, .stA 9 1 9 (.t 8) (.t 143), none⟩,
 ⟨none, .stA 1 4 4 (.t 9) (.t 144), none⟩,
 oM 10 151,
 oO 11 (.mv (.c (.int .i64 0)))] ⟨(.but [8, 9]), [], .look 0 (.look 1 (.look 2 (.look 3 (.look 4 (.run 5 true (.run 6 true (.look 7 (.look 8 (.run 9 true (.run 10 true (.look 11 (.look 12 .done))))))))))))⟩)
 .ret))))))))))))))⟩
theorem K_deal_share : chkFun DK Pg Try.f99 A_deal_share = true := by kernel_rfl
theorem B_deal_share {args : List AV} {m : Mem} {K : AV → Mem → Prop} (h : vcFun DK Pg A_deal_share args m K) : ACall Pg F_deal_share args m K := call_body mixed Try.func99 (by kernel_rfl) K_deal_share h

noncomputable def A_field_Add : AFun := ⟨3, 30, [.cell 6 4 true],
 (.seq (.ops [
 oO 4 (.box 1 4 (.t 1)),
 oO 5 (.box 1 4 (.t 2)),
 oO 6 (.alloc 1 4 [.int .u64 0])])
 (.seq (.ops [
 oM 12 0,
 oK 13 F_field_less [.t 12],
 oM 11 13,
 oO 14 (.ext (.t 11) 0),
 oO 15 (.ext (.t 11) 1),
 oO 7 (.alloc 1 4 [.int .u64 0]),
 ⟨none, .stA 1 4 4 (.t 7) (.t 14), none⟩,
 oM 8 15])
 (.seq (.seq (.ops [
 oM 16 8,
 oO 17 (.un .not (.t 16))])
 (.cond (.t 17)
 (.seq (.ops [
 oO 18 (.build [.int .u64 0, .int .u64 0, .int .u64 0, .int .u64 0] []),
 ⟨none, .stA 1 4 4 (.t 6) (.t 18), none⟩])
 .ret)
 .skip))
 (.seq (.ops [
 oO 20 (.load 4 true (.t 4)),
 oO 21 (.load 4 true (.t 5)),
 oK 22 F_limb_Add [.t 20, .t 21],
 oM 19 22,
 oO 23 (.ext (.t 19) 0),
 oO 24 (.ext (.t 19) 1),
 oO 9 (.alloc 1 4 [.int .u64 0]),
 ⟨none, .stA 1 4 4 (.t 9) (.t 23), none⟩,
 oM 10 24])
 (.seq (.ops [
 oO 25 (.load 4 true (.t 9)),
 oM 26 10,
 oO 27 (.build [.int .u64 0, .int .u64 0, .int .u64 0, .int .u64 0] [(0, 1, .t 26)]),
 oO 28 (.load 4 true (.t 7)),
 oK 29 F_field_fold [.t 25, .t 27, .t 28],
 ⟨none, .stA 1 4 4 (.t 6) (.t 29), none⟩])
 .ret)))))⟩
theorem K_field_Add : chkFun DK Pg Try.f100 A_field_Add = true := by kernel_rfl
theorem B_field_Add {args : List AV} {m : Mem} {K : AV → Mem → Prop} (h : vcFun DK Pg A_field_Add args m K) : ACall Pg F_field_Add args m K := call_body mixed Try.func100 (by kernel_rfl) K_field_Add h

noncomputable def A_draw_joined : AFun := ⟨2, 53, [.t 4, .t 5],
 (.seq (.ops [
 oO 4 (.mv (.c (.nils))),
 oO 5 (.mv (.c (.bool false)))])
 (.seq (.ops [
 oM 12 0,
 oO 13 (.lens (.t 12)),
 oO 14 (.bin .add (.c (.int .i64 4)) (.t 13)),
 oM 6 14])
 (.seq (.seq (.ops [
 oM 15 1,
 oO 16 (.len (.t 15)),
 oO 17 (.mv (.c (.int .i64 0)))])
 (.block 0
 (.loop
 (.seq (.ops [
 oO 18 (.bin .lss (.t 17) (.t 16))])
 (.seq (.cond (.t 18)
 .skip
 (.exit 0))
 (.seq (.block 1
 (.seq (.ops [
 oO 19 (.idxA 1 (.t 15) (.t 17)),
 oO 20 (.load 1 false (.t 19)),
 oM 8 20])
 (.seq (.seq (.ops [
 oM 21 6,
 oO 22 (.bin .gtr (.t 21) (.c (.int .i64 65536)))])
 (.cond (.t 22)
 (.seq (.ops [
 oO 4 (.mv (.c (.nils))),
 oO 5 (.mv (.c (.bool false)))])
 .ret)
 .skip))
 (.ops [
 oM 23 6,
 oM 24 8,
 oO 25 (.len (.t 24)),
 oO 26 (.bin .add (.c (.int .i64 4)) (.t 25)),
 oO 27 (.bin .add (.t 23) (.t 26)),
 oM 6 27]))))
 (.ops [
 oO 28 (.bin .add (.t 17) (.c (.int .i64 1))),
 oM 17 28])))))))
 (.seq (.seq (.ops [
 oM 29 6,
 oO 30 (.bin .gtr (.t 29) (.c (.int .i64 65536)))])
 (.cond (.t 30)
 (.seq (.ops [
 oO 4 (.mv (.c (.nils))),
 oO 5 (.mv (.c (.bool false)))])
 .ret)
 .skip))
 (.seq (.ops [
 oM 31 0,
 oO 32 (.lens (.t 31)),
 oO 33 (.conv .u64 (.t 32)),
 oK 34 F_draw_number [.t 33, .c (.int .i64 4)],
 oM 35 0,
 oO 36 (.app 1 1 (.t 34) (.t 35)),
 oM 9 36])
 (.seq (.seq (.ops [
 oM 37 1,
 oO 38 (.len (.t 37)),
 oO 39 (.mv (.c (.int .i64 0)))])
 (.block 2
 (.loop
 (.seq (.ops [
 oO 40 (.bin .lss (.t 39) (.t 38))])
 (.seq (.cond (.t 40)
 .skip
 (.exit 2))
 (.seq (.block 3
 (.seq (.ops [
 oO 41 (.idxA 1 (.t 37) (.t 39)),
 oO 42 (.load 1 false (.t 41)),
 oM 11 42])
 (.ops [
 oM 43 9,
 oM 44 11,
 oO 45 (.len (.t 44)),
 oO 46 (.conv .u64 (.t 45)),
 oK 47 F_draw_number [.t 46, .c (.int .i64 4)],
 oO 48 (.app 1 1 (.t 43) (.t 47)),
 oM 49 11,
 oO 50 (.app 1 1 (.t 48) (.t 49)),
 oM 9 50])))
 (.ops [
 oO 51 (.bin .add (.t 39) (.c (.int .i64 1))),
 oM 39 51])))))))
 (.seq (.ops [
 oM 52 9,
 oM 4 52,
 oO 5 (.mv (.c (.bool true)))])
 .ret)))))))⟩
theorem K_draw_joined : chkFun DK Pg Try.f101 A_draw_joined = true := by kernel_rfl
theorem B_draw_joined {args : List AV} {m : Mem} {K : AV → Mem → Prop} (h : vcFun DK Pg A_draw_joined args m K) : ACall Pg F_draw_joined args m K := call_body mixed Try.func101 (by kernel_rfl) K_draw_joined h

noncomputable def A_sha_Sum : AFun := ⟨1, 201, [.cell 2 32 true],
 (.seq (.ops [
 oO 2 (.alloc 1 32 [.int .u8 0])])
 (.seq (.ops [
 oO 23 (.build [.int .u32 0, .int .u32 0, .int .u32 0, .int .u32 0, .int .u32 0, .int .u32 0, .int .u32 0, .int .u32 0] [(0, 1, .c (.int .u32 1779033703)), (1, 1, .c (.int .u32 3144134277)), (2, 1, .c (.int .u32 1013904242)), (3, 1, .c (.int .u32 2773480762)), (4, 1, .c (.int .u32 1359893119)), (5, 1, .c (.int .u32 2600822924)), (6, 1, .c (.int .u32 528734635)), (7, 1, .c (.int .u32 1541459225))]),
 oO 3 (.alloc 1 8 [.int .u32 0]),
 oS 8 3 23])
 (.seq (.ops [
 oK 24 F_sha_rounds [],
 oM 4 24])
 (.seq (.seq (.ops [
 oM 25 0,
 oK 26 F_sha_padded [.t 25],
 oM 5 26])
 (.block 0
 (.loop
 (.seq (.seq (.ops [
 oM 27 5,
 oO 28 (.len (.t 27)),
 oO 29 (.bin .gtr (.t 28) (.c (.int .i64 0)))])
 (.cond (.t 29)
 .skip
 (.exit 0)))
 (.seq (.block 1
 (.seq (.ops [
 oO 6 (.alloc 1 64 [.int .u32 0])])
 (.seq (.seq (.ops [
 oO 32 (.mv (.c (.int .i64 0)))])
 (.block 2
 (.loop
 (.seq (.ops [
 oO 33 (.bin .lss (.t 32) (.c (.int .i64 64)))])
 (.seq (.cond (.t 33)
 .skip
 (.exit 2))
 (.seq (.block 3
 (.seq (.ops [
 oM 34 32,
 oM 7 34])
 (.seq (.seq (.ops [
 oM 35 7,
 oO 36 (.bin .lss (.t 35) (.c (.int .i64 16)))])
 (.cond (.t 36)
 (.seq (.ops [
 oM 37 7,
 oM 38 5,
 oM 39 7,
 oO 40 (.bin .mul (.c (.int .i64 4)) (.t 39)),
 oM 41 7,
 oO 42 (.bin .mul (.c (.int .i64 4)) (.t 41)),
 oO 43 (.bin .add (.t 42) (.c (.int .i64 4))),
 oO 44 (.slice 1 (.t 38) (some (.t 40)) (some (.t 43)) none),
 oK 45 F_sha_high [.t 44],
 oO 46 (.conv .u32 (.t 45)),
 oO 47 (.idxP 64 1 (.t 6) (.t 37)),
 oS 1 47 46])
 (.exit 3))
 .skip))
 (.seq (.draw [
 oM 48 7,
 oO 49 (.bin .sub (.t 48) (.c (.int .i64 15))),
 oO 50 (.idxP 64 1 (.t 6) (.t 49)),
 oO 51 (.load 1 false (.t 50)),
 oM 52 7,
 oO 53 (.bin .sub (.t 52) (.c (.int .i64 2))),
 oO 54 (.idxP 64 1 (.t 6) (.t 53)),
 oO 55 (.load 1 false (.t 54)),
 oM 8 51,
 oM 9 55] ⟨.no, [], .flat⟩)
 (.seq (.ops [
 oM 56 8,
 oK 57 F_bits_RotateLeft32 [.t 56, .c (.int .i64 (-7))],
 oM 58 8,
 oK 59 F_bits_RotateLeft32 [.t 58, .c (.int .i64 (-18))],
 oO 60 (.bin .xor (.t 57) (.t 59)),
 oM 61 8,
 oO 62 (.bin .shr (.t 61) (.c (.int .u64 3))),
 oO 63 (.bin .xor (.t 60) (.t 62)),
 oM 10 63])
 (.seq (.ops [
 oM 64 9,
 oK 65 F_bits_RotateLeft32 [.t 64, .c (.int .i64 (-17))],
 oM 66 9,
 oK 67 F_bits_RotateLeft32 [.t 66, .c (.int .i64 (-19))],
 oO 68 (.bin .xor (.t 65) (.t 67)),
 oM 69 9,
 oO 70 (.bin .shr (.t 69) (.c (.int .u64 10))),
 oO 71 (.bin .xor (.t 68) (.t 70)),
 oM 11 71])
 (.draw [
 oM 72 7,
 oM 73 7,
 oO 74 (.bin .sub (.t 73) (.c (.int .i64 16))),
 oO 75 (.idxP 64 1 (.t 6) (.t 74)),
 oO 76 (.load 1 false (.t 75)),
 oM 77 10,
 oO 78 (.bin .add (.t 76) (.t 77)),
 oM 79 7,
 oO 80 (.bin .sub (.t 79) (.c (.int .i64 7))),
 oO 81 (.idxP 64 1 (.t 6) (.t 80)),
 oO 82 (.load 1 false (.t 81)),
 oO 83 (.bin .add (.t 78) (.t 82)),
 oM 84 11,
 oO 85 (.bin .add (.t 83) (.t 84)),
 oO 86 (.idxP 64 1 (.t 6) (.t 72)),
 oS 1 86 85] ⟨.all, [], .look 0 (.look 1 (.look 2 (.look 3 (.look 4 (.look 5 (.look 6 (.look 7 (.look 8 (.look 9 (.look 10 (.look 11 (.look 12 (.look 13 (.look 14 (.run 15 false .done)))))))))))))))⟩)))))))
 (.ops [
 oO 87 (.bin .add (.t 32) (.c (.int .i64 1))),
 oM 32 87])))))))
 (.seq (.ops [
 oO 88 (.load 8 true (.t 3)),
 oO 12 (.alloc 1 8 [.int .u32 0]),
 oS 8 12 88])
 (.seq (.seq (.ops [
 oO 89 (.mv (.c (.int .i64 0)))])
 (.block 4
 (.loop
 (.seq (.ops [
 oO 90 (.bin .lss (.t 89) (.c (.int .i64 64)))])
 (.seq (.cond (.t 90)
 .skip
 (.exit 4))
 (.seq (.block 5
 (.seq (.ops [
 oM 91 89,
 oM 13 91])
 (.seq (.draw [
 oO 92 (.idxP 8 1 (.t 12) (.c (.int .i64 4))),
 oO 93 (.load 1 false (.t 92)),
 oO 94 (.idxP 8 1 (.t 12) (.c (.int .i64 0))),
 oO 95 (.load 1 false (.t 94)),
 oM 14 93,
 oM 15 95] ⟨.no, [], .flat⟩)
 (.seq (.ops [
 oM 96 14,
 oK 97 F_bits_RotateLeft32 [.t 96, .c (.int .i64 (-6))],
 oM 98 14,
 oK 99 F_bits_RotateLeft32 [.t 98, .c (.int .i64 (-11))],
 oO 100 (.bin .xor (.t 97) (.t 99)),
 oM 101 14,
 oK 102 F_bits_RotateLeft32 [.t 101, .c (.int .i64 (-25))],
 oO 103 (.bin .xor (.t 100) (.t 102)),
 oM 16 103])
 (.seq (.draw [
 oO 104 (.idxP 8 1 (.t 12) (.c (.int .i64 7))),
 oO 105 (.load 1 false (.t 104)),
 oM 106 16,
 oO 107 (.bin .add (.t 105) (.t 106)),
 oM 108 14,
 oO 109 (.idxP 8 1 (.t 12) (.c (.int .i64 5))),
 oO 110 (.load 1 false (.t 109)),
 oO 111 (.bin .and (.t 108) (.t 110)),
 oM 112 14,
 oO 113 (.un .xor (.t 112)),
 oO 114 (.idxP 8 1 (.t 12) (.c (.int .i64 6))),
 oO 115 (.load 1 false (.t 114)),
 oO 116 (.bin .and (.t 113) (.t 115)),
 oO 117 (.bin .xor (.t 111) (.t 116)),
 oO 118 (.bin .add (.t 107) (.t 117)),
 oM 119 4,
 oM 120 13,
 oO 121 (.idxA 1 (.t 119) (.t 120)),
 oO 122 (.load 1 false (.t 121)),
 oO 123 (.bin .add (.t 118) (.t 122)),
 oM 124 13,
 oO 125 (.idxP 64 1 (.t 6) (.t 124)),
 oO 126 (.load 1 false (.t 125)),
 oO 127 (.bin .add (.t 123) (.t 126)),
 oM 17 127] ⟨.no, [], .flat⟩)
 (.seq (.ops [
 oM 128 15,
 oK 129 F_bits_RotateLeft32 [.t 128, .c (.int .i64 (-2))],
 oM 130 15,
 oK 131 F_bits_RotateLeft32 [.t 130, .c (.int .i64 (-13))],
 oO 132 (.bin .xor (.t 129) (.t 131)),
 oM 133 15,
 oK 134 F_bits_RotateLeft32 [.t 133, .c (.int .i64 (-22))],
 oO 135 (.bin .xor (.t 132) (.t 134)),
 oM 18 135])
 (.seq (.ops [
 oM 136 18,
 oM 137 15,
 oO 138 (.idxP 8 1 (.t 12) (.c (.int .i64 1))),
 oO 139 (.load 1 false (.t 138)),
 oO 140 (.bin .and (.t 137) (.t 139)),
 oM 141 15,
 oO 142 (.idxP 8 1 (.t 12) (.c (.int .i64 2))),
 oO 143 (.load 1 false (.t 142)),
 oO 144 (.bin .and (.t 141) (.t 143)),
 oO 145 (.bin .xor (.t 140) (.t 144)),
 oO 146 (.idxP 8 1 (.t 12) (.c (.int .i64 1))),
 oO 147 (.load 1 false (.t 146)),
 oO 148 (.idxP 8 1 (.t 12) (.c (.int .i64 2))),
 oO 149 (.load 1 false (.t 148)),
 oO 150 (.bin .and (.t 147) (.t 149)),
 oO 151 (.bin .xor (.t 145) (.t 150)),
 oO 152 (.bin .add (.t 136) (.t 151)),
 oM 19 152])
 (.ops [
 oM 153 17,
 oM 154 19,
 oO 155 (.bin .add (.t 153) (.t 154)),
 oM 156 15,
 oO 157 (.idxP 8 1 (.t 12) (.c (.int .i64 1))),
 oO 158 (.load 1 false (.t 157)),
 oO 159 (.idxP 8 1 (.t 12) (.c (.int .i64 2))),
 oO 160 (.load 1 false (.t 159)),
 oO 161 (.idxP 8 1 (.t 12) (.c (.int .i64 3))),
 oO 162 (.load 1 false (.t 161)),
 oM 163 17,
 oO 164 (.bin .add (.t 162) (.t 163)),
 oM 165 14,
 oO 166 (.idxP 8 1 (.t 12) (.c (.int .i64 5))),
 oO 167 (.load 1 false (.t 166)),
 oO 168 (.idxP 8 1 (.t 12) (.c (.int .i64 6))),
 oO 169 (.load 1 false (.t 168)),
 oO 170 (.build [.int .u32 0, .int .u32 0, .int .u32 0, .int .u32 0, .int .u32 0, .int .u32 0, .int .u32 0, .int .u32 0] [(0, 1, .t 155), (1, 1, .t 156), (2, 1, .t 158), (3, 1, .t 160), (4, 1, .t 164), (5, 1, .t 165), (6, 1, .t 167), (7, 1, .t 169)]),
 oS 8 12 170]))))))))
 (.ops [
 oO 171 (.bin .add (.t 89) (.c (.int .i64 1))),
 oM 89 171])))))))
 (.seq (.ops [
 oO 172 (.mv (.c (.int .i64 0)))])
 (.block 6
 (.loop
 (.seq (.ops [
 oO 173 (.bin .lss (.t 172) (.c (.int .i64 8)))])
 (.seq (.cond (.t 173)
 .skip
 (.exit 6))
 (.seq (.block 7
 (.seq (.ops [
 oM 174 172,
 oM 20 174])
 (.draw [
 oM 175 20,
 oO 176 (.idxP 8 1 (.t 3) (.t 175)),
 oO 177 (.load 1 false (.t 176)),
 oM 178 20,
 oO 179 (.idxP 8 1 (.t 12) (.t 178)),
 oO 180 (.load 1 false (.t 179)),
 oO 181 (.bin .add (.t 177) (.t 180)),
 oO 182 (.idxP 8 1 (.t 3) (.t 175)),
 oS 1 182 181] ⟨.all, [], .look 0 (.look 1 (.look 2 (.look 3 (.look 4 (.look 5 (.look 6 (.look 7 (.run 8 false .done))))))))⟩)))
 (.ops [
 oO 183 (.bin .add (.t 172) (.c (.int .i64 1))),
 oM 172 183]))))))))))))
 (.ops [
 oM 30 5,
 oO 31 (.slice 1 (.t 30) (some (.c (.int .i64 64))) none none),
 oM 5 31]))))))
 (.seq (.ops [
 oO 21 (.alloc 1 32 [.int .u8 0])])
 (.seq (.seq (.ops [
 oO 184 (.mv (.c (.int .i64 0)))])
 (.block 8
 (.loop
 (.seq (.ops [
 oO 185 (.bin .lss (.t 184) (.c (.int .i64 32)))])
 (.seq (.cond (.t 185)
 .skip
 (.exit 8))
 (.seq (.block 9
 (.seq (.ops [
 oM 186 184,
 oM 22 186])
 (.ops [
 oM 187 22,
 oM 188 22,
 oO 189 (.bin .quo (.t 188) (.c (.int .i64 4))),
 oO 190 (.idxP 8 1 (.t 3) (.t 189)),
 oO 191 (.load 1 false (.t 190)),
 oM 192 22,
 oO 193 (.bin .rem (.t 192) (.c (.int .i64 4))),
 oO 194 (.bin .mul (.c (.int .i64 8)) (.t 193)),
 oO 195 (.bin .sub (.c (.int .i64 24)) (.t 194)),
 oO 196 (.bin .shr (.t 191) (.t 195)),
 oO 197 (.conv .u8 (.t 196)),
 oO 198 (.idxP 32 1 (.t 21) (.t 187)),
 oS 1 198 197])))
 (.ops [
 oO 199 (.bin .add (.t 184) (.c (.int .i64 1))),
 oM 184 199])))))))
 (.seq (.ops [
 oO 200 (.load 32 true (.t 21)),
 oS 32 2 200])
 .ret)))))))⟩
theorem K_sha_Sum : chkFun DK Pg Try.f102 A_sha_Sum = true := by kernel_rfl
theorem B_sha_Sum {args : List AV} {m : Mem} {K : AV → Mem → Prop} (h : vcFun DK Pg A_sha_Sum args m K) : ACall Pg F_sha_Sum args m K := call_body mixed Try.func102 (by kernel_rfl) K_sha_Sum h

noncomputable def A_draw_with : AFun := ⟨2, 10, [.t 4],
 (.seq (.ops [
 oO 4 (.mv (.c (.nils)))])
 (.seq (.ops [
 oO 5 (.bsl 1 0 [.int .u8 0] []),
 oM 6 0,
 oO 7 (.app 1 1 (.t 5) (.t 6)),
 oM 8 1,
 oO 9 (.app 1 1 (.t 7) (.t 8)),
 oM 4 9])
 .ret))⟩
theorem K_draw_with : chkFun DK Pg Try.f103 A_draw_with = true := by kernel_rfl
theorem B_draw_with {args : List AV} {m : Mem} {K : AV → Mem → Prop} (h : vcFun DK Pg A_draw_with args m K) : ACall Pg F_draw_with args m K := call_body mixed Try.func103 (by kernel_rfl) K_draw_with h

noncomputable def A_limb_Mod : AFun := ⟨3, 57, [.cell 6 4 true, .t 7],
 (.seq (.ops [
 oO 3 (.box 1 4 (.t 0)),
 oO 4 (.box 1 4 (.t 1)),
 oO 5 (.box 1 4 (.t 2)),
 oO 6 (.alloc 1 4 [.int .u64 0]),
 oO 7 (.mv (.c (.int .i64 0)))])
 (.seq (.seq (.ops [
 oO 12 (.load 4 true (.t 5)),
 oO 13 (.build [.int .u64 0, .int .u64 0, .int .u64 0, .int .u64 0] []),
 oO 14 (.eqa [.i, .i, .i, .i] false (.t 12) (.t 13))])
 (.cond (.t 14)
 (.seq (.ops [
 oO 15 (.build [.int .u64 0, .int .u64 0, .int .u64 0, .int .u64 0] []),
 ⟨none, .stA 1 4 4 (.t 6) (.t 15), none⟩,
 oO 7 (.mv (.c (.int .i64 1)))])
 .ret)
 .skip))
 (.seq (.ops [
 oO 8 (.alloc 1 4 [.int .u64 0])])
 (.seq (.seq (.ops [
 oO 9 (.mv (.c (.int .i64 511)))])
 (.block 0
 (.loop
 (.seq (.seq (.ops [
 oM 16 9,
 oO 17 (.bin .geq (.t 16) (.c (.int .i64 0)))])
 (.cond (.t 17)
 .skip
 (.exit 0)))
 (.seq (.block 1
 (.seq (.ops [
 oO 20 (.load 4 true (.t 4)),
 oO 10 (.alloc 1 4 [.int .u64 0]),
 ⟨none, .stA 1 4 4 (.t 10) (.t 20), none⟩])
 (.seq (.seq (.ops [
 oM 21 9,
 oO 22 (.bin .geq (.t 21) (.c (.int .i64 256)))])
 (.cond (.t 22)
 (.ops [
 oO 23 (.load 4 true (.t 3)),
 ⟨none, .stA 1 4 4 (.t 10) (.t 23), none⟩])
 .skip))
 (.seq (.ops [
 oO 24 (.idxP 4 1 (.t 8) (.c (.int .i64 3))),
 oO 25 (.load 1 false (.t 24)),
 oO 26 (.bin .shr (.t 25) (.c (.int .u64 63))),
 oM 11 26])
 (.seq (.ops [
 oO 28 (.load 4 true (.t 8)),
 oO 29 (.load 4 true (.t 8)),
 oK 30 F_limb_Add [.t 28, .t 29],
 oM 27 30,
 oO 31 (.ext (.t 27) 0),
 oO 32 (.ext (.t 27) 1),
 ⟨none, .stA 1 4 4 (.t 8) (.t 31), none⟩])
 (.seq (.draw [
 oO 33 (.idxP 4 1 (.t 8) (.c (.int .i64 0))),
 oO 34 (.load 1 false (.t 33)),
 oO 35 (.load 4 true (.t 10)),
 oM 36 9,
 oO 37 (.bin .rem (.t 36) (.c (.int .i64 256))),
 oK 38 F_limb_Bit [.t 35, .t 37],
 oO 39 (.conv .u64 (.t 38)),
 oO 40 (.bin .or (.t 34) (.t 39)),
 oO 41 (.idxP 4 1 (.t 8) (.c (.int .i64 0))),
 oS 1 41 40] ⟨.all, [], .look 0 (.look 1 (.look 2 (.look 3 (.look 4 (.run 5 true (.look 6 (.look 7 (.look 8 (.run 9 false .done)))))))))⟩)
 (.seq (.ops [
 oM 42 11,
 oO 43 (.bin .eql (.t 42) (.c (.int .u64 1))),
 oM 44 43,
 oG 45 (.load 4 true (.t 8)) 44 false,
 oG 46 (.load 4 true (.t 5)) 44 false,
 oG 47 (.call (.c (.fn F_limb_Cmp [])) [.t 45, .t 46]) 44 false,
 oG 48 (.bin .geq (.t 47) (.c (.int .i64 0))) 44 false,
 oO 49 (.pick (.t 44) (.c (.bool true)) (.t 48))])
 (.cond (.t 49)
 (.ops [
 oO 51 (.load 4 true (.t 8)),
 oO 52 (.load 4 true (.t 5)),
 oK 53 F_limb_Sub [.t 51, .t 52],
 oM 50 53,
 oO 54 (.ext (.t 50) 0),
 oO 55 (.ext (.t 50) 1),
 ⟨none, .stA 1 4 4 (.t 8) (.t 54), none⟩])
 .skip))))))))
 (.ops [
 oM 18 9,
 oO 19 (.bin .sub (.t 18) (.c (.int .i64 1))),
 oM 9 19]))))))
 (.seq (.ops [
 oO 56 (.load 4 true (.t 8)),
 ⟨none, .stA 1 4 4 (.t 6) (.t 56), none⟩,
 oO 7 (.mv (.c (.int .i64 0)))])
 .ret)))))⟩
theorem K_limb_Mod : chkFun DK Pg Try.f104 A_limb_Mod = true := by kernel_rfl
theorem B_limb_Mod {args : List AV} {m : Mem} {K : AV → Mem → Prop} (h : vcFun DK Pg A_limb_Mod args m K) : ACall Pg F_limb_Mod args m K := call_body mixed Try.func104 (by kernel_rfl) K_limb_Mod h

noncomputable def A_bin_Put : AFun := ⟨3, 43, [.t 6, .t 7],
 (.seq (.ops [
 oO 6 (.mv (.c (.nils))),
 oO 7 (.mv (.c (.int .i64 0)))])
 (.seq (.seq (.ops [
 oM 10 2,
 oO 11 (.bin .lss (.t 10) (.c (.int .i64 1))),
 oM 12 11,
 oG 13 (.mv (.t 2)) 12 false,
 oG 14 (.bin .gtr (.t 13) (.c (.int .i64 7))) 12 false,
 oO 15 (.pick (.t 12) (.c (.bool true)) (.t 14)),
 oM 16 15,
 oG 17 (.mv (.t 1)) 16 false,
 oG 18 (.bin .lss (.t 17) (.c (.int .i64 0))) 16 false,
 oO 19 (.pick (.t 16) (.c (.bool true)) (.t 18)),
 oM 20 19,
 oG 21 (.mv (.t 1)) 20 false,
 oG 22 (.mv (.t 2)) 20 false,
 oG 23 (.call (.c (.fn F_bin_room [])) [.t 22]) 20 false,
 oG 24 (.bin .geq (.t 21) (.t 23)) 20 false,
 oO 25 (.pick (.t 20) (.c (.bool true)) (.t 24))])
 (.cond (.t 25)
 (.seq (.ops [
 oO 6 (.mv (.c (.nils))),
 oO 7 (.mv (.c (.int .i64 1)))])
 .ret)
 .skip))
 (.seq (.ops [
 oM 26 0,
 oK 27 F_slices_Clone_Sbyte_byte [.t 26],
 oM 8 27])
 (.seq (.seq (.ops [
 oM 28 2,
 oO 29 (.bin .sub (.t 28) (.c (.int .i64 1))),
 oM 9 29])
 (.block 0
 (.loop
 (.seq (.seq (.ops [
 oM 30 9,
 oO 31 (.bin .geq (.t 30) (.c (.int .i64 0)))])
 (.cond (.t 31)
 .skip
 (.exit 0)))
 (.seq (.block 1
 (.ops [
 oM 34 8,
 oM 35 1,
 oM 36 9,
 oO 37 (.bin .mul (.c (.int .i64 8)) (.t 36)),
 oO 38 (.bin .shr (.t 35) (.t 37)),
 oO 39 (.conv .u8 (.t 38)),
 oO 40 (.bsl 1 1 [.int .u8 0] [(0, 1, .t 39)]),
 oO 41 (.app 1 1 (.t 34) (.t 40)),
 oM 8 41]))
 (.ops [
 oM 32 9,
 oO 33 (.bin .sub (.t 32) (.c (.int .i64 1))),
 oM 9 33]))))))
 (.seq (.ops [
 oM 42 8,
 oM 6 42,
 oO 7 (.mv (.c (.int .i64 0)))])
 .ret)))))⟩
theorem K_bin_Put : chkFun DK Pg Try.f105 A_bin_Put = true := by kernel_rfl
theorem B_bin_Put {args : List AV} {m : Mem} {K : AV → Mem → Prop} (h : vcFun DK Pg A_bin_Put args m K) : ACall Pg F_bin_Put args m K := call_body mixed Try.func105 (by kernel_rfl) K_bin_Put h

noncomputable def A_curve_Bytes : AFun := ⟨1, 28, [.t 2, .t 3],
 (.seq (.ops [
 oO 1 (.box 9 1 (.t 0)),
 oO 2 (.mv (.c (.nils))),
 oO 3 (.mv (.c (.int .i64 0)))])
 (.seq (.ops [
 oO 6 (.load 9 true (.t 1)),
 oK 7 F_curve_Check [.t 6],
 oM 4 7])
 (.seq (.block 0
 (.seq (.ops [
 oM 9 4,
 oO 10 (.bin .neq (.t 9) (.c (.int .i64 0))),
 oM 8 10])
 (.cond (.t 8)
 (.seq (.ops [
 oM 11 4,
 oO 2 (.mv (.c (.nils))),
 oM 3 11])
 .ret)
 (.seq (.ops [
 oO 13 (.fldA 0 (.t 1)),
 oO 14 (.load 1 false (.t 13)),
 oM 12 14])
 (.cond (.t 12)
 (.seq (.ops [
 oO 15 (.bsl 1 1 [.int .u8 0] [(0, 1, .c (.int .u8 0))]),
 oM 2 15,
 oO 3 (.mv (.c (.int .i64 0)))])
 .ret)
 .skip)))))
 (.seq (.ops [
 oO 16 (.fldA 1 (.t 1)),
 oO 17 (.load 4 true (.t 16)),
 oK 18 F_limb_Bytes [.t 17],
 oO 5 (.alloc 1 32 [.int .u8 0]),
 oS 32 5 18])
 (.seq (.draw [
 oO 19 (.fldA 5 (.t 1)),
 oO 20 (.idxP 4 1 (.t 19) (.c (.int .i64 0))),
 oO 21 (.load 1 false (.t 20)),
 oO 22 (.bin .and (.t 21) (.c (.int .u64 1))),
 oO 23 (.bin .add (.c (.int .u64 2)) (.t 22)),
 oO 24 (.conv .u8 (.t 23)),
 oO 25 (.bsl 1 1 [.int .u8 0] [(0, 1, .t 24)]),
 oO 26 (.slarr 32 1 (.t 5) none none none),
 oO 27 (.app 1 1 (.t 25) (.t 26)),
 oM 2 27,
 oO 3 (.mv (.c (.int .i64 0)))] ⟨.all, [], .look 0 (.look 1 (.look 2 (.look 3 (.look 4 (.look 5 (.look 7 (.run 6 true (.run 8 false (.look 9 (.look 10 .done))))))))))⟩)
 .ret)))))⟩
theorem K_curve_Bytes : chkFun DK Pg Try.f111 A_curve_Bytes = true := by kernel_rfl
theorem B_curve_Bytes {args : List AV} {m : Mem} {K : AV → Mem → Prop} (h : vcFun DK Pg A_curve_Bytes args m K) : ACall Pg F_curve_Bytes args m K := call_body mixed Try.func111 (by kernel_rfl) K_curve_Bytes h

noncomputable def A_limb_Bytes : AFun := ⟨1, 24, [.cell 2 32 true],
 (.seq (.ops [
 oO 1 (.box 1 4 (.t 0)),
 oO 2 (.alloc 1 32 [.int .u8 0])])
 (.seq (.ops [
 oO 3 (.alloc 1 32 [.int .u8 0])])
 (.seq (.seq (.ops [
 oO 6 (.mv (.c (.int .i64 0)))])
 (.block 0
 (.loop
 (.seq (.ops [
 oO 7 (.bin .lss (.t 6) (.c (.int .i64 32)))])
 (.seq (.cond (.t 7)
 .skip
 (.exit 0))
 (.seq (.block 1
 (.seq (.ops [
 oM 8 6,
 oM 4 8])
 (.seq (.ops [
 oM 9 4,
 oO 10 (.binF .sub (.c (.int .i64 31)) (.t 9)),
 oM 5 10])
 (.ops [
 oM 11 4,
 oM 12 5,
 oO 13 (.bin .quo (.t 12) (.c (.int .i64 8))),
 oO 14 (.idxP 4 1 (.t 1) (.t 13)),
 oO 15 (.load 1 false (.t 14)),
 oM 16 5,
 oO 17 (.bin .rem (.t 16) (.c (.int .i64 8))),
 oO 18 (.binF .mul (.c (.int .i64 8)) (.t 17)),
 oO 19 (.bin .shr (.t 15) (.t 18)),
 oO 20 (.conv .u8 (.t 19)),
 oO 21 (.idxP 32 1 (.t 3) (.t 11)),
 ⟨none, .stA 1 32 1 (.t 21) (.t 20), none⟩]))))
 (.ops [
 oO 22 (.binF .add (.t 6) (.c (.int .i64 1))),
 oM 6 22])))))))
 (.seq (.ops [
 oO 23 (.load 32 true (.t 3)),
 ⟨none, .stA 1 32 32 (.t 2) (.t 23), none⟩])
 .ret))))⟩
theorem K_limb_Bytes : chkFun DK Pg Try.f112 A_limb_Bytes = true := by kernel_rfl
theorem B_limb_Bytes {args : List AV} {m : Mem} {K : AV → Mem → Prop} (h : vcFun DK Pg A_limb_Bytes args m K) : ACall Pg F_limb_Bytes args m K := call_body mixed Try.func112 (by kernel_rfl) K_limb_Bytes h

noncomputable def A_act_point : AFun := ⟨1, 11, [.t 2],
 (.seq (.ops [
 oO 1 (.box 9 1 (.t 0)),
 oO 2 (.mv (.c (.bool false)))])
 (.seq (.ops [
 oO 3 (.fldA 0 (.t 1)),
 oO 4 (.load 1 false (.t 3)),
 oO 5 (.un .not (.t 4)),
 oM 6 5,
 oG 7 (.load 9 true (.t 1)) 6 true,
 oG 8 (.call (.c (.fn F_curve_Check [])) [.t 7]) 6 true,
 oG 9 (.bin .eql (.t 8) (.c (.int .i64 0))) 6 true,
 oO 10 (.pick (.t 6) (.t 9) (.c (.bool false))),
 oM 2 10])
 .ret))⟩
theorem K_act_point : chkFun DK Pg Try.f113 A_act_point = true := by kernel_rfl
theorem B_act_point {args : List AV} {m : Mem} {K : AV → Mem → Prop} (h : vcFun DK Pg A_act_point args m K) : ACall Pg F_act_point args m K := call_body mixed Try.func113 (by kernel_rfl) K_act_point h

noncomputable def A_act_proof : AFun := ⟨1, 17, [.t 2],
 (.seq (.ops [
 oO 1 (.box 8 1 (.t 0)),
 oO 2 (.mv (.c (.bool false)))])
 (.seq (.ops [
 oK 4 F_field_Prime [.c (.int .i64 1)],
 oO 3 (.alloc 1 4 [.int .u64 0]),
 ⟨none, .stA 1 4 4 (.t 3) (.t 4), none⟩])
 (.seq (.ops [
 oO 5 (.fldA 0 (.t 1)),
 oO 6 (.load 4 true (.t 5)),
 oO 7 (.load 4 true (.t 3)),
 oK 8 F_limb_Cmp [.t 6, .t 7],
 oO 9 (.bin .lss (.t 8) (.c (.int .i64 0))),
 oM 10 9,
 oG 11 (.fldA 4 (.t 1)) 10 true,
 oG 12 (.load 4 true (.t 11)) 10 true,
 oG 13 (.load 4 true (.t 3)) 10 true,
 oG 14 (.call (.c (.fn F_limb_Cmp [])) [.t 12, .t 13]) 10 true,
 oG 15 (.bin .lss (.t 14) (.c (.int .i64 0))) 10 true,
 oO 16 (.pick (.t 10) (.t 15) (.c (.bool false))),
 oM 2 16])
 .ret)))⟩
theorem K_act_proof : chkFun DK Pg Try.f114 A_act_proof = true := by kernel_rfl
theorem B_act_proof {args : List AV} {m : Mem} {K : AV → Mem → Prop} (h : vcFun DK Pg A_act_proof args m K) : ACall Pg F_act_proof args m K := call_body mixed Try.func114 (by kernel_rfl) K_act_proof h

noncomputable def A_limb_Len : AFun := ⟨1, 19, [.t 2],
 (.seq (.ops [
 oO 1 (.box 1 4 (.t 0)),
 oO 2 (.mv (.c (.int .i64 0)))])
 (.seq (.seq (.ops [
 oO 3 (.mv (.c (.int .i64 3)))])
 (.block 0
 (.loop
 (.seq (.seq (.ops [
 oM 4 3,
 oO 5 (.bin .geq (.t 4) (.c (.int .i64 0)))])
 (.cond (.t 5)
 .skip
 (.exit 0)))
 (.seq (.block 1
 (.seq (.ops [
 oM 8 3,
 oO 9 (.idxP 4 1 (.t 1) (.t 8)),
 oO 10 (.load 1 false (.t 9)),
 oO 11 (.bin .neq (.t 10) (.c (.int .u64 0)))])
 (.cond (.t 11)
 (.seq (.ops [
 oM 12 3,
 oO 13 (.bin .mul (.c (.int .i64 64)) (.t 12)),
 oM 14 3,
 oO 15 (.idxP 4 1 (.t 1) (.t 14)),
 oO 16 (.load 1 false (.t 15)),
 oK 17 F_bits_Len64 [.t 16],
 oO 18 (.bin .add (.t 13) (.t 17)),
 oM 2 18])
 .ret)
 .skip)))
 (.ops [
 oM 6 3,
 oO 7 (.bin .sub (.t 6) (.c (.int .i64 1))),
 oM 3 7]))))))
 (.seq (.ops [
 oO 2 (.mv (.c (.int .i64 0)))])
 .ret)))⟩
theorem K_limb_Len : chkFun DK Pg Try.f121 A_limb_Len = true := by kernel_rfl
theorem B_limb_Len {args : List AV} {m : Mem} {K : AV → Mem → Prop} (h : vcFun DK Pg A_limb_Len args m K) : ACall Pg F_limb_Len args m K := call_body mixed Try.func121 (by kernel_rfl) K_limb_Len h

noncomputable def A_curve_jac_twice : AFun := ⟨1, 74, [.cell 2 12 true],
 (.seq (.ops [
 oO 1 (.box 12 1 (.t 0)),
 oO 2 (.alloc 12 1 (List.replicate 12 (.int .u64 0)))])
 (.seq (.ops [
 oO 11 (.fldA 4 (.t 1)),
 oO 12 (.load 4 true (.t 11)),
 oO 13 (.fldA 4 (.t 1)),
 oO 14 (.load 4 true (.t 13)),
 oK 15 F_curve_mul [.t 12, .t 14],
 oO 3 (.alloc 1 4 [.int .u64 0]),
 ⟨none, .stA 1 4 4 (.t 3) (.t 15), none⟩])
 (.seq (.ops [
 oO 16 (.fldA 0 (.t 1)),
 oO 17 (.load 4 true (.t 16)),
 oO 18 (.load 4 true (.t 3)),
 oK 19 F_curve_mul [.t 17, .t 18],
 oO 4 (.alloc 1 4 [.int .u64 0]),
 ⟨none, .stA 1 4 4 (.t 4) (.t 19), none⟩])
 (.seq (.draw [
 oO 20 (.load 4 true (.t 4)),
 oO 21 (.load 4 true (.t 4)),
 oK 22 F_curve_add [.t 20, .t 21],
 oO 23 (.load 4 true (.t 4)),
 oO 24 (.load 4 true (.t 4)),
 oK 25 F_curve_add [.t 23, .t 24],
 oK 26 F_curve_add [.t 22, .t 25],
 ⟨none, .stA 1 4 4 (.t 4) (.t 26), none⟩] ⟨.all, [], .look 0 (.look 1 (.look 3 (.look 4 (.run 2 true (.run 5 false (.run 6 false (.run 7 false .done)))))))⟩)
 (.seq (.ops [
 oO 27 (.fldA 0 (.t 1)),
 oO 28 (.load 4 true (.t 27)),
 oO 29 (.fldA 0 (.t 1)),
 oO 30 (.load 4 true (.t 29)),
 oK 31 F_curve_mul [.t 28, .t 30],
 oO 5 (.alloc 1 4 [.int .u64 0]),
 ⟨none, .stA 1 4 4 (.t 5) (.t 31), none⟩])
 (.seq (.draw [
 oO 32 (.load 4 true (.t 5)),
 oO 33 (.load 4 true (.t 5)),
 oK 34 F_curve_add [.t 32, .t 33],
 oO 35 (.load 4 true (.t 5)),
 oK 36 F_curve_add [.t 34, .t 35],
 oO 6 (.alloc 1 4 [.int .u64 0]),
 oS 4 6 36] ⟨.all, [(5, some 6)], .look 0 (.look 1 (.look 3 (.run 2 true (.run 4 true (.pre 5 6 (.fill .done))))))⟩)
 (.seq (.draw [
 oO 37 (.load 4 true (.t 6)),
 oO 38 (.load 4 true (.t 6)),
 oK 39 F_curve_mul [.t 37, .t 38],
 oO 40 (.load 4 true (.t 4)),
 oO 41 (.load 4 true (.t 4)),
 oK 42 F_curve_add [.t 40, .t 41],
 oK 43 F_curve_sub [.t 39, .t 42],
 oO 7 (.alloc 1 4 [.int .u64 0]),
 oS 4 7 43] ⟨.all, [(7, some 8)], .look 0 (.look 1 (.look 3 (.look 4 (.run 2 true (.run 5 true (.run 6 true (.pre 7 8 (.fill .done))))))))⟩)
 (.seq (.ops [
 oO 44 (.load 4 true (.t 3)),
 oO 45 (.load 4 true (.t 3)),
 oK 46 F_curve_mul [.t 44, .t 45],
 oO 8 (.alloc 1 4 [.int .u64 0]),
 ⟨none, .stA 1 4 4 (.t 8) (.t 46), none⟩])
 (.seq (.draw [
 oO 47 (.load 4 true (.t 8)),
 oO 48 (.load 4 true (.t 8)),
 oK 49 F_curve_add [.t 47, .t 48],
 oO 50 (.load 4 true (.t 8)),
 oO 51 (.load 4 true (.t 8)),
 oK 52 F_curve_add [.t 50, .t 51],
 oK 53 F_curve_add [.t 49, .t 52],
 ⟨none, .stA 1 4 4 (.t 8) (.t 53), none⟩] ⟨.all, [], .look 0 (.look 1 (.look 3 (.look 4 (.run 2 true (.run 5 false (.run 6 false (.run 7 false .done)))))))⟩)
 (.seq (.draw [
 oO 54 (.load 4 true (.t 6)),
 oO 55 (.load 4 true (.t 4)),
 oO 56 (.load 4 true (.t 7)),
 oK 57 F_curve_sub [.t 55, .t 56],
 oK 58 F_curve_mul [.t 54, .t 57],
 oO 59 (.load 4 true (.t 8)),
 oO 60 (.load 4 true (.t 8)),
 oK 61 F_curve_add [.t 59, .t 60],
 oK 62 F_curve_sub [.t 58, .t 61],
 oO 9 (.alloc 1 4 [.int .u64 0]),
 oS 4 9 62] ⟨.all, [(9, some 10)], .look 0 (.look 1 (.look 2 (.look 5 (.look 6 (.run 3 true (.run 4 true (.run 7 true (.run 8 true (.pre 9 10 (.fill .done))))))))))⟩)
 (.seq (.ops [
 oO 63 (.fldA 4 (.t 1)),
 oO 64 (.load 4 true (.t 63)),
 oO 65 (.fldA 8 (.t 1)),
 oO 66 (.load 4 true (.t 65)),
 oK 67 F_curve_mul [.t 64, .t 66],
 oO 10 (.alloc 1 4 [.int .u64 0]),
 ⟨none, .stA 1 4 4 (.t 10) (.t 67), none⟩])
 (.seq (.draw [
 oO 68 (.load 4 true (.t 7)),
 oO 69 (.load 4 true (.t 9)),
 oO 70 (.load 4 true (.t 10)),
 oO 71 (.load 4 true (.t 10)),
 oK 72 F_curve_add [.t 70, .t 71],
 oO 73 (.build (List.replicate 12 (.int .u64 0)) [(0, 4, .t 68), (4, 4, .t 69), (8, 4, .t 72)]),
 ⟨none, .stA 12 1 12 (.t 2) (.t 73), none⟩] ⟨.all, [], .look 0 (.look 1 (.look 2 (.look 3 (.run 4 true (.look 5 (.run 6 false .done))))))⟩)
 .ret))))))))))))⟩
theorem K_curve_jac_twice : chkFun DK Pg Try.f122 A_curve_jac_twice = true := by kernel_rfl
theorem B_curve_jac_twice {args : List AV} {m : Mem} {K : AV → Mem → Prop} (h : vcFun DK Pg A_curve_jac_twice args m K) : ACall Pg F_curve_jac_twice args m K := call_body mixed Try.func122 (by kernel_rfl) K_curve_jac_twice h

noncomputable def A_limb_Bit : AFun := ⟨2, 20, [.t 4],
 (.seq (.ops [
 oO 2 (.box 1 4 (.t 0)),
 oO 4 (.mv (.c (.int .i64 0)))])
 (.seq (.seq (.ops [
 oM 5 1,
 oO 6 (.bin .lss (.t 5) (.c (.int .i64 0))),
 oM 7 6,
 oG 8 (.mv (.t 1)) 7 false,
 oG 9 (.bin .geq (.t 8) (.c (.int .i64 256))) 7 false,
 oO 10 (.pick (.t 7) (.c (.bool true)) (.t 9))])
 (.cond (.t 10)
 (.seq (.ops [
 oO 4 (.mv (.c (.int .i64 0)))])
 .ret)
 .skip))
 (.seq (.ops [
 oM 11 1,
 oO 12 (.bin .quo (.t 11) (.c (.int .i64 64))),
 oO 13 (.idxP 4 1 (.t 2) (.t 12)),
 oO 14 (.load 1 false (.t 13)),
 oM 15 1,
 oO 16 (.bin .rem (.t 15) (.c (.int .i64 64))),
 oO 17 (.bin .shr (.t 14) (.t 16)),
 oO 18 (.bin .and (.t 17) (.c (.int .u64 1))),
 oO 19 (.conv .i64 (.t 18)),
 oM 4 19])
 .ret)))⟩
theorem K_limb_Bit : chkFun DK Pg Try.f123 A_limb_Bit = true := by kernel_rfl
theorem B_limb_Bit {args : List AV} {m : Mem} {K : AV → Mem → Prop} (h : vcFun DK Pg A_limb_Bit args m K) : ACall Pg F_limb_Bit args m K := call_body mixed Try.func123 (by kernel_rfl) K_limb_Bit h

end Go.Proofs.Ytfolpdmbpbbimaa
end

