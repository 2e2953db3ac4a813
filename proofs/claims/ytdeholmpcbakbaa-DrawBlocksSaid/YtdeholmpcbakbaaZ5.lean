/- Texts of a proof, one behind the other; the last of these: Rows held against one another; no condition. -/
import Derived.Test.YtdeholmpcbakbaaZ4
import Derived.Test.YtdeholmpcbakbaaProg
import Derived.IntWalk
section
/- The told forms of the functions that this seat reaches, each held against the program by a closed test; no condition. -/
set_option maxRecDepth 100000
set_option maxHeartbeats 1000000
namespace Go.Proofs.Ytdeholmpcbakbaa
open Go Go.Wit

noncomputable abbrev Pg : Program := Try.prog
def oM (d s : Nat) : AOpr := ⟨some d, .mv (.t s), none⟩
def oK (d f : Nat) (l : List Opn) : AOpr := ⟨some d, .call (.c (.fn f [])) l, none⟩
def oO (d : Nat) (o : AOp) : AOpr := ⟨some d, o, none⟩
def oG (d : Nat) (o : AOp) (t : Nat) (b : Bool) : AOpr := ⟨some d, o, some (t, b)⟩
def oS (z a b : Nat) : AOpr := ⟨none, .store z (.t a) (.t b), none⟩
abbrev F_witanlaw05_DrawScalars : Nat := 3
abbrev F_witanlaw05_DrawPoints : Nat := 4
abbrev F_witanlaw05_DrawLong : Nat := 5
abbrev F_witanlaw05_DrawTries : Nat := 6
abbrev F_witanlaw05_DrawParts : Nat := 7
abbrev F_witanlaw05_DrawStreams : Nat := 8
abbrev F_witanlaw05_DrawBlocks : Nat := 9
abbrev F_witanlaw05_heavy : Nat := 17
abbrev F_witankeep_TwinRows : Nat := 18
abbrev F_draw_Scalar : Nat := 19
abbrev F_witanref04_Scalar : Nat := 20
abbrev F_witankeep_Rows : Nat := 21
abbrev F_witanlaw05_wakes : Nat := 22
abbrev F_witanref01_Cmp : Nat := 23
abbrev F_field_Prime : Nat := 24
abbrev F_draw_Point : Nat := 25
abbrev F_witanref04_Point : Nat := 26
abbrev F_witankeep_Point : Nat := 27
abbrev F_curve_Check : Nat := 28
abbrev F_sha_Sum : Nat := 29
abbrev F_witanlaw05_joined : Nat := 30
abbrev F_curve_Read : Nat := 31
abbrev F_witankeep_Twin : Nat := 32
abbrev F_limb_Mod : Nat := 33
abbrev F_limb_Of : Nat := 34
abbrev F_draw_Stream : Nat := 35
abbrev F_witankeep_Bytes : Nat := 36
abbrev F_witanref04_Stream : Nat := 37
abbrev F_sha_Mac : Nat := 38
abbrev F_witanref01_Add : Nat := 57
abbrev F_field_Sub : Nat := 59
abbrev F_field_Mul : Nat := 60
abbrev F_draw_joined : Nat := 61
abbrev F_draw_with : Nat := 62
abbrev F_witanref04_Joined : Nat := 63
abbrev F_witanref04_Sum256 : Nat := 64
abbrev F_witanref04_join : Nat := 65
abbrev F_witanref01_Wide : Nat := 66
abbrev F_witanref01_Of : Nat := 67
abbrev F_witanref01_Sub : Nat := 68
abbrev F_field_less : Nat := 69
abbrev F_limb_Sub : Nat := 70
abbrev F_draw_number : Nat := 71
abbrev F_witanref04_be : Nat := 72
abbrev F_witanref01_ReadPoint : Nat := 73
abbrev F_limb_Cmp : Nat := 74
abbrev F_curve_mul : Nat := 75
abbrev F_curve_right : Nat := 76
abbrev F_sha_rounds : Nat := 77
abbrev F_sha_padded : Nat := 78
abbrev F_sha_high : Nat := 79
abbrev F_bits_RotateLeft32 : Nat := 80
abbrev F_field_Read : Nat := 81
abbrev F_field_Root : Nat := 82
abbrev F_curve_sub : Nat := 83
abbrev F_limb_Add : Nat := 84
abbrev F_limb_Bit : Nat := 85
abbrev F_witanref04_Mac : Nat := 86
abbrev F_witanref01_Prime : Nat := 92
abbrev F_witanref01_mul : Nat := 93
abbrev F_witanref01_add : Nat := 94
abbrev F_bits_Add64 : Nat := 109
abbrev F_field_Red : Nat := 111
abbrev F_field_Add : Nat := 112
abbrev F_limb_Mul : Nat := 113
abbrev F_field_fold : Nat := 114
abbrev F_witanref04_k256 : Nat := 115
abbrev F_witanref04_padded : Nat := 116
abbrev F_witanref04_rot32 : Nat := 117
abbrev F_witanref01_fold : Nat := 118
abbrev F_bits_Sub64 : Nat := 119
abbrev F_witanref01_Inf : Nat := 120
abbrev F_witanref01_Root : Nat := 121
abbrev F_witanref01_sub : Nat := 122
abbrev F_curve_add : Nat := 123
abbrev F_field_Pow : Nat := 124
abbrev F_limb_Len : Nat := 125
abbrev F_witanref01_small : Nat := 129
abbrev F_witanref01_FMul : Nat := 130
abbrev F_witanref01_FAdd : Nat := 131
abbrev F_witanref01_Bit : Nat := 135
abbrev F_witanref01_FSub : Nat := 138
abbrev F_bits_Mul64 : Nat := 139
abbrev F_witanref01_Mul : Nat := 140
abbrev F_witanref01_Red : Nat := 141
abbrev F_witanref01_Pow : Nat := 142
abbrev F_bits_Len64 : Nat := 143
abbrev F_witanref01_ok : Nat := 144
theorem mixed : Pg.follows .mixedOrders = true := by kernel_rfl

noncomputable def A_witanlaw05_DrawScalars : AFun := ⟨2, 59, [.t 4],
 (.seq (.ops [
 oO 4 (.mv (.c (.bool false)))])
 (.seq (.seq (.ops [
 oM 10 0,
 oM 11 1,
 oK 12 F_witanlaw05_heavy [.t 10, .t 11]])
 (.cond (.t 12)
 (.seq (.ops [
 oO 4 (.mv (.c (.bool true)))])
 .ret)
 .skip))
 (.seq (.ops [
 oM 13 1,
 oK 14 F_witankeep_TwinRows [.t 13],
 oM 5 14])
 (.seq (.ops [
 oM 16 0,
 oM 17 5,
 oK 18 F_draw_Scalar [.t 16, .t 17],
 oM 15 18,
 oO 19 (.ext (.t 15) 0),
 oO 20 (.ext (.t 15) 1),
 oO 6 (.alloc 1 4 [.int .u64 0]),
 ⟨none, .stA 1 4 4 (.t 6) (.t 19), none⟩,
 oM 7 20])
 (.seq (.ops [
 oM 22 0,
 oM 23 1,
 oK 24 F_witanref04_Scalar [.t 22, .t 23],
 oM 21 24,
 oO 25 (.ext (.t 21) 0),
 oO 26 (.ext (.t 21) 1),
 oO 8 (.alloc 1 4 [.int .u64 0]),
 ⟨none, .stA 1 4 4 (.t 8) (.t 25), none⟩,
 oM 9 26])
 (.seq (.seq (.ops [
 oM 27 5,
 oM 28 1,
 oK 29 F_witankeep_Rows [.t 27, .t 28],
 oO 30 (.un .not (.t 29))])
 (.cond (.t 30)
 (.seq (.ops [
 oO 4 (.mv (.c (.bool false)))])
 .ret)
 .skip))
 (.seq (.seq (.ops [
 oM 31 9,
 oO 32 (.un .not (.t 31))])
 (.cond (.t 32)
 (.seq (.ops [
 oM 33 7,
 oO 34 (.bin .eql (.t 33) (.c (.int .i64 4))),
 oM 35 34,
 oG 36 (.load 4 true (.t 6)) 35 true,
 oG 37 (.build [.int .u64 0, .int .u64 0, .int .u64 0, .int .u64 0] []) 35 true,
 oG 38 (.eqa [.i, .i, .i, .i] false (.t 36) (.t 37)) 35 true,
 oO 39 (.pick (.t 35) (.t 38) (.c (.bool false))),
 oM 40 39,
 oG 41 (.call (.c (.fn F_witanlaw05_wakes [])) []) 40 true,
 oO 42 (.pick (.t 40) (.t 41) (.c (.bool false))),
 oM 4 42])
 .ret)
 .skip))
 (.seq (.draw [
 oM 43 7,
 oO 44 (.bin .eql (.t 43) (.c (.int .i64 0))),
 oM 45 44,
 oG 46 (.load 4 true (.t 6)) 45 true,
 oG 47 (.load 4 true (.t 8)) 45 true,
 oG 48 (.eqa [.i, .i, .i, .i] false (.t 46) (.t 47)) 45 true,
 oO 49 (.pick (.t 45) (.t 48) (.c (.bool false))),
 oM 50 49,
 oG 51 (.load 4 true (.t 6)) 50 true,
 oG 52 (.call (.c (.fn F_field_Prime [])) [.c (.int .i64 1)]) 50 true,
 oG 53 (.call (.c (.fn F_witanref01_Cmp [])) [.t 51, .t 52]) 50 true,
 oG 54 (.bin .lss (.t 53) (.c (.int .i64 0))) 50 true,
 oO 55 (.pick (.t 50) (.t 54) (.c (.bool false))),
 oM 56 55,
 oG 57 (.call (.c (.fn F_witanlaw05_wakes [])) []) 56 true,
 oO 58 (.pick (.t 56) (.t 57) (.c (.bool false))),
 oM 4 58] ⟨.all, [], .look 0 (.look 1 (.look 2 (.look 3 (.look 4 (.look 5 (.look 6 (.look 7 (.look 8 (.run 9 true (.run 10 true (.look 11 (.look 12 (.look 13 (.run 14 true (.look 15 (.look 16 .done))))))))))))))))⟩)
 .ret))))))))⟩
theorem K_witanlaw05_DrawScalars : chkFun DK Pg Try.f3 A_witanlaw05_DrawScalars = true := by kernel_rfl
theorem B_witanlaw05_DrawScalars {args : List AV} {m : Mem} {K : AV → Mem → Prop} (h : vcFun DK Pg A_witanlaw05_DrawScalars args m K) : ACall Pg F_witanlaw05_DrawScalars args m K := call_body mixed Try.func3 (by kernel_rfl) K_witanlaw05_DrawScalars h

noncomputable def A_witanlaw05_DrawPoints : AFun := ⟨2, 65, [.t 4],
 (.seq (.ops [
 oO 4 (.mv (.c (.bool false)))])
 (.seq (.seq (.ops [
 oM 11 0,
 oM 12 1,
 oO 13 (.bsl 1 1 [.nils] [(0, 1, .t 12)]),
 oK 14 F_witanlaw05_heavy [.t 11, .t 13]])
 (.cond (.t 14)
 (.seq (.ops [
 oO 4 (.mv (.c (.bool true)))])
 .ret)
 .skip))
 (.seq (.ops [
 oM 16 0,
 oM 17 1,
 oK 18 F_draw_Point [.t 16, .t 17],
 oM 15 18,
 oO 19 (.ext (.t 15) 0),
 oO 20 (.ext (.t 15) 1),
 oO 21 (.ext (.t 15) 2),
 oO 5 (.alloc 9 1 [.bool false, .int .u64 0, .int .u64 0, .int .u64 0, .int .u64 0, .int .u64 0, .int .u64 0, .int .u64 0, .int .u64 0]),
 ⟨none, .stA 9 1 9 (.t 5) (.t 19), none⟩,
 oM 6 20,
 oM 7 21])
 (.seq (.ops [
 oM 23 0,
 oM 24 1,
 oK 25 F_witanref04_Point [.t 23, .t 24],
 oM 22 25,
 oO 26 (.ext (.t 22) 0),
 oO 27 (.ext (.t 22) 1),
 oO 28 (.ext (.t 22) 2),
 oO 8 (.alloc 9 1 [.bool false, .int .u64 0, .int .u64 0, .int .u64 0, .int .u64 0, .int .u64 0, .int .u64 0, .int .u64 0, .int .u64 0]),
 ⟨none, .stA 9 1 9 (.t 8) (.t 26), none⟩,
 oM 9 27,
 oM 10 28])
 (.seq (.seq (.ops [
 oM 29 7,
 oM 30 10,
 oO 31 (.bin .neq (.t 29) (.t 30)),
 oM 32 31,
 oG 33 (.mv (.t 6)) 32 false,
 oG 34 (.mv (.t 9)) 32 false,
 oG 35 (.bin .neq (.t 33) (.t 34)) 32 false,
 oO 36 (.pick (.t 32) (.c (.bool true)) (.t 35)),
 oM 37 36,
 oG 38 (.load 9 true (.t 5)) 37 false,
 oG 39 (.load 9 true (.t 8)) 37 false,
 oG 40 (.call (.c (.fn F_witankeep_Point [])) [.t 38, .t 39]) 37 false,
 oG 41 (.un .not (.t 40)) 37 false,
 oO 42 (.pick (.t 37) (.c (.bool true)) (.t 41))])
 (.cond (.t 42)
 (.seq (.ops [
 oO 4 (.mv (.c (.bool false)))])
 .ret)
 .skip))
 (.seq (.ops [
 oM 43 7,
 oO 44 (.bin .neq (.t 43) (.c (.int .i64 0))),
 oM 45 44,
 oG 46 (.load 9 true (.t 5)) 45 false,
 oG 47 (.call (.c (.fn F_curve_Check [])) [.t 46]) 45 false,
 oG 48 (.bin .eql (.t 47) (.c (.int .i64 0))) 45 false,
 oG 49 (.mv (.t 48)) 45 false,
 oG 50 (.fldA 0 (.t 5)) 49 true,
 oG 51 (.load 1 false (.t 50)) 49 true,
 oG 52 (.un .not (.t 51)) 49 true,
 oG 53 (.pick (.t 49) (.t 52) (.c (.bool false))) 45 false,
 oG 54 (.mv (.t 53)) 45 false,
 oG 55 (.fldA 5 (.t 5)) 54 true,
 oG 56 (.idxP 4 1 (.t 55) (.c (.int .i64 0))) 54 true,
 oG 57 (.load 1 false (.t 56)) 54 true,
 oG 58 (.bin .rem (.t 57) (.c (.int .u64 2))) 54 true,
 oG 59 (.bin .eql (.t 58) (.c (.int .u64 0))) 54 true,
 oG 60 (.pick (.t 54) (.t 59) (.c (.bool false))) 45 false,
 oG 61 (.mv (.t 60)) 45 false,
 oG 62 (.call (.c (.fn F_witanlaw05_wakes [])) []) 61 true,
 oG 63 (.pick (.t 61) (.t 62) (.c (.bool false))) 45 false,
 oO 64 (.pick (.t 45) (.c (.bool true)) (.t 63)),
 oM 4 64])
 .ret))))))⟩
theorem K_witanlaw05_DrawPoints : chkFun DK Pg Try.f4 A_witanlaw05_DrawPoints = true := by kernel_rfl
theorem B_witanlaw05_DrawPoints {args : List AV} {m : Mem} {K : AV → Mem → Prop} (h : vcFun DK Pg A_witanlaw05_DrawPoints args m K) : ACall Pg F_witanlaw05_DrawPoints args m K := call_body mixed Try.func4 (by kernel_rfl) K_witanlaw05_DrawPoints h

noncomputable def A_witanlaw05_DrawLong : AFun := ⟨2, 72, [.t 4],
 (.seq (.ops [
 oO 4 (.mv (.c (.bool false)))])
 (.seq (.seq (.ops [
 oM 11 0,
 oO 12 (.bin .lss (.t 11) (.c (.int .i64 (-1)))),
 oM 13 12,
 oG 14 (.mv (.t 0)) 13 false,
 oG 15 (.bin .gtr (.t 14) (.c (.int .i64 1))) 13 false,
 oO 16 (.pick (.t 13) (.c (.bool true)) (.t 15))])
 (.cond (.t 16)
 (.seq (.ops [
 oO 4 (.mv (.c (.bool true)))])
 .ret)
 .skip))
 (.seq (.ops [
 oM 17 0,
 oO 18 (.bin .add (.c (.int .i64 65528)) (.t 17)),
 oO 19 (.mksl 1 1 [.int .u8 0] (.t 18) (.t 18)),
 oM 5 19])
 (.seq (.ops [
 oM 21 5,
 oO 22 (.bsl 1 1 [.nils] [(0, 1, .t 21)]),
 ⟨some 23, .call (.c (.fn F_draw_Scalar [])) [.c (.str ⟨#[]⟩), .t 22], none⟩,
 oM 20 23,
 oO 24 (.ext (.t 20) 0),
 oO 25 (.ext (.t 20) 1),
 oO 6 (.alloc 1 4 [.int .u64 0]),
 ⟨none, .stA 1 4 4 (.t 6) (.t 24), none⟩,
 oM 7 25])
 (.seq (.ops [
 oM 27 5,
 ⟨some 28, .call (.c (.fn F_draw_Point [])) [.c (.str ⟨#[]⟩), .t 27], none⟩,
 oM 26 28,
 oO 29 (.ext (.t 26) 0),
 oO 30 (.ext (.t 26) 1),
 oO 31 (.ext (.t 26) 2),
 oO 8 (.alloc 9 1 [.bool false, .int .u64 0, .int .u64 0, .int .u64 0, .int .u64 0, .int .u64 0, .int .u64 0, .int .u64 0, .int .u64 0]),
 ⟨none, .stA 9 1 9 (.t 8) (.t 29), none⟩,
 oM 9 30,
 oM 10 31])
 (.seq (.seq (.ops [
 oM 32 1])
 (.cond (.t 32)
 (.seq (.ops [
 oM 34 5,
 oO 35 (.bstr (.t 34)),
 ⟨some 36, .bin .add (.t 35) (.c (.str ⟨#[48, 48, 48, 48]⟩)), none⟩,
 oK 37 F_draw_Scalar [.t 36, .c (.nils)],
 oM 33 37,
 oO 38 (.ext (.t 33) 0),
 oO 39 (.ext (.t 33) 1),
 ⟨none, .stA 1 4 4 (.t 6) (.t 38), none⟩,
 oM 7 39])
 (.ops [
 oM 41 5,
 oO 42 (.bstr (.t 41)),
 oK 43 F_draw_Point [.t 42, .c (.nils)],
 oM 40 43,
 oO 44 (.ext (.t 40) 0),
 oO 45 (.ext (.t 40) 1),
 oO 46 (.ext (.t 40) 2),
 oM 10 46]))
 .skip))
 (.seq (.seq (.ops [
 oM 47 0,
 oO 48 (.bin .gtr (.t 47) (.c (.int .i64 0)))])
 (.cond (.t 48)
 (.seq (.ops [
 oM 49 7,
 oO 50 (.bin .eql (.t 49) (.c (.int .i64 4))),
 oM 51 50,
 oG 52 (.mv (.t 10)) 51 true,
 oG 53 (.bin .eql (.t 52) (.c (.int .i64 4))) 51 true,
 oO 54 (.pick (.t 51) (.t 53) (.c (.bool false))),
 oM 55 54,
 oG 56 (.load 4 true (.t 6)) 55 true,
 oG 57 (.build [.int .u64 0, .int .u64 0, .int .u64 0, .int .u64 0] []) 55 true,
 oG 58 (.eqa [.i, .i, .i, .i] false (.t 56) (.t 57)) 55 true,
 oO 59 (.pick (.t 55) (.t 58) (.c (.bool false))),
 oM 60 59,
 oG 61 (.call (.c (.fn F_witanlaw05_wakes [])) []) 60 true,
 oO 62 (.pick (.t 60) (.t 61) (.c (.bool false))),
 oM 4 62])
 .ret)
 .skip))
 (.seq (.ops [
 oM 63 7,
 oO 64 (.bin .eql (.t 63) (.c (.int .i64 0))),
 oM 65 64,
 oG 66 (.mv (.t 10)) 65 true,
 oG 67 (.bin .eql (.t 66) (.c (.int .i64 0))) 65 true,
 oO 68 (.pick (.t 65) (.t 67) (.c (.bool false))),
 oM 69 68,
 oG 70 (.call (.c (.fn F_witanlaw05_wakes [])) []) 69 true,
 oO 71 (.pick (.t 69) (.t 70) (.c (.bool false))),
 oM 4 71])
 .ret))))))))⟩
theorem K_witanlaw05_DrawLong : chkFun DK Pg Try.f5 A_witanlaw05_DrawLong = true := by kernel_rfl
theorem B_witanlaw05_DrawLong {args : List AV} {m : Mem} {K : AV → Mem → Prop} (h : vcFun DK Pg A_witanlaw05_DrawLong args m K) : ACall Pg F_witanlaw05_DrawLong args m K := call_body mixed Try.func5 (by kernel_rfl) K_witanlaw05_DrawLong h

noncomputable def A_witanlaw05_DrawTries : AFun := ⟨2, 82, [.t 4],
 (.seq (.ops [
 oO 4 (.mv (.c (.bool false)))])
 (.seq (.seq (.ops [
 oM 12 0,
 oM 13 1,
 oO 14 (.bsl 1 1 [.nils] [(0, 1, .t 13)]),
 oK 15 F_witanlaw05_heavy [.t 12, .t 14]])
 (.cond (.t 15)
 (.seq (.ops [
 oO 4 (.mv (.c (.bool true)))])
 .ret)
 .skip))
 (.seq (.ops [
 oM 17 0,
 oM 18 1,
 oK 19 F_draw_Point [.t 17, .t 18],
 oM 16 19,
 oO 20 (.ext (.t 16) 0),
 oO 21 (.ext (.t 16) 1),
 oO 22 (.ext (.t 16) 2),
 oO 5 (.alloc 9 1 [.bool false, .int .u64 0, .int .u64 0, .int .u64 0, .int .u64 0, .int .u64 0, .int .u64 0, .int .u64 0, .int .u64 0]),
 ⟨none, .stA 9 1 9 (.t 5) (.t 20), none⟩,
 oM 6 21,
 oM 7 22])
 (.seq (.seq (.ops [
 oM 23 7,
 oO 24 (.bin .neq (.t 23) (.c (.int .i64 0)))])
 (.cond (.t 24)
 (.seq (.ops [
 oM 25 7,
 oO 26 (.bin .eql (.t 25) (.c (.int .i64 5))),
 oM 27 26,
 oG 28 (.call (.c (.fn F_witanlaw05_wakes [])) []) 27 true,
 oO 29 (.pick (.t 27) (.t 28) (.c (.bool false))),
 oM 4 29])
 .ret)
 .skip))
 (.seq (.seq (.ops [
 oO 8 (.mv (.c (.int .i64 0)))])
 (.block 0
 (.loop
 (.seq (.seq (.ops [
 oM 30 8,
 oM 31 6,
 oO 32 (.bin .lss (.t 30) (.t 31))])
 (.cond (.t 32)
 .skip
 (.exit 0)))
 (.seq (.block 1
 (.seq (.ops [
 oM 35 0,
 oM 36 1,
 oO 37 (.bsl 1 1 [.nils] [(0, 1, .t 36)]),
 oK 38 F_witanlaw05_joined [.t 35, .t 37],
 oM 39 8,
 oO 40 (.bin .shr (.t 39) (.c (.int .u64 8))),
 oO 41 (.conv .u8 (.t 40)),
 oM 42 8,
 oO 43 (.conv .u8 (.t 42)),
 oO 44 (.bsl 1 4 [.int .u8 0] [(0, 1, .c (.int .u8 0)), (1, 1, .c (.int .u8 0)), (2, 1, .t 41), (3, 1, .t 43)]),
 oO 45 (.app 1 1 (.t 38) (.t 44)),
 oK 46 F_sha_Sum [.t 45],
 oO 9 (.alloc 1 32 [.int .u8 0]),
 oS 32 9 46])
 (.seq (.ops [
 oO 48 (.bsl 1 1 [.int .u8 0] [(0, 1, .c (.int .u8 2))]),
 oO 49 (.slarr 32 1 (.t 9) none none none),
 oO 50 (.app 1 1 (.t 48) (.t 49)),
 oK 51 F_curve_Read [.t 50],
 oM 47 51,
 oO 52 (.ext (.t 47) 0),
 oO 53 (.ext (.t 47) 1),
 oO 10 (.alloc 9 1 [.bool false, .int .u64 0, .int .u64 0, .int .u64 0, .int .u64 0, .int .u64 0, .int .u64 0, .int .u64 0, .int .u64 0]),
 ⟨none, .stA 9 1 9 (.t 10) (.t 52), none⟩,
 oM 11 53])
 (.seq (.ops [
 oM 54 11,
 oO 55 (.bin .eql (.t 54) (.c (.int .i64 0))),
 oM 56 8,
 oM 57 6,
 oO 58 (.bin .sub (.t 57) (.c (.int .i64 1))),
 oO 59 (.bin .eql (.t 56) (.t 58)),
 oO 60 (.eqb true (.t 55) (.t 59)),
 oM 61 60,
 oG 62 (.mv (.t 8)) 61 false,
 oG 63 (.mv (.t 6)) 61 false,
 oG 64 (.bin .sub (.t 63) (.c (.int .i64 1))) 61 false,
 oG 65 (.bin .eql (.t 62) (.t 64)) 61 false,
 oG 66 (.mv (.t 65)) 61 false,
 oG 67 (.load 9 true (.t 5)) 66 true,
 oG 68 (.load 9 true (.t 10)) 66 true,
 oG 69 (.call (.c (.fn F_witankeep_Point [])) [.t 67, .t 68]) 66 true,
 oG 70 (.un .not (.t 69)) 66 true,
 oG 71 (.pick (.t 66) (.t 70) (.c (.bool false))) 61 false,
 oO 72 (.pick (.t 61) (.c (.bool true)) (.t 71))])
 (.cond (.t 72)
 (.seq (.ops [
 oO 4 (.mv (.c (.bool false)))])
 .ret)
 .skip)))))
 (.ops [
 oM 33 8,
 oO 34 (.bin .add (.t 33) (.c (.int .i64 1))),
 oM 8 34]))))))
 (.seq (.ops [
 oM 73 6,
 oO 74 (.bin .geq (.t 73) (.c (.int .i64 1))),
 oM 75 74,
 oG 76 (.mv (.t 6)) 75 true,
 oG 77 (.bin .leq (.t 76) (.c (.int .i64 256))) 75 true,
 oO 78 (.pick (.t 75) (.t 77) (.c (.bool false))),
 oM 79 78,
 oG 80 (.call (.c (.fn F_witanlaw05_wakes [])) []) 79 true,
 oO 81 (.pick (.t 79) (.t 80) (.c (.bool false))),
 oM 4 81])
 .ret))))))⟩
theorem K_witanlaw05_DrawTries : chkFun DK Pg Try.f6 A_witanlaw05_DrawTries = true := by kernel_rfl
theorem B_witanlaw05_DrawTries {args : List AV} {m : Mem} {K : AV → Mem → Prop} (h : vcFun DK Pg A_witanlaw05_DrawTries args m K) : ACall Pg F_witanlaw05_DrawTries args m K := call_body mixed Try.func6 (by kernel_rfl) K_witanlaw05_DrawTries h

noncomputable def A_witanlaw05_DrawParts : AFun := ⟨3, 65, [.t 6],
 (.seq (.ops [
 oO 6 (.mv (.c (.bool false)))])
 (.seq (.seq (.ops [
 oM 14 0,
 oM 15 1,
 oM 16 2,
 oO 17 (.bsl 1 2 [.nils] [(0, 1, .t 15), (1, 1, .t 16)]),
 oK 18 F_witanlaw05_heavy [.t 14, .t 17]])
 (.cond (.t 18)
 (.seq (.ops [
 oO 6 (.mv (.c (.bool true)))])
 .ret)
 .skip))
 (.seq (.ops [
 oM 19 0,
 oM 20 1,
 oM 21 2,
 oO 22 (.bsl 1 2 [.nils] [(0, 1, .t 20), (1, 1, .t 21)]),
 oK 23 F_witanlaw05_joined [.t 19, .t 22],
 oM 7 23])
 (.seq (.ops [
 oM 24 7,
 oK 25 F_witankeep_Twin [.t 24],
 oO 26 (.bsl 1 1 [.int .u8 0] [(0, 1, .c (.int .u8 0))]),
 oO 27 (.app 1 1 (.t 25) (.t 26)),
 oK 28 F_sha_Sum [.t 27],
 oM 29 7,
 oK 30 F_witankeep_Twin [.t 29],
 oO 31 (.bsl 1 1 [.int .u8 0] [(0, 1, .c (.int .u8 1))]),
 oO 32 (.app 1 1 (.t 30) (.t 31)),
 oK 33 F_sha_Sum [.t 32],
 oO 8 (.alloc 1 32 [.int .u8 0]),
 oO 9 (.alloc 1 32 [.int .u8 0]),
 oS 32 8 28,
 oS 32 9 33])
 (.seq (.draw [
 oO 35 (.load 32 true (.t 8)),
 oK 36 F_limb_Of [.t 35],
 oO 37 (.load 32 true (.t 9)),
 oK 38 F_limb_Of [.t 37],
 oK 39 F_field_Prime [.c (.int .i64 1)],
 oK 40 F_limb_Mod [.t 36, .t 38, .t 39],
 oM 34 40,
 oO 41 (.ext (.t 34) 0),
 oO 42 (.ext (.t 34) 1),
 oO 10 (.alloc 1 4 [.int .u64 0]),
 oS 4 10 41,
 oM 11 42] ⟨.all, [(9, some 10)], .look 0 (.look 2 (.run 1 true (.run 3 true (.run 4 true (.run 5 true (.look 6 (.look 7 (.pre 9 10 (.look 8 (.fill (.look 11 .done)))))))))))⟩)
 (.seq (.ops [
 oM 44 0,
 oM 45 1,
 oM 46 2,
 oO 47 (.bsl 1 2 [.nils] [(0, 1, .t 45), (1, 1, .t 46)]),
 oK 48 F_draw_Scalar [.t 44, .t 47],
 oM 43 48,
 oO 49 (.ext (.t 43) 0),
 oO 50 (.ext (.t 43) 1),
 oO 12 (.alloc 1 4 [.int .u64 0]),
 ⟨none, .stA 1 4 4 (.t 12) (.t 49), none⟩,
 oM 13 50])
 (.seq (.ops [
 oM 51 11,
 oO 52 (.bin .eql (.t 51) (.c (.int .i64 0))),
 oM 53 52,
 oG 54 (.mv (.t 13)) 53 true,
 oG 55 (.bin .eql (.t 54) (.c (.int .i64 0))) 53 true,
 oO 56 (.pick (.t 53) (.t 55) (.c (.bool false))),
 oM 57 56,
 oG 58 (.load 4 true (.t 12)) 57 true,
 oG 59 (.load 4 true (.t 10)) 57 true,
 oG 60 (.eqa [.i, .i, .i, .i] false (.t 58) (.t 59)) 57 true,
 oO 61 (.pick (.t 57) (.t 60) (.c (.bool false))),
 oM 62 61,
 oG 63 (.call (.c (.fn F_witanlaw05_wakes [])) []) 62 true,
 oO 64 (.pick (.t 62) (.t 63) (.c (.bool false))),
 oM 6 64])
 .ret)))))))⟩
theorem K_witanlaw05_DrawParts : chkFun DK Pg Try.f7 A_witanlaw05_DrawParts = true := by kernel_rfl
theorem B_witanlaw05_DrawParts {args : List AV} {m : Mem} {K : AV → Mem → Prop} (h : vcFun DK Pg A_witanlaw05_DrawParts args m K) : ACall Pg F_witanlaw05_DrawParts args m K := call_body mixed Try.func7 (by kernel_rfl) K_witanlaw05_DrawParts h

noncomputable def A_witanlaw05_DrawStreams : AFun := ⟨3, 87, [.t 6],
 (.seq (.ops [
 oO 6 (.mv (.c (.bool false)))])
 (.seq (.seq (.ops [
 oM 11 0,
 oO 12 (.len (.t 11)),
 oO 13 (.bin .gtr (.t 12) (.c (.int .i64 2000))),
 oM 14 13,
 oG 15 (.mv (.t 2)) 14 false,
 oG 16 (.bin .lss (.t 15) (.c (.int .i64 0))) 14 false,
 oO 17 (.pick (.t 14) (.c (.bool true)) (.t 16)),
 oM 18 17,
 oG 19 (.mv (.t 2)) 18 false,
 oG 20 (.bin .gtr (.t 19) (.c (.int .i64 500))) 18 false,
 oO 21 (.pick (.t 18) (.c (.bool true)) (.t 20))])
 (.cond (.t 21)
 (.seq (.ops [
 oO 6 (.mv (.c (.bool true)))])
 .ret)
 .skip))
 (.seq (.ops [
 oM 23 0,
 oM 24 1,
 oK 25 F_draw_Stream [.t 23, .t 24],
 oM 22 25,
 oO 26 (.ext (.t 22) 0),
 oO 27 (.ext (.t 22) 1),
 oM 7 26,
 oM 8 27])
 (.seq (.seq (.ops [
 oM 28 1,
 oO 29 (.bin .lss (.t 28) (.c (.int .i64 0))),
 oM 30 29,
 oG 31 (.mv (.t 1)) 30 false,
 oG 32 (.bin .gtr (.t 31) (.c (.int .i64 65536))) 30 false,
 oO 33 (.pick (.t 30) (.c (.bool true)) (.t 32))])
 (.cond (.t 33)
 (.seq (.ops [
 oM 34 8,
 oO 35 (.bin .eql (.t 34) (.c (.int .i64 4))),
 oM 36 35,
 oG 37 (.mv (.t 7)) 36 true,
 oG 38 (.len (.t 37)) 36 true,
 oG 39 (.bin .eql (.t 38) (.c (.int .i64 0))) 36 true,
 oO 40 (.pick (.t 36) (.t 39) (.c (.bool false))),
 oM 41 40,
 oG 42 (.call (.c (.fn F_witanlaw05_wakes [])) []) 41 true,
 oO 43 (.pick (.t 41) (.t 42) (.c (.bool false))),
 oM 6 43])
 .ret)
 .skip))
 (.seq (.seq (.ops [
 oM 44 8,
 oO 45 (.bin .neq (.t 44) (.c (.int .i64 0))),
 oM 46 45,
 oG 47 (.mv (.t 7)) 46 false,
 oG 48 (.len (.t 47)) 46 false,
 oG 49 (.mv (.t 1)) 46 false,
 oG 50 (.bin .neq (.t 48) (.t 49)) 46 false,
 oO 51 (.pick (.t 46) (.c (.bool true)) (.t 50)),
 oM 52 51,
 oG 53 (.mv (.t 1)) 52 false,
 oG 54 (.bin .leq (.t 53) (.c (.int .i64 600))) 52 false,
 oG 55 (.mv (.t 54)) 52 false,
 oG 56 (.mv (.t 7)) 55 true,
 oG 57 (.mv (.t 0)) 55 true,
 oG 58 (.mv (.t 1)) 55 true,
 oG 59 (.call (.c (.fn F_witanref04_Stream [])) [.t 57, .t 58]) 55 true,
 oG 60 (.call (.c (.fn F_witankeep_Bytes [])) [.t 56, .t 59]) 55 true,
 oG 61 (.un .not (.t 60)) 55 true,
 oG 62 (.pick (.t 55) (.t 61) (.c (.bool false))) 52 false,
 oO 63 (.pick (.t 52) (.c (.bool true)) (.t 62))])
 (.cond (.t 63)
 (.seq (.ops [
 oO 6 (.mv (.c (.bool false)))])
 .ret)
 .skip))
 (.seq (.ops [
 oM 65 0,
 oM 66 2,
 oK 67 F_draw_Stream [.t 65, .t 66],
 oM 64 67,
 oO 68 (.ext (.t 64) 0),
 oO 69 (.ext (.t 64) 1),
 oM 9 68,
 oM 8 69])
 (.seq (.ops [
 oM 70 1,
 oM 71 2,
 oO 72 (.mn (.t 70) (.t 71)),
 oM 10 72])
 (.seq (.draw [
 oM 73 8,
 oO 74 (.bin .eql (.t 73) (.c (.int .i64 0))),
 oM 75 74,
 oG 76 (.mv (.t 7)) 75 true,
 oG 77 (.mv (.t 10)) 75 true,
 oG 78 (.slice 1 (.t 76) none (some (.t 77)) none) 75 true,
 oG 79 (.mv (.t 9)) 75 true,
 oG 80 (.mv (.t 10)) 75 true,
 oG 81 (.slice 1 (.t 79) none (some (.t 80)) none) 75 true,
 oG 82 (.call (.c (.fn F_witankeep_Bytes [])) [.t 78, .t 81]) 75 true,
 oO 83 (.pick (.t 75) (.t 82) (.c (.bool false))),
 oM 84 83,
 oG 85 (.call (.c (.fn F_witanlaw05_wakes [])) []) 84 true,
 oO 86 (.pick (.t 84) (.t 85) (.c (.bool false))),
 oM 6 86] ⟨.all, [], .look 0 (.look 1 (.look 2 (.look 3 (.look 4 (.look 5 (.look 6 (.look 7 (.look 8 (.run 9 true (.look 10 (.look 11 (.run 12 true (.look 13 (.look 14 .done))))))))))))))⟩)
 .ret))))))))⟩
theorem K_witanlaw05_DrawStreams : chkFun DK Pg Try.f8 A_witanlaw05_DrawStreams = true := by kernel_rfl
theorem B_witanlaw05_DrawStreams {args : List AV} {m : Mem} {K : AV → Mem → Prop} (h : vcFun DK Pg A_witanlaw05_DrawStreams args m K) : ACall Pg F_witanlaw05_DrawStreams args m K := call_body mixed Try.func8 (by kernel_rfl) K_witanlaw05_DrawStreams h

noncomputable def A_witanlaw05_DrawBlocks : AFun := ⟨2, 61, [.t 4],
 (.seq (.ops [
 oO 4 (.mv (.c (.bool false)))])
 (.seq (.seq (.ops [
 oM 10 0,
 oO 11 (.len (.t 10)),
 oO 12 (.bin .gtr (.t 11) (.c (.int .i64 2000)))])
 (.cond (.t 12)
 (.seq (.ops [
 oO 4 (.mv (.c (.bool true)))])
 .ret)
 .skip))
 (.seq (.ops [
 oM 13 1,
 oO 14 (.conv .u64 (.t 13)),
 oO 15 (.bin .rem (.t 14) (.c (.int .u64 300))),
 oO 16 (.conv .i64 (.t 15)),
 oM 1 16])
 (.seq (.ops [
 oM 18 0,
 oM 19 1,
 oK 20 F_draw_Stream [.t 18, .t 19],
 oM 17 20,
 oO 21 (.ext (.t 17) 0),
 oO 22 (.ext (.t 17) 1),
 oM 5 21,
 oM 6 22])
 (.seq (.seq (.ops [
 oM 23 6,
 oO 24 (.bin .neq (.t 23) (.c (.int .i64 0))),
 oM 25 24,
 oG 26 (.mv (.t 5)) 25 false,
 oG 27 (.len (.t 26)) 25 false,
 oG 28 (.mv (.t 1)) 25 false,
 oG 29 (.bin .neq (.t 27) (.t 28)) 25 false,
 oO 30 (.pick (.t 25) (.c (.bool true)) (.t 29))])
 (.cond (.t 30)
 (.seq (.ops [
 oO 4 (.mv (.c (.bool false)))])
 .ret)
 .skip))
 (.seq (.seq (.ops [
 oO 7 (.mv (.c (.int .i64 0)))])
 (.block 0
 (.loop
 (.seq (.seq (.ops [
 oM 31 7,
 oM 32 1,
 oO 33 (.bin .lss (.t 31) (.t 32))])
 (.cond (.t 33)
 .skip
 (.exit 0)))
 (.seq (.block 1
 (.seq (.ops [
 oM 36 7,
 oO 37 (.bin .quo (.t 36) (.c (.int .i64 32))),
 oM 8 37])
 (.seq (.ops [
 oM 38 0,
 oM 39 8,
 oO 40 (.bin .shr (.t 39) (.c (.int .u64 8))),
 oO 41 (.conv .u8 (.t 40)),
 oM 42 8,
 oO 43 (.conv .u8 (.t 42)),
 oO 44 (.bsl 1 8 [.int .u8 0] [(0, 1, .c (.int .u8 0)), (1, 1, .c (.int .u8 0)), (2, 1, .c (.int .u8 0)), (3, 1, .c (.int .u8 0)), (4, 1, .c (.int .u8 0)), (5, 1, .c (.int .u8 0)), (6, 1, .t 41), (7, 1, .t 43)]),
 oK 45 F_sha_Mac [.t 38, .t 44],
 oO 9 (.alloc 1 32 [.int .u8 0]),
 oS 32 9 45])
 (.seq (.draw [
 oM 46 5,
 oM 47 7,
 oM 48 7,
 oO 49 (.bin .add (.t 48) (.c (.int .i64 32))),
 oM 50 1,
 oO 51 (.mn (.t 49) (.t 50)),
 oO 52 (.slice 1 (.t 46) (some (.t 47)) (some (.t 51)) none),
 oM 53 1,
 oM 54 7,
 oO 55 (.bin .sub (.t 53) (.t 54)),
 oO 56 (.mn (.c (.int .i64 32)) (.t 55)),
 oO 57 (.slarr 32 1 (.t 9) none (some (.t 56)) none),
 oK 58 F_witankeep_Bytes [.t 52, .t 57],
 oO 59 (.un .not (.t 58))] ⟨.all, [], .look 0 (.look 1 (.look 2 (.look 3 (.look 4 (.look 5 (.look 6 (.look 7 (.look 8 (.look 9 (.look 10 (.look 11 (.run 12 true (.look 13 .done)))))))))))))⟩)
 (.cond (.t 59)
 (.seq (.ops [
 oO 4 (.mv (.c (.bool false)))])
 .ret)
 .skip)))))
 (.ops [
 oM 34 7,
 oO 35 (.bin .add (.t 34) (.c (.int .i64 32))),
 oM 7 35]))))))
 (.seq (.ops [
 oK 60 F_witanlaw05_wakes [],
 oM 4 60])
 .ret)))))))⟩
theorem K_witanlaw05_DrawBlocks : chkFun DK Pg Try.f9 A_witanlaw05_DrawBlocks = true := by kernel_rfl
theorem B_witanlaw05_DrawBlocks {args : List AV} {m : Mem} {K : AV → Mem → Prop} (h : vcFun DK Pg A_witanlaw05_DrawBlocks args m K) : ACall Pg F_witanlaw05_DrawBlocks args m K := call_body mixed Try.func9 (by kernel_rfl) K_witanlaw05_DrawBlocks h

noncomputable def A_witanlaw05_heavy : AFun := ⟨2, 26, [.t 4],
 (.seq (.ops [
 oO 4 (.mv (.c (.bool false)))])
 (.seq (.seq (.ops [
 oM 6 0,
 oO 7 (.lens (.t 6)),
 oO 8 (.bin .gtr (.t 7) (.c (.int .i64 2000))),
 oM 9 8,
 oG 10 (.mv (.t 1)) 9 false,
 oG 11 (.len (.t 10)) 9 false,
 oG 12 (.bin .gtr (.t 11) (.c (.int .i64 50))) 9 false,
 oO 13 (.pick (.t 9) (.c (.bool true)) (.t 12))])
 (.cond (.t 13)
 (.seq (.ops [
 oO 4 (.mv (.c (.bool true)))])
 .ret)
 .skip))
 (.seq (.seq (.ops [
 oO 5 (.mv (.c (.int .i64 0)))])
 (.block 0
 (.loop
 (.seq (.seq (.ops [
 oM 14 5,
 oM 15 1,
 oO 16 (.len (.t 15)),
 oO 17 (.bin .lss (.t 14) (.t 16))])
 (.cond (.t 17)
 .skip
 (.exit 0)))
 (.seq (.block 1
 (.seq (.ops [
 oM 20 1,
 oM 21 5,
 oO 22 (.idxA 1 (.t 20) (.t 21)),
 oO 23 (.load 1 false (.t 22)),
 oO 24 (.len (.t 23)),
 oO 25 (.bin .gtr (.t 24) (.c (.int .i64 2000)))])
 (.cond (.t 25)
 (.seq (.ops [
 oO 4 (.mv (.c (.bool true)))])
 .ret)
 .skip)))
 (.ops [
 oM 18 5,
 oO 19 (.bin .add (.t 18) (.c (.int .i64 1))),
 oM 5 19]))))))
 (.seq (.ops [
 oO 4 (.mv (.c (.bool false)))])
 .ret))))⟩
theorem K_witanlaw05_heavy : chkFun DK Pg Try.f17 A_witanlaw05_heavy = true := by kernel_rfl
theorem B_witanlaw05_heavy {args : List AV} {m : Mem} {K : AV → Mem → Prop} (h : vcFun DK Pg A_witanlaw05_heavy args m K) : ACall Pg F_witanlaw05_heavy args m K := call_body mixed Try.func17 (by kernel_rfl) K_witanlaw05_heavy h

noncomputable def A_witankeep_TwinRows : AFun := ⟨1, 20, [.t 2],
 (.seq (.ops [
 oO 2 (.mv (.c (.nils)))])
 (.seq (.ops [
 oO 3 (.mv (.c (.nils)))])
 (.seq (.seq (.ops [
 oO 4 (.mv (.c (.int .i64 0)))])
 (.block 0
 (.loop
 (.seq (.seq (.ops [
 oM 5 4,
 oM 6 0,
 oO 7 (.len (.t 6)),
 oO 8 (.bin .lss (.t 5) (.t 7))])
 (.cond (.t 8)
 .skip
 (.exit 0)))
 (.seq (.block 1
 (.ops [
 oM 11 3,
 oM 12 0,
 oM 13 4,
 oO 14 (.idxA 1 (.t 12) (.t 13)),
 oO 15 (.load 1 false (.t 14)),
 oK 16 F_witankeep_Twin [.t 15],
 oO 17 (.bsl 1 1 [.nils] [(0, 1, .t 16)]),
 oO 18 (.app 1 24 (.t 11) (.t 17)),
 oM 3 18]))
 (.ops [
 oM 9 4,
 oO 10 (.bin .add (.t 9) (.c (.int .i64 1))),
 oM 4 10]))))))
 (.seq (.ops [
 oM 19 3,
 oM 2 19])
 .ret))))⟩
theorem K_witankeep_TwinRows : chkFun DK Pg Try.f18 A_witankeep_TwinRows = true := by kernel_rfl
theorem B_witankeep_TwinRows {args : List AV} {m : Mem} {K : AV → Mem → Prop} (h : vcFun DK Pg A_witankeep_TwinRows args m K) : ACall Pg F_witankeep_TwinRows args m K := call_body mixed Try.func18 (by kernel_rfl) K_witankeep_TwinRows h

noncomputable def A_draw_Scalar : AFun := ⟨2, 35, [.cell 4 4 true, .t 5],
 (.seq (.ops [
 oO 4 (.alloc 1 4 [.int .u64 0]),
 oO 5 (.mv (.c (.int .i64 0)))])
 (.seq (.ops [
 oM 11 0,
 oM 12 1,
 oK 13 F_draw_joined [.t 11, .t 12],
 oM 10 13,
 oO 14 (.ext (.t 10) 0),
 oO 15 (.ext (.t 10) 1),
 oM 6 14,
 oM 7 15])
 (.seq (.seq (.ops [
 oM 16 7,
 oO 17 (.un .not (.t 16))])
 (.cond (.t 17)
 (.seq (.ops [
 oO 18 (.build [.int .u64 0, .int .u64 0, .int .u64 0, .int .u64 0] []),
 ⟨none, .stA 1 4 4 (.t 4) (.t 18), none⟩,
 oO 5 (.mv (.c (.int .i64 4)))])
 .ret)
 .skip))
 (.seq (.ops [
 oM 19 6,
 oO 20 (.bsl 1 1 [.int .u8 0] [(0, 1, .c (.int .u8 0))]),
 oK 21 F_draw_with [.t 19, .t 20],
 oK 22 F_sha_Sum [.t 21],
 oK 23 F_limb_Of [.t 22],
 oM 24 6,
 oO 25 (.bsl 1 1 [.int .u8 0] [(0, 1, .c (.int .u8 1))]),
 oK 26 F_draw_with [.t 24, .t 25],
 oK 27 F_sha_Sum [.t 26],
 oK 28 F_limb_Of [.t 27],
 oO 8 (.alloc 1 4 [.int .u64 0]),
 oO 9 (.alloc 1 4 [.int .u64 0]),
 ⟨none, .stA 1 4 4 (.t 8) (.t 23), none⟩,
 ⟨none, .stA 1 4 4 (.t 9) (.t 28), none⟩])
 (.seq (.draw [
 oO 29 (.load 4 true (.t 8)),
 oO 30 (.load 4 true (.t 9)),
 oK 31 F_field_Prime [.c (.int .i64 1)],
 oK 32 F_limb_Mod [.t 29, .t 30, .t 31],
 oO 33 (.ext (.t 32) 0),
 oO 34 (.ext (.t 32) 1),
 ⟨none, .stA 1 4 4 (.t 4) (.t 33), none⟩,
 oM 5 34] ⟨.all, [], .look 0 (.look 1 (.run 2 true (.run 3 false (.look 4 (.look 5 (.run 6 false (.look 7 .done)))))))⟩)
 .ret)))))⟩
theorem K_draw_Scalar : chkFun DK Pg Try.f19 A_draw_Scalar = true := by kernel_rfl
theorem B_draw_Scalar {args : List AV} {m : Mem} {K : AV → Mem → Prop} (h : vcFun DK Pg A_draw_Scalar args m K) : ACall Pg F_draw_Scalar args m K := call_body mixed Try.func19 (by kernel_rfl) K_draw_Scalar h

noncomputable def A_witanref04_Scalar : AFun := ⟨2, 34, [.cell 4 4 true, .t 5],
 (.seq (.ops [
 oO 4 (.alloc 1 4 [.int .u64 0]),
 oO 5 (.mv (.c (.bool false)))])
 (.seq (.ops [
 oM 11 0,
 oM 12 1,
 oK 13 F_witanref04_Joined [.t 11, .t 12],
 oM 10 13,
 oO 14 (.ext (.t 10) 0),
 oO 15 (.ext (.t 10) 1),
 oM 6 14,
 oM 7 15])
 (.seq (.seq (.ops [
 oM 16 7,
 oO 17 (.un .not (.t 16))])
 (.cond (.t 17)
 (.seq (.ops [
 oO 18 (.build [.int .u64 0, .int .u64 0, .int .u64 0, .int .u64 0] []),
 oS 4 4 18,
 oO 5 (.mv (.c (.bool false)))])
 .ret)
 .skip))
 (.seq (.ops [
 oM 19 6,
 oO 20 (.bsl 1 1 [.int .u8 0] [(0, 1, .c (.int .u8 0))]),
 oO 21 (.bsl 1 2 [.nils] [(0, 1, .t 19), (1, 1, .t 20)]),
 oK 22 F_witanref04_join [.t 21],
 oK 23 F_witanref04_Sum256 [.t 22],
 oO 8 (.alloc 1 32 [.int .u8 0]),
 oS 32 8 23])
 (.seq (.ops [
 oM 24 6,
 oO 25 (.bsl 1 1 [.int .u8 0] [(0, 1, .c (.int .u8 1))]),
 oO 26 (.bsl 1 2 [.nils] [(0, 1, .t 24), (1, 1, .t 25)]),
 oK 27 F_witanref04_join [.t 26],
 oK 28 F_witanref04_Sum256 [.t 27],
 oO 9 (.alloc 1 32 [.int .u8 0]),
 oS 32 9 28])
 (.seq (.draw [
 oO 29 (.load 32 true (.t 8)),
 oK 30 F_witanref01_Of [.t 29],
 oO 31 (.load 32 true (.t 9)),
 oK 32 F_witanref01_Of [.t 31],
 oK 33 F_witanref01_Wide [.c (.int .i64 1), .t 30, .t 32],
 oS 4 4 33,
 oO 5 (.mv (.c (.bool true)))] ⟨.all, [], .look 0 (.look 2 (.run 1 true (.run 3 false (.run 4 false (.run 5 false (.look 6 .done))))))⟩)
 .ret))))))⟩
theorem K_witanref04_Scalar : chkFun DK Pg Try.f20 A_witanref04_Scalar = true := by kernel_rfl
theorem B_witanref04_Scalar {args : List AV} {m : Mem} {K : AV → Mem → Prop} (h : vcFun DK Pg A_witanref04_Scalar args m K) : ACall Pg F_witanref04_Scalar args m K := call_body mixed Try.func20 (by kernel_rfl) K_witanref04_Scalar h

noncomputable def A_witankeep_Rows : AFun := ⟨2, 27, [.t 4],
 (.seq (.ops [
 oO 4 (.mv (.c (.bool false)))])
 (.seq (.seq (.ops [
 oM 6 0,
 oO 7 (.len (.t 6)),
 oM 8 1,
 oO 9 (.len (.t 8)),
 oO 10 (.bin .neq (.t 7) (.t 9))])
 (.cond (.t 10)
 (.seq (.ops [
 oO 4 (.mv (.c (.bool false)))])
 .ret)
 .skip))
 (.seq (.seq (.ops [
 oO 5 (.mv (.c (.int .i64 0)))])
 (.block 0
 (.loop
 (.seq (.seq (.ops [
 oM 11 5,
 oM 12 0,
 oO 13 (.len (.t 12)),
 oO 14 (.bin .lss (.t 11) (.t 13))])
 (.cond (.t 14)
 .skip
 (.exit 0)))
 (.seq (.block 1
 (.seq (.draw [
 oM 17 0,
 oM 18 5,
 oO 19 (.idxA 1 (.t 17) (.t 18)),
 oO 20 (.load 1 false (.t 19)),
 oM 21 1,
 oM 22 5,
 oO 23 (.idxA 1 (.t 21) (.t 22)),
 oO 24 (.load 1 false (.t 23)),
 oK 25 F_witankeep_Bytes [.t 20, .t 24],
 oO 26 (.un .not (.t 25))] ⟨.all, [], .look 0 (.look 1 (.look 2 (.look 3 (.look 4 (.look 5 (.look 6 (.look 7 (.run 8 true (.look 9 .done)))))))))⟩)
 (.cond (.t 26)
 (.seq (.ops [
 oO 4 (.mv (.c (.bool false)))])
 .ret)
 .skip)))
 (.ops [
 oM 15 5,
 oO 16 (.bin .add (.t 15) (.c (.int .i64 1))),
 oM 5 16]))))))
 (.seq (.ops [
 oO 4 (.mv (.c (.bool true)))])
 .ret))))⟩
theorem K_witankeep_Rows : chkFun DK Pg Try.f21 A_witankeep_Rows = true := by kernel_rfl
theorem B_witankeep_Rows {args : List AV} {m : Mem} {K : AV → Mem → Prop} (h : vcFun DK Pg A_witankeep_Rows args m K) : ACall Pg F_witankeep_Rows args m K := call_body mixed Try.func21 (by kernel_rfl) K_witankeep_Rows h

noncomputable def A_witanlaw05_wakes : AFun := ⟨0, 42, [.t 0],
 (.seq (.ops [
 oO 0 (.mv (.c (.bool false)))])
 (.seq (.ops [
 ⟨some 7, .call (.c (.fn F_draw_Point [])) [.c (.str ⟨#[97]⟩), .c (.nils)], none⟩,
 oM 6 7,
 oO 8 (.ext (.t 6) 0),
 oO 9 (.ext (.t 6) 1),
 oO 10 (.ext (.t 6) 2),
 oO 1 (.alloc 9 1 [.bool false, .int .u64 0, .int .u64 0, .int .u64 0, .int .u64 0, .int .u64 0, .int .u64 0, .int .u64 0, .int .u64 0]),
 ⟨none, .stA 9 1 9 (.t 1) (.t 8), none⟩,
 oM 2 9,
 oM 3 10])
 (.seq (.ops [
 ⟨some 12, .call (.c (.fn F_draw_Scalar [])) [.c (.str ⟨#[97]⟩), .c (.nils)], none⟩,
 oM 11 12,
 oO 13 (.ext (.t 11) 0),
 oO 14 (.ext (.t 11) 1),
 oO 4 (.alloc 1 4 [.int .u64 0]),
 ⟨none, .stA 1 4 4 (.t 4) (.t 13), none⟩,
 oM 5 14])
 (.seq (.ops [
 oM 15 3,
 oO 16 (.bin .eql (.t 15) (.c (.int .i64 0))),
 oM 17 16,
 oG 18 (.mv (.t 5)) 17 true,
 oG 19 (.bin .eql (.t 18) (.c (.int .i64 0))) 17 true,
 oO 20 (.pick (.t 17) (.t 19) (.c (.bool false))),
 oM 21 20,
 oG 22 (.mv (.t 2)) 21 true,
 oG 23 (.bin .geq (.t 22) (.c (.int .i64 1))) 21 true,
 oO 24 (.pick (.t 21) (.t 23) (.c (.bool false))),
 oM 25 24,
 oG 26 (.load 9 true (.t 1)) 25 true,
 oG 27 (.call (.c (.fn F_curve_Check [])) [.t 26]) 25 true,
 oG 28 (.bin .eql (.t 27) (.c (.int .i64 0))) 25 true,
 oO 29 (.pick (.t 25) (.t 28) (.c (.bool false))),
 oM 30 29,
 oG 31 (.fldA 5 (.t 1)) 30 true,
 oG 32 (.idxP 4 1 (.t 31) (.c (.int .i64 0))) 30 true,
 oG 33 (.load 1 false (.t 32)) 30 true,
 oG 34 (.bin .rem (.t 33) (.c (.int .u64 2))) 30 true,
 oG 35 (.bin .eql (.t 34) (.c (.int .u64 0))) 30 true,
 oO 36 (.pick (.t 30) (.t 35) (.c (.bool false))),
 oM 37 36,
 oG 38 (.load 4 true (.t 4)) 37 true,
 oG 39 (.build [.int .u64 0, .int .u64 0, .int .u64 0, .int .u64 0] []) 37 true,
 oG 40 (.eqa [.i, .i, .i, .i] true (.t 38) (.t 39)) 37 true,
 oO 41 (.pick (.t 37) (.t 40) (.c (.bool false))),
 oM 0 41])
 .ret))))⟩
theorem K_witanlaw05_wakes : chkFun DK Pg Try.f22 A_witanlaw05_wakes = true := by kernel_rfl
theorem B_witanlaw05_wakes {args : List AV} {m : Mem} {K : AV → Mem → Prop} (h : vcFun DK Pg A_witanlaw05_wakes args m K) : ACall Pg F_witanlaw05_wakes args m K := call_body mixed Try.func22 (by kernel_rfl) K_witanlaw05_wakes h

noncomputable def A_witanref01_Cmp : AFun := ⟨2, 18, [.t 4],
 (.seq (.ops [
 oO 2 (.box 1 4 (.t 0)),
 oO 3 (.box 1 4 (.t 1)),
 oO 4 (.mv (.c (.int .i64 0)))])
 (.seq (.seq (.ops [
 oO 7 (.load 4 true (.t 2)),
 oO 8 (.load 4 true (.t 3)),
 oO 9 (.eqa [.i, .i, .i, .i] false (.t 7) (.t 8))])
 (.cond (.t 9)
 (.seq (.ops [
 oO 4 (.mv (.c (.int .i64 0)))])
 .ret)
 .skip))
 (.seq (.seq (.ops [
 oO 11 (.load 4 true (.t 2)),
 oO 12 (.load 4 true (.t 3)),
 oK 13 F_witanref01_Sub [.t 11, .t 12],
 oM 10 13,
 oO 14 (.ext (.t 10) 0),
 oO 15 (.ext (.t 10) 1),
 oO 5 (.alloc 1 4 [.int .u64 0]),
 ⟨none, .stA 1 4 4 (.t 5) (.t 14), none⟩,
 oM 6 15])
 (.seq (.ops [
 oM 16 6,
 oO 17 (.bin .eql (.t 16) (.c (.int .u64 1)))])
 (.cond (.t 17)
 (.seq (.ops [
 oO 4 (.mv (.c (.int .i64 (-1))))])
 .ret)
 .skip)))
 (.seq (.ops [
 oO 4 (.mv (.c (.int .i64 1)))])
 .ret))))⟩
theorem K_witanref01_Cmp : chkFun DK Pg Try.f23 A_witanref01_Cmp = true := by kernel_rfl
theorem B_witanref01_Cmp {args : List AV} {m : Mem} {K : AV → Mem → Prop} (h : vcFun DK Pg A_witanref01_Cmp args m K) : ACall Pg F_witanref01_Cmp args m K := call_body mixed Try.func23 (by kernel_rfl) K_witanref01_Cmp h

noncomputable def A_field_Prime : AFun := ⟨1, 22, [.cell 2 4 true],
 (.seq (.ops [
 oO 2 (.alloc 1 4 [.int .u64 0])])
 (.seq (.ops [
 oM 8 0,
 oK 9 F_field_less [.t 8],
 oM 7 9,
 oO 10 (.ext (.t 7) 0),
 oO 11 (.ext (.t 7) 1),
 oO 3 (.alloc 1 4 [.int .u64 0]),
 ⟨none, .stA 1 4 4 (.t 3) (.t 10), none⟩,
 oM 4 11])
 (.seq (.seq (.ops [
 oM 12 4,
 oO 13 (.un .not (.t 12))])
 (.cond (.t 13)
 (.seq (.ops [
 oO 14 (.build [.int .u64 0, .int .u64 0, .int .u64 0, .int .u64 0] []),
 ⟨none, .stA 1 4 4 (.t 2) (.t 14), none⟩])
 .ret)
 .skip))
 (.seq (.ops [
 oO 16 (.build [.int .u64 0, .int .u64 0, .int .u64 0, .int .u64 0] []),
 oO 17 (.load 4 true (.t 3)),
 oK 18 F_limb_Sub [.t 16, .t 17],
 oM 15 18,
 oO 19 (.ext (.t 15) 0),
 oO 20 (.ext (.t 15) 1),
 oO 5 (.alloc 1 4 [.int .u64 0]),
 ⟨none, .stA 1 4 4 (.t 5) (.t 19), none⟩,
 oM 6 20])
 (.seq (.ops [
 oO 21 (.load 4 true (.t 5)),
 ⟨none, .stA 1 4 4 (.t 2) (.t 21), none⟩])
 .ret)))))⟩
theorem K_field_Prime : chkFun DK Pg Try.f24 A_field_Prime = true := by kernel_rfl
theorem B_field_Prime {args : List AV} {m : Mem} {K : AV → Mem → Prop} (h : vcFun DK Pg A_field_Prime args m K) : ACall Pg F_field_Prime args m K := call_body mixed Try.func24 (by kernel_rfl) K_field_Prime h

noncomputable def A_draw_Point : AFun := ⟨2, 46, [.cell 4 9 true, .t 5, .t 6],
 (.seq (.ops [
 oO 4 (.alloc 9 1 [.bool false, .int .u64 0, .int .u64 0, .int .u64 0, .int .u64 0, .int .u64 0, .int .u64 0, .int .u64 0, .int .u64 0]),
 oO 5 (.mv (.c (.int .i64 0))),
 oO 6 (.mv (.c (.int .i64 0)))])
 (.seq (.ops [
 oM 14 0,
 oM 15 1,
 oO 16 (.bsl 1 1 [.nils] [(0, 1, .t 15)]),
 oK 17 F_draw_joined [.t 14, .t 16],
 oM 13 17,
 oO 18 (.ext (.t 13) 0),
 oO 19 (.ext (.t 13) 1),
 oM 7 18,
 oM 8 19])
 (.seq (.seq (.ops [
 oM 20 8,
 oO 21 (.un .not (.t 20))])
 (.cond (.t 21)
 (.seq (.ops [
 oO 22 (.build [.bool false, .int .u64 0, .int .u64 0, .int .u64 0, .int .u64 0, .int .u64 0, .int .u64 0, .int .u64 0, .int .u64 0] []),
 ⟨none, .stA 9 1 9 (.t 4) (.t 22), none⟩,
 oO 5 (.mv (.c (.int .i64 0))),
 oO 6 (.mv (.c (.int .i64 4)))])
 .ret)
 .skip))
 (.seq (.seq (.ops [
 oO 23 (.mv (.c (.int .i64 0)))])
 (.block 0
 (.loop
 (.seq (.ops [
 oO 24 (.bin .lss (.t 23) (.c (.int .i64 256)))])
 (.seq (.cond (.t 24)
 .skip
 (.exit 0))
 (.seq (.block 1
 (.seq (.ops [
 oM 25 23,
 oM 9 25])
 (.seq (.ops [
 oM 26 7,
 oM 27 9,
 oO 28 (.conv .u64 (.t 27)),
 oK 29 F_draw_number [.t 28, .c (.int .i64 4)],
 oK 30 F_draw_with [.t 26, .t 29],
 oK 31 F_sha_Sum [.t 30],
 oO 10 (.alloc 1 32 [.int .u8 0]),
 oS 32 10 31])
 (.seq (.ops [
 oO 33 (.bsl 1 1 [.int .u8 0] [(0, 1, .c (.int .u8 2))]),
 oO 34 (.slarr 32 1 (.t 10) none none none),
 oO 35 (.app 1 1 (.t 33) (.t 34)),
 oK 36 F_curve_Read [.t 35],
 oM 32 36,
 oO 37 (.ext (.t 32) 0),
 oO 38 (.ext (.t 32) 1),
 oO 11 (.alloc 9 1 [.bool false, .int .u64 0, .int .u64 0, .int .u64 0, .int .u64 0, .int .u64 0, .int .u64 0, .int .u64 0, .int .u64 0]),
 ⟨none, .stA 9 1 9 (.t 11) (.t 37), none⟩,
 oM 12 38])
 (.seq (.ops [
 oM 39 12,
 oO 40 (.bin .eql (.t 39) (.c (.int .i64 0)))])
 (.cond (.t 40)
 (.seq (.ops [
 oO 41 (.load 9 true (.t 11)),
 oM 42 9,
 oO 43 (.bin .add (.t 42) (.c (.int .i64 1))),
 ⟨none, .stA 9 1 9 (.t 4) (.t 41), none⟩,
 oM 5 43,
 oO 6 (.mv (.c (.int .i64 0)))])
 .ret)
 .skip))))))
 (.ops [
 oO 44 (.bin .add (.t 23) (.c (.int .i64 1))),
 oM 23 44])))))))
 (.seq (.ops [
 oO 45 (.build [.bool false, .int .u64 0, .int .u64 0, .int .u64 0, .int .u64 0, .int .u64 0, .int .u64 0, .int .u64 0, .int .u64 0] []),
 ⟨none, .stA 9 1 9 (.t 4) (.t 45), none⟩,
 oO 5 (.mv (.c (.int .i64 0))),
 oO 6 (.mv (.c (.int .i64 5)))])
 .ret)))))⟩
theorem K_draw_Point : chkFun DK Pg Try.f25 A_draw_Point = true := by kernel_rfl
theorem B_draw_Point {args : List AV} {m : Mem} {K : AV → Mem → Prop} (h : vcFun DK Pg A_draw_Point args m K) : ACall Pg F_draw_Point args m K := call_body mixed Try.func25 (by kernel_rfl) K_draw_Point h

noncomputable def A_witanref04_Point : AFun := ⟨2, 48, [.cell 4 9 true, .t 5, .t 6],
 (.seq (.ops [
 oO 4 (.alloc 9 1 [.bool false, .int .u64 0, .int .u64 0, .int .u64 0, .int .u64 0, .int .u64 0, .int .u64 0, .int .u64 0, .int .u64 0]),
 oO 5 (.mv (.c (.int .i64 0))),
 oO 6 (.mv (.c (.int .i64 0)))])
 (.seq (.ops [
 oM 14 0,
 oM 15 1,
 oO 16 (.bsl 1 1 [.nils] [(0, 1, .t 15)]),
 oK 17 F_witanref04_Joined [.t 14, .t 16],
 oM 13 17,
 oO 18 (.ext (.t 13) 0),
 oO 19 (.ext (.t 13) 1),
 oM 7 18,
 oM 8 19])
 (.seq (.seq (.ops [
 oM 20 8,
 oO 21 (.un .not (.t 20))])
 (.cond (.t 21)
 (.seq (.ops [
 oO 22 (.build [.bool false, .int .u64 0, .int .u64 0, .int .u64 0, .int .u64 0, .int .u64 0, .int .u64 0, .int .u64 0, .int .u64 0] []),
 oS 9 4 22,
 oO 5 (.mv (.c (.int .i64 0))),
 oO 6 (.mv (.c (.int .i64 4)))])
 .ret)
 .skip))
 (.seq (.seq (.ops [
 oO 9 (.mv (.c (.int .i64 0)))])
 (.block 0
 (.loop
 (.seq (.seq (.ops [
 oM 23 9,
 oO 24 (.bin .lss (.t 23) (.c (.int .i64 256)))])
 (.cond (.t 24)
 .skip
 (.exit 0)))
 (.seq (.block 1
 (.seq (.ops [
 oM 27 7,
 oM 28 9,
 oO 29 (.conv .u64 (.t 28)),
 oK 30 F_witanref04_be [.t 29, .c (.int .i64 4)],
 oO 31 (.bsl 1 2 [.nils] [(0, 1, .t 27), (1, 1, .t 30)]),
 oK 32 F_witanref04_join [.t 31],
 oK 33 F_witanref04_Sum256 [.t 32],
 oO 10 (.alloc 1 32 [.int .u8 0]),
 oS 32 10 33])
 (.seq (.ops [
 oO 35 (.bsl 1 1 [.int .u8 0] [(0, 1, .c (.int .u8 2))]),
 oO 36 (.slarr 32 1 (.t 10) none none none),
 oO 37 (.bsl 1 2 [.nils] [(0, 1, .t 35), (1, 1, .t 36)]),
 oK 38 F_witanref04_join [.t 37],
 oK 39 F_witanref01_ReadPoint [.t 38],
 oM 34 39,
 oO 40 (.ext (.t 34) 0),
 oO 41 (.ext (.t 34) 1),
 oO 11 (.alloc 9 1 [.bool false, .int .u64 0, .int .u64 0, .int .u64 0, .int .u64 0, .int .u64 0, .int .u64 0, .int .u64 0, .int .u64 0]),
 oS 9 11 40,
 oM 12 41])
 (.seq (.ops [
 oM 42 12,
 oO 43 (.bin .eql (.t 42) (.c (.int .i64 0)))])
 (.cond (.t 43)
 (.seq (.ops [
 oO 44 (.load 9 true (.t 11)),
 oM 45 9,
 oO 46 (.bin .add (.t 45) (.c (.int .i64 1))),
 oS 9 4 44,
 oM 5 46,
 oO 6 (.mv (.c (.int .i64 0)))])
 .ret)
 .skip)))))
 (.ops [
 oM 25 9,
 oO 26 (.bin .add (.t 25) (.c (.int .i64 1))),
 oM 9 26]))))))
 (.seq (.ops [
 oO 47 (.build [.bool false, .int .u64 0, .int .u64 0, .int .u64 0, .int .u64 0, .int .u64 0, .int .u64 0, .int .u64 0, .int .u64 0] []),
 oS 9 4 47,
 oO 5 (.mv (.c (.int .i64 0))),
 oO 6 (.mv (.c (.int .i64 5)))])
 .ret)))))⟩
theorem K_witanref04_Point : chkFun DK Pg Try.f26 A_witanref04_Point = true := by kernel_rfl
theorem B_witanref04_Point {args : List AV} {m : Mem} {K : AV → Mem → Prop} (h : vcFun DK Pg A_witanref04_Point args m K) : ACall Pg F_witanref04_Point args m K := call_body mixed Try.func26 (by kernel_rfl) K_witanref04_Point h

noncomputable def A_witankeep_Point : AFun := ⟨2, 24, [.t 4],
 (.seq (.ops [
 oO 2 (.box 9 1 (.t 0)),
 oO 3 (.box 9 1 (.t 1)),
 oO 4 (.mv (.c (.bool false)))])
 (.seq (.ops [
 oO 5 (.fldA 0 (.t 2)),
 oO 6 (.load 1 false (.t 5)),
 oO 7 (.fldA 0 (.t 3)),
 oO 8 (.load 1 false (.t 7)),
 oO 9 (.eqb false (.t 6) (.t 8)),
 oM 10 9,
 oG 11 (.fldA 1 (.t 2)) 10 true,
 oG 12 (.load 4 true (.t 11)) 10 true,
 oG 13 (.fldA 1 (.t 3)) 10 true,
 oG 14 (.load 4 true (.t 13)) 10 true,
 oG 15 (.eqa [.i, .i, .i, .i] false (.t 12) (.t 14)) 10 true,
 oO 16 (.pick (.t 10) (.t 15) (.c (.bool false))),
 oM 17 16,
 oG 18 (.fldA 5 (.t 2)) 17 true,
 oG 19 (.load 4 true (.t 18)) 17 true,
 oG 20 (.fldA 5 (.t 3)) 17 true,
 oG 21 (.load 4 true (.t 20)) 17 true,
 oG 22 (.eqa [.i, .i, .i, .i] false (.t 19) (.t 21)) 17 true,
 oO 23 (.pick (.t 17) (.t 22) (.c (.bool false))),
 oM 4 23])
 .ret))⟩
theorem K_witankeep_Point : chkFun DK Pg Try.f27 A_witankeep_Point = true := by kernel_rfl
theorem B_witankeep_Point {args : List AV} {m : Mem} {K : AV → Mem → Prop} (h : vcFun DK Pg A_witankeep_Point args m K) : ACall Pg F_witankeep_Point args m K := call_body mixed Try.func27 (by kernel_rfl) K_witankeep_Point h

noncomputable def A_curve_Check : AFun := ⟨1, 33, [.t 2],
 (.seq (.ops [
 oO 1 (.box 9 1 (.t 0)),
 oO 2 (.mv (.c (.int .i64 0)))])
 (.seq (.seq (.ops [
 oO 4 (.fldA 0 (.t 1)),
 oO 5 (.load 1 false (.t 4))])
 (.cond (.t 5)
 (.seq (.seq (.ops [
 oO 6 (.load 9 true (.t 1)),
 oO 7 (.build [.bool false, .int .u64 0, .int .u64 0, .int .u64 0, .int .u64 0, .int .u64 0, .int .u64 0, .int .u64 0, .int .u64 0] [(0, 1, .c (.bool true))]),
 oO 8 (.eqa [.b, .i, .i, .i, .i, .i, .i, .i, .i] true (.t 6) (.t 7))])
 (.cond (.t 8)
 (.seq (.ops [
 oO 2 (.mv (.c (.int .i64 3)))])
 .ret)
 .skip))
 (.seq (.ops [
 oO 2 (.mv (.c (.int .i64 0)))])
 .ret))
 .skip))
 (.seq (.ops [
 oK 9 F_field_Prime [.c (.int .i64 0)],
 oO 3 (.alloc 1 4 [.int .u64 0]),
 ⟨none, .stA 1 4 4 (.t 3) (.t 9), none⟩])
 (.seq (.seq (.draw [
 oO 10 (.fldA 1 (.t 1)),
 oO 11 (.load 4 true (.t 10)),
 oO 12 (.load 4 true (.t 3)),
 oK 13 F_limb_Cmp [.t 11, .t 12],
 oO 14 (.bin .geq (.t 13) (.c (.int .i64 0))),
 oM 15 14,
 oG 16 (.fldA 5 (.t 1)) 15 false,
 oG 17 (.load 4 true (.t 16)) 15 false,
 oG 18 (.load 4 true (.t 3)) 15 false,
 oG 19 (.call (.c (.fn F_limb_Cmp [])) [.t 17, .t 18]) 15 false,
 oG 20 (.bin .geq (.t 19) (.c (.int .i64 0))) 15 false,
 oO 21 (.pick (.t 15) (.c (.bool true)) (.t 20)),
 oM 22 21,
 oG 23 (.fldA 5 (.t 1)) 22 false,
 oG 24 (.load 4 true (.t 23)) 22 false,
 oG 25 (.fldA 5 (.t 1)) 22 false,
 oG 26 (.load 4 true (.t 25)) 22 false,
 oG 27 (.call (.c (.fn F_curve_mul [])) [.t 24, .t 26]) 22 false,
 oG 28 (.fldA 1 (.t 1)) 22 false,
 oG 29 (.load 4 true (.t 28)) 22 false,
 oG 30 (.call (.c (.fn F_curve_right [])) [.t 29]) 22 false,
 oG 31 (.eqa [.i, .i, .i, .i] true (.t 27) (.t 30)) 22 false,
 oO 32 (.pick (.t 22) (.c (.bool true)) (.t 31))] ⟨.all, [], .look 0 (.look 1 (.look 2 (.run 3 true (.look 4 (.look 5 (.look 6 (.look 7 (.look 8 (.run 9 true (.look 10 (.look 11 (.look 12 (.look 13 (.look 14 (.look 15 (.look 16 (.look 18 (.look 19 (.run 17 true (.run 20 true (.look 21 (.look 22 .done))))))))))))))))))))))⟩)
 (.cond (.t 32)
 (.seq (.ops [
 oO 2 (.mv (.c (.int .i64 3)))])
 .ret)
 .skip))
 (.seq (.ops [
 oO 2 (.mv (.c (.int .i64 0)))])
 .ret)))))⟩
theorem K_curve_Check : chkFun DK Pg Try.f28 A_curve_Check = true := by kernel_rfl
theorem B_curve_Check {args : List AV} {m : Mem} {K : AV → Mem → Prop} (h : vcFun DK Pg A_curve_Check args m K) : ACall Pg F_curve_Check args m K := call_body mixed Try.func28 (by kernel_rfl) K_curve_Check h

noncomputable def A_sha_Sum : AFun := ⟨1, 201, [.cell 2 32 true],
 (.seq (.ops [
 oO 2 (.alloc 1 32 [.int .u8 0])])
 (.seq (.ops [
 oO 23 (.build [.int .u32 0, .int .u32 0, .int .u32 0, .int .u32 0, .int .u32 0, .int .u32 0, .int .u32 0, .int .u32 0] [(0, 1, .c (.int .u32 1779033703)), (1, 1, .c (.int .u32 3144134277)), (2, 1, .c (.int .u32 1013904242)), (3, 1, .c (.int .u32 2773480762)), (4, 1, .c (.int .u32 1359893119)), (5, 1, .c (.int .u32 2600822924)), (6, 1, .c (.int .u32 528734635)), (7, 1, .c (.int .u32 1541459225))]),
 oO 3 (.alloc 1 8 [.int .u32 0]),
 oS 8 3 23])
 (.seq (.ops [
 oK 24 F_sha_rounds [],
 oM 4 24])
 (.seq (.seq (.ops [
 oM 25 0,
 oK 26 F_sha_padded [.t 25],
 oM 5 26])
 (.block 0
 (.loop
 (.seq (.seq (.ops [
 oM 27 5,
 oO 28 (.len (.t 27)),
 oO 29 (.bin .gtr (.t 28) (.c (.int .i64 0)))])
 (.cond (.t 29)
 .skip
 (.exit 0)))
 (.seq (.block 1
 (.seq (.ops [
 oO 6 (.alloc 1 64 [.int .u32 0])])
 (.seq (.seq (.ops [
 oO 32 (.mv (.c (.int .i64 0)))])
 (.block 2
 (.loop
 (.seq (.ops [
 oO 33 (.bin .lss (.t 32) (.c (.int .i64 64)))])
 (.seq (.cond (.t 33)
 .skip
 (.exit 2))
 (.seq (.block 3
 (.seq (.ops [
 oM 34 32,
 oM 7 34])
 (.seq (.seq (.ops [
 oM 35 7,
 oO 36 (.bin .lss (.t 35) (.c (.int .i64 16)))])
 (.cond (.t 36)
 (.seq (.ops [
 oM 37 7,
 oM 38 5,
 oM 39 7,
 oO 40 (.bin .mul (.c (.int .i64 4)) (.t 39)),
 oM 41 7,
 oO 42 (.bin .mul (.c (.int .i64 4)) (.t 41)),
 oO 43 (.bin .add (.t 42) (.c (.int .i64 4))),
 oO 44 (.slice 1 (.t 38) (some (.t 40)) (some (.t 43)) none),
 oK 45 F_sha_high [.t 44],
 oO 46 (.conv .u32 (.t 45)),
 oO 47 (.idxP 64 1 (.t 6) (.t 37)),
 oS 1 47 46])
 (.exit 3))
 .skip))
 (.seq (.draw [
 oM 48 7,
 oO 49 (.bin .sub (.t 48) (.c (.int .i64 15))),
 oO 50 (.idxP 64 1 (.t 6) (.t 49)),
 oO 51 (.load 1 false (.t 50)),
 oM 52 7,
 oO 53 (.bin .sub (.t 52) (.c (.int .i64 2))),
 oO 54 (.idxP 64 1 (.t 6) (.t 53)),
 oO 55 (.load 1 false (.t 54)),
 oM 8 51,
 oM 9 55] ⟨.no, [], .flat⟩)
 (.seq (.ops [
 oM 56 8,
 oK 57 F_bits_RotateLeft32 [.t 56, .c (.int .i64 (-7))],
 oM 58 8,
 oK 59 F_bits_RotateLeft32 [.t 58, .c (.int .i64 (-18))],
 oO 60 (.bin .xor (.t 57) (.t 59)),
 oM 61 8,
 oO 62 (.bin .shr (.t 61) (.c (.int .u64 3))),
 oO 63 (.bin .xor (.t 60) (.t 62)),
 oM 10 63])
 (.seq (.ops [
 oM 64 9,
 oK 65 F_bits_RotateLeft32 [.t 64, .c (.int .i64 (-17))],
 oM 66 9,
 oK 67 F_bits_RotateLeft32 [.t 66, .c (.int .i64 (-19))],
 oO 68 (.bin .xor (.t 65) (.t 67)),
 oM 69 9,
 oO 70 (.bin .shr (.t 69) (.c (.int .u64 10))),
 oO 71 (.bin .xor (.t 68) (.t 70)),
 oM 11 71])
 (.draw [
 oM 72 7,
 oM 73 7,
 oO 74 (.bin .sub (.t 73) (.c (.int .i64 16))),
 oO 75 (.idxP 64 1 (.t 6) (.t 74)),
 oO 76 (.load 1 false (.t 75)),
 oM 77 10,
 oO 78 (.bin .add (.t 76) (.t 77)),
 oM 79 7,
 oO 80 (.bin .sub (.t 79) (.c (.int .i64 7))),
 oO 81 (.idxP 64 1 (.t 6) (.t 80)),
 oO 82 (.load 1 false (.t 81)),
 oO 83 (.bin .add (.t 78) (.t 82)),
 oM 84 11,
 oO 85 (.bin .add (.t 83) (.t 84)),
 oO 86 (.idxP 64 1 (.t 6) (.t 72)),
 oS 1 86 85] ⟨.all, [], .look 0 (.look 1 (.look 2 (.look 3 (.look 4 (.look 5 (.look 6 (.look 7 (.look 8 (.look 9 (.look 10 (.look 11 (.look 12 (.look 13 (.look 14 (.run 15 false .done)))))))))))))))⟩)))))))
 (.ops [
 oO 87 (.bin .add (.t 32) (.c (.int .i64 1))),
 oM 32 87])))))))
 (.seq (.ops [
 oO 88 (.load 8 true (.t 3)),
 oO 12 (.alloc 1 8 [.int .u32 0]),
 oS 8 12 88])
 (.seq (.seq (.ops [
 oO 89 (.mv (.c (.int .i64 0)))])
 (.block 4
 (.loop
 (.seq (.ops [
 oO 90 (.bin .lss (.t 89) (.c (.int .i64 64)))])
 (.seq (.cond (.t 90)
 .skip
 (.exit 4))
 (.seq (.block 5
 (.seq (.ops [
 oM 91 89,
 oM 13 91])
 (.seq (.draw [
 oO 92 (.idxP 8 1 (.t 12) (.c (.int .i64 4))),
 oO 93 (.load 1 false (.t 92)),
 oO 94 (.idxP 8 1 (.t 12) (.c (.int .i64 0))),
 oO 95 (.load 1 false (.t 94)),
 oM 14 93,
 oM 15 95] ⟨.no, [], .flat⟩)
 (.seq (.ops [
 oM 96 14,
 oK 97 F_bits_RotateLeft32 [.t 96, .c (.int .i64 (-6))],
 oM 98 14,
 oK 99 F_bits_RotateLeft32 [.t 98, .c (.int .i64 (-11))],
 oO 100 (.bin .xor (.t 97) (.t 99)),
 oM 101 14,
 oK 102 F_bits_RotateLeft32 [.t 101, .c (.int .i64 (-25))],
 oO 103 (.bin .xor (.t 100) (.t 102)),
 oM 16 103])
 (.seq (.draw [
 oO 104 (.idxP 8 1 (.t 12) (.c (.int .i64 7))),
 oO 105 (.load 1 false (.t 104)),
 oM 106 16,
 oO 107 (.bin .add (.t 105) (.t 106)),
 oM 108 14,
 oO 109 (.idxP 8 1 (.t 12) (.c (.int .i64 5))),
 oO 110 (.load 1 false (.t 109)),
 oO 111 (.bin .and (.t 108) (.t 110)),
 oM 112 14,
 oO 113 (.un .xor (.t 112)),
 oO 114 (.idxP 8 1 (.t 12) (.c (.int .i64 6))),
 oO 115 (.load 1 false (.t 114)),
 oO 116 (.bin .and (.t 113) (.t 115)),
 oO 117 (.bin .xor (.t 111) (.t 116)),
 oO 118 (.bin .add (.t 107) (.t 117)),
 oM 119 4,
 oM 120 13,
 oO 121 (.idxA 1 (.t 119) (.t 120)),
 oO 122 (.load 1 false (.t 121)),
 oO 123 (.bin .add (.t 118) (.t 122)),
 oM 124 13,
 oO 125 (.idxP 64 1 (.t 6) (.t 124)),
 oO 126 (.load 1 false (.t 125)),
 oO 127 (.bin .add (.t 123) (.t 126)),
 oM 17 127] ⟨.no, [], .flat⟩)
 (.seq (.ops [
 oM 128 15,
 oK 129 F_bits_RotateLeft32 [.t 128, .c (.int .i64 (-2))],
 oM 130 15,
 oK 131 F_bits_RotateLeft32 [.t 130, .c (.int .i64 (-13))],
 oO 132 (.bin .xor (.t 129) (.t 131)),
 oM 133 15,
 oK 134 F_bits_RotateLeft32 [.t 133, .c (.int .i64 (-22))],
 oO 135 (.bin .xor (.t 132) (.t 134)),
 oM 18 135])
 (.seq (.ops [
 oM 136 18,
 oM 137 15,
 oO 138 (.idxP 8 1 (.t 12) (.c (.int .i64 1))),
 oO 139 (.load 1 false (.t 138)),
 oO 140 (.bin .and (.t 137) (.t 139)),
 oM 141 15,
 oO 142 (.idxP 8 1 (.t 12) (.c (.int .i64 2))),
 oO 143 (.load 1 false (.t 142)),
 oO 144 (.bin .and (.t 141) (.t 143)),
 oO 145 (.bin .xor (.t 140) (.t 144)),
 oO 146 (.idxP 8 1 (.t 12) (.c (.int .i64 1))),
 oO 147 (.load 1 false (.t 146)),
 oO 148 (.idxP 8 1 (.t 12) (.c (.int .i64 2))),
 oO 149 (.load 1 false (.t 148)),
 oO 150 (.bin .and (.t 147) (.t 149)),
 oO 151 (.bin .xor (.t 145) (.t 150)),
 oO 152 (.bin .add (.t 136) (.t 151)),
 oM 19 152])
 (.ops [
 oM 153 17,
 oM 154 19,
 oO 155 (.bin .add (.t 153) (.t 154)),
 oM 156 15,
 oO 157 (.idxP 8 1 (.t 12) (.c (.int .i64 1))),
 oO 158 (.load 1 false (.t 157)),
 oO 159 (.idxP 8 1 (.t 12) (.c (.int .i64 2))),
 oO 160 (.load 1 false (.t 159)),
 oO 161 (.idxP 8 1 (.t 12) (.c (.int .i64 3))),
 oO 162 (.load 1 false (.t 161)),
 oM 163 17,
 oO 164 (.bin .add (.t 162) (.t 163)),
 oM 165 14,
 oO 166 (.idxP 8 1 (.t 12) (.c (.int .i64 5))),
 oO 167 (.load 1 false (.t 166)),
 oO 168 (.idxP 8 1 (.t 12) (.c (.int .i64 6))),
 oO 169 (.load 1 false (.t 168)),
 oO 170 (.build [.int .u32 0, .int .u32 0, .int .u32 0, .int .u32 0, .int .u32 0, .int .u32 0, .int .u32 0, .int .u32 0] [(0, 1, .t 155), (1, 1, .t 156), (2, 1, .t 158), (3, 1, .t 160), (4, 1, .t 164), (5, 1, .t 165), (6, 1, .t 167), (7, 1, .t 169)]),
 oS 8 12 170]))))))))
 (.ops [
 oO 171 (.bin .add (.t 89) (.c (.int .i64 1))),
 oM 89 171])))))))
 (.seq (.ops [
 oO 172 (.mv (.c (.int .i64 0)))])
 (.block 6
 (.loop
 (.seq (.ops [
 oO 173 (.bin .lss (.t 172) (.c (.int .i64 8)))])
 (.seq (.cond (.t 173)
 .skip
 (.exit 6))
 (.seq (.block 7
 (.seq (.ops [
 oM 174 172,
 oM 20 174])
 (.draw [
 oM 175 20,
 oO 176 (.idxP 8 1 (.t 3) (.t 175)),
 oO 177 (.load 1 false (.t 176)),
 oM 178 20,
 oO 179 (.idxP 8 1 (.t 12) (.t 178)),
 oO 180 (.load 1 false (.t 179)),
 oO 181 (.bin .add (.t 177) (.t 180)),
 oO 182 (.idxP 8 1 (.t 3) (.t 175)),
 oS 1 182 181] ⟨.all, [], .look 0 (.look 1 (.look 2 (.look 3 (.look 4 (.look 5 (.look 6 (.look 7 (.run 8 false .done))))))))⟩)))
 (.ops [
 oO 183 (.bin .add (.t 172) (.c (.int .i64 1))),
 oM 172 183]))))))))))))
 (.ops [
 oM 30 5,
 oO 31 (.slice 1 (.t 30) (some (.c (.int .i64 64))) none none),
 oM 5 31]))))))
 (.seq (.ops [
 oO 21 (.alloc 1 32 [.int .u8 0])])
 (.seq (.seq (.ops [
 oO 184 (.mv (.c (.int .i64 0)))])
 (.block 8
 (.loop
 (.seq (.ops [
 oO 185 (.bin .lss (.t 184) (.c (.int .i64 32)))])
 (.seq (.cond (.t 185)
 .skip
 (.exit 8))
 (.seq (.block 9
 (.seq (.ops [
 oM 186 184,
 oM 22 186])
 (.ops [
 oM 187 22,
 oM 188 22,
 oO 189 (.bin .quo (.t 188) (.c (.int .i64 4))),
 oO 190 (.idxP 8 1 (.t 3) (.t 189)),
 oO 191 (.load 1 false (.t 190)),
 oM 192 22,
 oO 193 (.bin .rem (.t 192) (.c (.int .i64 4))),
 oO 194 (.bin .mul (.c (.int .i64 8)) (.t 193)),
 oO 195 (.bin .sub (.c (.int .i64 24)) (.t 194)),
 oO 196 (.bin .shr (.t 191) (.t 195)),
 oO 197 (.conv .u8 (.t 196)),
 oO 198 (.idxP 32 1 (.t 21) (.t 187)),
 oS 1 198 197])))
 (.ops [
 oO 199 (.bin .add (.t 184) (.c (.int .i64 1))),
 oM 184 199])))))))
 (.seq (.ops [
 oO 200 (.load 32 true (.t 21)),
 oS 32 2 200])
 .ret)))))))⟩
theorem K_sha_Sum : chkFun DK Pg Try.f29 A_sha_Sum = true := by kernel_rfl
theorem B_sha_Sum {args : List AV} {m : Mem} {K : AV → Mem → Prop} (h : vcFun DK Pg A_sha_Sum args m K) : ACall Pg F_sha_Sum args m K := call_body mixed Try.func29 (by kernel_rfl) K_sha_Sum h

noncomputable def A_witanlaw05_joined : AFun := ⟨2, 56, [.t 4],
 (.seq (.ops [
 oO 4 (.mv (.c (.nils)))])
 (.seq (.ops [
 oM 8 0,
 oO 9 (.lens (.t 8)),
 oM 5 9])
 (.seq (.ops [
 oM 10 5,
 oO 11 (.bin .shr (.t 10) (.c (.int .u64 24))),
 oO 12 (.conv .u8 (.t 11)),
 oM 13 5,
 oO 14 (.bin .shr (.t 13) (.c (.int .u64 16))),
 oO 15 (.conv .u8 (.t 14)),
 oM 16 5,
 oO 17 (.bin .shr (.t 16) (.c (.int .u64 8))),
 oO 18 (.conv .u8 (.t 17)),
 oM 19 5,
 oO 20 (.conv .u8 (.t 19)),
 oO 21 (.bsl 1 4 [.int .u8 0] [(0, 1, .t 12), (1, 1, .t 15), (2, 1, .t 18), (3, 1, .t 20)]),
 oM 6 21])
 (.seq (.ops [
 oM 22 6,
 oM 23 0,
 oO 24 (.app 1 1 (.t 22) (.t 23)),
 oM 6 24])
 (.seq (.seq (.ops [
 oO 7 (.mv (.c (.int .i64 0)))])
 (.block 0
 (.loop
 (.seq (.seq (.ops [
 oM 25 7,
 oM 26 1,
 oO 27 (.len (.t 26)),
 oO 28 (.bin .lss (.t 25) (.t 27))])
 (.cond (.t 28)
 .skip
 (.exit 0)))
 (.seq (.block 1
 (.seq (.ops [
 oM 31 1,
 oM 32 7,
 oO 33 (.idxA 1 (.t 31) (.t 32)),
 oO 34 (.load 1 false (.t 33)),
 oO 35 (.len (.t 34)),
 oM 5 35])
 (.draw [
 oM 36 6,
 oM 37 5,
 oO 38 (.bin .shr (.t 37) (.c (.int .u64 24))),
 oO 39 (.conv .u8 (.t 38)),
 oM 40 5,
 oO 41 (.bin .shr (.t 40) (.c (.int .u64 16))),
 oO 42 (.conv .u8 (.t 41)),
 oM 43 5,
 oO 44 (.bin .shr (.t 43) (.c (.int .u64 8))),
 oO 45 (.conv .u8 (.t 44)),
 oM 46 5,
 oO 47 (.conv .u8 (.t 46)),
 oO 48 (.bsl 1 4 [.int .u8 0] [(0, 1, .t 39), (1, 1, .t 42), (2, 1, .t 45), (3, 1, .t 47)]),
 oO 49 (.app 1 1 (.t 36) (.t 48)),
 oM 50 1,
 oM 51 7,
 oO 52 (.idxA 1 (.t 50) (.t 51)),
 oO 53 (.load 1 false (.t 52)),
 oO 54 (.app 1 1 (.t 49) (.t 53)),
 oM 6 54] ⟨.no, [], .look 0 (.look 1 (.look 2 (.look 3 (.look 4 (.look 5 (.look 6 (.look 7 (.look 8 (.look 9 (.look 10 (.look 11 (.look 14 (.look 15 (.look 16 (.look 17 (.run 12 true (.run 13 true (.run 18 false (.look 19 .done)))))))))))))))))))⟩)))
 (.ops [
 oM 29 7,
 oO 30 (.bin .add (.t 29) (.c (.int .i64 1))),
 oM 7 30]))))))
 (.seq (.ops [
 oM 55 6,
 oM 4 55])
 .ret))))))⟩
theorem K_witanlaw05_joined : chkFun DK Pg Try.f30 A_witanlaw05_joined = true := by kernel_rfl
theorem B_witanlaw05_joined {args : List AV} {m : Mem} {K : AV → Mem → Prop} (h : vcFun DK Pg A_witanlaw05_joined args m K) : ACall Pg F_witanlaw05_joined args m K := call_body mixed Try.func30 (by kernel_rfl) K_witanlaw05_joined h

noncomputable def A_curve_Read : AFun := ⟨1, 67, [.cell 2 9 true, .t 3],
 (.seq (.ops [
 oO 2 (.alloc 9 1 [.bool false, .int .u64 0, .int .u64 0, .int .u64 0, .int .u64 0, .int .u64 0, .int .u64 0, .int .u64 0, .int .u64 0]),
 oO 3 (.mv (.c (.int .i64 0)))])
 (.seq (.block 0
 (.seq (.ops [
 oM 9 0,
 oO 10 (.len (.t 9)),
 oO 11 (.bin .eql (.t 10) (.c (.int .i64 1))),
 oM 12 11,
 oG 13 (.mv (.t 0)) 12 true,
 oG 14 (.idxA 1 (.t 13) (.c (.int .i64 0))) 12 true,
 oG 15 (.load 1 false (.t 14)) 12 true,
 oG 16 (.bin .eql (.t 15) (.c (.int .u8 0))) 12 true,
 oO 17 (.pick (.t 12) (.t 16) (.c (.bool false))),
 oM 8 17])
 (.cond (.t 8)
 (.seq (.ops [
 oO 18 (.build [.bool false, .int .u64 0, .int .u64 0, .int .u64 0, .int .u64 0, .int .u64 0, .int .u64 0, .int .u64 0, .int .u64 0] [(0, 1, .c (.bool true))]),
 ⟨none, .stA 9 1 9 (.t 2) (.t 18), none⟩,
 oO 3 (.mv (.c (.int .i64 0)))])
 .ret)
 (.seq (.ops [
 oM 20 0,
 oO 21 (.len (.t 20)),
 oO 22 (.bin .neq (.t 21) (.c (.int .i64 33))),
 oM 23 22,
 oG 24 (.mv (.t 0)) 23 false,
 oG 25 (.idxA 1 (.t 24) (.c (.int .i64 0))) 23 false,
 oG 26 (.load 1 false (.t 25)) 23 false,
 oG 27 (.bin .neq (.t 26) (.c (.int .u8 2))) 23 false,
 oG 28 (.mv (.t 27)) 23 false,
 oG 29 (.mv (.t 0)) 28 true,
 oG 30 (.idxA 1 (.t 29) (.c (.int .i64 0))) 28 true,
 oG 31 (.load 1 false (.t 30)) 28 true,
 oG 32 (.bin .neq (.t 31) (.c (.int .u8 3))) 28 true,
 oG 33 (.pick (.t 28) (.t 32) (.c (.bool false))) 23 false,
 oO 34 (.pick (.t 23) (.c (.bool true)) (.t 33)),
 oM 19 34])
 (.cond (.t 19)
 (.seq (.ops [
 oO 35 (.build [.bool false, .int .u64 0, .int .u64 0, .int .u64 0, .int .u64 0, .int .u64 0, .int .u64 0, .int .u64 0, .int .u64 0] []),
 ⟨none, .stA 9 1 9 (.t 2) (.t 35), none⟩,
 oO 3 (.mv (.c (.int .i64 7)))])
 .ret)
 .skip)))))
 (.seq (.ops [
 oM 37 0,
 oO 38 (.slice 1 (.t 37) (some (.c (.int .i64 1))) none none),
 oO 39 (.arrp 32 1 (.t 38)),
 oO 40 (.load 32 true (.t 39)),
 oK 41 F_field_Read [.c (.int .i64 0), .t 40],
 oM 36 41,
 oO 42 (.ext (.t 36) 0),
 oO 43 (.ext (.t 36) 1),
 oO 4 (.alloc 1 4 [.int .u64 0]),
 ⟨none, .stA 1 4 4 (.t 4) (.t 42), none⟩,
 oM 5 43])
 (.seq (.seq (.ops [
 oM 44 5,
 oO 45 (.bin .neq (.t 44) (.c (.int .i64 0)))])
 (.cond (.t 45)
 (.seq (.ops [
 oO 46 (.build [.bool false, .int .u64 0, .int .u64 0, .int .u64 0, .int .u64 0, .int .u64 0, .int .u64 0, .int .u64 0, .int .u64 0] []),
 oM 47 5,
 ⟨none, .stA 9 1 9 (.t 2) (.t 46), none⟩,
 oM 3 47])
 .ret)
 .skip))
 (.seq (.ops [
 oO 49 (.load 4 true (.t 4)),
 oK 50 F_curve_right [.t 49],
 oK 51 F_field_Root [.t 50],
 oM 48 51,
 oO 52 (.ext (.t 48) 0),
 oO 53 (.ext (.t 48) 1),
 oO 6 (.alloc 1 4 [.int .u64 0]),
 ⟨none, .stA 1 4 4 (.t 6) (.t 52), none⟩,
 oM 7 53])
 (.seq (.seq (.ops [
 oM 54 7,
 oO 55 (.un .not (.t 54))])
 (.cond (.t 55)
 (.seq (.ops [
 oO 56 (.build [.bool false, .int .u64 0, .int .u64 0, .int .u64 0, .int .u64 0, .int .u64 0, .int .u64 0, .int .u64 0, .int .u64 0] []),
 ⟨none, .stA 9 1 9 (.t 2) (.t 56), none⟩,
 oO 3 (.mv (.c (.int .i64 3)))])
 .ret)
 .skip))
 (.seq (.seq (.ops [
 oM 57 0,
 oO 58 (.idxA 1 (.t 57) (.c (.int .i64 0))),
 oO 59 (.load 1 false (.t 58)),
 oO 60 (.bin .eql (.t 59) (.c (.int .u8 3)))])
 (.cond (.t 60)
 (.ops [
 oO 61 (.build [.int .u64 0, .int .u64 0, .int .u64 0, .int .u64 0] []),
 oO 62 (.load 4 true (.t 6)),
 oK 63 F_curve_sub [.t 61, .t 62],
 ⟨none, .stA 1 4 4 (.t 6) (.t 63), none⟩])
 .skip))
 (.seq (.ops [
 oO 64 (.load 4 true (.t 4)),
 oO 65 (.load 4 true (.t 6)),
 oO 66 (.build [.bool false, .int .u64 0, .int .u64 0, .int .u64 0, .int .u64 0, .int .u64 0, .int .u64 0, .int .u64 0, .int .u64 0] [(1, 4, .t 64), (5, 4, .t 65)]),
 ⟨none, .stA 9 1 9 (.t 2) (.t 66), none⟩,
 oO 3 (.mv (.c (.int .i64 0)))])
 .ret))))))))⟩
theorem K_curve_Read : chkFun DK Pg Try.f31 A_curve_Read = true := by kernel_rfl
theorem B_curve_Read {args : List AV} {m : Mem} {K : AV → Mem → Prop} (h : vcFun DK Pg A_curve_Read args m K) : ACall Pg F_curve_Read args m K := call_body mixed Try.func31 (by kernel_rfl) K_curve_Read h

noncomputable def A_witankeep_Twin : AFun := ⟨1, 7, [.t 2],
 (.seq (.ops [
 oO 2 (.mv (.c (.nils)))])
 (.seq (.ops [
 oO 3 (.mv (.c (.nils)))])
 (.seq (.ops [
 oM 4 3,
 oM 5 0,
 oO 6 (.app 1 1 (.t 4) (.t 5)),
 oM 2 6])
 .ret)))⟩
theorem K_witankeep_Twin : chkFun DK Pg Try.f32 A_witankeep_Twin = true := by kernel_rfl
theorem B_witankeep_Twin {args : List AV} {m : Mem} {K : AV → Mem → Prop} (h : vcFun DK Pg A_witankeep_Twin args m K) : ACall Pg F_witankeep_Twin args m K := call_body mixed Try.func32 (by kernel_rfl) K_witankeep_Twin h

noncomputable def A_limb_Mod : AFun := ⟨3, 57, [.cell 6 4 true, .t 7],
 (.seq (.ops [
 oO 3 (.box 1 4 (.t 0)),
 oO 4 (.box 1 4 (.t 1)),
 oO 5 (.box 1 4 (.t 2)),
 oO 6 (.alloc 1 4 [.int .u64 0]),
 oO 7 (.mv (.c (.int .i64 0)))])
 (.seq (.seq (.ops [
 oO 12 (.load 4 true (.t 5)),
 oO 13 (.build [.int .u64 0, .int .u64 0, .int .u64 0, .int .u64 0] []),
 oO 14 (.eqa [.i, .i, .i, .i] false (.t 12) (.t 13))])
 (.cond (.t 14)
 (.seq (.ops [
 oO 15 (.build [.int .u64 0, .int .u64 0, .int .u64 0, .int .u64 0] []),
 ⟨none, .stA 1 4 4 (.t 6) (.t 15), none⟩,
 oO 7 (.mv (.c (.int .i64 1)))])
 .ret)
 .skip))
 (.seq (.ops [
 oO 8 (.alloc 1 4 [.int .u64 0])])
 (.seq (.seq (.ops [
 oO 9 (.mv (.c (.int .i64 511)))])
 (.block 0
 (.loop
 (.seq (.seq (.ops [
 oM 16 9,
 oO 17 (.bin .geq (.t 16) (.c (.int .i64 0)))])
 (.cond (.t 17)
 .skip
 (.exit 0)))
 (.seq (.block 1
 (.seq (.ops [
 oO 20 (.load 4 true (.t 4)),
 oO 10 (.alloc 1 4 [.int .u64 0]),
 ⟨none, .stA 1 4 4 (.t 10) (.t 20), none⟩])
 (.seq (.seq (.ops [
 oM 21 9,
 oO 22 (.bin .geq (.t 21) (.c (.int .i64 256)))])
 (.cond (.t 22)
 (.ops [
 oO 23 (.load 4 true (.t 3)),
 ⟨none, .stA 1 4 4 (.t 10) (.t 23), none⟩])
 .skip))
 (.seq (.ops [
 oO 24 (.idxP 4 1 (.t 8) (.c (.int .i64 3))),
 oO 25 (.load 1 false (.t 24)),
 oO 26 (.bin .shr (.t 25) (.c (.int .u64 63))),
 oM 11 26])
 (.seq (.ops [
 oO 28 (.load 4 true (.t 8)),
 oO 29 (.load 4 true (.t 8)),
 oK 30 F_limb_Add [.t 28, .t 29],
 oM 27 30,
 oO 31 (.ext (.t 27) 0),
 oO 32 (.ext (.t 27) 1),
 ⟨none, .stA 1 4 4 (.t 8) (.t 31), none⟩])
 (.seq (.draw [
 oO 33 (.idxP 4 1 (.t 8) (.c (.int .i64 0))),
 oO 34 (.load 1 false (.t 33)),
 oO 35 (.load 4 true (.t 10)),
 oM 36 9,
 oO 37 (.bin .rem (.t 36) (.c (.int .i64 256))),
 oK 38 F_limb_Bit [.t 35, .t 37],
 oO 39 (.conv .u64 (.t 38)),
 oO 40 (.bin .or (.t 34) (.t 39)),
 oO 41 (.idxP 4 1 (.t 8) (.c (.int .i64 0))),
 oS 1 41 40] ⟨.all, [], .look 0 (.look 1 (.look 2 (.look 3 (.look 4 (.run 5 true (.look 6 (.look 7 (.look 8 (.run 9 false .done)))))))))⟩)
 (.seq (.ops [
 oM 42 11,
 oO 43 (.bin .eql (.t 42) (.c (.int .u64 1))),
 oM 44 43,
 oG 45 (.load 4 true (.t 8)) 44 false,
 oG 46 (.load 4 true (.t 5)) 44 false,
 oG 47 (.call (.c (.fn F_limb_Cmp [])) [.t 45, .t 46]) 44 false,
 oG 48 (.bin .geq (.t 47) (.c (.int .i64 0))) 44 false,
 oO 49 (.pick (.t 44) (.c (.bool true)) (.t 48))])
 (.cond (.t 49)
 (.ops [
 oO 51 (.load 4 true (.t 8)),
 oO 52 (.load 4 true (.t 5)),
 oK 53 F_limb_Sub [.t 51, .t 52],
 oM 50 53,
 oO 54 (.ext (.t 50) 0),
 oO 55 (.ext (.t 50) 1),
 ⟨none, .stA 1 4 4 (.t 8) (.t 54), none⟩])
 .skip))))))))
 (.ops [
 oM 18 9,
 oO 19 (.bin .sub (.t 18) (.c (.int .i64 1))),
 oM 9 19]))))))
 (.seq (.ops [
 oO 56 (.load 4 true (.t 8)),
 ⟨none, .stA 1 4 4 (.t 6) (.t 56), none⟩,
 oO 7 (.mv (.c (.int .i64 0)))])
 .ret)))))⟩
theorem K_limb_Mod : chkFun DK Pg Try.f33 A_limb_Mod = true := by kernel_rfl
theorem B_limb_Mod {args : List AV} {m : Mem} {K : AV → Mem → Prop} (h : vcFun DK Pg A_limb_Mod args m K) : ACall Pg F_limb_Mod args m K := call_body mixed Try.func33 (by kernel_rfl) K_limb_Mod h

noncomputable def A_limb_Of : AFun := ⟨1, 28, [.cell 2 4 true],
 (.seq (.ops [
 oO 1 (.box 1 32 (.t 0)),
 oO 2 (.alloc 1 4 [.int .u64 0])])
 (.seq (.ops [
 oO 3 (.alloc 1 4 [.int .u64 0])])
 (.seq (.seq (.ops [
 oO 7 (.load 32 true (.t 1)),
 oO 8 (.mv (.c (.int .i64 0)))])
 (.block 0
 (.loop
 (.seq (.ops [
 oO 9 (.bin .lss (.t 8) (.c (.int .i64 32)))])
 (.seq (.cond (.t 9)
 .skip
 (.exit 0))
 (.seq (.block 1
 (.seq (.ops [
 oM 10 8,
 oO 11 (.idx 32 1 false (.t 7) (.t 8)),
 oM 4 10,
 oM 5 11])
 (.seq (.ops [
 oM 12 4,
 oO 13 (.binF .sub (.c (.int .i64 31)) (.t 12)),
 oM 6 13])
 (.draw [
 oM 14 6,
 oO 15 (.bin .quo (.t 14) (.c (.int .i64 8))),
 oO 16 (.idxP 4 1 (.t 3) (.t 15)),
 oO 17 (.load 1 false (.t 16)),
 oM 18 5,
 oO 19 (.conv .u64 (.t 18)),
 oM 20 6,
 oO 21 (.bin .rem (.t 20) (.c (.int .i64 8))),
 oO 22 (.binF .mul (.c (.int .i64 8)) (.t 21)),
 oO 23 (.bin .shl (.t 19) (.t 22)),
 oO 24 (.bin .or (.t 17) (.t 23)),
 oO 25 (.idxP 4 1 (.t 3) (.t 15)),
 ⟨none, .stA 1 4 1 (.t 25) (.t 24), none⟩] ⟨.all, [], .look 0 (.look 1 (.look 2 (.look 3 (.look 4 (.look 5 (.look 6 (.look 7 (.look 8 (.look 9 (.look 10 (.look 11 (.run 12 false .done))))))))))))⟩))))
 (.ops [
 oO 26 (.binF .add (.t 8) (.c (.int .i64 1))),
 oM 8 26])))))))
 (.seq (.ops [
 oO 27 (.load 4 true (.t 3)),
 ⟨none, .stA 1 4 4 (.t 2) (.t 27), none⟩])
 .ret))))⟩
theorem K_limb_Of : chkFun DK Pg Try.f34 A_limb_Of = true := by kernel_rfl
theorem B_limb_Of {args : List AV} {m : Mem} {K : AV → Mem → Prop} (h : vcFun DK Pg A_limb_Of args m K) : ACall Pg F_limb_Of args m K := call_body mixed Try.func34 (by kernel_rfl) K_limb_Of h

noncomputable def A_draw_Stream : AFun := ⟨2, 33, [.t 4, .t 5],
 (.seq (.ops [
 oO 4 (.mv (.c (.nils))),
 oO 5 (.mv (.c (.int .i64 0)))])
 (.seq (.seq (.ops [
 oM 9 1,
 oO 10 (.bin .lss (.t 9) (.c (.int .i64 0))),
 oM 11 10,
 oG 12 (.mv (.t 1)) 11 false,
 oG 13 (.bin .gtr (.t 12) (.c (.int .i64 65536))) 11 false,
 oO 14 (.pick (.t 11) (.c (.bool true)) (.t 13))])
 (.cond (.t 14)
 (.seq (.ops [
 oO 4 (.mv (.c (.nils))),
 oO 5 (.mv (.c (.int .i64 4)))])
 .ret)
 .skip))
 (.seq (.ops [
 oO 6 (.mv (.c (.nils)))])
 (.seq (.seq (.ops [
 oO 7 (.mv (.c (.int .u64 0)))])
 (.block 0
 (.loop
 (.seq (.seq (.ops [
 oM 15 6,
 oO 16 (.len (.t 15)),
 oM 17 1,
 oO 18 (.bin .lss (.t 16) (.t 17))])
 (.cond (.t 18)
 .skip
 (.exit 0)))
 (.seq (.block 1
 (.seq (.ops [
 oM 21 0,
 oM 22 7,
 oK 23 F_draw_number [.t 22, .c (.int .i64 8)],
 oK 24 F_sha_Mac [.t 21, .t 23],
 oO 8 (.alloc 1 32 [.int .u8 0]),
 oS 32 8 24])
 (.ops [
 oM 25 6,
 oO 26 (.slarr 32 1 (.t 8) none none none),
 oO 27 (.app 1 1 (.t 25) (.t 26)),
 oM 6 27])))
 (.ops [
 oM 19 7,
 oO 20 (.bin .add (.t 19) (.c (.int .u64 1))),
 oM 7 20]))))))
 (.seq (.ops [
 oO 28 (.bsl 1 0 [.int .u8 0] []),
 oM 29 6,
 oM 30 1,
 oO 31 (.slice 1 (.t 29) none (some (.t 30)) none),
 oO 32 (.app 1 1 (.t 28) (.t 31)),
 oM 4 32,
 oO 5 (.mv (.c (.int .i64 0)))])
 .ret)))))⟩
theorem K_draw_Stream : chkFun DK Pg Try.f35 A_draw_Stream = true := by kernel_rfl
theorem B_draw_Stream {args : List AV} {m : Mem} {K : AV → Mem → Prop} (h : vcFun DK Pg A_draw_Stream args m K) : ACall Pg F_draw_Stream args m K := call_body mixed Try.func35 (by kernel_rfl) K_draw_Stream h

noncomputable def A_witankeep_Bytes : AFun := ⟨2, 26, [.t 4],
 (.seq (.ops [
 oO 4 (.mv (.c (.bool false)))])
 (.seq (.seq (.ops [
 oM 6 0,
 oO 7 (.len (.t 6)),
 oM 8 1,
 oO 9 (.len (.t 8)),
 oO 10 (.bin .neq (.t 7) (.t 9))])
 (.cond (.t 10)
 (.seq (.ops [
 oO 4 (.mv (.c (.bool false)))])
 .ret)
 .skip))
 (.seq (.seq (.ops [
 oO 5 (.mv (.c (.int .i64 0)))])
 (.block 0
 (.loop
 (.seq (.seq (.ops [
 oM 11 5,
 oM 12 0,
 oO 13 (.len (.t 12)),
 oO 14 (.bin .lss (.t 11) (.t 13))])
 (.cond (.t 14)
 .skip
 (.exit 0)))
 (.seq (.block 1
 (.seq (.draw [
 oM 17 0,
 oM 18 5,
 oO 19 (.idxA 1 (.t 17) (.t 18)),
 oO 20 (.load 1 false (.t 19)),
 oM 21 1,
 oM 22 5,
 oO 23 (.idxA 1 (.t 21) (.t 22)),
 oO 24 (.load 1 false (.t 23)),
 oO 25 (.bin .neq (.t 20) (.t 24))] ⟨.no, [], .flat⟩)
 (.cond (.t 25)
 (.seq (.ops [
 oO 4 (.mv (.c (.bool false)))])
 .ret)
 .skip)))
 (.ops [
 oM 15 5,
 oO 16 (.bin .add (.t 15) (.c (.int .i64 1))),
 oM 5 16]))))))
 (.seq (.ops [
 oO 4 (.mv (.c (.bool true)))])
 .ret))))⟩
theorem K_witankeep_Bytes : chkFun DK Pg Try.f36 A_witankeep_Bytes = true := by kernel_rfl
theorem B_witankeep_Bytes {args : List AV} {m : Mem} {K : AV → Mem → Prop} (h : vcFun DK Pg A_witankeep_Bytes args m K) : ACall Pg F_witankeep_Bytes args m K := call_body mixed Try.func36 (by kernel_rfl) K_witankeep_Bytes h

noncomputable def A_witanref04_Stream : AFun := ⟨2, 24, [.t 4],
 (.seq (.ops [
 oO 4 (.mv (.c (.nils)))])
 (.seq (.ops [
 oO 5 (.mv (.c (.nils)))])
 (.seq (.seq (.ops [
 oO 6 (.mv (.c (.int .u64 0)))])
 (.block 0
 (.loop
 (.seq (.seq (.ops [
 oM 8 5,
 oO 9 (.len (.t 8)),
 oM 10 1,
 oO 11 (.bin .lss (.t 9) (.t 10))])
 (.cond (.t 11)
 .skip
 (.exit 0)))
 (.seq (.block 1
 (.seq (.ops [
 oM 14 0,
 oM 15 6,
 oK 16 F_witanref04_be [.t 15, .c (.int .i64 8)],
 oK 17 F_witanref04_Mac [.t 14, .t 16],
 oO 7 (.alloc 1 32 [.int .u8 0]),
 oS 32 7 17])
 (.ops [
 oM 18 5,
 oO 19 (.slarr 32 1 (.t 7) none none none),
 oO 20 (.app 1 1 (.t 18) (.t 19)),
 oM 5 20])))
 (.ops [
 oM 12 6,
 oO 13 (.bin .add (.t 12) (.c (.int .u64 1))),
 oM 6 13]))))))
 (.seq (.ops [
 oM 21 5,
 oM 22 1,
 oO 23 (.slice 1 (.t 21) none (some (.t 22)) none),
 oM 4 23])
 .ret))))⟩
theorem K_witanref04_Stream : chkFun DK Pg Try.f37 A_witanref04_Stream = true := by kernel_rfl
theorem B_witanref04_Stream {args : List AV} {m : Mem} {K : AV → Mem → Prop} (h : vcFun DK Pg A_witanref04_Stream args m K) : ACall Pg F_witanref04_Stream args m K := call_body mixed Try.func37 (by kernel_rfl) K_witanref04_Stream h

noncomputable def A_sha_Mac : AFun := ⟨2, 50, [.cell 4 32 true],
 (.seq (.ops [
 oO 4 (.alloc 1 32 [.int .u8 0])])
 (.seq (.seq (.ops [
 oM 10 0,
 oO 11 (.len (.t 10)),
 oO 12 (.bin .gtr (.t 11) (.c (.int .i64 64)))])
 (.cond (.t 12)
 (.seq (.ops [
 oM 13 0,
 oK 14 F_sha_Sum [.t 13],
 oO 5 (.alloc 1 32 [.int .u8 0]),
 oS 32 5 14])
 (.ops [
 oO 15 (.slarr 32 1 (.t 5) none none none),
 oM 0 15]))
 .skip))
 (.seq (.draw [
 oO 16 (.mksl 1 1 [.int .u8 0] (.c (.int .i64 64)) (.c (.int .i64 64))),
 oO 17 (.mksl 1 1 [.int .u8 0] (.c (.int .i64 64)) (.c (.int .i64 64))),
 oM 6 16,
 oM 7 17] ⟨.all, [(1, none)], .run 0 true (.look 2 (.fill (.look 3 .done)))⟩)
 (.seq (.ops [
 oM 18 6,
 oM 19 0,
 oO 20 (.copy 1 (.t 18) (.t 19))])
 (.seq (.ops [
 oM 21 7,
 oM 22 0,
 oO 23 (.copy 1 (.t 21) (.t 22))])
 (.seq (.seq (.ops [
 oM 24 6,
 oO 25 (.len (.t 24)),
 oO 26 (.mv (.c (.int .i64 0)))])
 (.block 0
 (.loop
 (.seq (.ops [
 oO 27 (.bin .lss (.t 26) (.t 25))])
 (.seq (.cond (.t 27)
 .skip
 (.exit 0))
 (.seq (.block 1
 (.seq (.ops [
 oM 28 26,
 oM 8 28])
 (.seq (.ops [
 oM 29 6,
 oM 30 8,
 oO 31 (.idxA 1 (.t 29) (.t 30)),
 oO 32 (.load 1 false (.t 31)),
 oO 33 (.bin .xor (.t 32) (.c (.int .u8 54))),
 oO 34 (.idxA 1 (.t 29) (.t 30)),
 oS 1 34 33])
 (.ops [
 oM 35 7,
 oM 36 8,
 oO 37 (.idxA 1 (.t 35) (.t 36)),
 oO 38 (.load 1 false (.t 37)),
 oO 39 (.bin .xor (.t 38) (.c (.int .u8 92))),
 oO 40 (.idxA 1 (.t 35) (.t 36)),
 oS 1 40 39]))))
 (.ops [
 oO 41 (.bin .add (.t 26) (.c (.int .i64 1))),
 oM 26 41])))))))
 (.seq (.ops [
 oM 42 6,
 oM 43 1,
 oO 44 (.app 1 1 (.t 42) (.t 43)),
 oK 45 F_sha_Sum [.t 44],
 oO 9 (.alloc 1 32 [.int .u8 0]),
 oS 32 9 45])
 (.seq (.ops [
 oM 46 7,
 oO 47 (.slarr 32 1 (.t 9) none none none),
 oO 48 (.app 1 1 (.t 46) (.t 47)),
 oK 49 F_sha_Sum [.t 48],
 oS 32 4 49])
 .ret))))))))⟩
theorem K_sha_Mac : chkFun DK Pg Try.f38 A_sha_Mac = true := by kernel_rfl
theorem B_sha_Mac {args : List AV} {m : Mem} {K : AV → Mem → Prop} (h : vcFun DK Pg A_sha_Mac args m K) : ACall Pg F_sha_Mac args m K := call_body mixed Try.func38 (by kernel_rfl) K_sha_Mac h

noncomputable def A_witanref01_Add : AFun := ⟨2, 28, [.cell 4 4 true, .t 5],
 (.seq (.ops [
 oO 2 (.box 1 4 (.t 0)),
 oO 3 (.box 1 4 (.t 1)),
 oO 4 (.alloc 1 4 [.int .u64 0]),
 oO 5 (.mv (.c (.int .u64 0)))])
 (.seq (.ops [
 oO 6 (.mv (.c (.int .u64 0)))])
 (.seq (.ops [
 oO 7 (.alloc 1 4 [.int .u64 0])])
 (.seq (.seq (.ops [
 oO 8 (.mv (.c (.int .i64 0)))])
 (.block 0
 (.loop
 (.seq (.seq (.ops [
 oM 9 8,
 oO 10 (.bin .lss (.t 9) (.c (.int .i64 4)))])
 (.cond (.t 10)
 .skip
 (.exit 0)))
 (.seq (.block 1
 (.draw [
 oM 14 8,
 oM 15 8,
 oO 16 (.idxP 4 1 (.t 2) (.t 15)),
 oO 17 (.load 1 false (.t 16)),
 oM 18 8,
 oO 19 (.idxP 4 1 (.t 3) (.t 18)),
 oO 20 (.load 1 false (.t 19)),
 oM 21 6,
 oO 22 (.x64 false F_bits_Add64 (.t 17) (.t 20) (.t 21)),
 oM 13 22,
 oO 23 (.ext (.t 13) 0),
 oO 24 (.ext (.t 13) 1),
 oO 25 (.idxP 4 1 (.t 7) (.t 14)),
 ⟨none, .stA 1 4 1 (.t 25) (.t 23), none⟩,
 oM 6 24] ⟨.all, [], .look 0 (.look 1 (.look 2 (.look 3 (.look 4 (.look 5 (.look 6 (.look 7 (.run 8 true (.look 9 (.look 10 (.look 11 (.look 12 (.run 13 false (.look 14 .done))))))))))))))⟩))
 (.ops [
 oM 11 8,
 oO 12 (.binF .add (.t 11) (.c (.int .i64 1))),
 oM 8 12]))))))
 (.seq (.ops [
 oO 26 (.load 4 true (.t 7)),
 oM 27 6,
 ⟨none, .stA 1 4 4 (.t 4) (.t 26), none⟩,
 oM 5 27])
 .ret)))))⟩
theorem K_witanref01_Add : chkFun DK Pg Try.f57 A_witanref01_Add = true := by kernel_rfl
theorem B_witanref01_Add {args : List AV} {m : Mem} {K : AV → Mem → Prop} (h : vcFun DK Pg A_witanref01_Add args m K) : ACall Pg F_witanref01_Add args m K := call_body mixed Try.func57 (by kernel_rfl) K_witanref01_Add h

noncomputable def A_field_Sub : AFun := ⟨3, 32, [.cell 6 4 true],
 (.seq (.ops [
 oO 4 (.box 1 4 (.t 1)),
 oO 5 (.box 1 4 (.t 2)),
 oO 6 (.alloc 1 4 [.int .u64 0])])
 (.seq (.ops [
 oM 12 0,
 oK 13 F_field_less [.t 12],
 oM 11 13,
 oO 14 (.ext (.t 11) 0),
 oO 15 (.ext (.t 11) 1),
 oO 7 (.alloc 1 4 [.int .u64 0]),
 ⟨none, .stA 1 4 4 (.t 7) (.t 14), none⟩,
 oM 8 15])
 (.seq (.seq (.ops [
 oM 16 8,
 oO 17 (.un .not (.t 16))])
 (.cond (.t 17)
 (.seq (.ops [
 oO 18 (.build [.int .u64 0, .int .u64 0, .int .u64 0, .int .u64 0] []),
 ⟨none, .stA 1 4 4 (.t 6) (.t 18), none⟩])
 .ret)
 .skip))
 (.seq (.draw [
 oM 20 0,
 oK 21 F_field_Prime [.t 20],
 oM 22 0,
 oO 23 (.load 4 true (.t 5)),
 oK 24 F_field_Red [.t 22, .t 23],
 oK 25 F_limb_Sub [.t 21, .t 24],
 oM 19 25,
 oO 26 (.ext (.t 19) 0),
 oO 27 (.ext (.t 19) 1),
 oO 9 (.alloc 1 4 [.int .u64 0]),
 oS 4 9 26,
 oM 10 27] ⟨.all, [(9, some 10)], .look 0 (.look 2 (.look 3 (.run 1 true (.run 4 true (.run 5 true (.look 6 (.look 7 (.pre 9 10 (.look 8 (.fill (.look 11 .done)))))))))))⟩)
 (.seq (.ops [
 oM 28 0,
 oO 29 (.load 4 true (.t 4)),
 oO 30 (.load 4 true (.t 9)),
 oK 31 F_field_Add [.t 28, .t 29, .t 30],
 ⟨none, .stA 1 4 4 (.t 6) (.t 31), none⟩])
 .ret)))))⟩
theorem K_field_Sub : chkFun DK Pg Try.f59 A_field_Sub = true := by kernel_rfl
theorem B_field_Sub {args : List AV} {m : Mem} {K : AV → Mem → Prop} (h : vcFun DK Pg A_field_Sub args m K) : ACall Pg F_field_Sub args m K := call_body mixed Try.func59 (by kernel_rfl) K_field_Sub h

noncomputable def A_field_Mul : AFun := ⟨3, 29, [.cell 6 4 true],
 (.seq (.ops [
 oO 4 (.box 1 4 (.t 1)),
 oO 5 (.box 1 4 (.t 2)),
 oO 6 (.alloc 1 4 [.int .u64 0])])
 (.seq (.ops [
 oM 12 0,
 oK 13 F_field_less [.t 12],
 oM 11 13,
 oO 14 (.ext (.t 11) 0),
 oO 15 (.ext (.t 11) 1),
 oO 7 (.alloc 1 4 [.int .u64 0]),
 ⟨none, .stA 1 4 4 (.t 7) (.t 14), none⟩,
 oM 8 15])
 (.seq (.seq (.ops [
 oM 16 8,
 oO 17 (.un .not (.t 16))])
 (.cond (.t 17)
 (.seq (.ops [
 oO 18 (.build [.int .u64 0, .int .u64 0, .int .u64 0, .int .u64 0] []),
 ⟨none, .stA 1 4 4 (.t 6) (.t 18), none⟩])
 .ret)
 .skip))
 (.seq (.ops [
 oO 20 (.load 4 true (.t 4)),
 oO 21 (.load 4 true (.t 5)),
 oK 22 F_limb_Mul [.t 20, .t 21],
 oM 19 22,
 oO 23 (.ext (.t 19) 0),
 oO 24 (.ext (.t 19) 1),
 oO 9 (.alloc 1 4 [.int .u64 0]),
 oO 10 (.alloc 1 4 [.int .u64 0]),
 ⟨none, .stA 1 4 4 (.t 9) (.t 23), none⟩,
 ⟨none, .stA 1 4 4 (.t 10) (.t 24), none⟩])
 (.seq (.ops [
 oO 25 (.load 4 true (.t 9)),
 oO 26 (.load 4 true (.t 10)),
 oO 27 (.load 4 true (.t 7)),
 oK 28 F_field_fold [.t 25, .t 26, .t 27],
 ⟨none, .stA 1 4 4 (.t 6) (.t 28), none⟩])
 .ret)))))⟩
theorem K_field_Mul : chkFun DK Pg Try.f60 A_field_Mul = true := by kernel_rfl
theorem B_field_Mul {args : List AV} {m : Mem} {K : AV → Mem → Prop} (h : vcFun DK Pg A_field_Mul args m K) : ACall Pg F_field_Mul args m K := call_body mixed Try.func60 (by kernel_rfl) K_field_Mul h

noncomputable def A_draw_joined : AFun := ⟨2, 53, [.t 4, .t 5],
 (.seq (.ops [
 oO 4 (.mv (.c (.nils))),
 oO 5 (.mv (.c (.bool false)))])
 (.seq (.ops [
 oM 12 0,
 oO 13 (.lens (.t 12)),
 oO 14 (.bin .add (.c (.int .i64 4)) (.t 13)),
 oM 6 14])
 (.seq (.seq (.ops [
 oM 15 1,
 oO 16 (.len (.t 15)),
 oO 17 (.mv (.c (.int .i64 0)))])
 (.block 0
 (.loop
 (.seq (.ops [
 oO 18 (.bin .lss (.t 17) (.t 16))])
 (.seq (.cond (.t 18)
 .skip
 (.exit 0))
 (.seq (.block 1
 (.seq (.ops [
 oO 19 (.idxA 1 (.t 15) (.t 17)),
 oO 20 (.load 1 false (.t 19)),
 oM 8 20])
 (.seq (.seq (.ops [
 oM 21 6,
 oO 22 (.bin .gtr (.t 21) (.c (.int .i64 65536)))])
 (.cond (.t 22)
 (.seq (.ops [
 oO 4 (.mv (.c (.nils))),
 oO 5 (.mv (.c (.bool false)))])
 .ret)
 .skip))
 (.ops [
 oM 23 6,
 oM 24 8,
 oO 25 (.len (.t 24)),
 oO 26 (.bin .add (.c (.int .i64 4)) (.t 25)),
 oO 27 (.bin .add (.t 23) (.t 26)),
 oM 6 27]))))
 (.ops [
 oO 28 (.bin .add (.t 17) (.c (.int .i64 1))),
 oM 17 28])))))))
 (.seq (.seq (.ops [
 oM 29 6,
 oO 30 (.bin .gtr (.t 29) (.c (.int .i64 65536)))])
 (.cond (.t 30)
 (.seq (.ops [
 oO 4 (.mv (.c (.nils))),
 oO 5 (.mv (.c (.bool false)))])
 .ret)
 .skip))
 (.seq (.ops [
 oM 31 0,
 oO 32 (.lens (.t 31)),
 oO 33 (.conv .u64 (.t 32)),
 oK 34 F_draw_number [.t 33, .c (.int .i64 4)],
 oM 35 0,
 oO 36 (.app 1 1 (.t 34) (.t 35)),
 oM 9 36])
 (.seq (.seq (.ops [
 oM 37 1,
 oO 38 (.len (.t 37)),
 oO 39 (.mv (.c (.int .i64 0)))])
 (.block 2
 (.loop
 (.seq (.ops [
 oO 40 (.bin .lss (.t 39) (.t 38))])
 (.seq (.cond (.t 40)
 .skip
 (.exit 2))
 (.seq (.block 3
 (.seq (.ops [
 oO 41 (.idxA 1 (.t 37) (.t 39)),
 oO 42 (.load 1 false (.t 41)),
 oM 11 42])
 (.ops [
 oM 43 9,
 oM 44 11,
 oO 45 (.len (.t 44)),
 oO 46 (.conv .u64 (.t 45)),
 oK 47 F_draw_number [.t 46, .c (.int .i64 4)],
 oO 48 (.app 1 1 (.t 43) (.t 47)),
 oM 49 11,
 oO 50 (.app 1 1 (.t 48) (.t 49)),
 oM 9 50])))
 (.ops [
 oO 51 (.bin .add (.t 39) (.c (.int .i64 1))),
 oM 39 51])))))))
 (.seq (.ops [
 oM 52 9,
 oM 4 52,
 oO 5 (.mv (.c (.bool true)))])
 .ret)))))))⟩
theorem K_draw_joined : chkFun DK Pg Try.f61 A_draw_joined = true := by kernel_rfl
theorem B_draw_joined {args : List AV} {m : Mem} {K : AV → Mem → Prop} (h : vcFun DK Pg A_draw_joined args m K) : ACall Pg F_draw_joined args m K := call_body mixed Try.func61 (by kernel_rfl) K_draw_joined h

noncomputable def A_draw_with : AFun := ⟨2, 10, [.t 4],
 (.seq (.ops [
 oO 4 (.mv (.c (.nils)))])
 (.seq (.ops [
 oO 5 (.bsl 1 0 [.int .u8 0] []),
 oM 6 0,
 oO 7 (.app 1 1 (.t 5) (.t 6)),
 oM 8 1,
 oO 9 (.app 1 1 (.t 7) (.t 8)),
 oM 4 9])
 .ret))⟩
theorem K_draw_with : chkFun DK Pg Try.f62 A_draw_with = true := by kernel_rfl
theorem B_draw_with {args : List AV} {m : Mem} {K : AV → Mem → Prop} (h : vcFun DK Pg A_draw_with args m K) : ACall Pg F_draw_with args m K := call_body mixed Try.func62 (by kernel_rfl) K_draw_with h

noncomputable def A_witanref04_Joined : AFun := ⟨2, 49, [.t 4, .t 5],
 (.seq (.ops [
 oO 4 (.mv (.c (.nils))),
 oO 5 (.mv (.c (.bool false)))])
 (.seq (.seq (.ops [
 oM 8 0,
 oO 9 (.lens (.t 8)),
 oO 10 (.bin .gtr (.t 9) (.c (.int .i64 65532)))])
 (.cond (.t 10)
 (.seq (.ops [
 oO 4 (.mv (.c (.nils))),
 oO 5 (.mv (.c (.bool false)))])
 .ret)
 .skip))
 (.seq (.ops [
 oM 11 0,
 oO 12 (.lens (.t 11)),
 oO 13 (.conv .u64 (.t 12)),
 oK 14 F_witanref04_be [.t 13, .c (.int .i64 4)],
 oM 15 0,
 oO 16 (.sbytes (.t 15)),
 oO 17 (.bsl 1 2 [.nils] [(0, 1, .t 14), (1, 1, .t 16)]),
 oK 18 F_witanref04_join [.t 17],
 oM 6 18])
 (.seq (.seq (.ops [
 oO 7 (.mv (.c (.int .i64 0)))])
 (.block 0
 (.loop
 (.seq (.seq (.ops [
 oM 19 7,
 oM 20 1,
 oO 21 (.len (.t 20)),
 oO 22 (.bin .lss (.t 19) (.t 21))])
 (.cond (.t 22)
 .skip
 (.exit 0)))
 (.seq (.block 1
 (.seq (.seq (.ops [
 oM 25 1,
 oM 26 7,
 oO 27 (.idxA 1 (.t 25) (.t 26)),
 oO 28 (.load 1 false (.t 27)),
 oO 29 (.len (.t 28)),
 oM 30 6,
 oO 31 (.len (.t 30)),
 oO 32 (.bin .sub (.c (.int .i64 65532)) (.t 31)),
 oO 33 (.bin .gtr (.t 29) (.t 32))])
 (.cond (.t 33)
 (.seq (.ops [
 oO 4 (.mv (.c (.nils))),
 oO 5 (.mv (.c (.bool false)))])
 .ret)
 .skip))
 (.draw [
 oM 34 6,
 oM 35 1,
 oM 36 7,
 oO 37 (.idxA 1 (.t 35) (.t 36)),
 oO 38 (.load 1 false (.t 37)),
 oO 39 (.len (.t 38)),
 oO 40 (.conv .u64 (.t 39)),
 oK 41 F_witanref04_be [.t 40, .c (.int .i64 4)],
 oO 42 (.app 1 1 (.t 34) (.t 41)),
 oM 43 1,
 oM 44 7,
 oO 45 (.idxA 1 (.t 43) (.t 44)),
 oO 46 (.load 1 false (.t 45)),
 oO 47 (.app 1 1 (.t 42) (.t 46)),
 oM 6 47] ⟨.no, [], .look 0 (.look 1 (.look 2 (.look 3 (.look 4 (.look 5 (.look 6 (.look 9 (.look 10 (.look 11 (.look 12 (.run 7 true (.run 8 true (.run 13 false (.look 14 .done))))))))))))))⟩)))
 (.ops [
 oM 23 7,
 oO 24 (.bin .add (.t 23) (.c (.int .i64 1))),
 oM 7 24]))))))
 (.seq (.ops [
 oM 48 6,
 oM 4 48,
 oO 5 (.mv (.c (.bool true)))])
 .ret)))))⟩
theorem K_witanref04_Joined : chkFun DK Pg Try.f63 A_witanref04_Joined = true := by kernel_rfl
theorem B_witanref04_Joined {args : List AV} {m : Mem} {K : AV → Mem → Prop} (h : vcFun DK Pg A_witanref04_Joined args m K) : ACall Pg F_witanref04_Joined args m K := call_body mixed Try.func63 (by kernel_rfl) K_witanref04_Joined h

noncomputable def A_witanref04_Sum256 : AFun := ⟨1, 208, [.cell 2 32 true],
 (.seq (.ops [
 oO 2 (.alloc 1 32 [.int .u8 0])])
 (.seq (.ops [
 oK 21 F_witanref04_k256 [],
 oO 3 (.alloc 1 64 [.int .u32 0]),
 oS 64 3 21])
 (.seq (.ops [
 oO 22 (.build [.int .u32 0, .int .u32 0, .int .u32 0, .int .u32 0, .int .u32 0, .int .u32 0, .int .u32 0, .int .u32 0] [(0, 1, .c (.int .u32 1779033703)), (1, 1, .c (.int .u32 3144134277)), (2, 1, .c (.int .u32 1013904242)), (3, 1, .c (.int .u32 2773480762)), (4, 1, .c (.int .u32 1359893119)), (5, 1, .c (.int .u32 2600822924)), (6, 1, .c (.int .u32 528734635)), (7, 1, .c (.int .u32 1541459225))]),
 oO 4 (.alloc 1 8 [.int .u32 0]),
 oS 8 4 22])
 (.seq (.ops [
 oM 23 0,
 oK 24 F_witanref04_padded [.t 23],
 oM 5 24])
 (.seq (.seq (.ops [
 oO 6 (.mv (.c (.int .i64 0)))])
 (.block 0
 (.loop
 (.seq (.seq (.ops [
 oM 25 6,
 oM 26 5,
 oO 27 (.len (.t 26)),
 oO 28 (.bin .lss (.t 25) (.t 27))])
 (.cond (.t 28)
 .skip
 (.exit 0)))
 (.seq (.block 1
 (.seq (.ops [
 oO 7 (.alloc 1 64 [.int .u32 0])])
 (.seq (.seq (.ops [
 oO 8 (.mv (.c (.int .i64 0)))])
 (.block 2
 (.loop
 (.seq (.seq (.ops [
 oM 31 8,
 oO 32 (.bin .lss (.t 31) (.c (.int .i64 64)))])
 (.cond (.t 32)
 .skip
 (.exit 2)))
 (.seq (.block 3
 (.seq (.seq (.ops [
 oM 35 8,
 oO 36 (.bin .lss (.t 35) (.c (.int .i64 16)))])
 (.cond (.t 36)
 (.seq (.seq (.ops [
 oO 9 (.mv (.c (.int .i64 0)))])
 (.block 4
 (.loop
 (.seq (.seq (.ops [
 oM 37 9,
 oO 38 (.bin .lss (.t 37) (.c (.int .i64 4)))])
 (.cond (.t 38)
 .skip
 (.exit 4)))
 (.seq (.block 5
 (.draw [
 oM 41 8,
 oM 42 8,
 oO 43 (.idxP 64 1 (.t 7) (.t 42)),
 oO 44 (.load 1 false (.t 43)),
 oO 45 (.bin .shl (.t 44) (.c (.int .u64 8))),
 oM 46 5,
 oM 47 6,
 oM 48 8,
 oO 49 (.bin .mul (.c (.int .i64 4)) (.t 48)),
 oO 50 (.bin .add (.t 47) (.t 49)),
 oM 51 9,
 oO 52 (.bin .add (.t 50) (.t 51)),
 oO 53 (.idxA 1 (.t 46) (.t 52)),
 oO 54 (.load 1 false (.t 53)),
 oO 55 (.conv .u32 (.t 54)),
 oO 56 (.bin .or (.t 45) (.t 55)),
 oO 57 (.idxP 64 1 (.t 7) (.t 41)),
 oS 1 57 56] ⟨.all, [], .look 0 (.look 1 (.look 2 (.look 3 (.look 4 (.look 5 (.look 6 (.look 7 (.look 8 (.look 9 (.look 10 (.look 11 (.look 12 (.look 13 (.look 14 (.look 15 (.look 16 (.run 17 false .done)))))))))))))))))⟩))
 (.ops [
 oM 39 9,
 oO 40 (.bin .add (.t 39) (.c (.int .i64 1))),
 oM 9 40]))))))
 (.exit 3))
 .skip))
 (.seq (.draw [
 oM 58 8,
 oO 59 (.bin .sub (.t 58) (.c (.int .i64 15))),
 oO 60 (.idxP 64 1 (.t 7) (.t 59)),
 oO 61 (.load 1 false (.t 60)),
 oM 62 8,
 oO 63 (.bin .sub (.t 62) (.c (.int .i64 2))),
 oO 64 (.idxP 64 1 (.t 7) (.t 63)),
 oO 65 (.load 1 false (.t 64)),
 oM 10 61,
 oM 11 65] ⟨.no, [], .flat⟩)
 (.draw [
 oM 66 8,
 oM 67 8,
 oO 68 (.bin .sub (.t 67) (.c (.int .i64 16))),
 oO 69 (.idxP 64 1 (.t 7) (.t 68)),
 oO 70 (.load 1 false (.t 69)),
 oM 71 8,
 oO 72 (.bin .sub (.t 71) (.c (.int .i64 7))),
 oO 73 (.idxP 64 1 (.t 7) (.t 72)),
 oO 74 (.load 1 false (.t 73)),
 oO 75 (.bin .add (.t 70) (.t 74)),
 oM 76 10,
 oK 77 F_witanref04_rot32 [.t 76, .c (.int .i64 7)],
 oM 78 10,
 oK 79 F_witanref04_rot32 [.t 78, .c (.int .i64 18)],
 oO 80 (.bin .xor (.t 77) (.t 79)),
 oM 81 10,
 oO 82 (.bin .shr (.t 81) (.c (.int .u64 3))),
 oO 83 (.bin .xor (.t 80) (.t 82)),
 oO 84 (.bin .add (.t 75) (.t 83)),
 oM 85 11,
 oK 86 F_witanref04_rot32 [.t 85, .c (.int .i64 17)],
 oM 87 11,
 oK 88 F_witanref04_rot32 [.t 87, .c (.int .i64 19)],
 oO 89 (.bin .xor (.t 86) (.t 88)),
 oM 90 11,
 oO 91 (.bin .shr (.t 90) (.c (.int .u64 10))),
 oO 92 (.bin .xor (.t 89) (.t 91)),
 oO 93 (.bin .add (.t 84) (.t 92)),
 oO 94 (.idxP 64 1 (.t 7) (.t 66)),
 oS 1 94 93] ⟨.all, [], .look 0 (.look 1 (.look 2 (.look 3 (.look 4 (.look 5 (.look 6 (.look 7 (.look 8 (.look 9 (.look 10 (.look 12 (.look 15 (.look 16 (.look 19 (.look 21 (.look 24 (.look 25 (.run 11 true (.run 13 true (.look 14 (.look 17 (.look 18 (.run 20 true (.run 22 true (.look 23 (.look 26 (.look 27 (.look 28 (.run 29 false .done)))))))))))))))))))))))))))))⟩))))
 (.ops [
 oM 33 8,
 oO 34 (.bin .add (.t 33) (.c (.int .i64 1))),
 oM 8 34]))))))
 (.seq (.ops [
 oO 95 (.load 8 true (.t 4)),
 oO 12 (.alloc 1 8 [.int .u32 0]),
 oS 8 12 95])
 (.seq (.seq (.ops [
 oO 13 (.mv (.c (.int .i64 0)))])
 (.block 6
 (.loop
 (.seq (.seq (.ops [
 oM 96 13,
 oO 97 (.bin .lss (.t 96) (.c (.int .i64 64)))])
 (.cond (.t 97)
 .skip
 (.exit 6)))
 (.seq (.block 7
 (.seq (.draw [
 oO 100 (.idxP 8 1 (.t 12) (.c (.int .i64 0))),
 oO 101 (.load 1 false (.t 100)),
 oO 102 (.idxP 8 1 (.t 12) (.c (.int .i64 4))),
 oO 103 (.load 1 false (.t 102)),
 oM 14 101,
 oM 15 103] ⟨.no, [], .flat⟩)
 (.seq (.draw [
 oO 104 (.idxP 8 1 (.t 12) (.c (.int .i64 7))),
 oO 105 (.load 1 false (.t 104)),
 oM 106 15,
 oK 107 F_witanref04_rot32 [.t 106, .c (.int .i64 6)],
 oM 108 15,
 oK 109 F_witanref04_rot32 [.t 108, .c (.int .i64 11)],
 oO 110 (.bin .xor (.t 107) (.t 109)),
 oM 111 15,
 oK 112 F_witanref04_rot32 [.t 111, .c (.int .i64 25)],
 oO 113 (.bin .xor (.t 110) (.t 112)),
 oO 114 (.bin .add (.t 105) (.t 113)),
 oM 115 15,
 oO 116 (.idxP 8 1 (.t 12) (.c (.int .i64 5))),
 oO 117 (.load 1 false (.t 116)),
 oO 118 (.bin .and (.t 115) (.t 117)),
 oM 119 15,
 oO 120 (.un .xor (.t 119)),
 oO 121 (.idxP 8 1 (.t 12) (.c (.int .i64 6))),
 oO 122 (.load 1 false (.t 121)),
 oO 123 (.bin .and (.t 120) (.t 122)),
 oO 124 (.bin .xor (.t 118) (.t 123)),
 oO 125 (.bin .add (.t 114) (.t 124)),
 oM 126 13,
 oO 127 (.idxP 64 1 (.t 3) (.t 126)),
 oO 128 (.load 1 false (.t 127)),
 oO 129 (.bin .add (.t 125) (.t 128)),
 oM 130 13,
 oO 131 (.idxP 64 1 (.t 7) (.t 130)),
 oO 132 (.load 1 false (.t 131)),
 oO 133 (.bin .add (.t 129) (.t 132)),
 oM 16 133] ⟨.all, [], .look 0 (.look 1 (.look 2 (.look 4 (.look 7 (.look 11 (.look 12 (.look 13 (.look 14 (.look 15 (.look 16 (.look 17 (.look 18 (.look 19 (.look 20 (.look 22 (.look 23 (.look 24 (.look 26 (.look 27 (.look 28 (.run 3 true (.run 5 true (.look 6 (.run 8 true (.look 9 (.look 10 (.look 21 (.look 25 (.look 29 (.look 30 .done))))))))))))))))))))))))))))))⟩)
 (.seq (.draw [
 oM 134 14,
 oK 135 F_witanref04_rot32 [.t 134, .c (.int .i64 2)],
 oM 136 14,
 oK 137 F_witanref04_rot32 [.t 136, .c (.int .i64 13)],
 oO 138 (.bin .xor (.t 135) (.t 137)),
 oM 139 14,
 oK 140 F_witanref04_rot32 [.t 139, .c (.int .i64 22)],
 oO 141 (.bin .xor (.t 138) (.t 140)),
 oM 142 14,
 oO 143 (.idxP 8 1 (.t 12) (.c (.int .i64 1))),
 oO 144 (.load 1 false (.t 143)),
 oO 145 (.bin .and (.t 142) (.t 144)),
 oM 146 14,
 oO 147 (.idxP 8 1 (.t 12) (.c (.int .i64 2))),
 oO 148 (.load 1 false (.t 147)),
 oO 149 (.bin .and (.t 146) (.t 148)),
 oO 150 (.bin .xor (.t 145) (.t 149)),
 oO 151 (.idxP 8 1 (.t 12) (.c (.int .i64 1))),
 oO 152 (.load 1 false (.t 151)),
 oO 153 (.idxP 8 1 (.t 12) (.c (.int .i64 2))),
 oO 154 (.load 1 false (.t 153)),
 oO 155 (.bin .and (.t 152) (.t 154)),
 oO 156 (.bin .xor (.t 150) (.t 155)),
 oO 157 (.bin .add (.t 141) (.t 156)),
 oM 17 157] ⟨.all, [], .look 0 (.look 2 (.look 5 (.look 8 (.look 9 (.look 10 (.look 11 (.look 12 (.look 13 (.look 14 (.look 15 (.look 16 (.look 17 (.look 18 (.look 19 (.look 20 (.look 21 (.look 22 (.run 1 true (.run 3 true (.look 4 (.run 6 true (.look 7 (.look 23 (.look 24 .done))))))))))))))))))))))))⟩)
 (.ops [
 oM 158 16,
 oM 159 17,
 oO 160 (.bin .add (.t 158) (.t 159)),
 oO 161 (.idxP 8 1 (.t 12) (.c (.int .i64 0))),
 oO 162 (.load 1 false (.t 161)),
 oO 163 (.idxP 8 1 (.t 12) (.c (.int .i64 1))),
 oO 164 (.load 1 false (.t 163)),
 oO 165 (.idxP 8 1 (.t 12) (.c (.int .i64 2))),
 oO 166 (.load 1 false (.t 165)),
 oO 167 (.idxP 8 1 (.t 12) (.c (.int .i64 3))),
 oO 168 (.load 1 false (.t 167)),
 oM 169 16,
 oO 170 (.bin .add (.t 168) (.t 169)),
 oO 171 (.idxP 8 1 (.t 12) (.c (.int .i64 4))),
 oO 172 (.load 1 false (.t 171)),
 oO 173 (.idxP 8 1 (.t 12) (.c (.int .i64 5))),
 oO 174 (.load 1 false (.t 173)),
 oO 175 (.idxP 8 1 (.t 12) (.c (.int .i64 6))),
 oO 176 (.load 1 false (.t 175)),
 oO 177 (.build [.int .u32 0, .int .u32 0, .int .u32 0, .int .u32 0, .int .u32 0, .int .u32 0, .int .u32 0, .int .u32 0] [(0, 1, .t 160), (1, 1, .t 162), (2, 1, .t 164), (3, 1, .t 166), (4, 1, .t 170), (5, 1, .t 172), (6, 1, .t 174), (7, 1, .t 176)]),
 oS 8 12 177])))))
 (.ops [
 oM 98 13,
 oO 99 (.bin .add (.t 98) (.c (.int .i64 1))),
 oM 13 99]))))))
 (.seq (.ops [
 oO 18 (.mv (.c (.int .i64 0)))])
 (.block 8
 (.loop
 (.seq (.seq (.ops [
 oM 178 18,
 oO 179 (.bin .lss (.t 178) (.c (.int .i64 8)))])
 (.cond (.t 179)
 .skip
 (.exit 8)))
 (.seq (.block 9
 (.draw [
 oM 182 18,
 oO 183 (.idxP 8 1 (.t 4) (.t 182)),
 oO 184 (.load 1 false (.t 183)),
 oM 185 18,
 oO 186 (.idxP 8 1 (.t 12) (.t 185)),
 oO 187 (.load 1 false (.t 186)),
 oO 188 (.bin .add (.t 184) (.t 187)),
 oO 189 (.idxP 8 1 (.t 4) (.t 182)),
 oS 1 189 188] ⟨.all, [], .look 0 (.look 1 (.look 2 (.look 3 (.look 4 (.look 5 (.look 6 (.look 7 (.run 8 false .done))))))))⟩))
 (.ops [
 oM 180 18,
 oO 181 (.bin .add (.t 180) (.c (.int .i64 1))),
 oM 18 181])))))))))))
 (.ops [
 oM 29 6,
 oO 30 (.bin .add (.t 29) (.c (.int .i64 64))),
 oM 6 30]))))))
 (.seq (.ops [
 oO 19 (.alloc 1 32 [.int .u8 0])])
 (.seq (.seq (.ops [
 oO 20 (.mv (.c (.int .i64 0)))])
 (.block 10
 (.loop
 (.seq (.seq (.ops [
 oM 190 20,
 oO 191 (.bin .lss (.t 190) (.c (.int .i64 32)))])
 (.cond (.t 191)
 .skip
 (.exit 10)))
 (.seq (.block 11
 (.ops [
 oM 194 20,
 oM 195 20,
 oO 196 (.bin .quo (.t 195) (.c (.int .i64 4))),
 oO 197 (.idxP 8 1 (.t 4) (.t 196)),
 oO 198 (.load 1 false (.t 197)),
 oM 199 20,
 oO 200 (.bin .rem (.t 199) (.c (.int .i64 4))),
 oO 201 (.bin .mul (.c (.int .i64 8)) (.t 200)),
 oO 202 (.bin .sub (.c (.int .i64 24)) (.t 201)),
 oO 203 (.conv .u64 (.t 202)),
 oO 204 (.bin .shr (.t 198) (.t 203)),
 oO 205 (.conv .u8 (.t 204)),
 oO 206 (.idxP 32 1 (.t 19) (.t 194)),
 oS 1 206 205]))
 (.ops [
 oM 192 20,
 oO 193 (.bin .add (.t 192) (.c (.int .i64 1))),
 oM 20 193]))))))
 (.seq (.ops [
 oO 207 (.load 32 true (.t 19)),
 oS 32 2 207])
 .ret))))))))⟩
theorem K_witanref04_Sum256 : chkFun DK Pg Try.f64 A_witanref04_Sum256 = true := by kernel_rfl
theorem B_witanref04_Sum256 {args : List AV} {m : Mem} {K : AV → Mem → Prop} (h : vcFun DK Pg A_witanref04_Sum256 args m K) : ACall Pg F_witanref04_Sum256 args m K := call_body mixed Try.func64 (by kernel_rfl) K_witanref04_Sum256 h

noncomputable def A_witanref04_join : AFun := ⟨1, 18, [.t 2],
 (.seq (.ops [
 oO 2 (.mv (.c (.nils)))])
 (.seq (.ops [
 oO 3 (.mv (.c (.nils)))])
 (.seq (.seq (.ops [
 oO 4 (.mv (.c (.int .i64 0)))])
 (.block 0
 (.loop
 (.seq (.seq (.ops [
 oM 5 4,
 oM 6 0,
 oO 7 (.len (.t 6)),
 oO 8 (.bin .lss (.t 5) (.t 7))])
 (.cond (.t 8)
 .skip
 (.exit 0)))
 (.seq (.block 1
 (.ops [
 oM 11 3,
 oM 12 0,
 oM 13 4,
 oO 14 (.idxA 1 (.t 12) (.t 13)),
 oO 15 (.load 1 false (.t 14)),
 oO 16 (.app 1 1 (.t 11) (.t 15)),
 oM 3 16]))
 (.ops [
 oM 9 4,
 oO 10 (.bin .add (.t 9) (.c (.int .i64 1))),
 oM 4 10]))))))
 (.seq (.ops [
 oM 17 3,
 oM 2 17])
 .ret))))⟩
theorem K_witanref04_join : chkFun DK Pg Try.f65 A_witanref04_join = true := by kernel_rfl
theorem B_witanref04_join {args : List AV} {m : Mem} {K : AV → Mem → Prop} (h : vcFun DK Pg A_witanref04_join args m K) : ACall Pg F_witanref04_join args m K := call_body mixed Try.func65 (by kernel_rfl) K_witanref04_join h

noncomputable def A_witanref01_Wide : AFun := ⟨3, 11, [.cell 6 4 true],
 (.seq (.ops [
 oO 4 (.box 1 4 (.t 1)),
 oO 5 (.box 1 4 (.t 2)),
 oO 6 (.alloc 1 4 [.int .u64 0])])
 (.seq (.ops [
 oM 7 0,
 oO 8 (.load 4 true (.t 5)),
 oO 9 (.load 4 true (.t 4)),
 oK 10 F_witanref01_fold [.t 7, .t 8, .t 9],
 ⟨none, .stA 1 4 4 (.t 6) (.t 10), none⟩])
 .ret))⟩
theorem K_witanref01_Wide : chkFun DK Pg Try.f66 A_witanref01_Wide = true := by kernel_rfl
theorem B_witanref01_Wide {args : List AV} {m : Mem} {K : AV → Mem → Prop} (h : vcFun DK Pg A_witanref01_Wide args m K) : ACall Pg F_witanref01_Wide args m K := call_body mixed Try.func66 (by kernel_rfl) K_witanref01_Wide h

noncomputable def A_witanref01_Of : AFun := ⟨1, 25, [.cell 2 4 true],
 (.seq (.ops [
 oO 1 (.box 1 32 (.t 0)),
 oO 2 (.alloc 1 4 [.int .u64 0])])
 (.seq (.ops [
 oO 3 (.alloc 1 4 [.int .u64 0])])
 (.seq (.seq (.ops [
 oO 4 (.mv (.c (.int .i64 0)))])
 (.block 0
 (.loop
 (.seq (.seq (.ops [
 oM 5 4,
 oO 6 (.bin .lss (.t 5) (.c (.int .i64 32)))])
 (.cond (.t 6)
 .skip
 (.exit 0)))
 (.seq (.block 1
 (.draw [
 oM 9 4,
 oO 10 (.bin .quo (.t 9) (.c (.int .i64 8))),
 oO 11 (.binF .sub (.c (.int .i64 3)) (.t 10)),
 oM 12 4,
 oO 13 (.bin .quo (.t 12) (.c (.int .i64 8))),
 oO 14 (.binF .sub (.c (.int .i64 3)) (.t 13)),
 oO 15 (.idxP 4 1 (.t 3) (.t 14)),
 oO 16 (.load 1 false (.t 15)),
 oO 17 (.bin .shl (.t 16) (.c (.int .u64 8))),
 oM 18 4,
 oO 19 (.idxP 32 1 (.t 1) (.t 18)),
 oO 20 (.load 1 false (.t 19)),
 oO 21 (.conv .u64 (.t 20)),
 oO 22 (.bin .or (.t 17) (.t 21)),
 oO 23 (.idxP 4 1 (.t 3) (.t 11)),
 ⟨none, .stA 1 4 1 (.t 23) (.t 22), none⟩] ⟨.all, [], .look 0 (.look 1 (.look 2 (.look 3 (.look 4 (.look 5 (.look 6 (.look 7 (.look 8 (.look 9 (.look 10 (.look 11 (.look 12 (.look 13 (.look 14 (.run 15 false .done)))))))))))))))⟩))
 (.ops [
 oM 7 4,
 oO 8 (.binF .add (.t 7) (.c (.int .i64 1))),
 oM 4 8]))))))
 (.seq (.ops [
 oO 24 (.load 4 true (.t 3)),
 ⟨none, .stA 1 4 4 (.t 2) (.t 24), none⟩])
 .ret))))⟩
theorem K_witanref01_Of : chkFun DK Pg Try.f67 A_witanref01_Of = true := by kernel_rfl
theorem B_witanref01_Of {args : List AV} {m : Mem} {K : AV → Mem → Prop} (h : vcFun DK Pg A_witanref01_Of args m K) : ACall Pg F_witanref01_Of args m K := call_body mixed Try.func67 (by kernel_rfl) K_witanref01_Of h

noncomputable def A_witanref01_Sub : AFun := ⟨2, 28, [.cell 4 4 true, .t 5],
 (.seq (.ops [
 oO 2 (.box 1 4 (.t 0)),
 oO 3 (.box 1 4 (.t 1)),
 oO 4 (.alloc 1 4 [.int .u64 0]),
 oO 5 (.mv (.c (.int .u64 0)))])
 (.seq (.ops [
 oO 6 (.mv (.c (.int .u64 0)))])
 (.seq (.ops [
 oO 7 (.alloc 1 4 [.int .u64 0])])
 (.seq (.seq (.ops [
 oO 8 (.mv (.c (.int .i64 0)))])
 (.block 0
 (.loop
 (.seq (.seq (.ops [
 oM 9 8,
 oO 10 (.bin .lss (.t 9) (.c (.int .i64 4)))])
 (.cond (.t 10)
 .skip
 (.exit 0)))
 (.seq (.block 1
 (.draw [
 oM 14 8,
 oM 15 8,
 oO 16 (.idxP 4 1 (.t 2) (.t 15)),
 oO 17 (.load 1 false (.t 16)),
 oM 18 8,
 oO 19 (.idxP 4 1 (.t 3) (.t 18)),
 oO 20 (.load 1 false (.t 19)),
 oM 21 6,
 oO 22 (.x64 true F_bits_Sub64 (.t 17) (.t 20) (.t 21)),
 oM 13 22,
 oO 23 (.ext (.t 13) 0),
 oO 24 (.ext (.t 13) 1),
 oO 25 (.idxP 4 1 (.t 7) (.t 14)),
 ⟨none, .stA 1 4 1 (.t 25) (.t 23), none⟩,
 oM 6 24] ⟨.all, [], .look 0 (.look 1 (.look 2 (.look 3 (.look 4 (.look 5 (.look 6 (.look 7 (.run 8 true (.look 9 (.look 10 (.look 11 (.look 12 (.run 13 false (.look 14 .done))))))))))))))⟩))
 (.ops [
 oM 11 8,
 oO 12 (.binF .add (.t 11) (.c (.int .i64 1))),
 oM 8 12]))))))
 (.seq (.ops [
 oO 26 (.load 4 true (.t 7)),
 oM 27 6,
 ⟨none, .stA 1 4 4 (.t 4) (.t 26), none⟩,
 oM 5 27])
 .ret)))))⟩
theorem K_witanref01_Sub : chkFun DK Pg Try.f68 A_witanref01_Sub = true := by kernel_rfl
theorem B_witanref01_Sub {args : List AV} {m : Mem} {K : AV → Mem → Prop} (h : vcFun DK Pg A_witanref01_Sub args m K) : ACall Pg F_witanref01_Sub args m K := call_body mixed Try.func68 (by kernel_rfl) K_witanref01_Sub h

noncomputable def A_field_less : AFun := ⟨1, 12, [.cell 2 4 true, .t 3],
 (.seq (.ops [
 oO 2 (.alloc 1 4 [.int .u64 0]),
 oO 3 (.mv (.c (.bool false)))])
 (.seq (.seq (.ops [
 oM 4 0])
 (.block 0
 (.seq (.ops [
 oO 6 (.bin .eql (.t 4) (.c (.int .i64 0))),
 oM 5 6])
 (.cond (.t 5)
 (.seq (.ops [
 oO 7 (.build [.int .u64 0, .int .u64 0, .int .u64 0, .int .u64 0] [(0, 1, .c (.int .u64 4294968273))]),
 ⟨none, .stA 1 4 4 (.t 2) (.t 7), none⟩,
 oO 3 (.mv (.c (.bool true)))])
 .ret)
 (.seq (.ops [
 oO 9 (.bin .eql (.t 4) (.c (.int .i64 1))),
 oM 8 9])
 (.cond (.t 8)
 (.seq (.ops [
 oO 10 (.build [.int .u64 0, .int .u64 0, .int .u64 0, .int .u64 0] [(0, 1, .c (.int .u64 4624529908474429119)), (1, 1, .c (.int .u64 4994812053365940164)), (2, 1, .c (.int .u64 1))]),
 ⟨none, .stA 1 4 4 (.t 2) (.t 10), none⟩,
 oO 3 (.mv (.c (.bool true)))])
 .ret)
 .skip))))))
 (.seq (.ops [
 oO 11 (.build [.int .u64 0, .int .u64 0, .int .u64 0, .int .u64 0] []),
 ⟨none, .stA 1 4 4 (.t 2) (.t 11), none⟩,
 oO 3 (.mv (.c (.bool false)))])
 .ret)))⟩
theorem K_field_less : chkFun DK Pg Try.f69 A_field_less = true := by kernel_rfl
theorem B_field_less {args : List AV} {m : Mem} {K : AV → Mem → Prop} (h : vcFun DK Pg A_field_less args m K) : ACall Pg F_field_less args m K := call_body mixed Try.func69 (by kernel_rfl) K_field_less h

noncomputable def A_limb_Sub : AFun := ⟨2, 26, [.cell 4 4 true, .t 5],
 (.seq (.ops [
 oO 2 (.box 1 4 (.t 0)),
 oO 3 (.box 1 4 (.t 1)),
 oO 4 (.alloc 1 4 [.int .u64 0]),
 oO 5 (.mv (.c (.int .u64 0)))])
 (.seq (.seq (.ops [
 oO 7 (.mv (.c (.int .i64 0)))])
 (.block 0
 (.loop
 (.seq (.ops [
 oO 8 (.bin .lss (.t 7) (.c (.int .i64 4)))])
 (.seq (.cond (.t 8)
 .skip
 (.exit 0))
 (.seq (.block 1
 (.seq (.ops [
 oM 9 7,
 oM 6 9])
 (.draw [
 oM 11 6,
 oM 12 6,
 oO 13 (.idxP 4 1 (.t 2) (.t 12)),
 oO 14 (.load 1 false (.t 13)),
 oM 15 6,
 oO 16 (.idxP 4 1 (.t 3) (.t 15)),
 oO 17 (.load 1 false (.t 16)),
 oM 18 5,
 oO 19 (.x64 true F_bits_Sub64 (.t 14) (.t 17) (.t 18)),
 oM 10 19,
 oO 20 (.ext (.t 10) 0),
 oO 21 (.ext (.t 10) 1),
 oO 22 (.idxP 4 1 (.t 4) (.t 11)),
 ⟨none, .stA 1 4 1 (.t 22) (.t 20), none⟩,
 oM 5 21] ⟨.all, [], .look 0 (.look 1 (.look 2 (.look 3 (.look 4 (.look 5 (.look 6 (.look 7 (.run 8 true (.look 9 (.look 10 (.look 11 (.look 12 (.run 13 false (.look 14 .done))))))))))))))⟩)))
 (.ops [
 oO 23 (.binF .add (.t 7) (.c (.int .i64 1))),
 oM 7 23])))))))
 (.seq (.ops [
 oO 24 (.load 4 true (.t 4)),
 oM 25 5,
 ⟨none, .stA 1 4 4 (.t 4) (.t 24), none⟩,
 oM 5 25])
 .ret)))⟩
theorem K_limb_Sub : chkFun DK Pg Try.f70 A_limb_Sub = true := by kernel_rfl
theorem B_limb_Sub {args : List AV} {m : Mem} {K : AV → Mem → Prop} (h : vcFun DK Pg A_limb_Sub args m K) : ACall Pg F_limb_Sub args m K := call_body mixed Try.func70 (by kernel_rfl) K_limb_Sub h

noncomputable def A_draw_number : AFun := ⟨2, 22, [.t 4],
 (.seq (.ops [
 oO 4 (.mv (.c (.nils)))])
 (.seq (.ops [
 oO 5 (.mv (.c (.nils)))])
 (.seq (.seq (.ops [
 oM 7 1,
 oO 8 (.bin .sub (.t 7) (.c (.int .i64 1))),
 oM 6 8])
 (.block 0
 (.loop
 (.seq (.seq (.ops [
 oM 9 6,
 oO 10 (.bin .geq (.t 9) (.c (.int .i64 0)))])
 (.cond (.t 10)
 .skip
 (.exit 0)))
 (.seq (.block 1
 (.ops [
 oM 13 5,
 oM 14 0,
 oM 15 6,
 oO 16 (.bin .mul (.c (.int .i64 8)) (.t 15)),
 oO 17 (.bin .shr (.t 14) (.t 16)),
 oO 18 (.conv .u8 (.t 17)),
 oO 19 (.bsl 1 1 [.int .u8 0] [(0, 1, .t 18)]),
 oO 20 (.app 1 1 (.t 13) (.t 19)),
 oM 5 20]))
 (.ops [
 oM 11 6,
 oO 12 (.bin .sub (.t 11) (.c (.int .i64 1))),
 oM 6 12]))))))
 (.seq (.ops [
 oM 21 5,
 oM 4 21])
 .ret))))⟩
theorem K_draw_number : chkFun DK Pg Try.f71 A_draw_number = true := by kernel_rfl
theorem B_draw_number {args : List AV} {m : Mem} {K : AV → Mem → Prop} (h : vcFun DK Pg A_draw_number args m K) : ACall Pg F_draw_number args m K := call_body mixed Try.func71 (by kernel_rfl) K_draw_number h

noncomputable def A_witanref04_be : AFun := ⟨2, 23, [.t 4],
 (.seq (.ops [
 oO 4 (.mv (.c (.nils)))])
 (.seq (.ops [
 oO 5 (.mv (.c (.nils)))])
 (.seq (.seq (.ops [
 oM 7 1,
 oO 8 (.bin .sub (.t 7) (.c (.int .i64 1))),
 oM 6 8])
 (.block 0
 (.loop
 (.seq (.seq (.ops [
 oM 9 6,
 oO 10 (.bin .geq (.t 9) (.c (.int .i64 0)))])
 (.cond (.t 10)
 .skip
 (.exit 0)))
 (.seq (.block 1
 (.ops [
 oM 13 5,
 oM 14 0,
 oM 15 6,
 oO 16 (.bin .mul (.c (.int .i64 8)) (.t 15)),
 oO 17 (.conv .u64 (.t 16)),
 oO 18 (.bin .shr (.t 14) (.t 17)),
 oO 19 (.conv .u8 (.t 18)),
 oO 20 (.bsl 1 1 [.int .u8 0] [(0, 1, .t 19)]),
 oO 21 (.app 1 1 (.t 13) (.t 20)),
 oM 5 21]))
 (.ops [
 oM 11 6,
 oO 12 (.bin .sub (.t 11) (.c (.int .i64 1))),
 oM 6 12]))))))
 (.seq (.ops [
 oM 22 5,
 oM 4 22])
 .ret))))⟩
theorem K_witanref04_be : chkFun DK Pg Try.f72 A_witanref04_be = true := by kernel_rfl
theorem B_witanref04_be {args : List AV} {m : Mem} {K : AV → Mem → Prop} (h : vcFun DK Pg A_witanref04_be args m K) : ACall Pg F_witanref04_be args m K := call_body mixed Try.func72 (by kernel_rfl) K_witanref04_be h

noncomputable def A_witanref01_ReadPoint : AFun := ⟨1, 69, [.cell 2 9 true, .t 3],
 (.seq (.ops [
 oO 2 (.alloc 9 1 [.bool false, .int .u64 0, .int .u64 0, .int .u64 0, .int .u64 0, .int .u64 0, .int .u64 0, .int .u64 0, .int .u64 0]),
 oO 3 (.mv (.c (.int .i64 0)))])
 (.seq (.seq (.ops [
 oM 8 0,
 oO 9 (.len (.t 8)),
 oO 10 (.bin .eql (.t 9) (.c (.int .i64 1))),
 oM 11 10,
 oG 12 (.mv (.t 0)) 11 true,
 oG 13 (.idxA 1 (.t 12) (.c (.int .i64 0))) 11 true,
 oG 14 (.load 1 false (.t 13)) 11 true,
 oG 15 (.bin .eql (.t 14) (.c (.int .u8 0))) 11 true,
 oO 16 (.pick (.t 11) (.t 15) (.c (.bool false)))])
 (.cond (.t 16)
 (.seq (.ops [
 oK 17 F_witanref01_Inf [],
 ⟨none, .stA 9 1 9 (.t 2) (.t 17), none⟩,
 oO 3 (.mv (.c (.int .i64 0)))])
 .ret)
 .skip))
 (.seq (.seq (.ops [
 oM 18 0,
 oO 19 (.len (.t 18)),
 oO 20 (.bin .neq (.t 19) (.c (.int .i64 33))),
 oM 21 20,
 oG 22 (.mv (.t 0)) 21 false,
 oG 23 (.idxA 1 (.t 22) (.c (.int .i64 0))) 21 false,
 oG 24 (.load 1 false (.t 23)) 21 false,
 oG 25 (.bin .neq (.t 24) (.c (.int .u8 2))) 21 false,
 oG 26 (.mv (.t 25)) 21 false,
 oG 27 (.mv (.t 0)) 26 true,
 oG 28 (.idxA 1 (.t 27) (.c (.int .i64 0))) 26 true,
 oG 29 (.load 1 false (.t 28)) 26 true,
 oG 30 (.bin .neq (.t 29) (.c (.int .u8 3))) 26 true,
 oG 31 (.pick (.t 26) (.t 30) (.c (.bool false))) 21 false,
 oO 32 (.pick (.t 21) (.c (.bool true)) (.t 31))])
 (.cond (.t 32)
 (.seq (.ops [
 oO 33 (.build [.bool false, .int .u64 0, .int .u64 0, .int .u64 0, .int .u64 0, .int .u64 0, .int .u64 0, .int .u64 0, .int .u64 0] []),
 ⟨none, .stA 9 1 9 (.t 2) (.t 33), none⟩,
 oO 3 (.mv (.c (.int .i64 7)))])
 .ret)
 .skip))
 (.seq (.ops [
 oO 4 (.alloc 1 32 [.int .u8 0])])
 (.seq (.draw [
 oO 34 (.slarr 32 1 (.t 4) none none none),
 oM 35 0,
 oO 36 (.slice 1 (.t 35) (some (.c (.int .i64 1))) none none),
 oO 37 (.copy 1 (.t 34) (.t 36))] ⟨.all, [], .look 0 (.look 1 (.look 2 (.run 3 false .done)))⟩)
 (.seq (.ops [
 oO 38 (.load 32 true (.t 4)),
 oK 39 F_witanref01_Of [.t 38],
 oO 5 (.alloc 1 4 [.int .u64 0]),
 ⟨none, .stA 1 4 4 (.t 5) (.t 39), none⟩])
 (.seq (.seq (.draw [
 oO 40 (.load 4 true (.t 5)),
 oK 41 F_witanref01_Prime [.c (.int .i64 0)],
 oK 42 F_witanref01_Cmp [.t 40, .t 41],
 oO 43 (.bin .geq (.t 42) (.c (.int .i64 0)))] ⟨.all, [], .look 0 (.run 1 true (.run 2 true (.look 3 .done)))⟩)
 (.cond (.t 43)
 (.seq (.ops [
 oO 44 (.build [.bool false, .int .u64 0, .int .u64 0, .int .u64 0, .int .u64 0, .int .u64 0, .int .u64 0, .int .u64 0, .int .u64 0] []),
 ⟨none, .stA 9 1 9 (.t 2) (.t 44), none⟩,
 oO 3 (.mv (.c (.int .i64 2)))])
 .ret)
 .skip))
 (.seq (.draw [
 oO 46 (.load 4 true (.t 5)),
 oO 47 (.load 4 true (.t 5)),
 oK 48 F_witanref01_mul [.t 46, .t 47],
 oO 49 (.load 4 true (.t 5)),
 oK 50 F_witanref01_mul [.t 48, .t 49],
 oO 51 (.build [.int .u64 0, .int .u64 0, .int .u64 0, .int .u64 0] [(0, 1, .c (.int .u64 7))]),
 oK 52 F_witanref01_add [.t 50, .t 51],
 oK 53 F_witanref01_Root [.t 52],
 oM 45 53,
 oO 54 (.ext (.t 45) 0),
 oO 55 (.ext (.t 45) 1),
 oO 6 (.alloc 1 4 [.int .u64 0]),
 oS 4 6 54,
 oM 7 55] ⟨.all, [(11, some 12)], .look 0 (.look 1 (.look 3 (.look 5 (.run 2 true (.run 4 true (.run 6 true (.run 7 true (.look 8 (.look 9 (.pre 11 12 (.look 10 (.fill (.look 13 .done)))))))))))))⟩)
 (.seq (.seq (.ops [
 oM 56 7,
 oO 57 (.un .not (.t 56))])
 (.cond (.t 57)
 (.seq (.ops [
 oO 58 (.build [.bool false, .int .u64 0, .int .u64 0, .int .u64 0, .int .u64 0, .int .u64 0, .int .u64 0, .int .u64 0, .int .u64 0] []),
 ⟨none, .stA 9 1 9 (.t 2) (.t 58), none⟩,
 oO 3 (.mv (.c (.int .i64 3)))])
 .ret)
 .skip))
 (.seq (.seq (.ops [
 oM 59 0,
 oO 60 (.idxA 1 (.t 59) (.c (.int .i64 0))),
 oO 61 (.load 1 false (.t 60)),
 oO 62 (.bin .eql (.t 61) (.c (.int .u8 3)))])
 (.cond (.t 62)
 (.ops [
 oO 63 (.build [.int .u64 0, .int .u64 0, .int .u64 0, .int .u64 0] []),
 oO 64 (.load 4 true (.t 6)),
 oK 65 F_witanref01_sub [.t 63, .t 64],
 ⟨none, .stA 1 4 4 (.t 6) (.t 65), none⟩])
 .skip))
 (.seq (.ops [
 oO 66 (.load 4 true (.t 5)),
 oO 67 (.load 4 true (.t 6)),
 oO 68 (.build [.bool false, .int .u64 0, .int .u64 0, .int .u64 0, .int .u64 0, .int .u64 0, .int .u64 0, .int .u64 0, .int .u64 0] [(1, 4, .t 66), (5, 4, .t 67)]),
 ⟨none, .stA 9 1 9 (.t 2) (.t 68), none⟩,
 oO 3 (.mv (.c (.int .i64 0)))])
 .ret)))))))))))⟩
theorem K_witanref01_ReadPoint : chkFun DK Pg Try.f73 A_witanref01_ReadPoint = true := by kernel_rfl
theorem B_witanref01_ReadPoint {args : List AV} {m : Mem} {K : AV → Mem → Prop} (h : vcFun DK Pg A_witanref01_ReadPoint args m K) : ACall Pg F_witanref01_ReadPoint args m K := call_body mixed Try.func73 (by kernel_rfl) K_witanref01_ReadPoint h

noncomputable def A_limb_Cmp : AFun := ⟨2, 26, [.t 4],
 (.seq (.ops [
 oO 2 (.box 1 4 (.t 0)),
 oO 3 (.box 1 4 (.t 1)),
 oO 4 (.mv (.c (.int .i64 0)))])
 (.seq (.seq (.ops [
 oO 5 (.mv (.c (.int .i64 3)))])
 (.block 0
 (.loop
 (.seq (.seq (.ops [
 oM 6 5,
 oO 7 (.bin .geq (.t 6) (.c (.int .i64 0)))])
 (.cond (.t 7)
 .skip
 (.exit 0)))
 (.seq (.block 1
 (.block 2
 (.seq (.draw [
 oM 11 5,
 oO 12 (.idxP 4 1 (.t 2) (.t 11)),
 oO 13 (.load 1 false (.t 12)),
 oM 14 5,
 oO 15 (.idxP 4 1 (.t 3) (.t 14)),
 oO 16 (.load 1 false (.t 15)),
 oO 17 (.bin .lss (.t 13) (.t 16)),
 oM 10 17] ⟨.no, [], .flat⟩)
 (.cond (.t 10)
 (.seq (.ops [
 oO 4 (.mv (.c (.int .i64 (-1))))])
 .ret)
 (.seq (.draw [
 oM 19 5,
 oO 20 (.idxP 4 1 (.t 2) (.t 19)),
 oO 21 (.load 1 false (.t 20)),
 oM 22 5,
 oO 23 (.idxP 4 1 (.t 3) (.t 22)),
 oO 24 (.load 1 false (.t 23)),
 oO 25 (.bin .gtr (.t 21) (.t 24)),
 oM 18 25] ⟨.no, [], .flat⟩)
 (.cond (.t 18)
 (.seq (.ops [
 oO 4 (.mv (.c (.int .i64 1)))])
 .ret)
 .skip))))))
 (.ops [
 oM 8 5,
 oO 9 (.bin .sub (.t 8) (.c (.int .i64 1))),
 oM 5 9]))))))
 (.seq (.ops [
 oO 4 (.mv (.c (.int .i64 0)))])
 .ret)))⟩
theorem K_limb_Cmp : chkFun DK Pg Try.f74 A_limb_Cmp = true := by kernel_rfl
theorem B_limb_Cmp {args : List AV} {m : Mem} {K : AV → Mem → Prop} (h : vcFun DK Pg A_limb_Cmp args m K) : ACall Pg F_limb_Cmp args m K := call_body mixed Try.func74 (by kernel_rfl) K_limb_Cmp h

noncomputable def A_curve_mul : AFun := ⟨2, 8, [.cell 4 4 true],
 (.seq (.ops [
 oO 2 (.box 1 4 (.t 0)),
 oO 3 (.box 1 4 (.t 1)),
 oO 4 (.alloc 1 4 [.int .u64 0])])
 (.seq (.ops [
 oO 5 (.load 4 true (.t 2)),
 oO 6 (.load 4 true (.t 3)),
 oK 7 F_field_Mul [.c (.int .i64 0), .t 5, .t 6],
 ⟨none, .stA 1 4 4 (.t 4) (.t 7), none⟩])
 .ret))⟩
theorem K_curve_mul : chkFun DK Pg Try.f75 A_curve_mul = true := by kernel_rfl
theorem B_curve_mul {args : List AV} {m : Mem} {K : AV → Mem → Prop} (h : vcFun DK Pg A_curve_mul args m K) : ACall Pg F_curve_mul args m K := call_body mixed Try.func75 (by kernel_rfl) K_curve_mul h

noncomputable def A_curve_right : AFun := ⟨1, 10, [.cell 2 4 true],
 (.seq (.ops [
 oO 1 (.box 1 4 (.t 0)),
 oO 2 (.alloc 1 4 [.int .u64 0])])
 (.seq (.draw [
 oO 3 (.load 4 true (.t 1)),
 oO 4 (.load 4 true (.t 1)),
 oK 5 F_curve_mul [.t 3, .t 4],
 oO 6 (.load 4 true (.t 1)),
 oK 7 F_curve_mul [.t 5, .t 6],
 oO 8 (.build [.int .u64 0, .int .u64 0, .int .u64 0, .int .u64 0] [(0, 1, .c (.int .u64 7))]),
 oK 9 F_curve_add [.t 7, .t 8],
 ⟨none, .stA 1 4 4 (.t 2) (.t 9), none⟩] ⟨.all, [], .look 0 (.look 1 (.look 3 (.look 5 (.run 2 true (.run 4 true (.run 6 false (.run 7 false .done)))))))⟩)
 .ret))⟩
theorem K_curve_right : chkFun DK Pg Try.f76 A_curve_right = true := by kernel_rfl
theorem B_curve_right {args : List AV} {m : Mem} {K : AV → Mem → Prop} (h : vcFun DK Pg A_curve_right args m K) : ACall Pg F_curve_right args m K := call_body mixed Try.func76 (by kernel_rfl) K_curve_right h

noncomputable def A_sha_rounds : AFun := ⟨0, 2, [.t 0],
 (.seq (.ops [
 oO 0 (.mv (.c (.nils)))])
 (.seq (.ops [
 oO 1 (.bsl 1 64 [.int .u32 0] [(0, 1, .c (.int .u32 1116352408)), (1, 1, .c (.int .u32 1899447441)), (2, 1, .c (.int .u32 3049323471)), (3, 1, .c (.int .u32 3921009573)), (4, 1, .c (.int .u32 961987163)), (5, 1, .c (.int .u32 1508970993)), (6, 1, .c (.int .u32 2453635748)), (7, 1, .c (.int .u32 2870763221)), (8, 1, .c (.int .u32 3624381080)), (9, 1, .c (.int .u32 310598401)), (10, 1, .c (.int .u32 607225278)), (11, 1, .c (.int .u32 1426881987)), (12, 1, .c (.int .u32 1925078388)), (13, 1, .c (.int .u32 2162078206)), (14, 1, .c (.int .u32 2614888103)), (15, 1, .c (.int .u32 3248222580)), (16, 1, .c (.int .u32 3835390401)), (17, 1, .c (.int .u32 4022224774)), (18, 1, .c (.int .u32 264347078)), (19, 1, .c (.int .u32 604807628)), (20, 1, .c (.int .u32 770255983)), (21, 1, .c (.int .u32 1249150122)), (22, 1, .c (.int .u32 1555081692)), (23, 1, .c (.int .u32 1996064986)), (24, 1, .c (.int .u32 2554220882)), (25, 1, .c (.int .u32 2821834349)), (26, 1, .c (.int .u32 2952996808)), (27, 1, .c (.int .u32 3210313671)), (28, 1, .c (.int .u32 3336571891)), (29, 1, .c (.int .u32 3584528711)), (30, 1, .c (.int .u32 113926993)), (31, 1, .c (.int .u32 338241895)), (32, 1, .c (.int .u32 666307205)), (33, 1, .c (.int .u32 773529912)), (34, 1, .c (.int .u32 1294757372)), (35, 1, .c (.int .u32 1396182291)), (36, 1, .c (.int .u32 1695183700)), (37, 1, .c (.int .u32 1986661051)), (38, 1, .c (.int .u32 2177026350)), (39, 1, .c (.int .u32 2456956037)), (40, 1, .c (.int .u32 2730485921)), (41, 1, .c (.int .u32 2820302411)), (42, 1, .c (.int .u32 3259730800)), (43, 1, .c (.int .u32 3345764771)), (44, 1, .c (.int .u32 3516065817)), (45, 1, .c (.int .u32 3600352804)), (46, 1, .c (.int .u32 4094571909)), (47, 1, .c (.int .u32 275423344)), (48, 1, .c (.int .u32 430227734)), (49, 1, .c (.int .u32 506948616)), (50, 1, .c (.int .u32 659060556)), (51, 1, .c (.int .u32 883997877)), (52, 1, .c (.int .u32 958139571)), (53, 1, .c (.int .u32 1322822218)), (54, 1, .c (.int .u32 1537002063)), (55, 1, .c (.int .u32 1747873779)), (56, 1, .c (.int .u32 1955562222)), (57, 1, .c (.int .u32 2024104815)), (58, 1, .c (.int .u32 2227730452)), (59, 1, .c (.int .u32 2361852424)), (60, 1, .c (.int .u32 2428436474)), (61, 1, .c (.int .u32 2756734187)), (62, 1, .c (.int .u32 3204031479)), (63, 1, .c (.int .u32 3329325298))]),
 oM 0 1])
 .ret))⟩
theorem K_sha_rounds : chkFun DK Pg Try.f77 A_sha_rounds = true := by kernel_rfl
theorem B_sha_rounds {args : List AV} {m : Mem} {K : AV → Mem → Prop} (h : vcFun DK Pg A_sha_rounds args m K) : ACall Pg F_sha_rounds args m K := call_body mixed Try.func77 (by kernel_rfl) K_sha_rounds h

noncomputable def A_sha_padded : AFun := ⟨1, 35, [.t 2],
 (.seq (.ops [
 oO 2 (.mv (.c (.nils)))])
 (.seq (.ops [
 oO 6 (.bsl 1 0 [.int .u8 0] []),
 oM 7 0,
 oO 8 (.app 1 1 (.t 6) (.t 7)),
 oO 9 (.bsl 1 1 [.int .u8 0] [(0, 1, .c (.int .u8 128))]),
 oO 10 (.app 1 1 (.t 8) (.t 9)),
 oM 3 10])
 (.seq (.block 0
 (.loop
 (.seq (.seq (.ops [
 oM 11 3,
 oO 12 (.len (.t 11)),
 oO 13 (.bin .rem (.t 12) (.c (.int .i64 64))),
 oO 14 (.bin .neq (.t 13) (.c (.int .i64 56)))])
 (.cond (.t 14)
 .skip
 (.exit 0)))
 (.block 1
 (.ops [
 oM 15 3,
 oO 16 (.bsl 1 1 [.int .u8 0] [(0, 1, .c (.int .u8 0))]),
 oO 17 (.app 1 1 (.t 15) (.t 16)),
 oM 3 17])))))
 (.seq (.ops [
 oM 18 0,
 oO 19 (.len (.t 18)),
 oO 20 (.conv .u64 (.t 19)),
 oO 21 (.bin .shl (.t 20) (.c (.int .u64 3))),
 oM 4 21])
 (.seq (.seq (.ops [
 oO 5 (.mv (.c (.int .i64 7)))])
 (.block 2
 (.loop
 (.seq (.seq (.ops [
 oM 22 5,
 oO 23 (.bin .geq (.t 22) (.c (.int .i64 0)))])
 (.cond (.t 23)
 .skip
 (.exit 2)))
 (.seq (.block 3
 (.ops [
 oM 26 3,
 oM 27 4,
 oM 28 5,
 oO 29 (.bin .mul (.c (.int .i64 8)) (.t 28)),
 oO 30 (.bin .shr (.t 27) (.t 29)),
 oO 31 (.conv .u8 (.t 30)),
 oO 32 (.bsl 1 1 [.int .u8 0] [(0, 1, .t 31)]),
 oO 33 (.app 1 1 (.t 26) (.t 32)),
 oM 3 33]))
 (.ops [
 oM 24 5,
 oO 25 (.bin .sub (.t 24) (.c (.int .i64 1))),
 oM 5 25]))))))
 (.seq (.ops [
 oM 34 3,
 oM 2 34])
 .ret))))))⟩
theorem K_sha_padded : chkFun DK Pg Try.f78 A_sha_padded = true := by kernel_rfl
theorem B_sha_padded {args : List AV} {m : Mem} {K : AV → Mem → Prop} (h : vcFun DK Pg A_sha_padded args m K) : ACall Pg F_sha_padded args m K := call_body mixed Try.func78 (by kernel_rfl) K_sha_padded h

noncomputable def A_sha_high : AFun := ⟨1, 19, [.t 2],
 (.seq (.ops [
 oO 2 (.mv (.c (.int .u64 0)))])
 (.seq (.ops [
 oO 3 (.mv (.c (.int .u64 0)))])
 (.seq (.seq (.ops [
 oM 6 0,
 oO 7 (.len (.t 6)),
 oO 8 (.mv (.c (.int .i64 0)))])
 (.block 0
 (.loop
 (.seq (.ops [
 oO 9 (.bin .lss (.t 8) (.t 7))])
 (.seq (.cond (.t 9)
 .skip
 (.exit 0))
 (.seq (.block 1
 (.seq (.ops [
 oO 10 (.idxA 1 (.t 6) (.t 8)),
 oO 11 (.load 1 false (.t 10)),
 oM 5 11])
 (.ops [
 oM 12 3,
 oO 13 (.bin .shl (.t 12) (.c (.int .u64 8))),
 oM 14 5,
 oO 15 (.conv .u64 (.t 14)),
 oO 16 (.bin .or (.t 13) (.t 15)),
 oM 3 16])))
 (.ops [
 oO 17 (.bin .add (.t 8) (.c (.int .i64 1))),
 oM 8 17])))))))
 (.seq (.ops [
 oM 18 3,
 oM 2 18])
 .ret))))⟩
theorem K_sha_high : chkFun DK Pg Try.f79 A_sha_high = true := by kernel_rfl
theorem B_sha_high {args : List AV} {m : Mem} {K : AV → Mem → Prop} (h : vcFun DK Pg A_sha_high args m K) : ACall Pg F_sha_high args m K := call_body mixed Try.func79 (by kernel_rfl) K_sha_high h

noncomputable def A_bits_RotateLeft32 : AFun := ⟨2, 17, [.t 4],
 (.seq (.ops [
 oO 4 (.mv (.c (.int .u32 0)))])
 (.seq (.ops [
 oM 6 1,
 oO 7 (.conv .u64 (.t 6)),
 oO 8 (.bin .and (.t 7) (.c (.int .u64 31))),
 oM 5 8])
 (.seq (.ops [
 oM 9 0,
 oM 10 5,
 oO 11 (.bin .shl (.t 9) (.t 10)),
 oM 12 0,
 oM 13 5,
 oO 14 (.bin .sub (.c (.int .u64 32)) (.t 13)),
 oO 15 (.bin .shr (.t 12) (.t 14)),
 oO 16 (.bin .or (.t 11) (.t 15)),
 oM 4 16])
 .ret)))⟩
theorem K_bits_RotateLeft32 : chkFun DK Pg Try.f80 A_bits_RotateLeft32 = true := by kernel_rfl
theorem B_bits_RotateLeft32 {args : List AV} {m : Mem} {K : AV → Mem → Prop} (h : vcFun DK Pg A_bits_RotateLeft32 args m K) : ACall Pg F_bits_RotateLeft32 args m K := call_body mixed Try.func80 (by kernel_rfl) K_bits_RotateLeft32 h

noncomputable def A_field_Read : AFun := ⟨2, 28, [.cell 4 4 true, .t 5],
 (.seq (.ops [
 oO 3 (.box 1 32 (.t 1)),
 oO 4 (.alloc 1 4 [.int .u64 0]),
 oO 5 (.mv (.c (.int .i64 0)))])
 (.seq (.ops [
 oM 10 0,
 oK 11 F_field_less [.t 10],
 oM 9 11,
 oO 12 (.ext (.t 9) 0),
 oO 13 (.ext (.t 9) 1),
 oO 6 (.alloc 1 4 [.int .u64 0]),
 ⟨none, .stA 1 4 4 (.t 6) (.t 12), none⟩,
 oM 7 13])
 (.seq (.ops [
 oO 14 (.load 32 true (.t 3)),
 oK 15 F_limb_Of [.t 14],
 oO 8 (.alloc 1 4 [.int .u64 0]),
 ⟨none, .stA 1 4 4 (.t 8) (.t 15), none⟩])
 (.seq (.block 0
 (.seq (.ops [
 oM 17 7,
 oO 18 (.un .not (.t 17)),
 oM 16 18])
 (.cond (.t 16)
 (.seq (.ops [
 oO 19 (.build [.int .u64 0, .int .u64 0, .int .u64 0, .int .u64 0] []),
 ⟨none, .stA 1 4 4 (.t 4) (.t 19), none⟩,
 oO 5 (.mv (.c (.int .i64 1)))])
 .ret)
 (.seq (.draw [
 oO 21 (.load 4 true (.t 8)),
 oM 22 0,
 oK 23 F_field_Prime [.t 22],
 oK 24 F_limb_Cmp [.t 21, .t 23],
 oO 25 (.bin .geq (.t 24) (.c (.int .i64 0))),
 oM 20 25] ⟨.all, [], .look 0 (.look 1 (.run 2 true (.run 3 true (.look 4 (.look 5 .done)))))⟩)
 (.cond (.t 20)
 (.seq (.ops [
 oO 26 (.build [.int .u64 0, .int .u64 0, .int .u64 0, .int .u64 0] []),
 ⟨none, .stA 1 4 4 (.t 4) (.t 26), none⟩,
 oO 5 (.mv (.c (.int .i64 2)))])
 .ret)
 .skip)))))
 (.seq (.ops [
 oO 27 (.load 4 true (.t 8)),
 ⟨none, .stA 1 4 4 (.t 4) (.t 27), none⟩,
 oO 5 (.mv (.c (.int .i64 0)))])
 .ret)))))⟩
theorem K_field_Read : chkFun DK Pg Try.f81 A_field_Read = true := by kernel_rfl
theorem B_field_Read {args : List AV} {m : Mem} {K : AV → Mem → Prop} (h : vcFun DK Pg A_field_Read args m K) : ACall Pg F_field_Read args m K := call_body mixed Try.func81 (by kernel_rfl) K_field_Read h

noncomputable def A_field_Root : AFun := ⟨1, 54, [.cell 2 4 true, .t 3],
 (.seq (.ops [
 oO 1 (.box 1 4 (.t 0)),
 oO 2 (.alloc 1 4 [.int .u64 0]),
 oO 3 (.mv (.c (.bool false)))])
 (.seq (.ops [
 oK 9 F_field_Prime [.c (.int .i64 0)],
 oO 10 (.build [.int .u64 0, .int .u64 0, .int .u64 0, .int .u64 0] [(0, 1, .c (.int .u64 1))]),
 oK 11 F_limb_Add [.t 9, .t 10],
 oM 8 11,
 oO 12 (.ext (.t 8) 0),
 oO 13 (.ext (.t 8) 1),
 oO 4 (.alloc 1 4 [.int .u64 0]),
 ⟨none, .stA 1 4 4 (.t 4) (.t 12), none⟩,
 oM 5 13])
 (.seq (.seq (.ops [
 oO 14 (.mv (.c (.int .i64 0)))])
 (.block 0
 (.loop
 (.seq (.ops [
 oO 15 (.bin .lss (.t 14) (.c (.int .i64 4)))])
 (.seq (.cond (.t 15)
 .skip
 (.exit 0))
 (.seq (.block 1
 (.seq (.ops [
 oM 16 14,
 oM 6 16])
 (.seq (.ops [
 oM 17 6,
 oO 18 (.idxP 4 1 (.t 4) (.t 17)),
 oO 19 (.load 1 false (.t 18)),
 oO 20 (.bin .shr (.t 19) (.c (.int .u64 2))),
 oO 21 (.idxP 4 1 (.t 4) (.t 17)),
 ⟨none, .stA 1 4 1 (.t 21) (.t 20), none⟩])
 (.seq (.ops [
 oM 22 6,
 oO 23 (.binF .add (.t 22) (.c (.int .i64 1))),
 oO 24 (.bin .lss (.t 23) (.c (.int .i64 4)))])
 (.cond (.t 24)
 (.draw [
 oM 25 6,
 oO 26 (.idxP 4 1 (.t 4) (.t 25)),
 oO 27 (.load 1 false (.t 26)),
 oM 28 6,
 oO 29 (.binF .add (.t 28) (.c (.int .i64 1))),
 oO 30 (.idxP 4 1 (.t 4) (.t 29)),
 oO 31 (.load 1 false (.t 30)),
 oO 32 (.bin .shl (.t 31) (.c (.int .u64 62))),
 oO 33 (.bin .or (.t 27) (.t 32)),
 oO 34 (.idxP 4 1 (.t 4) (.t 25)),
 ⟨none, .stA 1 4 1 (.t 34) (.t 33), none⟩] ⟨.all, [], .look 0 (.look 1 (.look 2 (.look 3 (.look 4 (.look 5 (.look 6 (.look 7 (.look 8 (.look 9 (.run 10 false .done))))))))))⟩)
 .skip)))))
 (.ops [
 oO 35 (.binF .add (.t 14) (.c (.int .i64 1))),
 oM 14 35])))))))
 (.seq (.ops [
 oO 36 (.load 4 true (.t 1)),
 oO 37 (.load 4 true (.t 4)),
 oK 38 F_field_Pow [.c (.int .i64 0), .t 36, .t 37],
 oO 7 (.alloc 1 4 [.int .u64 0]),
 ⟨none, .stA 1 4 4 (.t 7) (.t 38), none⟩])
 (.seq (.seq (.draw [
 oO 39 (.load 4 true (.t 7)),
 oO 40 (.load 4 true (.t 7)),
 oK 41 F_field_Mul [.c (.int .i64 0), .t 39, .t 40],
 oO 42 (.load 4 true (.t 1)),
 oK 43 F_field_Red [.c (.int .i64 0), .t 42],
 oO 44 (.eqa [.i, .i, .i, .i] true (.t 41) (.t 43))] ⟨.all, [], .look 0 (.look 1 (.look 3 (.run 2 true (.run 4 true (.look 5 .done)))))⟩)
 (.cond (.t 44)
 (.seq (.ops [
 oO 45 (.build [.int .u64 0, .int .u64 0, .int .u64 0, .int .u64 0] []),
 ⟨none, .stA 1 4 4 (.t 2) (.t 45), none⟩,
 oO 3 (.mv (.c (.bool false)))])
 .ret)
 .skip))
 (.seq (.seq (.ops [
 oO 46 (.idxP 4 1 (.t 7) (.c (.int .i64 0))),
 oO 47 (.load 1 false (.t 46)),
 oO 48 (.bin .and (.t 47) (.c (.int .u64 1))),
 oO 49 (.bin .eql (.t 48) (.c (.int .u64 1)))])
 (.cond (.t 49)
 (.ops [
 oO 50 (.build [.int .u64 0, .int .u64 0, .int .u64 0, .int .u64 0] []),
 oO 51 (.load 4 true (.t 7)),
 oK 52 F_field_Sub [.c (.int .i64 0), .t 50, .t 51],
 ⟨none, .stA 1 4 4 (.t 7) (.t 52), none⟩])
 .skip))
 (.seq (.ops [
 oO 53 (.load 4 true (.t 7)),
 ⟨none, .stA 1 4 4 (.t 2) (.t 53), none⟩,
 oO 3 (.mv (.c (.bool true)))])
 .ret)))))))⟩
theorem K_field_Root : chkFun DK Pg Try.f82 A_field_Root = true := by kernel_rfl
theorem B_field_Root {args : List AV} {m : Mem} {K : AV → Mem → Prop} (h : vcFun DK Pg A_field_Root args m K) : ACall Pg F_field_Root args m K := call_body mixed Try.func82 (by kernel_rfl) K_field_Root h

noncomputable def A_curve_sub : AFun := ⟨2, 8, [.cell 4 4 true],
 (.seq (.ops [
 oO 2 (.box 1 4 (.t 0)),
 oO 3 (.box 1 4 (.t 1)),
 oO 4 (.alloc 1 4 [.int .u64 0])])
 (.seq (.ops [
 oO 5 (.load 4 true (.t 2)),
 oO 6 (.load 4 true (.t 3)),
 oK 7 F_field_Sub [.c (.int .i64 0), .t 5, .t 6],
 ⟨none, .stA 1 4 4 (.t 4) (.t 7), none⟩])
 .ret))⟩
theorem K_curve_sub : chkFun DK Pg Try.f83 A_curve_sub = true := by kernel_rfl
theorem B_curve_sub {args : List AV} {m : Mem} {K : AV → Mem → Prop} (h : vcFun DK Pg A_curve_sub args m K) : ACall Pg F_curve_sub args m K := call_body mixed Try.func83 (by kernel_rfl) K_curve_sub h

noncomputable def A_limb_Add : AFun := ⟨2, 26, [.cell 4 4 true, .t 5],
 (.seq (.ops [
 oO 2 (.box 1 4 (.t 0)),
 oO 3 (.box 1 4 (.t 1)),
 oO 4 (.alloc 1 4 [.int .u64 0]),
 oO 5 (.mv (.c (.int .u64 0)))])
 (.seq (.seq (.ops [
 oO 7 (.mv (.c (.int .i64 0)))])
 (.block 0
 (.loop
 (.seq (.ops [
 oO 8 (.bin .lss (.t 7) (.c (.int .i64 4)))])
 (.seq (.cond (.t 8)
 .skip
 (.exit 0))
 (.seq (.block 1
 (.seq (.ops [
 oM 9 7,
 oM 6 9])
 (.draw [
 oM 11 6,
 oM 12 6,
 oO 13 (.idxP 4 1 (.t 2) (.t 12)),
 oO 14 (.load 1 false (.t 13)),
 oM 15 6,
 oO 16 (.idxP 4 1 (.t 3) (.t 15)),
 oO 17 (.load 1 false (.t 16)),
 oM 18 5,
 oO 19 (.x64 false F_bits_Add64 (.t 14) (.t 17) (.t 18)),
 oM 10 19,
 oO 20 (.ext (.t 10) 0),
 oO 21 (.ext (.t 10) 1),
 oO 22 (.idxP 4 1 (.t 4) (.t 11)),
 ⟨none, .stA 1 4 1 (.t 22) (.t 20), none⟩,
 oM 5 21] ⟨.all, [], .look 0 (.look 1 (.look 2 (.look 3 (.look 4 (.look 5 (.look 6 (.look 7 (.run 8 true (.look 9 (.look 10 (.look 11 (.look 12 (.run 13 false (.look 14 .done))))))))))))))⟩)))
 (.ops [
 oO 23 (.binF .add (.t 7) (.c (.int .i64 1))),
 oM 7 23])))))))
 (.seq (.ops [
 oO 24 (.load 4 true (.t 4)),
 oM 25 5,
 ⟨none, .stA 1 4 4 (.t 4) (.t 24), none⟩,
 oM 5 25])
 .ret)))⟩
theorem K_limb_Add : chkFun DK Pg Try.f84 A_limb_Add = true := by kernel_rfl
theorem B_limb_Add {args : List AV} {m : Mem} {K : AV → Mem → Prop} (h : vcFun DK Pg A_limb_Add args m K) : ACall Pg F_limb_Add args m K := call_body mixed Try.func84 (by kernel_rfl) K_limb_Add h

noncomputable def A_limb_Bit : AFun := ⟨2, 20, [.t 4],
 (.seq (.ops [
 oO 2 (.box 1 4 (.t 0)),
 oO 4 (.mv (.c (.int .i64 0)))])
 (.seq (.seq (.ops [
 oM 5 1,
 oO 6 (.bin .lss (.t 5) (.c (.int .i64 0))),
 oM 7 6,
 oG 8 (.mv (.t 1)) 7 false,
 oG 9 (.bin .geq (.t 8) (.c (.int .i64 256))) 7 false,
 oO 10 (.pick (.t 7) (.c (.bool true)) (.t 9))])
 (.cond (.t 10)
 (.seq (.ops [
 oO 4 (.mv (.c (.int .i64 0)))])
 .ret)
 .skip))
 (.seq (.ops [
 oM 11 1,
 oO 12 (.bin .quo (.t 11) (.c (.int .i64 64))),
 oO 13 (.idxP 4 1 (.t 2) (.t 12)),
 oO 14 (.load 1 false (.t 13)),
 oM 15 1,
 oO 16 (.bin .rem (.t 15) (.c (.int .i64 64))),
 oO 17 (.bin .shr (.t 14) (.t 16)),
 oO 18 (.bin .and (.t 17) (.c (.int .u64 1))),
 oO 19 (.conv .i64 (.t 18)),
 oM 4 19])
 .ret)))⟩
theorem K_limb_Bit : chkFun DK Pg Try.f85 A_limb_Bit = true := by kernel_rfl
theorem B_limb_Bit {args : List AV} {m : Mem} {K : AV → Mem → Prop} (h : vcFun DK Pg A_limb_Bit args m K) : ACall Pg F_limb_Bit args m K := call_body mixed Try.func85 (by kernel_rfl) K_limb_Bit h

noncomputable def A_witanref04_Mac : AFun := ⟨2, 47, [.cell 4 32 true],
 (.seq (.ops [
 oO 4 (.alloc 1 32 [.int .u8 0])])
 (.seq (.ops [
 oO 5 (.alloc 1 64 [.int .u8 0]),
 oO 6 (.alloc 1 64 [.int .u8 0])])
 (.seq (.seq (.ops [
 oM 11 0,
 oO 12 (.len (.t 11)),
 oO 13 (.bin .gtr (.t 12) (.c (.int .i64 64)))])
 (.cond (.t 13)
 (.seq (.ops [
 oM 14 0,
 oK 15 F_witanref04_Sum256 [.t 14],
 oO 7 (.alloc 1 32 [.int .u8 0]),
 oS 32 7 15])
 (.ops [
 oO 16 (.slarr 32 1 (.t 7) none none none),
 oM 0 16]))
 .skip))
 (.seq (.seq (.ops [
 oO 8 (.mv (.c (.int .i64 0)))])
 (.block 0
 (.loop
 (.seq (.seq (.ops [
 oM 17 8,
 oO 18 (.bin .lss (.t 17) (.c (.int .i64 64)))])
 (.cond (.t 18)
 .skip
 (.exit 0)))
 (.seq (.block 1
 (.seq (.ops [
 oO 9 (.mv (.c (.int .u8 0)))])
 (.seq (.seq (.ops [
 oM 21 8,
 oM 22 0,
 oO 23 (.len (.t 22)),
 oO 24 (.bin .lss (.t 21) (.t 23))])
 (.cond (.t 24)
 (.ops [
 oM 25 0,
 oM 26 8,
 oO 27 (.idxA 1 (.t 25) (.t 26)),
 oO 28 (.load 1 false (.t 27)),
 oM 9 28])
 .skip))
 (.ops [
 oM 29 8,
 oM 30 8,
 oM 31 9,
 oO 32 (.bin .xor (.t 31) (.c (.int .u8 54))),
 oM 33 9,
 oO 34 (.bin .xor (.t 33) (.c (.int .u8 92))),
 oO 35 (.idxP 64 1 (.t 5) (.t 29)),
 oS 1 35 32,
 oO 36 (.idxP 64 1 (.t 6) (.t 30)),
 oS 1 36 34]))))
 (.ops [
 oM 19 8,
 oO 20 (.bin .add (.t 19) (.c (.int .i64 1))),
 oM 8 20]))))))
 (.seq (.ops [
 oO 37 (.slarr 64 1 (.t 5) none none none),
 oM 38 1,
 oO 39 (.bsl 1 2 [.nils] [(0, 1, .t 37), (1, 1, .t 38)]),
 oK 40 F_witanref04_join [.t 39],
 oK 41 F_witanref04_Sum256 [.t 40],
 oO 10 (.alloc 1 32 [.int .u8 0]),
 oS 32 10 41])
 (.seq (.draw [
 oO 42 (.slarr 64 1 (.t 6) none none none),
 oO 43 (.slarr 32 1 (.t 10) none none none),
 oO 44 (.bsl 1 2 [.nils] [(0, 1, .t 42), (1, 1, .t 43)]),
 oK 45 F_witanref04_join [.t 44],
 oK 46 F_witanref04_Sum256 [.t 45],
 oS 32 4 46] ⟨.all, [], .look 0 (.look 1 (.run 2 false (.run 3 false (.run 4 false (.run 5 false .done)))))⟩)
 .ret))))))⟩
theorem K_witanref04_Mac : chkFun DK Pg Try.f86 A_witanref04_Mac = true := by kernel_rfl
theorem B_witanref04_Mac {args : List AV} {m : Mem} {K : AV → Mem → Prop} (h : vcFun DK Pg A_witanref04_Mac args m K) : ACall Pg F_witanref04_Mac args m K := call_body mixed Try.func86 (by kernel_rfl) K_witanref04_Mac h

noncomputable def A_witanref01_Prime : AFun := ⟨1, 20, [.cell 2 4 true],
 (.seq (.ops [
 oO 2 (.alloc 1 4 [.int .u64 0])])
 (.seq (.ops [
 oO 6 (.build [.int .u64 0, .int .u64 0, .int .u64 0, .int .u64 0] []),
 oM 7 0,
 oK 8 F_witanref01_small [.t 7],
 oK 9 F_witanref01_Sub [.t 6, .t 8],
 oM 5 9,
 oO 10 (.ext (.t 5) 0),
 oO 11 (.ext (.t 5) 1),
 oO 3 (.alloc 1 4 [.int .u64 0]),
 ⟨none, .stA 1 4 4 (.t 3) (.t 10), none⟩,
 oM 4 11])
 (.seq (.seq (.ops [
 oM 12 0,
 oO 13 (.bin .neq (.t 12) (.c (.int .i64 0))),
 oM 14 13,
 oG 15 (.mv (.t 0)) 14 true,
 oG 16 (.bin .neq (.t 15) (.c (.int .i64 1))) 14 true,
 oO 17 (.pick (.t 14) (.t 16) (.c (.bool false)))])
 (.cond (.t 17)
 (.seq (.ops [
 oO 18 (.build [.int .u64 0, .int .u64 0, .int .u64 0, .int .u64 0] []),
 ⟨none, .stA 1 4 4 (.t 2) (.t 18), none⟩])
 .ret)
 .skip))
 (.seq (.ops [
 oO 19 (.load 4 true (.t 3)),
 ⟨none, .stA 1 4 4 (.t 2) (.t 19), none⟩])
 .ret))))⟩
theorem K_witanref01_Prime : chkFun DK Pg Try.f92 A_witanref01_Prime = true := by kernel_rfl
theorem B_witanref01_Prime {args : List AV} {m : Mem} {K : AV → Mem → Prop} (h : vcFun DK Pg A_witanref01_Prime args m K) : ACall Pg F_witanref01_Prime args m K := call_body mixed Try.func92 (by kernel_rfl) K_witanref01_Prime h

noncomputable def A_witanref01_mul : AFun := ⟨2, 8, [.cell 4 4 true],
 (.seq (.ops [
 oO 2 (.box 1 4 (.t 0)),
 oO 3 (.box 1 4 (.t 1)),
 oO 4 (.alloc 1 4 [.int .u64 0])])
 (.seq (.ops [
 oO 5 (.load 4 true (.t 2)),
 oO 6 (.load 4 true (.t 3)),
 oK 7 F_witanref01_FMul [.c (.int .i64 0), .t 5, .t 6],
 ⟨none, .stA 1 4 4 (.t 4) (.t 7), none⟩])
 .ret))⟩
theorem K_witanref01_mul : chkFun DK Pg Try.f93 A_witanref01_mul = true := by kernel_rfl
theorem B_witanref01_mul {args : List AV} {m : Mem} {K : AV → Mem → Prop} (h : vcFun DK Pg A_witanref01_mul args m K) : ACall Pg F_witanref01_mul args m K := call_body mixed Try.func93 (by kernel_rfl) K_witanref01_mul h

noncomputable def A_witanref01_add : AFun := ⟨2, 8, [.cell 4 4 true],
 (.seq (.ops [
 oO 2 (.box 1 4 (.t 0)),
 oO 3 (.box 1 4 (.t 1)),
 oO 4 (.alloc 1 4 [.int .u64 0])])
 (.seq (.ops [
 oO 5 (.load 4 true (.t 2)),
 oO 6 (.load 4 true (.t 3)),
 oK 7 F_witanref01_FAdd [.c (.int .i64 0), .t 5, .t 6],
 ⟨none, .stA 1 4 4 (.t 4) (.t 7), none⟩])
 .ret))⟩
theorem K_witanref01_add : chkFun DK Pg Try.f94 A_witanref01_add = true := by kernel_rfl
theorem B_witanref01_add {args : List AV} {m : Mem} {K : AV → Mem → Prop} (h : vcFun DK Pg A_witanref01_add args m K) : ACall Pg F_witanref01_add args m K := call_body mixed Try.func94 (by kernel_rfl) K_witanref01_add h

noncomputable def A_field_Red : AFun := ⟨2, 19, [.cell 4 4 true],
 (.seq (.ops [
 oO 3 (.box 1 4 (.t 1)),
 oO 4 (.alloc 1 4 [.int .u64 0])])
 (.seq (.ops [
 oM 8 0,
 oK 9 F_field_less [.t 8],
 oM 7 9,
 oO 10 (.ext (.t 7) 0),
 oO 11 (.ext (.t 7) 1),
 oO 5 (.alloc 1 4 [.int .u64 0]),
 ⟨none, .stA 1 4 4 (.t 5) (.t 10), none⟩,
 oM 6 11])
 (.seq (.seq (.ops [
 oM 12 6,
 oO 13 (.un .not (.t 12))])
 (.cond (.t 13)
 (.seq (.ops [
 oO 14 (.build [.int .u64 0, .int .u64 0, .int .u64 0, .int .u64 0] []),
 ⟨none, .stA 1 4 4 (.t 4) (.t 14), none⟩])
 .ret)
 .skip))
 (.seq (.ops [
 oO 15 (.load 4 true (.t 3)),
 oO 16 (.build [.int .u64 0, .int .u64 0, .int .u64 0, .int .u64 0] []),
 oO 17 (.load 4 true (.t 5)),
 oK 18 F_field_fold [.t 15, .t 16, .t 17],
 ⟨none, .stA 1 4 4 (.t 4) (.t 18), none⟩])
 .ret))))⟩
theorem K_field_Red : chkFun DK Pg Try.f111 A_field_Red = true := by kernel_rfl
theorem B_field_Red {args : List AV} {m : Mem} {K : AV → Mem → Prop} (h : vcFun DK Pg A_field_Red args m K) : ACall Pg F_field_Red args m K := call_body mixed Try.func111 (by kernel_rfl) K_field_Red h

noncomputable def A_field_Add : AFun := ⟨3, 30, [.cell 6 4 true],
 (.seq (.ops [
 oO 4 (.box 1 4 (.t 1)),
 oO 5 (.box 1 4 (.t 2)),
 oO 6 (.alloc 1 4 [.int .u64 0])])
 (.seq (.ops [
 oM 12 0,
 oK 13 F_field_less [.t 12],
 oM 11 13,
 oO 14 (.ext (.t 11) 0),
 oO 15 (.ext (.t 11) 1),
 oO 7 (.alloc 1 4 [.int .u64 0]),
 ⟨none, .stA 1 4 4 (.t 7) (.t 14), none⟩,
 oM 8 15])
 (.seq (.seq (.ops [
 oM 16 8,
 oO 17 (.un .not (.t 16))])
 (.cond (.t 17)
 (.seq (.ops [
 oO 18 (.build [.int .u64 0, .int .u64 0, .int .u64 0, .int .u64 0] []),
 ⟨none, .stA 1 4 4 (.t 6) (.t 18), none⟩])
 .ret)
 .skip))
 (.seq (.ops [
 oO 20 (.load 4 true (.t 4)),
 oO 21 (.load 4 true (.t 5)),
 oK 22 F_limb_Add [.t 20, .t 21],
 oM 19 22,
 oO 23 (.ext (.t 19) 0),
 oO 24 (.ext (.t 19) 1),
 oO 9 (.alloc 1 4 [.int .u64 0]),
 ⟨none, .stA 1 4 4 (.t 9) (.t 23), none⟩,
 oM 10 24])
 (.seq (.ops [
 oO 25 (.load 4 true (.t 9)),
 oM 26 10,
 oO 27 (.build [.int .u64 0, .int .u64 0, .int .u64 0, .int .u64 0] [(0, 1, .t 26)]),
 oO 28 (.load 4 true (.t 7)),
 oK 29 F_field_fold [.t 25, .t 27, .t 28],
 ⟨none, .stA 1 4 4 (.t 6) (.t 29), none⟩])
 .ret)))))⟩
theorem K_field_Add : chkFun DK Pg Try.f112 A_field_Add = true := by kernel_rfl
theorem B_field_Add {args : List AV} {m : Mem} {K : AV → Mem → Prop} (h : vcFun DK Pg A_field_Add args m K) : ACall Pg F_field_Add args m K := call_body mixed Try.func112 (by kernel_rfl) K_field_Add h

noncomputable def A_limb_Mul : AFun := ⟨2, 75, [.cell 4 4 true, .cell 5 4 true],
 (.seq (.ops [
 oO 2 (.box 1 4 (.t 0)),
 oO 3 (.box 1 4 (.t 1)),
 oO 4 (.alloc 1 4 [.int .u64 0]),
 oO 5 (.alloc 1 4 [.int .u64 0])])
 (.seq (.ops [
 oO 6 (.alloc 1 8 [.int .u64 0])])
 (.seq (.seq (.ops [
 oO 14 (.mv (.c (.int .i64 0)))])
 (.block 0
 (.loop
 (.seq (.ops [
 oO 15 (.bin .lss (.t 14) (.c (.int .i64 4)))])
 (.seq (.cond (.t 15)
 .skip
 (.exit 0))
 (.seq (.block 1
 (.seq (.ops [
 oM 16 14,
 oM 7 16])
 (.seq (.ops [
 oO 8 (.mv (.c (.int .u64 0)))])
 (.seq (.seq (.ops [
 oO 17 (.mv (.c (.int .i64 0)))])
 (.block 2
 (.loop
 (.seq (.ops [
 oO 18 (.bin .lss (.t 17) (.c (.int .i64 4)))])
 (.seq (.cond (.t 18)
 .skip
 (.exit 2))
 (.seq (.block 3
 (.seq (.ops [
 oM 19 17,
 oM 9 19])
 (.seq (.draw [
 oM 21 7,
 oO 22 (.idxP 4 1 (.t 2) (.t 21)),
 oO 23 (.load 1 false (.t 22)),
 oM 24 9,
 oO 25 (.idxP 4 1 (.t 3) (.t 24)),
 oO 26 (.load 1 false (.t 25)),
 oK 27 F_bits_Mul64 [.t 23, .t 26],
 oM 20 27,
 oO 28 (.ext (.t 20) 0),
 oO 29 (.ext (.t 20) 1),
 oM 10 28,
 oM 11 29] ⟨.all, [], .look 0 (.look 1 (.look 2 (.look 3 (.look 4 (.look 5 (.run 6 false (.look 7 (.look 8 (.look 9 (.look 10 (.look 11 .done)))))))))))⟩)
 (.seq (.ops [
 oO 12 (.mv (.c (.int .u64 0))),
 oO 13 (.mv (.c (.int .u64 0)))])
 (.seq (.ops [
 oM 31 7,
 oM 32 9,
 oO 33 (.binF .add (.t 31) (.t 32)),
 oM 34 7,
 oM 35 9,
 oO 36 (.binF .add (.t 34) (.t 35)),
 oO 37 (.idxP 8 1 (.t 6) (.t 36)),
 oO 38 (.load 1 false (.t 37)),
 oM 39 11,
 oO 40 (.x64 false F_bits_Add64 (.t 38) (.t 39) (.c (.int .u64 0))),
 oM 30 40,
 oO 41 (.ext (.t 30) 0),
 oO 42 (.ext (.t 30) 1),
 oO 43 (.idxP 8 1 (.t 6) (.t 33)),
 ⟨none, .stA 1 8 1 (.t 43) (.t 41), none⟩,
 oM 12 42])
 (.seq (.ops [
 oM 45 7,
 oM 46 9,
 oO 47 (.binF .add (.t 45) (.t 46)),
 oM 48 7,
 oM 49 9,
 oO 50 (.binF .add (.t 48) (.t 49)),
 oO 51 (.idxP 8 1 (.t 6) (.t 50)),
 oO 52 (.load 1 false (.t 51)),
 oM 53 8,
 oO 54 (.x64 false F_bits_Add64 (.t 52) (.t 53) (.c (.int .u64 0))),
 oM 44 54,
 oO 55 (.ext (.t 44) 0),
 oO 56 (.ext (.t 44) 1),
 oO 57 (.idxP 8 1 (.t 6) (.t 47)),
 ⟨none, .stA 1 8 1 (.t 57) (.t 55), none⟩,
 oM 13 56])
 (.ops [
 oM 58 10,
 oM 59 12,
 oO 60 (.bin .add (.t 58) (.t 59)),
 oM 61 13,
 oO 62 (.bin .add (.t 60) (.t 61)),
 oM 8 62])))))))
 (.ops [
 oO 63 (.binF .add (.t 17) (.c (.int .i64 1))),
 oM 17 63])))))))
 (.ops [
 oM 64 7,
 oO 65 (.binF .add (.t 64) (.c (.int .i64 4))),
 oM 66 8,
 oO 67 (.idxP 8 1 (.t 6) (.t 65)),
 ⟨none, .stA 1 8 1 (.t 67) (.t 66), none⟩])))))
 (.ops [
 oO 68 (.binF .add (.t 14) (.c (.int .i64 1))),
 oM 14 68])))))))
 (.seq (.draw [
 oO 69 (.slarr 8 1 (.t 6) none (some (.c (.int .i64 4))) none),
 oO 70 (.arrp 4 1 (.t 69)),
 oO 71 (.load 4 true (.t 70)),
 oO 72 (.slarr 8 1 (.t 6) (some (.c (.int .i64 4))) none none),
 oO 73 (.arrp 4 1 (.t 72)),
 oO 74 (.load 4 true (.t 73)),
 ⟨none, .stA 1 4 4 (.t 4) (.t 71), none⟩,
 ⟨none, .stA 1 4 4 (.t 5) (.t 74), none⟩] ⟨(.but [4]), [], .look 0 (.look 1 (.look 2 (.look 3 (.look 4 (.look 5 (.run 6 true (.run 7 false .done)))))))⟩)
 .ret))))⟩
theorem K_limb_Mul : chkFun DK Pg Try.f113 A_limb_Mul = true := by kernel_rfl
theorem B_limb_Mul {args : List AV} {m : Mem} {K : AV → Mem → Prop} (h : vcFun DK Pg A_limb_Mul args m K) : ACall Pg F_limb_Mul args m K := call_body mixed Try.func113 (by kernel_rfl) K_limb_Mul h

noncomputable def A_field_fold : AFun := ⟨3, 51, [.cell 6 4 true],
 (.seq (.ops [
 oO 3 (.box 1 4 (.t 0)),
 oO 4 (.box 1 4 (.t 1)),
 oO 5 (.box 1 4 (.t 2)),
 oO 6 (.alloc 1 4 [.int .u64 0])])
 (.seq (.block 0
 (.loop
 (.seq (.seq (.ops [
 oO 12 (.load 4 true (.t 4)),
 oO 13 (.build [.int .u64 0, .int .u64 0, .int .u64 0, .int .u64 0] []),
 oO 14 (.eqa [.i, .i, .i, .i] true (.t 12) (.t 13))])
 (.cond (.t 14)
 .skip
 (.exit 0)))
 (.block 1
 (.seq (.ops [
 oO 16 (.load 4 true (.t 4)),
 oO 17 (.load 4 true (.t 5)),
 oK 18 F_limb_Mul [.t 16, .t 17],
 oM 15 18,
 oO 19 (.ext (.t 15) 0),
 oO 20 (.ext (.t 15) 1),
 oO 7 (.alloc 1 4 [.int .u64 0]),
 oO 8 (.alloc 1 4 [.int .u64 0]),
 ⟨none, .stA 1 4 4 (.t 7) (.t 19), none⟩,
 ⟨none, .stA 1 4 4 (.t 8) (.t 20), none⟩])
 (.seq (.ops [
 oO 9 (.mv (.c (.int .u64 0)))])
 (.seq (.ops [
 oO 22 (.load 4 true (.t 3)),
 oO 23 (.load 4 true (.t 7)),
 oK 24 F_limb_Add [.t 22, .t 23],
 oM 21 24,
 oO 25 (.ext (.t 21) 0),
 oO 26 (.ext (.t 21) 1),
 ⟨none, .stA 1 4 4 (.t 3) (.t 25), none⟩,
 oM 9 26])
 (.ops [
 oO 28 (.load 4 true (.t 8)),
 oM 29 9,
 oO 30 (.build [.int .u64 0, .int .u64 0, .int .u64 0, .int .u64 0] [(0, 1, .t 29)]),
 oK 31 F_limb_Add [.t 28, .t 30],
 oM 27 31,
 oO 32 (.ext (.t 27) 0),
 oO 33 (.ext (.t 27) 1),
 ⟨none, .stA 1 4 4 (.t 4) (.t 32), none⟩]))))))))
 (.seq (.ops [
 oO 35 (.build [.int .u64 0, .int .u64 0, .int .u64 0, .int .u64 0] []),
 oO 36 (.load 4 true (.t 5)),
 oK 37 F_limb_Sub [.t 35, .t 36],
 oM 34 37,
 oO 38 (.ext (.t 34) 0),
 oO 39 (.ext (.t 34) 1),
 oO 10 (.alloc 1 4 [.int .u64 0]),
 ⟨none, .stA 1 4 4 (.t 10) (.t 38), none⟩,
 oM 11 39])
 (.seq (.seq (.ops [
 oO 40 (.load 4 true (.t 3)),
 oO 41 (.load 4 true (.t 10)),
 oK 42 F_limb_Cmp [.t 40, .t 41],
 oO 43 (.bin .geq (.t 42) (.c (.int .i64 0)))])
 (.cond (.t 43)
 (.ops [
 oO 45 (.load 4 true (.t 3)),
 oO 46 (.load 4 true (.t 10)),
 oK 47 F_limb_Sub [.t 45, .t 46],
 oM 44 47,
 oO 48 (.ext (.t 44) 0),
 oO 49 (.ext (.t 44) 1),
 ⟨none, .stA 1 4 4 (.t 3) (.t 48), none⟩])
 .skip))
 (.seq (.ops [
 oO 50 (.load 4 true (.t 3)),
 ⟨none, .stA 1 4 4 (.t 6) (.t 50), none⟩])
 .ret)))))⟩
theorem K_field_fold : chkFun DK Pg Try.f114 A_field_fold = true := by kernel_rfl
theorem B_field_fold {args : List AV} {m : Mem} {K : AV → Mem → Prop} (h : vcFun DK Pg A_field_fold args m K) : ACall Pg F_field_fold args m K := call_body mixed Try.func114 (by kernel_rfl) K_field_fold h

noncomputable def A_witanref04_k256 : AFun := ⟨0, 2, [.cell 0 64 true],
 (.seq (.ops [
 oO 0 (.alloc 1 64 [.int .u32 0])])
 (.seq (.ops [
 oO 1 (.build (List.replicate 64 (.int .u32 0)) [(0, 1, .c (.int .u32 1116352408)), (1, 1, .c (.int .u32 1899447441)), (2, 1, .c (.int .u32 3049323471)), (3, 1, .c (.int .u32 3921009573)), (4, 1, .c (.int .u32 961987163)), (5, 1, .c (.int .u32 1508970993)), (6, 1, .c (.int .u32 2453635748)), (7, 1, .c (.int .u32 2870763221)), (8, 1, .c (.int .u32 3624381080)), (9, 1, .c (.int .u32 310598401)), (10, 1, .c (.int .u32 607225278)), (11, 1, .c (.int .u32 1426881987)), (12, 1, .c (.int .u32 1925078388)), (13, 1, .c (.int .u32 2162078206)), (14, 1, .c (.int .u32 2614888103)), (15, 1, .c (.int .u32 3248222580)), (16, 1, .c (.int .u32 3835390401)), (17, 1, .c (.int .u32 4022224774)), (18, 1, .c (.int .u32 264347078)), (19, 1, .c (.int .u32 604807628)), (20, 1, .c (.int .u32 770255983)), (21, 1, .c (.int .u32 1249150122)), (22, 1, .c (.int .u32 1555081692)), (23, 1, .c (.int .u32 1996064986)), (24, 1, .c (.int .u32 2554220882)), (25, 1, .c (.int .u32 2821834349)), (26, 1, .c (.int .u32 2952996808)), (27, 1, .c (.int .u32 3210313671)), (28, 1, .c (.int .u32 3336571891)), (29, 1, .c (.int .u32 3584528711)), (30, 1, .c (.int .u32 113926993)), (31, 1, .c (.int .u32 338241895)), (32, 1, .c (.int .u32 666307205)), (33, 1, .c (.int .u32 773529912)), (34, 1, .c (.int .u32 1294757372)), (35, 1, .c (.int .u32 1396182291)), (36, 1, .c (.int .u32 1695183700)), (37, 1, .c (.int .u32 1986661051)), (38, 1, .c (.int .u32 2177026350)), (39, 1, .c (.int .u32 2456956037)), (40, 1, .c (.int .u32 2730485921)), (41, 1, .c (.int .u32 2820302411)), (42, 1, .c (.int .u32 3259730800)), (43, 1, .c (.int .u32 3345764771)), (44, 1, .c (.int .u32 3516065817)), (45, 1, .c (.int .u32 3600352804)), (46, 1, .c (.int .u32 4094571909)), (47, 1, .c (.int .u32 275423344)), (48, 1, .c (.int .u32 430227734)), (49, 1, .c (.int .u32 506948616)), (50, 1, .c (.int .u32 659060556)), (51, 1, .c (.int .u32 883997877)), (52, 1, .c (.int .u32 958139571)), (53, 1, .c (.int .u32 1322822218)), (54, 1, .c (.int .u32 1537002063)), (55, 1, .c (.int .u32 1747873779)), (56, 1, .c (.int .u32 1955562222)), (57, 1, .c (.int .u32 2024104815)), (58, 1, .c (.int .u32 2227730452)), (59, 1, .c (.int .u32 2361852424)), (60, 1, .c (.int .u32 2428436474)), (61, 1, .c (.int .u32 2756734187)), (62, 1, .c (.int .u32 3204031479)), (63, 1, .c (.int .u32 3329325298))]),
 oS 64 0 1])
 .ret))⟩
theorem K_witanref04_k256 : chkFun DK Pg Try.f115 A_witanref04_k256 = true := by kernel_rfl
theorem B_witanref04_k256 {args : List AV} {m : Mem} {K : AV → Mem → Prop} (h : vcFun DK Pg A_witanref04_k256 args m K) : ACall Pg F_witanref04_k256 args m K := call_body mixed Try.func115 (by kernel_rfl) K_witanref04_k256 h

noncomputable def A_witanref04_padded : AFun := ⟨1, 37, [.t 2],
 (.seq (.ops [
 oO 2 (.mv (.c (.nils)))])
 (.seq (.ops [
 oO 3 (.mv (.c (.nils)))])
 (.seq (.ops [
 oM 6 3,
 oM 7 0,
 oO 8 (.app 1 1 (.t 6) (.t 7)),
 oO 9 (.bsl 1 1 [.int .u8 0] [(0, 1, .c (.int .u8 128))]),
 oO 10 (.app 1 1 (.t 8) (.t 9)),
 oM 3 10])
 (.seq (.block 0
 (.loop
 (.seq (.seq (.ops [
 oM 11 3,
 oO 12 (.len (.t 11)),
 oO 13 (.bin .add (.t 12) (.c (.int .i64 8))),
 oO 14 (.bin .rem (.t 13) (.c (.int .i64 64))),
 oO 15 (.bin .neq (.t 14) (.c (.int .i64 0)))])
 (.cond (.t 15)
 .skip
 (.exit 0)))
 (.block 1
 (.ops [
 oM 16 3,
 oO 17 (.bsl 1 1 [.int .u8 0] [(0, 1, .c (.int .u8 0))]),
 oO 18 (.app 1 1 (.t 16) (.t 17)),
 oM 3 18])))))
 (.seq (.ops [
 oM 19 0,
 oO 20 (.len (.t 19)),
 oO 21 (.conv .u64 (.t 20)),
 oO 22 (.bin .mul (.t 21) (.c (.int .u64 8))),
 oM 4 22])
 (.seq (.seq (.ops [
 oO 5 (.mv (.c (.int .i64 7)))])
 (.block 2
 (.loop
 (.seq (.seq (.ops [
 oM 23 5,
 oO 24 (.bin .geq (.t 23) (.c (.int .i64 0)))])
 (.cond (.t 24)
 .skip
 (.exit 2)))
 (.seq (.block 3
 (.ops [
 oM 27 3,
 oM 28 4,
 oM 29 5,
 oO 30 (.conv .u64 (.t 29)),
 oO 31 (.bin .mul (.c (.int .u64 8)) (.t 30)),
 oO 32 (.bin .shr (.t 28) (.t 31)),
 oO 33 (.conv .u8 (.t 32)),
 oO 34 (.bsl 1 1 [.int .u8 0] [(0, 1, .t 33)]),
 oO 35 (.app 1 1 (.t 27) (.t 34)),
 oM 3 35]))
 (.ops [
 oM 25 5,
 oO 26 (.bin .sub (.t 25) (.c (.int .i64 1))),
 oM 5 26]))))))
 (.seq (.ops [
 oM 36 3,
 oM 2 36])
 .ret)))))))⟩
theorem K_witanref04_padded : chkFun DK Pg Try.f116 A_witanref04_padded = true := by kernel_rfl
theorem B_witanref04_padded {args : List AV} {m : Mem} {K : AV → Mem → Prop} (h : vcFun DK Pg A_witanref04_padded args m K) : ACall Pg F_witanref04_padded args m K := call_body mixed Try.func116 (by kernel_rfl) K_witanref04_padded h

noncomputable def A_witanref04_rot32 : AFun := ⟨2, 9, [.t 4],
 (.seq (.ops [
 oO 4 (.mv (.c (.int .u32 0)))])
 (.seq (.ops [
 oM 5 0,
 oM 6 1,
 oO 7 (.un .neg (.t 6)),
 oK 8 F_bits_RotateLeft32 [.t 5, .t 7],
 oM 4 8])
 .ret))⟩
theorem K_witanref04_rot32 : chkFun DK Pg Try.f117 A_witanref04_rot32 = true := by kernel_rfl
theorem B_witanref04_rot32 {args : List AV} {m : Mem} {K : AV → Mem → Prop} (h : vcFun DK Pg A_witanref04_rot32 args m K) : ACall Pg F_witanref04_rot32 args m K := call_body mixed Try.func117 (by kernel_rfl) K_witanref04_rot32 h

noncomputable def A_witanref01_fold : AFun := ⟨3, 48, [.cell 6 4 true],
 (.seq (.ops [
 oO 4 (.box 1 4 (.t 1)),
 oO 5 (.box 1 4 (.t 2)),
 oO 6 (.alloc 1 4 [.int .u64 0])])
 (.seq (.block 0
 (.loop
 (.seq (.seq (.ops [
 oO 11 (.load 4 true (.t 5)),
 oO 12 (.build [.int .u64 0, .int .u64 0, .int .u64 0, .int .u64 0] []),
 oO 13 (.eqa [.i, .i, .i, .i] true (.t 11) (.t 12))])
 (.cond (.t 13)
 .skip
 (.exit 0)))
 (.block 1
 (.seq (.draw [
 oO 15 (.load 4 true (.t 5)),
 oM 16 0,
 oK 17 F_witanref01_small [.t 16],
 oK 18 F_witanref01_Mul [.t 15, .t 17],
 oM 14 18,
 oO 19 (.ext (.t 14) 0),
 oO 20 (.ext (.t 14) 1),
 oO 7 (.alloc 1 4 [.int .u64 0]),
 oO 8 (.alloc 1 4 [.int .u64 0]),
 oS 4 7 19,
 oS 4 8 20] ⟨.all, [(7, some 9), (8, some 10)], .look 0 (.look 1 (.run 2 true (.run 3 true (.look 4 (.look 5 (.pre 7 9 (.look 6 (.pre 8 10 (.fill .done)))))))))⟩)
 (.seq (.ops [
 oO 22 (.load 4 true (.t 4)),
 oO 23 (.load 4 true (.t 7)),
 oK 24 F_witanref01_Add [.t 22, .t 23],
 oM 21 24,
 oO 25 (.ext (.t 21) 0),
 oO 26 (.ext (.t 21) 1),
 oO 9 (.alloc 1 4 [.int .u64 0]),
 ⟨none, .stA 1 4 4 (.t 9) (.t 25), none⟩,
 oM 10 26])
 (.seq (.ops [
 oO 27 (.load 4 true (.t 9)),
 ⟨none, .stA 1 4 4 (.t 4) (.t 27), none⟩])
 (.ops [
 oO 29 (.load 4 true (.t 8)),
 oM 30 10,
 oO 31 (.build [.int .u64 0, .int .u64 0, .int .u64 0, .int .u64 0] [(0, 1, .t 30)]),
 oK 32 F_witanref01_Add [.t 29, .t 31],
 oM 28 32,
 oO 33 (.ext (.t 28) 0),
 oO 34 (.ext (.t 28) 1),
 ⟨none, .stA 1 4 4 (.t 5) (.t 33), none⟩]))))))))
 (.seq (.seq (.draw [
 oO 35 (.load 4 true (.t 4)),
 oM 36 0,
 oK 37 F_witanref01_Prime [.t 36],
 oK 38 F_witanref01_Cmp [.t 35, .t 37],
 oO 39 (.bin .geq (.t 38) (.c (.int .i64 0)))] ⟨.all, [], .look 0 (.look 1 (.run 2 true (.run 3 true (.look 4 .done))))⟩)
 (.cond (.t 39)
 (.draw [
 oO 41 (.load 4 true (.t 4)),
 oM 42 0,
 oK 43 F_witanref01_Prime [.t 42],
 oK 44 F_witanref01_Sub [.t 41, .t 43],
 oM 40 44,
 oO 45 (.ext (.t 40) 0),
 oO 46 (.ext (.t 40) 1),
 ⟨none, .stA 1 4 4 (.t 4) (.t 45), none⟩] ⟨.all, [], .look 0 (.look 1 (.run 2 true (.run 3 false (.look 4 (.look 5 (.look 6 (.run 7 false .done)))))))⟩)
 .skip))
 (.seq (.ops [
 oO 47 (.load 4 true (.t 4)),
 ⟨none, .stA 1 4 4 (.t 6) (.t 47), none⟩])
 .ret))))⟩
theorem K_witanref01_fold : chkFun DK Pg Try.f118 A_witanref01_fold = true := by kernel_rfl
theorem B_witanref01_fold {args : List AV} {m : Mem} {K : AV → Mem → Prop} (h : vcFun DK Pg A_witanref01_fold args m K) : ACall Pg F_witanref01_fold args m K := call_body mixed Try.func118 (by kernel_rfl) K_witanref01_fold h

noncomputable def A_witanref01_Inf : AFun := ⟨0, 2, [.cell 0 9 true],
 (.seq (.ops [
 oO 0 (.alloc 9 1 [.bool false, .int .u64 0, .int .u64 0, .int .u64 0, .int .u64 0, .int .u64 0, .int .u64 0, .int .u64 0, .int .u64 0])])
 (.seq (.ops [
 oO 1 (.build [.bool false, .int .u64 0, .int .u64 0, .int .u64 0, .int .u64 0, .int .u64 0, .int .u64 0, .int .u64 0, .int .u64 0] [(0, 1, .c (.bool true))]),
 ⟨none, .stA 9 1 9 (.t 0) (.t 1), none⟩])
 .ret))⟩
theorem K_witanref01_Inf : chkFun DK Pg Try.f120 A_witanref01_Inf = true := by kernel_rfl
theorem B_witanref01_Inf {args : List AV} {m : Mem} {K : AV → Mem → Prop} (h : vcFun DK Pg A_witanref01_Inf args m K) : ACall Pg F_witanref01_Inf args m K := call_body mixed Try.func120 (by kernel_rfl) K_witanref01_Inf h

noncomputable def A_witanref01_Root : AFun := ⟨1, 56, [.cell 2 4 true, .t 3],
 (.seq (.ops [
 oO 1 (.box 1 4 (.t 0)),
 oO 2 (.alloc 1 4 [.int .u64 0]),
 oO 3 (.mv (.c (.bool false)))])
 (.seq (.ops [
 oO 9 (.load 4 true (.t 1)),
 oK 10 F_witanref01_Red [.c (.int .i64 0), .t 9],
 ⟨none, .stA 1 4 4 (.t 1) (.t 10), none⟩])
 (.seq (.ops [
 oK 12 F_witanref01_Prime [.c (.int .i64 0)],
 oO 13 (.build [.int .u64 0, .int .u64 0, .int .u64 0, .int .u64 0] [(0, 1, .c (.int .u64 1))]),
 oK 14 F_witanref01_Add [.t 12, .t 13],
 oM 11 14,
 oO 15 (.ext (.t 11) 0),
 oO 16 (.ext (.t 11) 1),
 oO 4 (.alloc 1 4 [.int .u64 0]),
 ⟨none, .stA 1 4 4 (.t 4) (.t 15), none⟩,
 oM 5 16])
 (.seq (.ops [
 oO 6 (.alloc 1 4 [.int .u64 0])])
 (.seq (.seq (.ops [
 oO 7 (.mv (.c (.int .i64 0)))])
 (.block 0
 (.loop
 (.seq (.seq (.ops [
 oM 17 7,
 oO 18 (.bin .lss (.t 17) (.c (.int .i64 4)))])
 (.cond (.t 18)
 .skip
 (.exit 0)))
 (.seq (.block 1
 (.seq (.ops [
 oM 21 7,
 oM 22 7,
 oO 23 (.idxP 4 1 (.t 4) (.t 22)),
 oO 24 (.load 1 false (.t 23)),
 oO 25 (.bin .shr (.t 24) (.c (.int .u64 2))),
 oO 26 (.idxP 4 1 (.t 6) (.t 21)),
 ⟨none, .stA 1 4 1 (.t 26) (.t 25), none⟩])
 (.seq (.ops [
 oM 27 7,
 oO 28 (.bin .lss (.t 27) (.c (.int .i64 3)))])
 (.cond (.t 28)
 (.draw [
 oM 29 7,
 oO 30 (.idxP 4 1 (.t 6) (.t 29)),
 oO 31 (.load 1 false (.t 30)),
 oM 32 7,
 oO 33 (.binF .add (.t 32) (.c (.int .i64 1))),
 oO 34 (.idxP 4 1 (.t 4) (.t 33)),
 oO 35 (.load 1 false (.t 34)),
 oO 36 (.bin .shl (.t 35) (.c (.int .u64 62))),
 oO 37 (.bin .or (.t 31) (.t 36)),
 oO 38 (.idxP 4 1 (.t 6) (.t 29)),
 ⟨none, .stA 1 4 1 (.t 38) (.t 37), none⟩] ⟨.all, [], .look 0 (.look 1 (.look 2 (.look 3 (.look 4 (.look 5 (.look 6 (.look 7 (.look 8 (.look 9 (.run 10 false .done))))))))))⟩)
 .skip))))
 (.ops [
 oM 19 7,
 oO 20 (.binF .add (.t 19) (.c (.int .i64 1))),
 oM 7 20]))))))
 (.seq (.ops [
 oO 39 (.load 4 true (.t 1)),
 oO 40 (.load 4 true (.t 6)),
 oK 41 F_witanref01_Pow [.c (.int .i64 0), .t 39, .t 40],
 oO 8 (.alloc 1 4 [.int .u64 0]),
 ⟨none, .stA 1 4 4 (.t 8) (.t 41), none⟩])
 (.seq (.seq (.draw [
 oO 42 (.load 4 true (.t 8)),
 oO 43 (.load 4 true (.t 8)),
 oK 44 F_witanref01_FMul [.c (.int .i64 0), .t 42, .t 43],
 oO 45 (.load 4 true (.t 1)),
 oO 46 (.eqa [.i, .i, .i, .i] true (.t 44) (.t 45))] ⟨.all, [], .look 0 (.look 1 (.look 3 (.run 2 true (.look 4 .done))))⟩)
 (.cond (.t 46)
 (.seq (.ops [
 oO 47 (.build [.int .u64 0, .int .u64 0, .int .u64 0, .int .u64 0] []),
 ⟨none, .stA 1 4 4 (.t 2) (.t 47), none⟩,
 oO 3 (.mv (.c (.bool false)))])
 .ret)
 .skip))
 (.seq (.seq (.ops [
 oO 48 (.idxP 4 1 (.t 8) (.c (.int .i64 0))),
 oO 49 (.load 1 false (.t 48)),
 oO 50 (.bin .and (.t 49) (.c (.int .u64 1))),
 oO 51 (.bin .eql (.t 50) (.c (.int .u64 1)))])
 (.cond (.t 51)
 (.ops [
 oO 52 (.build [.int .u64 0, .int .u64 0, .int .u64 0, .int .u64 0] []),
 oO 53 (.load 4 true (.t 8)),
 oK 54 F_witanref01_FSub [.c (.int .i64 0), .t 52, .t 53],
 ⟨none, .stA 1 4 4 (.t 8) (.t 54), none⟩])
 .skip))
 (.seq (.ops [
 oO 55 (.load 4 true (.t 8)),
 ⟨none, .stA 1 4 4 (.t 2) (.t 55), none⟩,
 oO 3 (.mv (.c (.bool true)))])
 .ret)))))))))⟩
theorem K_witanref01_Root : chkFun DK Pg Try.f121 A_witanref01_Root = true := by kernel_rfl
theorem B_witanref01_Root {args : List AV} {m : Mem} {K : AV → Mem → Prop} (h : vcFun DK Pg A_witanref01_Root args m K) : ACall Pg F_witanref01_Root args m K := call_body mixed Try.func121 (by kernel_rfl) K_witanref01_Root h

noncomputable def A_witanref01_sub : AFun := ⟨2, 8, [.cell 4 4 true],
 (.seq (.ops [
 oO 2 (.box 1 4 (.t 0)),
 oO 3 (.box 1 4 (.t 1)),
 oO 4 (.alloc 1 4 [.int .u64 0])])
 (.seq (.ops [
 oO 5 (.load 4 true (.t 2)),
 oO 6 (.load 4 true (.t 3)),
 oK 7 F_witanref01_FSub [.c (.int .i64 0), .t 5, .t 6],
 ⟨none, .stA 1 4 4 (.t 4) (.t 7), none⟩])
 .ret))⟩
theorem K_witanref01_sub : chkFun DK Pg Try.f122 A_witanref01_sub = true := by kernel_rfl
theorem B_witanref01_sub {args : List AV} {m : Mem} {K : AV → Mem → Prop} (h : vcFun DK Pg A_witanref01_sub args m K) : ACall Pg F_witanref01_sub args m K := call_body mixed Try.func122 (by kernel_rfl) K_witanref01_sub h

noncomputable def A_curve_add : AFun := ⟨2, 8, [.cell 4 4 true],
 (.seq (.ops [
 oO 2 (.box 1 4 (.t 0)),
 oO 3 (.box 1 4 (.t 1)),
 oO 4 (.alloc 1 4 [.int .u64 0])])
 (.seq (.ops [
 oO 5 (.load 4 true (.t 2)),
 oO 6 (.load 4 true (.t 3)),
 oK 7 F_field_Add [.c (.int .i64 0), .t 5, .t 6],
 ⟨none, .stA 1 4 4 (.t 4) (.t 7), none⟩])
 .ret))⟩
theorem K_curve_add : chkFun DK Pg Try.f123 A_curve_add = true := by kernel_rfl
theorem B_curve_add {args : List AV} {m : Mem} {K : AV → Mem → Prop} (h : vcFun DK Pg A_curve_add args m K) : ACall Pg F_curve_add args m K := call_body mixed Try.func123 (by kernel_rfl) K_curve_add h

noncomputable def A_field_Pow : AFun := ⟨3, 40, [.cell 6 4 true],
 (.seq (.ops [
 oO 4 (.box 1 4 (.t 1)),
 oO 5 (.box 1 4 (.t 2)),
 oO 6 (.alloc 1 4 [.int .u64 0])])
 (.seq (.ops [
 oM 12 0,
 oK 13 F_field_less [.t 12],
 oM 11 13,
 oO 14 (.ext (.t 11) 0),
 oO 15 (.ext (.t 11) 1),
 oO 7 (.alloc 1 4 [.int .u64 0]),
 ⟨none, .stA 1 4 4 (.t 7) (.t 14), none⟩,
 oM 8 15])
 (.seq (.seq (.ops [
 oM 16 8,
 oO 17 (.un .not (.t 16))])
 (.cond (.t 17)
 (.seq (.ops [
 oO 18 (.build [.int .u64 0, .int .u64 0, .int .u64 0, .int .u64 0] []),
 ⟨none, .stA 1 4 4 (.t 6) (.t 18), none⟩])
 .ret)
 .skip))
 (.seq (.ops [
 oO 19 (.build [.int .u64 0, .int .u64 0, .int .u64 0, .int .u64 0] [(0, 1, .c (.int .u64 1))]),
 oO 9 (.alloc 1 4 [.int .u64 0]),
 ⟨none, .stA 1 4 4 (.t 9) (.t 19), none⟩])
 (.seq (.seq (.ops [
 oO 20 (.load 4 true (.t 5)),
 oK 21 F_limb_Len [.t 20],
 oO 22 (.bin .sub (.t 21) (.c (.int .i64 1))),
 oM 10 22])
 (.block 0
 (.loop
 (.seq (.seq (.ops [
 oM 23 10,
 oO 24 (.bin .geq (.t 23) (.c (.int .i64 0)))])
 (.cond (.t 24)
 .skip
 (.exit 0)))
 (.seq (.block 1
 (.seq (.ops [
 oM 27 0,
 oO 28 (.load 4 true (.t 9)),
 oO 29 (.load 4 true (.t 9)),
 oK 30 F_field_Mul [.t 27, .t 28, .t 29],
 ⟨none, .stA 1 4 4 (.t 9) (.t 30), none⟩])
 (.seq (.ops [
 oO 31 (.load 4 true (.t 5)),
 oM 32 10,
 oK 33 F_limb_Bit [.t 31, .t 32],
 oO 34 (.bin .eql (.t 33) (.c (.int .i64 1)))])
 (.cond (.t 34)
 (.ops [
 oM 35 0,
 oO 36 (.load 4 true (.t 9)),
 oO 37 (.load 4 true (.t 4)),
 oK 38 F_field_Mul [.t 35, .t 36, .t 37],
 ⟨none, .stA 1 4 4 (.t 9) (.t 38), none⟩])
 .skip))))
 (.ops [
 oM 25 10,
 oO 26 (.bin .sub (.t 25) (.c (.int .i64 1))),
 oM 10 26]))))))
 (.seq (.ops [
 oO 39 (.load 4 true (.t 9)),
 ⟨none, .stA 1 4 4 (.t 6) (.t 39), none⟩])
 .ret))))))⟩
theorem K_field_Pow : chkFun DK Pg Try.f124 A_field_Pow = true := by kernel_rfl
theorem B_field_Pow {args : List AV} {m : Mem} {K : AV → Mem → Prop} (h : vcFun DK Pg A_field_Pow args m K) : ACall Pg F_field_Pow args m K := call_body mixed Try.func124 (by kernel_rfl) K_field_Pow h

noncomputable def A_limb_Len : AFun := ⟨1, 19, [.t 2],
 (.seq (.ops [
 oO 1 (.box 1 4 (.t 0)),
 oO 2 (.mv (.c (.int .i64 0)))])
 (.seq (.seq (.ops [
 oO 3 (.mv (.c (.int .i64 3)))])
 (.block 0
 (.loop
 (.seq (.seq (.ops [
 oM 4 3,
 oO 5 (.bin .geq (.t 4) (.c (.int .i64 0)))])
 (.cond (.t 5)
 .skip
 (.exit 0)))
 (.seq (.block 1
 (.seq (.ops [
 oM 8 3,
 oO 9 (.idxP 4 1 (.t 1) (.t 8)),
 oO 10 (.load 1 false (.t 9)),
 oO 11 (.bin .neq (.t 10) (.c (.int .u64 0)))])
 (.cond (.t 11)
 (.seq (.ops [
 oM 12 3,
 oO 13 (.bin .mul (.c (.int .i64 64)) (.t 12)),
 oM 14 3,
 oO 15 (.idxP 4 1 (.t 1) (.t 14)),
 oO 16 (.load 1 false (.t 15)),
 oK 17 F_bits_Len64 [.t 16],
 oO 18 (.bin .add (.t 13) (.t 17)),
 oM 2 18])
 .ret)
 .skip)))
 (.ops [
 oM 6 3,
 oO 7 (.bin .sub (.t 6) (.c (.int .i64 1))),
 oM 3 7]))))))
 (.seq (.ops [
 oO 2 (.mv (.c (.int .i64 0)))])
 .ret)))⟩
theorem K_limb_Len : chkFun DK Pg Try.f125 A_limb_Len = true := by kernel_rfl
theorem B_limb_Len {args : List AV} {m : Mem} {K : AV → Mem → Prop} (h : vcFun DK Pg A_limb_Len args m K) : ACall Pg F_limb_Len args m K := call_body mixed Try.func125 (by kernel_rfl) K_limb_Len h

noncomputable def A_witanref01_small : AFun := ⟨1, 7, [.cell 2 4 true],
 (.seq (.ops [
 oO 2 (.alloc 1 4 [.int .u64 0])])
 (.seq (.seq (.ops [
 oM 3 0,
 oO 4 (.bin .eql (.t 3) (.c (.int .i64 1)))])
 (.cond (.t 4)
 (.seq (.ops [
 oO 5 (.build [.int .u64 0, .int .u64 0, .int .u64 0, .int .u64 0] [(0, 1, .c (.int .u64 4624529908474429119)), (1, 1, .c (.int .u64 4994812053365940164)), (2, 1, .c (.int .u64 1)), (3, 1, .c (.int .u64 0))]),
 ⟨none, .stA 1 4 4 (.t 2) (.t 5), none⟩])
 .ret)
 .skip))
 (.seq (.ops [
 oO 6 (.build [.int .u64 0, .int .u64 0, .int .u64 0, .int .u64 0] [(0, 1, .c (.int .u64 4294968273))]),
 ⟨none, .stA 1 4 4 (.t 2) (.t 6), none⟩])
 .ret)))⟩
theorem K_witanref01_small : chkFun DK Pg Try.f129 A_witanref01_small = true := by kernel_rfl
theorem B_witanref01_small {args : List AV} {m : Mem} {K : AV → Mem → Prop} (h : vcFun DK Pg A_witanref01_small args m K) : ACall Pg F_witanref01_small args m K := call_body mixed Try.func129 (by kernel_rfl) K_witanref01_small h

noncomputable def A_witanref01_FMul : AFun := ⟨3, 23, [.cell 6 4 true],
 (.seq (.ops [
 oO 4 (.box 1 4 (.t 1)),
 oO 5 (.box 1 4 (.t 2)),
 oO 6 (.alloc 1 4 [.int .u64 0])])
 (.seq (.seq (.ops [
 oM 9 0,
 oK 10 F_witanref01_ok [.t 9],
 oO 11 (.un .not (.t 10))])
 (.cond (.t 11)
 (.seq (.ops [
 oO 12 (.build [.int .u64 0, .int .u64 0, .int .u64 0, .int .u64 0] []),
 ⟨none, .stA 1 4 4 (.t 6) (.t 12), none⟩])
 .ret)
 .skip))
 (.seq (.ops [
 oO 14 (.load 4 true (.t 4)),
 oO 15 (.load 4 true (.t 5)),
 oK 16 F_witanref01_Mul [.t 14, .t 15],
 oM 13 16,
 oO 17 (.ext (.t 13) 0),
 oO 18 (.ext (.t 13) 1),
 oO 7 (.alloc 1 4 [.int .u64 0]),
 oO 8 (.alloc 1 4 [.int .u64 0]),
 ⟨none, .stA 1 4 4 (.t 7) (.t 17), none⟩,
 ⟨none, .stA 1 4 4 (.t 8) (.t 18), none⟩])
 (.seq (.ops [
 oM 19 0,
 oO 20 (.load 4 true (.t 7)),
 oO 21 (.load 4 true (.t 8)),
 oK 22 F_witanref01_fold [.t 19, .t 20, .t 21],
 ⟨none, .stA 1 4 4 (.t 6) (.t 22), none⟩])
 .ret))))⟩
theorem K_witanref01_FMul : chkFun DK Pg Try.f130 A_witanref01_FMul = true := by kernel_rfl
theorem B_witanref01_FMul {args : List AV} {m : Mem} {K : AV → Mem → Prop} (h : vcFun DK Pg A_witanref01_FMul args m K) : ACall Pg F_witanref01_FMul args m K := call_body mixed Try.func130 (by kernel_rfl) K_witanref01_FMul h

noncomputable def A_witanref01_FAdd : AFun := ⟨3, 28, [.cell 6 4 true],
 (.seq (.ops [
 oO 4 (.box 1 4 (.t 1)),
 oO 5 (.box 1 4 (.t 2)),
 oO 6 (.alloc 1 4 [.int .u64 0])])
 (.seq (.seq (.ops [
 oM 9 0,
 oK 10 F_witanref01_ok [.t 9],
 oO 11 (.un .not (.t 10))])
 (.cond (.t 11)
 (.seq (.ops [
 oO 12 (.build [.int .u64 0, .int .u64 0, .int .u64 0, .int .u64 0] []),
 ⟨none, .stA 1 4 4 (.t 6) (.t 12), none⟩])
 .ret)
 .skip))
 (.seq (.draw [
 oM 14 0,
 oO 15 (.load 4 true (.t 4)),
 oK 16 F_witanref01_Red [.t 14, .t 15],
 oM 17 0,
 oO 18 (.load 4 true (.t 5)),
 oK 19 F_witanref01_Red [.t 17, .t 18],
 oK 20 F_witanref01_Add [.t 16, .t 19],
 oM 13 20,
 oO 21 (.ext (.t 13) 0),
 oO 22 (.ext (.t 13) 1),
 oO 7 (.alloc 1 4 [.int .u64 0]),
 oS 4 7 21,
 oM 8 22] ⟨.all, [(10, some 11)], .look 0 (.look 1 (.look 3 (.look 4 (.run 2 true (.run 5 true (.run 6 true (.look 7 (.look 8 (.pre 10 11 (.look 9 (.fill (.look 12 .done))))))))))))⟩)
 (.seq (.ops [
 oM 23 0,
 oO 24 (.load 4 true (.t 7)),
 oM 25 8,
 oO 26 (.build [.int .u64 0, .int .u64 0, .int .u64 0, .int .u64 0] [(0, 1, .t 25)]),
 oK 27 F_witanref01_fold [.t 23, .t 24, .t 26],
 ⟨none, .stA 1 4 4 (.t 6) (.t 27), none⟩])
 .ret))))⟩
theorem K_witanref01_FAdd : chkFun DK Pg Try.f131 A_witanref01_FAdd = true := by kernel_rfl
theorem B_witanref01_FAdd {args : List AV} {m : Mem} {K : AV → Mem → Prop} (h : vcFun DK Pg A_witanref01_FAdd args m K) : ACall Pg F_witanref01_FAdd args m K := call_body mixed Try.func131 (by kernel_rfl) K_witanref01_FAdd h

noncomputable def A_witanref01_Bit : AFun := ⟨2, 21, [.t 4],
 (.seq (.ops [
 oO 2 (.box 1 4 (.t 0)),
 oO 4 (.mv (.c (.int .i64 0)))])
 (.seq (.seq (.ops [
 oM 5 1,
 oO 6 (.bin .lss (.t 5) (.c (.int .i64 0))),
 oM 7 6,
 oG 8 (.mv (.t 1)) 7 false,
 oG 9 (.bin .gtr (.t 8) (.c (.int .i64 255))) 7 false,
 oO 10 (.pick (.t 7) (.c (.bool true)) (.t 9))])
 (.cond (.t 10)
 (.seq (.ops [
 oO 4 (.mv (.c (.int .i64 0)))])
 .ret)
 .skip))
 (.seq (.ops [
 oM 11 1,
 oO 12 (.bin .quo (.t 11) (.c (.int .i64 64))),
 oO 13 (.idxP 4 1 (.t 2) (.t 12)),
 oO 14 (.load 1 false (.t 13)),
 oM 15 1,
 oO 16 (.bin .rem (.t 15) (.c (.int .i64 64))),
 oO 17 (.conv .u64 (.t 16)),
 oO 18 (.bin .shr (.t 14) (.t 17)),
 oO 19 (.bin .and (.t 18) (.c (.int .u64 1))),
 oO 20 (.conv .i64 (.t 19)),
 oM 4 20])
 .ret)))⟩
theorem K_witanref01_Bit : chkFun DK Pg Try.f135 A_witanref01_Bit = true := by kernel_rfl
theorem B_witanref01_Bit {args : List AV} {m : Mem} {K : AV → Mem → Prop} (h : vcFun DK Pg A_witanref01_Bit args m K) : ACall Pg F_witanref01_Bit args m K := call_body mixed Try.func135 (by kernel_rfl) K_witanref01_Bit h

end Go.Proofs.Ytdeholmpcbakbaa
end

section
/- The told forms of the functions that this seat reaches, each held against the program by a closed test; no condition. -/
set_option maxRecDepth 100000
set_option maxHeartbeats 1000000
namespace Go.Proofs.Ytdeholmpcbakbaa
open Go Go.Wit

noncomputable def A_witanref01_FSub : AFun := ⟨3, 26, [.cell 6 4 true],
 (.seq (.ops [
 oO 4 (.box 1 4 (.t 1)),
 oO 5 (.box 1 4 (.t 2)),
 oO 6 (.alloc 1 4 [.int .u64 0])])
 (.seq (.seq (.ops [
 oM 9 0,
 oK 10 F_witanref01_ok [.t 9],
 oO 11 (.un .not (.t 10))])
 (.cond (.t 11)
 (.seq (.ops [
 oO 12 (.build [.int .u64 0, .int .u64 0, .int .u64 0, .int .u64 0] []),
 ⟨none, .stA 1 4 4 (.t 6) (.t 12), none⟩])
 .ret)
 .skip))
 (.seq (.draw [
 oM 14 0,
 oK 15 F_witanref01_Prime [.t 14],
 oM 16 0,
 oO 17 (.load 4 true (.t 5)),
 oK 18 F_witanref01_Red [.t 16, .t 17],
 oK 19 F_witanref01_Sub [.t 15, .t 18],
 oM 13 19,
 oO 20 (.ext (.t 13) 0),
 oO 21 (.ext (.t 13) 1),
 oO 7 (.alloc 1 4 [.int .u64 0]),
 oS 4 7 20,
 oM 8 21] ⟨.all, [(9, some 10)], .look 0 (.look 2 (.look 3 (.run 1 true (.run 4 true (.run 5 true (.look 6 (.look 7 (.pre 9 10 (.look 8 (.fill (.look 11 .done)))))))))))⟩)
 (.seq (.ops [
 oM 22 0,
 oO 23 (.load 4 true (.t 4)),
 oO 24 (.load 4 true (.t 7)),
 oK 25 F_witanref01_FAdd [.t 22, .t 23, .t 24],
 ⟨none, .stA 1 4 4 (.t 6) (.t 25), none⟩])
 .ret))))⟩
theorem K_witanref01_FSub : chkFun DK Pg Try.f138 A_witanref01_FSub = true := by kernel_rfl
theorem B_witanref01_FSub {args : List AV} {m : Mem} {K : AV → Mem → Prop} (h : vcFun DK Pg A_witanref01_FSub args m K) : ACall Pg F_witanref01_FSub args m K := call_body mixed Try.func138 (by kernel_rfl) K_witanref01_FSub h

noncomputable def A_bits_Mul64 : AFun := ⟨2, 51, [.t 4, .t 5],
 (.seq (.ops [
 oO 4 (.mv (.c (.int .u64 0))),
 oO 5 (.mv (.c (.int .u64 0)))])
 (.seq (.ops [
 oM 14 0,
 oO 15 (.bin .and (.t 14) (.c (.int .u64 4294967295))),
 oM 6 15])
 (.seq (.ops [
 oM 16 0,
 oO 17 (.bin .shr (.t 16) (.c (.int .u64 32))),
 oM 7 17])
 (.seq (.ops [
 oM 18 1,
 oO 19 (.bin .and (.t 18) (.c (.int .u64 4294967295))),
 oM 8 19])
 (.seq (.ops [
 oM 20 1,
 oO 21 (.bin .shr (.t 20) (.c (.int .u64 32))),
 oM 9 21])
 (.seq (.ops [
 oM 22 6,
 oM 23 8,
 oO 24 (.bin .mul (.t 22) (.t 23)),
 oM 10 24])
 (.seq (.ops [
 oM 25 7,
 oM 26 8,
 oO 27 (.bin .mul (.t 25) (.t 26)),
 oM 28 10,
 oO 29 (.bin .shr (.t 28) (.c (.int .u64 32))),
 oO 30 (.bin .add (.t 27) (.t 29)),
 oM 11 30])
 (.seq (.ops [
 oM 31 11,
 oO 32 (.bin .and (.t 31) (.c (.int .u64 4294967295))),
 oM 12 32])
 (.seq (.ops [
 oM 33 11,
 oO 34 (.bin .shr (.t 33) (.c (.int .u64 32))),
 oM 13 34])
 (.seq (.ops [
 oM 35 12,
 oM 36 6,
 oM 37 9,
 oO 38 (.bin .mul (.t 36) (.t 37)),
 oO 39 (.bin .add (.t 35) (.t 38)),
 oM 12 39])
 (.seq (.ops [
 oM 40 7,
 oM 41 9,
 oO 42 (.bin .mul (.t 40) (.t 41)),
 oM 43 13,
 oO 44 (.bin .add (.t 42) (.t 43)),
 oM 45 12,
 oO 46 (.bin .shr (.t 45) (.c (.int .u64 32))),
 oO 47 (.bin .add (.t 44) (.t 46)),
 oM 4 47])
 (.seq (.ops [
 oM 48 0,
 oM 49 1,
 oO 50 (.bin .mul (.t 48) (.t 49)),
 oM 5 50])
 .ret))))))))))))⟩
theorem K_bits_Mul64 : chkFun DK Pg Try.f139 A_bits_Mul64 = true := by kernel_rfl
theorem B_bits_Mul64 {args : List AV} {m : Mem} {K : AV → Mem → Prop} (h : vcFun DK Pg A_bits_Mul64 args m K) : ACall Pg F_bits_Mul64 args m K := call_body mixed Try.func139 (by kernel_rfl) K_bits_Mul64 h

noncomputable def A_witanref01_Mul : AFun := ⟨2, 81, [.cell 4 4 true, .cell 5 4 true],
 (.seq (.ops [
 oO 2 (.box 1 4 (.t 0)),
 oO 3 (.box 1 4 (.t 1)),
 oO 4 (.alloc 1 4 [.int .u64 0]),
 oO 5 (.alloc 1 4 [.int .u64 0])])
 (.seq (.ops [
 oO 6 (.alloc 1 8 [.int .u64 0])])
 (.seq (.seq (.ops [
 oO 7 (.mv (.c (.int .i64 0)))])
 (.block 0
 (.loop
 (.seq (.seq (.ops [
 oM 13 7,
 oO 14 (.bin .lss (.t 13) (.c (.int .i64 4)))])
 (.cond (.t 14)
 .skip
 (.exit 0)))
 (.seq (.block 1
 (.seq (.ops [
 oO 8 (.mv (.c (.int .u64 0)))])
 (.seq (.seq (.ops [
 oO 9 (.mv (.c (.int .i64 0)))])
 (.block 2
 (.loop
 (.seq (.seq (.ops [
 oM 17 9,
 oO 18 (.bin .lss (.t 17) (.c (.int .i64 4)))])
 (.cond (.t 18)
 .skip
 (.exit 2)))
 (.seq (.block 3
 (.seq (.draw [
 oM 22 7,
 oO 23 (.idxP 4 1 (.t 2) (.t 22)),
 oO 24 (.load 1 false (.t 23)),
 oM 25 9,
 oO 26 (.idxP 4 1 (.t 3) (.t 25)),
 oO 27 (.load 1 false (.t 26)),
 oK 28 F_bits_Mul64 [.t 24, .t 27],
 oM 21 28,
 oO 29 (.ext (.t 21) 0),
 oO 30 (.ext (.t 21) 1),
 oM 10 29,
 oM 11 30] ⟨.all, [], .look 0 (.look 1 (.look 2 (.look 3 (.look 4 (.look 5 (.run 6 false (.look 7 (.look 8 (.look 9 (.look 10 (.look 11 .done)))))))))))⟩)
 (.seq (.ops [
 oM 32 11,
 oM 33 7,
 oM 34 9,
 oO 35 (.binF .add (.t 33) (.t 34)),
 oO 36 (.idxP 8 1 (.t 6) (.t 35)),
 oO 37 (.load 1 false (.t 36)),
 oO 38 (.x64 false F_bits_Add64 (.t 32) (.t 37) (.c (.int .u64 0))),
 oM 31 38,
 oO 39 (.ext (.t 31) 0),
 oO 40 (.ext (.t 31) 1),
 oM 11 39,
 oM 12 40])
 (.seq (.ops [
 oM 41 10,
 oM 42 12,
 oO 43 (.bin .add (.t 41) (.t 42)),
 oM 10 43])
 (.seq (.ops [
 oM 45 11,
 oM 46 8,
 oO 47 (.x64 false F_bits_Add64 (.t 45) (.t 46) (.c (.int .u64 0))),
 oM 44 47,
 oO 48 (.ext (.t 44) 0),
 oO 49 (.ext (.t 44) 1),
 oM 11 48,
 oM 12 49])
 (.seq (.ops [
 oM 50 10,
 oM 51 12,
 oO 52 (.bin .add (.t 50) (.t 51)),
 oM 10 52])
 (.ops [
 oM 53 7,
 oM 54 9,
 oO 55 (.binF .add (.t 53) (.t 54)),
 oM 56 11,
 oM 57 10,
 oO 58 (.idxP 8 1 (.t 6) (.t 55)),
 ⟨none, .stA 1 8 1 (.t 58) (.t 56), none⟩,
 oM 8 57])))))))
 (.ops [
 oM 19 9,
 oO 20 (.binF .add (.t 19) (.c (.int .i64 1))),
 oM 9 20]))))))
 (.ops [
 oM 59 7,
 oO 60 (.binF .add (.t 59) (.c (.int .i64 4))),
 oM 61 8,
 oO 62 (.idxP 8 1 (.t 6) (.t 60)),
 ⟨none, .stA 1 8 1 (.t 62) (.t 61), none⟩]))))
 (.ops [
 oM 15 7,
 oO 16 (.binF .add (.t 15) (.c (.int .i64 1))),
 oM 7 16]))))))
 (.seq (.draw [
 oO 63 (.idxP 8 1 (.t 6) (.c (.int .i64 0))),
 oO 64 (.load 1 false (.t 63)),
 oO 65 (.idxP 8 1 (.t 6) (.c (.int .i64 1))),
 oO 66 (.load 1 false (.t 65)),
 oO 67 (.idxP 8 1 (.t 6) (.c (.int .i64 2))),
 oO 68 (.load 1 false (.t 67)),
 oO 69 (.idxP 8 1 (.t 6) (.c (.int .i64 3))),
 oO 70 (.load 1 false (.t 69)),
 oO 71 (.build [.int .u64 0, .int .u64 0, .int .u64 0, .int .u64 0] [(0, 1, .t 64), (1, 1, .t 66), (2, 1, .t 68), (3, 1, .t 70)]),
 oO 72 (.idxP 8 1 (.t 6) (.c (.int .i64 4))),
 oO 73 (.load 1 false (.t 72)),
 oO 74 (.idxP 8 1 (.t 6) (.c (.int .i64 5))),
 oO 75 (.load 1 false (.t 74)),
 oO 76 (.idxP 8 1 (.t 6) (.c (.int .i64 6))),
 oO 77 (.load 1 false (.t 76)),
 oO 78 (.idxP 8 1 (.t 6) (.c (.int .i64 7))),
 oO 79 (.load 1 false (.t 78)),
 oO 80 (.build [.int .u64 0, .int .u64 0, .int .u64 0, .int .u64 0] [(0, 1, .t 73), (1, 1, .t 75), (2, 1, .t 77), (3, 1, .t 79)]),
 ⟨none, .stA 1 4 4 (.t 4) (.t 71), none⟩,
 ⟨none, .stA 1 4 4 (.t 5) (.t 80), none⟩] ⟨(.but [4]), [], .look 0 (.look 1 (.look 2 (.look 3 (.look 4 (.look 5 (.look 6 (.look 7 (.look 8 (.look 9 (.look 10 (.look 11 (.look 12 (.look 13 (.look 14 (.look 15 (.look 16 (.look 17 (.run 18 true (.run 19 false .done)))))))))))))))))))⟩)
 .ret))))⟩
theorem K_witanref01_Mul : chkFun DK Pg Try.f140 A_witanref01_Mul = true := by kernel_rfl
theorem B_witanref01_Mul {args : List AV} {m : Mem} {K : AV → Mem → Prop} (h : vcFun DK Pg A_witanref01_Mul args m K) : ACall Pg F_witanref01_Mul args m K := call_body mixed Try.func140 (by kernel_rfl) K_witanref01_Mul h

noncomputable def A_witanref01_Red : AFun := ⟨2, 13, [.cell 4 4 true],
 (.seq (.ops [
 oO 3 (.box 1 4 (.t 1)),
 oO 4 (.alloc 1 4 [.int .u64 0])])
 (.seq (.seq (.ops [
 oM 5 0,
 oK 6 F_witanref01_ok [.t 5],
 oO 7 (.un .not (.t 6))])
 (.cond (.t 7)
 (.seq (.ops [
 oO 8 (.build [.int .u64 0, .int .u64 0, .int .u64 0, .int .u64 0] []),
 ⟨none, .stA 1 4 4 (.t 4) (.t 8), none⟩])
 .ret)
 .skip))
 (.seq (.ops [
 oM 9 0,
 oO 10 (.load 4 true (.t 3)),
 oO 11 (.build [.int .u64 0, .int .u64 0, .int .u64 0, .int .u64 0] []),
 oK 12 F_witanref01_fold [.t 9, .t 10, .t 11],
 ⟨none, .stA 1 4 4 (.t 4) (.t 12), none⟩])
 .ret)))⟩
theorem K_witanref01_Red : chkFun DK Pg Try.f141 A_witanref01_Red = true := by kernel_rfl
theorem B_witanref01_Red {args : List AV} {m : Mem} {K : AV → Mem → Prop} (h : vcFun DK Pg A_witanref01_Red args m K) : ACall Pg F_witanref01_Red args m K := call_body mixed Try.func141 (by kernel_rfl) K_witanref01_Red h

noncomputable def A_witanref01_Pow : AFun := ⟨3, 31, [.cell 6 4 true],
 (.seq (.ops [
 oO 4 (.box 1 4 (.t 1)),
 oO 5 (.box 1 4 (.t 2)),
 oO 6 (.alloc 1 4 [.int .u64 0])])
 (.seq (.seq (.ops [
 oM 9 0,
 oK 10 F_witanref01_ok [.t 9],
 oO 11 (.un .not (.t 10))])
 (.cond (.t 11)
 (.seq (.ops [
 oO 12 (.build [.int .u64 0, .int .u64 0, .int .u64 0, .int .u64 0] []),
 ⟨none, .stA 1 4 4 (.t 6) (.t 12), none⟩])
 .ret)
 .skip))
 (.seq (.ops [
 oO 13 (.build [.int .u64 0, .int .u64 0, .int .u64 0, .int .u64 0] [(0, 1, .c (.int .u64 1))]),
 oO 7 (.alloc 1 4 [.int .u64 0]),
 ⟨none, .stA 1 4 4 (.t 7) (.t 13), none⟩])
 (.seq (.seq (.ops [
 oO 8 (.mv (.c (.int .i64 255)))])
 (.block 0
 (.loop
 (.seq (.seq (.ops [
 oM 14 8,
 oO 15 (.bin .geq (.t 14) (.c (.int .i64 0)))])
 (.cond (.t 15)
 .skip
 (.exit 0)))
 (.seq (.block 1
 (.seq (.ops [
 oM 18 0,
 oO 19 (.load 4 true (.t 7)),
 oO 20 (.load 4 true (.t 7)),
 oK 21 F_witanref01_FMul [.t 18, .t 19, .t 20],
 ⟨none, .stA 1 4 4 (.t 7) (.t 21), none⟩])
 (.seq (.ops [
 oO 22 (.load 4 true (.t 5)),
 oM 23 8,
 oK 24 F_witanref01_Bit [.t 22, .t 23],
 oO 25 (.bin .eql (.t 24) (.c (.int .i64 1)))])
 (.cond (.t 25)
 (.ops [
 oM 26 0,
 oO 27 (.load 4 true (.t 7)),
 oO 28 (.load 4 true (.t 4)),
 oK 29 F_witanref01_FMul [.t 26, .t 27, .t 28],
 ⟨none, .stA 1 4 4 (.t 7) (.t 29), none⟩])
 .skip))))
 (.ops [
 oM 16 8,
 oO 17 (.bin .sub (.t 16) (.c (.int .i64 1))),
 oM 8 17]))))))
 (.seq (.ops [
 oO 30 (.load 4 true (.t 7)),
 ⟨none, .stA 1 4 4 (.t 6) (.t 30), none⟩])
 .ret)))))⟩
theorem K_witanref01_Pow : chkFun DK Pg Try.f142 A_witanref01_Pow = true := by kernel_rfl
theorem B_witanref01_Pow {args : List AV} {m : Mem} {K : AV → Mem → Prop} (h : vcFun DK Pg A_witanref01_Pow args m K) : ACall Pg F_witanref01_Pow args m K := call_body mixed Try.func142 (by kernel_rfl) K_witanref01_Pow h

noncomputable def A_bits_Len64 : AFun := ⟨1, 25, [.t 2],
 (.seq (.ops [
 oO 2 (.mv (.c (.int .i64 0)))])
 (.seq (.seq (.ops [
 oM 3 0,
 oO 4 (.bin .geq (.t 3) (.c (.int .u64 4294967296)))])
 (.cond (.t 4)
 (.seq (.ops [
 oM 5 0,
 oO 6 (.bin .shr (.t 5) (.c (.int .u64 32))),
 oM 0 6])
 (.ops [
 oO 2 (.mv (.c (.int .i64 32)))]))
 .skip))
 (.seq (.seq (.ops [
 oM 7 0,
 oO 8 (.bin .geq (.t 7) (.c (.int .u64 65536)))])
 (.cond (.t 8)
 (.seq (.ops [
 oM 9 0,
 oO 10 (.bin .shr (.t 9) (.c (.int .u64 16))),
 oM 0 10])
 (.ops [
 oM 11 2,
 oO 12 (.bin .add (.t 11) (.c (.int .i64 16))),
 oM 2 12]))
 .skip))
 (.seq (.seq (.ops [
 oM 13 0,
 oO 14 (.bin .geq (.t 13) (.c (.int .u64 256)))])
 (.cond (.t 14)
 (.seq (.ops [
 oM 15 0,
 oO 16 (.bin .shr (.t 15) (.c (.int .u64 8))),
 oM 0 16])
 (.ops [
 oM 17 2,
 oO 18 (.bin .add (.t 17) (.c (.int .i64 8))),
 oM 2 18]))
 .skip))
 (.seq (.ops [
 oM 19 2,
 oM 20 0,
 oO 21 (.conv .u8 (.t 20)),
 ⟨some 22, .idxs (.c (.str ⟨#[0, 1, 2, 2, 3, 3, 3, 3, 4, 4, 4, 4, 4, 4, 4, 4, 5, 5, 5, 5, 5, 5, 5, 5, 5, 5, 5, 5, 5, 5, 5, 5, 6, 6, 6, 6, 6, 6, 6, 6, 6, 6, 6, 6, 6, 6, 6, 6, 6, 6, 6, 6, 6, 6, 6, 6, 6, 6, 6, 6, 6, 6, 6, 6, 7, 7, 7, 7, 7, 7, 7, 7, 7, 7, 7, 7, 7, 7, 7, 7, 7, 7, 7, 7, 7, 7, 7, 7, 7, 7, 7, 7, 7, 7, 7, 7, 7, 7, 7, 7, 7, 7, 7, 7, 7, 7, 7, 7, 7, 7, 7, 7, 7, 7, 7, 7, 7, 7, 7, 7, 7, 7, 7, 7, 7, 7, 7, 7, 8, 8, 8, 8, 8, 8, 8, 8, 8, 8, 8, 8, 8, 8, 8, 8, 8, 8, 8, 8, 8, 8, 8, 8, 8, 8, 8, 8, 8, 8, 8, 8, 8, 8, 8, 8, 8, 8, 8, 8, 8, 8, 8, 8, 8, 8, 8, 8, 8, 8, 8, 8, 8, 8, 8, 8, 8, 8, 8, 8, 8, 8, 8, 8, 8, 8, 8, 8, 8, 8, 8, 8, 8, 8, 8, 8, 8, 8, 8, 8, 8, 8, 8, 8, 8, 8, 8, 8, 8, 8, 8, 8, 8, 8, 8, 8, 8, 8, 8, 8, 8, 8, 8, 8, 8, 8, 8, 8, 8, 8, 8, 8, 8, 8, 8, 8, 8, 8, 8, 8, 8, 8, 8, 8, 8, 8, 8, 8]⟩)) (.t 21), none⟩,
 oO 23 (.conv .i64 (.t 22)),
 oO 24 (.bin .add (.t 19) (.t 23)),
 oM 2 24])
 .ret)))))⟩
theorem K_bits_Len64 : chkFun DK Pg Try.f143 A_bits_Len64 = true := by kernel_rfl
theorem B_bits_Len64 {args : List AV} {m : Mem} {K : AV → Mem → Prop} (h : vcFun DK Pg A_bits_Len64 args m K) : ACall Pg F_bits_Len64 args m K := call_body mixed Try.func143 (by kernel_rfl) K_bits_Len64 h

noncomputable def A_witanref01_ok : AFun := ⟨1, 9, [.t 2],
 (.seq (.ops [
 oO 2 (.mv (.c (.bool false)))])
 (.seq (.ops [
 oM 3 0,
 oO 4 (.bin .eql (.t 3) (.c (.int .i64 0))),
 oM 5 4,
 oG 6 (.mv (.t 0)) 5 false,
 oG 7 (.bin .eql (.t 6) (.c (.int .i64 1))) 5 false,
 oO 8 (.pick (.t 5) (.c (.bool true)) (.t 7)),
 oM 2 8])
 .ret))⟩
theorem K_witanref01_ok : chkFun DK Pg Try.f144 A_witanref01_ok = true := by kernel_rfl
theorem B_witanref01_ok {args : List AV} {m : Mem} {K : AV → Mem → Prop} (h : vcFun DK Pg A_witanref01_ok args m K) : ACall Pg F_witanref01_ok args m K := call_body mixed Try.func144 (by kernel_rfl) K_witanref01_ok h

end Go.Proofs.Ytdeholmpcbakbaa
end

section
/- What the small calls make; no condition. -/
set_option linter.unusedVariables false
set_option maxRecDepth 100000
set_option pp.maxSteps 300
set_option linter.unusedSimpArgs false
namespace Go.Proofs.Ytdeholmpcbakbaa
open Go Go.Wit

theorem w64 {n : Int} (h0 : -9223372036854775808 ≤ n) (h1 : n ≤ 9223372036854775807) : IntKind.i64.wrap n = n := by rw [IntKind.wrap_i64]; omega

theorem wu64 (n : Int) : IntKind.u64.wrap n = n % 18446744073709551616 := by simp [IntKind.wrap, IntKind.bits, IntKind.signed]

end Go.Proofs.Ytdeholmpcbakbaa
end

section
/- What the calls of bin make; no condition. -/
set_option linter.unusedVariables false
set_option linter.unusedSimpArgs false
set_option maxRecDepth 100000
set_option pp.maxSteps 300
namespace Go.Proofs.Ytdeholmpcbakbaa
open Go Go.Wit

theorem S_Twin0 (n cap : Nat) (f : Nat → Int) (hn : n ≤ 140737488355328) : ACall Pg F_witankeep_Twin [.vsl 1 n cap (bytesG f)] [] (fun v m' => ∃ n' f', (n' = n ∧ f' = f) ∧ RetB n' f' v m') := by
  refine B_witankeep_Twin ⟨rfl, ?_⟩
  conv => whnf
  refine condB_ok (app_ok rfl rfl rfl (by omega) (by omega)) (fun cap' hcap => ?_)
  conv => whnf
  refine ⟨n, f, ⟨rfl, rfl⟩, .inr ⟨0, cap', _, _, by first | rfl | (rw [Nat.zero_add]; rfl) | rw [Nat.zero_add], rfl, by omega, fun i hi => ?_⟩⟩
  rw [catG_ge (by omega)]; rfl

theorem S_Twin {m : Mem} {x : AV} {n : Nat} {f : Nat → Int} {K : AV → Mem → Prop} (hx : Shows m x n f) (hn : n ≤ 140737488355328) (hK : ∀ cap, memK (m ++ [some ⟨1, n, bytesG f⟩]) (K (.sl m.length 0 n cap))) : ACall Pg F_witankeep_Twin [x] m K := by
  simp only [memK_eq] at hK
  obtain ⟨cap, hl⟩ := hx
  refine lift_bytes (S_Twin0 n cap f hn) (.cons _ _ _ _ hl .nil) ?_
  rintro n' f' cap' ⟨rfl, rfl⟩
  exact hK cap'

end Go.Proofs.Ytdeholmpcbakbaa
end

section
/- What the readers of bin make; no condition. -/
set_option linter.unusedVariables false
set_option linter.unusedSimpArgs false
set_option maxRecDepth 100000
set_option pp.maxSteps 300
namespace Go.Proofs.Ytdeholmpcbakbaa
open Go Go.Wit

def getV (f : Nat → Int) (p : Nat) : Nat → Int
  | 0 => 0
  | k + 1 => getV f p k * 256 + f (p + k)

theorem getV_lt {f : Nat → Int} {p k : Nat} (hf : ∀ i, i < p + k → 0 ≤ f i ∧ f i ≤ 255) : 0 ≤ getV f p k ∧ getV f p k < 256 ^ k := by
  induction k with
  | zero => simp [getV]
  | succ k ih =>
    have h1 := ih (fun i hi => hf i (by omega))
    have h2 := hf (p + k) (by omega)
    simp only [getV]
    have : (256 : Int) ^ (k + 1) = 256 ^ k * 256 := by rw [Int.pow_succ]
    omega

end Go.Proofs.Ytdeholmpcbakbaa
end

section
/- Rows held against one another; no condition. -/
set_option linter.unusedVariables false
set_option linter.unusedSimpArgs false
set_option maxRecDepth 100000
set_option pp.maxSteps 300
namespace Go.Proofs.Ytdeholmpcbakbaa
open Go Go.Wit

def sameB (n1 : Nat) (f : Nat → Int) (n2 : Nat) (g : Nat → Int) : Bool := decide (n1 = n2) && (List.range n1).all fun i => decide (f i = g i)

theorem sameB_eq {n1 n2 : Nat} {f g : Nat → Int} : sameB n1 f n2 g = true ↔ n1 = n2 ∧ ∀ i, i < n1 → f i = g i := by simp [sameB]

theorem S_Bytes0 (n1 c1 n2 c2 : Nat) (f g : Nat → Int) (h1 : n1 ≤ 140737488355328) : ACall Pg F_witankeep_Bytes [.vsl 1 n1 c1 (bytesG f), .vsl 1 n2 c2 (bytesG g)] []
    (fun r m' => r = .bool (sameB n1 f n2 g) ∧ Flat true r) := by
  refine B_witankeep_Bytes ⟨rfl, ?_⟩
  conv => whnf
  refine condB_mk (fun hc => ?_) (fun hc => ?_)
  · conv => whnf
    have hc : ¬ n1 = n2 := by simp at hc; omega
    exact ⟨by simp [sameB, hc], .bool _⟩
  have hc : n1 = n2 := by simp at hc; omega
  subst hc
  conv => whnf
  refine loop_wk mixed (I := fun q l m => ∃ (k : Nat), l = [(0, .vsl 1 n1 c1 (bytesG f)), (1, .vsl 1 n1 c2 (bytesG g)), (5, .int .i64 k)] ∧ m = [] ∧ q + k = n1 ∧ ∀ i, i < k → f i = g i) n1
    (l0 := [(0, .vsl 1 n1 c1 (bytesG f)), (1, .vsl 1 n1 c2 (bytesG g)), (5, .int .i64 0)]) (m0 := []) [] ⟨0, rfl, rfl, rfl, fun i hi => absurd hi (Nat.not_lt_zero _)⟩ ?_ ?_
  · exact .mk0 ⟨.eq _ _ rfl (.vsl _ _ _ _ rfl (fun _ _ _ _ => .int _ _)), .eq _ _ rfl (.vsl _ _ _ _ rfl (fun _ _ _ _ => .int _ _)), Flat.i rfl, trivial⟩ trivial rfl rfl
  · rintro q l m ⟨k, rfl, rfl, hq, hk⟩
    conv => whnf
    refine condB_mk (fun hb => ?_) (fun hb => ?_)
    · have hb : k < n1 := by simpa using hb
      conv => whnf
      refine condB_ok (by simp; omega) ?_
      conv => whnf
      refine condB_ok (by simp; omega) ?_
      conv => whnf
      refine condB_mk (fun hd => ?_) (fun hd => ?_)
      · conv => whnf
        have hd : f k ≠ g k := by simpa using hd
        refine ⟨?_, .bool _⟩
        have : sameB n1 f n1 g = false := by
          rw [Bool.eq_false_iff]; intro h
          exact hd ((sameB_eq.1 h).2 k hb)
        rw [this]
      · conv => whnf
        have hd : f k = g k := by simpa using hd
        rw [w64 (n := (k : Int) + 1) (by omega) (by omega)]
        refine ⟨q - 1, [(0, .vsl 1 n1 c1 (bytesG f)), (1, .vsl 1 n1 c2 (bytesG g)), (5, .int .i64 ((k + 1 : Nat) : Int))], [], [], by omega, ⟨k + 1, rfl, rfl, by omega, fun i hi => ?_⟩, ?_⟩
        · by_cases hik : i = k
          · rw [hik]; exact hd
          · exact hk i (by omega)
        · exact .mk0 ⟨.eq _ _ rfl (.vsl _ _ _ _ rfl (fun _ _ _ _ => .int _ _)), .eq _ _ rfl (.vsl _ _ _ _ rfl (fun _ _ _ _ => .int _ _)), Flat.i (by omega), trivial⟩ trivial rfl rfl
    · have hb : k = n1 := by simp at hb; omega
      subst hb
      conv => whnf
      refine ⟨?_, .bool _⟩
      rw [sameB_eq.2 ⟨rfl, hk⟩]

theorem S_Bytes {m : Mem} {x y : AV} {n1 n2 : Nat} {f g : Nat → Int} {K : AV → Mem → Prop} (hx : Shows m x n1 f) (hy : Shows m y n2 g) (h1 : n1 ≤ 140737488355328) (h : K (.bool (sameB n1 f n2 g)) m) : ACall Pg F_witankeep_Bytes [x, y] m K := by
  obtain ⟨c1, hl⟩ := hx
  obtain ⟨c2, hl2⟩ := hy
  refine lift_flat (S_Bytes0 n1 c1 n2 c2 f g h1) (.cons _ _ _ _ hl (.cons _ _ _ _ hl2 .nil)) ?_
  rintro v rfl
  exact h
end Go.Proofs.Ytdeholmpcbakbaa
end

