/- Texts of a proof, one behind the other; the last of these: The order of the point that all begins with: only its multiples by the second prime's are nought; roots modulo the first prime; no condition. -/
import Derived.Test.YtmngdaeogbjpiaaZ3
import Derived.Test.YtmngdaeogbjpiaaProg
import Derived.IntWalk
namespace Go.Wit
abbrev headOf {C : Type → Type} {a : Type} (_ : C a) : Type → Type := C
abbrev CommRing : Type → Type := headOf Dyadic.instCommRing
end Go.Wit

section
/- The told forms of the functions that this seat reaches, each held against the program by a closed test; no condition. -/
set_option maxRecDepth 100000
set_option maxHeartbeats 1000000
namespace Go.Proofs.Ytmngdaeogbjpiaa
open Go Go.Wit

noncomputable def A_witanref01_plus : AFun := ⟨2, 113, [.cell 4 12 true],
 (.seq (.ops [
 oO 2 (.box 12 1 (.t 0)),
 oO 3 (.box 12 1 (.t 1)),
 oO 4 (.alloc 12 1 (List.replicate 12 (.int .u64 0)))])
 (.seq (.seq (.ops [
 oO 18 (.fldA 8 (.t 2)),
 oO 19 (.load 4 true (.t 18)),
 oO 20 (.build [.int .u64 0, .int .u64 0, .int .u64 0, .int .u64 0] []),
 oO 21 (.eqa [.i, .i, .i, .i] false (.t 19) (.t 20))])
 (.cond (.t 21)
 (.seq (.ops [
 oO 22 (.load 12 true (.t 3)),
 ⟨none, .stA 12 1 12 (.t 4) (.t 22), none⟩])
 .ret)
 .skip))
 (.seq (.seq (.ops [
 oO 23 (.fldA 8 (.t 3)),
 oO 24 (.load 4 true (.t 23)),
 oO 25 (.build [.int .u64 0, .int .u64 0, .int .u64 0, .int .u64 0] []),
 oO 26 (.eqa [.i, .i, .i, .i] false (.t 24) (.t 25))])
 (.cond (.t 26)
 (.seq (.ops [
 oO 27 (.load 12 true (.t 2)),
 ⟨none, .stA 12 1 12 (.t 4) (.t 27), none⟩])
 .ret)
 .skip))
 (.seq (.draw [
 oO 28 (.fldA 8 (.t 2)),
 oO 29 (.load 4 true (.t 28)),
 oO 30 (.fldA 8 (.t 2)),
 oO 31 (.load 4 true (.t 30)),
 oK 32 F_witanref01_mul [.t 29, .t 31],
 oO 33 (.fldA 8 (.t 3)),
 oO 34 (.load 4 true (.t 33)),
 oO 35 (.fldA 8 (.t 3)),
 oO 36 (.load 4 true (.t 35)),
 oK 37 F_witanref01_mul [.t 34, .t 36],
 oO 5 (.alloc 1 4 [.int .u64 0]),
 oO 6 (.alloc 1 4 [.int .u64 0]),
 oS 4 5 32,
 oS 4 6 37] ⟨.all, [(10, some 12), (11, some 13)], .look 0 (.look 1 (.look 2 (.look 3 (.look 5 (.look 6 (.look 7 (.look 8 (.run 4 true (.pre 10 12 (.run 9 true (.pre 11 13 (.fill .done))))))))))))⟩)
 (.seq (.draw [
 oO 38 (.fldA 0 (.t 2)),
 oO 39 (.load 4 true (.t 38)),
 oO 40 (.load 4 true (.t 6)),
 oK 41 F_witanref01_mul [.t 39, .t 40],
 oO 42 (.fldA 0 (.t 3)),
 oO 43 (.load 4 true (.t 42)),
 oO 44 (.load 4 true (.t 5)),
 oK 45 F_witanref01_mul [.t 43, .t 44],
 oO 7 (.alloc 1 4 [.int .u64 0]),
 oO 8 (.alloc 1 4 [.int .u64 0]),
 oS 4 7 41,
 oS 4 8 45] ⟨.all, [(8, some 10), (9, some 11)], .look 0 (.look 1 (.look 2 (.look 4 (.look 5 (.look 6 (.run 3 true (.pre 8 10 (.run 7 true (.pre 9 11 (.fill .done))))))))))⟩)
 (.seq (.draw [
 oO 46 (.fldA 4 (.t 2)),
 oO 47 (.load 4 true (.t 46)),
 oO 48 (.load 4 true (.t 6)),
 oO 49 (.fldA 8 (.t 3)),
 oO 50 (.load 4 true (.t 49)),
 oK 51 F_witanref01_mul [.t 48, .t 50],
 oK 52 F_witanref01_mul [.t 47, .t 51],
 oO 53 (.fldA 4 (.t 3)),
 oO 54 (.load 4 true (.t 53)),
 oO 55 (.load 4 true (.t 5)),
 oO 56 (.fldA 8 (.t 2)),
 oO 57 (.load 4 true (.t 56)),
 oK 58 F_witanref01_mul [.t 55, .t 57],
 oK 59 F_witanref01_mul [.t 54, .t 58],
 oO 9 (.alloc 1 4 [.int .u64 0]),
 oO 10 (.alloc 1 4 [.int .u64 0]),
 oS 4 9 52,
 oS 4 10 59] ⟨.all, [(14, some 16), (15, some 17)], .look 0 (.look 1 (.look 2 (.look 3 (.look 4 (.look 7 (.look 8 (.look 9 (.look 10 (.look 11 (.run 5 true (.run 6 true (.pre 14 16 (.run 12 true (.run 13 true (.pre 15 17 (.fill .done))))))))))))))))⟩)
 (.seq (.draw [
 oO 60 (.load 4 true (.t 8)),
 oO 61 (.load 4 true (.t 7)),
 oK 62 F_witanref01_sub [.t 60, .t 61],
 oO 63 (.load 4 true (.t 10)),
 oO 64 (.load 4 true (.t 9)),
 oK 65 F_witanref01_sub [.t 63, .t 64],
 oO 11 (.alloc 1 4 [.int .u64 0]),
 oO 12 (.alloc 1 4 [.int .u64 0]),
 oS 4 11 62,
 oS 4 12 65] ⟨.all, [(6, some 8), (7, some 9)], .look 0 (.look 1 (.look 3 (.look 4 (.run 2 true (.pre 6 8 (.run 5 true (.pre 7 9 (.fill .done))))))))⟩)
 (.seq (.seq (.ops [
 oO 66 (.load 4 true (.t 11)),
 oO 67 (.build [.int .u64 0, .int .u64 0, .int .u64 0, .int .u64 0] []),
 oO 68 (.eqa [.i, .i, .i, .i] false (.t 66) (.t 67))])
 (.cond (.t 68)
 (.seq (.seq (.ops [
 oO 69 (.load 4 true (.t 12)),
 oO 70 (.build [.int .u64 0, .int .u64 0, .int .u64 0, .int .u64 0] []),
 oO 71 (.eqa [.i, .i, .i, .i] false (.t 69) (.t 70))])
 (.cond (.t 71)
 (.seq (.ops [
 oO 72 (.load 12 true (.t 2)),
 oK 73 F_witanref01_twice [.t 72],
 ⟨none, .stA 12 1 12 (.t 4) (.t 73), none⟩])
 .ret)
 .skip))
 (.seq (.ops [
 oK 74 F_witanref01_Inf [],
 oK 75 F_witanref01_up [.t 74],
 ⟨none, .stA 12 1 12 (.t 4) (.t 75), none⟩])
 .ret))
 .skip))
 (.seq (.ops [
 oO 76 (.load 4 true (.t 11)),
 oO 77 (.load 4 true (.t 11)),
 oK 78 F_witanref01_mul [.t 76, .t 77],
 oO 13 (.alloc 1 4 [.int .u64 0]),
 ⟨none, .stA 1 4 4 (.t 13) (.t 78), none⟩])
 (.seq (.ops [
 oO 79 (.load 4 true (.t 13)),
 oO 80 (.load 4 true (.t 11)),
 oK 81 F_witanref01_mul [.t 79, .t 80],
 oO 14 (.alloc 1 4 [.int .u64 0]),
 ⟨none, .stA 1 4 4 (.t 14) (.t 81), none⟩])
 (.seq (.ops [
 oO 82 (.load 4 true (.t 7)),
 oO 83 (.load 4 true (.t 13)),
 oK 84 F_witanref01_mul [.t 82, .t 83],
 oO 15 (.alloc 1 4 [.int .u64 0]),
 ⟨none, .stA 1 4 4 (.t 15) (.t 84), none⟩])
 (.seq (.draw [
 oO 85 (.load 4 true (.t 12)),
 oO 86 (.load 4 true (.t 12)),
 oK 87 F_witanref01_mul [.t 85, .t 86],
 oO 88 (.load 4 true (.t 14)),
 oK 89 F_witanref01_sub [.t 87, .t 88],
 oO 90 (.load 4 true (.t 15)),
 oO 91 (.load 4 true (.t 15)),
 oK 92 F_witanref01_add [.t 90, .t 91],
 oK 93 F_witanref01_sub [.t 89, .t 92],
 oO 16 (.alloc 1 4 [.int .u64 0]),
 oS 4 16 93] ⟨.all, [(9, some 10)], .look 0 (.look 1 (.look 3 (.look 5 (.look 6 (.run 2 true (.run 4 true (.run 7 true (.run 8 true (.pre 9 10 (.fill .done))))))))))⟩)
 (.seq (.draw [
 oO 94 (.load 4 true (.t 12)),
 oO 95 (.load 4 true (.t 15)),
 oO 96 (.load 4 true (.t 16)),
 oK 97 F_witanref01_sub [.t 95, .t 96],
 oK 98 F_witanref01_mul [.t 94, .t 97],
 oO 99 (.load 4 true (.t 9)),
 oO 100 (.load 4 true (.t 14)),
 oK 101 F_witanref01_mul [.t 99, .t 100],
 oK 102 F_witanref01_sub [.t 98, .t 101],
 oO 17 (.alloc 1 4 [.int .u64 0]),
 oS 4 17 102] ⟨.all, [(9, some 10)], .look 0 (.look 1 (.look 2 (.look 5 (.look 6 (.run 3 true (.run 4 true (.run 7 true (.run 8 true (.pre 9 10 (.fill .done))))))))))⟩)
 (.seq (.draw [
 oO 103 (.load 4 true (.t 16)),
 oO 104 (.load 4 true (.t 17)),
 oO 105 (.load 4 true (.t 11)),
 oO 106 (.fldA 8 (.t 2)),
 oO 107 (.load 4 true (.t 106)),
 oO 108 (.fldA 8 (.t 3)),
 oO 109 (.load 4 true (.t 108)),
 oK 110 F_witanref01_mul [.t 107, .t 109],
 oK 111 F_witanref01_mul [.t 105, .t 110],
 oO 112 (.build (List.replicate 12 (.int .u64 0)) [(0, 4, .t 103), (4, 4, .t 104), (8, 4, .t 111)]),
 ⟨none, .stA 12 1 12 (.t 4) (.t 112), none⟩] ⟨.all, [], .look 0 (.look 1 (.look 2 (.look 3 (.look 4 (.look 5 (.look 6 (.run 7 true (.run 8 true (.look 9 (.run 10 false .done))))))))))⟩)
 .ret))))))))))))))⟩
theorem K_witanref01_plus : chkFun DK Pg Try.f114 A_witanref01_plus = true := by kernel_rfl
theorem B_witanref01_plus {args : List AV} {m : Mem} {K : AV → Mem → Prop} (h : vcFun DK Pg A_witanref01_plus args m K) : ACall Pg F_witanref01_plus args m K := call_body mixed Try.func114 (by kernel_rfl) K_witanref01_plus h

noncomputable def A_witanref01_up : AFun := ⟨1, 15, [.cell 2 12 true],
 (.seq (.ops [
 oO 1 (.box 9 1 (.t 0)),
 oO 2 (.alloc 12 1 (List.replicate 12 (.int .u64 0)))])
 (.seq (.seq (.ops [
 oO 3 (.fldA 0 (.t 1)),
 oO 4 (.load 1 false (.t 3))])
 (.cond (.t 4)
 (.seq (.ops [
 oO 5 (.build [.int .u64 0, .int .u64 0, .int .u64 0, .int .u64 0] [(0, 1, .c (.int .u64 1))]),
 oO 6 (.build [.int .u64 0, .int .u64 0, .int .u64 0, .int .u64 0] [(0, 1, .c (.int .u64 1))]),
 oO 7 (.build [.int .u64 0, .int .u64 0, .int .u64 0, .int .u64 0] []),
 oO 8 (.build (List.replicate 12 (.int .u64 0)) [(0, 4, .t 5), (4, 4, .t 6), (8, 4, .t 7)]),
 ⟨none, .stA 12 1 12 (.t 2) (.t 8), none⟩])
 .ret)
 .skip))
 (.seq (.ops [
 oO 9 (.fldA 1 (.t 1)),
 oO 10 (.load 4 true (.t 9)),
 oO 11 (.fldA 5 (.t 1)),
 oO 12 (.load 4 true (.t 11)),
 oO 13 (.build [.int .u64 0, .int .u64 0, .int .u64 0, .int .u64 0] [(0, 1, .c (.int .u64 1))]),
 oO 14 (.build (List.replicate 12 (.int .u64 0)) [(0, 4, .t 10), (4, 4, .t 12), (8, 4, .t 13)]),
 ⟨none, .stA 12 1 12 (.t 2) (.t 14), none⟩])
 .ret)))⟩
theorem K_witanref01_up : chkFun DK Pg Try.f115 A_witanref01_up = true := by kernel_rfl
theorem B_witanref01_up {args : List AV} {m : Mem} {K : AV → Mem → Prop} (h : vcFun DK Pg A_witanref01_up args m K) : ACall Pg F_witanref01_up args m K := call_body mixed Try.func115 (by kernel_rfl) K_witanref01_up h

noncomputable def A_feld_points : AFun := ⟨1, 15, [.t 2],
 (.seq (.ops [
 oO 2 (.mv (.c (.bool false)))])
 (.seq (.seq (.ops [
 oM 5 0,
 oO 6 (.len (.t 5)),
 oO 7 (.mv (.c (.int .i64 0)))])
 (.block 0
 (.loop
 (.seq (.ops [
 oO 8 (.bin .lss (.t 7) (.t 6))])
 (.seq (.cond (.t 8)
 .skip
 (.exit 0))
 (.seq (.block 1
 (.seq (.ops [
 oO 9 (.idxA 9 (.t 5) (.t 7)),
 oO 10 (.load 9 true (.t 9)),
 oO 4 (.alloc 9 1 [.bool false, .int .u64 0, .int .u64 0, .int .u64 0, .int .u64 0, .int .u64 0, .int .u64 0, .int .u64 0, .int .u64 0]),
 ⟨none, .stA 9 1 9 (.t 4) (.t 10), none⟩])
 (.seq (.ops [
 oO 11 (.load 9 true (.t 4)),
 oK 12 F_curve_Check [.t 11],
 oO 13 (.bin .neq (.t 12) (.c (.int .i64 0)))])
 (.cond (.t 13)
 (.seq (.ops [
 oO 2 (.mv (.c (.bool false)))])
 .ret)
 .skip))))
 (.ops [
 oO 14 (.bin .add (.t 7) (.c (.int .i64 1))),
 oM 7 14])))))))
 (.seq (.ops [
 oO 2 (.mv (.c (.bool true)))])
 .ret)))⟩
theorem K_feld_points : chkFun DK Pg Try.f116 A_feld_points = true := by kernel_rfl
theorem B_feld_points {args : List AV} {m : Mem} {K : AV → Mem → Prop} (h : vcFun DK Pg A_feld_points args m K) : ACall Pg F_feld_points args m K := call_body mixed Try.func116 (by kernel_rfl) K_feld_points h

noncomputable def A_witanref01_Inf : AFun := ⟨0, 2, [.cell 0 9 true],
 (.seq (.ops [
 oO 0 (.alloc 9 1 [.bool false, .int .u64 0, .int .u64 0, .int .u64 0, .int .u64 0, .int .u64 0, .int .u64 0, .int .u64 0, .int .u64 0])])
 (.seq (.ops [
 oO 1 (.build [.bool false, .int .u64 0, .int .u64 0, .int .u64 0, .int .u64 0, .int .u64 0, .int .u64 0, .int .u64 0, .int .u64 0] [(0, 1, .c (.bool true))]),
 ⟨none, .stA 9 1 9 (.t 0) (.t 1), none⟩])
 .ret))⟩
theorem K_witanref01_Inf : chkFun DK Pg Try.f117 A_witanref01_Inf = true := by kernel_rfl
theorem B_witanref01_Inf {args : List AV} {m : Mem} {K : AV → Mem → Prop} (h : vcFun DK Pg A_witanref01_Inf args m K) : ACall Pg F_witanref01_Inf args m K := call_body mixed Try.func117 (by kernel_rfl) K_witanref01_Inf h

noncomputable def A_witanref01_Red : AFun := ⟨2, 13, [.cell 4 4 true],
 (.seq (.ops [
 oO 3 (.box 1 4 (.t 1)),
 oO 4 (.alloc 1 4 [.int .u64 0])])
 (.seq (.seq (.ops [
 oM 5 0,
 oK 6 F_witanref01_ok [.t 5],
 oO 7 (.un .not (.t 6))])
 (.cond (.t 7)
 (.seq (.ops [
 oO 8 (.build [.int .u64 0, .int .u64 0, .int .u64 0, .int .u64 0] []),
 ⟨none, .stA 1 4 4 (.t 4) (.t 8), none⟩])
 .ret)
 .skip))
 (.seq (.ops [
 oM 9 0,
 oO 10 (.load 4 true (.t 3)),
 oO 11 (.build [.int .u64 0, .int .u64 0, .int .u64 0, .int .u64 0] []),
 oK 12 F_witanref01_fold [.t 9, .t 10, .t 11],
 ⟨none, .stA 1 4 4 (.t 4) (.t 12), none⟩])
 .ret)))⟩
theorem K_witanref01_Red : chkFun DK Pg Try.f118 A_witanref01_Red = true := by kernel_rfl
theorem B_witanref01_Red {args : List AV} {m : Mem} {K : AV → Mem → Prop} (h : vcFun DK Pg A_witanref01_Red args m K) : ACall Pg F_witanref01_Red args m K := call_body mixed Try.func118 (by kernel_rfl) K_witanref01_Red h

noncomputable def A_witanref06_same : AFun := ⟨2, 24, [.t 4],
 (.seq (.ops [
 oO 2 (.box 9 1 (.t 0)),
 oO 3 (.box 9 1 (.t 1)),
 oO 4 (.mv (.c (.bool false)))])
 (.seq (.ops [
 oO 5 (.fldA 0 (.t 2)),
 oO 6 (.load 1 false (.t 5)),
 oO 7 (.fldA 0 (.t 3)),
 oO 8 (.load 1 false (.t 7)),
 oO 9 (.eqb false (.t 6) (.t 8)),
 oM 10 9,
 oG 11 (.fldA 1 (.t 2)) 10 true,
 oG 12 (.load 4 true (.t 11)) 10 true,
 oG 13 (.fldA 1 (.t 3)) 10 true,
 oG 14 (.load 4 true (.t 13)) 10 true,
 oG 15 (.eqa [.i, .i, .i, .i] false (.t 12) (.t 14)) 10 true,
 oO 16 (.pick (.t 10) (.t 15) (.c (.bool false))),
 oM 17 16,
 oG 18 (.fldA 5 (.t 2)) 17 true,
 oG 19 (.load 4 true (.t 18)) 17 true,
 oG 20 (.fldA 5 (.t 3)) 17 true,
 oG 21 (.load 4 true (.t 20)) 17 true,
 oG 22 (.eqa [.i, .i, .i, .i] false (.t 19) (.t 21)) 17 true,
 oO 23 (.pick (.t 17) (.t 22) (.c (.bool false))),
 oM 4 23])
 .ret))⟩
theorem K_witanref06_same : chkFun DK Pg Try.f119 A_witanref06_same = true := by kernel_rfl
theorem B_witanref06_same {args : List AV} {m : Mem} {K : AV → Mem → Prop} (h : vcFun DK Pg A_witanref06_same args m K) : ACall Pg F_witanref06_same args m K := call_body mixed Try.func119 (by kernel_rfl) K_witanref06_same h

noncomputable def A_poly_add : AFun := ⟨2, 8, [.cell 4 4 true],
 (.seq (.ops [
 oO 2 (.box 1 4 (.t 0)),
 oO 3 (.box 1 4 (.t 1)),
 oO 4 (.alloc 1 4 [.int .u64 0])])
 (.seq (.ops [
 oO 5 (.load 4 true (.t 2)),
 oO 6 (.load 4 true (.t 3)),
 oK 7 F_field_Add [.c (.int .i64 1), .t 5, .t 6],
 ⟨none, .stA 1 4 4 (.t 4) (.t 7), none⟩])
 .ret))⟩
theorem K_poly_add : chkFun DK Pg Try.f120 A_poly_add = true := by kernel_rfl
theorem B_poly_add {args : List AV} {m : Mem} {K : AV → Mem → Prop} (h : vcFun DK Pg A_poly_add args m K) : ACall Pg F_poly_add args m K := call_body mixed Try.func120 (by kernel_rfl) K_poly_add h

noncomputable def A_poly_mul : AFun := ⟨2, 8, [.cell 4 4 true],
 (.seq (.ops [
 oO 2 (.box 1 4 (.t 0)),
 oO 3 (.box 1 4 (.t 1)),
 oO 4 (.alloc 1 4 [.int .u64 0])])
 (.seq (.ops [
 oO 5 (.load 4 true (.t 2)),
 oO 6 (.load 4 true (.t 3)),
 oK 7 F_field_Mul [.c (.int .i64 1), .t 5, .t 6],
 ⟨none, .stA 1 4 4 (.t 4) (.t 7), none⟩])
 .ret))⟩
theorem K_poly_mul : chkFun DK Pg Try.f121 A_poly_mul = true := by kernel_rfl
theorem B_poly_mul {args : List AV} {m : Mem} {K : AV → Mem → Prop} (h : vcFun DK Pg A_poly_mul args m K) : ACall Pg F_poly_mul args m K := call_body mixed Try.func121 (by kernel_rfl) K_poly_mul h

noncomputable def A_field_Read : AFun := ⟨2, 28, [.cell 4 4 true, .t 5],
 (.seq (.ops [
 oO 3 (.box 1 32 (.t 1)),
 oO 4 (.alloc 1 4 [.int .u64 0]),
 oO 5 (.mv (.c (.int .i64 0)))])
 (.seq (.ops [
 oM 10 0,
 oK 11 F_field_less [.t 10],
 oM 9 11,
 oO 12 (.ext (.t 9) 0),
 oO 13 (.ext (.t 9) 1),
 oO 6 (.alloc 1 4 [.int .u64 0]),
 ⟨none, .stA 1 4 4 (.t 6) (.t 12), none⟩,
 oM 7 13])
 (.seq (.ops [
 oO 14 (.load 32 true (.t 3)),
 oK 15 F_limb_Of [.t 14],
 oO 8 (.alloc 1 4 [.int .u64 0]),
 ⟨none, .stA 1 4 4 (.t 8) (.t 15), none⟩])
 (.seq (.block 0
 (.seq (.ops [
 oM 17 7,
 oO 18 (.un .not (.t 17)),
 oM 16 18])
 (.cond (.t 16)
 (.seq (.ops [
 oO 19 (.build [.int .u64 0, .int .u64 0, .int .u64 0, .int .u64 0] []),
 ⟨none, .stA 1 4 4 (.t 4) (.t 19), none⟩,
 oO 5 (.mv (.c (.int .i64 1)))])
 .ret)
 (.seq (.draw [
 oO 21 (.load 4 true (.t 8)),
 oM 22 0,
 oK 23 F_field_Prime [.t 22],
 oK 24 F_limb_Cmp [.t 21, .t 23],
 oO 25 (.bin .geq (.t 24) (.c (.int .i64 0))),
 oM 20 25] ⟨.all, [], .look 0 (.look 1 (.run 2 true (.run 3 true (.look 4 (.look 5 .done)))))⟩)
 (.cond (.t 20)
 (.seq (.ops [
 oO 26 (.build [.int .u64 0, .int .u64 0, .int .u64 0, .int .u64 0] []),
 ⟨none, .stA 1 4 4 (.t 4) (.t 26), none⟩,
 oO 5 (.mv (.c (.int .i64 2)))])
 .ret)
 .skip)))))
 (.seq (.ops [
 oO 27 (.load 4 true (.t 8)),
 ⟨none, .stA 1 4 4 (.t 4) (.t 27), none⟩,
 oO 5 (.mv (.c (.int .i64 0)))])
 .ret)))))⟩
theorem K_field_Read : chkFun DK Pg Try.f122 A_field_Read = true := by kernel_rfl
theorem B_field_Read {args : List AV} {m : Mem} {K : AV → Mem → Prop} (h : vcFun DK Pg A_field_Read args m K) : ACall Pg F_field_Read args m K := call_body mixed Try.func122 (by kernel_rfl) K_field_Read h

noncomputable def A_field_Pow : AFun := ⟨3, 40, [.cell 6 4 true],
 (.seq (.ops [
 oO 4 (.box 1 4 (.t 1)),
 oO 5 (.box 1 4 (.t 2)),
 oO 6 (.alloc 1 4 [.int .u64 0])])
 (.seq (.ops [
 oM 12 0,
 oK 13 F_field_less [.t 12],
 oM 11 13,
 oO 14 (.ext (.t 11) 0),
 oO 15 (.ext (.t 11) 1),
 oO 7 (.alloc 1 4 [.int .u64 0]),
 ⟨none, .stA 1 4 4 (.t 7) (.t 14), none⟩,
 oM 8 15])
 (.seq (.seq (.ops [
 oM 16 8,
 oO 17 (.un .not (.t 16))])
 (.cond (.t 17)
 (.seq (.ops [
 oO 18 (.build [.int .u64 0, .int .u64 0, .int .u64 0, .int .u64 0] []),
 ⟨none, .stA 1 4 4 (.t 6) (.t 18), none⟩])
 .ret)
 .skip))
 (.seq (.ops [
 oO 19 (.build [.int .u64 0, .int .u64 0, .int .u64 0, .int .u64 0] [(0, 1, .c (.int .u64 1))]),
 oO 9 (.alloc 1 4 [.int .u64 0]),
 ⟨none, .stA 1 4 4 (.t 9) (.t 19), none⟩])
 (.seq (.seq (.ops [
 oO 20 (.load 4 true (.t 5)),
 oK 21 F_limb_Len [.t 20],
 oO 22 (.bin .sub (.t 21) (.c (.int .i64 1))),
 oM 10 22])
 (.block 0
 (.loop
 (.seq (.seq (.ops [
 oM 23 10,
 oO 24 (.bin .geq (.t 23) (.c (.int .i64 0)))])
 (.cond (.t 24)
 .skip
 (.exit 0)))
 (.seq (.block 1
 (.seq (.ops [
 oM 27 0,
 oO 28 (.load 4 true (.t 9)),
 oO 29 (.load 4 true (.t 9)),
 oK 30 F_field_Mul [.t 27, .t 28, .t 29],
 ⟨none, .stA 1 4 4 (.t 9) (.t 30), none⟩])
 (.seq (.ops [
 oO 31 (.load 4 true (.t 5)),
 oM 32 10,
 oK 33 F_limb_Bit [.t 31, .t 32],
 oO 34 (.bin .eql (.t 33) (.c (.int .i64 1)))])
 (.cond (.t 34)
 (.ops [
 oM 35 0,
 oO 36 (.load 4 true (.t 9)),
 oO 37 (.load 4 true (.t 4)),
 oK 38 F_field_Mul [.t 35, .t 36, .t 37],
 ⟨none, .stA 1 4 4 (.t 9) (.t 38), none⟩])
 .skip))))
 (.ops [
 oM 25 10,
 oO 26 (.bin .sub (.t 25) (.c (.int .i64 1))),
 oM 10 26]))))))
 (.seq (.ops [
 oO 39 (.load 4 true (.t 9)),
 ⟨none, .stA 1 4 4 (.t 6) (.t 39), none⟩])
 .ret))))))⟩
theorem K_field_Pow : chkFun DK Pg Try.f123 A_field_Pow = true := by kernel_rfl
theorem B_field_Pow {args : List AV} {m : Mem} {K : AV → Mem → Prop} (h : vcFun DK Pg A_field_Pow args m K) : ACall Pg F_field_Pow args m K := call_body mixed Try.func123 (by kernel_rfl) K_field_Pow h

noncomputable def A_witanref01_Bytes : AFun := ⟨1, 24, [.cell 2 32 true],
 (.seq (.ops [
 oO 1 (.box 1 4 (.t 0)),
 oO 2 (.alloc 1 32 [.int .u8 0])])
 (.seq (.ops [
 oO 3 (.alloc 1 32 [.int .u8 0])])
 (.seq (.seq (.ops [
 oO 4 (.mv (.c (.int .i64 0)))])
 (.block 0
 (.loop
 (.seq (.seq (.ops [
 oM 5 4,
 oO 6 (.bin .lss (.t 5) (.c (.int .i64 32)))])
 (.cond (.t 6)
 .skip
 (.exit 0)))
 (.seq (.block 1
 (.ops [
 oM 9 4,
 oM 10 4,
 oO 11 (.bin .quo (.t 10) (.c (.int .i64 8))),
 oO 12 (.binF .sub (.c (.int .i64 3)) (.t 11)),
 oO 13 (.idxP 4 1 (.t 1) (.t 12)),
 oO 14 (.load 1 false (.t 13)),
 oM 15 4,
 oO 16 (.bin .rem (.t 15) (.c (.int .i64 8))),
 oO 17 (.binF .mul (.c (.int .i64 8)) (.t 16)),
 oO 18 (.binF .sub (.c (.int .i64 56)) (.t 17)),
 oO 19 (.conv .u64 (.t 18)),
 oO 20 (.bin .shr (.t 14) (.t 19)),
 oO 21 (.conv .u8 (.t 20)),
 oO 22 (.idxP 32 1 (.t 3) (.t 9)),
 ⟨none, .stA 1 32 1 (.t 22) (.t 21), none⟩]))
 (.ops [
 oM 7 4,
 oO 8 (.binF .add (.t 7) (.c (.int .i64 1))),
 oM 4 8]))))))
 (.seq (.ops [
 oO 23 (.load 32 true (.t 3)),
 ⟨none, .stA 1 32 32 (.t 2) (.t 23), none⟩])
 .ret))))⟩
theorem K_witanref01_Bytes : chkFun DK Pg Try.f124 A_witanref01_Bytes = true := by kernel_rfl
theorem B_witanref01_Bytes {args : List AV} {m : Mem} {K : AV → Mem → Prop} (h : vcFun DK Pg A_witanref01_Bytes args m K) : ACall Pg F_witanref01_Bytes args m K := call_body mixed Try.func124 (by kernel_rfl) K_witanref01_Bytes h

noncomputable def A_witanref01_Of : AFun := ⟨1, 25, [.cell 2 4 true],
 (.seq (.ops [
 oO 1 (.box 1 32 (.t 0)),
 oO 2 (.alloc 1 4 [.int .u64 0])])
 (.seq (.ops [
 oO 3 (.alloc 1 4 [.int .u64 0])])
 (.seq (.seq (.ops [
 oO 4 (.mv (.c (.int .i64 0)))])
 (.block 0
 (.loop
 (.seq (.seq (.ops [
 oM 5 4,
 oO 6 (.bin .lss (.t 5) (.c (.int .i64 32)))])
 (.cond (.t 6)
 .skip
 (.exit 0)))
 (.seq (.block 1
 (.draw [
 oM 9 4,
 oO 10 (.bin .quo (.t 9) (.c (.int .i64 8))),
 oO 11 (.binF .sub (.c (.int .i64 3)) (.t 10)),
 oM 12 4,
 oO 13 (.bin .quo (.t 12) (.c (.int .i64 8))),
 oO 14 (.binF .sub (.c (.int .i64 3)) (.t 13)),
 oO 15 (.idxP 4 1 (.t 3) (.t 14)),
 oO 16 (.load 1 false (.t 15)),
 oO 17 (.bin .shl (.t 16) (.c (.int .u64 8))),
 oM 18 4,
 oO 19 (.idxP 32 1 (.t 1) (.t 18)),
 oO 20 (.load 1 false (.t 19)),
 oO 21 (.conv .u64 (.t 20)),
 oO 22 (.bin .or (.t 17) (.t 21)),
 oO 23 (.idxP 4 1 (.t 3) (.t 11)),
 ⟨none, .stA 1 4 1 (.t 23) (.t 22), none⟩] ⟨.all, [], .look 0 (.look 1 (.look 2 (.look 3 (.look 4 (.look 5 (.look 6 (.look 7 (.look 8 (.look 9 (.look 10 (.look 11 (.look 12 (.look 13 (.look 14 (.run 15 false .done)))))))))))))))⟩))
 (.ops [
 oM 7 4,
 oO 8 (.binF .add (.t 7) (.c (.int .i64 1))),
 oM 4 8]))))))
 (.seq (.ops [
 oO 24 (.load 4 true (.t 3)),
 ⟨none, .stA 1 4 4 (.t 2) (.t 24), none⟩])
 .ret))))⟩
theorem K_witanref01_Of : chkFun DK Pg Try.f125 A_witanref01_Of = true := by kernel_rfl
theorem B_witanref01_Of {args : List AV} {m : Mem} {K : AV → Mem → Prop} (h : vcFun DK Pg A_witanref01_Of args m K) : ACall Pg F_witanref01_Of args m K := call_body mixed Try.func125 (by kernel_rfl) K_witanref01_Of h

noncomputable def A_witanref01_Root : AFun := ⟨1, 56, [.cell 2 4 true, .t 3],
 (.seq (.ops [
 oO 1 (.box 1 4 (.t 0)),
 oO 2 (.alloc 1 4 [.int .u64 0]),
 oO 3 (.mv (.c (.bool false)))])
 (.seq (.ops [
 oO 9 (.load 4 true (.t 1)),
 oK 10 F_witanref01_Red [.c (.int .i64 0), .t 9],
 ⟨none, .stA 1 4 4 (.t 1) (.t 10), none⟩])
 (.seq (.ops [
 oK 12 F_witanref01_Prime [.c (.int .i64 0)],
 oO 13 (.build [.int .u64 0, .int .u64 0, .int .u64 0, .int .u64 0] [(0, 1, .c (.int .u64 1))]),
 oK 14 F_witanref01_Add [.t 12, .t 13],
 oM 11 14,
 oO 15 (.ext (.t 11) 0),
 oO 16 (.ext (.t 11) 1),
 oO 4 (.alloc 1 4 [.int .u64 0]),
 ⟨none, .stA 1 4 4 (.t 4) (.t 15), none⟩,
 oM 5 16])
 (.seq (.ops [
 oO 6 (.alloc 1 4 [.int .u64 0])])
 (.seq (.seq (.ops [
 oO 7 (.mv (.c (.int .i64 0)))])
 (.block 0
 (.loop
 (.seq (.seq (.ops [
 oM 17 7,
 oO 18 (.bin .lss (.t 17) (.c (.int .i64 4)))])
 (.cond (.t 18)
 .skip
 (.exit 0)))
 (.seq (.block 1
 (.seq (.ops [
 oM 21 7,
 oM 22 7,
 oO 23 (.idxP 4 1 (.t 4) (.t 22)),
 oO 24 (.load 1 false (.t 23)),
 oO 25 (.bin .shr (.t 24) (.c (.int .u64 2))),
 oO 26 (.idxP 4 1 (.t 6) (.t 21)),
 ⟨none, .stA 1 4 1 (.t 26) (.t 25), none⟩])
 (.seq (.ops [
 oM 27 7,
 oO 28 (.bin .lss (.t 27) (.c (.int .i64 3)))])
 (.cond (.t 28)
 (.draw [
 oM 29 7,
 oO 30 (.idxP 4 1 (.t 6) (.t 29)),
 oO 31 (.load 1 false (.t 30)),
 oM 32 7,
 oO 33 (.binF .add (.t 32) (.c (.int .i64 1))),
 oO 34 (.idxP 4 1 (.t 4) (.t 33)),
 oO 35 (.load 1 false (.t 34)),
 oO 36 (.bin .shl (.t 35) (.c (.int .u64 62))),
 oO 37 (.bin .or (.t 31) (.t 36)),
 oO 38 (.idxP 4 1 (.t 6) (.t 29)),
 ⟨none, .stA 1 4 1 (.t 38) (.t 37), none⟩] ⟨.all, [], .look 0 (.look 1 (.look 2 (.look 3 (.look 4 (.look 5 (.look 6 (.look 7 (.look 8 (.look 9 (.run 10 false .done))))))))))⟩)
 .skip))))
 (.ops [
 oM 19 7,
 oO 20 (.binF .add (.t 19) (.c (.int .i64 1))),
 oM 7 20]))))))
 (.seq (.ops [
 oO 39 (.load 4 true (.t 1)),
 oO 40 (.load 4 true (.t 6)),
 oK 41 F_witanref01_Pow [.c (.int .i64 0), .t 39, .t 40],
 oO 8 (.alloc 1 4 [.int .u64 0]),
 ⟨none, .stA 1 4 4 (.t 8) (.t 41), none⟩])
 (.seq (.seq (.draw [
 oO 42 (.load 4 true (.t 8)),
 oO 43 (.load 4 true (.t 8)),
 oK 44 F_witanref01_FMul [.c (.int .i64 0), .t 42, .t 43],
 oO 45 (.load 4 true (.t 1)),
 oO 46 (.eqa [.i, .i, .i, .i] true (.t 44) (.t 45))] ⟨.all, [], .look 0 (.look 1 (.look 3 (.run 2 true (.look 4 .done))))⟩)
 (.cond (.t 46)
 (.seq (.ops [
 oO 47 (.build [.int .u64 0, .int .u64 0, .int .u64 0, .int .u64 0] []),
 ⟨none, .stA 1 4 4 (.t 2) (.t 47), none⟩,
 oO 3 (.mv (.c (.bool false)))])
 .ret)
 .skip))
 (.seq (.seq (.ops [
 oO 48 (.idxP 4 1 (.t 8) (.c (.int .i64 0))),
 oO 49 (.load 1 false (.t 48)),
 oO 50 (.bin .and (.t 49) (.c (.int .u64 1))),
 oO 51 (.bin .eql (.t 50) (.c (.int .u64 1)))])
 (.cond (.t 51)
 (.ops [
 oO 52 (.build [.int .u64 0, .int .u64 0, .int .u64 0, .int .u64 0] []),
 oO 53 (.load 4 true (.t 8)),
 oK 54 F_witanref01_FSub [.c (.int .i64 0), .t 52, .t 53],
 ⟨none, .stA 1 4 4 (.t 8) (.t 54), none⟩])
 .skip))
 (.seq (.ops [
 oO 55 (.load 4 true (.t 8)),
 ⟨none, .stA 1 4 4 (.t 2) (.t 55), none⟩,
 oO 3 (.mv (.c (.bool true)))])
 .ret)))))))))⟩
theorem K_witanref01_Root : chkFun DK Pg Try.f126 A_witanref01_Root = true := by kernel_rfl
theorem B_witanref01_Root {args : List AV} {m : Mem} {K : AV → Mem → Prop} (h : vcFun DK Pg A_witanref01_Root args m K) : ACall Pg F_witanref01_Root args m K := call_body mixed Try.func126 (by kernel_rfl) K_witanref01_Root h

noncomputable def A_bin_Get : AFun := ⟨3, 56, [.t 6, .t 7, .t 8],
 (.seq (.ops [
 oO 6 (.mv (.c (.int .i64 0))),
 oO 7 (.mv (.c (.int .i64 0))),
 oO 8 (.mv (.c (.int .i64 0)))])
 (.seq (.block 0
 (.seq (.ops [
 oM 12 2,
 oO 13 (.bin .lss (.t 12) (.c (.int .i64 1))),
 oM 14 13,
 oG 15 (.mv (.t 2)) 14 false,
 oG 16 (.bin .gtr (.t 15) (.c (.int .i64 7))) 14 false,
 oO 17 (.pick (.t 14) (.c (.bool true)) (.t 16)),
 oM 18 17,
 oG 19 (.mv (.t 1)) 18 false,
 oG 20 (.bin .lss (.t 19) (.c (.int .i64 0))) 18 false,
 oO 21 (.pick (.t 18) (.c (.bool true)) (.t 20)),
 oM 22 21,
 oG 23 (.mv (.t 1)) 22 false,
 oG 24 (.mv (.t 0)) 22 false,
 oG 25 (.len (.t 24)) 22 false,
 oG 26 (.bin .gtr (.t 23) (.t 25)) 22 false,
 oO 27 (.pick (.t 22) (.c (.bool true)) (.t 26)),
 oM 11 27])
 (.cond (.t 11)
 (.seq (.ops [
 oO 6 (.mv (.c (.int .i64 0))),
 oO 7 (.mv (.c (.int .i64 0))),
 oO 8 (.mv (.c (.int .i64 1)))])
 .ret)
 (.seq (.ops [
 oM 29 0,
 oO 30 (.len (.t 29)),
 oM 31 1,
 oO 32 (.bin .sub (.t 30) (.t 31)),
 oM 33 2,
 oO 34 (.bin .lss (.t 32) (.t 33)),
 oM 28 34])
 (.cond (.t 28)
 (.seq (.ops [
 oO 6 (.mv (.c (.int .i64 0))),
 oO 7 (.mv (.c (.int .i64 0))),
 oO 8 (.mv (.c (.int .i64 7)))])
 .ret)
 .skip)))))
 (.seq (.seq (.ops [
 oM 35 0,
 oM 36 1,
 oM 37 1,
 oM 38 2,
 oO 39 (.bin .add (.t 37) (.t 38)),
 oO 40 (.slice 1 (.t 35) (some (.t 36)) (some (.t 39)) none),
 oO 41 (.len (.t 40)),
 oO 42 (.mv (.c (.int .i64 0)))])
 (.block 1
 (.loop
 (.seq (.ops [
 oO 43 (.bin .lss (.t 42) (.t 41))])
 (.seq (.cond (.t 43)
 .skip
 (.exit 1))
 (.seq (.block 2
 (.seq (.ops [
 oO 44 (.idxA 1 (.t 40) (.t 42)),
 oO 45 (.load 1 false (.t 44)),
 oM 10 45])
 (.ops [
 oM 46 6,
 oO 47 (.bin .shl (.t 46) (.c (.int .u64 8))),
 oM 48 10,
 oO 49 (.conv .i64 (.t 48)),
 oO 50 (.bin .or (.t 47) (.t 49)),
 oM 6 50])))
 (.ops [
 oO 51 (.bin .add (.t 42) (.c (.int .i64 1))),
 oM 42 51])))))))
 (.seq (.ops [
 oM 52 6,
 oM 53 1,
 oM 54 2,
 oO 55 (.bin .add (.t 53) (.t 54)),
 oM 6 52,
 oM 7 55,
 oO 8 (.mv (.c (.int .i64 0)))])
 .ret))))⟩
theorem K_bin_Get : chkFun DK Pg Try.f127 A_bin_Get = true := by kernel_rfl
theorem B_bin_Get {args : List AV} {m : Mem} {K : AV → Mem → Prop} (h : vcFun DK Pg A_bin_Get args m K) : ACall Pg F_bin_Get args m K := call_body mixed Try.func127 (by kernel_rfl) K_bin_Get h

noncomputable def A_bin_GetPart : AFun := ⟨2, 40, [.t 4, .t 5, .t 6],
 (.seq (.ops [
 oO 4 (.mv (.c (.nils))),
 oO 5 (.mv (.c (.int .i64 0))),
 oO 6 (.mv (.c (.int .i64 0)))])
 (.seq (.ops [
 oM 9 0,
 oM 10 1,
 oK 11 F_bin_Get [.t 9, .t 10, .c (.int .i64 4)],
 oM 8 11,
 oO 12 (.ext (.t 8) 0),
 oO 13 (.ext (.t 8) 1),
 oO 14 (.ext (.t 8) 2),
 oM 7 12,
 oM 5 13,
 oM 6 14])
 (.seq (.block 0
 (.seq (.ops [
 oM 16 6,
 oO 17 (.bin .neq (.t 16) (.c (.int .i64 0))),
 oM 15 17])
 (.cond (.t 15)
 (.seq (.ops [
 oM 18 6,
 oO 4 (.mv (.c (.nils))),
 oO 5 (.mv (.c (.int .i64 0))),
 oM 6 18])
 .ret)
 (.seq (.ops [
 oM 20 7,
 oO 21 (.bin .gtr (.t 20) (.c (.int .i64 16384))),
 oM 22 21,
 oG 23 (.mv (.t 0)) 22 false,
 oG 24 (.len (.t 23)) 22 false,
 oG 25 (.mv (.t 5)) 22 false,
 oG 26 (.bin .sub (.t 24) (.t 25)) 22 false,
 oG 27 (.mv (.t 7)) 22 false,
 oG 28 (.bin .lss (.t 26) (.t 27)) 22 false,
 oO 29 (.pick (.t 22) (.c (.bool true)) (.t 28)),
 oM 19 29])
 (.cond (.t 19)
 (.seq (.ops [
 oO 4 (.mv (.c (.nils))),
 oO 5 (.mv (.c (.int .i64 0))),
 oO 6 (.mv (.c (.int .i64 7)))])
 .ret)
 .skip)))))
 (.seq (.ops [
 oM 30 0,
 oM 31 5,
 oM 32 5,
 oM 33 7,
 oO 34 (.bin .add (.t 32) (.t 33)),
 oO 35 (.slice 1 (.t 30) (some (.t 31)) (some (.t 34)) none),
 oK 36 F_slices_Clone_Sbyte_byte [.t 35],
 oM 37 5,
 oM 38 7,
 oO 39 (.bin .add (.t 37) (.t 38)),
 oM 4 36,
 oM 5 39,
 oO 6 (.mv (.c (.int .i64 0)))])
 .ret))))⟩
theorem K_bin_GetPart : chkFun DK Pg Try.f128 A_bin_GetPart = true := by kernel_rfl
theorem B_bin_GetPart {args : List AV} {m : Mem} {K : AV → Mem → Prop} (h : vcFun DK Pg A_bin_GetPart args m K) : ACall Pg F_bin_GetPart args m K := call_body mixed Try.func128 (by kernel_rfl) K_bin_GetPart h

noncomputable def A_bin_room : AFun := ⟨1, 6, [.t 2],
 (.seq (.ops [
 oO 2 (.mv (.c (.int .i64 0)))])
 (.seq (.ops [
 oM 3 0,
 oO 4 (.bin .mul (.c (.int .i64 8)) (.t 3)),
 oO 5 (.bin .shl (.c (.int .i64 1)) (.t 4)),
 oM 2 5])
 .ret))⟩
theorem K_bin_room : chkFun DK Pg Try.f129 A_bin_room = true := by kernel_rfl
theorem B_bin_room {args : List AV} {m : Mem} {K : AV → Mem → Prop} (h : vcFun DK Pg A_bin_room args m K) : ACall Pg F_bin_room args m K := call_body mixed Try.func129 (by kernel_rfl) K_bin_room h

noncomputable def A_slices_Clone_Sbyte_byte : AFun := ⟨1, 8, [.t 2],
 (.seq (.ops [
 oO 2 (.mv (.c (.nils)))])
 (.seq (.seq (.ops [
 oM 3 0,
 oO 4 (.eqnS false (.t 3))])
 (.cond (.t 4)
 (.seq (.ops [
 oO 2 (.mv (.c (.nils)))])
 .ret)
 .skip))
 (.seq (.ops [
 oO 5 (.bsl 1 0 [.int .u8 0] []),
 oM 6 0,
 oO 7 (.app 1 1 (.t 5) (.t 6)),
 oM 2 7])
 .ret)))⟩
theorem K_slices_Clone_Sbyte_byte : chkFun DK Pg Try.f130 A_slices_Clone_Sbyte_byte = true := by kernel_rfl
theorem B_slices_Clone_Sbyte_byte {args : List AV} {m : Mem} {K : AV → Mem → Prop} (h : vcFun DK Pg A_slices_Clone_Sbyte_byte args m K) : ACall Pg F_slices_Clone_Sbyte_byte args m K := call_body mixed Try.func130 (by kernel_rfl) K_slices_Clone_Sbyte_byte h

noncomputable def A_witanref04_k256 : AFun := ⟨0, 2, [.cell 0 64 true],
 (.seq (.ops [
 oO 0 (.alloc 1 64 [.int .u32 0])])
 (.seq (.ops [
 oO 1 (.build (List.replicate 64 (.int .u32 0)) [(0, 1, .c (.int .u32 1116352408)), (1, 1, .c (.int .u32 1899447441)), (2, 1, .c (.int .u32 3049323471)), (3, 1, .c (.int .u32 3921009573)), (4, 1, .c (.int .u32 961987163)), (5, 1, .c (.int .u32 1508970993)), (6, 1, .c (.int .u32 2453635748)), (7, 1, .c (.int .u32 2870763221)), (8, 1, .c (.int .u32 3624381080)), (9, 1, .c (.int .u32 310598401)), (10, 1, .c (.int .u32 607225278)), (11, 1, .c (.int .u32 1426881987)), (12, 1, .c (.int .u32 1925078388)), (13, 1, .c (.int .u32 2162078206)), (14, 1, .c (.int .u32 2614888103)), (15, 1, .c (.int .u32 3248222580)), (16, 1, .c (.int .u32 3835390401)), (17, 1, .c (.int .u32 4022224774)), (18, 1, .c (.int .u32 264347078)), (19, 1, .c (.int .u32 604807628)), (20, 1, .c (.int .u32 770255983)), (21, 1, .c (.int .u32 1249150122)), (22, 1, .c (.int .u32 1555081692)), (23, 1, .c (.int .u32 1996064986)), (24, 1, .c (.int .u32 2554220882)), (25, 1, .c (.int .u32 2821834349)), (26, 1, .c (.int .u32 2952996808)), (27, 1, .c (.int .u32 3210313671)), (28, 1, .c (.int .u32 3336571891)), (29, 1, .c (.int .u32 3584528711)), (30, 1, .c (.int .u32 113926993)), (31, 1, .c (.int .u32 338241895)), (32, 1, .c (.int .u32 666307205)), (33, 1, .c (.int .u32 773529912)), (34, 1, .c (.int .u32 1294757372)), (35, 1, .c (.int .u32 1396182291)), (36, 1, .c (.int .u32 1695183700)), (37, 1, .c (.int .u32 1986661051)), (38, 1, .c (.int .u32 2177026350)), (39, 1, .c (.int .u32 2456956037)), (40, 1, .c (.int .u32 2730485921)), (41, 1, .c (.int .u32 2820302411)), (42, 1, .c (.int .u32 3259730800)), (43, 1, .c (.int .u32 3345764771)), (44, 1, .c (.int .u32 3516065817)), (45, 1, .c (.int .u32 3600352804)), (46, 1, .c (.int .u32 4094571909)), (47, 1, .c (.int .u32 275423344)), (48, 1, .c (.int .u32 430227734)), (49, 1, .c (.int .u32 506948616)), (50, 1, .c (.int .u32 659060556)), (51, 1, .c (.int .u32 883997877)), (52, 1, .c (.int .u32 958139571)), (53, 1, .c (.int .u32 1322822218)), (54, 1, .c (.int .u32 1537002063)), (55, 1, .c (.int .u32 1747873779)), (56, 1, .c (.int .u32 1955562222)), (57, 1, .c (.int .u32 2024104815)), (58, 1, .c (.int .u32 2227730452)), (59, 1, .c (.int .u32 2361852424)), (60, 1, .c (.int .u32 2428436474)), (61, 1, .c (.int .u32 2756734187)), (62, 1, .c (.int .u32 3204031479)), (63, 1, .c (.int .u32 3329325298))]),
 oS 64 0 1])
 .ret))⟩
theorem K_witanref04_k256 : chkFun DK Pg Try.f131 A_witanref04_k256 = true := by kernel_rfl
theorem B_witanref04_k256 {args : List AV} {m : Mem} {K : AV → Mem → Prop} (h : vcFun DK Pg A_witanref04_k256 args m K) : ACall Pg F_witanref04_k256 args m K := call_body mixed Try.func131 (by kernel_rfl) K_witanref04_k256 h

noncomputable def A_witanref04_padded : AFun := ⟨1, 37, [.t 2],
 (.seq (.ops [
 oO 2 (.mv (.c (.nils)))])
 (.seq (.ops [
 oO 3 (.mv (.c (.nils)))])
 (.seq (.ops [
 oM 6 3,
 oM 7 0,
 oO 8 (.app 1 1 (.t 6) (.t 7)),
 oO 9 (.bsl 1 1 [.int .u8 0] [(0, 1, .c (.int .u8 128))]),
 oO 10 (.app 1 1 (.t 8) (.t 9)),
 oM 3 10])
 (.seq (.block 0
 (.loop
 (.seq (.seq (.ops [
 oM 11 3,
 oO 12 (.len (.t 11)),
 oO 13 (.bin .add (.t 12) (.c (.int .i64 8))),
 oO 14 (.bin .rem (.t 13) (.c (.int .i64 64))),
 oO 15 (.bin .neq (.t 14) (.c (.int .i64 0)))])
 (.cond (.t 15)
 .skip
 (.exit 0)))
 (.block 1
 (.ops [
 oM 16 3,
 oO 17 (.bsl 1 1 [.int .u8 0] [(0, 1, .c (.int .u8 0))]),
 oO 18 (.app 1 1 (.t 16) (.t 17)),
 oM 3 18])))))
 (.seq (.ops [
 oM 19 0,
 oO 20 (.len (.t 19)),
 oO 21 (.conv .u64 (.t 20)),
 oO 22 (.bin .mul (.t 21) (.c (.int .u64 8))),
 oM 4 22])
 (.seq (.seq (.ops [
 oO 5 (.mv (.c (.int .i64 7)))])
 (.block 2
 (.loop
 (.seq (.seq (.ops [
 oM 23 5,
 oO 24 (.bin .geq (.t 23) (.c (.int .i64 0)))])
 (.cond (.t 24)
 .skip
 (.exit 2)))
 (.seq (.block 3
 (.ops [
 oM 27 3,
 oM 28 4,
 oM 29 5,
 oO 30 (.conv .u64 (.t 29)),
 oO 31 (.bin .mul (.c (.int .u64 8)) (.t 30)),
 oO 32 (.bin .shr (.t 28) (.t 31)),
 oO 33 (.conv .u8 (.t 32)),
 oO 34 (.bsl 1 1 [.int .u8 0] [(0, 1, .t 33)]),
 oO 35 (.app 1 1 (.t 27) (.t 34)),
 oM 3 35]))
 (.ops [
 oM 25 5,
 oO 26 (.bin .sub (.t 25) (.c (.int .i64 1))),
 oM 5 26]))))))
 (.seq (.ops [
 oM 36 3,
 oM 2 36])
 .ret)))))))⟩
theorem K_witanref04_padded : chkFun DK Pg Try.f132 A_witanref04_padded = true := by kernel_rfl
theorem B_witanref04_padded {args : List AV} {m : Mem} {K : AV → Mem → Prop} (h : vcFun DK Pg A_witanref04_padded args m K) : ACall Pg F_witanref04_padded args m K := call_body mixed Try.func132 (by kernel_rfl) K_witanref04_padded h

noncomputable def A_witanref04_rot32 : AFun := ⟨2, 9, [.t 4],
 (.seq (.ops [
 oO 4 (.mv (.c (.int .u32 0)))])
 (.seq (.ops [
 oM 5 0,
 oM 6 1,
 oO 7 (.un .neg (.t 6)),
 oK 8 F_bits_RotateLeft32 [.t 5, .t 7],
 oM 4 8])
 .ret))⟩
theorem K_witanref04_rot32 : chkFun DK Pg Try.f133 A_witanref04_rot32 = true := by kernel_rfl
theorem B_witanref04_rot32 {args : List AV} {m : Mem} {K : AV → Mem → Prop} (h : vcFun DK Pg A_witanref04_rot32 args m K) : ACall Pg F_witanref04_rot32 args m K := call_body mixed Try.func133 (by kernel_rfl) K_witanref04_rot32 h

noncomputable def A_limb_Len : AFun := ⟨1, 19, [.t 2],
 (.seq (.ops [
 oO 1 (.box 1 4 (.t 0)),
 oO 2 (.mv (.c (.int .i64 0)))])
 (.seq (.seq (.ops [
 oO 3 (.mv (.c (.int .i64 3)))])
 (.block 0
 (.loop
 (.seq (.seq (.ops [
 oM 4 3,
 oO 5 (.bin .geq (.t 4) (.c (.int .i64 0)))])
 (.cond (.t 5)
 .skip
 (.exit 0)))
 (.seq (.block 1
 (.seq (.ops [
 oM 8 3,
 oO 9 (.idxP 4 1 (.t 1) (.t 8)),
 oO 10 (.load 1 false (.t 9)),
 oO 11 (.bin .neq (.t 10) (.c (.int .u64 0)))])
 (.cond (.t 11)
 (.seq (.ops [
 oM 12 3,
 oO 13 (.bin .mul (.c (.int .i64 64)) (.t 12)),
 oM 14 3,
 oO 15 (.idxP 4 1 (.t 1) (.t 14)),
 oO 16 (.load 1 false (.t 15)),
 oK 17 F_bits_Len64 [.t 16],
 oO 18 (.bin .add (.t 13) (.t 17)),
 oM 2 18])
 .ret)
 .skip)))
 (.ops [
 oM 6 3,
 oO 7 (.bin .sub (.t 6) (.c (.int .i64 1))),
 oM 3 7]))))))
 (.seq (.ops [
 oO 2 (.mv (.c (.int .i64 0)))])
 .ret)))⟩
theorem K_limb_Len : chkFun DK Pg Try.f134 A_limb_Len = true := by kernel_rfl
theorem B_limb_Len {args : List AV} {m : Mem} {K : AV → Mem → Prop} (h : vcFun DK Pg A_limb_Len args m K) : ACall Pg F_limb_Len args m K := call_body mixed Try.func134 (by kernel_rfl) K_limb_Len h

noncomputable def A_curve_jac_twice : AFun := ⟨1, 74, [.cell 2 12 true],
 (.seq (.ops [
 oO 1 (.box 12 1 (.t 0)),
 oO 2 (.alloc 12 1 (List.replicate 12 (.int .u64 0)))])
 (.seq (.ops [
 oO 11 (.fldA 4 (.t 1)),
 oO 12 (.load 4 true (.t 11)),
 oO 13 (.fldA 4 (.t 1)),
 oO 14 (.load 4 true (.t 13)),
 oK 15 F_curve_mul [.t 12, .t 14],
 oO 3 (.alloc 1 4 [.int .u64 0]),
 ⟨none, .stA 1 4 4 (.t 3) (.t 15), none⟩])
 (.seq (.ops [
 oO 16 (.fldA 0 (.t 1)),
 oO 17 (.load 4 true (.t 16)),
 oO 18 (.load 4 true (.t 3)),
 oK 19 F_curve_mul [.t 17, .t 18],
 oO 4 (.alloc 1 4 [.int .u64 0]),
 ⟨none, .stA 1 4 4 (.t 4) (.t 19), none⟩])
 (.seq (.draw [
 oO 20 (.load 4 true (.t 4)),
 oO 21 (.load 4 true (.t 4)),
 oK 22 F_curve_add [.t 20, .t 21],
 oO 23 (.load 4 true (.t 4)),
 oO 24 (.load 4 true (.t 4)),
 oK 25 F_curve_add [.t 23, .t 24],
 oK 26 F_curve_add [.t 22, .t 25],
 ⟨none, .stA 1 4 4 (.t 4) (.t 26), none⟩] ⟨.all, [], .look 0 (.look 1 (.look 3 (.look 4 (.run 2 true (.run 5 false (.run 6 false (.run 7 false .done)))))))⟩)
 (.seq (.ops [
 oO 27 (.fldA 0 (.t 1)),
 oO 28 (.load 4 true (.t 27)),
 oO 29 (.fldA 0 (.t 1)),
 oO 30 (.load 4 true (.t 29)),
 oK 31 F_curve_mul [.t 28, .t 30],
 oO 5 (.alloc 1 4 [.int .u64 0]),
 ⟨none, .stA 1 4 4 (.t 5) (.t 31), none⟩])
 (.seq (.draw [
 oO 32 (.load 4 true (.t 5)),
 oO 33 (.load 4 true (.t 5)),
 oK 34 F_curve_add [.t 32, .t 33],
 oO 35 (.load 4 true (.t 5)),
 oK 36 F_curve_add [.t 34, .t 35],
 oO 6 (.alloc 1 4 [.int .u64 0]),
 oS 4 6 36] ⟨.all, [(5, some 6)], .look 0 (.look 1 (.look 3 (.run 2 true (.run 4 true (.pre 5 6 (.fill .done))))))⟩)
 (.seq (.draw [
 oO 37 (.load 4 true (.t 6)),
 oO 38 (.load 4 true (.t 6)),
 oK 39 F_curve_mul [.t 37, .t 38],
 oO 40 (.load 4 true (.t 4)),
 oO 41 (.load 4 true (.t 4)),
 oK 42 F_curve_add [.t 40, .t 41],
 oK 43 F_curve_sub [.t 39, .t 42],
 oO 7 (.alloc 1 4 [.int .u64 0]),
 oS 4 7 43] ⟨.all, [(7, some 8)], .look 0 (.look 1 (.look 3 (.look 4 (.run 2 true (.run 5 true (.run 6 true (.pre 7 8 (.fill .done))))))))⟩)
 (.seq (.ops [
 oO 44 (.load 4 true (.t 3)),
 oO 45 (.load 4 true (.t 3)),
 oK 46 F_curve_mul [.t 44, .t 45],
 oO 8 (.alloc 1 4 [.int .u64 0]),
 ⟨none, .stA 1 4 4 (.t 8) (.t 46), none⟩])
 (.seq (.draw [
 oO 47 (.load 4 true (.t 8)),
 oO 48 (.load 4 true (.t 8)),
 oK 49 F_curve_add [.t 47, .t 48],
 oO 50 (.load 4 true (.t 8)),
 oO 51 (.load 4 true (.t 8)),
 oK 52 F_curve_add [.t 50, .t 51],
 oK 53 F_curve_add [.t 49, .t 52],
 ⟨none, .stA 1 4 4 (.t 8) (.t 53), none⟩] ⟨.all, [], .look 0 (.look 1 (.look 3 (.look 4 (.run 2 true (.run 5 false (.run 6 false (.run 7 false .done)))))))⟩)
 (.seq (.draw [
 oO 54 (.load 4 true (.t 6)),
 oO 55 (.load 4 true (.t 4)),
 oO 56 (.load 4 true (.t 7)),
 oK 57 F_curve_sub [.t 55, .t 56],
 oK 58 F_curve_mul [.t 54, .t 57],
 oO 59 (.load 4 true (.t 8)),
 oO 60 (.load 4 true (.t 8)),
 oK 61 F_curve_add [.t 59, .t 60],
 oK 62 F_curve_sub [.t 58, .t 61],
 oO 9 (.alloc 1 4 [.int .u64 0]),
 oS 4 9 62] ⟨.all, [(9, some 10)], .look 0 (.look 1 (.look 2 (.look 5 (.look 6 (.run 3 true (.run 4 true (.run 7 true (.run 8 true (.pre 9 10 (.fill .done))))))))))⟩)
 (.seq (.ops [
 oO 63 (.fldA 4 (.t 1)),
 oO 64 (.load 4 true (.t 63)),
 oO 65 (.fldA 8 (.t 1)),
 oO 66 (.load 4 true (.t 65)),
 oK 67 F_curve_mul [.t 64, .t 66],
 oO 10 (.alloc 1 4 [.int .u64 0]),
 ⟨none, .stA 1 4 4 (.t 10) (.t 67), none⟩])
 (.seq (.draw [
 oO 68 (.load 4 true (.t 7)),
 oO 69 (.load 4 true (.t 9)),
 oO 70 (.load 4 true (.t 10)),
 oO 71 (.load 4 true (.t 10)),
 oK 72 F_curve_add [.t 70, .t 71],
 oO 73 (.build (List.replicate 12 (.int .u64 0)) [(0, 4, .t 68), (4, 4, .t 69), (8, 4, .t 72)]),
 ⟨none, .stA 12 1 12 (.t 2) (.t 73), none⟩] ⟨.all, [], .look 0 (.look 1 (.look 2 (.look 3 (.run 4 true (.look 5 (.run 6 false .done))))))⟩)
 .ret))))))))))))⟩
theorem K_curve_jac_twice : chkFun DK Pg Try.f135 A_curve_jac_twice = true := by kernel_rfl
theorem B_curve_jac_twice {args : List AV} {m : Mem} {K : AV → Mem → Prop} (h : vcFun DK Pg A_curve_jac_twice args m K) : ACall Pg F_curve_jac_twice args m K := call_body mixed Try.func135 (by kernel_rfl) K_curve_jac_twice h

noncomputable def A_limb_Bit : AFun := ⟨2, 20, [.t 4],
 (.seq (.ops [
 oO 2 (.box 1 4 (.t 0)),
 oO 4 (.mv (.c (.int .i64 0)))])
 (.seq (.seq (.ops [
 oM 5 1,
 oO 6 (.bin .lss (.t 5) (.c (.int .i64 0))),
 oM 7 6,
 oG 8 (.mv (.t 1)) 7 false,
 oG 9 (.bin .geq (.t 8) (.c (.int .i64 256))) 7 false,
 oO 10 (.pick (.t 7) (.c (.bool true)) (.t 9))])
 (.cond (.t 10)
 (.seq (.ops [
 oO 4 (.mv (.c (.int .i64 0)))])
 .ret)
 .skip))
 (.seq (.ops [
 oM 11 1,
 oO 12 (.bin .quo (.t 11) (.c (.int .i64 64))),
 oO 13 (.idxP 4 1 (.t 2) (.t 12)),
 oO 14 (.load 1 false (.t 13)),
 oM 15 1,
 oO 16 (.bin .rem (.t 15) (.c (.int .i64 64))),
 oO 17 (.bin .shr (.t 14) (.t 16)),
 oO 18 (.bin .and (.t 17) (.c (.int .u64 1))),
 oO 19 (.conv .i64 (.t 18)),
 oM 4 19])
 .ret)))⟩
theorem K_limb_Bit : chkFun DK Pg Try.f136 A_limb_Bit = true := by kernel_rfl
theorem B_limb_Bit {args : List AV} {m : Mem} {K : AV → Mem → Prop} (h : vcFun DK Pg A_limb_Bit args m K) : ACall Pg F_limb_Bit args m K := call_body mixed Try.func136 (by kernel_rfl) K_limb_Bit h

noncomputable def A_field_Inv : AFun := ⟨2, 18, [.cell 4 4 true],
 (.seq (.ops [
 oO 3 (.box 1 4 (.t 1)),
 oO 4 (.alloc 1 4 [.int .u64 0])])
 (.seq (.ops [
 oM 8 0,
 oK 9 F_field_Prime [.t 8],
 oO 10 (.build [.int .u64 0, .int .u64 0, .int .u64 0, .int .u64 0] [(0, 1, .c (.int .u64 2))]),
 oK 11 F_limb_Sub [.t 9, .t 10],
 oM 7 11,
 oO 12 (.ext (.t 7) 0),
 oO 13 (.ext (.t 7) 1),
 oO 5 (.alloc 1 4 [.int .u64 0]),
 ⟨none, .stA 1 4 4 (.t 5) (.t 12), none⟩,
 oM 6 13])
 (.seq (.ops [
 oM 14 0,
 oO 15 (.load 4 true (.t 3)),
 oO 16 (.load 4 true (.t 5)),
 oK 17 F_field_Pow [.t 14, .t 15, .t 16],
 ⟨none, .stA 1 4 4 (.t 4) (.t 17), none⟩])
 .ret)))⟩
theorem K_field_Inv : chkFun DK Pg Try.f137 A_field_Inv = true := by kernel_rfl
theorem B_field_Inv {args : List AV} {m : Mem} {K : AV → Mem → Prop} (h : vcFun DK Pg A_field_Inv args m K) : ACall Pg F_field_Inv args m K := call_body mixed Try.func137 (by kernel_rfl) K_field_Inv h

noncomputable def A_curve_add : AFun := ⟨2, 8, [.cell 4 4 true],
 (.seq (.ops [
 oO 2 (.box 1 4 (.t 0)),
 oO 3 (.box 1 4 (.t 1)),
 oO 4 (.alloc 1 4 [.int .u64 0])])
 (.seq (.ops [
 oO 5 (.load 4 true (.t 2)),
 oO 6 (.load 4 true (.t 3)),
 oK 7 F_field_Add [.c (.int .i64 0), .t 5, .t 6],
 ⟨none, .stA 1 4 4 (.t 4) (.t 7), none⟩])
 .ret))⟩
theorem K_curve_add : chkFun DK Pg Try.f138 A_curve_add = true := by kernel_rfl
theorem B_curve_add {args : List AV} {m : Mem} {K : AV → Mem → Prop} (h : vcFun DK Pg A_curve_add args m K) : ACall Pg F_curve_add args m K := call_body mixed Try.func138 (by kernel_rfl) K_curve_add h

noncomputable def A_bits_Mul64 : AFun := ⟨2, 51, [.t 4, .t 5],
 (.seq (.ops [
 oO 4 (.mv (.c (.int .u64 0))),
 oO 5 (.mv (.c (.int .u64 0)))])
 (.seq (.ops [
 oM 14 0,
 oO 15 (.bin .and (.t 14) (.c (.int .u64 4294967295))),
 oM 6 15])
 (.seq (.ops [
 oM 16 0,
 oO 17 (.bin .shr (.t 16) (.c (.int .u64 32))),
 oM 7 17])
 (.seq (.ops [
 oM 18 1,
 oO 19 (.bin .and (.t 18) (.c (.int .u64 4294967295))),
 oM 8 19])
 (.seq (.ops [
 oM 20 1,
 oO 21 (.bin .shr (.t 20) (.c (.int .u64 32))),
 oM 9 21])
 (.seq (.ops [
 oM 22 6,
 oM 23 8,
 oO 24 (.bin .mul (.t 22) (.t 23)),
 oM 10 24])
 (.seq (.ops [
 oM 25 7,
 oM 26 8,
 oO 27 (.bin .mul (.t 25) (.t 26)),
 oM 28 10,
 oO 29 (.bin .shr (.t 28) (.c (.int .u64 32))),
 oO 30 (.bin .add (.t 27) (.t 29)),
 oM 11 30])
 (.seq (.ops [
 oM 31 11,
 oO 32 (.bin .and (.t 31) (.c (.int .u64 4294967295))),
 oM 12 32])
 (.seq (.ops [
 oM 33 11,
 oO 34 (.bin .shr (.t 33) (.c (.int .u64 32))),
 oM 13 34])
 (.seq (.ops [
 oM 35 12,
 oM 36 6,
 oM 37 9,
 oO 38 (.bin .mul (.t 36) (.t 37)),
 oO 39 (.bin .add (.t 35) (.t 38)),
 oM 12 39])
 (.seq (.ops [
 oM 40 7,
 oM 41 9,
 oO 42 (.bin .mul (.t 40) (.t 41)),
 oM 43 13,
 oO 44 (.bin .add (.t 42) (.t 43)),
 oM 45 12,
 oO 46 (.bin .shr (.t 45) (.c (.int .u64 32))),
 oO 47 (.bin .add (.t 44) (.t 46)),
 oM 4 47])
 (.seq (.ops [
 oM 48 0,
 oM 49 1,
 oO 50 (.bin .mul (.t 48) (.t 49)),
 oM 5 50])
 .ret))))))))))))⟩
theorem K_bits_Mul64 : chkFun DK Pg Try.f140 A_bits_Mul64 = true := by kernel_rfl
theorem B_bits_Mul64 {args : List AV} {m : Mem} {K : AV → Mem → Prop} (h : vcFun DK Pg A_bits_Mul64 args m K) : ACall Pg F_bits_Mul64 args m K := call_body mixed Try.func140 (by kernel_rfl) K_bits_Mul64 h

noncomputable def A_witanref01_Sub : AFun := ⟨2, 28, [.cell 4 4 true, .t 5],
 (.seq (.ops [
 oO 2 (.box 1 4 (.t 0)),
 oO 3 (.box 1 4 (.t 1)),
 oO 4 (.alloc 1 4 [.int .u64 0]),
 oO 5 (.mv (.c (.int .u64 0)))])
 (.seq (.ops [
 oO 6 (.mv (.c (.int .u64 0)))])
 (.seq (.ops [
 oO 7 (.alloc 1 4 [.int .u64 0])])
 (.seq (.seq (.ops [
 oO 8 (.mv (.c (.int .i64 0)))])
 (.block 0
 (.loop
 (.seq (.seq (.ops [
 oM 9 8,
 oO 10 (.bin .lss (.t 9) (.c (.int .i64 4)))])
 (.cond (.t 10)
 .skip
 (.exit 0)))
 (.seq (.block 1
 (.draw [
 oM 14 8,
 oM 15 8,
 oO 16 (.idxP 4 1 (.t 2) (.t 15)),
 oO 17 (.load 1 false (.t 16)),
 oM 18 8,
 oO 19 (.idxP 4 1 (.t 3) (.t 18)),
 oO 20 (.load 1 false (.t 19)),
 oM 21 6,
 oO 22 (.x64 true F_bits_Sub64 (.t 17) (.t 20) (.t 21)),
 oM 13 22,
 oO 23 (.ext (.t 13) 0),
 oO 24 (.ext (.t 13) 1),
 oO 25 (.idxP 4 1 (.t 7) (.t 14)),
 ⟨none, .stA 1 4 1 (.t 25) (.t 23), none⟩,
 oM 6 24] ⟨.all, [], .look 0 (.look 1 (.look 2 (.look 3 (.look 4 (.look 5 (.look 6 (.look 7 (.run 8 true (.look 9 (.look 10 (.look 11 (.look 12 (.run 13 false (.look 14 .done))))))))))))))⟩))
 (.ops [
 oM 11 8,
 oO 12 (.binF .add (.t 11) (.c (.int .i64 1))),
 oM 8 12]))))))
 (.seq (.ops [
 oO 26 (.load 4 true (.t 7)),
 oM 27 6,
 ⟨none, .stA 1 4 4 (.t 4) (.t 26), none⟩,
 oM 5 27])
 .ret)))))⟩
theorem K_witanref01_Sub : chkFun DK Pg Try.f142 A_witanref01_Sub = true := by kernel_rfl
theorem B_witanref01_Sub {args : List AV} {m : Mem} {K : AV → Mem → Prop} (h : vcFun DK Pg A_witanref01_Sub args m K) : ACall Pg F_witanref01_Sub args m K := call_body mixed Try.func142 (by kernel_rfl) K_witanref01_Sub h

noncomputable def A_witanref01_small : AFun := ⟨1, 7, [.cell 2 4 true],
 (.seq (.ops [
 oO 2 (.alloc 1 4 [.int .u64 0])])
 (.seq (.seq (.ops [
 oM 3 0,
 oO 4 (.bin .eql (.t 3) (.c (.int .i64 1)))])
 (.cond (.t 4)
 (.seq (.ops [
 oO 5 (.build [.int .u64 0, .int .u64 0, .int .u64 0, .int .u64 0] [(0, 1, .c (.int .u64 4624529908474429119)), (1, 1, .c (.int .u64 4994812053365940164)), (2, 1, .c (.int .u64 1)), (3, 1, .c (.int .u64 0))]),
 ⟨none, .stA 1 4 4 (.t 2) (.t 5), none⟩])
 .ret)
 .skip))
 (.seq (.ops [
 oO 6 (.build [.int .u64 0, .int .u64 0, .int .u64 0, .int .u64 0] [(0, 1, .c (.int .u64 4294968273))]),
 ⟨none, .stA 1 4 4 (.t 2) (.t 6), none⟩])
 .ret)))⟩
theorem K_witanref01_small : chkFun DK Pg Try.f143 A_witanref01_small = true := by kernel_rfl
theorem B_witanref01_small {args : List AV} {m : Mem} {K : AV → Mem → Prop} (h : vcFun DK Pg A_witanref01_small args m K) : ACall Pg F_witanref01_small args m K := call_body mixed Try.func143 (by kernel_rfl) K_witanref01_small h

noncomputable def A_witanref01_FMul : AFun := ⟨3, 23, [.cell 6 4 true],
 (.seq (.ops [
 oO 4 (.box 1 4 (.t 1)),
 oO 5 (.box 1 4 (.t 2)),
 oO 6 (.alloc 1 4 [.int .u64 0])])
 (.seq (.seq (.ops [
 oM 9 0,
 oK 10 F_witanref01_ok [.t 9],
 oO 11 (.un .not (.t 10))])
 (.cond (.t 11)
 (.seq (.ops [
 oO 12 (.build [.int .u64 0, .int .u64 0, .int .u64 0, .int .u64 0] []),
 ⟨none, .stA 1 4 4 (.t 6) (.t 12), none⟩])
 .ret)
 .skip))
 (.seq (.ops [
 oO 14 (.load 4 true (.t 4)),
 oO 15 (.load 4 true (.t 5)),
 oK 16 F_witanref01_Mul [.t 14, .t 15],
 oM 13 16,
 oO 17 (.ext (.t 13) 0),
 oO 18 (.ext (.t 13) 1),
 oO 7 (.alloc 1 4 [.int .u64 0]),
 oO 8 (.alloc 1 4 [.int .u64 0]),
 ⟨none, .stA 1 4 4 (.t 7) (.t 17), none⟩,
 ⟨none, .stA 1 4 4 (.t 8) (.t 18), none⟩])
 (.seq (.ops [
 oM 19 0,
 oO 20 (.load 4 true (.t 7)),
 oO 21 (.load 4 true (.t 8)),
 oK 22 F_witanref01_fold [.t 19, .t 20, .t 21],
 ⟨none, .stA 1 4 4 (.t 6) (.t 22), none⟩])
 .ret))))⟩
theorem K_witanref01_FMul : chkFun DK Pg Try.f144 A_witanref01_FMul = true := by kernel_rfl
theorem B_witanref01_FMul {args : List AV} {m : Mem} {K : AV → Mem → Prop} (h : vcFun DK Pg A_witanref01_FMul args m K) : ACall Pg F_witanref01_FMul args m K := call_body mixed Try.func144 (by kernel_rfl) K_witanref01_FMul h

noncomputable def A_witanref01_FAdd : AFun := ⟨3, 28, [.cell 6 4 true],
 (.seq (.ops [
 oO 4 (.box 1 4 (.t 1)),
 oO 5 (.box 1 4 (.t 2)),
 oO 6 (.alloc 1 4 [.int .u64 0])])
 (.seq (.seq (.ops [
 oM 9 0,
 oK 10 F_witanref01_ok [.t 9],
 oO 11 (.un .not (.t 10))])
 (.cond (.t 11)
 (.seq (.ops [
 oO 12 (.build [.int .u64 0, .int .u64 0, .int .u64 0, .int .u64 0] []),
 ⟨none, .stA 1 4 4 (.t 6) (.t 12), none⟩])
 .ret)
 .skip))
 (.seq (.draw [
 oM 14 0,
 oO 15 (.load 4 true (.t 4)),
 oK 16 F_witanref01_Red [.t 14, .t 15],
 oM 17 0,
 oO 18 (.load 4 true (.t 5)),
 oK 19 F_witanref01_Red [.t 17, .t 18],
 oK 20 F_witanref01_Add [.t 16, .t 19],
 oM 13 20,
 oO 21 (.ext (.t 13) 0),
 oO 22 (.ext (.t 13) 1),
 oO 7 (.alloc 1 4 [.int .u64 0]),
 oS 4 7 21,
 oM 8 22] ⟨.all, [(10, some 11)], .look 0 (.look 1 (.look 3 (.look 4 (.run 2 true (.run 5 true (.run 6 true (.look 7 (.look 8 (.pre 10 11 (.look 9 (.fill (.look 12 .done))))))))))))⟩)
 (.seq (.ops [
 oM 23 0,
 oO 24 (.load 4 true (.t 7)),
 oM 25 8,
 oO 26 (.build [.int .u64 0, .int .u64 0, .int .u64 0, .int .u64 0] [(0, 1, .t 25)]),
 oK 27 F_witanref01_fold [.t 23, .t 24, .t 26],
 ⟨none, .stA 1 4 4 (.t 6) (.t 27), none⟩])
 .ret))))⟩
theorem K_witanref01_FAdd : chkFun DK Pg Try.f145 A_witanref01_FAdd = true := by kernel_rfl
theorem B_witanref01_FAdd {args : List AV} {m : Mem} {K : AV → Mem → Prop} (h : vcFun DK Pg A_witanref01_FAdd args m K) : ACall Pg F_witanref01_FAdd args m K := call_body mixed Try.func145 (by kernel_rfl) K_witanref01_FAdd h

noncomputable def A_witanref01_FSub : AFun := ⟨3, 26, [.cell 6 4 true],
 (.seq (.ops [
 oO 4 (.box 1 4 (.t 1)),
 oO 5 (.box 1 4 (.t 2)),
 oO 6 (.alloc 1 4 [.int .u64 0])])
 (.seq (.seq (.ops [
 oM 9 0,
 oK 10 F_witanref01_ok [.t 9],
 oO 11 (.un .not (.t 10))])
 (.cond (.t 11)
 (.seq (.ops [
 oO 12 (.build [.int .u64 0, .int .u64 0, .int .u64 0, .int .u64 0] []),
 ⟨none, .stA 1 4 4 (.t 6) (.t 12), none⟩])
 .ret)
 .skip))
 (.seq (.draw [
 oM 14 0,
 oK 15 F_witanref01_Prime [.t 14],
 oM 16 0,
 oO 17 (.load 4 true (.t 5)),
 oK 18 F_witanref01_Red [.t 16, .t 17],
 oK 19 F_witanref01_Sub [.t 15, .t 18],
 oM 13 19,
 oO 20 (.ext (.t 13) 0),
 oO 21 (.ext (.t 13) 1),
 oO 7 (.alloc 1 4 [.int .u64 0]),
 oS 4 7 20,
 oM 8 21] ⟨.all, [(9, some 10)], .look 0 (.look 2 (.look 3 (.run 1 true (.run 4 true (.run 5 true (.look 6 (.look 7 (.pre 9 10 (.look 8 (.fill (.look 11 .done)))))))))))⟩)
 (.seq (.ops [
 oM 22 0,
 oO 23 (.load 4 true (.t 4)),
 oO 24 (.load 4 true (.t 7)),
 oK 25 F_witanref01_FAdd [.t 22, .t 23, .t 24],
 ⟨none, .stA 1 4 4 (.t 6) (.t 25), none⟩])
 .ret))))⟩
theorem K_witanref01_FSub : chkFun DK Pg Try.f146 A_witanref01_FSub = true := by kernel_rfl
theorem B_witanref01_FSub {args : List AV} {m : Mem} {K : AV → Mem → Prop} (h : vcFun DK Pg A_witanref01_FSub args m K) : ACall Pg F_witanref01_FSub args m K := call_body mixed Try.func146 (by kernel_rfl) K_witanref01_FSub h

noncomputable def A_witanref01_Inv : AFun := ⟨2, 18, [.cell 4 4 true],
 (.seq (.ops [
 oO 3 (.box 1 4 (.t 1)),
 oO 4 (.alloc 1 4 [.int .u64 0])])
 (.seq (.ops [
 oM 8 0,
 oK 9 F_witanref01_Prime [.t 8],
 oO 10 (.build [.int .u64 0, .int .u64 0, .int .u64 0, .int .u64 0] [(0, 1, .c (.int .u64 2))]),
 oK 11 F_witanref01_Sub [.t 9, .t 10],
 oM 7 11,
 oO 12 (.ext (.t 7) 0),
 oO 13 (.ext (.t 7) 1),
 oO 5 (.alloc 1 4 [.int .u64 0]),
 ⟨none, .stA 1 4 4 (.t 5) (.t 12), none⟩,
 oM 6 13])
 (.seq (.ops [
 oM 14 0,
 oO 15 (.load 4 true (.t 3)),
 oO 16 (.load 4 true (.t 5)),
 oK 17 F_witanref01_Pow [.t 14, .t 15, .t 16],
 ⟨none, .stA 1 4 4 (.t 4) (.t 17), none⟩])
 .ret)))⟩
theorem K_witanref01_Inv : chkFun DK Pg Try.f147 A_witanref01_Inv = true := by kernel_rfl
theorem B_witanref01_Inv {args : List AV} {m : Mem} {K : AV → Mem → Prop} (h : vcFun DK Pg A_witanref01_Inv args m K) : ACall Pg F_witanref01_Inv args m K := call_body mixed Try.func147 (by kernel_rfl) K_witanref01_Inv h

noncomputable def A_witanref01_twice : AFun := ⟨1, 92, [.cell 2 12 true],
 (.seq (.ops [
 oO 1 (.box 12 1 (.t 0)),
 oO 2 (.alloc 12 1 (List.replicate 12 (.int .u64 0)))])
 (.seq (.seq (.ops [
 oO 11 (.fldA 8 (.t 1)),
 oO 12 (.load 4 true (.t 11)),
 oO 13 (.build [.int .u64 0, .int .u64 0, .int .u64 0, .int .u64 0] []),
 oO 14 (.eqa [.i, .i, .i, .i] false (.t 12) (.t 13)),
 oM 15 14,
 oG 16 (.fldA 4 (.t 1)) 15 false,
 oG 17 (.load 4 true (.t 16)) 15 false,
 oG 18 (.build [.int .u64 0, .int .u64 0, .int .u64 0, .int .u64 0] []) 15 false,
 oG 19 (.eqa [.i, .i, .i, .i] false (.t 17) (.t 18)) 15 false,
 oO 20 (.pick (.t 15) (.c (.bool true)) (.t 19))])
 (.cond (.t 20)
 (.seq (.ops [
 oK 21 F_witanref01_Inf [],
 oK 22 F_witanref01_up [.t 21],
 ⟨none, .stA 12 1 12 (.t 2) (.t 22), none⟩])
 .ret)
 .skip))
 (.seq (.draw [
 oO 23 (.fldA 0 (.t 1)),
 oO 24 (.load 4 true (.t 23)),
 oO 25 (.fldA 0 (.t 1)),
 oO 26 (.load 4 true (.t 25)),
 oK 27 F_witanref01_mul [.t 24, .t 26],
 oO 28 (.fldA 4 (.t 1)),
 oO 29 (.load 4 true (.t 28)),
 oO 30 (.fldA 4 (.t 1)),
 oO 31 (.load 4 true (.t 30)),
 oK 32 F_witanref01_mul [.t 29, .t 31],
 oO 3 (.alloc 1 4 [.int .u64 0]),
 oO 4 (.alloc 1 4 [.int .u64 0]),
 oS 4 3 27,
 oS 4 4 32] ⟨.all, [(10, some 12), (11, some 13)], .look 0 (.look 1 (.look 2 (.look 3 (.look 5 (.look 6 (.look 7 (.look 8 (.run 4 true (.pre 10 12 (.run 9 true (.pre 11 13 (.fill .done))))))))))))⟩)
 (.seq (.ops [
 oO 33 (.load 4 true (.t 4)),
 oO 34 (.load 4 true (.t 4)),
 oK 35 F_witanref01_mul [.t 33, .t 34],
 oO 5 (.alloc 1 4 [.int .u64 0]),
 ⟨none, .stA 1 4 4 (.t 5) (.t 35), none⟩])
 (.seq (.draw [
 oO 36 (.fldA 0 (.t 1)),
 oO 37 (.load 4 true (.t 36)),
 oO 38 (.load 4 true (.t 4)),
 oK 39 F_witanref01_add [.t 37, .t 38],
 oO 40 (.fldA 0 (.t 1)),
 oO 41 (.load 4 true (.t 40)),
 oO 42 (.load 4 true (.t 4)),
 oK 43 F_witanref01_add [.t 41, .t 42],
 oK 44 F_witanref01_mul [.t 39, .t 43],
 oO 6 (.alloc 1 4 [.int .u64 0]),
 oS 4 6 44] ⟨.all, [(9, some 10)], .look 0 (.look 1 (.look 2 (.look 4 (.look 5 (.look 6 (.run 3 true (.run 7 true (.run 8 true (.pre 9 10 (.fill .done))))))))))⟩)
 (.seq (.draw [
 oO 45 (.load 4 true (.t 6)),
 oO 46 (.load 4 true (.t 3)),
 oK 47 F_witanref01_sub [.t 45, .t 46],
 oO 48 (.load 4 true (.t 5)),
 oK 49 F_witanref01_sub [.t 47, .t 48],
 ⟨none, .stA 1 4 4 (.t 6) (.t 49), none⟩] ⟨.all, [], .look 0 (.look 1 (.look 3 (.run 2 true (.run 4 false (.run 5 false .done)))))⟩)
 (.seq (.ops [
 oO 50 (.load 4 true (.t 6)),
 oO 51 (.load 4 true (.t 6)),
 oK 52 F_witanref01_add [.t 50, .t 51],
 ⟨none, .stA 1 4 4 (.t 6) (.t 52), none⟩])
 (.seq (.draw [
 oO 53 (.load 4 true (.t 3)),
 oO 54 (.load 4 true (.t 3)),
 oK 55 F_witanref01_add [.t 53, .t 54],
 oO 56 (.load 4 true (.t 3)),
 oK 57 F_witanref01_add [.t 55, .t 56],
 oO 7 (.alloc 1 4 [.int .u64 0]),
 oS 4 7 57] ⟨.all, [(5, some 6)], .look 0 (.look 1 (.look 3 (.run 2 true (.run 4 true (.pre 5 6 (.fill .done))))))⟩)
 (.seq (.draw [
 oO 58 (.load 4 true (.t 7)),
 oO 59 (.load 4 true (.t 7)),
 oK 60 F_witanref01_mul [.t 58, .t 59],
 oO 61 (.load 4 true (.t 6)),
 oO 62 (.load 4 true (.t 6)),
 oK 63 F_witanref01_add [.t 61, .t 62],
 oK 64 F_witanref01_sub [.t 60, .t 63],
 oO 8 (.alloc 1 4 [.int .u64 0]),
 oS 4 8 64] ⟨.all, [(7, some 8)], .look 0 (.look 1 (.look 3 (.look 4 (.run 2 true (.run 5 true (.run 6 true (.pre 7 8 (.fill .done))))))))⟩)
 (.seq (.ops [
 oO 65 (.load 4 true (.t 5)),
 oO 66 (.load 4 true (.t 5)),
 oK 67 F_witanref01_add [.t 65, .t 66],
 ⟨none, .stA 1 4 4 (.t 5) (.t 67), none⟩])
 (.seq (.ops [
 oO 68 (.load 4 true (.t 5)),
 oO 69 (.load 4 true (.t 5)),
 oK 70 F_witanref01_add [.t 68, .t 69],
 ⟨none, .stA 1 4 4 (.t 5) (.t 70), none⟩])
 (.seq (.ops [
 oO 71 (.load 4 true (.t 5)),
 oO 72 (.load 4 true (.t 5)),
 oK 73 F_witanref01_add [.t 71, .t 72],
 ⟨none, .stA 1 4 4 (.t 5) (.t 73), none⟩])
 (.seq (.draw [
 oO 74 (.load 4 true (.t 7)),
 oO 75 (.load 4 true (.t 6)),
 oO 76 (.load 4 true (.t 8)),
 oK 77 F_witanref01_sub [.t 75, .t 76],
 oK 78 F_witanref01_mul [.t 74, .t 77],
 oO 79 (.load 4 true (.t 5)),
 oK 80 F_witanref01_sub [.t 78, .t 79],
 oO 9 (.alloc 1 4 [.int .u64 0]),
 oS 4 9 80] ⟨.all, [(7, some 8)], .look 0 (.look 1 (.look 2 (.look 5 (.run 3 true (.run 4 true (.run 6 true (.pre 7 8 (.fill .done))))))))⟩)
 (.seq (.ops [
 oO 81 (.fldA 4 (.t 1)),
 oO 82 (.load 4 true (.t 81)),
 oO 83 (.fldA 8 (.t 1)),
 oO 84 (.load 4 true (.t 83)),
 oK 85 F_witanref01_mul [.t 82, .t 84],
 oO 10 (.alloc 1 4 [.int .u64 0]),
 ⟨none, .stA 1 4 4 (.t 10) (.t 85), none⟩])
 (.seq (.draw [
 oO 86 (.load 4 true (.t 8)),
 oO 87 (.load 4 true (.t 9)),
 oO 88 (.load 4 true (.t 10)),
 oO 89 (.load 4 true (.t 10)),
 oK 90 F_witanref01_add [.t 88, .t 89],
 oO 91 (.build (List.replicate 12 (.int .u64 0)) [(0, 4, .t 86), (4, 4, .t 87), (8, 4, .t 90)]),
 ⟨none, .stA 12 1 12 (.t 2) (.t 91), none⟩] ⟨.all, [], .look 0 (.look 1 (.look 2 (.look 3 (.run 4 true (.look 5 (.run 6 false .done))))))⟩)
 .ret)))))))))))))))⟩
theorem K_witanref01_twice : chkFun DK Pg Try.f148 A_witanref01_twice = true := by kernel_rfl
theorem B_witanref01_twice {args : List AV} {m : Mem} {K : AV → Mem → Prop} (h : vcFun DK Pg A_witanref01_twice args m K) : ACall Pg F_witanref01_twice args m K := call_body mixed Try.func148 (by kernel_rfl) K_witanref01_twice h

noncomputable def A_witanref01_Bit : AFun := ⟨2, 21, [.t 4],
 (.seq (.ops [
 oO 2 (.box 1 4 (.t 0)),
 oO 4 (.mv (.c (.int .i64 0)))])
 (.seq (.seq (.ops [
 oM 5 1,
 oO 6 (.bin .lss (.t 5) (.c (.int .i64 0))),
 oM 7 6,
 oG 8 (.mv (.t 1)) 7 false,
 oG 9 (.bin .gtr (.t 8) (.c (.int .i64 255))) 7 false,
 oO 10 (.pick (.t 7) (.c (.bool true)) (.t 9))])
 (.cond (.t 10)
 (.seq (.ops [
 oO 4 (.mv (.c (.int .i64 0)))])
 .ret)
 .skip))
 (.seq (.ops [
 oM 11 1,
 oO 12 (.bin .quo (.t 11) (.c (.int .i64 64))),
 oO 13 (.idxP 4 1 (.t 2) (.t 12)),
 oO 14 (.load 1 false (.t 13)),
 oM 15 1,
 oO 16 (.bin .rem (.t 15) (.c (.int .i64 64))),
 oO 17 (.conv .u64 (.t 16)),
 oO 18 (.bin .shr (.t 14) (.t 17)),
 oO 19 (.bin .and (.t 18) (.c (.int .u64 1))),
 oO 20 (.conv .i64 (.t 19)),
 oM 4 20])
 .ret)))⟩
theorem K_witanref01_Bit : chkFun DK Pg Try.f149 A_witanref01_Bit = true := by kernel_rfl
theorem B_witanref01_Bit {args : List AV} {m : Mem} {K : AV → Mem → Prop} (h : vcFun DK Pg A_witanref01_Bit args m K) : ACall Pg F_witanref01_Bit args m K := call_body mixed Try.func149 (by kernel_rfl) K_witanref01_Bit h

noncomputable def A_witanref01_ok : AFun := ⟨1, 9, [.t 2],
 (.seq (.ops [
 oO 2 (.mv (.c (.bool false)))])
 (.seq (.ops [
 oM 3 0,
 oO 4 (.bin .eql (.t 3) (.c (.int .i64 0))),
 oM 5 4,
 oG 6 (.mv (.t 0)) 5 false,
 oG 7 (.bin .eql (.t 6) (.c (.int .i64 1))) 5 false,
 oO 8 (.pick (.t 5) (.c (.bool true)) (.t 7)),
 oM 2 8])
 .ret))⟩
theorem K_witanref01_ok : chkFun DK Pg Try.f150 A_witanref01_ok = true := by kernel_rfl
theorem B_witanref01_ok {args : List AV} {m : Mem} {K : AV → Mem → Prop} (h : vcFun DK Pg A_witanref01_ok args m K) : ACall Pg F_witanref01_ok args m K := call_body mixed Try.func150 (by kernel_rfl) K_witanref01_ok h

noncomputable def A_witanref01_fold : AFun := ⟨3, 48, [.cell 6 4 true],
 (.seq (.ops [
 oO 4 (.box 1 4 (.t 1)),
 oO 5 (.box 1 4 (.t 2)),
 oO 6 (.alloc 1 4 [.int .u64 0])])
 (.seq (.block 0
 (.loop
 (.seq (.seq (.ops [
 oO 11 (.load 4 true (.t 5)),
 oO 12 (.build [.int .u64 0, .int .u64 0, .int .u64 0, .int .u64 0] []),
 oO 13 (.eqa [.i, .i, .i, .i] true (.t 11) (.t 12))])
 (.cond (.t 13)
 .skip
 (.exit 0)))
 (.block 1
 (.seq (.draw [
 oO 15 (.load 4 true (.t 5)),
 oM 16 0,
 oK 17 F_witanref01_small [.t 16],
 oK 18 F_witanref01_Mul [.t 15, .t 17],
 oM 14 18,
 oO 19 (.ext (.t 14) 0),
 oO 20 (.ext (.t 14) 1),
 oO 7 (.alloc 1 4 [.int .u64 0]),
 oO 8 (.alloc 1 4 [.int .u64 0]),
 oS 4 7 19,
 oS 4 8 20] ⟨.all, [(7, some 9), (8, some 10)], .look 0 (.look 1 (.run 2 true (.run 3 true (.look 4 (.look 5 (.pre 7 9 (.look 6 (.pre 8 10 (.fill .done)))))))))⟩)
 (.seq (.ops [
 oO 22 (.load 4 true (.t 4)),
 oO 23 (.load 4 true (.t 7)),
 oK 24 F_witanref01_Add [.t 22, .t 23],
 oM 21 24,
 oO 25 (.ext (.t 21) 0),
 oO 26 (.ext (.t 21) 1),
 oO 9 (.alloc 1 4 [.int .u64 0]),
 ⟨none, .stA 1 4 4 (.t 9) (.t 25), none⟩,
 oM 10 26])
 (.seq (.ops [
 oO 27 (.load 4 true (.t 9)),
 ⟨none, .stA 1 4 4 (.t 4) (.t 27), none⟩])
 (.ops [
 oO 29 (.load 4 true (.t 8)),
 oM 30 10,
 oO 31 (.build [.int .u64 0, .int .u64 0, .int .u64 0, .int .u64 0] [(0, 1, .t 30)]),
 oK 32 F_witanref01_Add [.t 29, .t 31],
 oM 28 32,
 oO 33 (.ext (.t 28) 0),
 oO 34 (.ext (.t 28) 1),
 ⟨none, .stA 1 4 4 (.t 5) (.t 33), none⟩]))))))))
 (.seq (.seq (.draw [
 oO 35 (.load 4 true (.t 4)),
 oM 36 0,
 oK 37 F_witanref01_Prime [.t 36],
 oK 38 F_witanref01_Cmp [.t 35, .t 37],
 oO 39 (.bin .geq (.t 38) (.c (.int .i64 0)))] ⟨.all, [], .look 0 (.look 1 (.run 2 true (.run 3 true (.look 4 .done))))⟩)
 (.cond (.t 39)
 (.draw [
 oO 41 (.load 4 true (.t 4)),
 oM 42 0,
 oK 43 F_witanref01_Prime [.t 42],
 oK 44 F_witanref01_Sub [.t 41, .t 43],
 oM 40 44,
 oO 45 (.ext (.t 40) 0),
 oO 46 (.ext (.t 40) 1),
 ⟨none, .stA 1 4 4 (.t 4) (.t 45), none⟩] ⟨.all, [], .look 0 (.look 1 (.run 2 true (.run 3 false (.look 4 (.look 5 (.look 6 (.run 7 false .done)))))))⟩)
 .skip))
 (.seq (.ops [
 oO 47 (.load 4 true (.t 4)),
 ⟨none, .stA 1 4 4 (.t 6) (.t 47), none⟩])
 .ret))))⟩
theorem K_witanref01_fold : chkFun DK Pg Try.f151 A_witanref01_fold = true := by kernel_rfl
theorem B_witanref01_fold {args : List AV} {m : Mem} {K : AV → Mem → Prop} (h : vcFun DK Pg A_witanref01_fold args m K) : ACall Pg F_witanref01_fold args m K := call_body mixed Try.func151 (by kernel_rfl) K_witanref01_fold h

noncomputable def A_limb_Of : AFun := ⟨1, 28, [.cell 2 4 true],
 (.seq (.ops [
 oO 1 (.box 1 32 (.t 0)),
 oO 2 (.alloc 1 4 [.int .u64 0])])
 (.seq (.ops [
 oO 3 (.alloc 1 4 [.int .u64 0])])
 (.seq (.seq (.ops [
 oO 7 (.load 32 true (.t 1)),
 oO 8 (.mv (.c (.int .i64 0)))])
 (.block 0
 (.loop
 (.seq (.ops [
 oO 9 (.bin .lss (.t 8) (.c (.int .i64 32)))])
 (.seq (.cond (.t 9)
 .skip
 (.exit 0))
 (.seq (.block 1
 (.seq (.ops [
 oM 10 8,
 oO 11 (.idx 32 1 false (.t 7) (.t 8)),
 oM 4 10,
 oM 5 11])
 (.seq (.ops [
 oM 12 4,
 oO 13 (.binF .sub (.c (.int .i64 31)) (.t 12)),
 oM 6 13])
 (.draw [
 oM 14 6,
 oO 15 (.bin .quo (.t 14) (.c (.int .i64 8))),
 oO 16 (.idxP 4 1 (.t 3) (.t 15)),
 oO 17 (.load 1 false (.t 16)),
 oM 18 5,
 oO 19 (.conv .u64 (.t 18)),
 oM 20 6,
 oO 21 (.bin .rem (.t 20) (.c (.int .i64 8))),
 oO 22 (.binF .mul (.c (.int .i64 8)) (.t 21)),
 oO 23 (.bin .shl (.t 19) (.t 22)),
 oO 24 (.bin .or (.t 17) (.t 23)),
 oO 25 (.idxP 4 1 (.t 3) (.t 15)),
 ⟨none, .stA 1 4 1 (.t 25) (.t 24), none⟩] ⟨.all, [], .look 0 (.look 1 (.look 2 (.look 3 (.look 4 (.look 5 (.look 6 (.look 7 (.look 8 (.look 9 (.look 10 (.look 11 (.run 12 false .done))))))))))))⟩))))
 (.ops [
 oO 26 (.binF .add (.t 8) (.c (.int .i64 1))),
 oM 8 26])))))))
 (.seq (.ops [
 oO 27 (.load 4 true (.t 3)),
 ⟨none, .stA 1 4 4 (.t 2) (.t 27), none⟩])
 .ret))))⟩
theorem K_limb_Of : chkFun DK Pg Try.f152 A_limb_Of = true := by kernel_rfl
theorem B_limb_Of {args : List AV} {m : Mem} {K : AV → Mem → Prop} (h : vcFun DK Pg A_limb_Of args m K) : ACall Pg F_limb_Of args m K := call_body mixed Try.func152 (by kernel_rfl) K_limb_Of h

noncomputable def A_witanref01_Add : AFun := ⟨2, 28, [.cell 4 4 true, .t 5],
 (.seq (.ops [
 oO 2 (.box 1 4 (.t 0)),
 oO 3 (.box 1 4 (.t 1)),
 oO 4 (.alloc 1 4 [.int .u64 0]),
 oO 5 (.mv (.c (.int .u64 0)))])
 (.seq (.ops [
 oO 6 (.mv (.c (.int .u64 0)))])
 (.seq (.ops [
 oO 7 (.alloc 1 4 [.int .u64 0])])
 (.seq (.seq (.ops [
 oO 8 (.mv (.c (.int .i64 0)))])
 (.block 0
 (.loop
 (.seq (.seq (.ops [
 oM 9 8,
 oO 10 (.bin .lss (.t 9) (.c (.int .i64 4)))])
 (.cond (.t 10)
 .skip
 (.exit 0)))
 (.seq (.block 1
 (.draw [
 oM 14 8,
 oM 15 8,
 oO 16 (.idxP 4 1 (.t 2) (.t 15)),
 oO 17 (.load 1 false (.t 16)),
 oM 18 8,
 oO 19 (.idxP 4 1 (.t 3) (.t 18)),
 oO 20 (.load 1 false (.t 19)),
 oM 21 6,
 oO 22 (.x64 false F_bits_Add64 (.t 17) (.t 20) (.t 21)),
 oM 13 22,
 oO 23 (.ext (.t 13) 0),
 oO 24 (.ext (.t 13) 1),
 oO 25 (.idxP 4 1 (.t 7) (.t 14)),
 ⟨none, .stA 1 4 1 (.t 25) (.t 23), none⟩,
 oM 6 24] ⟨.all, [], .look 0 (.look 1 (.look 2 (.look 3 (.look 4 (.look 5 (.look 6 (.look 7 (.run 8 true (.look 9 (.look 10 (.look 11 (.look 12 (.run 13 false (.look 14 .done))))))))))))))⟩))
 (.ops [
 oM 11 8,
 oO 12 (.binF .add (.t 11) (.c (.int .i64 1))),
 oM 8 12]))))))
 (.seq (.ops [
 oO 26 (.load 4 true (.t 7)),
 oM 27 6,
 ⟨none, .stA 1 4 4 (.t 4) (.t 26), none⟩,
 oM 5 27])
 .ret)))))⟩
theorem K_witanref01_Add : chkFun DK Pg Try.f153 A_witanref01_Add = true := by kernel_rfl
theorem B_witanref01_Add {args : List AV} {m : Mem} {K : AV → Mem → Prop} (h : vcFun DK Pg A_witanref01_Add args m K) : ACall Pg F_witanref01_Add args m K := call_body mixed Try.func153 (by kernel_rfl) K_witanref01_Add h

noncomputable def A_witanref01_Pow : AFun := ⟨3, 31, [.cell 6 4 true],
 (.seq (.ops [
 oO 4 (.box 1 4 (.t 1)),
 oO 5 (.box 1 4 (.t 2)),
 oO 6 (.alloc 1 4 [.int .u64 0])])
 (.seq (.seq (.ops [
 oM 9 0,
 oK 10 F_witanref01_ok [.t 9],
 oO 11 (.un .not (.t 10))])
 (.cond (.t 11)
 (.seq (.ops [
 oO 12 (.build [.int .u64 0, .int .u64 0, .int .u64 0, .int .u64 0] []),
 ⟨none, .stA 1 4 4 (.t 6) (.t 12), none⟩])
 .ret)
 .skip))
 (.seq (.ops [
 oO 13 (.build [.int .u64 0, .int .u64 0, .int .u64 0, .int .u64 0] [(0, 1, .c (.int .u64 1))]),
 oO 7 (.alloc 1 4 [.int .u64 0]),
 ⟨none, .stA 1 4 4 (.t 7) (.t 13), none⟩])
 (.seq (.seq (.ops [
 oO 8 (.mv (.c (.int .i64 255)))])
 (.block 0
 (.loop
 (.seq (.seq (.ops [
 oM 14 8,
 oO 15 (.bin .geq (.t 14) (.c (.int .i64 0)))])
 (.cond (.t 15)
 .skip
 (.exit 0)))
 (.seq (.block 1
 (.seq (.ops [
 oM 18 0,
 oO 19 (.load 4 true (.t 7)),
 oO 20 (.load 4 true (.t 7)),
 oK 21 F_witanref01_FMul [.t 18, .t 19, .t 20],
 ⟨none, .stA 1 4 4 (.t 7) (.t 21), none⟩])
 (.seq (.ops [
 oO 22 (.load 4 true (.t 5)),
 oM 23 8,
 oK 24 F_witanref01_Bit [.t 22, .t 23],
 oO 25 (.bin .eql (.t 24) (.c (.int .i64 1)))])
 (.cond (.t 25)
 (.ops [
 oM 26 0,
 oO 27 (.load 4 true (.t 7)),
 oO 28 (.load 4 true (.t 4)),
 oK 29 F_witanref01_FMul [.t 26, .t 27, .t 28],
 ⟨none, .stA 1 4 4 (.t 7) (.t 29), none⟩])
 .skip))))
 (.ops [
 oM 16 8,
 oO 17 (.bin .sub (.t 16) (.c (.int .i64 1))),
 oM 8 17]))))))
 (.seq (.ops [
 oO 30 (.load 4 true (.t 7)),
 ⟨none, .stA 1 4 4 (.t 6) (.t 30), none⟩])
 .ret)))))⟩
theorem K_witanref01_Pow : chkFun DK Pg Try.f154 A_witanref01_Pow = true := by kernel_rfl
theorem B_witanref01_Pow {args : List AV} {m : Mem} {K : AV → Mem → Prop} (h : vcFun DK Pg A_witanref01_Pow args m K) : ACall Pg F_witanref01_Pow args m K := call_body mixed Try.func154 (by kernel_rfl) K_witanref01_Pow h

noncomputable def A_bits_Len64 : AFun := ⟨1, 25, [.t 2],
 (.seq (.ops [
 oO 2 (.mv (.c (.int .i64 0)))])
 (.seq (.seq (.ops [
 oM 3 0,
 oO 4 (.bin .geq (.t 3) (.c (.int .u64 4294967296)))])
 (.cond (.t 4)
 (.seq (.ops [
 oM 5 0,
 oO 6 (.bin .shr (.t 5) (.c (.int .u64 32))),
 oM 0 6])
 (.ops [
 oO 2 (.mv (.c (.int .i64 32)))]))
 .skip))
 (.seq (.seq (.ops [
 oM 7 0,
 oO 8 (.bin .geq (.t 7) (.c (.int .u64 65536)))])
 (.cond (.t 8)
 (.seq (.ops [
 oM 9 0,
 oO 10 (.bin .shr (.t 9) (.c (.int .u64 16))),
 oM 0 10])
 (.ops [
 oM 11 2,
 oO 12 (.bin .add (.t 11) (.c (.int .i64 16))),
 oM 2 12]))
 .skip))
 (.seq (.seq (.ops [
 oM 13 0,
 oO 14 (.bin .geq (.t 13) (.c (.int .u64 256)))])
 (.cond (.t 14)
 (.seq (.ops [
 oM 15 0,
 oO 16 (.bin .shr (.t 15) (.c (.int .u64 8))),
 oM 0 16])
 (.ops [
 oM 17 2,
 oO 18 (.bin .add (.t 17) (.c (.int .i64 8))),
 oM 2 18]))
 .skip))
 (.seq (.ops [
 oM 19 2,
 oM 20 0,
 oO 21 (.conv .u8 (.t 20)),
 ⟨some 22, .idxs (.c (.str ⟨#[0, 1, 2, 2, 3, 3, 3, 3, 4, 4, 4, 4, 4, 4, 4, 4, 5, 5, 5, 5, 5, 5, 5, 5, 5, 5, 5, 5, 5, 5, 5, 5, 6, 6, 6, 6, 6, 6, 6, 6, 6, 6, 6, 6, 6, 6, 6, 6, 6, 6, 6, 6, 6, 6, 6, 6, 6, 6, 6, 6, 6, 6, 6, 6, 7, 7, 7, 7, 7, 7, 7, 7, 7, 7, 7, 7, 7, 7, 7, 7, 7, 7, 7, 7, 7, 7, 7, 7, 7, 7, 7, 7, 7, 7, 7, 7, 7, 7, 7, 7, 7, 7, 7, 7, 7, 7, 7, 7, 7, 7, 7, 7, 7, 7, 7, 7, 7, 7, 7, 7, 7, 7, 7, 7, 7, 7, 7, 7, 8, 8, 8, 8, 8, 8, 8, 8, 8, 8, 8, 8, 8, 8, 8, 8, 8, 8, 8, 8, 8, 8, 8, 8, 8, 8, 8, 8, 8, 8, 8, 8, 8, 8, 8, 8, 8, 8, 8, 8, 8, 8, 8, 8, 8, 8, 8, 8, 8, 8, 8, 8, 8, 8, 8, 8, 8, 8, 8, 8, 8, 8, 8, 8, 8, 8, 8, 8, 8, 8, 8, 8, 8, 8, 8, 8, 8, 8, 8, 8, 8, 8, 8, 8, 8, 8, 8, 8, 8, 8, 8, 8, 8, 8, 8, 8, 8, 8, 8, 8, 8, 8, 8, 8, 8, 8, 8, 8, 8, 8, 8, 8, 8, 8, 8, 8, 8, 8, 8, 8, 8, 8, 8, 8, 8, 8, 8, 8]⟩)) (.t 21), none⟩,
 oO 23 (.conv .i64 (.t 22)),
 oO 24 (.bin .add (.t 19) (.t 23)),
 oM 2 24])
 .ret)))))⟩
theorem K_bits_Len64 : chkFun DK Pg Try.f155 A_bits_Len64 = true := by kernel_rfl
theorem B_bits_Len64 {args : List AV} {m : Mem} {K : AV → Mem → Prop} (h : vcFun DK Pg A_bits_Len64 args m K) : ACall Pg F_bits_Len64 args m K := call_body mixed Try.func155 (by kernel_rfl) K_bits_Len64 h

noncomputable def A_witanref01_Mul : AFun := ⟨2, 81, [.cell 4 4 true, .cell 5 4 true],
 (.seq (.ops [
 oO 2 (.box 1 4 (.t 0)),
 oO 3 (.box 1 4 (.t 1)),
 oO 4 (.alloc 1 4 [.int .u64 0]),
 oO 5 (.alloc 1 4 [.int .u64 0])])
 (.seq (.ops [
 oO 6 (.alloc 1 8 [.int .u64 0])])
 (.seq (.seq (.ops [
 oO 7 (.mv (.c (.int .i64 0)))])
 (.block 0
 (.loop
 (.seq (.seq (.ops [
 oM 13 7,
 oO 14 (.bin .lss (.t 13) (.c (.int .i64 4)))])
 (.cond (.t 14)
 .skip
 (.exit 0)))
 (.seq (.block 1
 (.seq (.ops [
 oO 8 (.mv (.c (.int .u64 0)))])
 (.seq (.seq (.ops [
 oO 9 (.mv (.c (.int .i64 0)))])
 (.block 2
 (.loop
 (.seq (.seq (.ops [
 oM 17 9,
 oO 18 (.bin .lss (.t 17) (.c (.int .i64 4)))])
 (.cond (.t 18)
 .skip
 (.exit 2)))
 (.seq (.block 3
 (.seq (.draw [
 oM 22 7,
 oO 23 (.idxP 4 1 (.t 2) (.t 22)),
 oO 24 (.load 1 false (.t 23)),
 oM 25 9,
 oO 26 (.idxP 4 1 (.t 3) (.t 25)),
 oO 27 (.load 1 false (.t 26)),
 oK 28 F_bits_Mul64 [.t 24, .t 27],
 oM 21 28,
 oO 29 (.ext (.t 21) 0),
 oO 30 (.ext (.t 21) 1),
 oM 10 29,
 oM 11 30] ⟨.all, [], .look 0 (.look 1 (.look 2 (.look 3 (.look 4 (.look 5 (.run 6 false (.look 7 (.look 8 (.look 9 (.look 10 (.look 11 .done)))))))))))⟩)
 (.seq (.ops [
 oM 32 11,
 oM 33 7,
 oM 34 9,
 oO 35 (.binF .add (.t 33) (.t 34)),
 oO 36 (.idxP 8 1 (.t 6) (.t 35)),
 oO 37 (.load 1 false (.t 36)),
 oO 38 (.x64 false F_bits_Add64 (.t 32) (.t 37) (.c (.int .u64 0))),
 oM 31 38,
 oO 39 (.ext (.t 31) 0),
 oO 40 (.ext (.t 31) 1),
 oM 11 39,
 oM 12 40])
 (.seq (.ops [
 oM 41 10,
 oM 42 12,
 oO 43 (.bin .add (.t 41) (.t 42)),
 oM 10 43])
 (.seq (.ops [
 oM 45 11,
 oM 46 8,
 oO 47 (.x64 false F_bits_Add64 (.t 45) (.t 46) (.c (.int .u64 0))),
 oM 44 47,
 oO 48 (.ext (.t 44) 0),
 oO 49 (.ext (.t 44) 1),
 oM 11 48,
 oM 12 49])
 (.seq (.ops [
 oM 50 10,
 oM 51 12,
 oO 52 (.bin .add (.t 50) (.t 51)),
 oM 10 52])
 (.ops [
 oM 53 7,
 oM 54 9,
 oO 55 (.binF .add (.t 53) (.t 54)),
 oM 56 11,
 oM 57 10,
 oO 58 (.idxP 8 1 (.t 6) (.t 55)),
 ⟨none, .stA 1 8 1 (.t 58) (.t 56), none⟩,
 oM 8 57])))))))
 (.ops [
 oM 19 9,
 oO 20 (.binF .add (.t 19) (.c (.int .i64 1))),
 oM 9 20]))))))
 (.ops [
 oM 59 7,
 oO 60 (.binF .add (.t 59) (.c (.int .i64 4))),
 oM 61 8,
 oO 62 (.idxP 8 1 (.t 6) (.t 60)),
 ⟨none, .stA 1 8 1 (.t 62) (.t 61), none⟩]))))
 (.ops [
 oM 15 7,
 oO 16 (.binF .add (.t 15) (.c (.int .i64 1))),
 oM 7 16]))))))
 (.seq (.draw [
 oO 63 (.idxP 8 1 (.t 6) (.c (.int .i64 0))),
 oO 64 (.load 1 false (.t 63)),
 oO 65 (.idxP 8 1 (.t 6) (.c (.int .i64 1))),
 oO 66 (.load 1 false (.t 65)),
 oO 67 (.idxP 8 1 (.t 6) (.c (.int .i64 2))),
 oO 68 (.load 1 false (.t 67)),
 oO 69 (.idxP 8 1 (.t 6) (.c (.int .i64 3))),
 oO 70 (.load 1 false (.t 69)),
 oO 71 (.build [.int .u64 0, .int .u64 0, .int .u64 0, .int .u64 0] [(0, 1, .t 64), (1, 1, .t 66), (2, 1, .t 68), (3, 1, .t 70)]),
 oO 72 (.idxP 8 1 (.t 6) (.c (.int .i64 4))),
 oO 73 (.load 1 false (.t 72)),
 oO 74 (.idxP 8 1 (.t 6) (.c (.int .i64 5))),
 oO 75 (.load 1 false (.t 74)),
 oO 76 (.idxP 8 1 (.t 6) (.c (.int .i64 6))),
 oO 77 (.load 1 false (.t 76)),
 oO 78 (.idxP 8 1 (.t 6) (.c (.int .i64 7))),
 oO 79 (.load 1 false (.t 78)),
 oO 80 (.build [.int .u64 0, .int .u64 0, .int .u64 0, .int .u64 0] [(0, 1, .t 73), (1, 1, .t 75), (2, 1, .t 77), (3, 1, .t 79)]),
 ⟨none, .stA 1 4 4 (.t 4) (.t 71), none⟩,
 ⟨none, .stA 1 4 4 (.t 5) (.t 80), none⟩] ⟨(.but [4]), [], .look 0 (.look 1 (.look 2 (.look 3 (.look 4 (.look 5 (.look 6 (.look 7 (.look 8 (.look 9 (.look 10 (.look 11 (.look 12 (.look 13 (.look 14 (.look 15 (.look 16 (.look 17 (.run 18 true (.run 19 false .done)))))))))))))))))))⟩)
 .ret))))⟩
theorem K_witanref01_Mul : chkFun DK Pg Try.f156 A_witanref01_Mul = true := by kernel_rfl
theorem B_witanref01_Mul {args : List AV} {m : Mem} {K : AV → Mem → Prop} (h : vcFun DK Pg A_witanref01_Mul args m K) : ACall Pg F_witanref01_Mul args m K := call_body mixed Try.func156 (by kernel_rfl) K_witanref01_Mul h

end Go.Proofs.Ytmngdaeogbjpiaa
end

section
/- What the small calls make; no condition. -/
set_option linter.unusedVariables false
set_option maxRecDepth 100000
set_option pp.maxSteps 300
set_option linter.unusedSimpArgs false
namespace Go.Proofs.Ytmngdaeogbjpiaa
open Go Go.Wit

theorem w64 {n : Int} (h0 : -9223372036854775808 ≤ n) (h1 : n ≤ 9223372036854775807) : IntKind.i64.wrap n = n := by rw [IntKind.wrap_i64]; omega

theorem wu64 (n : Int) : IntKind.u64.wrap n = n % 18446744073709551616 := by simp [IntKind.wrap, IntKind.bits, IntKind.signed]

end Go.Proofs.Ytmngdaeogbjpiaa
end

section
/- Numbers of four words: how they are told; sums, differences, comparison; no condition. -/
set_option linter.unusedVariables false
set_option linter.unusedSimpArgs false
set_option maxRecDepth 100000
set_option pp.maxSteps 300
namespace Go.Proofs.Ytmngdaeogbjpiaa
open Go Go.Wit

def lim (n i : Nat) : Int := ((n / 18446744073709551616 ^ i % 18446744073709551616 : Nat) : Int)
def u4 (a b c d : Nat) : List AV := [.int .u64 a, .int .u64 b, .int .u64 c, .int .u64 d]
def numL (n : Nat) : List AV := [.int .u64 (lim n 0), .int .u64 (lim n 1), .int .u64 (lim n 2), .int .u64 (lim n 3)]
def numA (n : Nat) : AV := .agg (numL n)
def comb (a b c d : Nat) : Nat := a + 18446744073709551616 * b + 340282366920938463463374607431768211456 * c + 6277101735386680763835789423207666416102355444464034512896 * d
abbrev w256 : Nat := 115792089237316195423570985008687907853269984665640564039457584007913129639936

theorem comb_of {n : Nat} (h : n < w256) : ∃ a b c d, n = comb a b c d ∧ a < 18446744073709551616 ∧ b < 18446744073709551616 ∧ c < 18446744073709551616 ∧ d < 18446744073709551616 := by
  refine ⟨n % 18446744073709551616, n / 18446744073709551616 % 18446744073709551616, n / 340282366920938463463374607431768211456 % 18446744073709551616, n / 6277101735386680763835789423207666416102355444464034512896, ?_, ?_, ?_, ?_, ?_⟩ <;> (try unfold comb) <;> (try simp only [w256] at h) <;> omega

theorem lim_comb {a b c d : Nat} (ha : a < 18446744073709551616) (hb : b < 18446744073709551616) (hc : c < 18446744073709551616) (hd : d < 18446744073709551616) :
    lim (comb a b c d) 0 = a ∧ lim (comb a b c d) 1 = b ∧ lim (comb a b c d) 2 = c ∧ lim (comb a b c d) 3 = d := by
  unfold lim comb
  simp only [Nat.pow_zero, Nat.pow_succ, Nat.one_mul, Nat.div_one]
  refine ⟨?_, ?_, ?_, ?_⟩ <;> omega

theorem numL_comb {a b c d : Nat} (ha : a < 18446744073709551616) (hb : b < 18446744073709551616) (hc : c < 18446744073709551616) (hd : d < 18446744073709551616) : numL (comb a b c d) = u4 a b c d := by
  obtain ⟨h1, h2, h3, h4⟩ := lim_comb ha hb hc hd
  unfold numL u4
  rw [h1, h2, h3, h4]

theorem comb_lt {a b c d : Nat} (ha : a < 18446744073709551616) (hb : b < 18446744073709551616) (hc : c < 18446744073709551616) (hd : d < 18446744073709551616) : comb a b c d < w256 := by
  unfold comb
  simp only [w256]
  omega

theorem flat_numA {nv : Bool} {n : Nat} : Flat nv (numA n) := .agg _ (.cons _ _ (.int _ _) (.cons _ _ (.int _ _) (.cons _ _ (.int _ _) (.cons _ _ (.int _ _) .nil))))
theorem flat_u4 {nv : Bool} {a b c d : Nat} : Flat nv (.agg (u4 a b c d)) := .agg _ (.cons _ _ (.int _ _) (.cons _ _ (.int _ _) (.cons _ _ (.int _ _) (.cons _ _ (.int _ _) .nil))))

theorem numA_eq {s0 s1 s2 s3 : Int} {n : Nat} (h0 : 0 ≤ s0 ∧ s0 < 18446744073709551616) (h1 : 0 ≤ s1 ∧ s1 < 18446744073709551616) (h2 : 0 ≤ s2 ∧ s2 < 18446744073709551616) (h3 : 0 ≤ s3 ∧ s3 < 18446744073709551616)
    (h : (n : Int) = s0 + 18446744073709551616 * s1 + 340282366920938463463374607431768211456 * s2 + 6277101735386680763835789423207666416102355444464034512896 * s3) : AV.agg [.int .u64 s0, .int .u64 s1, .int .u64 s2, .int .u64 s3] = numA n := by
  obtain ⟨a, rfl⟩ := Int.eq_ofNat_of_zero_le h0.1
  obtain ⟨b, rfl⟩ := Int.eq_ofNat_of_zero_le h1.1
  obtain ⟨c, rfl⟩ := Int.eq_ofNat_of_zero_le h2.1
  obtain ⟨d, rfl⟩ := Int.eq_ofNat_of_zero_le h3.1
  have : n = comb a b c d := by unfold comb; omega
  subst this
  unfold numA
  rw [numL_comb (by omega) (by omega) (by omega) (by omega)]
  rfl

theorem lend_numA {B : List Nat} {m : Mem} {n : Nat} : Lend (fun _ => none) B m (numA n) (numA n) := lend_flat flat_numA
theorem numA_comb {a b c d : Nat} (ha : a < 18446744073709551616) (hb : b < 18446744073709551616) (hc : c < 18446744073709551616) (hd : d < 18446744073709551616) : numA (comb a b c d) = .agg (u4 a b c d) := by
  unfold numA; rw [numL_comb ha hb hc hd]

theorem S_LAdd0 (a b c d e f g h : Nat) (ha : a < 18446744073709551616) (hb : b < 18446744073709551616) (hc : c < 18446744073709551616) (hd : d < 18446744073709551616) (he : e < 18446744073709551616) (hf : f < 18446744073709551616) (hg : g < 18446744073709551616) (hh : h < 18446744073709551616) :
    ACall Pg F_limb_Add [.agg (u4 a b c d), .agg (u4 e f g h)] [] (fun v _ => (∃ r cy : Nat, r < w256 ∧ cy ≤ 1 ∧ comb a b c d + comb e f g h = r + cy * w256 ∧ v = .tup [numA r, .int .u64 cy]) ∧ Flat true v) := by
  refine B_limb_Add ⟨rfl, ?_⟩
  conv => whnf
  refine loop_rounds mixed 5 ?_
  conv => whnf
  refine ⟨by omega, fun s0 c0 e0 b0 d0 => ?_⟩
  conv => whnf
  try (refine ⟨⟨[], rfl⟩, ?_⟩; conv => whnf)
  refine ⟨by omega, fun s1 c1 e1 b1 d1 => ?_⟩
  conv => whnf
  try (refine ⟨⟨[], rfl⟩, ?_⟩; conv => whnf)
  refine ⟨by omega, fun s2 c2 e2 b2 d2 => ?_⟩
  conv => whnf
  try (refine ⟨⟨[], rfl⟩, ?_⟩; conv => whnf)
  refine ⟨by omega, fun s3 c3 e3 b3 d3 => ?_⟩
  conv => whnf
  try (refine ⟨⟨[], rfl⟩, ?_⟩; conv => whnf)
  refine ⟨⟨comb s0 s1 s2 s3, c3, comb_lt b0 b1 b2 b3, d3, ?_, ?_⟩, .tup _ (.cons _ _ (.agg _ (.cons _ _ (.int _ _) (.cons _ _ (.int _ _) (.cons _ _ (.int _ _) (.cons _ _ (.int _ _) .nil))))) (.cons _ _ (.int _ _) .nil))⟩
  · unfold comb; simp only [w256]; omega
  · rw [numA_comb b0 b1 b2 b3]; rfl

theorem S_LAdd {m : Mem} {K : AV → Mem → Prop} {a b : Nat} (ha : a < w256) (hb : b < w256) (h : ∀ s c : Nat, a + b = s + c * w256 → s < w256 → c ≤ 1 → K (.tup [numA s, .int .u64 c]) m) : ACall Pg F_limb_Add [numA a, numA b] m K := by
  obtain ⟨a0, a1, a2, a3, rfl, g0, g1, g2, g3⟩ := comb_of ha
  obtain ⟨b0, b1, b2, b3, rfl, k0, k1, k2, k3⟩ := comb_of hb
  refine lift_flat (S_LAdd0 a0 a1 a2 a3 b0 b1 b2 b3 g0 g1 g2 g3 k0 k1 k2 k3) (.cons _ _ _ _ ?_ (.cons _ _ _ _ ?_ .nil)) ?_
  · rw [numA_comb g0 g1 g2 g3]; exact lend_flat flat_u4
  · rw [numA_comb k0 k1 k2 k3]; exact lend_flat flat_u4
  rintro v ⟨r, cy, h1, h2, h3, rfl⟩
  exact h r cy h3 h1 h2

theorem S_LSub0 (a b c d e f g h : Nat) (ha : a < 18446744073709551616) (hb : b < 18446744073709551616) (hc : c < 18446744073709551616) (hd : d < 18446744073709551616) (he : e < 18446744073709551616) (hf : f < 18446744073709551616) (hg : g < 18446744073709551616) (hh : h < 18446744073709551616) :
    ACall Pg F_limb_Sub [.agg (u4 a b c d), .agg (u4 e f g h)] [] (fun v _ => (∃ r cy : Nat, r < w256 ∧ cy ≤ 1 ∧ comb a b c d + cy * w256 = comb e f g h + r ∧ v = .tup [numA r, .int .u64 cy]) ∧ Flat true v) := by
  refine B_limb_Sub ⟨rfl, ?_⟩
  conv => whnf
  refine loop_rounds mixed 5 ?_
  conv => whnf
  refine ⟨by omega, fun s0 c0 e0 b0 d0 => ?_⟩
  conv => whnf
  try (refine ⟨⟨[], rfl⟩, ?_⟩; conv => whnf)
  refine ⟨by omega, fun s1 c1 e1 b1 d1 => ?_⟩
  conv => whnf
  try (refine ⟨⟨[], rfl⟩, ?_⟩; conv => whnf)
  refine ⟨by omega, fun s2 c2 e2 b2 d2 => ?_⟩
  conv => whnf
  try (refine ⟨⟨[], rfl⟩, ?_⟩; conv => whnf)
  refine ⟨by omega, fun s3 c3 e3 b3 d3 => ?_⟩
  conv => whnf
  try (refine ⟨⟨[], rfl⟩, ?_⟩; conv => whnf)
  refine ⟨⟨comb s0 s1 s2 s3, c3, comb_lt b0 b1 b2 b3, d3, ?_, ?_⟩, .tup _ (.cons _ _ (.agg _ (.cons _ _ (.int _ _) (.cons _ _ (.int _ _) (.cons _ _ (.int _ _) (.cons _ _ (.int _ _) .nil))))) (.cons _ _ (.int _ _) .nil))⟩
  · unfold comb; simp only [w256]; omega
  · rw [numA_comb b0 b1 b2 b3]; rfl

theorem S_LSub {m : Mem} {K : AV → Mem → Prop} {a b : Nat} (ha : a < w256) (hb : b < w256) (h : ∀ s c : Nat, a + c * w256 = b + s → s < w256 → c ≤ 1 → K (.tup [numA s, .int .u64 c]) m) : ACall Pg F_limb_Sub [numA a, numA b] m K := by
  obtain ⟨a0, a1, a2, a3, rfl, g0, g1, g2, g3⟩ := comb_of ha
  obtain ⟨b0, b1, b2, b3, rfl, k0, k1, k2, k3⟩ := comb_of hb
  refine lift_flat (S_LSub0 a0 a1 a2 a3 b0 b1 b2 b3 g0 g1 g2 g3 k0 k1 k2 k3) (.cons _ _ _ _ ?_ (.cons _ _ _ _ ?_ .nil)) ?_
  · rw [numA_comb g0 g1 g2 g3]; exact lend_flat flat_u4
  · rw [numA_comb k0 k1 k2 k3]; exact lend_flat flat_u4
  rintro v ⟨r, cy, h1, h2, h3, rfl⟩
  exact h r cy h3 h1 h2

theorem S_RAdd0 (a b c d e f g h : Nat) (ha : a < 18446744073709551616) (hb : b < 18446744073709551616) (hc : c < 18446744073709551616) (hd : d < 18446744073709551616) (he : e < 18446744073709551616) (hf : f < 18446744073709551616) (hg : g < 18446744073709551616) (hh : h < 18446744073709551616) :
    ACall Pg F_witanref01_Add [.agg (u4 a b c d), .agg (u4 e f g h)] [] (fun v _ => (∃ r cy : Nat, r < w256 ∧ cy ≤ 1 ∧ comb a b c d + comb e f g h = r + cy * w256 ∧ v = .tup [numA r, .int .u64 cy]) ∧ Flat true v) := by
  refine B_witanref01_Add ⟨rfl, ?_⟩
  conv => whnf
  refine loop_rounds mixed 5 ?_
  conv => whnf
  refine ⟨by omega, fun s0 c0 e0 b0 d0 => ?_⟩
  conv => whnf
  try (refine ⟨⟨[], rfl⟩, ?_⟩; conv => whnf)
  refine ⟨by omega, fun s1 c1 e1 b1 d1 => ?_⟩
  conv => whnf
  try (refine ⟨⟨[], rfl⟩, ?_⟩; conv => whnf)
  refine ⟨by omega, fun s2 c2 e2 b2 d2 => ?_⟩
  conv => whnf
  try (refine ⟨⟨[], rfl⟩, ?_⟩; conv => whnf)
  refine ⟨by omega, fun s3 c3 e3 b3 d3 => ?_⟩
  conv => whnf
  try (refine ⟨⟨[], rfl⟩, ?_⟩; conv => whnf)
  refine ⟨⟨comb s0 s1 s2 s3, c3, comb_lt b0 b1 b2 b3, d3, ?_, ?_⟩, .tup _ (.cons _ _ (.agg _ (.cons _ _ (.int _ _) (.cons _ _ (.int _ _) (.cons _ _ (.int _ _) (.cons _ _ (.int _ _) .nil))))) (.cons _ _ (.int _ _) .nil))⟩
  · unfold comb; simp only [w256]; omega
  · rw [numA_comb b0 b1 b2 b3]; rfl

theorem S_RAdd {m : Mem} {K : AV → Mem → Prop} {a b : Nat} (ha : a < w256) (hb : b < w256) (h : ∀ s c : Nat, a + b = s + c * w256 → s < w256 → c ≤ 1 → K (.tup [numA s, .int .u64 c]) m) : ACall Pg F_witanref01_Add [numA a, numA b] m K := by
  obtain ⟨a0, a1, a2, a3, rfl, g0, g1, g2, g3⟩ := comb_of ha
  obtain ⟨b0, b1, b2, b3, rfl, k0, k1, k2, k3⟩ := comb_of hb
  refine lift_flat (S_RAdd0 a0 a1 a2 a3 b0 b1 b2 b3 g0 g1 g2 g3 k0 k1 k2 k3) (.cons _ _ _ _ ?_ (.cons _ _ _ _ ?_ .nil)) ?_
  · rw [numA_comb g0 g1 g2 g3]; exact lend_flat flat_u4
  · rw [numA_comb k0 k1 k2 k3]; exact lend_flat flat_u4
  rintro v ⟨r, cy, h1, h2, h3, rfl⟩
  exact h r cy h3 h1 h2

theorem S_RSub0 (a b c d e f g h : Nat) (ha : a < 18446744073709551616) (hb : b < 18446744073709551616) (hc : c < 18446744073709551616) (hd : d < 18446744073709551616) (he : e < 18446744073709551616) (hf : f < 18446744073709551616) (hg : g < 18446744073709551616) (hh : h < 18446744073709551616) :
    ACall Pg F_witanref01_Sub [.agg (u4 a b c d), .agg (u4 e f g h)] [] (fun v _ => (∃ r cy : Nat, r < w256 ∧ cy ≤ 1 ∧ comb a b c d + cy * w256 = comb e f g h + r ∧ v = .tup [numA r, .int .u64 cy]) ∧ Flat true v) := by
  refine B_witanref01_Sub ⟨rfl, ?_⟩
  conv => whnf
  refine loop_rounds mixed 5 ?_
  conv => whnf
  refine ⟨by omega, fun s0 c0 e0 b0 d0 => ?_⟩
  conv => whnf
  try (refine ⟨⟨[], rfl⟩, ?_⟩; conv => whnf)
  refine ⟨by omega, fun s1 c1 e1 b1 d1 => ?_⟩
  conv => whnf
  try (refine ⟨⟨[], rfl⟩, ?_⟩; conv => whnf)
  refine ⟨by omega, fun s2 c2 e2 b2 d2 => ?_⟩
  conv => whnf
  try (refine ⟨⟨[], rfl⟩, ?_⟩; conv => whnf)
  refine ⟨by omega, fun s3 c3 e3 b3 d3 => ?_⟩
  conv => whnf
  try (refine ⟨⟨[], rfl⟩, ?_⟩; conv => whnf)
  refine ⟨⟨comb s0 s1 s2 s3, c3, comb_lt b0 b1 b2 b3, d3, ?_, ?_⟩, .tup _ (.cons _ _ (.agg _ (.cons _ _ (.int _ _) (.cons _ _ (.int _ _) (.cons _ _ (.int _ _) (.cons _ _ (.int _ _) .nil))))) (.cons _ _ (.int _ _) .nil))⟩
  · unfold comb; simp only [w256]; omega
  · rw [numA_comb b0 b1 b2 b3]; rfl

theorem S_RSub {m : Mem} {K : AV → Mem → Prop} {a b : Nat} (ha : a < w256) (hb : b < w256) (h : ∀ s c : Nat, a + c * w256 = b + s → s < w256 → c ≤ 1 → K (.tup [numA s, .int .u64 c]) m) : ACall Pg F_witanref01_Sub [numA a, numA b] m K := by
  obtain ⟨a0, a1, a2, a3, rfl, g0, g1, g2, g3⟩ := comb_of ha
  obtain ⟨b0, b1, b2, b3, rfl, k0, k1, k2, k3⟩ := comb_of hb
  refine lift_flat (S_RSub0 a0 a1 a2 a3 b0 b1 b2 b3 g0 g1 g2 g3 k0 k1 k2 k3) (.cons _ _ _ _ ?_ (.cons _ _ _ _ ?_ .nil)) ?_
  · rw [numA_comb g0 g1 g2 g3]; exact lend_flat flat_u4
  · rw [numA_comb k0 k1 k2 k3]; exact lend_flat flat_u4
  rintro v ⟨r, cy, h1, h2, h3, rfl⟩
  exact h r cy h3 h1 h2

end Go.Proofs.Ytmngdaeogbjpiaa
end

section
/- Numbers of four words: comparison; no condition. -/
set_option linter.unusedVariables false
set_option linter.unusedSimpArgs false
set_option maxRecDepth 100000
set_option pp.maxSteps 300
namespace Go.Proofs.Ytmngdaeogbjpiaa
open Go Go.Wit

def cmpZ (a b : Nat) : Int := if a < b then -1 else if b < a then 1 else 0

theorem S_LCmp0 (a b c d e f g h : Nat) (ha : a < 18446744073709551616) (hb : b < 18446744073709551616) (hc : c < 18446744073709551616) (hd : d < 18446744073709551616) (he : e < 18446744073709551616) (hf : f < 18446744073709551616) (hg : g < 18446744073709551616) (hh : h < 18446744073709551616) (r : Int)
    (h1 : comb a b c d < comb e f g h → r = -1) (h2 : comb e f g h < comb a b c d → r = 1) (h3 : comb a b c d = comb e f g h → r = 0) :
    ACall Pg F_limb_Cmp [.agg (u4 a b c d), .agg (u4 e f g h)] [] (fun v _ => v = .int .i64 r ∧ Flat true v) := by
  unfold comb at h1 h2 h3
  refine B_limb_Cmp ⟨rfl, ?_⟩
  conv => whnf
  refine loop_rounds mixed 5 ?_
  conv => whnf
  refine condB_mk (fun q => ?_) (fun q => ?_)
  · have q := of_decide_eq_true q
    conv => whnf
    obtain rfl := h1 (by omega)
    exact ⟨rfl, .int _ _⟩
  have p3 := of_decide_eq_false q
  conv => whnf
  refine condB_mk (fun q => ?_) (fun q => ?_)
  · have q := of_decide_eq_true q
    conv => whnf
    obtain rfl := h2 (by omega)
    exact ⟨rfl, .int _ _⟩
  have q3 := of_decide_eq_false q
  conv => whnf
  rw [show IntKind.i64.wrap (3 - 1) = 2 from rfl]
  refine condB_mk (fun q => ?_) (fun q => ?_)
  · have q := of_decide_eq_true q
    conv => whnf
    obtain rfl := h1 (by omega)
    exact ⟨rfl, .int _ _⟩
  have p2 := of_decide_eq_false q
  conv => whnf
  refine condB_mk (fun q => ?_) (fun q => ?_)
  · have q := of_decide_eq_true q
    conv => whnf
    obtain rfl := h2 (by omega)
    exact ⟨rfl, .int _ _⟩
  have q2 := of_decide_eq_false q
  conv => whnf
  rw [show IntKind.i64.wrap (2 - 1) = 1 from rfl]
  refine condB_mk (fun q => ?_) (fun q => ?_)
  · have q := of_decide_eq_true q
    conv => whnf
    obtain rfl := h1 (by omega)
    exact ⟨rfl, .int _ _⟩
  have p1 := of_decide_eq_false q
  conv => whnf
  refine condB_mk (fun q => ?_) (fun q => ?_)
  · have q := of_decide_eq_true q
    conv => whnf
    obtain rfl := h2 (by omega)
    exact ⟨rfl, .int _ _⟩
  have q1 := of_decide_eq_false q
  conv => whnf
  rw [show IntKind.i64.wrap (1 - 1) = 0 from rfl]
  refine condB_mk (fun q => ?_) (fun q => ?_)
  · have q := of_decide_eq_true q
    conv => whnf
    obtain rfl := h1 (by omega)
    exact ⟨rfl, .int _ _⟩
  have p0 := of_decide_eq_false q
  conv => whnf
  refine condB_mk (fun q => ?_) (fun q => ?_)
  · have q := of_decide_eq_true q
    conv => whnf
    obtain rfl := h2 (by omega)
    exact ⟨rfl, .int _ _⟩
  have q0 := of_decide_eq_false q
  conv => whnf
  obtain rfl := h3 (by omega)
  exact ⟨rfl, .int _ _⟩

theorem S_LCmp {m : Mem} {K : AV → Mem → Prop} {a b : Nat} (ha : a < w256) (hb : b < w256) (h : ∀ r, r = cmpZ a b → K (.int .i64 r) m) : ACall Pg F_limb_Cmp [numA a, numA b] m K := by
  obtain ⟨a0, a1, a2, a3, rfl, g0, g1, g2, g3⟩ := comb_of ha
  obtain ⟨b0, b1, b2, b3, rfl, k0, k1, k2, k3⟩ := comb_of hb
  refine lift_flat (S_LCmp0 a0 a1 a2 a3 b0 b1 b2 b3 g0 g1 g2 g3 k0 k1 k2 k3 (cmpZ (comb a0 a1 a2 a3) (comb b0 b1 b2 b3)) (fun h => by unfold cmpZ; rw [if_pos h]) (fun h => by unfold cmpZ; rw [if_neg (by omega), if_pos h]) (fun h => by unfold cmpZ; rw [if_neg (by omega), if_neg (by omega)])) (.cons _ _ _ _ ?_ (.cons _ _ _ _ ?_ .nil)) ?_
  · rw [numA_comb g0 g1 g2 g3]; exact lend_flat flat_u4
  · rw [numA_comb k0 k1 k2 k3]; exact lend_flat flat_u4
  rintro v rfl
  exact h _ rfl

theorem lim_inj {a b : Nat} (ha : a < w256) (hb : b < w256) (h0 : lim a 0 = lim b 0) (h1 : lim a 1 = lim b 1) (h2 : lim a 2 = lim b 2) (h3 : lim a 3 = lim b 3) : a = b := by
  obtain ⟨a0, a1, a2, a3, rfl, g0, g1, g2, g3⟩ := comb_of ha
  obtain ⟨b0, b1, b2, b3, rfl, k0, k1, k2, k3⟩ := comb_of hb
  obtain ⟨e0, e1, e2, e3⟩ := lim_comb g0 g1 g2 g3
  obtain ⟨f0, f1, f2, f3⟩ := lim_comb k0 k1 k2 k3
  rw [e0, f0] at h0
  rw [e1, f1] at h1
  rw [e2, f2] at h2
  rw [e3, f3] at h3
  obtain rfl : a0 = b0 := by omega
  obtain rfl : a1 = b1 := by omega
  obtain rfl : a2 = b2 := by omega
  obtain rfl : a3 = b3 := by omega
  rfl
theorem lim_zero {i : Nat} : lim 0 i = 0 := by unfold lim; simp

def eqX (a b : Nat) : Bool := lim a 0 == lim b 0 && (lim a 1 == lim b 1 && (lim a 2 == lim b 2 && (lim a 3 == lim b 3 && true)))
def eqZ (a : Nat) : Bool := lim a 0 == 0 && (lim a 1 == 0 && (lim a 2 == 0 && (lim a 3 == 0 && true)))
theorem eqX_iff {a b : Nat} (ha : a < w256) (hb : b < w256) : eqX a b = decide (a = b) := by
  by_cases h : a = b
  · subst h; simp [eqX]
  · rw [decide_eq_false h]
    cases hx : eqX a b with
    | false => rfl
    | true =>
      simp only [eqX, Bool.and_eq_true, beq_iff_eq, and_true] at hx
      exact absurd (lim_inj ha hb hx.1 hx.2.1 hx.2.2.1 hx.2.2.2) h
theorem eqZ_iff {a : Nat} (ha : a < w256) : eqZ a = decide (a = 0) := by
  rw [← eqX_iff ha (by decide)]
  simp only [eqX, eqZ, lim_zero]

/-- Choices by whether two numbers are the same, or one is nothing. -/
theorem c_eq {a b : Nat} {p q : Prop} (ha : a < w256) (hb : b < w256) (hp : a = b → p) (hq : a ≠ b → q) : condB (bif false then !(eqX a b) else eqX a b) p q := by
  rw [eqX_iff ha hb]
  by_cases h : a = b
  · rw [decide_eq_true h]; exact hp h
  · rw [decide_eq_false h]; exact hq h
theorem c_ne {a b : Nat} {p q : Prop} (ha : a < w256) (hb : b < w256) (hp : a ≠ b → p) (hq : a = b → q) : condB (bif true then !(eqX a b) else eqX a b) p q := by
  rw [eqX_iff ha hb]
  by_cases h : a = b
  · rw [decide_eq_true h]; exact hq h
  · rw [decide_eq_false h]; exact hp h
theorem c_eqz {a : Nat} {p q : Prop} (ha : a < w256) (hp : a = 0 → p) (hq : a ≠ 0 → q) : condB (bif false then !(eqZ a) else eqZ a) p q := by
  rw [eqZ_iff ha]
  by_cases h : a = 0
  · rw [decide_eq_true h]; exact hp h
  · rw [decide_eq_false h]; exact hq h
theorem c_nez {a : Nat} {p q : Prop} (ha : a < w256) (hp : a ≠ 0 → p) (hq : a = 0 → q) : condB (bif true then !(eqZ a) else eqZ a) p q := by
  rw [eqZ_iff ha]
  by_cases h : a = 0
  · rw [decide_eq_true h]; exact hq h
  · rw [decide_eq_false h]; exact hp h

theorem S_RCmp0 (a b : Nat) (ha : a < w256) (hb : b < w256) :
    ACall Pg F_witanref01_Cmp [numA a, numA b] [] (fun v _ => v = .int .i64 (cmpZ a b) ∧ Flat true v) := by
  refine B_witanref01_Cmp ⟨rfl, ?_⟩
  conv => whnf
  refine c_eq ha hb (fun e => ?_) (fun e => ?_)
  · conv => whnf
    refine ⟨?_, .int _ _⟩
    unfold cmpZ; rw [if_neg (by omega), if_neg (by omega)]
  conv => whnf
  refine S_RSub ha hb (fun s c hs hsb hc => ?_)
  conv => whnf
  refine condB_mk (fun q => ?_) (fun q => ?_)
  · conv => whnf
    refine ⟨?_, .int _ _⟩
    have : c = 1 := by simp at q; omega
    subst this
    unfold cmpZ; rw [if_pos (by simp only [w256] at *; omega)]
  · conv => whnf
    refine ⟨?_, .int _ _⟩
    have : c ≠ 1 := by simp at q; omega
    have h1 : ¬ a < b := by
      have : c = 0 := by omega
      subst this; omega
    unfold cmpZ; rw [if_neg h1, if_pos (by omega)]

theorem S_RCmp {m : Mem} {K : AV → Mem → Prop} {a b : Nat} (ha : a < w256) (hb : b < w256) (h : ∀ r, r = cmpZ a b → K (.int .i64 r) m) : ACall Pg F_witanref01_Cmp [numA a, numA b] m K := by
  refine lift_flat (S_RCmp0 a b ha hb) (.cons _ _ _ _ lend_numA (.cons _ _ _ _ lend_numA .nil)) ?_
  rintro v rfl
  exact h _ rfl
end Go.Proofs.Ytmngdaeogbjpiaa
end

section
/- Numbers of four words: products; no condition. -/
set_option linter.unusedVariables false
set_option linter.unusedSimpArgs false
set_option maxRecDepth 100000
set_option pp.maxSteps 300
namespace Go.Proofs.Ytmngdaeogbjpiaa
open Go Go.Wit

theorem and_mask {x : Nat} (hx : x < 18446744073709551616) : bitsV .and .u64 (x : Int) 4294967295 = ((x % 4294967296 : Nat) : Int) := by
  show IntKind.u64.wrap ((BitVec.ofInt 64 (x : Int) &&& BitVec.ofInt 64 4294967295).toNat) = _
  rw [BitVec.ofInt_natCast, show BitVec.ofInt 64 4294967295 = BitVec.ofNat 64 (2 ^ 32 - 1) from rfl, BitVec.toNat_and, BitVec.toNat_ofNat, BitVec.toNat_ofNat, Nat.mod_eq_of_lt (show x < 2 ^ 64 from hx), Nat.mod_eq_of_lt (by decide), Nat.and_two_pow_sub_one_eq_mod, wu64]
  omega
theorem shr32 (x : Nat) : (x : Int).fdiv (2 ^ min (32 : Int).toNat IntKind.u64.bits) = ((x / 4294967296 : Nat) : Int) := by
  rw [show min (32 : Int).toNat IntKind.u64.bits = 32 from rfl, Int.fdiv_eq_ediv_of_nonneg _ (by decide)]
  omega
theorem wrapN (x : Nat) : IntKind.u64.wrap (x : Int) = ((x % 18446744073709551616 : Nat) : Int) := by rw [wu64]; omega

theorem and_maskM (x : Nat) : bitsV .and .u64 ((x % 18446744073709551616 : Nat) : Int) 4294967295 = ((x % 18446744073709551616 % 4294967296 : Nat) : Int) := and_mask (Nat.mod_lt _ (by decide))

theorem mul_hi {x y : Nat} (hx : x < 18446744073709551616) (hy : y < 18446744073709551616) :
    (x / 4294967296 * (y / 4294967296) % 18446744073709551616 +
                    (x / 4294967296 * (y % 4294967296) % 18446744073709551616 + x % 4294967296 * (y % 4294967296) % 18446744073709551616 / 4294967296) % 18446744073709551616 / 4294967296) % 18446744073709551616 +
      ((x / 4294967296 * (y % 4294967296) % 18446744073709551616 + x % 4294967296 * (y % 4294967296) % 18446744073709551616 / 4294967296) % 18446744073709551616 % 4294967296 + x % 4294967296 * (y / 4294967296) % 18446744073709551616) % 18446744073709551616 / 4294967296
    = x * y / 18446744073709551616 := by
  have ex : x = 4294967296 * (x / 4294967296) + x % 4294967296 := (Nat.div_add_mod x _).symm
  have ey : y = 4294967296 * (y / 4294967296) + y % 4294967296 := (Nat.div_add_mod y _).symm
  have bx : x / 4294967296 ≤ 4294967295 := by omega
  have bx0 : x % 4294967296 ≤ 4294967295 := by omega
  have by1 : y / 4294967296 ≤ 4294967295 := by omega
  have by0 : y % 4294967296 ≤ 4294967295 := by omega
  generalize x / 4294967296 = X1 at *
  generalize x % 4294967296 = X0 at *
  generalize y / 4294967296 = Y1 at *
  generalize y % 4294967296 = Y0 at *
  have e : x * y = 18446744073709551616 * (X1 * Y1) + 4294967296 * (X1 * Y0) + 4294967296 * (X0 * Y1) + X0 * Y0 := by
    rw [ex, ey]; grind
  rw [e]
  have b11 := Nat.mul_le_mul bx by1
  have b10 := Nat.mul_le_mul bx by0
  have b01 := Nat.mul_le_mul bx0 by1
  have b00 := Nat.mul_le_mul bx0 by0
  clear e ex ey
  generalize X1 * Y1 = P11 at *
  generalize X1 * Y0 = P10 at *
  generalize X0 * Y1 = P01 at *
  generalize X0 * Y0 = P00 at *
  omega

theorem S_Mul640 (x y : Nat) (hx : x < 18446744073709551616) (hy : y < 18446744073709551616) :
    ACall Pg F_bits_Mul64 [.int .u64 x, .int .u64 y] [] (fun v _ => v = .tup [.int .u64 ((x * y / 18446744073709551616 : Nat) : Int), .int .u64 ((x * y % 18446744073709551616 : Nat) : Int)] ∧ Flat true v) := by
  refine B_bits_Mul64 ⟨rfl, ?_⟩
  conv => whnf
  refine ⟨?_, .tup _ (.cons _ _ (.int _ _) (.cons _ _ (.int _ _) .nil))⟩
  simp only [and_mask hx, and_mask hy, shr32, ← Int.natCast_mul, wrapN, ← Int.natCast_add, and_maskM, mul_hi hx hy]
  have : x * y / 18446744073709551616 % 18446744073709551616 = x * y / 18446744073709551616 := Nat.mod_eq_of_lt ((Nat.div_lt_iff_lt_mul (by decide)).2 (Nat.mul_lt_mul'' hx hy))
  rw [this]

/-- A step of a product: h, l of two words, what stood there, what is carried. -/
theorem S_Mul64 {m : Mem} {K : AV → Mem → Prop} {x y : Nat} (hx : x < 18446744073709551616) (hy : y < 18446744073709551616) (h : ∀ p hi lo : Nat, p = x * y → hi * 18446744073709551616 + lo = p → p ≤ 340282366920938463426481119284349108225 → lo < 18446744073709551616 → hi ≤ 18446744073709551614 → K (.tup [.int .u64 hi, .int .u64 lo]) m) : ACall Pg F_bits_Mul64 [.int .u64 x, .int .u64 y] m K := by
  refine lift_flat (S_Mul640 x y hx hy) (.cons _ _ _ _ lend_int (.cons _ _ _ _ lend_int .nil)) ?_
  rintro v rfl
  have hb : x * y ≤ 18446744073709551615 * 18446744073709551615 := Nat.mul_le_mul (by omega) (by omega)
  refine h (x * y) _ _ rfl ?_ hb (Nat.mod_lt _ (by decide)) ?_
  · generalize x * y = p at *; omega
  · generalize x * y = p at *; omega

theorem mstep {O C : Int} {p h l s x n y : Nat} (hO : 0 ≤ O ∧ O < 18446744073709551616) (hC : 0 ≤ C ∧ C < 18446744073709551616) (q : h * 18446744073709551616 + l = p) (r : p ≤ 340282366920938463426481119284349108225) (t : l < 18446744073709551616)
    (hu : O + l + 0 = s + 18446744073709551616 * x) (hv : s + C + 0 = n + 18446744073709551616 * y) (hn : n < 18446744073709551616) :
    IntKind.u64.wrap (IntKind.u64.wrap ((h : Int) + x) + y) = ((h + x + y : Nat) : Int) ∧ (n : Int) + 18446744073709551616 * ((h + x + y : Nat) : Int) = O + C + p ∧ h + x + y < 18446744073709551616 := by
  refine ⟨?_, by omega, by omega⟩
  rw [wu64, wu64]; omega

theorem mulfin {p00 n00 k00 p01 n01 k01 p02 n02 k02 p03 n03 k03 p10 n10 k10 p11 n11 k11 p12 n12 k12 p13 n13 k13 p20 n20 k20 p21 n21 k21 p22 n22 k22 p23 n23 k23 p30 n30 k30 p31 n31 k31 p32 n32 k32 p33 n33 k33 : Nat} (z00 : (n00 : Int) + 18446744073709551616 * (k00 : Nat) = 0 + 0 + p00) (z01 : (n01 : Int) + 18446744073709551616 * (k01 : Nat) = 0 + (k00 : Nat) + p01) (z02 : (n02 : Int) + 18446744073709551616 * (k02 : Nat) = 0 + (k01 : Nat) + p02) (z03 : (n03 : Int) + 18446744073709551616 * (k03 : Nat) = 0 + (k02 : Nat) + p03) (z10 : (n10 : Int) + 18446744073709551616 * (k10 : Nat) = (n01 : Nat) + 0 + p10) (z11 : (n11 : Int) + 18446744073709551616 * (k11 : Nat) = (n02 : Nat) + (k10 : Nat) + p11) (z12 : (n12 : Int) + 18446744073709551616 * (k12 : Nat) = (n03 : Nat) + (k11 : Nat) + p12) (z13 : (n13 : Int) + 18446744073709551616 * (k13 : Nat) = (k03 : Nat) + (k12 : Nat) + p13) (z20 : (n20 : Int) + 18446744073709551616 * (k20 : Nat) = (n11 : Nat) + 0 + p20) (z21 : (n21 : Int) + 18446744073709551616 * (k21 : Nat) = (n12 : Nat) + (k20 : Nat) + p21) (z22 : (n22 : Int) + 18446744073709551616 * (k22 : Nat) = (n13 : Nat) + (k21 : Nat) + p22) (z23 : (n23 : Int) + 18446744073709551616 * (k23 : Nat) = (k13 : Nat) + (k22 : Nat) + p23) (z30 : (n30 : Int) + 18446744073709551616 * (k30 : Nat) = (n21 : Nat) + 0 + p30) (z31 : (n31 : Int) + 18446744073709551616 * (k31 : Nat) = (n22 : Nat) + (k30 : Nat) + p31) (z32 : (n32 : Int) + 18446744073709551616 * (k32 : Nat) = (n23 : Nat) + (k31 : Nat) + p32) (z33 : (n33 : Int) + 18446744073709551616 * (k33 : Nat) = (k23 : Nat) + (k32 : Nat) + p33) :
    p00 + 18446744073709551616 * (p01 + p10) + 340282366920938463463374607431768211456 * (p02 + p11 + p20) + 6277101735386680763835789423207666416102355444464034512896 * (p03 + p12 + p21 + p30) + 115792089237316195423570985008687907853269984665640564039457584007913129639936 * (p13 + p22 + p31) + 2135987035920910082395021706169552114602704522356652769947041607822219725780640550022962086936576 * (p23 + p32) + 39402006196394479212279040100143613805079739270465446667948293404245721771497210611414266254884915640806627990306816 * p33 =
      n00 + 18446744073709551616 * n10 + 340282366920938463463374607431768211456 * n20 + 6277101735386680763835789423207666416102355444464034512896 * n30 + 115792089237316195423570985008687907853269984665640564039457584007913129639936 * (n31 + 18446744073709551616 * n32 + 340282366920938463463374607431768211456 * n33 + 6277101735386680763835789423207666416102355444464034512896 * k33) := by
  omega

theorem mstepR {O C : Int} {p h l s x n y : Nat} (hO : 0 ≤ O ∧ O < 18446744073709551616) (hC : 0 ≤ C ∧ C < 18446744073709551616) (q : h * 18446744073709551616 + l = p) (r : p ≤ 340282366920938463426481119284349108225) (t : l < 18446744073709551616)
    (hu : l + O + 0 = s + 18446744073709551616 * x) (hv : s + C + 0 = n + 18446744073709551616 * y) (hn : n < 18446744073709551616) :
    IntKind.u64.wrap (IntKind.u64.wrap ((h : Int) + x) + y) = ((h + x + y : Nat) : Int) ∧ (n : Int) + 18446744073709551616 * ((h + x + y : Nat) : Int) = O + C + p ∧ h + x + y < 18446744073709551616 :=
  mstep hO hC q r t (by omega) hv hn

theorem rN {n : Nat} (b : n < 18446744073709551616) : (0 : Int) ≤ n ∧ (n : Int) < 18446744073709551616 := by omega
theorem r0 : (0 : Int) ≤ 0 ∧ (0 : Int) < 18446744073709551616 := by omega
theorem rC {w : Int} {k : Nat} (h : w = (k : Int)) (b : k < 18446744073709551616) : 0 ≤ w ∧ w < 18446744073709551616 := by omega
theorem rX {O C : Int} (h1 : 0 ≤ O ∧ O < 18446744073709551616) (h2 : 0 ≤ C ∧ C < 18446744073709551616) : 0 ≤ O ∧ O ≤ 18446744073709551615 ∧ 0 ≤ C ∧ C ≤ 18446744073709551615 ∧ (0 : Int) ≤ 0 ∧ (0 : Int) ≤ 1 := by omega

theorem mul_comb (a b c d e f g h : Nat) : comb a b c d * comb e f g h = a * e + 18446744073709551616 * (a * f + b * e) + 340282366920938463463374607431768211456 * (a * g + b * f + c * e) + 6277101735386680763835789423207666416102355444464034512896 * (a * h + b * g + c * f + d * e)
    + 115792089237316195423570985008687907853269984665640564039457584007913129639936 * (b * h + c * g + d * f) + 2135987035920910082395021706169552114602704522356652769947041607822219725780640550022962086936576 * (c * h + d * g) + 39402006196394479212279040100143613805079739270465446667948293404245721771497210611414266254884915640806627990306816 * (d * h) := by
  unfold comb
  grind

theorem _root_.Go.Wit.ACall.imp {P : Program} {f : FuncId} {args : List AV} {m : Mem} {K K' : AV → Mem → Prop} (h : ACall P f args m K) (hK : ∀ v m, K v m → K' v m) : ACall P f args m K' :=
  ⟨h.callable, fun C w L cargs hR hv => (h.run C w L cargs hR hv).mono fun en w' ⟨v, m', r, L', h1, h2, h3, h4, h5⟩ => ⟨v, m', r, L', h1, hK _ _ h2, h3, h4, h5⟩⟩

set_option maxHeartbeats 4000000 in
theorem S_LMul0 (a b c d e f g h : Nat) (ha : a < 18446744073709551616) (hb : b < 18446744073709551616) (hc : c < 18446744073709551616) (hd : d < 18446744073709551616) (he : e < 18446744073709551616) (hf : f < 18446744073709551616) (hg : g < 18446744073709551616) (hh : h < 18446744073709551616) :
    ACall Pg F_limb_Mul [.agg (u4 a b c d), .agg (u4 e f g h)] [] (fun v _ => ∃ lo hi, comb a b c d * comb e f g h = lo + w256 * hi ∧ lo < w256 ∧ hi < w256 ∧ v = .tup [numA lo, numA hi] ∧ Flat true v) := by
  have hP := mul_comb a b c d e f g h
  refine B_limb_Mul ⟨rfl, ?_⟩
  conv => whnf
  refine loop_rounds mixed 5 ?_
  conv => whnf
  refine loop_rounds mixed 5 ?_
  conv => whnf
  refine S_Mul64 ha he (fun p00 h00 l00 e00 q00 r00 s00 t00 => ?_)
  rw [← e00] at hP
  clear e00
  conv => whnf
  refine ⟨rX r0 (rN s00), fun u00 x00 i00 j00 g00 => ?_⟩
  conv => whnf
  refine ⟨rX (rN j00) r0, fun n00 y00 v00 b00 w00 => ?_⟩
  have m00 := mstep r0 r0 q00 r00 s00 i00 v00 b00
  clear q00 r00 s00 t00 i00 j00 g00 v00 w00
  conv => whnf
  refine S_Mul64 ha hf (fun p01 h01 l01 e01 q01 r01 s01 t01 => ?_)
  rw [← e01] at hP
  clear e01
  conv => whnf
  refine ⟨rX r0 (rN s01), fun u01 x01 i01 j01 g01 => ?_⟩
  conv => whnf
  refine ⟨rX (rN j01) (rC m00.1 m00.2.2), fun n01 y01 v01 b01 w01 => ?_⟩
  have m01 := mstep r0 (rC m00.1 m00.2.2) q01 r01 s01 i01 v01 b01
  clear q01 r01 s01 t01 i01 j01 g01 v01 w01
  conv => whnf
  refine S_Mul64 ha hg (fun p02 h02 l02 e02 q02 r02 s02 t02 => ?_)
  rw [← e02] at hP
  clear e02
  conv => whnf
  refine ⟨rX r0 (rN s02), fun u02 x02 i02 j02 g02 => ?_⟩
  conv => whnf
  refine ⟨rX (rN j02) (rC m01.1 m01.2.2), fun n02 y02 v02 b02 w02 => ?_⟩
  have m02 := mstep r0 (rC m01.1 m01.2.2) q02 r02 s02 i02 v02 b02
  clear q02 r02 s02 t02 i02 j02 g02 v02 w02
  conv => whnf
  refine S_Mul64 ha hh (fun p03 h03 l03 e03 q03 r03 s03 t03 => ?_)
  rw [← e03] at hP
  clear e03
  conv => whnf
  refine ⟨rX r0 (rN s03), fun u03 x03 i03 j03 g03 => ?_⟩
  conv => whnf
  refine ⟨rX (rN j03) (rC m02.1 m02.2.2), fun n03 y03 v03 b03 w03 => ?_⟩
  have m03 := mstep r0 (rC m02.1 m02.2.2) q03 r03 s03 i03 v03 b03
  clear q03 r03 s03 t03 i03 j03 g03 v03 w03
  conv => whnf
  refine loop_rounds mixed 5 ?_
  conv => whnf
  refine S_Mul64 hb he (fun p10 h10 l10 e10 q10 r10 s10 t10 => ?_)
  rw [← e10] at hP
  clear e10
  conv => whnf
  refine ⟨rX (rN b01) (rN s10), fun u10 x10 i10 j10 g10 => ?_⟩
  conv => whnf
  refine ⟨rX (rN j10) r0, fun n10 y10 v10 b10 w10 => ?_⟩
  have m10 := mstep (rN b01) r0 q10 r10 s10 i10 v10 b10
  clear q10 r10 s10 t10 i10 j10 g10 v10 w10
  conv => whnf
  refine S_Mul64 hb hf (fun p11 h11 l11 e11 q11 r11 s11 t11 => ?_)
  rw [← e11] at hP
  clear e11
  conv => whnf
  refine ⟨rX (rN b02) (rN s11), fun u11 x11 i11 j11 g11 => ?_⟩
  conv => whnf
  refine ⟨rX (rN j11) (rC m10.1 m10.2.2), fun n11 y11 v11 b11 w11 => ?_⟩
  have m11 := mstep (rN b02) (rC m10.1 m10.2.2) q11 r11 s11 i11 v11 b11
  clear q11 r11 s11 t11 i11 j11 g11 v11 w11
  conv => whnf
  refine S_Mul64 hb hg (fun p12 h12 l12 e12 q12 r12 s12 t12 => ?_)
  rw [← e12] at hP
  clear e12
  conv => whnf
  refine ⟨rX (rN b03) (rN s12), fun u12 x12 i12 j12 g12 => ?_⟩
  conv => whnf
  refine ⟨rX (rN j12) (rC m11.1 m11.2.2), fun n12 y12 v12 b12 w12 => ?_⟩
  have m12 := mstep (rN b03) (rC m11.1 m11.2.2) q12 r12 s12 i12 v12 b12
  clear q12 r12 s12 t12 i12 j12 g12 v12 w12
  conv => whnf
  refine S_Mul64 hb hh (fun p13 h13 l13 e13 q13 r13 s13 t13 => ?_)
  rw [← e13] at hP
  clear e13
  conv => whnf
  refine ⟨rX (rC m03.1 m03.2.2) (rN s13), fun u13 x13 i13 j13 g13 => ?_⟩
  conv => whnf
  refine ⟨rX (rN j13) (rC m12.1 m12.2.2), fun n13 y13 v13 b13 w13 => ?_⟩
  have m13 := mstep (rC m03.1 m03.2.2) (rC m12.1 m12.2.2) q13 r13 s13 i13 v13 b13
  clear q13 r13 s13 t13 i13 j13 g13 v13 w13
  conv => whnf
  refine loop_rounds mixed 5 ?_
  conv => whnf
  refine S_Mul64 hc he (fun p20 h20 l20 e20 q20 r20 s20 t20 => ?_)
  rw [← e20] at hP
  clear e20
  conv => whnf
  refine ⟨rX (rN b11) (rN s20), fun u20 x20 i20 j20 g20 => ?_⟩
  conv => whnf
  refine ⟨rX (rN j20) r0, fun n20 y20 v20 b20 w20 => ?_⟩
  have m20 := mstep (rN b11) r0 q20 r20 s20 i20 v20 b20
  clear q20 r20 s20 t20 i20 j20 g20 v20 w20
  conv => whnf
  refine S_Mul64 hc hf (fun p21 h21 l21 e21 q21 r21 s21 t21 => ?_)
  rw [← e21] at hP
  clear e21
  conv => whnf
  refine ⟨rX (rN b12) (rN s21), fun u21 x21 i21 j21 g21 => ?_⟩
  conv => whnf
  refine ⟨rX (rN j21) (rC m20.1 m20.2.2), fun n21 y21 v21 b21 w21 => ?_⟩
  have m21 := mstep (rN b12) (rC m20.1 m20.2.2) q21 r21 s21 i21 v21 b21
  clear q21 r21 s21 t21 i21 j21 g21 v21 w21
  conv => whnf
  refine S_Mul64 hc hg (fun p22 h22 l22 e22 q22 r22 s22 t22 => ?_)
  rw [← e22] at hP
  clear e22
  conv => whnf
  refine ⟨rX (rN b13) (rN s22), fun u22 x22 i22 j22 g22 => ?_⟩
  conv => whnf
  refine ⟨rX (rN j22) (rC m21.1 m21.2.2), fun n22 y22 v22 b22 w22 => ?_⟩
  have m22 := mstep (rN b13) (rC m21.1 m21.2.2) q22 r22 s22 i22 v22 b22
  clear q22 r22 s22 t22 i22 j22 g22 v22 w22
  conv => whnf
  refine S_Mul64 hc hh (fun p23 h23 l23 e23 q23 r23 s23 t23 => ?_)
  rw [← e23] at hP
  clear e23
  conv => whnf
  refine ⟨rX (rC m13.1 m13.2.2) (rN s23), fun u23 x23 i23 j23 g23 => ?_⟩
  conv => whnf
  refine ⟨rX (rN j23) (rC m22.1 m22.2.2), fun n23 y23 v23 b23 w23 => ?_⟩
  have m23 := mstep (rC m13.1 m13.2.2) (rC m22.1 m22.2.2) q23 r23 s23 i23 v23 b23
  clear q23 r23 s23 t23 i23 j23 g23 v23 w23
  conv => whnf
  refine loop_rounds mixed 5 ?_
  conv => whnf
  refine S_Mul64 hd he (fun p30 h30 l30 e30 q30 r30 s30 t30 => ?_)
  rw [← e30] at hP
  clear e30
  conv => whnf
  refine ⟨rX (rN b21) (rN s30), fun u30 x30 i30 j30 g30 => ?_⟩
  conv => whnf
  refine ⟨rX (rN j30) r0, fun n30 y30 v30 b30 w30 => ?_⟩
  have m30 := mstep (rN b21) r0 q30 r30 s30 i30 v30 b30
  clear q30 r30 s30 t30 i30 j30 g30 v30 w30
  conv => whnf
  refine S_Mul64 hd hf (fun p31 h31 l31 e31 q31 r31 s31 t31 => ?_)
  rw [← e31] at hP
  clear e31
  conv => whnf
  refine ⟨rX (rN b22) (rN s31), fun u31 x31 i31 j31 g31 => ?_⟩
  conv => whnf
  refine ⟨rX (rN j31) (rC m30.1 m30.2.2), fun n31 y31 v31 b31 w31 => ?_⟩
  have m31 := mstep (rN b22) (rC m30.1 m30.2.2) q31 r31 s31 i31 v31 b31
  clear q31 r31 s31 t31 i31 j31 g31 v31 w31
  conv => whnf
  refine S_Mul64 hd hg (fun p32 h32 l32 e32 q32 r32 s32 t32 => ?_)
  rw [← e32] at hP
  clear e32
  conv => whnf
  refine ⟨rX (rN b23) (rN s32), fun u32 x32 i32 j32 g32 => ?_⟩
  conv => whnf
  refine ⟨rX (rN j32) (rC m31.1 m31.2.2), fun n32 y32 v32 b32 w32 => ?_⟩
  have m32 := mstep (rN b23) (rC m31.1 m31.2.2) q32 r32 s32 i32 v32 b32
  clear q32 r32 s32 t32 i32 j32 g32 v32 w32
  conv => whnf
  refine S_Mul64 hd hh (fun p33 h33 l33 e33 q33 r33 s33 t33 => ?_)
  rw [← e33] at hP
  clear e33
  conv => whnf
  refine ⟨rX (rC m23.1 m23.2.2) (rN s33), fun u33 x33 i33 j33 g33 => ?_⟩
  conv => whnf
  refine ⟨rX (rN j33) (rC m32.1 m32.2.2), fun n33 y33 v33 b33 w33 => ?_⟩
  have m33 := mstep (rC m23.1 m23.2.2) (rC m32.1 m32.2.2) q33 r33 s33 i33 v33 b33
  clear q33 r33 s33 t33 i33 j33 g33 v33 w33
  conv => whnf
  refine ⟨⟨[], rfl⟩, ?_⟩
  conv => whnf
  refine ⟨comb n00 n10 n20 n30, comb n31 n32 n33 (h33 + x33 + y33), ?_, comb_lt b00 b10 b20 b30, comb_lt b31 b32 b33 m33.2.2, ?_, ?_⟩
  · rw [hP]; unfold comb; simp only [w256]
    clear hP
    have z00 := m00.2.1
    have z01 := m01.2.1
    have z02 := m02.2.1
    have z03 := m03.2.1
    have z10 := m10.2.1
    have z11 := m11.2.1
    have z12 := m12.2.1
    have z13 := m13.2.1
    have z20 := m20.2.1
    have z21 := m21.2.1
    have z22 := m22.2.1
    have z23 := m23.2.1
    have z30 := m30.2.1
    have z31 := m31.2.1
    have z32 := m32.2.1
    have z33 := m33.2.1
    rw [m00.1] at z01
    rw [m01.1] at z02
    rw [m02.1] at z03
    rw [m10.1] at z11
    rw [m11.1] at z12
    rw [m12.1] at z13
    rw [m03.1] at z13
    rw [m20.1] at z21
    rw [m21.1] at z22
    rw [m22.1] at z23
    rw [m13.1] at z23
    rw [m30.1] at z31
    rw [m31.1] at z32
    rw [m32.1] at z33
    rw [m23.1] at z33
    exact mulfin z00 z01 z02 z03 z10 z11 z12 z13 z20 z21 z22 z23 z30 z31 z32 z33
  · rw [numA_comb b00 b10 b20 b30, numA_comb b31 b32 b33 m33.2.2]
    unfold u4
    rw [← m33.1]
    rfl
  · exact .tup _ (.cons _ _ (.agg _ (.cons _ _ (.int _ _) (.cons _ _ (.int _ _) (.cons _ _ (.int _ _) (.cons _ _ (.int _ _) .nil))))) (.cons _ _ (.agg _ (.cons _ _ (.int _ _) (.cons _ _ (.int _ _) (.cons _ _ (.int _ _) (.cons _ _ (.int _ _) .nil))))) .nil))

theorem S_LMul {m : Mem} {K : AV → Mem → Prop} {a b : Nat} (ha : a < w256) (hb : b < w256) (h : ∀ lo hi : Nat, a * b = lo + w256 * hi → lo < w256 → hi < w256 → K (.tup [numA lo, numA hi]) m) : ACall Pg F_limb_Mul [numA a, numA b] m K := by
  obtain ⟨a0, a1, a2, a3, rfl, g0, g1, g2, g3⟩ := comb_of ha
  obtain ⟨b0, b1, b2, b3, rfl, k0, k1, k2, k3⟩ := comb_of hb
  refine lift_flat (R := fun v => ∃ lo hi, comb a0 a1 a2 a3 * comb b0 b1 b2 b3 = lo + w256 * hi ∧ lo < w256 ∧ hi < w256 ∧ v = .tup [numA lo, numA hi]) ?_ (args0 := [.agg (u4 a0 a1 a2 a3), .agg (u4 b0 b1 b2 b3)]) (.cons _ _ _ _ ?_ (.cons _ _ _ _ ?_ .nil)) ?_
  · refine (S_LMul0 a0 a1 a2 a3 b0 b1 b2 b3 g0 g1 g2 g3 k0 k1 k2 k3).imp ?_
    rintro v m ⟨lo, hi, h1, h2, h3, h4, h5⟩
    exact ⟨⟨lo, hi, h1, h2, h3, h4⟩, h5⟩
  · rw [numA_comb g0 g1 g2 g3]; exact lend_flat flat_u4
  · rw [numA_comb k0 k1 k2 k3]; exact lend_flat flat_u4
  rintro v ⟨lo, hi, h1, h2, h3, rfl⟩
  exact h lo hi h1 h2 h3

set_option maxHeartbeats 4000000 in
theorem S_RMul0 (a b c d e f g h : Nat) (ha : a < 18446744073709551616) (hb : b < 18446744073709551616) (hc : c < 18446744073709551616) (hd : d < 18446744073709551616) (he : e < 18446744073709551616) (hf : f < 18446744073709551616) (hg : g < 18446744073709551616) (hh : h < 18446744073709551616) :
    ACall Pg F_witanref01_Mul [.agg (u4 a b c d), .agg (u4 e f g h)] [] (fun v _ => ∃ lo hi, comb a b c d * comb e f g h = lo + w256 * hi ∧ lo < w256 ∧ hi < w256 ∧ v = .tup [numA lo, numA hi] ∧ Flat true v) := by
  have hP := mul_comb a b c d e f g h
  refine B_witanref01_Mul ⟨rfl, ?_⟩
  conv => whnf
  refine loop_rounds mixed 5 ?_
  conv => whnf
  refine loop_rounds mixed 5 ?_
  conv => whnf
  refine S_Mul64 ha he (fun p00 h00 l00 e00 q00 r00 s00 t00 => ?_)
  rw [← e00] at hP
  clear e00
  conv => whnf
  refine ⟨rX (rN s00) r0, fun u00 x00 i00 j00 g00 => ?_⟩
  conv => whnf
  refine ⟨rX (rN j00) r0, fun n00 y00 v00 b00 w00 => ?_⟩
  have m00 := mstepR r0 r0 q00 r00 s00 i00 v00 b00
  clear q00 r00 s00 t00 i00 j00 g00 v00 w00
  conv => whnf
  refine S_Mul64 ha hf (fun p01 h01 l01 e01 q01 r01 s01 t01 => ?_)
  rw [← e01] at hP
  clear e01
  conv => whnf
  refine ⟨rX (rN s01) r0, fun u01 x01 i01 j01 g01 => ?_⟩
  conv => whnf
  refine ⟨rX (rN j01) (rC m00.1 m00.2.2), fun n01 y01 v01 b01 w01 => ?_⟩
  have m01 := mstepR r0 (rC m00.1 m00.2.2) q01 r01 s01 i01 v01 b01
  clear q01 r01 s01 t01 i01 j01 g01 v01 w01
  conv => whnf
  refine S_Mul64 ha hg (fun p02 h02 l02 e02 q02 r02 s02 t02 => ?_)
  rw [← e02] at hP
  clear e02
  conv => whnf
  refine ⟨rX (rN s02) r0, fun u02 x02 i02 j02 g02 => ?_⟩
  conv => whnf
  refine ⟨rX (rN j02) (rC m01.1 m01.2.2), fun n02 y02 v02 b02 w02 => ?_⟩
  have m02 := mstepR r0 (rC m01.1 m01.2.2) q02 r02 s02 i02 v02 b02
  clear q02 r02 s02 t02 i02 j02 g02 v02 w02
  conv => whnf
  refine S_Mul64 ha hh (fun p03 h03 l03 e03 q03 r03 s03 t03 => ?_)
  rw [← e03] at hP
  clear e03
  conv => whnf
  refine ⟨rX (rN s03) r0, fun u03 x03 i03 j03 g03 => ?_⟩
  conv => whnf
  refine ⟨rX (rN j03) (rC m02.1 m02.2.2), fun n03 y03 v03 b03 w03 => ?_⟩
  have m03 := mstepR r0 (rC m02.1 m02.2.2) q03 r03 s03 i03 v03 b03
  clear q03 r03 s03 t03 i03 j03 g03 v03 w03
  conv => whnf
  refine loop_rounds mixed 5 ?_
  conv => whnf
  refine S_Mul64 hb he (fun p10 h10 l10 e10 q10 r10 s10 t10 => ?_)
  rw [← e10] at hP
  clear e10
  conv => whnf
  refine ⟨rX (rN s10) (rN b01), fun u10 x10 i10 j10 g10 => ?_⟩
  conv => whnf
  refine ⟨rX (rN j10) r0, fun n10 y10 v10 b10 w10 => ?_⟩
  have m10 := mstepR (rN b01) r0 q10 r10 s10 i10 v10 b10
  clear q10 r10 s10 t10 i10 j10 g10 v10 w10
  conv => whnf
  refine S_Mul64 hb hf (fun p11 h11 l11 e11 q11 r11 s11 t11 => ?_)
  rw [← e11] at hP
  clear e11
  conv => whnf
  refine ⟨rX (rN s11) (rN b02), fun u11 x11 i11 j11 g11 => ?_⟩
  conv => whnf
  refine ⟨rX (rN j11) (rC m10.1 m10.2.2), fun n11 y11 v11 b11 w11 => ?_⟩
  have m11 := mstepR (rN b02) (rC m10.1 m10.2.2) q11 r11 s11 i11 v11 b11
  clear q11 r11 s11 t11 i11 j11 g11 v11 w11
  conv => whnf
  refine S_Mul64 hb hg (fun p12 h12 l12 e12 q12 r12 s12 t12 => ?_)
  rw [← e12] at hP
  clear e12
  conv => whnf
  refine ⟨rX (rN s12) (rN b03), fun u12 x12 i12 j12 g12 => ?_⟩
  conv => whnf
  refine ⟨rX (rN j12) (rC m11.1 m11.2.2), fun n12 y12 v12 b12 w12 => ?_⟩
  have m12 := mstepR (rN b03) (rC m11.1 m11.2.2) q12 r12 s12 i12 v12 b12
  clear q12 r12 s12 t12 i12 j12 g12 v12 w12
  conv => whnf
  refine S_Mul64 hb hh (fun p13 h13 l13 e13 q13 r13 s13 t13 => ?_)
  rw [← e13] at hP
  clear e13
  conv => whnf
  refine ⟨rX (rN s13) (rC m03.1 m03.2.2), fun u13 x13 i13 j13 g13 => ?_⟩
  conv => whnf
  refine ⟨rX (rN j13) (rC m12.1 m12.2.2), fun n13 y13 v13 b13 w13 => ?_⟩
  have m13 := mstepR (rC m03.1 m03.2.2) (rC m12.1 m12.2.2) q13 r13 s13 i13 v13 b13
  clear q13 r13 s13 t13 i13 j13 g13 v13 w13
  conv => whnf
  refine loop_rounds mixed 5 ?_
  conv => whnf
  refine S_Mul64 hc he (fun p20 h20 l20 e20 q20 r20 s20 t20 => ?_)
  rw [← e20] at hP
  clear e20
  conv => whnf
  refine ⟨rX (rN s20) (rN b11), fun u20 x20 i20 j20 g20 => ?_⟩
  conv => whnf
  refine ⟨rX (rN j20) r0, fun n20 y20 v20 b20 w20 => ?_⟩
  have m20 := mstepR (rN b11) r0 q20 r20 s20 i20 v20 b20
  clear q20 r20 s20 t20 i20 j20 g20 v20 w20
  conv => whnf
  refine S_Mul64 hc hf (fun p21 h21 l21 e21 q21 r21 s21 t21 => ?_)
  rw [← e21] at hP
  clear e21
  conv => whnf
  refine ⟨rX (rN s21) (rN b12), fun u21 x21 i21 j21 g21 => ?_⟩
  conv => whnf
  refine ⟨rX (rN j21) (rC m20.1 m20.2.2), fun n21 y21 v21 b21 w21 => ?_⟩
  have m21 := mstepR (rN b12) (rC m20.1 m20.2.2) q21 r21 s21 i21 v21 b21
  clear q21 r21 s21 t21 i21 j21 g21 v21 w21
  conv => whnf
  refine S_Mul64 hc hg (fun p22 h22 l22 e22 q22 r22 s22 t22 => ?_)
  rw [← e22] at hP
  clear e22
  conv => whnf
  refine ⟨rX (rN s22) (rN b13), fun u22 x22 i22 j22 g22 => ?_⟩
  conv => whnf
  refine ⟨rX (rN j22) (rC m21.1 m21.2.2), fun n22 y22 v22 b22 w22 => ?_⟩
  have m22 := mstepR (rN b13) (rC m21.1 m21.2.2) q22 r22 s22 i22 v22 b22
  clear q22 r22 s22 t22 i22 j22 g22 v22 w22
  conv => whnf
  refine S_Mul64 hc hh (fun p23 h23 l23 e23 q23 r23 s23 t23 => ?_)
  rw [← e23] at hP
  clear e23
  conv => whnf
  refine ⟨rX (rN s23) (rC m13.1 m13.2.2), fun u23 x23 i23 j23 g23 => ?_⟩
  conv => whnf
  refine ⟨rX (rN j23) (rC m22.1 m22.2.2), fun n23 y23 v23 b23 w23 => ?_⟩
  have m23 := mstepR (rC m13.1 m13.2.2) (rC m22.1 m22.2.2) q23 r23 s23 i23 v23 b23
  clear q23 r23 s23 t23 i23 j23 g23 v23 w23
  conv => whnf
  refine loop_rounds mixed 5 ?_
  conv => whnf
  refine S_Mul64 hd he (fun p30 h30 l30 e30 q30 r30 s30 t30 => ?_)
  rw [← e30] at hP
  clear e30
  conv => whnf
  refine ⟨rX (rN s30) (rN b21), fun u30 x30 i30 j30 g30 => ?_⟩
  conv => whnf
  refine ⟨rX (rN j30) r0, fun n30 y30 v30 b30 w30 => ?_⟩
  have m30 := mstepR (rN b21) r0 q30 r30 s30 i30 v30 b30
  clear q30 r30 s30 t30 i30 j30 g30 v30 w30
  conv => whnf
  refine S_Mul64 hd hf (fun p31 h31 l31 e31 q31 r31 s31 t31 => ?_)
  rw [← e31] at hP
  clear e31
  conv => whnf
  refine ⟨rX (rN s31) (rN b22), fun u31 x31 i31 j31 g31 => ?_⟩
  conv => whnf
  refine ⟨rX (rN j31) (rC m30.1 m30.2.2), fun n31 y31 v31 b31 w31 => ?_⟩
  have m31 := mstepR (rN b22) (rC m30.1 m30.2.2) q31 r31 s31 i31 v31 b31
  clear q31 r31 s31 t31 i31 j31 g31 v31 w31
  conv => whnf
  refine S_Mul64 hd hg (fun p32 h32 l32 e32 q32 r32 s32 t32 => ?_)
  rw [← e32] at hP
  clear e32
  conv => whnf
  refine ⟨rX (rN s32) (rN b23), fun u32 x32 i32 j32 g32 => ?_⟩
  conv => whnf
  refine ⟨rX (rN j32) (rC m31.1 m31.2.2), fun n32 y32 v32 b32 w32 => ?_⟩
  have m32 := mstepR (rN b23) (rC m31.1 m31.2.2) q32 r32 s32 i32 v32 b32
  clear q32 r32 s32 t32 i32 j32 g32 v32 w32
  conv => whnf
  refine S_Mul64 hd hh (fun p33 h33 l33 e33 q33 r33 s33 t33 => ?_)
  rw [← e33] at hP
  clear e33
  conv => whnf
  refine ⟨rX (rN s33) (rC m23.1 m23.2.2), fun u33 x33 i33 j33 g33 => ?_⟩
  conv => whnf
  refine ⟨rX (rN j33) (rC m32.1 m32.2.2), fun n33 y33 v33 b33 w33 => ?_⟩
  have m33 := mstepR (rC m23.1 m23.2.2) (rC m32.1 m32.2.2) q33 r33 s33 i33 v33 b33
  clear q33 r33 s33 t33 i33 j33 g33 v33 w33
  conv => whnf
  refine ⟨⟨[], rfl⟩, ?_⟩
  conv => whnf
  refine ⟨comb n00 n10 n20 n30, comb n31 n32 n33 (h33 + x33 + y33), ?_, comb_lt b00 b10 b20 b30, comb_lt b31 b32 b33 m33.2.2, ?_, ?_⟩
  · rw [hP]; unfold comb; simp only [w256]
    clear hP
    have z00 := m00.2.1
    have z01 := m01.2.1
    have z02 := m02.2.1
    have z03 := m03.2.1
    have z10 := m10.2.1
    have z11 := m11.2.1
    have z12 := m12.2.1
    have z13 := m13.2.1
    have z20 := m20.2.1
    have z21 := m21.2.1
    have z22 := m22.2.1
    have z23 := m23.2.1
    have z30 := m30.2.1
    have z31 := m31.2.1
    have z32 := m32.2.1
    have z33 := m33.2.1
    rw [m00.1] at z01
    rw [m01.1] at z02
    rw [m02.1] at z03
    rw [m10.1] at z11
    rw [m11.1] at z12
    rw [m12.1] at z13
    rw [m03.1] at z13
    rw [m20.1] at z21
    rw [m21.1] at z22
    rw [m22.1] at z23
    rw [m13.1] at z23
    rw [m30.1] at z31
    rw [m31.1] at z32
    rw [m32.1] at z33
    rw [m23.1] at z33
    exact mulfin z00 z01 z02 z03 z10 z11 z12 z13 z20 z21 z22 z23 z30 z31 z32 z33
  · rw [numA_comb b00 b10 b20 b30, numA_comb b31 b32 b33 m33.2.2]
    unfold u4
    rw [← m33.1]
    rfl
  · exact .tup _ (.cons _ _ (.agg _ (.cons _ _ (.int _ _) (.cons _ _ (.int _ _) (.cons _ _ (.int _ _) (.cons _ _ (.int _ _) .nil))))) (.cons _ _ (.agg _ (.cons _ _ (.int _ _) (.cons _ _ (.int _ _) (.cons _ _ (.int _ _) (.cons _ _ (.int _ _) .nil))))) .nil))

theorem S_RMul {m : Mem} {K : AV → Mem → Prop} {a b : Nat} (ha : a < w256) (hb : b < w256) (h : ∀ lo hi : Nat, a * b = lo + w256 * hi → lo < w256 → hi < w256 → K (.tup [numA lo, numA hi]) m) : ACall Pg F_witanref01_Mul [numA a, numA b] m K := by
  obtain ⟨a0, a1, a2, a3, rfl, g0, g1, g2, g3⟩ := comb_of ha
  obtain ⟨b0, b1, b2, b3, rfl, k0, k1, k2, k3⟩ := comb_of hb
  refine lift_flat (R := fun v => ∃ lo hi, comb a0 a1 a2 a3 * comb b0 b1 b2 b3 = lo + w256 * hi ∧ lo < w256 ∧ hi < w256 ∧ v = .tup [numA lo, numA hi]) ?_ (args0 := [.agg (u4 a0 a1 a2 a3), .agg (u4 b0 b1 b2 b3)]) (.cons _ _ _ _ ?_ (.cons _ _ _ _ ?_ .nil)) ?_
  · refine (S_RMul0 a0 a1 a2 a3 b0 b1 b2 b3 g0 g1 g2 g3 k0 k1 k2 k3).imp ?_
    rintro v m ⟨lo, hi, h1, h2, h3, h4, h5⟩
    exact ⟨⟨lo, hi, h1, h2, h3, h4⟩, h5⟩
  · rw [numA_comb g0 g1 g2 g3]; exact lend_flat flat_u4
  · rw [numA_comb k0 k1 k2 k3]; exact lend_flat flat_u4
  rintro v ⟨lo, hi, h1, h2, h3, rfl⟩
  exact h lo hi h1 h2 h3

end Go.Proofs.Ytmngdaeogbjpiaa
end

section
/- Primes: the little law of Fermat, powers by squaring, and when a number is a prime; no condition. -/
set_option linter.unusedVariables false
namespace Go.Wit

def Prm (p : Nat) : Prop := 2 ≤ p ∧ ∀ d, d ∣ p → d = 1 ∨ d = p

theorem Prm.gcd {p a : Nat} (hp : Prm p) (h : ¬ p ∣ a) : Nat.gcd p a = 1 := by
  rcases hp.2 _ (Nat.gcd_dvd_left p a) with h1 | h1
  · exact h1
  · exact absurd (h1 ▸ Nat.gcd_dvd_right p a) h

theorem Prm.dvd_mul {p a b : Nat} (hp : Prm p) (h : p ∣ a * b) : p ∣ a ∨ p ∣ b := by
  by_cases ha : p ∣ a
  · exact .inl ha
  · exact .inr (Nat.Coprime.dvd_of_dvd_mul_left (hp.gcd ha) h)

def prodL : List Nat → Nat
  | [] => 1
  | a :: l => a * prodL l

theorem prodL_perm {l1 l2 : List Nat} (h : l1.Perm l2) : prodL l1 = prodL l2 := by
  induction h with
  | nil => rfl
  | cons x _ ih => simp only [prodL, ih]
  | swap x y l => simp only [prodL]; rw [← Nat.mul_assoc, ← Nat.mul_assoc, Nat.mul_comm x y]
  | trans _ _ h1 h2 => exact h1.trans h2

theorem perm_of_sub : ∀ {M L : List Nat}, M.Nodup → (∀ x, x ∈ M → x ∈ L) → L.length ≤ M.length → M.Perm L
  | [], L, _, _, hl => by
    cases L with
    | nil => exact .nil
    | cons a l => simp at hl
  | x :: M, L, hn, hs, hl => by
    have hx := hs x (.head _)
    have hn' := List.nodup_cons.1 hn
    have h1 := List.perm_cons_erase hx
    refine (List.Perm.cons x (perm_of_sub hn'.2 (fun y hy => ?_) ?_)).trans h1.symm
    · exact (List.mem_erase_of_ne (fun h => by subst h; exact hn'.1 hy)).2 (hs y (.tail _ hy))
    · rw [List.length_erase_of_mem hx]
      simp only [List.length_cons] at hl
      omega

theorem prodL_mod (p a : Nat) : ∀ (l : List Nat), prodL (l.map fun i => a * i % p) % p = a ^ l.length * prodL l % p
  | [] => by simp [prodL]
  | i :: l => by
    simp only [List.map_cons, prodL, List.length_cons]
    rw [Nat.mul_mod, prodL_mod p a l, Nat.mod_mod, ← Nat.mul_mod, Nat.pow_succ]
    congr 1
    rw [Nat.mul_assoc, Nat.mul_assoc, Nat.mul_left_comm i, Nat.mul_left_comm a]

theorem prodL_not {p : Nat} (hp : Prm p) : ∀ {l : List Nat}, (∀ i, i ∈ l → ¬ p ∣ i) → ¬ p ∣ prodL l
  | [], _, h => by
    have := Nat.le_of_dvd (by simp [prodL]) h
    have := hp.1
    simp [prodL] at *
    omega
  | i :: l, hl, h => by
    rcases hp.dvd_mul (show p ∣ i * prodL l from h) with h | h
    · exact hl i (.head _) h
    · exact prodL_not hp (fun j hj => hl j (.tail _ hj)) h

theorem dvd_of_mod_eq {p x y : Nat} (h : x % p = y % p) (hxy : y ≤ x) : p ∣ x - y := by
  have h1 := Nat.div_add_mod x p
  have h2 := Nat.div_add_mod y p
  have hq : y / p ≤ x / p := Nat.div_le_div_right hxy
  refine ⟨x / p - y / p, ?_⟩
  rw [Nat.mul_sub]
  have : p * (y / p) ≤ p * (x / p) := Nat.mul_le_mul_left p hq
  omega

theorem mod_of_dvd_sub {p x y : Nat} (h : p ∣ x - y) (hxy : y ≤ x) : x % p = y % p := by
  obtain ⟨k, hk⟩ := h
  have : x = y + p * k := by omega
  rw [this, Nat.add_mul_mod_self_left]

theorem cancel_mod {p a b c : Nat} (hp : Prm p) (hc : ¬ p ∣ c) (h : a * c % p = b * c % p) : a % p = b % p := by
  rcases Nat.le_total b a with hab | hab
  · have := dvd_of_mod_eq h (Nat.mul_le_mul_right c hab)
    rw [← Nat.sub_mul] at this
    rcases hp.dvd_mul this with h1 | h1
    · exact mod_of_dvd_sub h1 hab
    · exact absurd h1 hc
  · have := dvd_of_mod_eq h.symm (Nat.mul_le_mul_right c hab)
    rw [← Nat.sub_mul] at this
    rcases hp.dvd_mul this with h1 | h1
    · exact (mod_of_dvd_sub h1 hab).symm
    · exact absurd h1 hc

theorem fermat {p a : Nat} (hp : Prm p) (ha : ¬ p ∣ a) : a ^ (p - 1) % p = 1 := by
  have h2 := hp.1
  let L := List.range' 1 (p - 1)
  have hmem : ∀ i, i ∈ L ↔ 1 ≤ i ∧ i < p := fun i => by
    simp only [L, List.mem_range'_1]
    omega
  have hnot : ∀ i, i ∈ L → ¬ p ∣ i := fun i hi hd => by
    have := (hmem i).1 hi
    have := Nat.le_of_dvd (by omega) hd
    omega
  have hperm : (L.map fun i => a * i % p).Perm L := by
    refine perm_of_sub ?_ (fun x hx => ?_) (by simp)
    · refine List.pairwise_map.2 ?_
      have hL : L.Nodup := List.nodup_range'
      refine List.Pairwise.imp_of_mem (fun {x y} hx hy hne h => ?_) hL
      have h' : x * a % p = y * a % p := by rw [Nat.mul_comm x, Nat.mul_comm y]; exact h
      have := cancel_mod hp ha h'
      rw [Nat.mod_eq_of_lt ((hmem x).1 hx).2, Nat.mod_eq_of_lt ((hmem y).1 hy).2] at this
      exact hne this
    · obtain ⟨i, hi, rfl⟩ := List.mem_map.1 hx
      refine (hmem _).2 ⟨?_, Nat.mod_lt _ (by omega)⟩
      rcases Nat.eq_zero_or_pos (a * i % p) with h | h
      · rcases hp.dvd_mul (Nat.dvd_of_mod_eq_zero h) with h1 | h1
        · exact absurd h1 ha
        · exact absurd h1 (hnot i hi)
      · exact h
  have h1 := prodL_mod p a L
  rw [prodL_perm hperm] at h1
  have h3 : a ^ (p - 1) * prodL L % p = 1 * prodL L % p := by
    rw [Nat.one_mul, h1]; simp [L]
  have := cancel_mod hp (prodL_not hp hnot) h3
  rw [this, Nat.mod_eq_of_lt (by omega)]

theorem pow_gcd {p x : Nat} (hp : 1 < p) : ∀ (m n : Nat), x ^ m % p = 1 → x ^ n % p = 1 → x ^ Nat.gcd m n % p = 1 := by
  intro m n
  induction m, n using Nat.gcd.induction with
  | H0 n => intro _ h; rwa [Nat.gcd_zero_left]
  | H1 m n hm ih =>
    intro h1 h2
    rw [Nat.gcd_rec]
    refine ih ?_ h1
    have h3 : x ^ n % p = x ^ (n % m) % p := by
      have e : n = m * (n / m) + n % m := (Nat.div_add_mod n m).symm
      have e2 : x ^ n = (x ^ m) ^ (n / m) * x ^ (n % m) := by rw [← Nat.pow_mul, ← Nat.pow_add, ← e]
      rw [e2, Nat.mul_mod, Nat.pow_mod, h1, Nat.one_pow, Nat.mod_eq_of_lt hp, Nat.one_mul, Nat.mod_mod]
    rw [← h3]; exact h2

theorem exists_prm : ∀ (n : Nat), 2 ≤ n → ∃ r, Prm r ∧ r ∣ n := by
  intro n
  induction n using Nat.strongRecOn with
  | _ n ih =>
    intro hn
    by_cases h : ∃ d, d ∣ n ∧ d ≠ 1 ∧ d ≠ n
    · obtain ⟨d, hd, h1, h2⟩ := h
      have hpos : 0 < d := Nat.pos_of_dvd_of_pos hd (by omega)
      have hlt : d < n := by have := Nat.le_of_dvd (by omega) hd; omega
      obtain ⟨r, h3, h4⟩ := ih d hlt (by omega)
      exact ⟨r, h3, Nat.dvd_trans h4 hd⟩
    · refine ⟨n, ⟨hn, fun d hd => ?_⟩, Nat.dvd_refl n⟩
      by_cases h1 : d = 1
      · exact .inl h1
      · by_cases h2 : d = n
        · exact .inr h2
        · exact absurd ⟨d, hd, h1, h2⟩ h

theorem prm_of_no {n : Nat} (hn : 2 ≤ n) (h : ∀ r, Prm r → r ∣ n → n < r * r) : Prm n := by
  refine ⟨hn, fun d hd => ?_⟩
  by_cases h1 : d = 1
  · exact .inl h1
  by_cases h2 : d = n
  · exact .inr h2
  exfalso
  obtain ⟨e, he⟩ := hd
  have hd0 : d ≠ 0 := by rintro rfl; omega
  have he0 : e ≠ 0 := by rintro rfl; omega
  have he1 : e ≠ 1 := by rintro rfl; omega
  have key : ∀ x y, n = x * y → 2 ≤ x → x ≤ y → False := by
    intro x y hxy hx hle
    obtain ⟨r, hr, hrx⟩ := exists_prm x hx
    have h3 := h r hr (hxy ▸ Nat.dvd_trans hrx (Nat.dvd_mul_right x y))
    have h4 := Nat.le_of_dvd (by omega) hrx
    have h5 : r * r ≤ x * y := Nat.mul_le_mul h4 (Nat.le_trans h4 hle)
    omega
  rcases Nat.le_total d e with hle | hle
  · exact key d e he (by omega) hle
  · exact key e d (by rw [he, Nat.mul_comm]) (by omega) hle

/-- Powers by squaring. -/
def pwm (m : Nat) (f : Nat) : Nat → Nat → Nat :=
  Nat.rec (motive := fun _ => Nat → Nat → Nat) (fun _ _ => 1 % m) (fun _ ih a e => bif Nat.beq e 0 then 1 % m else bif Nat.beq (e % 2) 1 then ih (a * a % m) (e / 2) * a % m else ih (a * a % m) (e / 2)) f

theorem pwm_eq (m : Nat) : ∀ (f a e : Nat), e < 2 ^ f → pwm m f a e = a ^ e % m
  | 0, a, e, h => by
    have : e = 0 := by simpa using h
    subst this; show 1 % m = _; simp
  | f + 1, a, e, h => by
    show (bif Nat.beq e 0 then 1 % m else bif Nat.beq (e % 2) 1 then pwm m f (a * a % m) (e / 2) * a % m else pwm m f (a * a % m) (e / 2)) = _
    have h2 : e / 2 < 2 ^ f := by rw [Nat.pow_succ] at h; omega
    have h3 := pwm_eq m f (a * a % m) (e / 2) h2
    have h4 : (a * a % m) ^ (e / 2) % m = a ^ (2 * (e / 2)) % m := by
      rw [← Nat.pow_mod, Nat.pow_mul]; congr 2; rw [Nat.pow_two]
    cases h0 : Nat.beq e 0 with
    | true => have := Nat.eq_of_beq_eq_true h0; subst this; simp
    | false =>
      simp only [cond_false]
      cases h1 : Nat.beq (e % 2) 1 with
      | true =>
        have := Nat.eq_of_beq_eq_true h1
        have e1 : a ^ e = a ^ (2 * (e / 2)) * a := by rw [← Nat.pow_succ]; congr 1; omega
        simp only [cond_true]
        rw [h3, h4, e1, Nat.mul_mod, Nat.mod_mod, ← Nat.mul_mod]
      | false =>
        have h5 : e % 2 ≠ 1 := fun h => by rw [h] at h1; cases h1
        have e1 : a ^ e = a ^ (2 * (e / 2)) := by congr 1; omega
        simp only [cond_false]
        rw [h3, h4, e1]

/-- A prime q one below N, and a number a that shows it: then q is one below every prime in N. -/
theorem pock {N q a : Nat} (hq : Prm q) (h : (Nat.blt 1 N && (Nat.beq ((N - 1) % q) 0 && (Nat.beq (pwm N 400 a (N - 1)) 1 && (Nat.beq (Nat.gcd (pwm N 400 a ((N - 1) / q) + (N - 1)) N) 1 && Nat.blt N (2 ^ 400))))) = true) :
    ∀ r, Prm r → r ∣ N → q ∣ r - 1 := by
  intro r hr hrN
  simp only [Bool.and_eq_true, Nat.blt_eq] at h
  obtain ⟨hN, h1, h2, h3, h4⟩ := h
  have h1 := Nat.eq_of_beq_eq_true h1
  have h2 := Nat.eq_of_beq_eq_true h2
  have h3 := Nat.eq_of_beq_eq_true h3
  rw [pwm_eq _ _ _ _ (by omega)] at h2
  rw [pwm_eq _ _ _ _ (Nat.lt_of_le_of_lt (Nat.div_le_self _ _) (by omega))] at h3
  have hr1 := hr.1
  have down : ∀ x, x % N % r = x % r := fun x => Nat.mod_mod_of_dvd x hrN
  have ha : a ^ (N - 1) % r = 1 := by rw [← down, h2, Nat.mod_eq_of_lt (by omega)]
  have hra : ¬ r ∣ a := fun hd => by
    have : r ∣ a ^ (N - 1) := Nat.dvd_trans hd (Nat.dvd_trans (by rw [Nat.pow_one]; exact Nat.dvd_refl a) (Nat.pow_dvd_pow a (show 1 ≤ N - 1 by omega)))
    rw [Nat.mod_eq_zero_of_dvd this] at ha
    cases ha
  obtain ⟨k, hk⟩ := Nat.dvd_of_mod_eq_zero h1
  have hq0 : 0 < q := by have := hq.1; omega
  have hdiv : (N - 1) / q = k := by rw [hk, Nat.mul_div_cancel_left k hq0]
  rw [hdiv] at h3
  have hb : (a ^ k) ^ q % r = 1 := by rw [← Nat.pow_mul, Nat.mul_comm, ← hk]; exact ha
  have hf : (a ^ k) ^ (r - 1) % r = 1 := by
    refine fermat hr (fun hd => ?_)
    have hkk : ∀ j, r ∣ a ^ j → False := fun j => by
      induction j with
      | zero => intro h; have := Nat.le_of_dvd (by simp) h; simp at this; omega
      | succ j ih => intro h; rw [Nat.pow_succ] at h; exact (hr.dvd_mul h).elim ih hra
    exact hkk k hd
  have hg := pow_gcd (x := a ^ k) (by omega : 1 < r) q (r - 1) hb hf
  rcases hq.2 _ (Nat.gcd_dvd_left q (r - 1)) with h5 | h5
  · exfalso
    rw [h5, Nat.pow_one] at hg
    have h6 : (a ^ k % N + (N - 1)) % r = 0 := by
      have h8 : (1 + (N - 1)) % r = 0 := by rw [show 1 + (N - 1) = N by omega]; exact Nat.mod_eq_zero_of_dvd hrN
      rw [Nat.add_mod, down, hg, ← h8, Nat.add_mod 1 (N - 1) r, Nat.mod_eq_of_lt (show 1 < r by omega)]
    have h7 := Nat.dvd_gcd (Nat.dvd_of_mod_eq_zero h6) hrN
    rw [h3] at h7
    have := Nat.le_of_dvd (by omega) h7
    omega
  · rw [← h5]; exact Nat.gcd_dvd_right q (r - 1)

theorem prm_of_big {N F : Nat} (hN : (Nat.blt 1 N && Nat.blt N ((F + 1) * (F + 1))) = true) (h : ∀ r, Prm r → r ∣ N → F ∣ r - 1) : Prm N := by
  simp only [Bool.and_eq_true, Nat.blt_eq] at hN
  refine prm_of_no (by omega) (fun r hr hd => ?_)
  have h1 := hr.1
  have h2 := Nat.le_of_dvd (by omega) (h r hr hd)
  exact Nat.lt_of_lt_of_le hN.2 (Nat.mul_le_mul (by omega) (by omega))

theorem both_dvd {a b N : Nat} (hc : Nat.beq (Nat.gcd a b) 1 = true) (h1 : ∀ r, Prm r → r ∣ N → a ∣ r - 1) (h2 : ∀ r, Prm r → r ∣ N → b ∣ r - 1) : ∀ r, Prm r → r ∣ N → a * b ∣ r - 1 :=
  fun r hr hd => Nat.Coprime.mul_dvd_of_dvd_of_dvd (Nat.eq_of_beq_eq_true hc) (h1 r hr hd) (h2 r hr hd)

/-- Small primes by trial. -/
def trial (n : Nat) (f : Nat) : Nat → Bool :=
  Nat.rec (motive := fun _ => Nat → Bool) (fun _ => false) (fun _ ih d => bif Nat.blt n (d * d) then true else bif Nat.beq (n % d) 0 then false else ih (d + 1)) f

theorem trial_ok {n : Nat} : ∀ (f d : Nat), trial n f d = true → ∀ e, d ≤ e → e * e ≤ n → 1 < e → ¬ e ∣ n
  | 0, d, h => by cases h
  | f + 1, d, h => by
    change (bif Nat.blt n (d * d) then true else bif Nat.beq (n % d) 0 then false else trial n f (d + 1)) = true at h
    intro e hde hen h1
    cases h2 : Nat.blt n (d * d) with
    | true =>
      have := Nat.blt_eq.mp h2
      have := Nat.mul_le_mul hde hde
      omega
    | false =>
      rw [h2] at h
      cases h3 : Nat.beq (n % d) 0 with
      | true => rw [h3] at h; cases h
      | false =>
        rw [h3] at h
        rcases Nat.eq_or_lt_of_le hde with rfl | hlt
        · intro hd
          rw [Nat.mod_eq_zero_of_dvd hd] at h3
          cases h3
        · exact trial_ok f (d + 1) h e hlt hen h1

theorem prm_small {n : Nat} (h : (Nat.blt 1 n && trial n 2000 2) = true) : Prm n := by
  simp only [Bool.and_eq_true, Nat.blt_eq] at h
  refine prm_of_no (by omega) (fun r hr hd => ?_)
  rcases Nat.lt_or_ge n (r * r) with h1 | h1
  · exact h1
  · exact absurd hd (trial_ok 2000 2 h.2 r hr.1 h1 hr.1)

end Go.Wit
end

section
/- The two moduli are primes; no condition. -/
set_option linter.unusedVariables false
set_option maxRecDepth 100000
namespace Go.Wit

theorem prm_53 : Prm 53 := prm_small (by decide +kernel)
theorem prm_29 : Prm 29 := prm_small (by decide +kernel)
theorem prm_7 : Prm 7 := prm_small (by decide +kernel)
theorem prm_107590001 : Prm 107590001 := prm_of_big (by decide +kernel) (both_dvd (by decide +kernel) (both_dvd (by decide +kernel) (pock (a := 2) prm_53 (by decide +kernel)) (pock (a := 2) prm_29 (by decide +kernel))) (pock (a := 2) prm_7 (by decide +kernel)))
theorem prm_1206781 : Prm 1206781 := prm_small (by decide +kernel)
theorem prm_7240687 : Prm 7240687 := prm_of_big (by decide +kernel) (pock (a := 2) prm_1206781 (by decide +kernel))
theorem prm_96557 : Prm 96557 := prm_small (by decide +kernel)
theorem prm_255515944373312847190720520512484175977 : Prm 255515944373312847190720520512484175977 := prm_of_big (by decide +kernel) (both_dvd (by decide +kernel) (both_dvd (by decide +kernel) (pock (a := 2) prm_107590001 (by decide +kernel)) (pock (a := 2) prm_7240687 (by decide +kernel))) (pock (a := 2) prm_96557 (by decide +kernel)))
theorem prm_205115282021455665897114700593932402728804164701536103180137503955397371 : Prm 205115282021455665897114700593932402728804164701536103180137503955397371 := prm_of_big (by decide +kernel) (pock (a := 2) prm_255515944373312847190720520512484175977 (by decide +kernel))
theorem prm_115792089237316195423570985008687907853269984665640564039457584007908834671663 : Prm 115792089237316195423570985008687907853269984665640564039457584007908834671663 := prm_of_big (by decide +kernel) (pock (a := 2) prm_205115282021455665897114700593932402728804164701536103180137503955397371 (by decide +kernel))
theorem prm_1627771 : Prm 1627771 := prm_small (by decide +kernel)
theorem prm_297159362677 : Prm 297159362677 := prm_of_big (by decide +kernel) (pock (a := 2) prm_1627771 (by decide +kernel))
theorem prm_28181 : Prm 28181 := prm_small (by decide +kernel)
theorem prm_545358713 : Prm 545358713 := prm_of_big (by decide +kernel) (pock (a := 2) prm_28181 (by decide +kernel))
theorem prm_29047611873442575647497758179 : Prm 29047611873442575647497758179 := prm_of_big (by decide +kernel) (both_dvd (by decide +kernel) (pock (a := 2) prm_297159362677 (by decide +kernel)) (pock (a := 2) prm_545358713 (by decide +kernel)))
theorem prm_341948486974166000522343609283189 : Prm 341948486974166000522343609283189 := prm_of_big (by decide +kernel) (pock (a := 2) prm_29047611873442575647497758179 (by decide +kernel))
theorem prm_9349 : Prm 9349 := prm_small (by decide +kernel)
theorem prm_44706919 : Prm 44706919 := prm_of_big (by decide +kernel) (pock (a := 2) prm_9349 (by decide +kernel))
theorem prm_120233 : Prm 120233 := prm_small (by decide +kernel)
theorem prm_174723607534414371449 : Prm 174723607534414371449 := prm_of_big (by decide +kernel) (both_dvd (by decide +kernel) (pock (a := 2) prm_44706919 (by decide +kernel)) (pock (a := 2) prm_120233 (by decide +kernel)))
theorem prm_115792089237316195423570985008687907852837564279074904382605163141518161494337 : Prm 115792089237316195423570985008687907852837564279074904382605163141518161494337 := prm_of_big (by decide +kernel) (both_dvd (by decide +kernel) (pock (a := 2) prm_341948486974166000522343609283189 (by decide +kernel)) (pock (a := 2) prm_174723607534414371449 (by decide +kernel)))

abbrev pP : Nat := 115792089237316195423570985008687907853269984665640564039457584007908834671663
abbrev nN : Nat := 115792089237316195423570985008687907852837564279074904382605163141518161494337
theorem prmP : Prm pP := prm_115792089237316195423570985008687907853269984665640564039457584007908834671663
theorem prmN : Prm nN := prm_115792089237316195423570985008687907852837564279074904382605163141518161494337

end Go.Wit
end

section
/- What is left of numbers modulo the two primes; no condition. -/
set_option linter.unusedVariables false
set_option linter.unusedSimpArgs false
set_option maxRecDepth 100000
set_option pp.maxSteps 300
namespace Go.Proofs.Ytmngdaeogbjpiaa
open Go Go.Wit

theorem flat_numG {nv : Bool} {n i : Nat} : Flat nv ((numL n).getD i .un) := by
  unfold numL
  match i with
  | 0 => exact .int _ _
  | 1 => exact .int _ _
  | 2 => exact .int _ _
  | 3 => exact .int _ _
  | i + 4 => simp; exact .un

theorem flat_u4G {nv : Bool} {a b c d i : Nat} : Flat nv ((u4 a b c d).getD i .un) := by
  unfold u4
  match i with
  | 0 => exact .int _ _
  | 1 => exact .int _ _
  | 2 => exact .int _ _
  | 3 => exact .int _ _
  | i + 4 => simp; exact .un

theorem S_LSubz {m : Mem} {K : AV → Mem → Prop} {b : Nat} (hb : b < w256) (h : ∀ s c : Nat, 0 + c * w256 = b + s → s < w256 → c ≤ 1 → K (.tup [numA s, .int .u64 c]) m) : ACall Pg F_limb_Sub [.agg (u4 0 0 0 0), numA b] m K := by
  have := S_LSub (K := K) (a := comb 0 0 0 0) (by decide) hb h
  rwa [numA_comb (by decide) (by decide) (by decide) (by decide)] at this

theorem S_LAddc {m : Mem} {K : AV → Mem → Prop} {a b : Nat} (ha : a < w256) (hb : b < 18446744073709551616) (h : ∀ s c : Nat, a + b = s + c * w256 → s < w256 → c ≤ 1 → K (.tup [numA s, .int .u64 c]) m) : ACall Pg F_limb_Add [numA a, .agg (u4 b 0 0 0)] m K := by
  have e : comb b 0 0 0 = b := by unfold comb; omega
  have := S_LAdd (K := K) ha (b := comb b 0 0 0) (by rw [e]; simp only [w256]; omega) (by rw [e]; exact h)
  rwa [numA_comb hb (by decide) (by decide) (by decide)] at this

theorem mod_step {a b l h c s cy t m : Nat} (hm : m + c = w256) (h1 : b * c = l + w256 * h) (h2 : a + l = s + cy * w256) (h3 : h + cy = t) : (s + w256 * t) % m = (a + w256 * b) % m ∧ s + w256 * t + m * b = a + w256 * b := by
  have e : s + w256 * t + m * b = a + w256 * b := by
    have e1 : w256 * b = m * b + b * c := by rw [← hm, Nat.add_mul, Nat.mul_comm c b]
    have e2 : w256 * t = w256 * h + w256 * cy := by rw [← h3, Nat.mul_add]
    rw [Nat.mul_comm cy] at h2
    omega
  exact ⟨by rw [← e, Nat.add_mul_mod_self_left], e⟩

theorem S_fold0 (lo hi c : Nat) (hlo : lo < w256) (hhi : hi < w256) (hc0 : 0 < c) (hc : c < 1606938044258990275541962092341162602522202993782792835301376) :
    ACall Pg F_field_fold [numA lo, numA hi, numA c] [] (fun v _ => v = numA ((lo + w256 * hi) % (w256 - c)) ∧ Flat true v) := by
  have hcw : c < w256 := by simp only [w256]; omega
  refine B_field_fold ⟨rfl, ?_⟩
  conv => whnf
  refine loop_wk mixed (I := fun q l m => ∃ a b, l = [(3, .ptr 0 0 0), (4, .ptr 1 0 0), (5, .ptr 2 0 0), (6, .ptr 3 0 0)] ∧ m = [some ⟨1, 4, lstG 1 (numL a)⟩, some ⟨1, 4, lstG 1 (numL b)⟩, some ⟨1, 4, lstG 1 (numL c)⟩, some ⟨1, 4, lstG 1 (u4 0 0 0 0)⟩] ∧
      q = a + w256 * b ∧ a < w256 ∧ b < w256 ∧ (a + w256 * b) % (w256 - c) = (lo + w256 * hi) % (w256 - c)) (lo + w256 * hi)
    (l0 := [(3, .ptr 0 0 0), (4, .ptr 1 0 0), (5, .ptr 2 0 0), (6, .ptr 3 0 0)]) (m0 := [some ⟨1, 4, lstG 1 (numL lo)⟩, some ⟨1, 4, lstG 1 (numL hi)⟩, some ⟨1, 4, lstG 1 (numL c)⟩, some ⟨1, 4, lstG 1 (u4 0 0 0 0)⟩])
    [some 0, some 1, some 2, some 3] ⟨lo, hi, rfl, rfl, rfl, hlo, hhi, rfl⟩ ?_ ?_
  · refine .mk0 ⟨.ptr _ _ _ _ rfl, .ptr _ _ _ _ rfl, .ptr _ _ _ _ rfl, .ptr _ _ _ _ rfl, trivial⟩ ⟨.old 0 0 _ _ rfl rfl ⟨rfl, Nat.le_refl _, fun i j hi hj => .eq _ _ rfl flat_numG⟩, .old 1 1 _ _ rfl rfl ⟨rfl, Nat.le_refl _, fun i j hi hj => .eq _ _ rfl flat_numG⟩,
      .old 2 2 _ _ rfl rfl ⟨rfl, Nat.le_refl _, fun i j hi hj => .eq _ _ rfl flat_numG⟩, .old 3 3 _ _ rfl rfl ⟨rfl, Nat.le_refl _, fun i j hi hj => ?_⟩, trivial⟩ rfl rfl
    have hj : j < 1 := hj
    have hi : i < 4 := hi
    obtain rfl : j = 0 := by omega
    have : i = 0 ∨ i = 1 ∨ i = 2 ∨ i = 3 := by omega
    rcases this with rfl | rfl | rfl | rfl <;> exact .eq _ _ rfl (.int _ _)
  · rintro q l m ⟨a, b, rfl, rfl, hq, ha, hb, hmod⟩
    conv => whnf
    refine c_nez hb (fun hne => ?_) (fun h0 => ?_)
    · conv => whnf
      refine S_LMul hb hcw (fun l h e1 l1 h1 => ?_)
      conv => whnf
      refine S_LAdd ha l1 (fun s cy e2 s1 c1 => ?_)
      conv => whnf
      refine S_LAddc h1 (by omega) (fun t cy2 e3 t1 c2 => ?_)
      conv => whnf
      have hm : w256 - c + c = w256 := by omega
      have e4 : h + cy = t := by
        have : h < c := by
          have h5 : w256 * h < w256 * c := by
            have : b * c ≤ (w256 - 1) * c := Nat.mul_le_mul_right c (by omega)
            have : (w256 - 1) * c + c = w256 * c := by rw [← Nat.succ_mul]; rfl
            omega
          exact Nat.lt_of_mul_lt_mul_left h5
        simp only [w256] at *; omega
      obtain ⟨k1, k2⟩ := mod_step hm e1 e2 e4
      refine ⟨s + w256 * t, _, _, [some 0, some 1, some 2, some 3], ?_, ⟨s, t, rfl, rfl, rfl, s1, t1, k1.trans hmod⟩, ?_⟩
      · have : 0 < (w256 - c) * b := Nat.mul_pos (by omega) (by omega)
        omega
      · refine .mk0 ⟨.ptr _ _ _ _ rfl, .ptr _ _ _ _ rfl, .ptr _ _ _ _ rfl, .ptr _ _ _ _ rfl, trivial⟩ ⟨.old 0 0 _ _ rfl rfl ⟨rfl, Nat.le_refl _, fun i j hi hj => .eq _ _ rfl flat_numG⟩, .old 1 1 _ _ rfl rfl ⟨rfl, Nat.le_refl _, fun i j hi hj => .eq _ _ rfl flat_numG⟩,
          .old 2 2 _ _ rfl rfl ⟨rfl, Nat.le_refl _, fun i j hi hj => .eq _ _ rfl flat_numG⟩, .old 3 3 _ _ rfl rfl ⟨rfl, Nat.le_refl _, fun i j hi hj => .eq _ _ rfl flat_u4G⟩, trivial⟩ rfl rfl
    · subst h0
      conv => whnf
      refine S_LSubz hcw (fun n bw e1 n1 b1 => ?_)
      have hn : n = w256 - c := by simp only [w256] at *; omega
      conv => whnf
      refine S_LCmp ha n1 (fun r hr => ?_)
      conv => whnf
      have ha2 : a % n = (lo + w256 * hi) % n := by rw [hn, ← hmod, Nat.mul_zero, Nat.add_zero]
      rw [← hn]
      refine condB_mk (fun q => ?_) (fun q => ?_)
      · conv => whnf
        refine S_LSub ha n1 (fun s bw2 e2 s1 b2 => ?_)
        conv => whnf
        have hge : n ≤ a := by
          unfold cmpZ at hr
          split at hr
          · simp [hr] at q
          · omega
        have e3 : (lo + w256 * hi) % n = s := by
          have : s = a - n := by simp only [w256] at *; omega
          rw [← ha2, this, Nat.mod_eq_sub_mod hge, Nat.mod_eq_of_lt (by simp only [w256] at *; omega)]
        rw [e3]
        exact ⟨rfl, flat_numA⟩
      · conv => whnf
        have hlt : a < n := by
          unfold cmpZ at hr
          split at hr
          · assumption
          · split at hr <;> simp [hr] at q
        rw [← ha2, Nat.mod_eq_of_lt hlt]
        exact ⟨rfl, flat_numA⟩
end Go.Proofs.Ytmngdaeogbjpiaa
end

section
/- The field functions of the program, for both primes; no condition. -/
set_option linter.unusedVariables false
set_option linter.unusedSimpArgs false
set_option maxRecDepth 100000
set_option pp.maxSteps 300
namespace Go.Proofs.Ytmngdaeogbjpiaa
open Go Go.Wit

theorem S_fold {m : Mem} {K : AV → Mem → Prop} {lo hi c md : Nat} (hlo : lo < w256) (hhi : hi < w256) (hc0 : 0 < c) (hc : c < 1606938044258990275541962092341162602522202993782792835301376) (hm : md + c = w256) (h : ∀ r, r = (lo + w256 * hi) % md → K (numA r) m) : ACall Pg F_field_fold [numA lo, numA hi, numA c] m K := by
  refine lift_flat (S_fold0 lo hi c hlo hhi hc0 hc) (.cons _ _ _ _ lend_numA (.cons _ _ _ _ lend_numA (.cons _ _ _ _ lend_numA .nil))) ?_
  rintro v rfl
  rw [show w256 - c = md by omega]
  exact h _ rfl
theorem S_foldc {m : Mem} {K : AV → Mem → Prop} {lo hi c md : Nat} (hlo : lo < w256) (hhi : hi < 18446744073709551616) (hc0 : 0 < c) (hc : c < 1606938044258990275541962092341162602522202993782792835301376) (hm : md + c = w256) (h : ∀ r, r = (lo + w256 * hi) % md → K (numA r) m) : ACall Pg F_field_fold [numA lo, .agg (u4 hi 0 0 0), numA c] m K := by
  have e : comb hi 0 0 0 = hi := by unfold comb; omega
  have := S_fold (K := K) hlo (hi := comb hi 0 0 0) (by rw [e]; simp only [w256]; omega) hc0 hc hm (by rw [e]; exact h)
  rwa [numA_comb hhi (by decide) (by decide) (by decide)] at this
theorem numA_0 : numA 0 = .agg (u4 0 0 0 0) := numA_comb (a := 0) (b := 0) (c := 0) (d := 0) (by decide) (by decide) (by decide) (by decide)

theorem c_0 : comb 4294968273 0 0 0 = 4294968273 := by decide
theorem m_0 : pP + 4294968273 = w256 := by decide
theorem S_less_0 {m : Mem} {K : AV → Mem → Prop} (h : K (.tup [numA 4294968273, .bool true]) m) : ACall Pg F_field_less [.int .i64 0] m K := by
  have h0 : ACall Pg F_field_less [.int .i64 0] [] (fun v _ => v = .tup [numA 4294968273, .bool true] ∧ Flat true v) := by
    refine B_field_less ⟨rfl, ?_⟩
    conv => whnf
    rw [← c_0, numA_comb (by decide) (by decide) (by decide) (by decide)]
    exact ⟨rfl, .tup _ (.cons _ _ flat_u4 (.cons _ _ (.bool _) .nil))⟩
  refine lift_flat h0 (.cons _ _ _ _ lend_int .nil) ?_
  rintro v rfl
  exact h
theorem S_Prime_0 {m : Mem} {K : AV → Mem → Prop} (h : ∀ r, r = pP → K (numA r) m) : ACall Pg F_field_Prime [.int .i64 0] m K := by
  have h0 : ACall Pg F_field_Prime [.int .i64 0] [] (fun v _ => v = numA pP ∧ Flat true v) := by
    refine B_field_Prime ⟨rfl, ?_⟩
    conv => whnf
    refine S_less_0 ?_
    conv => whnf
    refine S_LSubz (by decide) (fun s q e s1 c1 => ?_)
    conv => whnf
    have : s = pP := by
      have hm := m_0
      have hq : q = 0 ∨ q = 1 := by omega
      rcases hq with rfl | rfl <;> omega
    subst this
    exact ⟨rfl, flat_numA⟩
  refine lift_flat h0 (.cons _ _ _ _ lend_int .nil) ?_
  rintro v rfl
  exact h _ rfl
theorem S_Red_0 {m : Mem} {K : AV → Mem → Prop} {a : Nat} (ha : a < w256) (h : ∀ r, r = a % pP → K (numA r) m) : ACall Pg F_field_Red [.int .i64 0, numA a] m K := by
  have h0 : ACall Pg F_field_Red [.int .i64 0, numA a] [] (fun v _ => v = numA (a % pP) ∧ Flat true v) := by
    refine B_field_Red ⟨rfl, ?_⟩
    conv => whnf
    refine S_less_0 ?_
    conv => whnf
    refine S_foldc (hi := 0) ha (by decide) (by decide) (by decide) m_0 (fun r hr => ?_)
    conv => whnf
    rw [Nat.mul_zero, Nat.add_zero] at hr
    rw [← hr]
    exact ⟨rfl, flat_numA⟩
  refine lift_flat h0 (.cons _ _ _ _ lend_int (.cons _ _ _ _ lend_numA .nil)) ?_
  rintro v rfl
  exact h _ rfl
theorem S_FAdd_0 {m : Mem} {K : AV → Mem → Prop} {a b : Nat} (ha : a < w256) (hb : b < w256) (h : ∀ r, r = (a + b) % pP → K (numA r) m) : ACall Pg F_field_Add [.int .i64 0, numA a, numA b] m K := by
  have h0 : ACall Pg F_field_Add [.int .i64 0, numA a, numA b] [] (fun v _ => v = numA ((a + b) % pP) ∧ Flat true v) := by
    refine B_field_Add ⟨rfl, ?_⟩
    conv => whnf
    refine S_less_0 ?_
    conv => whnf
    refine S_LAdd ha hb (fun s q e s1 c1 => ?_)
    conv => whnf
    refine S_foldc s1 (by omega) (by decide) (by decide) m_0 (fun r hr => ?_)
    conv => whnf
    rw [e, Nat.mul_comm q, ← hr]
    exact ⟨rfl, flat_numA⟩
  refine lift_flat h0 (.cons _ _ _ _ lend_int (.cons _ _ _ _ lend_numA (.cons _ _ _ _ lend_numA .nil))) ?_
  rintro v rfl
  exact h _ rfl
theorem S_FMul_0 {m : Mem} {K : AV → Mem → Prop} {a b : Nat} (ha : a < w256) (hb : b < w256) (h : ∀ r, r = a * b % pP → K (numA r) m) : ACall Pg F_field_Mul [.int .i64 0, numA a, numA b] m K := by
  have h0 : ACall Pg F_field_Mul [.int .i64 0, numA a, numA b] [] (fun v _ => v = numA (a * b % pP) ∧ Flat true v) := by
    refine B_field_Mul ⟨rfl, ?_⟩
    conv => whnf
    refine S_less_0 ?_
    conv => whnf
    refine S_LMul ha hb (fun lo hi e l1 h1 => ?_)
    conv => whnf
    refine S_fold l1 h1 (by decide) (by decide) m_0 (fun r hr => ?_)
    conv => whnf
    rw [e, ← hr]
    exact ⟨rfl, flat_numA⟩
  refine lift_flat h0 (.cons _ _ _ _ lend_int (.cons _ _ _ _ lend_numA (.cons _ _ _ _ lend_numA .nil))) ?_
  rintro v rfl
  exact h _ rfl
theorem S_FSub_0 {m : Mem} {K : AV → Mem → Prop} {a b : Nat} (ha : a < w256) (hb : b < w256) (h : ∀ r, r = (a + (pP - b % pP)) % pP → K (numA r) m) : ACall Pg F_field_Sub [.int .i64 0, numA a, numA b] m K := by
  have h0 : ACall Pg F_field_Sub [.int .i64 0, numA a, numA b] [] (fun v _ => v = numA ((a + (pP - b % pP)) % pP) ∧ Flat true v) := by
    refine B_field_Sub ⟨rfl, ?_⟩
    conv => whnf
    refine S_less_0 ?_
    conv => whnf
    refine S_Prime_0 (fun p hp => ?_)
    conv => whnf
    try (refine ⟨⟨[], rfl⟩, ?_⟩; conv => whnf)
    refine S_Red_0 hb (fun r hr => ?_)
    conv => whnf
    try (refine ⟨⟨[], rfl⟩, ?_⟩; conv => whnf)
    have hr1 : r < pP := by rw [hr]; exact Nat.mod_lt _ (by decide)
    have hp1 : p < w256 := by rw [hp]; decide
    refine S_LSub hp1 (by rw [hp] at hp1; omega) (fun s q e s1 c1 => ?_)
    conv => whnf
    try (refine ⟨⟨[], rfl⟩, ?_⟩; conv => whnf)
    refine S_FAdd_0 ha s1 (fun t ht => ?_)
    conv => whnf
    have hs : s = pP - b % pP := by
      rw [← hr, ← hp]
      rw [hp] at hp1
      simp only [w256] at *
      omega
    rw [← hs, ← ht]
    exact ⟨rfl, flat_numA⟩
  refine lift_flat h0 (.cons _ _ _ _ lend_int (.cons _ _ _ _ lend_numA (.cons _ _ _ _ lend_numA .nil))) ?_
  rintro v rfl
  exact h _ rfl

theorem c_1 : comb 4624529908474429119 4994812053365940164 1 0 = 432420386565659656852420866394968145599 := by decide
theorem m_1 : nN + 432420386565659656852420866394968145599 = w256 := by decide
theorem S_less_1 {m : Mem} {K : AV → Mem → Prop} (h : K (.tup [numA 432420386565659656852420866394968145599, .bool true]) m) : ACall Pg F_field_less [.int .i64 1] m K := by
  have h0 : ACall Pg F_field_less [.int .i64 1] [] (fun v _ => v = .tup [numA 432420386565659656852420866394968145599, .bool true] ∧ Flat true v) := by
    refine B_field_less ⟨rfl, ?_⟩
    conv => whnf
    rw [← c_1, numA_comb (by decide) (by decide) (by decide) (by decide)]
    exact ⟨rfl, .tup _ (.cons _ _ flat_u4 (.cons _ _ (.bool _) .nil))⟩
  refine lift_flat h0 (.cons _ _ _ _ lend_int .nil) ?_
  rintro v rfl
  exact h
theorem S_Prime_1 {m : Mem} {K : AV → Mem → Prop} (h : ∀ r, r = nN → K (numA r) m) : ACall Pg F_field_Prime [.int .i64 1] m K := by
  have h0 : ACall Pg F_field_Prime [.int .i64 1] [] (fun v _ => v = numA nN ∧ Flat true v) := by
    refine B_field_Prime ⟨rfl, ?_⟩
    conv => whnf
    refine S_less_1 ?_
    conv => whnf
    refine S_LSubz (by decide) (fun s q e s1 c1 => ?_)
    conv => whnf
    have : s = nN := by
      have hm := m_1
      have hq : q = 0 ∨ q = 1 := by omega
      rcases hq with rfl | rfl <;> omega
    subst this
    exact ⟨rfl, flat_numA⟩
  refine lift_flat h0 (.cons _ _ _ _ lend_int .nil) ?_
  rintro v rfl
  exact h _ rfl
theorem S_Red_1 {m : Mem} {K : AV → Mem → Prop} {a : Nat} (ha : a < w256) (h : ∀ r, r = a % nN → K (numA r) m) : ACall Pg F_field_Red [.int .i64 1, numA a] m K := by
  have h0 : ACall Pg F_field_Red [.int .i64 1, numA a] [] (fun v _ => v = numA (a % nN) ∧ Flat true v) := by
    refine B_field_Red ⟨rfl, ?_⟩
    conv => whnf
    refine S_less_1 ?_
    conv => whnf
    refine S_foldc (hi := 0) ha (by decide) (by decide) (by decide) m_1 (fun r hr => ?_)
    conv => whnf
    rw [Nat.mul_zero, Nat.add_zero] at hr
    rw [← hr]
    exact ⟨rfl, flat_numA⟩
  refine lift_flat h0 (.cons _ _ _ _ lend_int (.cons _ _ _ _ lend_numA .nil)) ?_
  rintro v rfl
  exact h _ rfl
theorem S_FAdd_1 {m : Mem} {K : AV → Mem → Prop} {a b : Nat} (ha : a < w256) (hb : b < w256) (h : ∀ r, r = (a + b) % nN → K (numA r) m) : ACall Pg F_field_Add [.int .i64 1, numA a, numA b] m K := by
  have h0 : ACall Pg F_field_Add [.int .i64 1, numA a, numA b] [] (fun v _ => v = numA ((a + b) % nN) ∧ Flat true v) := by
    refine B_field_Add ⟨rfl, ?_⟩
    conv => whnf
    refine S_less_1 ?_
    conv => whnf
    refine S_LAdd ha hb (fun s q e s1 c1 => ?_)
    conv => whnf
    refine S_foldc s1 (by omega) (by decide) (by decide) m_1 (fun r hr => ?_)
    conv => whnf
    rw [e, Nat.mul_comm q, ← hr]
    exact ⟨rfl, flat_numA⟩
  refine lift_flat h0 (.cons _ _ _ _ lend_int (.cons _ _ _ _ lend_numA (.cons _ _ _ _ lend_numA .nil))) ?_
  rintro v rfl
  exact h _ rfl
theorem S_FMul_1 {m : Mem} {K : AV → Mem → Prop} {a b : Nat} (ha : a < w256) (hb : b < w256) (h : ∀ r, r = a * b % nN → K (numA r) m) : ACall Pg F_field_Mul [.int .i64 1, numA a, numA b] m K := by
  have h0 : ACall Pg F_field_Mul [.int .i64 1, numA a, numA b] [] (fun v _ => v = numA (a * b % nN) ∧ Flat true v) := by
    refine B_field_Mul ⟨rfl, ?_⟩
    conv => whnf
    refine S_less_1 ?_
    conv => whnf
    refine S_LMul ha hb (fun lo hi e l1 h1 => ?_)
    conv => whnf
    refine S_fold l1 h1 (by decide) (by decide) m_1 (fun r hr => ?_)
    conv => whnf
    rw [e, ← hr]
    exact ⟨rfl, flat_numA⟩
  refine lift_flat h0 (.cons _ _ _ _ lend_int (.cons _ _ _ _ lend_numA (.cons _ _ _ _ lend_numA .nil))) ?_
  rintro v rfl
  exact h _ rfl
theorem S_FSub_1 {m : Mem} {K : AV → Mem → Prop} {a b : Nat} (ha : a < w256) (hb : b < w256) (h : ∀ r, r = (a + (nN - b % nN)) % nN → K (numA r) m) : ACall Pg F_field_Sub [.int .i64 1, numA a, numA b] m K := by
  have h0 : ACall Pg F_field_Sub [.int .i64 1, numA a, numA b] [] (fun v _ => v = numA ((a + (nN - b % nN)) % nN) ∧ Flat true v) := by
    refine B_field_Sub ⟨rfl, ?_⟩
    conv => whnf
    refine S_less_1 ?_
    conv => whnf
    refine S_Prime_1 (fun p hp => ?_)
    conv => whnf
    try (refine ⟨⟨[], rfl⟩, ?_⟩; conv => whnf)
    refine S_Red_1 hb (fun r hr => ?_)
    conv => whnf
    try (refine ⟨⟨[], rfl⟩, ?_⟩; conv => whnf)
    have hr1 : r < nN := by rw [hr]; exact Nat.mod_lt _ (by decide)
    have hp1 : p < w256 := by rw [hp]; decide
    refine S_LSub hp1 (by rw [hp] at hp1; omega) (fun s q e s1 c1 => ?_)
    conv => whnf
    try (refine ⟨⟨[], rfl⟩, ?_⟩; conv => whnf)
    refine S_FAdd_1 ha s1 (fun t ht => ?_)
    conv => whnf
    have hs : s = nN - b % nN := by
      rw [← hr, ← hp]
      rw [hp] at hp1
      simp only [w256] at *
      omega
    rw [← hs, ← ht]
    exact ⟨rfl, flat_numA⟩
  refine lift_flat h0 (.cons _ _ _ _ lend_int (.cons _ _ _ _ lend_numA (.cons _ _ _ _ lend_numA .nil))) ?_
  rintro v rfl
  exact h _ rfl

end Go.Proofs.Ytmngdaeogbjpiaa
end

section
/- The field functions of the reference, for both primes; no condition. -/
set_option linter.unusedVariables false
set_option linter.unusedSimpArgs false
set_option maxRecDepth 100000
set_option pp.maxSteps 300
namespace Go.Proofs.Ytmngdaeogbjpiaa
open Go Go.Wit

theorem S_RAddc {m : Mem} {K : AV → Mem → Prop} {a b : Nat} (ha : a < w256) (hb : b < 18446744073709551616) (h : ∀ s c : Nat, a + b = s + c * w256 → s < w256 → c ≤ 1 → K (.tup [numA s, .int .u64 c]) m) : ACall Pg F_witanref01_Add [numA a, .agg (u4 b 0 0 0)] m K := by
  have e : comb b 0 0 0 = b := by unfold comb; omega
  have := S_RAdd (K := K) ha (b := comb b 0 0 0) (by rw [e]; simp only [w256]; omega) (by rw [e]; exact h)
  rwa [numA_comb hb (by decide) (by decide) (by decide)] at this
theorem S_RSubz {m : Mem} {K : AV → Mem → Prop} {b : Nat} (hb : b < w256) (h : ∀ s c : Nat, 0 + c * w256 = b + s → s < w256 → c ≤ 1 → K (.tup [numA s, .int .u64 c]) m) : ACall Pg F_witanref01_Sub [.agg (u4 0 0 0 0), numA b] m K := by
  have := S_RSub (K := K) (a := comb 0 0 0 0) (by decide) hb h
  rwa [numA_comb (by decide) (by decide) (by decide) (by decide)] at this

theorem S_ok_0 {m : Mem} {K : AV → Mem → Prop} (h : K (.bool true) m) : ACall Pg F_witanref01_ok [.int .i64 0] m K := by
  have h0 : ACall Pg F_witanref01_ok [.int .i64 0] [] (fun v _ => v = .bool true ∧ Flat true v) := by
    refine B_witanref01_ok ⟨rfl, ?_⟩
    conv => whnf
    exact ⟨rfl, .bool _⟩
  refine lift_flat h0 (.cons _ _ _ _ lend_int .nil) ?_
  rintro v rfl
  exact h
theorem S_small_0 {m : Mem} {K : AV → Mem → Prop} (h : K (numA 4294968273) m) : ACall Pg F_witanref01_small [.int .i64 0] m K := by
  have h0 : ACall Pg F_witanref01_small [.int .i64 0] [] (fun v _ => v = numA 4294968273 ∧ Flat true v) := by
    refine B_witanref01_small ⟨rfl, ?_⟩
    conv => whnf
    rw [← c_0, numA_comb (by decide) (by decide) (by decide) (by decide)]
    exact ⟨rfl, flat_u4⟩
  refine lift_flat h0 (.cons _ _ _ _ lend_int .nil) ?_
  rintro v rfl
  exact h
theorem S_RPrime_0 {m : Mem} {K : AV → Mem → Prop} (h : ∀ r, r = pP → K (numA r) m) : ACall Pg F_witanref01_Prime [.int .i64 0] m K := by
  have h0 : ACall Pg F_witanref01_Prime [.int .i64 0] [] (fun v _ => v = numA pP ∧ Flat true v) := by
    refine B_witanref01_Prime ⟨rfl, ?_⟩
    conv => whnf
    refine S_small_0 ?_
    conv => whnf
    refine S_RSubz (by decide) (fun s q e s1 c1 => ?_)
    conv => whnf
    have : s = pP := by
      have hm := m_0
      have hq : q = 0 ∨ q = 1 := by omega
      rcases hq with rfl | rfl <;> omega
    subst this
    exact ⟨rfl, flat_numA⟩
  refine lift_flat h0 (.cons _ _ _ _ lend_int .nil) ?_
  rintro v rfl
  exact h _ rfl
theorem S_rfold0_0 (lo hi : Nat) (hlo : lo < w256) (hhi : hi < w256) :
    ACall Pg F_witanref01_fold [.int .i64 0, numA lo, numA hi] [] (fun v _ => v = numA ((lo + w256 * hi) % pP) ∧ Flat true v) := by
  have hcw : 4294968273 < w256 := by decide
  have hm := m_0
  refine B_witanref01_fold ⟨rfl, ?_⟩
  conv => whnf
  refine loop_wk mixed (I := fun q l m => ∃ a b, l = [(0, .int .i64 0), (4, .ptr 0 0 0), (5, .ptr 1 0 0), (6, .ptr 2 0 0)] ∧ m = [some ⟨1, 4, lstG 1 (numL a)⟩, some ⟨1, 4, lstG 1 (numL b)⟩, some ⟨1, 4, lstG 1 (u4 0 0 0 0)⟩] ∧
      q = a + w256 * b ∧ a < w256 ∧ b < w256 ∧ (a + w256 * b) % pP = (lo + w256 * hi) % pP) (lo + w256 * hi)
    (l0 := [(0, .int .i64 0), (4, .ptr 0 0 0), (5, .ptr 1 0 0), (6, .ptr 2 0 0)]) (m0 := [some ⟨1, 4, lstG 1 (numL lo)⟩, some ⟨1, 4, lstG 1 (numL hi)⟩, some ⟨1, 4, lstG 1 (u4 0 0 0 0)⟩])
    [some 0, some 1, some 2] ⟨lo, hi, rfl, rfl, rfl, hlo, hhi, rfl⟩ ?_ ?_
  · refine .mk0 ⟨Flat.i rfl, .ptr _ _ _ _ rfl, .ptr _ _ _ _ rfl, .ptr _ _ _ _ rfl, trivial⟩ ⟨.old 0 0 _ _ rfl rfl ⟨rfl, Nat.le_refl _, fun i j hi hj => .eq _ _ rfl flat_numG⟩, .old 1 1 _ _ rfl rfl ⟨rfl, Nat.le_refl _, fun i j hi hj => .eq _ _ rfl flat_numG⟩,
      .old 2 2 _ _ rfl rfl ⟨rfl, Nat.le_refl _, fun i j hi hj => ?_⟩, trivial⟩ rfl rfl
    have hj : j < 1 := hj
    have hi : i < 4 := hi
    obtain rfl : j = 0 := by omega
    have : i = 0 ∨ i = 1 ∨ i = 2 ∨ i = 3 := by omega
    rcases this with rfl | rfl | rfl | rfl <;> exact .eq _ _ rfl (.int _ _)
  · rintro q l m ⟨a, b, rfl, rfl, hq, ha, hb, hmod⟩
    conv => whnf
    refine c_nez hb (fun hne => ?_) (fun h0 => ?_)
    · conv => whnf
      refine S_small_0 ?_
      conv => whnf
      try (refine ⟨⟨[], rfl⟩, ?_⟩; conv => whnf)
      refine S_RMul hb hcw (fun l h e1 l1 h1 => ?_)
      conv => whnf
      try (refine ⟨⟨[], rfl⟩, ?_⟩; conv => whnf)
      refine S_RAdd ha l1 (fun s cy e2 s1 c1 => ?_)
      conv => whnf
      refine S_RAddc h1 (by omega) (fun t cy2 e3 t1 c2 => ?_)
      conv => whnf
      have e4 : h + cy = t := by
        have : h < 4294968273 := by
          have h5 : w256 * h < w256 * 4294968273 := by
            have : b * 4294968273 ≤ (w256 - 1) * 4294968273 := Nat.mul_le_mul_right _ (by omega)
            have : (w256 - 1) * 4294968273 + 4294968273 = w256 * 4294968273 := by rw [← Nat.succ_mul]; rfl
            omega
          exact Nat.lt_of_mul_lt_mul_left h5
        simp only [w256] at *; omega
      obtain ⟨k1, k2⟩ := mod_step hm e1 e2 e4
      refine ⟨s + w256 * t, _, _, [some 0, some 1, some 2], ?_, ⟨s, t, rfl, rfl, rfl, s1, t1, k1.trans hmod⟩, ?_⟩
      · have : 0 < pP * b := Nat.mul_pos (by decide) (by omega)
        omega
      · refine .mk0 ⟨Flat.i rfl, .ptr _ _ _ _ rfl, .ptr _ _ _ _ rfl, .ptr _ _ _ _ rfl, trivial⟩ ⟨.old 0 0 _ _ rfl rfl ⟨rfl, Nat.le_refl _, fun i j hi hj => .eq _ _ rfl flat_numG⟩, .old 1 1 _ _ rfl rfl ⟨rfl, Nat.le_refl _, fun i j hi hj => .eq _ _ rfl flat_numG⟩,
          .old 2 2 _ _ rfl rfl ⟨rfl, Nat.le_refl _, fun i j hi hj => .eq _ _ rfl flat_u4G⟩, trivial⟩ rfl rfl
    · subst h0
      have ha2 : a % pP = (lo + w256 * hi) % pP := by rw [← hmod, Nat.mul_zero, Nat.add_zero]
      conv => whnf
      refine S_RPrime_0 (fun n hn => ?_)
      have n1 : n < w256 := by rw [hn]; decide
      conv => whnf
      try (refine ⟨⟨[], rfl⟩, ?_⟩; conv => whnf)
      refine S_RCmp ha n1 (fun r hr => ?_)
      conv => whnf
      try (refine ⟨⟨[], rfl⟩, ?_⟩; conv => whnf)
      rw [← hn] at ha2 hm
      rw [← hn]
      refine condB_mk (fun q => ?_) (fun q => ?_)
      · conv => whnf
        refine S_RPrime_0 (fun n2 hn2 => ?_)
        obtain rfl : n2 = n := hn2.trans hn.symm
        conv => whnf
        try (refine ⟨⟨[], rfl⟩, ?_⟩; conv => whnf)
        refine S_RSub ha n1 (fun s bw2 e2 s1 b2 => ?_)
        conv => whnf
        have hge : n2 ≤ a := by
          unfold cmpZ at hr
          split at hr
          · simp [hr] at q
          · omega
        have e3 : (lo + w256 * hi) % n2 = s := by
          have hb2 : bw2 = 0 ∨ bw2 = 1 := by omega
          have : s = a - n2 := by rcases hb2 with rfl | rfl <;> omega
          rw [← ha2, this, Nat.mod_eq_sub_mod hge, Nat.mod_eq_of_lt (by simp only [w256] at *; omega)]
        rw [e3]
        exact ⟨rfl, flat_numA⟩
      · conv => whnf
        have hlt : a < n := by
          unfold cmpZ at hr
          split at hr
          · assumption
          · split at hr <;> simp [hr] at q
        rw [← ha2, Nat.mod_eq_of_lt hlt]
        exact ⟨rfl, flat_numA⟩
theorem S_rfold_0 {m : Mem} {K : AV → Mem → Prop} {lo hi : Nat} (hlo : lo < w256) (hhi : hi < w256) (h : ∀ r, r = (lo + w256 * hi) % pP → K (numA r) m) : ACall Pg F_witanref01_fold [.int .i64 0, numA lo, numA hi] m K := by
  refine lift_flat (S_rfold0_0 lo hi hlo hhi) (.cons _ _ _ _ lend_int (.cons _ _ _ _ lend_numA (.cons _ _ _ _ lend_numA .nil))) ?_
  rintro v rfl
  exact h _ rfl
theorem S_rfoldc_0 {m : Mem} {K : AV → Mem → Prop} {lo hi : Nat} (hlo : lo < w256) (hhi : hi < 18446744073709551616) (h : ∀ r, r = (lo + w256 * hi) % pP → K (numA r) m) : ACall Pg F_witanref01_fold [.int .i64 0, numA lo, .agg (u4 hi 0 0 0)] m K := by
  have e : comb hi 0 0 0 = hi := by unfold comb; omega
  have := S_rfold_0 (K := K) hlo (hi := comb hi 0 0 0) (by rw [e]; simp only [w256]; omega) (by rw [e]; exact h)
  rwa [numA_comb hhi (by decide) (by decide) (by decide)] at this
theorem S_RRed_0 {m : Mem} {K : AV → Mem → Prop} {a : Nat} (ha : a < w256) (h : ∀ r, r = a % pP → K (numA r) m) : ACall Pg F_witanref01_Red [.int .i64 0, numA a] m K := by
  have h0 : ACall Pg F_witanref01_Red [.int .i64 0, numA a] [] (fun v _ => v = numA (a % pP) ∧ Flat true v) := by
    refine B_witanref01_Red ⟨rfl, ?_⟩
    conv => whnf
    refine S_ok_0 ?_
    conv => whnf
    refine S_rfoldc_0 (hi := 0) ha (by decide) (fun r hr => ?_)
    conv => whnf
    rw [Nat.mul_zero, Nat.add_zero] at hr
    rw [← hr]
    exact ⟨rfl, flat_numA⟩
  refine lift_flat h0 (.cons _ _ _ _ lend_int (.cons _ _ _ _ lend_numA .nil)) ?_
  rintro v rfl
  exact h _ rfl
theorem S_RFAdd_0 {m : Mem} {K : AV → Mem → Prop} {a b : Nat} (ha : a < w256) (hb : b < w256) (h : ∀ r, r = (a + b) % pP → K (numA r) m) : ACall Pg F_witanref01_FAdd [.int .i64 0, numA a, numA b] m K := by
  have h0 : ACall Pg F_witanref01_FAdd [.int .i64 0, numA a, numA b] [] (fun v _ => v = numA ((a + b) % pP) ∧ Flat true v) := by
    refine B_witanref01_FAdd ⟨rfl, ?_⟩
    conv => whnf
    refine S_ok_0 ?_
    conv => whnf
    refine S_RRed_0 ha (fun u hu => ?_)
    have hu1 : u < w256 := by rw [hu]; exact Nat.lt_trans (Nat.mod_lt _ (by decide)) (by decide)
    conv => whnf
    try (refine ⟨⟨[], rfl⟩, ?_⟩; conv => whnf)
    refine S_RRed_0 hb (fun v hv => ?_)
    have hv1 : v < w256 := by rw [hv]; exact Nat.lt_trans (Nat.mod_lt _ (by decide)) (by decide)
    conv => whnf
    try (refine ⟨⟨[], rfl⟩, ?_⟩; conv => whnf)
    refine S_RAdd hu1 hv1 (fun s q e s1 c1 => ?_)
    conv => whnf
    try (refine ⟨⟨[], rfl⟩, ?_⟩; conv => whnf)
    refine S_rfoldc_0 s1 (by omega) (fun r hr => ?_)
    conv => whnf
    rw [Nat.mul_comm w256, ← e, hu, hv, ← Nat.add_mod] at hr
    rw [← hr]
    exact ⟨rfl, flat_numA⟩
  refine lift_flat h0 (.cons _ _ _ _ lend_int (.cons _ _ _ _ lend_numA (.cons _ _ _ _ lend_numA .nil))) ?_
  rintro v rfl
  exact h _ rfl
theorem S_RFMul_0 {m : Mem} {K : AV → Mem → Prop} {a b : Nat} (ha : a < w256) (hb : b < w256) (h : ∀ r, r = a * b % pP → K (numA r) m) : ACall Pg F_witanref01_FMul [.int .i64 0, numA a, numA b] m K := by
  have h0 : ACall Pg F_witanref01_FMul [.int .i64 0, numA a, numA b] [] (fun v _ => v = numA (a * b % pP) ∧ Flat true v) := by
    refine B_witanref01_FMul ⟨rfl, ?_⟩
    conv => whnf
    refine S_ok_0 ?_
    conv => whnf
    refine S_RMul ha hb (fun lo hi e l1 h1 => ?_)
    conv => whnf
    refine S_rfold_0 l1 h1 (fun r hr => ?_)
    conv => whnf
    rw [e, ← hr]
    exact ⟨rfl, flat_numA⟩
  refine lift_flat h0 (.cons _ _ _ _ lend_int (.cons _ _ _ _ lend_numA (.cons _ _ _ _ lend_numA .nil))) ?_
  rintro v rfl
  exact h _ rfl
theorem S_RFSub_0 {m : Mem} {K : AV → Mem → Prop} {a b : Nat} (ha : a < w256) (hb : b < w256) (h : ∀ r, r = (a + (pP - b % pP)) % pP → K (numA r) m) : ACall Pg F_witanref01_FSub [.int .i64 0, numA a, numA b] m K := by
  have h0 : ACall Pg F_witanref01_FSub [.int .i64 0, numA a, numA b] [] (fun v _ => v = numA ((a + (pP - b % pP)) % pP) ∧ Flat true v) := by
    refine B_witanref01_FSub ⟨rfl, ?_⟩
    conv => whnf
    refine S_ok_0 ?_
    conv => whnf
    refine S_RPrime_0 (fun p hp => ?_)
    conv => whnf
    try (refine ⟨⟨[], rfl⟩, ?_⟩; conv => whnf)
    refine S_RRed_0 hb (fun r hr => ?_)
    conv => whnf
    try (refine ⟨⟨[], rfl⟩, ?_⟩; conv => whnf)
    have hr1 : r < pP := by rw [hr]; exact Nat.mod_lt _ (by decide)
    have hp1 : p < w256 := by rw [hp]; decide
    refine S_RSub hp1 (by rw [hp] at hp1; omega) (fun s q e s1 c1 => ?_)
    conv => whnf
    try (refine ⟨⟨[], rfl⟩, ?_⟩; conv => whnf)
    refine S_RFAdd_0 ha s1 (fun t ht => ?_)
    conv => whnf
    have hs : s = pP - b % pP := by
      rw [← hr, ← hp]
      rw [hp] at hp1
      have hq : q = 0 ∨ q = 1 := by omega
      rcases hq with rfl | rfl <;> omega
    rw [← hs, ← ht]
    exact ⟨rfl, flat_numA⟩
  refine lift_flat h0 (.cons _ _ _ _ lend_int (.cons _ _ _ _ lend_numA (.cons _ _ _ _ lend_numA .nil))) ?_
  rintro v rfl
  exact h _ rfl

theorem S_ok_1 {m : Mem} {K : AV → Mem → Prop} (h : K (.bool true) m) : ACall Pg F_witanref01_ok [.int .i64 1] m K := by
  have h0 : ACall Pg F_witanref01_ok [.int .i64 1] [] (fun v _ => v = .bool true ∧ Flat true v) := by
    refine B_witanref01_ok ⟨rfl, ?_⟩
    conv => whnf
    exact ⟨rfl, .bool _⟩
  refine lift_flat h0 (.cons _ _ _ _ lend_int .nil) ?_
  rintro v rfl
  exact h
theorem S_small_1 {m : Mem} {K : AV → Mem → Prop} (h : K (numA 432420386565659656852420866394968145599) m) : ACall Pg F_witanref01_small [.int .i64 1] m K := by
  have h0 : ACall Pg F_witanref01_small [.int .i64 1] [] (fun v _ => v = numA 432420386565659656852420866394968145599 ∧ Flat true v) := by
    refine B_witanref01_small ⟨rfl, ?_⟩
    conv => whnf
    rw [← c_1, numA_comb (by decide) (by decide) (by decide) (by decide)]
    exact ⟨rfl, flat_u4⟩
  refine lift_flat h0 (.cons _ _ _ _ lend_int .nil) ?_
  rintro v rfl
  exact h
theorem S_RPrime_1 {m : Mem} {K : AV → Mem → Prop} (h : ∀ r, r = nN → K (numA r) m) : ACall Pg F_witanref01_Prime [.int .i64 1] m K := by
  have h0 : ACall Pg F_witanref01_Prime [.int .i64 1] [] (fun v _ => v = numA nN ∧ Flat true v) := by
    refine B_witanref01_Prime ⟨rfl, ?_⟩
    conv => whnf
    refine S_small_1 ?_
    conv => whnf
    refine S_RSubz (by decide) (fun s q e s1 c1 => ?_)
    conv => whnf
    have : s = nN := by
      have hm := m_1
      have hq : q = 0 ∨ q = 1 := by omega
      rcases hq with rfl | rfl <;> omega
    subst this
    exact ⟨rfl, flat_numA⟩
  refine lift_flat h0 (.cons _ _ _ _ lend_int .nil) ?_
  rintro v rfl
  exact h _ rfl
theorem S_rfold0_1 (lo hi : Nat) (hlo : lo < w256) (hhi : hi < w256) :
    ACall Pg F_witanref01_fold [.int .i64 1, numA lo, numA hi] [] (fun v _ => v = numA ((lo + w256 * hi) % nN) ∧ Flat true v) := by
  have hcw : 432420386565659656852420866394968145599 < w256 := by decide
  have hm := m_1
  refine B_witanref01_fold ⟨rfl, ?_⟩
  conv => whnf
  refine loop_wk mixed (I := fun q l m => ∃ a b, l = [(0, .int .i64 1), (4, .ptr 0 0 0), (5, .ptr 1 0 0), (6, .ptr 2 0 0)] ∧ m = [some ⟨1, 4, lstG 1 (numL a)⟩, some ⟨1, 4, lstG 1 (numL b)⟩, some ⟨1, 4, lstG 1 (u4 0 0 0 0)⟩] ∧
      q = a + w256 * b ∧ a < w256 ∧ b < w256 ∧ (a + w256 * b) % nN = (lo + w256 * hi) % nN) (lo + w256 * hi)
    (l0 := [(0, .int .i64 1), (4, .ptr 0 0 0), (5, .ptr 1 0 0), (6, .ptr 2 0 0)]) (m0 := [some ⟨1, 4, lstG 1 (numL lo)⟩, some ⟨1, 4, lstG 1 (numL hi)⟩, some ⟨1, 4, lstG 1 (u4 0 0 0 0)⟩])
    [some 0, some 1, some 2] ⟨lo, hi, rfl, rfl, rfl, hlo, hhi, rfl⟩ ?_ ?_
  · refine .mk0 ⟨Flat.i rfl, .ptr _ _ _ _ rfl, .ptr _ _ _ _ rfl, .ptr _ _ _ _ rfl, trivial⟩ ⟨.old 0 0 _ _ rfl rfl ⟨rfl, Nat.le_refl _, fun i j hi hj => .eq _ _ rfl flat_numG⟩, .old 1 1 _ _ rfl rfl ⟨rfl, Nat.le_refl _, fun i j hi hj => .eq _ _ rfl flat_numG⟩,
      .old 2 2 _ _ rfl rfl ⟨rfl, Nat.le_refl _, fun i j hi hj => ?_⟩, trivial⟩ rfl rfl
    have hj : j < 1 := hj
    have hi : i < 4 := hi
    obtain rfl : j = 0 := by omega
    have : i = 0 ∨ i = 1 ∨ i = 2 ∨ i = 3 := by omega
    rcases this with rfl | rfl | rfl | rfl <;> exact .eq _ _ rfl (.int _ _)
  · rintro q l m ⟨a, b, rfl, rfl, hq, ha, hb, hmod⟩
    conv => whnf
    refine c_nez hb (fun hne => ?_) (fun h0 => ?_)
    · conv => whnf
      refine S_small_1 ?_
      conv => whnf
      try (refine ⟨⟨[], rfl⟩, ?_⟩; conv => whnf)
      refine S_RMul hb hcw (fun l h e1 l1 h1 => ?_)
      conv => whnf
      try (refine ⟨⟨[], rfl⟩, ?_⟩; conv => whnf)
      refine S_RAdd ha l1 (fun s cy e2 s1 c1 => ?_)
      conv => whnf
      refine S_RAddc h1 (by omega) (fun t cy2 e3 t1 c2 => ?_)
      conv => whnf
      have e4 : h + cy = t := by
        have : h < 432420386565659656852420866394968145599 := by
          have h5 : w256 * h < w256 * 432420386565659656852420866394968145599 := by
            have : b * 432420386565659656852420866394968145599 ≤ (w256 - 1) * 432420386565659656852420866394968145599 := Nat.mul_le_mul_right _ (by omega)
            have : (w256 - 1) * 432420386565659656852420866394968145599 + 432420386565659656852420866394968145599 = w256 * 432420386565659656852420866394968145599 := by rw [← Nat.succ_mul]; rfl
            omega
          exact Nat.lt_of_mul_lt_mul_left h5
        simp only [w256] at *; omega
      obtain ⟨k1, k2⟩ := mod_step hm e1 e2 e4
      refine ⟨s + w256 * t, _, _, [some 0, some 1, some 2], ?_, ⟨s, t, rfl, rfl, rfl, s1, t1, k1.trans hmod⟩, ?_⟩
      · have : 0 < nN * b := Nat.mul_pos (by decide) (by omega)
        omega
      · refine .mk0 ⟨Flat.i rfl, .ptr _ _ _ _ rfl, .ptr _ _ _ _ rfl, .ptr _ _ _ _ rfl, trivial⟩ ⟨.old 0 0 _ _ rfl rfl ⟨rfl, Nat.le_refl _, fun i j hi hj => .eq _ _ rfl flat_numG⟩, .old 1 1 _ _ rfl rfl ⟨rfl, Nat.le_refl _, fun i j hi hj => .eq _ _ rfl flat_numG⟩,
          .old 2 2 _ _ rfl rfl ⟨rfl, Nat.le_refl _, fun i j hi hj => .eq _ _ rfl flat_u4G⟩, trivial⟩ rfl rfl
    · subst h0
      have ha2 : a % nN = (lo + w256 * hi) % nN := by rw [← hmod, Nat.mul_zero, Nat.add_zero]
      conv => whnf
      refine S_RPrime_1 (fun n hn => ?_)
      have n1 : n < w256 := by rw [hn]; decide
      conv => whnf
      try (refine ⟨⟨[], rfl⟩, ?_⟩; conv => whnf)
      refine S_RCmp ha n1 (fun r hr => ?_)
      conv => whnf
      try (refine ⟨⟨[], rfl⟩, ?_⟩; conv => whnf)
      rw [← hn] at ha2 hm
      rw [← hn]
      refine condB_mk (fun q => ?_) (fun q => ?_)
      · conv => whnf
        refine S_RPrime_1 (fun n2 hn2 => ?_)
        obtain rfl : n2 = n := hn2.trans hn.symm
        conv => whnf
        try (refine ⟨⟨[], rfl⟩, ?_⟩; conv => whnf)
        refine S_RSub ha n1 (fun s bw2 e2 s1 b2 => ?_)
        conv => whnf
        have hge : n2 ≤ a := by
          unfold cmpZ at hr
          split at hr
          · simp [hr] at q
          · omega
        have e3 : (lo + w256 * hi) % n2 = s := by
          have hb2 : bw2 = 0 ∨ bw2 = 1 := by omega
          have : s = a - n2 := by rcases hb2 with rfl | rfl <;> omega
          rw [← ha2, this, Nat.mod_eq_sub_mod hge, Nat.mod_eq_of_lt (by simp only [w256] at *; omega)]
        rw [e3]
        exact ⟨rfl, flat_numA⟩
      · conv => whnf
        have hlt : a < n := by
          unfold cmpZ at hr
          split at hr
          · assumption
          · split at hr <;> simp [hr] at q
        rw [← ha2, Nat.mod_eq_of_lt hlt]
        exact ⟨rfl, flat_numA⟩
theorem S_rfold_1 {m : Mem} {K : AV → Mem → Prop} {lo hi : Nat} (hlo : lo < w256) (hhi : hi < w256) (h : ∀ r, r = (lo + w256 * hi) % nN → K (numA r) m) : ACall Pg F_witanref01_fold [.int .i64 1, numA lo, numA hi] m K := by
  refine lift_flat (S_rfold0_1 lo hi hlo hhi) (.cons _ _ _ _ lend_int (.cons _ _ _ _ lend_numA (.cons _ _ _ _ lend_numA .nil))) ?_
  rintro v rfl
  exact h _ rfl
theorem S_rfoldc_1 {m : Mem} {K : AV → Mem → Prop} {lo hi : Nat} (hlo : lo < w256) (hhi : hi < 18446744073709551616) (h : ∀ r, r = (lo + w256 * hi) % nN → K (numA r) m) : ACall Pg F_witanref01_fold [.int .i64 1, numA lo, .agg (u4 hi 0 0 0)] m K := by
  have e : comb hi 0 0 0 = hi := by unfold comb; omega
  have := S_rfold_1 (K := K) hlo (hi := comb hi 0 0 0) (by rw [e]; simp only [w256]; omega) (by rw [e]; exact h)
  rwa [numA_comb hhi (by decide) (by decide) (by decide)] at this
theorem S_RRed_1 {m : Mem} {K : AV → Mem → Prop} {a : Nat} (ha : a < w256) (h : ∀ r, r = a % nN → K (numA r) m) : ACall Pg F_witanref01_Red [.int .i64 1, numA a] m K := by
  have h0 : ACall Pg F_witanref01_Red [.int .i64 1, numA a] [] (fun v _ => v = numA (a % nN) ∧ Flat true v) := by
    refine B_witanref01_Red ⟨rfl, ?_⟩
    conv => whnf
    refine S_ok_1 ?_
    conv => whnf
    refine S_rfoldc_1 (hi := 0) ha (by decide) (fun r hr => ?_)
    conv => whnf
    rw [Nat.mul_zero, Nat.add_zero] at hr
    rw [← hr]
    exact ⟨rfl, flat_numA⟩
  refine lift_flat h0 (.cons _ _ _ _ lend_int (.cons _ _ _ _ lend_numA .nil)) ?_
  rintro v rfl
  exact h _ rfl
theorem S_RFAdd_1 {m : Mem} {K : AV → Mem → Prop} {a b : Nat} (ha : a < w256) (hb : b < w256) (h : ∀ r, r = (a + b) % nN → K (numA r) m) : ACall Pg F_witanref01_FAdd [.int .i64 1, numA a, numA b] m K := by
  have h0 : ACall Pg F_witanref01_FAdd [.int .i64 1, numA a, numA b] [] (fun v _ => v = numA ((a + b) % nN) ∧ Flat true v) := by
    refine B_witanref01_FAdd ⟨rfl, ?_⟩
    conv => whnf
    refine S_ok_1 ?_
    conv => whnf
    refine S_RRed_1 ha (fun u hu => ?_)
    have hu1 : u < w256 := by rw [hu]; exact Nat.lt_trans (Nat.mod_lt _ (by decide)) (by decide)
    conv => whnf
    try (refine ⟨⟨[], rfl⟩, ?_⟩; conv => whnf)
    refine S_RRed_1 hb (fun v hv => ?_)
    have hv1 : v < w256 := by rw [hv]; exact Nat.lt_trans (Nat.mod_lt _ (by decide)) (by decide)
    conv => whnf
    try (refine ⟨⟨[], rfl⟩, ?_⟩; conv => whnf)
    refine S_RAdd hu1 hv1 (fun s q e s1 c1 => ?_)
    conv => whnf
    try (refine ⟨⟨[], rfl⟩, ?_⟩; conv => whnf)
    refine S_rfoldc_1 s1 (by omega) (fun r hr => ?_)
    conv => whnf
    rw [Nat.mul_comm w256, ← e, hu, hv, ← Nat.add_mod] at hr
    rw [← hr]
    exact ⟨rfl, flat_numA⟩
  refine lift_flat h0 (.cons _ _ _ _ lend_int (.cons _ _ _ _ lend_numA (.cons _ _ _ _ lend_numA .nil))) ?_
  rintro v rfl
  exact h _ rfl
theorem S_RFMul_1 {m : Mem} {K : AV → Mem → Prop} {a b : Nat} (ha : a < w256) (hb : b < w256) (h : ∀ r, r = a * b % nN → K (numA r) m) : ACall Pg F_witanref01_FMul [.int .i64 1, numA a, numA b] m K := by
  have h0 : ACall Pg F_witanref01_FMul [.int .i64 1, numA a, numA b] [] (fun v _ => v = numA (a * b % nN) ∧ Flat true v) := by
    refine B_witanref01_FMul ⟨rfl, ?_⟩
    conv => whnf
    refine S_ok_1 ?_
    conv => whnf
    refine S_RMul ha hb (fun lo hi e l1 h1 => ?_)
    conv => whnf
    refine S_rfold_1 l1 h1 (fun r hr => ?_)
    conv => whnf
    rw [e, ← hr]
    exact ⟨rfl, flat_numA⟩
  refine lift_flat h0 (.cons _ _ _ _ lend_int (.cons _ _ _ _ lend_numA (.cons _ _ _ _ lend_numA .nil))) ?_
  rintro v rfl
  exact h _ rfl
theorem S_RFSub_1 {m : Mem} {K : AV → Mem → Prop} {a b : Nat} (ha : a < w256) (hb : b < w256) (h : ∀ r, r = (a + (nN - b % nN)) % nN → K (numA r) m) : ACall Pg F_witanref01_FSub [.int .i64 1, numA a, numA b] m K := by
  have h0 : ACall Pg F_witanref01_FSub [.int .i64 1, numA a, numA b] [] (fun v _ => v = numA ((a + (nN - b % nN)) % nN) ∧ Flat true v) := by
    refine B_witanref01_FSub ⟨rfl, ?_⟩
    conv => whnf
    refine S_ok_1 ?_
    conv => whnf
    refine S_RPrime_1 (fun p hp => ?_)
    conv => whnf
    try (refine ⟨⟨[], rfl⟩, ?_⟩; conv => whnf)
    refine S_RRed_1 hb (fun r hr => ?_)
    conv => whnf
    try (refine ⟨⟨[], rfl⟩, ?_⟩; conv => whnf)
    have hr1 : r < nN := by rw [hr]; exact Nat.mod_lt _ (by decide)
    have hp1 : p < w256 := by rw [hp]; decide
    refine S_RSub hp1 (by rw [hp] at hp1; omega) (fun s q e s1 c1 => ?_)
    conv => whnf
    try (refine ⟨⟨[], rfl⟩, ?_⟩; conv => whnf)
    refine S_RFAdd_1 ha s1 (fun t ht => ?_)
    conv => whnf
    have hs : s = nN - b % nN := by
      rw [← hr, ← hp]
      rw [hp] at hp1
      have hq : q = 0 ∨ q = 1 := by omega
      rcases hq with rfl | rfl <;> omega
    rw [← hs, ← ht]
    exact ⟨rfl, flat_numA⟩
  refine lift_flat h0 (.cons _ _ _ _ lend_int (.cons _ _ _ _ lend_numA (.cons _ _ _ _ lend_numA .nil))) ?_
  rintro v rfl
  exact h _ rfl

end Go.Proofs.Ytmngdaeogbjpiaa
end

section
/- Sums and products of numbers in six unknowns, of which three have squares given by the others, kept as sorted rows of terms; a closed test that such an expression is nothing; no condition. -/
set_option linter.unusedVariables false
namespace Go.Wit.EP

inductive E where
  | v (i : Nat)
  | c (n : Int)
  | add (a b : E)
  | sub (a b : E)
  | mul (a b : E)

abbrev P := List (Int × Nat)

section
variable {F : Type} [CommRing F]

def ic (n : Int) : F := @IntCast.intCast F ‹CommRing F›.toRing.intCast n
theorem pow_add (x : F) (a b : Nat) : x ^ (a + b) = x ^ a * x ^ b := by grind
theorem ic_add (a b : Int) : (ic (a + b) : F) = ic a + ic b := by unfold ic; grind
theorem ic_mul (a b : Int) : (ic (a * b) : F) = ic a * ic b := by unfold ic; grind
theorem ic_neg (a : Int) : (ic (-a) : F) = - ic a := by unfold ic; grind
theorem ic_zero : (ic 0 : F) = 0 := by unfold ic; grind
theorem ic_one : (ic 1 : F) = 1 := by unfold ic; grind
theorem ic_nat (n : Nat) : (ic (OfNat.ofNat (α := Int) n) : F) = OfNat.ofNat n := ‹CommRing F›.toRing.intCast_ofNat n

def den (v : Nat → F) : E → F
  | .v i => v i
  | .c n => ic n
  | .add a b => den v a + den v b
  | .sub a b => den v a - den v b
  | .mul a b => den v a * den v b

def monR (v : Nat → F) : Nat → Nat → Nat → F
  | 0, _, _ => 1
  | k + 1, i, m => v i ^ (m % 256) * monR v k (i + 1) (m / 256)
def mon (v : Nat → F) (m : Nat) : F := monR v 6 0 m
def ev (v : Nat → F) : P → F
  | [] => 0
  | (k, m) :: p => ic k * mon v m + ev v p

noncomputable def addP (f : Nat) : P → P → P :=
  Nat.rec (motive := fun _ => P → P → P) (fun p q => p ++ q) (fun _ ih p q => match p with
    | [] => q
    | (k, m) :: p' => match q with
      | [] => (k, m) :: p'
      | (l, n) :: q' => bif Nat.blt n m then (k, m) :: ih p' ((l, n) :: q') else bif Nat.blt m n then (l, n) :: ih ((k, m) :: p') q' else bif k + l == 0 then ih p' q' else (k + l, m) :: ih p' q') f

theorem ev_app (v : Nat → F) (p q : P) : ev v (p ++ q) = ev v p + ev v q := by
  induction p with
  | nil => simp only [List.nil_append, ev]; grind
  | cons t p ih => obtain ⟨k, m⟩ := t; simp only [List.cons_append, ev, ih]; grind

theorem blt_false {n m : Nat} (h : Nat.blt n m = false) : m ≤ n := by
  rcases Nat.lt_or_ge n m with h1 | h1
  · rw [Nat.blt_eq.mpr h1] at h; cases h
  · exact h1

theorem ev_addP (v : Nat → F) : ∀ (f : Nat) (p q : P), ev v (addP f p q) = ev v p + ev v q
  | 0, p, q => ev_app v p q
  | f + 1, [], q => by show ev v q = _; simp only [ev]; grind
  | f + 1, (k, m) :: p', [] => by show ev v ((k, m) :: p') = _; simp only [ev]; grind
  | f + 1, (k, m) :: p', (l, n) :: q' => by
    show ev v (bif Nat.blt n m then (k, m) :: addP f p' ((l, n) :: q') else bif Nat.blt m n then (l, n) :: addP f ((k, m) :: p') q' else bif k + l == 0 then addP f p' q' else (k + l, m) :: addP f p' q') = _
    cases h1 : Nat.blt n m with
    | true => simp only [cond_true, ev, ev_addP v f]; grind
    | false =>
      cases h2 : Nat.blt m n with
      | true => simp only [cond_true, cond_false, ev, ev_addP v f]; grind
      | false =>
        have e : n = m := Nat.le_antisymm (blt_false h2) (blt_false h1)
        subst e
        cases h3 : k + l == 0 with
        | true =>
          have h4 : k + l = 0 := by simpa using h3
          have h5 : (ic (k + l) : F) = 0 := by rw [h4]; exact ic_zero
          rw [ic_add] at h5
          simp only [cond_true, cond_false, ev, ev_addP v f]
          grind
        | false =>
          simp only [cond_false, ev, ev_addP v f, ic_add]
          grind

/-- Each of the exponents is below 128. -/
noncomputable def smR (k : Nat) : Nat → Bool := Nat.rec (motive := fun _ => Nat → Bool) (fun _ => true) (fun _ ih m => Nat.blt (m % 256) 128 && ih (m / 256)) k
noncomputable def sm (m : Nat) : Bool := smR 6 m
noncomputable def allSm (p : P) : Bool := List.rec (motive := fun _ => Bool) true (fun t _ ih => sm t.2 && ih) p

theorem monR_add (v : Nat → F) : ∀ (k i m n : Nat), smR k m = true → smR k n = true → monR v k i (m + n) = monR v k i m * monR v k i n
  | 0, i, m, n, _, _ => by simp only [monR]; grind
  | k + 1, i, m, n, h1, h2 => by
    have h1 : (Nat.blt (m % 256) 128 && smR k (m / 256)) = true := h1
    have h2 : (Nat.blt (n % 256) 128 && smR k (n / 256)) = true := h2
    simp only [Bool.and_eq_true, Nat.blt_eq] at h1 h2
    simp only [monR]
    rw [show (m + n) % 256 = m % 256 + n % 256 by omega, show (m + n) / 256 = m / 256 + n / 256 by omega, monR_add v k (i + 1) _ _ h1.2 h2.2, pow_add]
    grind

theorem mon_add (v : Nat → F) {m n : Nat} (h1 : sm m = true) (h2 : sm n = true) : mon v (m + n) = mon v m * mon v n := monR_add v 6 0 m n h1 h2

noncomputable def mulT (t : Int × Nat) (q : P) : P := List.rec (motive := fun _ => P) [] (fun s _ ih => (t.1 * s.1, t.2 + s.2) :: ih) q
theorem ev_mulT (v : Nat → F) (t : Int × Nat) (ht : sm t.2 = true) : ∀ (q : P), allSm q = true → ev v (mulT t q) = ic t.1 * mon v t.2 * ev v q
  | [], _ => by show ev v [] = _; simp only [ev]; grind
  | (l, n) :: q, h => by
    have h : (sm n && allSm q) = true := h
    simp only [Bool.and_eq_true] at h
    show ev v ((t.1 * l, t.2 + n) :: mulT t q) = _
    simp only [ev, ev_mulT v t ht q h.2, mon_add v ht h.1, ic_mul]
    grind

/-- The terms in which the unknown at place w (256 to its number) stands twice, and the others. -/
noncomputable def two (w : Nat) (m : Nat) : Bool := Nat.ble 2 (m / w % 256) && (Nat.ble (2 * w) m && sm (m - 2 * w))
noncomputable def part (b : Bool) (w : Nat) (p : P) : P := List.rec (motive := fun _ => P) [] (fun t _ ih => bif two w t.2 == b then t :: ih else ih) p
noncomputable def down (w u : Nat) (k : Int) (p : P) : P := List.rec (motive := fun _ => P) [] (fun t _ ih => (k * t.1, t.2 - 2 * w + u) :: ih) p
noncomputable def redW (w u : Nat) (p : P) : P := let h := part true w p; addP 100000 (part false w p) (addP 100000 (down w (3 * u) 1 h) (down w 0 7 h))

theorem ev_part (v : Nat → F) (w : Nat) (p : P) : ev v p = ev v (part true w p) + ev v (part false w p) := by
  induction p with
  | nil => show ev v [] = ev v [] + ev v []; simp only [ev]; grind
  | cons t p ih =>
    show _ = ev v (bif two w t.2 == true then t :: part true w p else part true w p) + ev v (bif two w t.2 == false then t :: part false w p else part false w p)
    obtain ⟨k, m⟩ := t
    cases two w m <;> simp only [beq_self_eq_true, cond_true, show (false == true) = false from rfl, show (true == false) = false from rfl, cond_false, ev, ih] <;> grind

theorem ev_down (v : Nat → F) {w u : Nat} (hw : sm (2 * w) = true) (hu : sm (3 * u) = true) (hrel : mon v (2 * w) = mon v (3 * u) + 7) : ∀ (p : P), (∀ t, t ∈ p → two w t.2 = true) → ev v (down w (3 * u) 1 p) + ev v (down w 0 7 p) = ev v p
  | [], _ => by show ev v [] + ev v [] = _; simp only [ev]; grind
  | (l, m) :: p, h => by
    have h1 := h (l, m) (.head _)
    simp only [two, Bool.and_eq_true, Nat.ble_eq] at h1
    have ih := ev_down v hw hu hrel p (fun t ht => h t (.tail _ ht))
    have e : mon v m = mon v (m - 2 * w) * mon v (2 * w) := by
      rw [← mon_add v h1.2.2 hw]; congr 1; omega
    show ev v ((1 * l, m - 2 * w + 3 * u) :: down w (3 * u) 1 p) + ev v ((7 * l, m - 2 * w + 0) :: down w 0 7 p) = _
    simp only [ev, Nat.add_zero, Int.one_mul, ic_mul, mon_add v h1.2.2 hu, e, hrel]
    have h7 : (ic 7 : F) = 7 := ic_nat 7
    rw [h7]
    grind

theorem mem_part {w : Nat} {b : Bool} : ∀ {p : P} {t : Int × Nat}, t ∈ part b w p → two w t.2 = b
  | [], t, h => by change t ∈ ([] : P) at h; simp at h
  | s :: p, t, h => by
    change t ∈ (bif two w s.2 == b then s :: part b w p else part b w p) at h
    cases hb : two w s.2 == b with
    | true =>
      rw [hb] at h
      rcases List.mem_cons.1 h with rfl | h
      · simpa using hb
      · exact mem_part h
    | false => rw [hb] at h; exact mem_part h

theorem ev_redW (v : Nat → F) {w u : Nat} (hw : sm (2 * w) = true) (hu : sm (3 * u) = true) (hrel : mon v (2 * w) = mon v (3 * u) + 7) (p : P) : ev v (redW w u p) = ev v p := by
  unfold redW
  simp only [ev_addP, ev_down v hw hu hrel _ (fun t ht => mem_part ht)]
  rw [ev_part v w p]; grind

/-- The unknowns 0, 2, 4 and those whose squares are given: 1, 3, 5. -/
structure Rel (v : Nat → F) : Prop where
  r0 : v 1 * v 1 = v 0 * v 0 * v 0 + 7
  r1 : v 3 * v 3 = v 2 * v 2 * v 2 + 7
  r2 : v 5 * v 5 = v 4 * v 4 * v 4 + 7

noncomputable def red (p : P) : P := redW 1099511627776 4294967296 (redW 16777216 65536 (redW 256 1 p))

theorem ev_red (v : Nat → F) (h : Rel v) (p : P) : ev v (red p) = ev v p := by
  unfold red
  rw [ev_redW v (by decide) (by decide), ev_redW v (by decide) (by decide), ev_redW v (by decide) (by decide)]
  · have := h.r0; simp [mon, monR]; grind
  · have := h.r1; simp [mon, monR]; grind
  · have := h.r2; simp [mon, monR]; grind

noncomputable def mulS (p q : P) : P := List.rec (motive := fun _ => P) [] (fun t _ ih => addP 100000 (red (mulT t q)) ih) p

theorem ev_mulS (v : Nat → F) (h : Rel v) (q : P) (hq : allSm q = true) : ∀ (p : P), allSm p = true → ev v (mulS p q) = ev v p * ev v q
  | [], _ => by show ev v [] = _; simp only [ev]; grind
  | t :: p, hp => by
    have hp : (sm t.2 && allSm p) = true := hp
    simp only [Bool.and_eq_true] at hp
    show ev v (addP 100000 (red (mulT t q)) (mulS p q)) = _
    rw [ev_addP, ev_red v h, ev_mulT v t hp.1 q hq, ev_mulS v h q hq p hp.2]
    obtain ⟨k, m⟩ := t
    simp only [ev]
    grind


/-- The same by halves. -/
noncomputable def mulH (q : P) (f : Nat) : P → P := Nat.rec (motive := fun _ => P → P) (fun p => mulS p q) (fun _ ih p => bif Nat.blt p.length 2 then mulS p q else addP 100000 (ih (p.take (p.length / 2))) (ih (p.drop (p.length / 2)))) f
noncomputable def mulP (p q : P) : P := mulH q 12 p

theorem allSm_app : ∀ (p r : P), allSm (p ++ r) = (allSm p && allSm r)
  | [], r => rfl
  | t :: p, r => by
    show (sm t.2 && allSm (p ++ r)) = ((sm t.2 && allSm p) && allSm r)
    rw [allSm_app p r, Bool.and_assoc]

theorem ev_mulH (v : Nat → F) (h : Rel v) (q : P) (hq : allSm q = true) : ∀ (f : Nat) (p : P), allSm p = true → ev v (mulH q f p) = ev v p * ev v q
  | 0, p, hp => ev_mulS v h q hq p hp
  | f + 1, p, hp => by
    show ev v (bif Nat.blt p.length 2 then mulS p q else addP 100000 (mulH q f (p.take (p.length / 2))) (mulH q f (p.drop (p.length / 2)))) = _
    cases Nat.blt p.length 2 with
    | true => exact ev_mulS v h q hq p hp
    | false =>
      have e : allSm (p.take (p.length / 2) ++ p.drop (p.length / 2)) = true := by rw [List.take_append_drop]; exact hp
      rw [allSm_app, Bool.and_eq_true] at e
      have e2 : ev v (p.take (p.length / 2) ++ p.drop (p.length / 2)) = ev v p := by rw [List.take_append_drop]
      rw [ev_app] at e2
      rw [cond_false, ev_addP, ev_mulH v h q hq f _ e.1, ev_mulH v h q hq f _ e.2, ← e2]
      grind

theorem ev_mulP (v : Nat → F) (h : Rel v) (q : P) (hq : allSm q = true) (p : P) (hp : allSm p = true) : ev v (mulP p q) = ev v p * ev v q := ev_mulH v h q hq 12 p hp

noncomputable def neg (p : P) : P := List.rec (motive := fun _ => P) [] (fun t _ ih => (-1 * t.1, t.2) :: ih) p
theorem ev_neg (v : Nat → F) : ∀ (p : P), ev v (neg p) = - ev v p
  | [] => by show ev v [] = _; simp only [ev]; grind
  | (k, m) :: p => by
    show ev v ((-1 * k, m) :: neg p) = _
    simp only [ev, ev_neg v p, ic_mul, ic_neg, ic_one]
    grind

noncomputable def toP (e : E) : P × Bool :=
  E.rec (motive := fun _ => P × Bool) (fun i => ([(1, 256 ^ i)], Nat.blt i 6)) (fun n => (bif n == 0 then [] else [(n, 0)], true)) (fun _ _ a b => (addP 100000 a.1 b.1, a.2 && b.2)) (fun _ _ a b => (addP 100000 a.1 (neg b.1), a.2 && b.2))
    (fun _ _ a b => (mulP a.1 b.1, (a.2 && b.2) && (allSm a.1 && allSm b.1))) e

theorem mon_pow (v : Nat → F) {i : Nat} (h : i < 6) : mon v (256 ^ i) = v i := by
  have : i = 0 ∨ i = 1 ∨ i = 2 ∨ i = 3 ∨ i = 4 ∨ i = 5 := by omega
  rcases this with rfl | rfl | rfl | rfl | rfl | rfl <;> simp [mon, monR] <;> grind

theorem mon_zero (v : Nat → F) : mon v 0 = 1 := by simp [mon, monR]; grind

theorem toP_den (v : Nat → F) (h : Rel v) : ∀ (e : E), (toP e).2 = true → ev v (toP e).1 = den v e
  | .v i, hc => by
    have hc : Nat.blt i 6 = true := hc
    show ev v [(1, 256 ^ i)] = v i
    simp only [ev, mon_pow v (Nat.blt_eq.mp hc), ic_one]
    grind
  | .c n, _ => by
    show ev v (bif n == 0 then [] else [(n, 0)]) = ic n
    cases hn : n == 0 with
    | true =>
      have : n = 0 := by simpa using hn
      subst this
      simp only [cond_true, ev, ic_zero]
    | false => simp only [cond_false, ev, mon_zero]; grind
  | .add a b, hc => by
    have hc : ((toP a).2 && (toP b).2) = true := hc
    simp only [Bool.and_eq_true] at hc
    show ev v (addP 100000 (toP a).1 (toP b).1) = den v a + den v b
    rw [ev_addP, toP_den v h a hc.1, toP_den v h b hc.2]
  | .sub a b, hc => by
    have hc : ((toP a).2 && (toP b).2) = true := hc
    simp only [Bool.and_eq_true] at hc
    show ev v (addP 100000 (toP a).1 (neg (toP b).1)) = den v a - den v b
    rw [ev_addP, ev_neg, toP_den v h a hc.1, toP_den v h b hc.2]
    grind
  | .mul a b, hc => by
    have hc : (((toP a).2 && (toP b).2) && (allSm (toP a).1 && allSm (toP b).1)) = true := hc
    simp only [Bool.and_eq_true] at hc
    show ev v (mulP (toP a).1 (toP b).1) = den v a * den v b
    rw [ev_mulP v h _ hc.2.2 _ hc.2.1, toP_den v h a hc.1.1, toP_den v h b hc.1.2]

noncomputable def nought (e : E) : Bool := (toP e).2 && (toP e).1.isEmpty
theorem nought_den (v : Nat → F) (h : Rel v) {e : E} (hc : nought e = true) : den v e = 0 := by
  simp only [nought, Bool.and_eq_true, List.isEmpty_iff] at hc
  rw [← toP_den v h e hc.1, hc.2]; rfl

end
end Go.Wit.EP
end

section
/- The points of y y = x x x + 7 over numbers that can be divided by, where no x x x + 7 is nothing, are a group; no condition. -/
set_option linter.unusedVariables false
namespace Go.Wit

section
variable {F : Type} [CommRing F]

def aX (X1 Y1 Z1 X2 Y2 Z2 : F) : F := (X1 * Y2 + X2 * Y1) * (Y1 * Y2 - 21 * (Z1 * Z2)) - 21 * ((Y1 * Z2 + Y2 * Z1) * (X1 * Z2 + X2 * Z1))
def aY (X1 Y1 Z1 X2 Y2 Z2 : F) : F := (Y1 * Y2 + 21 * (Z1 * Z2)) * (Y1 * Y2 - 21 * (Z1 * Z2)) + 63 * ((X1 * X2) * (X1 * Z2 + X2 * Z1))
def aZ (X1 Y1 Z1 X2 Y2 Z2 : F) : F := (Y1 * Z2 + Y2 * Z1) * (Y1 * Y2 + 21 * (Z1 * Z2)) + 3 * ((X1 * X2) * (X1 * Y2 + X2 * Y1))

namespace EP
def eX (X1 Y1 Z1 X2 Y2 Z2 : E) : E := .sub (.mul (.add (.mul X1 Y2) (.mul X2 Y1)) (.sub (.mul Y1 Y2) (.mul (.c 21) (.mul Z1 Z2)))) (.mul (.c 21) (.mul (.add (.mul Y1 Z2) (.mul Y2 Z1)) (.add (.mul X1 Z2) (.mul X2 Z1))))
def eY (X1 Y1 Z1 X2 Y2 Z2 : E) : E := .add (.mul (.add (.mul Y1 Y2) (.mul (.c 21) (.mul Z1 Z2))) (.sub (.mul Y1 Y2) (.mul (.c 21) (.mul Z1 Z2)))) (.mul (.c 63) (.mul (.mul X1 X2) (.add (.mul X1 Z2) (.mul X2 Z1))))
def eZ (X1 Y1 Z1 X2 Y2 Z2 : E) : E := .add (.mul (.add (.mul Y1 Z2) (.mul Y2 Z1)) (.add (.mul Y1 Y2) (.mul (.c 21) (.mul Z1 Z2)))) (.mul (.c 3) (.mul (.mul X1 X2) (.add (.mul X1 Y2) (.mul X2 Y1))))
def one : E := .c 1
def sX : E := eX (.v 0) (.v 1) one (.v 2) (.v 3) one
def sY : E := eY (.v 0) (.v 1) one (.v 2) (.v 3) one
def sZ : E := eZ (.v 0) (.v 1) one (.v 2) (.v 3) one
def uX : E := eX (.v 2) (.v 3) one (.v 4) (.v 5) one
def uY : E := eY (.v 2) (.v 3) one (.v 4) (.v 5) one
def uZ : E := eZ (.v 2) (.v 3) one (.v 4) (.v 5) one
def lX : E := eX sX sY sZ (.v 4) (.v 5) one
def lY : E := eY sX sY sZ (.v 4) (.v 5) one
def lZ : E := eZ sX sY sZ (.v 4) (.v 5) one
def rX : E := eX (.v 0) (.v 1) one uX uY uZ
def rY : E := eY (.v 0) (.v 1) one uX uY uZ
def rZ : E := eZ (.v 0) (.v 1) one uX uY uZ
theorem cross_XZ : nought (.sub (.mul lX rZ) (.mul rX lZ)) = true := by decide +kernel
theorem cross_YZ : nought (.sub (.mul lY rZ) (.mul rY lZ)) = true := by decide +kernel
end EP

end
end Go.Wit
end

section
/- The points are a group; multiples; points told by three numbers; no condition. -/
set_option linter.unusedVariables false
set_option maxRecDepth 100000
namespace Go.Wit

/-- Numbers that can be divided by, of which 2 is something and no x x x + 7 is nothing. -/
structure Crv (F : Type) [CommRing F] : Prop where
  inv : ∀ a : F, a ≠ 0 → ∃ b, a * b = 1
  two : (2 : F) ≠ 0
  no2 : ∀ x : F, x * x * x + 7 ≠ 0

inductive Pt (F : Type) where
  | inf
  | aff (x y : F)

section
variable {F : Type} [CommRing F]

theorem assoc_cross (x1 y1 x2 y2 x3 y3 : F) (h1 : y1 * y1 = x1 * x1 * x1 + 7) (h2 : y2 * y2 = x2 * x2 * x2 + 7) (h3 : y3 * y3 = x3 * x3 * x3 + 7) :
    aX (aX x1 y1 1 x2 y2 1) (aY x1 y1 1 x2 y2 1) (aZ x1 y1 1 x2 y2 1) x3 y3 1 * aZ x1 y1 1 (aX x2 y2 1 x3 y3 1) (aY x2 y2 1 x3 y3 1) (aZ x2 y2 1 x3 y3 1)
      = aX x1 y1 1 (aX x2 y2 1 x3 y3 1) (aY x2 y2 1 x3 y3 1) (aZ x2 y2 1 x3 y3 1) * aZ (aX x1 y1 1 x2 y2 1) (aY x1 y1 1 x2 y2 1) (aZ x1 y1 1 x2 y2 1) x3 y3 1
    ∧ aY (aX x1 y1 1 x2 y2 1) (aY x1 y1 1 x2 y2 1) (aZ x1 y1 1 x2 y2 1) x3 y3 1 * aZ x1 y1 1 (aX x2 y2 1 x3 y3 1) (aY x2 y2 1 x3 y3 1) (aZ x2 y2 1 x3 y3 1)
      = aY x1 y1 1 (aX x2 y2 1 x3 y3 1) (aY x2 y2 1 x3 y3 1) (aZ x2 y2 1 x3 y3 1) * aZ (aX x1 y1 1 x2 y2 1) (aY x1 y1 1 x2 y2 1) (aZ x1 y1 1 x2 y2 1) x3 y3 1 := by
  let v : Nat → F := fun i => match i with | 0 => x1 | 1 => y1 | 2 => x2 | 3 => y2 | 4 => x3 | _ => y3
  have hr : EP.Rel v := ⟨h1, h2, h3⟩
  have e1 := EP.nought_den v hr EP.cross_XZ
  have e2 := EP.nought_den v hr EP.cross_YZ
  have c1 : (EP.ic 1 : F) = 1 := EP.ic_one
  have c3 : (EP.ic 3 : F) = 3 := EP.ic_nat 3
  have c21 : (EP.ic 21 : F) = 21 := EP.ic_nat 21
  have c63 : (EP.ic 63 : F) = 63 := EP.ic_nat 63
  simp only [EP.den, EP.lX, EP.lY, EP.lZ, EP.rX, EP.rY, EP.rZ, EP.sX, EP.sY, EP.sZ, EP.uX, EP.uY, EP.uZ, EP.eX, EP.eY, EP.eZ, EP.one, c1, c3, c21, c63, v] at e1 e2
  have sub0 : ∀ a b : F, a - b = 0 → a = b := fun a b h => by grind
  exact ⟨sub0 _ _ e1, sub0 _ _ e2⟩


theorem Crv.mul_ne (C : Crv F) {a b : F} (ha : a ≠ 0) (hb : b ≠ 0) : a * b ≠ 0 := by
  obtain ⟨c, hc⟩ := C.inv a ha
  intro h
  refine hb ?_
  have : b = c * (a * b) := by grind
  rw [this, h]; grind
theorem Crv.cancel (C : Crv F) {a b c : F} (hc : c ≠ 0) (h : a * c = b * c) : a = b := by
  obtain ⟨d, hd⟩ := C.inv c hc
  have h1 : a = a * c * d := by grind
  have h2 : b = b * c * d := by grind
  rw [h1, h2, h]
theorem Crv.one_ne (C : Crv F) : (1 : F) ≠ 0 := fun h => C.two (by grind)

def On : Pt F → Prop
  | .inf => True
  | .aff x y => y * y = x * x * x + 7

theorem On.y_ne (C : Crv F) {x y : F} (h : y * y = x * x * x + 7) : y ≠ 0 := fun hy => C.no2 x (by rw [← h, hy]; grind)

noncomputable def iv (a : F) : F := open Classical in if h : ∃ b, a * b = 1 then h.choose else 0
theorem iv_spec (C : Crv F) {a : F} (h : a ≠ 0) : a * iv a = 1 := by
  have h1 := C.inv a h
  unfold iv
  rw [dif_pos h1]
  exact h1.choose_spec

def Pt.neg : Pt F → Pt F
  | .inf => .inf
  | .aff x y => .aff x (-y)

noncomputable def padd : Pt F → Pt F → Pt F
  | .inf, Q => Q
  | .aff x y, .inf => .aff x y
  | .aff x1 y1, .aff x2 y2 => open Classical in if x1 = x2 ∧ y1 + y2 = 0 then .inf else .aff (aX x1 y1 1 x2 y2 1 * iv (aZ x1 y1 1 x2 y2 1)) (aY x1 y1 1 x2 y2 1 * iv (aZ x1 y1 1 x2 y2 1))

theorem padd_inf (P : Pt F) : padd P .inf = P := by cases P <;> rfl
theorem inf_padd (P : Pt F) : padd .inf P = P := by cases P <;> rfl
theorem padd_opp {x1 y1 x2 y2 : F} (h : x1 = x2 ∧ y1 + y2 = 0) : padd (.aff x1 y1) (.aff x2 y2) = .inf := by simp only [padd]; rw [if_pos h]
theorem padd_gen {x1 y1 x2 y2 : F} (h : ¬ (x1 = x2 ∧ y1 + y2 = 0)) : padd (.aff x1 y1) (.aff x2 y2) = .aff (aX x1 y1 1 x2 y2 1 * iv (aZ x1 y1 1 x2 y2 1)) (aY x1 y1 1 x2 y2 1 * iv (aZ x1 y1 1 x2 y2 1)) := by simp only [padd]; rw [if_neg h]

theorem a_on (x1 y1 x2 y2 : F) (h1 : y1 * y1 = x1 * x1 * x1 + 7) (h2 : y2 * y2 = x2 * x2 * x2 + 7) :
    aY x1 y1 1 x2 y2 1 * aY x1 y1 1 x2 y2 1 * aZ x1 y1 1 x2 y2 1 = aX x1 y1 1 x2 y2 1 * aX x1 y1 1 x2 y2 1 * aX x1 y1 1 x2 y2 1 + 7 * (aZ x1 y1 1 x2 y2 1 * aZ x1 y1 1 x2 y2 1 * aZ x1 y1 1 x2 y2 1) := by
  unfold aX aY aZ
  grind (ringSteps := 10000000)

theorem aZ_sq (x1 y1 x2 y2 : F) (h1 : y1 * y1 = x1 * x1 * x1 + 7) (h2 : y2 * y2 = x2 * x2 * x2 + 7) :
    aZ x1 y1 1 x2 y2 1 * aZ x1 y1 1 x2 y2 1 = ((y1 + y2) * (y1 + y2) - (x2 - x1) * (x2 - x1) * (x1 + x2)) * ((y1 + y2) * (y1 + y2) - (x2 - x1) * (x2 - x1) * (x1 + x2)) * ((y1 + y2) * (y1 + y2) - (x2 - x1) * (x2 - x1) * (x1 + x2)) + 7 * ((x2 - x1) * (x2 - x1) * ((x2 - x1) * (x2 - x1)) * ((x2 - x1) * (x2 - x1))) := by
  unfold aZ
  grind (ringSteps := 10000000)

theorem aZ_dbl (x y : F) (h : y * y = x * x * x + 7) : aZ x y 1 x y 1 = 2 * y * (2 * y * (2 * y)) := by
  unfold aZ
  grind

theorem aZ_ne (C : Crv F) {x1 y1 x2 y2 : F} (h1 : y1 * y1 = x1 * x1 * x1 + 7) (h2 : y2 * y2 = x2 * x2 * x2 + 7) (hne : ¬ (x1 = x2 ∧ y1 + y2 = 0)) : aZ x1 y1 1 x2 y2 1 ≠ 0 := by
  by_cases hx : x1 = x2
  · subst hx
    have hs : y1 + y2 ≠ 0 := fun h => hne ⟨rfl, h⟩
    have hd : y1 - y2 = 0 := by
      by_cases h : y1 - y2 = 0
      · exact h
      · exact absurd (show (y1 - y2) * (y1 + y2) = 0 by grind) (C.mul_ne h hs)
    have : y1 = y2 := by grind
    subst this
    rw [aZ_dbl x1 y1 h1]
    have h2y := C.mul_ne C.two (On.y_ne C h1)
    exact C.mul_ne h2y (C.mul_ne h2y h2y)
  · intro hz
    have hv : x2 - x1 ≠ 0 := fun h => hx (by grind)
    obtain ⟨w, hw⟩ := C.inv _ hv
    have := aZ_sq x1 y1 x2 y2 h1 h2
    rw [hz] at this
    generalize hu : (y1 + y2) * (y1 + y2) - (x2 - x1) * (x2 - x1) * (x1 + x2) = u at this
    generalize x2 - x1 = t at *
    refine C.no2 (u * (w * w)) ?_
    have e : t * t * (t * t) * (t * t) * (w * w * (w * w) * (w * w)) = 1 := by
      have : t * t * (t * t) * (t * t) * (w * w * (w * w) * (w * w)) = (t * w) * (t * w) * ((t * w) * (t * w)) * ((t * w) * (t * w)) := by grind
      rw [this, hw]; grind
    clear hu h1 h2 hz hne hx hv
    generalize t * t * (t * t) * (t * t) = T at *
    have e3 : u * (w * w) * (u * (w * w)) * (u * (w * w)) = u * u * u * (w * w * (w * w) * (w * w)) := by clear this e hw; grind
    rw [e3]
    generalize w * w * (w * w) * (w * w) = V at *
    clear hw e3
    grind

theorem on_div (C : Crv F) {x y z : F} (hz : z ≠ 0) (h : y * y * z = x * x * x + 7 * (z * z * z)) : y * iv z * (y * iv z) = x * iv z * (x * iv z) * (x * iv z) + 7 := by
  have hi := iv_spec C hz
  generalize iv z = i at *
  have e : z * z * z * (i * i * i) = 1 := by
    have : z * z * z * (i * i * i) = (z * i) * (z * i) * (z * i) := by grind
    rw [this, hi]; grind
  have h3 : y * y * z * (i * i * i) = y * i * (y * i) * (z * i) := by grind
  grind

theorem On.add (C : Crv F) {P Q : Pt F} (hP : On P) (hQ : On Q) : On (padd P Q) := by
  cases P with
  | inf => exact hQ
  | aff x1 y1 =>
    cases Q with
    | inf => exact hP
    | aff x2 y2 =>
      by_cases h : x1 = x2 ∧ y1 + y2 = 0
      · rw [padd_opp h]; trivial
      · rw [padd_gen h]
        exact on_div C (aZ_ne C hP hQ h) (a_on x1 y1 x2 y2 hP hQ)

theorem On.neg {P : Pt F} (hP : On P) : On P.neg := by
  cases P with
  | inf => trivial
  | aff x y => show -y * -y = _; have : y * y = x * x * x + 7 := hP; grind

theorem aY_opp_ne (C : Crv F) {x y : F} (h : y * y = x * x * x + 7) : aY x y 1 x y 1 ≠ 0 := by
  intro h0
  have hz := aZ_ne C h h (fun hh => by
    have := C.mul_ne C.two (On.y_ne C h)
    exact this (by grind))
  have h1 := a_on x y x y h h
  rw [h0] at h1
  have h2 := on_div C (x := aX x y 1 x y 1) (y := 0) hz (by grind)
  exact C.no2 _ (by rw [← h2]; grind)

def tX : Pt F → F
  | .inf => 0
  | .aff x _ => x
def tY : Pt F → F
  | .inf => 1
  | .aff _ y => y
def tZ : Pt F → F
  | .inf => 0
  | .aff _ _ => 1

theorem add_tri (C : Crv F) {P Q : Pt F} (hP : On P) (hQ : On Q) : ∃ c : F, c ≠ 0 ∧ aX (tX P) (tY P) (tZ P) (tX Q) (tY Q) (tZ Q) = c * tX (padd P Q) ∧
    aY (tX P) (tY P) (tZ P) (tX Q) (tY Q) (tZ Q) = c * tY (padd P Q) ∧ aZ (tX P) (tY P) (tZ P) (tX Q) (tY Q) (tZ Q) = c * tZ (padd P Q) := by
  cases P with
  | inf =>
    cases Q with
    | inf => exact ⟨1, C.one_ne, by simp only [aX, padd, tX, tY, tZ]; grind, by simp only [aY, padd, tX, tY, tZ]; grind, by simp only [aZ, padd, tX, tY, tZ]; grind⟩
    | aff x y => exact ⟨y, On.y_ne C hQ, by simp only [aX, padd, tX, tY, tZ]; grind, by simp only [aY, padd, tX, tY, tZ]; grind, by simp only [aZ, padd, tX, tY, tZ]; grind⟩
  | aff x1 y1 =>
    cases Q with
    | inf => exact ⟨y1, On.y_ne C hP, by simp only [aX, padd, tX, tY, tZ]; grind, by simp only [aY, padd, tX, tY, tZ]; grind, by simp only [aZ, padd, tX, tY, tZ]; grind⟩
    | aff x2 y2 =>
      by_cases h : x1 = x2 ∧ y1 + y2 = 0
      · rw [padd_opp h]
        obtain ⟨rfl, h⟩ := h
        have : y2 = -y1 := by grind
        subst this
        refine ⟨aY x1 y1 1 x1 y1 1, aY_opp_ne C hP, ?_, ?_, ?_⟩
        · simp only [aX, tX, tY, tZ]; grind
        · simp only [aY, tX, tY, tZ]; grind
        · simp only [aZ, tX, tY, tZ]; grind
      · rw [padd_gen h]
        have hz := aZ_ne C hP hQ h
        have hi := iv_spec C hz
        refine ⟨aZ x1 y1 1 x2 y2 1, hz, ?_, ?_, ?_⟩ <;> simp only [tX, tY, tZ] <;> grind

theorem aX_l (c X1 Y1 Z1 X2 Y2 Z2 : F) : aX (c * X1) (c * Y1) (c * Z1) X2 Y2 Z2 = c * c * aX X1 Y1 Z1 X2 Y2 Z2 := by unfold aX; grind
theorem aY_l (c X1 Y1 Z1 X2 Y2 Z2 : F) : aY (c * X1) (c * Y1) (c * Z1) X2 Y2 Z2 = c * c * aY X1 Y1 Z1 X2 Y2 Z2 := by unfold aY; grind
theorem aZ_l (c X1 Y1 Z1 X2 Y2 Z2 : F) : aZ (c * X1) (c * Y1) (c * Z1) X2 Y2 Z2 = c * c * aZ X1 Y1 Z1 X2 Y2 Z2 := by unfold aZ; grind
theorem aX_r (c X1 Y1 Z1 X2 Y2 Z2 : F) : aX X1 Y1 Z1 (c * X2) (c * Y2) (c * Z2) = c * c * aX X1 Y1 Z1 X2 Y2 Z2 := by unfold aX; grind
theorem aY_r (c X1 Y1 Z1 X2 Y2 Z2 : F) : aY X1 Y1 Z1 (c * X2) (c * Y2) (c * Z2) = c * c * aY X1 Y1 Z1 X2 Y2 Z2 := by unfold aY; grind
theorem aZ_r (c X1 Y1 Z1 X2 Y2 Z2 : F) : aZ X1 Y1 Z1 (c * X2) (c * Y2) (c * Z2) = c * c * aZ X1 Y1 Z1 X2 Y2 Z2 := by unfold aZ; grind

theorem tri_eq (C : Crv F) {A B : Pt F} {k l : F} (hk : k ≠ 0) (hl : l ≠ 0) (h1 : k * tX A * (l * tZ B) = l * tX B * (k * tZ A)) (h2 : k * tY A * (l * tZ B) = l * tY B * (k * tZ A)) : A = B := by
  have hkl := C.mul_ne hk hl
  have e1 : tX A * tZ B = tX B * tZ A := C.cancel hkl (by grind)
  have e2 : tY A * tZ B = tY B * tZ A := C.cancel hkl (by grind)
  have h01 := C.one_ne
  cases A <;> cases B <;> simp only [tX, tY, tZ] at e1 e2
  · rfl
  · exact absurd (show (1 : F) = 0 by grind) h01
  · exact absurd (show (1 : F) = 0 by grind) h01
  · congr 1 <;> grind

theorem padd_assoc (C : Crv F) {P Q R : Pt F} (hP : On P) (hQ : On Q) (hR : On R) : padd (padd P Q) R = padd P (padd Q R) := by
  cases P with
  | inf => rfl
  | aff x1 y1 =>
    cases Q with
    | inf => rfl
    | aff x2 y2 =>
      cases R with
      | inf => rw [padd_inf, padd_inf]
      | aff x3 y3 =>
        obtain ⟨c1, hc1, a1, a2, a3⟩ := add_tri C hP hQ
        obtain ⟨c2, hc2, b1, b2, b3⟩ := add_tri C (hP.add C hQ) hR
        obtain ⟨d1, hd1, f1, f2, f3⟩ := add_tri C hQ hR
        obtain ⟨d2, hd2, g1, g2, g3⟩ := add_tri C hP (hQ.add C hR)
        obtain ⟨e1, e2⟩ := assoc_cross x1 y1 x2 y2 x3 y3 hP hQ hR
        have u1 : aX x1 y1 1 x2 y2 1 = c1 * tX (padd (.aff x1 y1) (.aff x2 y2)) := a1
        have u2 : aY x1 y1 1 x2 y2 1 = c1 * tY (padd (.aff x1 y1) (.aff x2 y2)) := a2
        have u3 : aZ x1 y1 1 x2 y2 1 = c1 * tZ (padd (.aff x1 y1) (.aff x2 y2)) := a3
        have v1 : aX x2 y2 1 x3 y3 1 = d1 * tX (padd (.aff x2 y2) (.aff x3 y3)) := f1
        have v2 : aY x2 y2 1 x3 y3 1 = d1 * tY (padd (.aff x2 y2) (.aff x3 y3)) := f2
        have v3 : aZ x2 y2 1 x3 y3 1 = d1 * tZ (padd (.aff x2 y2) (.aff x3 y3)) := f3
        rw [u1, u2, u3, v1, v2, v3, aX_l, aZ_l, aX_r, aZ_r] at e1
        rw [u1, u2, u3, v1, v2, v3, aY_l, aZ_l, aY_r, aZ_r] at e2
        have b1' : aX _ _ _ x3 y3 1 = _ := b1
        have b2' : aY _ _ _ x3 y3 1 = _ := b2
        have b3' : aZ _ _ _ x3 y3 1 = _ := b3
        have g1' : aX x1 y1 1 _ _ _ = _ := g1
        have g2' : aY x1 y1 1 _ _ _ = _ := g2
        have g3' : aZ x1 y1 1 _ _ _ = _ := g3
        rw [b1', b3', g1', g3'] at e1
        rw [b2', b3', g2', g3'] at e2
        clear a1 a2 a3 b1 b2 b3 f1 f2 f3 g1 g2 g3 u1 u2 u3 v1 v2 v3 b1' b2' b3' g1' g2' g3'
        refine tri_eq C (k := c1 * c1 * c2) (l := d1 * d1 * d2) (C.mul_ne (C.mul_ne hc1 hc1) hc2) (C.mul_ne (C.mul_ne hd1 hd1) hd2) ?_ ?_
        · clear e2; grind
        · clear e1; grind

theorem padd_comm (P Q : Pt F) : padd P Q = padd Q P := by
  cases P with
  | inf => rw [padd_inf]; rfl
  | aff x1 y1 =>
    cases Q with
    | inf => rfl
    | aff x2 y2 =>
      have eX : aX x1 y1 1 x2 y2 1 = aX x2 y2 1 x1 y1 1 := by unfold aX; grind
      have eY : aY x1 y1 1 x2 y2 1 = aY x2 y2 1 x1 y1 1 := by unfold aY; grind
      have eZ : aZ x1 y1 1 x2 y2 1 = aZ x2 y2 1 x1 y1 1 := by unfold aZ; grind
      by_cases h : x1 = x2 ∧ y1 + y2 = 0
      · rw [padd_opp h, padd_opp ⟨h.1.symm, by have := h.2; grind⟩]
      · rw [padd_gen h, padd_gen (fun h' => h ⟨h'.1.symm, by have := h'.2; grind⟩), eX, eY, eZ]

theorem padd_neg (P : Pt F) : padd P P.neg = .inf := by
  cases P with
  | inf => rfl
  | aff x y => exact padd_opp ⟨rfl, by grind⟩

/-- So many times a point. -/
noncomputable def nmul : Nat → Pt F → Pt F
  | 0, _ => .inf
  | n + 1, P => padd (nmul n P) P

theorem On.nmul (C : Crv F) {P : Pt F} (hP : On P) : ∀ n, On (nmul n P)
  | 0 => trivial
  | n + 1 => (On.nmul C hP n).add C hP

theorem nmul_one (P : Pt F) : nmul 1 P = P := rfl
theorem nmul_add (C : Crv F) {P : Pt F} (hP : On P) (m : Nat) : ∀ n, nmul (m + n) P = padd (nmul m P) (nmul n P)
  | 0 => (padd_inf _).symm
  | n + 1 => by
    show padd (nmul (m + n) P) P = padd (nmul m P) (padd (nmul n P) P)
    rw [nmul_add C hP m n, padd_assoc C (hP.nmul C m) (hP.nmul C n) hP]
theorem nmul_inf : ∀ n, nmul n (.inf : Pt F) = .inf
  | 0 => rfl
  | n + 1 => by show padd (nmul n _) _ = _; rw [nmul_inf n]; rfl
theorem nmul_mul (C : Crv F) {P : Pt F} (hP : On P) (m : Nat) : ∀ n, nmul (n * m) P = nmul n (nmul m P)
  | 0 => by rw [Nat.zero_mul]; rfl
  | n + 1 => by rw [Nat.succ_mul, nmul_add C hP, nmul_mul C hP m n]; rfl
theorem nmul_padd (C : Crv F) {P Q : Pt F} (hP : On P) (hQ : On Q) : ∀ n, nmul n (padd P Q) = padd (nmul n P) (nmul n Q)
  | 0 => rfl
  | n + 1 => by
    show padd (nmul n (padd P Q)) (padd P Q) = padd (padd (nmul n P) P) (padd (nmul n Q) Q)
    have a := hP.nmul C n
    have b := hQ.nmul C n
    rw [nmul_padd C hP hQ n, padd_assoc C a b (hP.add C hQ), ← padd_assoc C b hP hQ, padd_comm (nmul n Q) P, padd_assoc C hP b hQ, ← padd_assoc C a hP (b.add C hQ)]

/-- A point by x = X / (Z Z), y = Y / (Z Z Z). -/
def JR (x y z : F) : Pt F → Prop
  | .inf => z = 0
  | .aff X Y => z ≠ 0 ∧ x = X * (z * z) ∧ y = Y * (z * (z * z))

theorem JR.of (C : Crv F) {x y X Y D z' : F} (hD : D ≠ 0) (hz : z' ≠ 0) (h1 : x * D = X * (z' * z')) (h2 : y * D = Y * (z' * (z' * z'))) : JR x y z' (.aff (X * iv D) (Y * iv D)) := by
  have hi := iv_spec C hD
  refine ⟨hz, ?_, ?_⟩
  · have e : x = x * D * iv D := by grind
    rw [e, h1]; grind
  · have e : y = y * D * iv D := by grind
    rw [e, h2]; grind

theorem jr_dbl (C : Crv F) {x y z : F} {P : Pt F} (hP : On P) (h : JR x y z P) {x' y' z' : F}
    (hx : x' = (3 * (x * x)) * (3 * (x * x)) - 8 * (x * (y * y))) (hy : y' = (3 * (x * x)) * (4 * (x * (y * y)) - x') - 8 * ((y * y) * (y * y))) (hz : z' = 2 * (y * z)) : JR x' y' z' (padd P P) := by
  cases P with
  | inf => have h : z = 0 := h; show z' = 0; rw [hz, h]; grind
  | aff X Y =>
    obtain ⟨h1, h2, h3⟩ := h
    have hy0 := On.y_ne C hP
    have hne : ¬ (X = X ∧ Y + Y = 0) := fun hh => (C.mul_ne C.two hy0) (by have := hh.2; grind)
    rw [padd_gen hne]
    have hP : Y * Y = X * X * X + 7 := hP
    have hz' : z' ≠ 0 := by
      rw [hz, h3]
      exact C.mul_ne C.two (C.mul_ne (C.mul_ne hy0 (C.mul_ne h1 (C.mul_ne h1 h1))) h1)
    refine JR.of C (aZ_ne C hP hP hne) hz' ?_ ?_
    · rw [aZ_dbl X Y hP, hx, hz, h2, h3]; unfold aX
      have e7 : (7 : F) = Y * Y - X * X * X := by grind
      grind (ringSteps := 10000000)
    · rw [aZ_dbl X Y hP, hy, hx, hz, h2, h3]; unfold aY
      grind (ringSteps := 10000000)

theorem chordX (X1 Y1 X2 Y2 : F) (h1 : Y1 * Y1 = X1 * X1 * X1 + 7) (h2 : Y2 * Y2 = X2 * X2 * X2 + 7) :
    ((Y2 - Y1) * (Y2 - Y1) - (X2 - X1) * ((X2 - X1) * (X2 - X1)) - 2 * (X1 * ((X2 - X1) * (X2 - X1)))) * aZ X1 Y1 1 X2 Y2 1 = aX X1 Y1 1 X2 Y2 1 * ((X2 - X1) * (X2 - X1)) := by
  unfold aX aZ
  grind (ringSteps := 10000000)

theorem chordY (X1 Y1 X2 Y2 : F) (h1 : Y1 * Y1 = X1 * X1 * X1 + 7) (h2 : Y2 * Y2 = X2 * X2 * X2 + 7) :
    ((Y2 - Y1) * (X1 * ((X2 - X1) * (X2 - X1)) - ((Y2 - Y1) * (Y2 - Y1) - (X2 - X1) * ((X2 - X1) * (X2 - X1)) - 2 * (X1 * ((X2 - X1) * (X2 - X1))))) - Y1 * ((X2 - X1) * ((X2 - X1) * (X2 - X1)))) * aZ X1 Y1 1 X2 Y2 1 = aY X1 Y1 1 X2 Y2 1 * ((X2 - X1) * ((X2 - X1) * (X2 - X1))) := by
  unfold aY aZ
  grind (ringSteps := 10000000)

/-- What the sum of two points told so needs to know: h, r of both. -/
theorem jr_hr (C : Crv F) {x1 y1 z1 x2 y2 z2 X1 Y1 X2 Y2 h r : F} (hP : JR x1 y1 z1 (.aff X1 Y1)) (hQ : JR x2 y2 z2 (.aff X2 Y2))
    (hh : h = x2 * (z1 * z1) - x1 * (z2 * z2)) (hr : r = y2 * (z1 * z1 * z1) - y1 * (z2 * z2 * z2)) :
    h = (X2 - X1) * ((z1 * z2) * (z1 * z2)) ∧ r = (Y2 - Y1) * ((z1 * z2) * (z1 * z2) * (z1 * z2)) ∧ z1 * z2 ≠ 0 := by
  obtain ⟨a1, a2, a3⟩ := hP
  obtain ⟨b1, b2, b3⟩ := hQ
  refine ⟨?_, ?_, C.mul_ne a1 b1⟩
  · rw [hh, a2, b2]; grind
  · rw [hr, a3, b3]; grind

theorem jr_add (C : Crv F) {x1 y1 z1 x2 y2 z2 h r : F} {P Q : Pt F} (oP : On P) (oQ : On Q) (hP : JR x1 y1 z1 P) (hQ : JR x2 y2 z2 Q) (n1 : z1 ≠ 0) (n2 : z2 ≠ 0)
    (hh : h = x2 * (z1 * z1) - x1 * (z2 * z2)) (hr : r = y2 * (z1 * z1 * z1) - y1 * (z2 * z2 * z2)) (hne : h ≠ 0) {x y z : F}
    (hx : x = r * r - h * h * h - 2 * (x1 * (z2 * z2) * (h * h))) (hy : y = r * (x1 * (z2 * z2) * (h * h) - x) - y1 * (z2 * z2 * z2) * (h * h * h)) (hz : z = h * (z1 * z2)) : JR x y z (padd P Q) := by
  cases P with
  | inf => exact absurd hP n1
  | aff X1 Y1 =>
    cases Q with
    | inf => exact absurd hQ n2
    | aff X2 Y2 =>
      obtain ⟨e1, e2, e3⟩ := jr_hr C hP hQ hh hr
      obtain ⟨_, a2, a3⟩ := hP
      have hv : X2 - X1 ≠ 0 := fun h0 => hne (by rw [e1, h0]; grind)
      have hgen : ¬ (X1 = X2 ∧ Y1 + Y2 = 0) := fun hh => hv (by have := hh.1; grind)
      rw [padd_gen hgen]
      have hD := aZ_ne C oP oQ hgen
      have c1 := chordX X1 Y1 X2 Y2 oP oQ
      have c2 := chordY X1 Y1 X2 Y2 oP oQ
      have u1 : x1 * (z2 * z2) = X1 * ((z1 * z2) * (z1 * z2)) := by rw [a2]; grind
      have u2 : y1 * (z2 * z2 * z2) = Y1 * ((z1 * z2) * (z1 * z2) * (z1 * z2)) := by rw [a3]; grind
      rw [u1] at hx hy
      rw [u2] at hy
      generalize z1 * z2 = Z at *
      generalize X2 - X1 = v at *
      generalize Y2 - Y1 = u at *
      have xx : x = (u * u - v * (v * v) - 2 * (X1 * (v * v))) * ((Z * Z) * (Z * Z) * (Z * Z)) := by rw [hx, e1, e2]; clear c1 c2 hx hy e1 e2; grind
      refine JR.of C hD ?_ ?_ ?_
      · rw [hz]; exact C.mul_ne hne e3
      · rw [xx, hz, e1]
        have : (u * u - v * (v * v) - 2 * (X1 * (v * v))) * (Z * Z * (Z * Z) * (Z * Z)) * aZ X1 Y1 1 X2 Y2 1 = ((u * u - v * (v * v) - 2 * (X1 * (v * v))) * aZ X1 Y1 1 X2 Y2 1) * (Z * Z * (Z * Z) * (Z * Z)) := by clear c1 c2; grind
        rw [this, c1]; clear c1 c2 this; grind
      · have yy : y = (u * (X1 * (v * v) - (u * u - v * (v * v) - 2 * (X1 * (v * v)))) - Y1 * (v * (v * v))) * (Z * Z * Z * (Z * Z * Z) * (Z * Z * Z)) := by rw [hy, xx, e1, e2]; clear c1 c2 hx hy e1 e2 xx; grind
        rw [yy, hz, e1]
        have : (u * (X1 * (v * v) - (u * u - v * (v * v) - 2 * (X1 * (v * v)))) - Y1 * (v * (v * v))) * (Z * Z * Z * (Z * Z * Z) * (Z * Z * Z)) * aZ X1 Y1 1 X2 Y2 1 = ((u * (X1 * (v * v) - (u * u - v * (v * v) - 2 * (X1 * (v * v)))) - Y1 * (v * (v * v))) * aZ X1 Y1 1 X2 Y2 1) * (Z * Z * Z * (Z * Z * Z) * (Z * Z * Z)) := by clear c1 c2; grind
        rw [this, c2]; clear c1 c2 this; grind

theorem jr_opp (C : Crv F) {x1 y1 z1 x2 y2 z2 h r : F} {P Q : Pt F} (oP : On P) (oQ : On Q) (hP : JR x1 y1 z1 P) (hQ : JR x2 y2 z2 Q) (n1 : z1 ≠ 0) (n2 : z2 ≠ 0)
    (hh : h = x2 * (z1 * z1) - x1 * (z2 * z2)) (hr : r = y2 * (z1 * z1 * z1) - y1 * (z2 * z2 * z2)) (h0 : h = 0) (hne : r ≠ 0) : padd P Q = .inf := by
  cases P with
  | inf => exact absurd hP n1
  | aff X1 Y1 =>
    cases Q with
    | inf => exact absurd hQ n2
    | aff X2 Y2 =>
      obtain ⟨e1, e2, e3⟩ := jr_hr C hP hQ hh hr
      have hX : X2 - X1 = 0 := by
        by_cases h : X2 - X1 = 0
        · exact h
        · exact absurd (e1 ▸ h0) (C.mul_ne h (C.mul_ne e3 e3))
      have hX' : X1 = X2 := by clear e1 e2 hh hr hP hQ; grind
      have hY : Y2 - Y1 ≠ 0 := fun h => hne (by rw [e2, h]; clear e1 e2 hh hr hP hQ; grind)
      subst hX'
      have oP : Y1 * Y1 = X1 * X1 * X1 + 7 := oP
      have oQ : Y2 * Y2 = X1 * X1 * X1 + 7 := oQ
      refine padd_opp ⟨rfl, ?_⟩
      by_cases h : Y1 + Y2 = 0
      · exact h
      · exact absurd (show (Y1 + Y2) * (Y2 - Y1) = 0 by clear e1 e2 hh hr hP hQ; grind) (C.mul_ne h hY)

theorem jr_same (C : Crv F) {x1 y1 z1 x2 y2 z2 h r : F} {P Q : Pt F} (hP : JR x1 y1 z1 P) (hQ : JR x2 y2 z2 Q) (n1 : z1 ≠ 0) (n2 : z2 ≠ 0)
    (hh : h = x2 * (z1 * z1) - x1 * (z2 * z2)) (hr : r = y2 * (z1 * z1 * z1) - y1 * (z2 * z2 * z2)) (h0 : h = 0) (r0 : r = 0) : P = Q := by
  cases P with
  | inf => exact absurd hP n1
  | aff X1 Y1 =>
    cases Q with
    | inf => exact absurd hQ n2
    | aff X2 Y2 =>
      obtain ⟨e1, e2, e3⟩ := jr_hr C hP hQ hh hr
      have hX : X2 - X1 = 0 := by
        by_cases h : X2 - X1 = 0
        · exact h
        · exact absurd (e1 ▸ h0) (C.mul_ne h (C.mul_ne e3 e3))
      have hY : Y2 - Y1 = 0 := by
        by_cases h : Y2 - Y1 = 0
        · exact h
        · exact absurd (e2 ▸ r0) (C.mul_ne h (C.mul_ne (C.mul_ne e3 e3) e3))
      have hX' : X1 = X2 := by clear e1 e2 hh hr hP hQ; grind
      have hY' : Y1 = Y2 := by clear e1 e2 hh hr hP hQ; grind
      rw [hX', hY']

end
end Go.Wit
end

section
/- Numbers modulo the first prime are such as a curve asks for; the point that all begins with, and how many its multiples are; no condition. -/
set_option linter.unusedVariables false
set_option maxRecDepth 100000
namespace Go.Wit

abbrev Fp : Type := Fin pP
instance : NeZero pP := ⟨by decide⟩

theorem fp_mul (a b : Fp) : (a * b).val = a.val * b.val % pP := rfl
theorem fp_add (a b : Fp) : (a + b).val = (a.val + b.val) % pP := rfl
theorem fp_sub (a b : Fp) : (a - b).val = (pP - b.val + a.val) % pP := rfl
theorem fp_neg (a : Fp) : (-a).val = (pP - a.val) % pP := rfl
theorem fp_zero : (0 : Fp).val = 0 := rfl
theorem fp_one : (1 : Fp).val = 1 := rfl
theorem fp_two : (2 : Fp).val = 2 := rfl
theorem fp_seven : (7 : Fp).val = 7 := rfl

theorem fp_ne {a : Fp} (h : a ≠ 0) : ¬ pP ∣ a.val := fun hd => by
  have h1 := a.isLt
  rcases Nat.eq_zero_or_pos a.val with h2 | h2
  · exact h (Fin.ext h2)
  · have := Nat.le_of_dvd h2 hd; omega

/-- Powers. -/
def fpow (a : Fp) (e : Nat) : Fp := Fin.ofNat pP (a.val ^ e)
theorem fpow_val (a : Fp) (e : Nat) : (fpow a e).val = a.val ^ e % pP := rfl
theorem fpow_inv {a : Fp} (h : a ≠ 0) : a * fpow a (pP - 2) = 1 := by
  apply Fin.ext
  rw [fp_mul, fpow_val, fp_one]
  have h1 := fermat prmP (fp_ne h)
  have h2 : a.val ^ (pP - 1) = a.val ^ (pP - 2) * a.val := by rw [← Nat.pow_succ, show (pP - 2).succ = pP - 1 by decide]
  rw [Nat.mul_mod, Nat.mod_mod, ← Nat.mul_mod, Nat.mul_comm, ← h2]
  exact h1

theorem no_root : pwm pP 400 (pP - 7) ((pP - 1) / 3) ≠ 1 := by decide +kernel
theorem third : 3 * ((pP - 1) / 3) = pP - 1 := by decide +kernel

theorem mod_seven {t P : Nat} (hP : 8 ≤ P) (ht : t < P) (h : (t + 7) % P = 0) : t = P - 7 := by
  rcases Nat.lt_or_ge (t + 7) P with h1 | h1
  · rw [Nat.mod_eq_of_lt h1] at h; omega
  · rw [Nat.mod_eq_sub_mod h1, Nat.mod_eq_of_lt (by omega)] at h; omega

theorem fp_no2 (x : Fp) : x * x * x + 7 ≠ 0 := by
  intro h
  have h1 : (x * x * x + 7).val = 0 := by rw [h]; rfl
  rw [fp_add, fp_mul, fp_mul, fp_seven] at h1
  have hx : x ≠ 0 := by
    rintro rfl
    revert h1
    rw [fp_zero]
    decide
  have h2 := fermat prmP (fp_ne hx)
  have h3 : x.val ^ 3 % pP = pP - 7 := by
    have e : x.val ^ 3 % pP = x.val * x.val % pP * x.val % pP := by
      rw [show x.val ^ 3 = x.val * x.val * x.val by rw [Nat.pow_succ, Nat.pow_two], Nat.mul_mod, Nat.mod_eq_of_lt x.isLt]
    rw [e]
    exact mod_seven (by decide) (Nat.mod_lt _ (by decide)) h1
  have h4 : (pP - 7) ^ ((pP - 1) / 3) % pP = 1 := by
    rw [← h3, ← Nat.pow_mod, ← Nat.pow_mul, third]; exact h2
  refine no_root ?_
  rw [pwm_eq _ _ _ _ (by decide +kernel)]
  exact h4

theorem crvP : Crv Fp where
  inv a h := ⟨_, fpow_inv h⟩
  two := by
    intro h
    have : (2 : Fp).val = (0 : Fp).val := by rw [h]
    rw [fp_two, fp_zero] at this
    cases this
  no2 := fp_no2

end Go.Wit
end

section
/- The point that all begins with, and how many its multiples are; no condition. -/
set_option linter.unusedVariables false
set_option maxRecDepth 100000
namespace Go.Wit

structure J where
  x : Fp
  y : Fp
  z : Fp
def JRel (a : J) (P : Pt Fp) : Prop := JR a.x a.y a.z P

def jdbl (a : J) : J :=
  let yy := a.y * a.y
  let s := 4 * (a.x * yy)
  let m := 3 * (a.x * a.x)
  let x := m * m - 2 * s
  ⟨x, m * (s - x) - 8 * (yy * yy), 2 * (a.y * a.z)⟩

theorem jdbl_rel {a : J} {P : Pt Fp} (hP : On P) (h : JRel a P) : JRel (jdbl a) (padd P P) := by
  refine jr_dbl crvP hP h ?_ ?_ rfl <;> simp only [jdbl] <;> grind

def jadd (a b : J) : J :=
  if a.z = 0 then b else if b.z = 0 then a else
  let za := a.z * a.z
  let zb := b.z * b.z
  let ua := a.x * zb
  let sa := a.y * (zb * b.z)
  let h := b.x * za - ua
  let r := b.y * (za * a.z) - sa
  if h = 0 then (if r = 0 then jdbl a else ⟨1, 1, 0⟩) else
  let hh := h * h
  let hhh := hh * h
  let v := ua * hh
  let x := r * r - hhh - 2 * v
  ⟨x, r * (v - x) - sa * hhh, h * (a.z * b.z)⟩

theorem JRel.inf {a : J} (h : a.z = 0) {P : Pt Fp} (hP : JRel a P) : P = .inf := by
  cases P with
  | inf => rfl
  | aff X Y => exact absurd h hP.1

theorem jadd_rel {a b : J} {P Q : Pt Fp} (oP : On P) (oQ : On Q) (hP : JRel a P) (hQ : JRel b Q) : JRel (jadd a b) (padd P Q) := by
  unfold jadd
  by_cases n1 : a.z = 0
  · rw [if_pos n1, JRel.inf n1 hP]; exact hQ
  rw [if_neg n1]
  by_cases n2 : b.z = 0
  · rw [if_pos n2, JRel.inf n2 hQ, padd_inf]; exact hP
  rw [if_neg n2]
  simp only
  have hr : b.y * (a.z * a.z * a.z) - a.y * (b.z * b.z * b.z) = b.y * (a.z * a.z * a.z) - a.y * (b.z * b.z * b.z) := rfl
  by_cases h0 : b.x * (a.z * a.z) - a.x * (b.z * b.z) = 0
  · rw [if_pos h0]
    by_cases r0 : b.y * (a.z * a.z * a.z) - a.y * (b.z * b.z * b.z) = 0
    · rw [if_pos r0]
      obtain rfl := jr_same crvP hP hQ n1 n2 rfl rfl h0 r0
      exact jdbl_rel oP hP
    · rw [if_neg r0, jr_opp crvP oP oQ hP hQ n1 n2 rfl rfl h0 r0]
      rfl
  · rw [if_neg h0]
    refine jr_add crvP oP oQ hP hQ n1 n2 rfl rfl h0 ?_ ?_ rfl
    · first | rfl | grind
    · first | rfl | grind

abbrev gX : Fp := ⟨55066263022277343669578718895168534326250603453777594175500187360389116729240, by decide⟩
abbrev gY : Fp := ⟨32670510020758816978083085130507043184471273380659243275938904335757337482424, by decide⟩
def gG : Pt Fp := .aff gX gY
theorem on_G : On gG := by
  show gY * gY = gX * gX * gX + 7
  decide +kernel

/-- Multiples by halving. -/
def jt (k : Nat) : Nat → J := Nat.rec (motive := fun _ => Nat → J) (fun _ => ⟨1, 1, 0⟩) (fun _ ih n => if n % 2 = 1 then jadd (jdbl (ih (n / 2))) ⟨gX, gY, 1⟩ else jdbl (ih (n / 2))) k

theorem G_rel : JRel ⟨gX, gY, 1⟩ gG := by
  refine ⟨fun h => ?_, ?_, ?_⟩
  · exact crvP.one_ne h
  · show gX = gX * (1 * 1); grind
  · show gY = gY * (1 * (1 * 1)); grind

theorem jt_rel : ∀ (k n : Nat), n < 2 ^ k → JRel (jt k n) (nmul n gG)
  | 0, n, h => by
    have : n = 0 := by simpa using h
    subst this; rfl
  | k + 1, n, h => by
    have h1 : n / 2 < 2 ^ k := by rw [Nat.pow_succ] at h; omega
    have ih := jdbl_rel (on_G.nmul crvP (n / 2)) (jt_rel k (n / 2) h1)
    rw [← nmul_add crvP on_G] at ih
    show JRel (if n % 2 = 1 then jadd (jdbl (jt k (n / 2))) ⟨gX, gY, 1⟩ else jdbl (jt k (n / 2))) _
    by_cases hb : n % 2 = 1
    · rw [if_pos hb]
      have := jadd_rel (on_G.nmul crvP (n / 2 + n / 2)) on_G ih G_rel
      have e : nmul n gG = padd (nmul (n / 2 + n / 2) gG) gG := by
        show _ = nmul (n / 2 + n / 2 + 1) gG
        congr 1; omega
      rw [e]; exact this
    · rw [if_neg hb]
      rw [show n / 2 + n / 2 = n by omega] at ih
      exact ih

theorem jt_n : (jt 256 nN).z = 0 := by decide +kernel

/-- The order of the point. -/
theorem nG_of (k N : Nat) (hN : N < 2 ^ k) (h : (jt k N).z = 0) : nmul N gG = .inf := JRel.inf h (jt_rel k N hN)
theorem nN_lt : nN < 2 ^ 256 := by decide
theorem nG : nmul nN gG = .inf := nG_of 256 nN nN_lt jt_n

theorem nmul_mod (m : Nat) : nmul (m % nN) gG = nmul m gG := by
  have e : m = m / nN * nN + m % nN := by rw [Nat.mul_comm]; exact (Nat.div_add_mod m nN).symm
  have h : nmul m gG = nmul (m / nN * nN + m % nN) gG := by rw [← e]
  rw [h, nmul_add crvP on_G, nmul_mul crvP on_G, nG, nmul_inf]
  rfl

end Go.Wit
end

section
/- Points told by three numbers: the program's sums; no condition. -/
set_option linter.unusedVariables false
set_option linter.unusedSimpArgs false
set_option maxRecDepth 100000
set_option pp.maxSteps 300
namespace Go.Proofs.Ytmngdaeogbjpiaa
open Go Go.Wit

theorem fp_w (x : Fp) : x.val < w256 := Nat.lt_trans x.isLt (by decide)

theorem S_cadd {m : Mem} {K : AV → Mem → Prop} {x y : Fp} (h : ∀ z : Fp, z = x + y → K (numA z.val) m) : ACall Pg F_curve_add [numA x.val, numA y.val] m K := by
  have h0 : ACall Pg F_curve_add [numA x.val, numA y.val] [] (fun v _ => v = numA (x + y).val ∧ Flat true v) := by
    refine B_curve_add ⟨rfl, ?_⟩
    conv => whnf
    refine S_FAdd_0 (fp_w x) (fp_w y) (fun r hr => ?_)
    conv => whnf
    rw [fp_add, ← hr]
    exact ⟨rfl, flat_numA⟩
  refine lift_flat h0 (.cons _ _ _ _ lend_numA (.cons _ _ _ _ lend_numA .nil)) ?_
  rintro v rfl
  exact h _ rfl
theorem S_cmul {m : Mem} {K : AV → Mem → Prop} {x y : Fp} (h : ∀ z : Fp, z = x * y → K (numA z.val) m) : ACall Pg F_curve_mul [numA x.val, numA y.val] m K := by
  have h0 : ACall Pg F_curve_mul [numA x.val, numA y.val] [] (fun v _ => v = numA (x * y).val ∧ Flat true v) := by
    refine B_curve_mul ⟨rfl, ?_⟩
    conv => whnf
    refine S_FMul_0 (fp_w x) (fp_w y) (fun r hr => ?_)
    conv => whnf
    rw [fp_mul, ← hr]
    exact ⟨rfl, flat_numA⟩
  refine lift_flat h0 (.cons _ _ _ _ lend_numA (.cons _ _ _ _ lend_numA .nil)) ?_
  rintro v rfl
  exact h _ rfl
theorem S_csub {m : Mem} {K : AV → Mem → Prop} {x y : Fp} (h : ∀ z : Fp, z = x - y → K (numA z.val) m) : ACall Pg F_curve_sub [numA x.val, numA y.val] m K := by
  have h0 : ACall Pg F_curve_sub [numA x.val, numA y.val] [] (fun v _ => v = numA (x - y).val ∧ Flat true v) := by
    refine B_curve_sub ⟨rfl, ?_⟩
    conv => whnf
    refine S_FSub_0 (fp_w x) (fp_w y) (fun r hr => ?_)
    conv => whnf
    rw [Nat.mod_eq_of_lt y.isLt, Nat.add_comm] at hr
    rw [fp_sub, ← hr]
    exact ⟨rfl, flat_numA⟩
  refine lift_flat h0 (.cons _ _ _ _ lend_numA (.cons _ _ _ _ lend_numA .nil)) ?_
  rintro v rfl
  exact h _ rfl

def jL (a : J) : List AV := [.int .u64 (lim a.x.val 0), .int .u64 (lim a.x.val 1), .int .u64 (lim a.x.val 2), .int .u64 (lim a.x.val 3), .int .u64 (lim a.y.val 0), .int .u64 (lim a.y.val 1), .int .u64 (lim a.y.val 2), .int .u64 (lim a.y.val 3), .int .u64 (lim a.z.val 0), .int .u64 (lim a.z.val 1), .int .u64 (lim a.z.val 2), .int .u64 (lim a.z.val 3)]
def jA (a : J) : AV := .agg (jL a)

theorem S_twice0 (a : J) : ACall Pg F_curve_jac_twice [jA a] [] (fun v _ => v = jA (jdbl a) ∧ Flat true v) := by
  refine B_curve_jac_twice ⟨rfl, ?_⟩
  conv => whnf
  refine S_cmul (fun yy e_yy => ?_)
  conv => whnf
  try (refine ⟨⟨[], rfl⟩, ?_⟩; conv => whnf)
  refine S_cmul (fun s0 e_s0 => ?_)
  conv => whnf
  try (refine ⟨⟨[], rfl⟩, ?_⟩; conv => whnf)
  refine S_cadd (fun s1 e_s1 => ?_)
  conv => whnf
  try (refine ⟨⟨[], rfl⟩, ?_⟩; conv => whnf)
  refine S_cadd (fun s2 e_s2 => ?_)
  conv => whnf
  try (refine ⟨⟨[], rfl⟩, ?_⟩; conv => whnf)
  refine S_cadd (fun s e_s => ?_)
  conv => whnf
  try (refine ⟨⟨[], rfl⟩, ?_⟩; conv => whnf)
  refine S_cmul (fun xx e_xx => ?_)
  conv => whnf
  try (refine ⟨⟨[], rfl⟩, ?_⟩; conv => whnf)
  refine S_cadd (fun m0 e_m0 => ?_)
  conv => whnf
  try (refine ⟨⟨[], rfl⟩, ?_⟩; conv => whnf)
  refine S_cadd (fun mm e_mm => ?_)
  conv => whnf
  try (refine ⟨⟨[], rfl⟩, ?_⟩; conv => whnf)
  refine S_cmul (fun m2 e_m2 => ?_)
  conv => whnf
  try (refine ⟨⟨[], rfl⟩, ?_⟩; conv => whnf)
  refine S_cadd (fun ss e_ss => ?_)
  conv => whnf
  try (refine ⟨⟨[], rfl⟩, ?_⟩; conv => whnf)
  refine S_csub (fun x e_x => ?_)
  conv => whnf
  try (refine ⟨⟨[], rfl⟩, ?_⟩; conv => whnf)
  refine S_cmul (fun y0 e_y0 => ?_)
  conv => whnf
  try (refine ⟨⟨[], rfl⟩, ?_⟩; conv => whnf)
  refine S_cadd (fun y1 e_y1 => ?_)
  conv => whnf
  try (refine ⟨⟨[], rfl⟩, ?_⟩; conv => whnf)
  refine S_cadd (fun y2 e_y2 => ?_)
  conv => whnf
  try (refine ⟨⟨[], rfl⟩, ?_⟩; conv => whnf)
  refine S_cadd (fun y4 e_y4 => ?_)
  conv => whnf
  try (refine ⟨⟨[], rfl⟩, ?_⟩; conv => whnf)
  refine S_csub (fun d e_d => ?_)
  conv => whnf
  try (refine ⟨⟨[], rfl⟩, ?_⟩; conv => whnf)
  refine S_cmul (fun md e_md => ?_)
  conv => whnf
  try (refine ⟨⟨[], rfl⟩, ?_⟩; conv => whnf)
  refine S_cadd (fun y8 e_y8 => ?_)
  conv => whnf
  try (refine ⟨⟨[], rfl⟩, ?_⟩; conv => whnf)
  refine S_csub (fun y e_y => ?_)
  conv => whnf
  try (refine ⟨⟨[], rfl⟩, ?_⟩; conv => whnf)
  refine S_cmul (fun z0 e_z0 => ?_)
  conv => whnf
  try (refine ⟨⟨[], rfl⟩, ?_⟩; conv => whnf)
  refine S_cadd (fun z e_z => ?_)
  conv => whnf
  try (refine ⟨⟨[], rfl⟩, ?_⟩; conv => whnf)
  have ex : x = (jdbl a).x := by simp only [jdbl]; subst e_x e_m2 e_ss e_mm e_m0 e_xx e_s e_s1 e_s2 e_s0 e_yy; grind
  have ey : y = (jdbl a).y := by
    have : y = mm * (s - x) - 8 * (yy * yy) := by subst e_y e_md e_d e_y8 e_y4 e_y1 e_y2 e_y0; grind
    rw [this, ex]; simp only [jdbl]; subst e_mm e_m0 e_xx e_s e_s1 e_s2 e_s0 e_yy; grind
  have ez : z = (jdbl a).z := by simp only [jdbl]; subst e_z e_z0; grind
  unfold jA jL
  rw [← ex, ← ey, ← ez]
  exact ⟨rfl, .agg _ (by repeat (first | exact .nil | refine .cons _ _ (.int _ _) ?_))⟩
theorem flat_jA {nv : Bool} {a : J} : Flat nv (jA a) := .agg _ (by unfold jL; repeat (first | exact .nil | refine .cons _ _ (.int _ _) ?_))
theorem fp_val0 {x : Fp} : x.val = 0 ↔ x = 0 := ⟨fun h => Fin.ext h, fun h => by rw [h]; rfl⟩
theorem S_twice {m : Mem} {K : AV → Mem → Prop} {a : J} (h : ∀ r, r = jdbl a → K (jA r) m) : ACall Pg F_curve_jac_twice [jA a] m K := by
  refine lift_flat (S_twice0 a) (.cons _ _ _ _ (lend_flat flat_jA) .nil) ?_
  rintro v rfl
  exact h _ rfl

theorem c_eqz_t {a : Nat} {p q : Prop} (ha : a < w256) (hp : a = 0 → p) (hq : a ≠ 0 → q) : condB ((bif false then !(eqZ a) else eqZ a) == true) p q := by
  rw [eqZ_iff ha]
  by_cases h : a = 0
  · rw [decide_eq_true h]; exact hp h
  · rw [decide_eq_false h]; exact hq h

theorem S_plus0 (a b : J) : ACall Pg F_curve_jac_plus [jA a, jA b] [] (fun v _ => v = jA (jadd a b) ∧ Flat true v) := by
  refine B_curve_jac_plus ⟨rfl, ?_⟩
  conv => whnf
  refine c_eqz (fp_w a.z) (fun n1 => ?_) (fun n1 => ?_)
  · conv => whnf
    unfold jadd
    rw [if_pos (fp_val0.1 n1)]
    exact ⟨rfl, flat_jA⟩
  have n1 : a.z ≠ 0 := fun h => n1 (fp_val0.2 h)
  conv => whnf
  refine c_eqz (fp_w b.z) (fun n2 => ?_) (fun n2 => ?_)
  · conv => whnf
    unfold jadd
    rw [if_neg n1, if_pos (fp_val0.1 n2)]
    exact ⟨rfl, flat_jA⟩
  have n2 : b.z ≠ 0 := fun h => n2 (fp_val0.2 h)
  conv => whnf
  refine S_cmul (fun za e_za => ?_)
  conv => whnf
  try (refine ⟨⟨[], rfl⟩, ?_⟩; conv => whnf)
  refine S_cmul (fun zb e_zb => ?_)
  conv => whnf
  try (refine ⟨⟨[], rfl⟩, ?_⟩; conv => whnf)
  refine S_cmul (fun ua e_ua => ?_)
  conv => whnf
  try (refine ⟨⟨[], rfl⟩, ?_⟩; conv => whnf)
  refine S_cmul (fun ub e_ub => ?_)
  conv => whnf
  try (refine ⟨⟨[], rfl⟩, ?_⟩; conv => whnf)
  refine S_cmul (fun t1 e_t1 => ?_)
  conv => whnf
  try (refine ⟨⟨[], rfl⟩, ?_⟩; conv => whnf)
  refine S_cmul (fun sa e_sa => ?_)
  conv => whnf
  try (refine ⟨⟨[], rfl⟩, ?_⟩; conv => whnf)
  refine S_cmul (fun t2 e_t2 => ?_)
  conv => whnf
  try (refine ⟨⟨[], rfl⟩, ?_⟩; conv => whnf)
  refine S_cmul (fun sb e_sb => ?_)
  conv => whnf
  try (refine ⟨⟨[], rfl⟩, ?_⟩; conv => whnf)
  refine S_csub (fun h e_h => ?_)
  conv => whnf
  try (refine ⟨⟨[], rfl⟩, ?_⟩; conv => whnf)
  refine S_csub (fun r e_r => ?_)
  conv => whnf
  try (refine ⟨⟨[], rfl⟩, ?_⟩; conv => whnf)
  have eh : b.x * (a.z * a.z) - a.x * (b.z * b.z) = h := by subst e_h e_ub e_ua e_zb e_za; rfl
  have er : b.y * (a.z * a.z * a.z) - a.y * (b.z * b.z * b.z) = r := by subst e_r e_sb e_sa e_t2 e_t1 e_zb e_za; rfl
  have J0 : jadd a b = if h = 0 then (if r = 0 then jdbl a else ⟨1, 1, 0⟩) else ⟨r * r - h * h * h - 2 * (ua * (h * h)), r * (ua * (h * h) - (r * r - h * h * h - 2 * (ua * (h * h)))) - sa * (h * h * h), h * (a.z * b.z)⟩ := by
    unfold jadd
    rw [if_neg n1, if_neg n2]
    subst e_h e_r e_ub e_sb e_ua e_sa e_t2 e_t1 e_zb e_za
    rfl
  rw [J0]
  clear J0 eh er
  refine c_eqz_t (a := h.val) (fp_w h) (fun h0 => ?_) (fun h0 => ?_)
  · rw [if_pos (fp_val0.1 h0)]
    conv => whnf
    refine c_eqz (a := r.val) (fp_w r) (fun r0 => ?_) (fun r0 => ?_)
    · rw [if_pos (fp_val0.1 r0)]
      conv => whnf
      refine S_twice (fun q hq => ?_)
      conv => whnf
      subst hq
      exact ⟨rfl, flat_jA⟩
    · rw [if_neg (fun h => r0 (fp_val0.2 h))]
      conv => whnf
      refine c_eqz (a := h.val) (fp_w h) (fun h1 => ?_) (fun h1 => absurd h0 h1)
      conv => whnf
      show jA ⟨1, 1, 0⟩ = jA ⟨1, 1, 0⟩ ∧ Flat true (jA ⟨1, 1, 0⟩)
      exact ⟨rfl, flat_jA⟩
  · rw [if_neg (fun h => h0 (fp_val0.2 h))]
    conv => whnf
    refine c_eqz (a := h.val) (fp_w h) (fun h1 => absurd h1 h0) (fun h1 => ?_)
    conv => whnf
    refine S_cmul (fun hh e_hh => ?_)
    conv => whnf
    try (refine ⟨⟨[], rfl⟩, ?_⟩; conv => whnf)
    refine S_cmul (fun hhh e_hhh => ?_)
    conv => whnf
    try (refine ⟨⟨[], rfl⟩, ?_⟩; conv => whnf)
    refine S_cmul (fun v e_v => ?_)
    conv => whnf
    try (refine ⟨⟨[], rfl⟩, ?_⟩; conv => whnf)
    refine S_cmul (fun r2 e_r2 => ?_)
    conv => whnf
    try (refine ⟨⟨[], rfl⟩, ?_⟩; conv => whnf)
    refine S_csub (fun x0 e_x0 => ?_)
    conv => whnf
    try (refine ⟨⟨[], rfl⟩, ?_⟩; conv => whnf)
    refine S_cadd (fun v2 e_v2 => ?_)
    conv => whnf
    try (refine ⟨⟨[], rfl⟩, ?_⟩; conv => whnf)
    refine S_csub (fun x e_x => ?_)
    conv => whnf
    try (refine ⟨⟨[], rfl⟩, ?_⟩; conv => whnf)
    refine S_csub (fun d e_d => ?_)
    conv => whnf
    try (refine ⟨⟨[], rfl⟩, ?_⟩; conv => whnf)
    refine S_cmul (fun rd e_rd => ?_)
    conv => whnf
    try (refine ⟨⟨[], rfl⟩, ?_⟩; conv => whnf)
    refine S_cmul (fun sh e_sh => ?_)
    conv => whnf
    try (refine ⟨⟨[], rfl⟩, ?_⟩; conv => whnf)
    refine S_csub (fun y e_y => ?_)
    conv => whnf
    try (refine ⟨⟨[], rfl⟩, ?_⟩; conv => whnf)
    refine S_cmul (fun zz e_zz => ?_)
    conv => whnf
    try (refine ⟨⟨[], rfl⟩, ?_⟩; conv => whnf)
    refine S_cmul (fun z e_z => ?_)
    conv => whnf
    try (refine ⟨⟨[], rfl⟩, ?_⟩; conv => whnf)
    show jA ⟨x, y, z⟩ = _ ∧ Flat true (jA ⟨x, y, z⟩)
    refine ⟨?_, flat_jA⟩
    have ex : x = r * r - h * h * h - 2 * (ua * (h * h)) := by subst e_x e_v2 e_x0 e_r2 e_v e_hhh e_hh; clear e_h e_r; grind
    rw [← ex]
    subst e_y e_sh e_rd e_d e_z e_zz e_v e_hhh e_hh
    rfl

theorem S_plus {m : Mem} {K : AV → Mem → Prop} {a b : J} (h : ∀ r, r = jadd a b → K (jA r) m) : ACall Pg F_curve_jac_plus [jA a, jA b] m K := by
  refine lift_flat (S_plus0 a b) (.cons _ _ _ _ (lend_flat flat_jA) (.cons _ _ _ _ (lend_flat flat_jA) .nil)) ?_
  rintro v rfl
  exact h _ rfl
end Go.Proofs.Ytmngdaeogbjpiaa
end

section
/- Points as the programs tell them; no condition. -/
set_option linter.unusedVariables false
set_option linter.unusedSimpArgs false
set_option maxRecDepth 100000
set_option pp.maxSteps 300
namespace Go.Proofs.Ytmngdaeogbjpiaa
open Go Go.Wit

/-- Three values as a point is told. -/
def rawL (i : Bool) (x y : Nat) : List AV := [.bool i, .int .u64 (lim x 0), .int .u64 (lim x 1), .int .u64 (lim x 2), .int .u64 (lim x 3), .int .u64 (lim y 0), .int .u64 (lim y 1), .int .u64 (lim y 2), .int .u64 (lim y 3)]
def rawA (i : Bool) (x y : Nat) : AV := .agg (rawL i x y)
def isI : Pt Fp → Bool | .inf => true | .aff _ _ => false
def xF : Pt Fp → Fp | .inf => 0 | .aff x _ => x
def yF : Pt Fp → Fp | .inf => 0 | .aff _ y => y
def xN (P : Pt Fp) : Nat := (xF P).val
def yN (P : Pt Fp) : Nat := (yF P).val
def ptA (P : Pt Fp) : AV := rawA (isI P) (xN P) (yN P)
theorem flat_rawA {nv : Bool} {i : Bool} {x y : Nat} : Flat nv (rawA i x y) := .agg _ (.cons _ _ (.bool _) (by repeat (first | exact .nil | refine .cons _ _ (.int _ _) ?_)))
theorem flat_ptA {nv : Bool} {P : Pt Fp} : Flat nv (ptA P) := flat_rawA
theorem xN_lt (P : Pt Fp) : xN P < pP := (xF P).isLt
theorem yN_lt (P : Pt Fp) : yN P < pP := (yF P).isLt
theorem xN_w (P : Pt Fp) : xN P < w256 := Nat.lt_trans (xN_lt P) (by decide)
theorem yN_w (P : Pt Fp) : yN P < w256 := Nat.lt_trans (yN_lt P) (by decide)
theorem rawA_inj {i j : Bool} {x y u v : Nat} (hx : x < w256) (hy : y < w256) (hu : u < w256) (hv : v < w256) (h : rawA i x y = rawA j u v) : i = j ∧ x = u ∧ y = v := by
  simp only [rawA, rawL, AV.agg.injEq, List.cons.injEq, AV.bool.injEq, AV.int.injEq, true_and, and_true] at h
  obtain ⟨h0, h1, h2, h3, h4, h5, h6, h7, h8⟩ := h
  exact ⟨h0, lim_inj hx hu h1 h2 h3 h4, lim_inj hy hv h5 h6 h7 h8⟩
theorem ptA_inj {P Q : Pt Fp} (h : ptA P = ptA Q) : P = Q := by
  obtain ⟨h1, h2, h3⟩ := rawA_inj (xN_w P) (yN_w P) (xN_w Q) (yN_w Q) h
  cases P <;> cases Q
  · rfl
  · cases h1
  · cases h1
  · exact congr (congrArg _ (Fin.ext h2)) (Fin.ext h3)

def spr : Pt Fp → J
  | .inf => ⟨1, 1, 0⟩
  | .aff x y => ⟨x, y, 1⟩
theorem spr_rel (P : Pt Fp) : JRel (spr P) P := by
  cases P with
  | inf => rfl
  | aff x y => exact ⟨crvP.one_ne, by show x = x * (1 * 1); grind, by show y = y * (1 * (1 * 1)); grind⟩

theorem lim1 : lim (1 : Fp).val 0 = 1 ∧ lim (1 : Fp).val 1 = 0 ∧ lim (1 : Fp).val 2 = 0 ∧ lim (1 : Fp).val 3 = 0 := by
  rw [show (1 : Fp).val = 1 from rfl]
  refine ⟨by decide, by decide, by decide, by decide⟩

theorem S_spread0 (P : Pt Fp) : ACall Pg F_curve_spread [ptA P] [] (fun v _ => v = jA (spr P) ∧ Flat true v) := by
  cases P with
  | inf =>
    refine B_curve_spread ⟨rfl, ?_⟩
    conv => whnf
    show jA ⟨1, 1, 0⟩ = _ ∧ Flat true (jA ⟨1, 1, 0⟩)
    exact ⟨rfl, flat_jA⟩
  | aff x y =>
    refine B_curve_spread ⟨rfl, ?_⟩
    conv => whnf
    have e : jA (spr (.aff x y)) = AV.agg [.int .u64 (lim x.val 0), .int .u64 (lim x.val 1), .int .u64 (lim x.val 2), .int .u64 (lim x.val 3), .int .u64 (lim y.val 0), .int .u64 (lim y.val 1), .int .u64 (lim y.val 2), .int .u64 (lim y.val 3), .int .u64 1, .int .u64 0, .int .u64 0, .int .u64 0] := by
      obtain ⟨h0, h1, h2, h3⟩ := lim1
      simp only [jA, jL, spr, h0, h1, h2, h3]
    exact ⟨by rw [e]; rfl, .agg _ (by repeat (first | exact .nil | refine .cons _ _ (.int _ _) ?_))⟩
theorem S_spread {m : Mem} {K : AV → Mem → Prop} {P : Pt Fp} (h : ∀ r, r = spr P → K (jA r) m) : ACall Pg F_curve_spread [ptA P] m K := by
  refine lift_flat (S_spread0 P) (.cons _ _ _ _ (lend_flat flat_ptA) .nil) ?_
  rintro v rfl
  exact h _ rfl
end Go.Proofs.Ytmngdaeogbjpiaa
end

section
/- Bits of numbers, powers; no condition. -/
set_option linter.unusedVariables false
set_option linter.unusedSimpArgs false
set_option maxRecDepth 100000
set_option pp.maxSteps 3000
namespace Go.Proofs.Ytmngdaeogbjpiaa
open Go Go.Wit

theorem tdiv_nn (a b : Nat) : Int.tdiv (a : Int) (b : Int) = ((a / b : Nat) : Int) := rfl
theorem tmod_nn (a b : Nat) : Int.tmod (a : Int) (b : Int) = ((a % b : Nat) : Int) := rfl
theorem and_one {x : Nat} (hx : x < 18446744073709551616) : bitsV .and .u64 (x : Int) 1 = ((x % 2 : Nat) : Int) := by
  have e : (BitVec.ofInt 64 (x : Int) &&& BitVec.ofInt 64 1).toNat = x % 2 := by
    rw [BitVec.toNat_and, BitVec.toNat_ofInt, BitVec.toNat_ofInt]
    have h1 : ((x : Int) % ((2 ^ 64 : Nat) : Int)).toNat = x := by omega
    have h2 : ((1 : Int) % ((2 ^ 64 : Nat) : Int)).toNat = 2 ^ 1 - 1 := by decide
    rw [h1, h2, Nat.and_two_pow_sub_one_eq_mod]
  show IntKind.u64.wrap ((BitVec.ofInt 64 (x : Int) &&& BitVec.ofInt 64 1).toNat : Int) = _
  rw [e, wu64]
  omega
theorem bit_mod (y r : Nat) (hr : r < 64) : y % 18446744073709551616 / 2 ^ r % 2 = y / 2 ^ r % 2 := by
  have e : 18446744073709551616 = 2 ^ r * 2 ^ (64 - r) := by rw [← Nat.pow_add, show r + (64 - r) = 64 by omega]
  rw [e, Nat.mod_mul_right_div_self]
  exact Nat.mod_mod_of_dvd _ ⟨2 ^ (63 - r), by rw [show 64 - r = 63 - r + 1 by omega, Nat.pow_succ, Nat.mul_comm]⟩
theorem bit_val (a q r : Nat) (hr : r < 64) : IntKind.i64.wrap (bitsV .and .u64 ((lim a q).fdiv (2 ^ min (r : Int).toNat IntKind.u64.bits)) 1) = ((a / 2 ^ (64 * q + r) % 2 : Nat) : Int) := by
  have e1 : min (r : Int).toNat IntKind.u64.bits = r := by
    rw [Int.toNat_natCast]; exact Nat.min_eq_left (Nat.le_of_lt (by exact hr))
  have e2 : (lim a q).fdiv (2 ^ r) = ((a / 18446744073709551616 ^ q % 18446744073709551616 / 2 ^ r : Nat) : Int) := by
    unfold lim
    rw [Int.fdiv_eq_ediv_of_nonneg _ (by exact Int.le_of_lt (Int.pow_pos (by decide))), show ((2 : Int) ^ r) = ((2 ^ r : Nat) : Int) by simp, ← Int.natCast_ediv]
  have h3 : a / 18446744073709551616 ^ q % 18446744073709551616 / 2 ^ r < 18446744073709551616 := Nat.lt_of_le_of_lt (Nat.div_le_self _ _) (Nat.mod_lt _ (by decide))
  rw [e1, e2, and_one h3, bit_mod _ _ hr, Nat.div_div_eq_div_mul, Nat.pow_add, Nat.pow_mul, show (2 ^ 64 : Nat) = 18446744073709551616 by decide, w64 (by omega) (by omega)]
theorem S_LBit0 (a q r : Nat) (hq : q < 4) (hr : r < 64) : ACall Pg F_limb_Bit [numA a, .int .i64 ((64 * q + r : Nat) : Int)] [] (fun v _ => v = .int .i64 ((a / 2 ^ (64 * q + r) % 2 : Nat) : Int) ∧ Flat true v) := by
  have e1 : IntKind.i64.wrap (((64 * q + r : Nat) : Int).tdiv 64) = (q : Int) := by
    rw [show (64 : Int) = ((64 : Nat) : Int) from rfl, tdiv_nn, w64 (by omega) (by omega)]; omega
  have e2 : (((64 * q + r : Nat) : Int).tmod 64) = (r : Int) := by
    rw [show (64 : Int) = ((64 : Nat) : Int) from rfl, tmod_nn]; omega
  refine B_limb_Bit ⟨rfl, ?_⟩
  conv => whnf
  refine condB_no (decide_eq_false (by omega)) ?_
  conv => whnf
  rw [e1]
  refine condB_ok (by simp; omega) ?_
  have hq4 : q = 0 ∨ q = 1 ∨ q = 2 ∨ q = 3 := by omega
  rcases hq4 with rfl | rfl | rfl | rfl <;>
  · conv => whnf
    rw [e2, bit_val _ _ _ hr]
    exact ⟨rfl, .int _ _⟩
theorem S_LBit {m : Mem} {K : AV → Mem → Prop} {a i : Nat} (hi : i < 256) (h : ∀ b : Nat, b = a / 2 ^ i % 2 → K (.int .i64 b) m) : ACall Pg F_limb_Bit [numA a, .int .i64 (i : Int)] m K := by
  refine lift_flat (S_LBit0 a (i / 64) (i % 64) (by omega) (by omega)) (.cons _ _ _ _ lend_numA (.cons _ _ _ _ ?_ .nil)) ?_
  · rw [show 64 * (i / 64) + i % 64 = i by omega]; exact lend_int
  rintro v rfl
  rw [show 64 * (i / 64) + i % 64 = i by omega]
  exact h _ rfl
theorem S_RBit0 (a q r : Nat) (hq : q < 4) (hr : r < 64) : ACall Pg F_witanref01_Bit [numA a, .int .i64 ((64 * q + r : Nat) : Int)] [] (fun v _ => v = .int .i64 ((a / 2 ^ (64 * q + r) % 2 : Nat) : Int) ∧ Flat true v) := by
  have e1 : IntKind.i64.wrap (((64 * q + r : Nat) : Int).tdiv 64) = (q : Int) := by
    rw [show (64 : Int) = ((64 : Nat) : Int) from rfl, tdiv_nn, w64 (by omega) (by omega)]; omega
  have e2 : IntKind.u64.wrap (((64 * q + r : Nat) : Int).tmod 64) = (r : Int) := by
    rw [show (64 : Int) = ((64 : Nat) : Int) from rfl, tmod_nn, wu64]; omega
  refine B_witanref01_Bit ⟨rfl, ?_⟩
  conv => whnf
  refine condB_no (decide_eq_false (by omega)) ?_
  conv => whnf
  rw [e1]
  refine condB_ok (by simp; omega) ?_
  have hq4 : q = 0 ∨ q = 1 ∨ q = 2 ∨ q = 3 := by omega
  rcases hq4 with rfl | rfl | rfl | rfl <;>
  · conv => whnf
    rw [e2]
    try refine condB_ok (by simp) ?_
    conv => whnf
    rw [bit_val _ _ _ hr]
    exact ⟨rfl, .int _ _⟩
theorem S_RBit {m : Mem} {K : AV → Mem → Prop} {a i : Nat} (hi : i < 256) (h : ∀ b : Nat, b = a / 2 ^ i % 2 → K (.int .i64 b) m) : ACall Pg F_witanref01_Bit [numA a, .int .i64 (i : Int)] m K := by
  refine lift_flat (S_RBit0 a (i / 64) (i % 64) (by omega) (by omega)) (.cons _ _ _ _ lend_numA (.cons _ _ _ _ ?_ .nil)) ?_
  · rw [show 64 * (i / 64) + i % 64 = i by omega]; exact lend_int
  rintro v rfl
  rw [show 64 * (i / 64) + i % 64 = i by omega]
  exact h _ rfl

def lenTab : ByteArray := ⟨#[0, 1, 2, 2, 3, 3, 3, 3, 4, 4, 4, 4, 4, 4, 4, 4, 5, 5, 5, 5, 5, 5, 5, 5, 5, 5, 5, 5, 5, 5, 5, 5, 6, 6, 6, 6, 6, 6, 6, 6, 6, 6, 6, 6, 6, 6, 6, 6, 6, 6, 6, 6, 6, 6, 6, 6, 6, 6, 6, 6, 6, 6, 6, 6, 7, 7, 7, 7, 7, 7, 7, 7, 7, 7, 7, 7, 7, 7, 7, 7, 7, 7, 7, 7, 7, 7, 7, 7, 7, 7, 7, 7, 7, 7, 7, 7, 7, 7, 7, 7, 7, 7, 7, 7, 7, 7, 7, 7, 7, 7, 7, 7, 7, 7, 7, 7, 7, 7, 7, 7, 7, 7, 7, 7, 7, 7, 7, 7, 8, 8, 8, 8, 8, 8, 8, 8, 8, 8, 8, 8, 8, 8, 8, 8, 8, 8, 8, 8, 8, 8, 8, 8, 8, 8, 8, 8, 8, 8, 8, 8, 8, 8, 8, 8, 8, 8, 8, 8, 8, 8, 8, 8, 8, 8, 8, 8, 8, 8, 8, 8, 8, 8, 8, 8, 8, 8, 8, 8, 8, 8, 8, 8, 8, 8, 8, 8, 8, 8, 8, 8, 8, 8, 8, 8, 8, 8, 8, 8, 8, 8, 8, 8, 8, 8, 8, 8, 8, 8, 8, 8, 8, 8, 8, 8, 8, 8, 8, 8, 8, 8, 8, 8, 8, 8, 8, 8, 8, 8, 8, 8, 8, 8, 8, 8, 8, 8, 8, 8, 8, 8, 8, 8, 8, 8, 8, 8]⟩
theorem lenTab_ok : ∀ n : Fin 256, n.val < 2 ^ (lenTab.data.getD n.val 0).toNat ∧ (lenTab.data.getD n.val 0).toNat ≤ 8 := by decide +kernel
theorem lenTab_sz : lenTab.size = 256 := by decide +kernel
theorem shr16 (x : Nat) : (x : Int).fdiv (2 ^ min (16 : Int).toNat IntKind.u64.bits) = ((x / 65536 : Nat) : Int) := by
  rw [show min (16 : Int).toNat IntKind.u64.bits = 16 from rfl, Int.fdiv_eq_ediv_of_nonneg _ (by decide)]
  omega
theorem shr8 (x : Nat) : (x : Int).fdiv (2 ^ min (8 : Int).toNat IntKind.u64.bits) = ((x / 256 : Nat) : Int) := by
  rw [show min (8 : Int).toNat IntKind.u64.bits = 8 from rfl, Int.fdiv_eq_ediv_of_nonneg _ (by decide)]
  omega
theorem u8N {y : Nat} (hy : y < 256) : IntKind.u8.wrap (y : Int) = (y : Int) := by
  simp [IntKind.wrap, IntKind.bits, IntKind.signed]; omega
theorem len_chk {y : Nat} (hy : y < 256) : (decide (0 ≤ (y : Int)) && decide ((y : Int) < (lenTab.size : Int))) = true := by
  rw [lenTab_sz]; simp; omega
theorem len_fin {x y s : Nat} (hy : y < 256) (hs : s ≤ 56) (h : x < (y + 1) * 2 ^ s) {n : Int} (hn : n = s) :
    (∃ k : Nat, k ≤ 64 ∧ x < 2 ^ k ∧ AV.int .i64 (IntKind.i64.wrap (n + IntKind.i64.wrap ((lenTab.data.getD (y : Int).toNat 0).toNat : Int))) = .int .i64 (k : Int)) ∧ Flat true (AV.int .i64 (IntKind.i64.wrap (n + IntKind.i64.wrap ((lenTab.data.getD (y : Int).toNat 0).toNat : Int)))) := by
  obtain ⟨h1, h2⟩ := lenTab_ok ⟨y, hy⟩
  rw [Int.toNat_natCast]
  dsimp only at h1 h2
  generalize (lenTab.data.getD y 0).toNat = t at *
  refine ⟨⟨s + t, by omega, ?_, ?_⟩, .int _ _⟩
  · have : (y + 1) * 2 ^ s ≤ 2 ^ t * 2 ^ s := Nat.mul_le_mul_right _ (by omega)
    rw [Nat.pow_add, Nat.mul_comm]
    omega
  · rw [w64 (n := (t : Int)) (by omega) (by omega), w64 (by omega) (by omega), hn]
    rfl
theorem S_Len64a (x : Nat) (hx : x < 18446744073709551616) : ACall Pg F_bits_Len64 [.int .u64 (x : Int)] [] (fun v _ => (∃ k : Nat, k ≤ 64 ∧ x < 2 ^ k ∧ v = .int .i64 (k : Int)) ∧ Flat true v) := by
  refine B_bits_Len64 ⟨rfl, ?_⟩
  conv => whnf
  refine condB_mk (fun h0 => ?_) (fun h0 => ?_)
  · replace h0 : x ≥ 4294967296 := by have := of_decide_eq_true h0; omega
    conv => whnf
    rw [shr32]
    refine condB_mk (fun h1 => ?_) (fun h1 => ?_)
    · replace h1 : (x / 4294967296) ≥ 65536 := by have := of_decide_eq_true h1; omega
      conv => whnf
      rw [shr16]
      refine condB_mk (fun h2 => ?_) (fun h2 => ?_)
      · replace h2 : ((x / 4294967296) / 65536) ≥ 256 := by have := of_decide_eq_true h2; omega
        conv => whnf
        rw [shr8]
        rw [u8N (y := (((x / 4294967296) / 65536) / 256)) (by omega)]; refine condB_ok (len_chk (y := (((x / 4294967296) / 65536) / 256)) (by omega)) ?_; conv => whnf
        exact len_fin (x := x) (y := (((x / 4294967296) / 65536) / 256)) (s := 56) (by omega) (by omega) (by omega) rfl
      · replace h2 : ¬ ((x / 4294967296) / 65536) ≥ 256 := by have := of_decide_eq_false h2; omega
        conv => whnf
        rw [u8N (y := ((x / 4294967296) / 65536)) (by omega)]; refine condB_ok (len_chk (y := ((x / 4294967296) / 65536)) (by omega)) ?_; conv => whnf
        exact len_fin (x := x) (y := ((x / 4294967296) / 65536)) (s := 48) (by omega) (by omega) (by omega) rfl
    · replace h1 : ¬ (x / 4294967296) ≥ 65536 := by have := of_decide_eq_false h1; omega
      conv => whnf
      refine condB_mk (fun h2 => ?_) (fun h2 => ?_)
      · replace h2 : (x / 4294967296) ≥ 256 := by have := of_decide_eq_true h2; omega
        conv => whnf
        rw [shr8]
        rw [u8N (y := ((x / 4294967296) / 256)) (by omega)]; refine condB_ok (len_chk (y := ((x / 4294967296) / 256)) (by omega)) ?_; conv => whnf
        exact len_fin (x := x) (y := ((x / 4294967296) / 256)) (s := 40) (by omega) (by omega) (by omega) rfl
      · replace h2 : ¬ (x / 4294967296) ≥ 256 := by have := of_decide_eq_false h2; omega
        conv => whnf
        rw [u8N (y := (x / 4294967296)) (by omega)]; refine condB_ok (len_chk (y := (x / 4294967296)) (by omega)) ?_; conv => whnf
        exact len_fin (x := x) (y := (x / 4294967296)) (s := 32) (by omega) (by omega) (by omega) rfl
  · replace h0 : ¬ x ≥ 4294967296 := by have := of_decide_eq_false h0; omega
    conv => whnf
    refine condB_mk (fun h1 => ?_) (fun h1 => ?_)
    · replace h1 : x ≥ 65536 := by have := of_decide_eq_true h1; omega
      conv => whnf
      rw [shr16]
      refine condB_mk (fun h2 => ?_) (fun h2 => ?_)
      · replace h2 : (x / 65536) ≥ 256 := by have := of_decide_eq_true h2; omega
        conv => whnf
        rw [shr8]
        rw [u8N (y := ((x / 65536) / 256)) (by omega)]; refine condB_ok (len_chk (y := ((x / 65536) / 256)) (by omega)) ?_; conv => whnf
        exact len_fin (x := x) (y := ((x / 65536) / 256)) (s := 24) (by omega) (by omega) (by omega) rfl
      · replace h2 : ¬ (x / 65536) ≥ 256 := by have := of_decide_eq_false h2; omega
        conv => whnf
        rw [u8N (y := (x / 65536)) (by omega)]; refine condB_ok (len_chk (y := (x / 65536)) (by omega)) ?_; conv => whnf
        exact len_fin (x := x) (y := (x / 65536)) (s := 16) (by omega) (by omega) (by omega) rfl
    · replace h1 : ¬ x ≥ 65536 := by have := of_decide_eq_false h1; omega
      conv => whnf
      refine condB_mk (fun h2 => ?_) (fun h2 => ?_)
      · replace h2 : x ≥ 256 := by have := of_decide_eq_true h2; omega
        conv => whnf
        rw [shr8]
        rw [u8N (y := (x / 256)) (by omega)]; refine condB_ok (len_chk (y := (x / 256)) (by omega)) ?_; conv => whnf
        exact len_fin (x := x) (y := (x / 256)) (s := 8) (by omega) (by omega) (by omega) rfl
      · replace h2 : ¬ x ≥ 256 := by have := of_decide_eq_false h2; omega
        conv => whnf
        rw [u8N (y := x) (by omega)]; refine condB_ok (len_chk (y := x) (by omega)) ?_; conv => whnf
        exact len_fin (x := x) (y := x) (s := 0) (by omega) (by omega) (by omega) rfl

end Go.Proofs.Ytmngdaeogbjpiaa
end

section
/- The order of the point that all begins with: only its multiples by the second prime's are nought; roots modulo the first prime; no condition. -/
set_option linter.unusedVariables false
set_option maxRecDepth 100000
namespace Go.Wit

theorem inv_mod {p a : Nat} (hp : Prm p) (ha : ¬ p ∣ a) : a ^ (p - 2) * a % p = 1 := by
  rw [← Nat.pow_succ, show (p - 2).succ = p - 1 by have := hp.1; omega]
  exact fermat hp ha

theorem ord_of {N : Nat} (hN : Prm N) (hinf : ∀ m, nmul (m % N) gG = nmul m gG) {m : Nat} (h : nmul m gG = .inf) : N ∣ m := by
  by_cases hd : N ∣ m
  · exact hd
  · exfalso
    have h1 := inv_mod hN hd
    have h2 : nmul (m ^ (N - 2) * m) gG = .inf := by rw [nmul_mul crvP on_G, h, nmul_inf]
    rw [← hinf, h1] at h2
    cases h2
theorem nmul_G_inf {m : Nat} (h : nmul m gG = .inf) : nN ∣ m := ord_of prmN nmul_mod h

theorem padd_cancel {X B : Pt Fp} (hX : On X) (hB : On B) (h : padd X B = B) : X = .inf := by
  have h1 : padd (padd X B) B.neg = padd B B.neg := by rw [h]
  rw [padd_assoc crvP hX hB hB.neg, padd_neg, padd_inf] at h1
  exact h1
/-- What a point lacks to nought is its counterpart. -/
theorem neg_of_padd {X B : Pt Fp} (hX : On X) (hB : On B) (h : padd X B = .inf) : X = B.neg := by
  have h1 : padd (padd X B) B.neg = padd .inf B.neg := by rw [h]
  rw [padd_assoc crvP hX hB hB.neg, padd_neg, padd_inf, inf_padd] at h1
  exact h1

theorem nmul_G_le {a b : Nat} (hab : b ≤ a) (h : nmul a gG = nmul b gG) : a % nN = b % nN := by
  have e : a = (a - b) + b := by omega
  rw [e, nmul_add crvP on_G] at h
  exact mod_of_dvd_sub (nmul_G_inf (padd_cancel (on_G.nmul crvP _) (on_G.nmul crvP _) h)) hab
theorem nmul_G_eq {a b : Nat} (h : nmul a gG = nmul b gG) : a % nN = b % nN := by
  rcases Nat.le_total b a with hab | hab
  · exact nmul_G_le hab h
  · exact (nmul_G_le hab h.symm).symm

/-- A multiple of the point, as often as it is there. -/
theorem nmul_n_mul (k : Nat) : nmul nN (nmul k gG) = .inf := by
  rw [← nmul_mul crvP on_G, Nat.mul_comm, nmul_mul crvP on_G, nG, nmul_inf]
theorem nmul_pred0 {N : Nat} {P : Pt Fp} (hN : 0 < N) (hP : On P) (h : nmul N P = .inf) : nmul (N - 1) P = P.neg := by
  obtain ⟨k, rfl⟩ : ∃ k, N = k + 1 := ⟨N - 1, by omega⟩
  exact neg_of_padd (hP.nmul crvP _) hP h
theorem nmul_pred (k : Nat) : nmul (nN - 1) (nmul k gG) = (nmul k gG).neg := nmul_pred0 (by decide) (on_G.nmul crvP k) (nmul_n_mul k)

theorem pow_sq (a e : Nat) : (a * a) ^ e = a ^ (2 * e) := by
  rw [Nat.pow_mul, Nat.pow_two]
theorem fpow_sq (a : Fp) (e : Nat) : fpow a e * fpow a e = fpow a (2 * e) := by
  apply Fin.ext
  rw [fp_mul, fpow_val, fpow_val, ← Nat.mul_mod, ← Nat.pow_two, ← Nat.pow_mul, Nat.mul_comm e]
theorem fpow_of_sq (a : Fp) (e : Nat) : fpow (a * a) e = fpow a (2 * e) := by
  apply Fin.ext
  rw [fpow_val, fpow_val, fp_mul, ← Nat.pow_mod, pow_sq]
theorem fpow_p1 (a : Fp) {e : Nat} (he : e = pP + 1) : fpow a e = a * a := by
  apply Fin.ext
  rw [fpow_val, fp_mul]
  by_cases h : a = 0
  · subst h
    rw [fp_zero, he, Nat.zero_pow (by omega)]
  · have h1 := fermat prmP (fp_ne h)
    have h2 : a.val ^ e = a.val ^ (pP - 1) * (a.val * a.val) := by
      rw [he, show pP + 1 = pP - 1 + 2 by decide, Nat.pow_add, Nat.pow_two]
    rw [h2, Nat.mul_mod, h1, Nat.one_mul, Nat.mod_mod]

/-- What may be a root. -/
def fsqrt (a : Fp) : Fp := fpow a ((pP + 1) / 4)
theorem four_q : 2 * (2 * ((pP + 1) / 4)) = pP + 1 := by decide
theorem fsqrt_sq (y : Fp) : fsqrt (y * y) * fsqrt (y * y) = y * y := by
  unfold fsqrt
  rw [fpow_sq, fpow_of_sq, fpow_p1 y four_q]
theorem sq_eq {r y : Fp} (h : r * r = y * y) : r = y ∨ r = -y := by
  by_cases h1 : r - y = 0
  · left; grind
  · by_cases h2 : r + y = 0
    · right; grind
    · exact absurd (show (r - y) * (r + y) = 0 by grind) (crvP.mul_ne h1 h2)

theorem fp_neg_val {y : Fp} (h : y ≠ 0) : (-y).val = pP - y.val := by
  rw [fp_neg, Nat.mod_eq_of_lt]
  have h1 : y.val ≠ 0 := fun h0 => h (Fin.ext h0)
  have := y.isLt
  omega
theorem p_odd : pP % 2 = 1 := by decide
theorem odd_sub {p y : Nat} (h : p % 2 = 1) (hy : y < p) : (p - y) % 2 = 1 - y % 2 := by omega
theorem neg_parity {y : Fp} (h : y ≠ 0) : (-y).val % 2 = 1 - y.val % 2 := by
  rw [fp_neg_val h]
  exact odd_sub p_odd y.isLt

/-- The even one of two roots. -/
def evn (r : Fp) : Fp := if r.val % 2 = 1 then -r else r
theorem evn_sq (r : Fp) : evn r * evn r = r * r := by
  unfold evn
  split
  · grind
  · rfl
theorem evn_even (r : Fp) : (evn r).val % 2 = 0 := by
  unfold evn
  split
  · rename_i h
    rw [neg_parity (fun h0 => by subst h0; revert h; decide), h]
  · rename_i h; omega
theorem even_uniq {r y : Fp} (h : r * r = y * y) (hr : r.val % 2 = 0) (hy : y.val % 2 = 0) (h0 : y ≠ 0) : r = y := by
  rcases sq_eq h with h1 | h1
  · exact h1
  · have := neg_parity h0
    rw [h1] at hr
    omega
end Go.Wit
end

