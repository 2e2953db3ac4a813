/- The told forms of the functions that this seat reaches, each held against the program by a closed test; no condition. -/
import Derived.Test.YtdobchoiiihfiaaProg
import Derived.Test.YtdobchoiiihfiaaB12
set_option maxRecDepth 100000
set_option maxHeartbeats 1000000
namespace Go.Proofs.Ytdobchoiiihfiaa
open Go Go.Wit

noncomputable abbrev Pg : Program := Try.prog
abbrev F_main_main : Nat := 0
abbrev F_gosem_cut : Nat := 1
abbrev F_gosem_cut_init : Nat := 2
abbrev F_witanlaw14_JudgeSeals : Nat := 3
abbrev F_witanlaw10_BinOrder : Nat := 4
abbrev F_witanlaw10_BinExact : Nat := 5
abbrev F_witanlaw10_BinBack : Nat := 6
abbrev F_witanlaw10_BinEnds : Nat := 7
abbrev F_witanlaw04_ShaLengths : Nat := 8
abbrev F_witanlaw04_ShaAlone : Nat := 9
abbrev F_witanlaw04_ShaChains : Nat := 10
abbrev F_witanlaw04_ShaExact : Nat := 11
abbrev F_witanlaw04_ShaKeys : Nat := 12
abbrev F_witanlaw04_ShaParts : Nat := 13
abbrev F_judge_Place : Nat := 14
abbrev F_witanlaw14_wakes : Nat := 15
abbrev F_bin_Put : Nat := 16
abbrev F_witanlaw10_wakes : Nat := 17
abbrev F_witankeep_Twin : Nat := 18
abbrev F_witanref10_Put : Nat := 19
abbrev F_witankeep_Bytes : Nat := 20
abbrev F_witankeep_SpoilBytes : Nat := 21
abbrev F_bin_Get : Nat := 22
abbrev F_witanref10_Get : Nat := 23
abbrev F_bin_PutPart : Nat := 24
abbrev F_witanref10_PutPart : Nat := 25
abbrev F_bin_GetPart : Nat := 26
abbrev F_witanref10_GetPart : Nat := 27
abbrev F_sha_Sum : Nat := 28
abbrev F_witanref04_Sum256 : Nat := 29
abbrev F_witanlaw04_wakes : Nat := 30
abbrev F_sha_Mac : Nat := 31
abbrev F_witanref04_Mac : Nat := 32
abbrev F_judge_dealer : Nat := 33
abbrev F_bin_room : Nat := 34
abbrev F_slices_Clone_Sbyte_byte : Nat := 35
abbrev F_sha_rounds : Nat := 36
abbrev F_sha_padded : Nat := 37
abbrev F_sha_high : Nat := 38
abbrev F_bits_RotateLeft32 : Nat := 39
abbrev F_witanref04_k256 : Nat := 40
abbrev F_witanref04_padded : Nat := 41
abbrev F_witanref04_rot32 : Nat := 42
abbrev F_witanref04_join : Nat := 43
abbrev F_runtime_boundsError_Error : Nat := 44
abbrev F_runtime_boundsError_RuntimeError : Nat := 45
abbrev F_runtime_errorString_Error : Nat := 46
abbrev F_runtime_errorString_RuntimeError : Nat := 47
abbrev F_runtime_plainError_Error : Nat := 48
abbrev F_runtime_plainError_RuntimeError : Nat := 49
abbrev F_runtime_errorAddressString_Error : Nat := 50
abbrev F_runtime_errorAddressString_RuntimeError : Nat := 51
abbrev F_Pruntime_TypeAssertionError_Error : Nat := 52
abbrev F_Pruntime_TypeAssertionError_RuntimeError : Nat := 53
abbrev F_Pruntime_PanicNilError_Error : Nat := 54
abbrev F_Pruntime_PanicNilError_RuntimeError : Nat := 55
abbrev F_Pinternal_abi_Type_Align : Nat := 56
abbrev F_internal_runtime_maps_unhashableTypeError_Error : Nat := 57
abbrev F_internal_runtime_maps_unhashableTypeError_RuntimeError : Nat := 58
abbrev F_api_Errno_Error : Nat := 59
abbrev F_internal_abi_Kind_String : Nat := 60

theorem mixed : Pg.follows .mixedOrders = true := by kernel_rfl

noncomputable def A_gosem_cut_init : AFun := ⟨0, 1, [],
 (.ops [
  ⟨some 0, .call (.c (.fn F_gosem_cut [])) [], none⟩])⟩
theorem K_gosem_cut_init : chkFun DK Pg Try.f2 A_gosem_cut_init = true := by kernel_rfl
theorem B_gosem_cut_init {args : List AV} {m : Mem} {K : AV → Mem → Prop} (h : vcFun DK Pg A_gosem_cut_init args m K) : ACall Pg F_gosem_cut_init args m K := call_body mixed Try.func2 (by kernel_rfl) K_gosem_cut_init h

noncomputable def A_witanlaw14_JudgeSeals : AFun := ⟨2, 79, [.t 4],
 (.seq (.ops [
   ⟨some 4, .mv (.c (.bool false)), none⟩])
 (.seq (.ops [
    ⟨some 10, .mv (.t 0), none⟩,
    ⟨some 11, .conv .u64 (.t 10), none⟩,
    ⟨some 12, .bin .rem (.t 11) (.c (.int .u64 7)), none⟩,
    ⟨some 13, .conv .i64 (.t 12), none⟩,
    ⟨some 14, .bin .add (.c (.int .i64 2)) (.t 13), none⟩,
    ⟨some 0, .mv (.t 14), none⟩])
  (.seq (.ops [
     ⟨some 15, .mv (.t 1), none⟩,
     ⟨some 16, .conv .u64 (.t 15), none⟩,
     ⟨some 17, .mv (.t 0), none⟩,
     ⟨some 18, .conv .u64 (.t 17), none⟩,
     ⟨some 19, .bin .rem (.t 16) (.t 18), none⟩,
     ⟨some 20, .conv .i64 (.t 19), none⟩,
     ⟨some 21, .bin .add (.c (.int .i64 1)) (.t 20), none⟩,
     ⟨some 1, .mv (.t 21), none⟩])
   (.seq (.ops [
      ⟨some 22, .mv (.t 0), none⟩,
      ⟨some 23, .bin .sub (.t 22) (.c (.int .i64 1)), none⟩,
      ⟨some 24, .mksl 1 1 [.bool false] (.t 23) (.t 23), none⟩,
      ⟨some 5, .mv (.t 24), none⟩])
    (.seq (.ops [
       ⟨some 6, .mv (.c (.int .i64 (-1))), none⟩])
     (.seq (.seq (.ops [
         ⟨some 7, .mv (.c (.int .i64 1)), none⟩])
       (.block 0
        (.loop
         (.seq (.seq (.ops [
             ⟨some 25, .mv (.t 7), none⟩,
             ⟨some 26, .mv (.t 0), none⟩,
             ⟨some 27, .bin .leq (.t 25) (.t 26), none⟩])
           (.cond (.t 27)
            .skip
            (.exit 0)))
          (.seq (.block 1
            (.seq (.ops [
               ⟨some 31, .mv (.t 1), none⟩,
               ⟨some 32, .mv (.t 7), none⟩,
               ⟨some 33, .call (.c (.fn F_judge_Place [])) [.t 31, .t 32], none⟩,
               ⟨some 30, .mv (.t 33), none⟩,
               ⟨some 34, .ext (.t 30) 0, none⟩,
               ⟨some 35, .ext (.t 30) 1, none⟩,
               ⟨some 8, .mv (.t 34), none⟩,
               ⟨some 9, .mv (.t 35), none⟩])
             (.seq (.seq (.ops [
                 ⟨some 36, .mv (.t 1), none⟩,
                 ⟨some 37, .mv (.t 7), none⟩,
                 ⟨some 38, .bin .eql (.t 36) (.t 37), none⟩])
               (.cond (.t 38)
                (.seq (.seq (.ops [
                    ⟨some 39, .mv (.t 9), none⟩,
                    ⟨some 40, .bin .neq (.t 39) (.c (.int .i64 1)), none⟩,
                    ⟨some 41, .mv (.t 40), none⟩,
                    ⟨some 42, .mv (.t 8), (some (41, false))⟩,
                    ⟨some 43, .bin .neq (.t 42) (.c (.int .i64 0)), (some (41, false))⟩,
                    ⟨some 44, .pick (.t 41) (.c (.bool true)) (.t 43), none⟩])
                  (.cond (.t 44)
                   (.seq (.ops [
                      ⟨some 4, .mv (.c (.bool false)), none⟩])
                    .ret)
                   .skip))
                 (.exit 1))
                .skip))
              (.seq (.seq (.ops [
                  ⟨some 45, .mv (.t 9), none⟩,
                  ⟨some 46, .bin .neq (.t 45) (.c (.int .i64 0)), none⟩,
                  ⟨some 47, .mv (.t 46), none⟩,
                  ⟨some 48, .mv (.t 8), (some (47, false))⟩,
                  ⟨some 49, .bin .lss (.t 48) (.c (.int .i64 0)), (some (47, false))⟩,
                  ⟨some 50, .pick (.t 47) (.c (.bool true)) (.t 49), none⟩,
                  ⟨some 51, .mv (.t 50), none⟩,
                  ⟨some 52, .mv (.t 8), (some (51, false))⟩,
                  ⟨some 53, .mv (.t 0), (some (51, false))⟩,
                  ⟨some 54, .bin .sub (.t 53) (.c (.int .i64 1)), (some (51, false))⟩,
                  ⟨some 55, .bin .geq (.t 52) (.t 54), (some (51, false))⟩,
                  ⟨some 56, .pick (.t 51) (.c (.bool true)) (.t 55), none⟩,
                  ⟨some 57, .mv (.t 56), none⟩,
                  ⟨some 58, .mv (.t 5), (some (57, false))⟩,
                  ⟨some 59, .mv (.t 8), (some (57, false))⟩,
                  ⟨some 60, .idxA 1 (.t 58) (.t 59), (some (57, false))⟩,
                  ⟨some 61, .load 1 false (.t 60), (some (57, false))⟩,
                  ⟨some 62, .pick (.t 57) (.c (.bool true)) (.t 61), none⟩,
                  ⟨some 63, .mv (.t 62), none⟩,
                  ⟨some 64, .mv (.t 8), (some (63, false))⟩,
                  ⟨some 65, .mv (.t 6), (some (63, false))⟩,
                  ⟨some 66, .bin .leq (.t 64) (.t 65), (some (63, false))⟩,
                  ⟨some 67, .pick (.t 63) (.c (.bool true)) (.t 66), none⟩])
                (.cond (.t 67)
                 (.seq (.ops [
                    ⟨some 4, .mv (.c (.bool false)), none⟩])
                  .ret)
                 .skip))
               (.ops [
                 ⟨some 68, .mv (.t 5), none⟩,
                 ⟨some 69, .mv (.t 8), none⟩,
                 ⟨some 70, .mv (.t 8), none⟩,
                 ⟨some 71, .idxA 1 (.t 68) (.t 69), none⟩,
                 ⟨none, .store 1 (.t 71) (.c (.bool true)), none⟩,
                 ⟨some 6, .mv (.t 70), none⟩])))))
           (.ops [
             ⟨some 28, .mv (.t 7), none⟩,
             ⟨some 29, .bin .add (.t 28) (.c (.int .i64 1)), none⟩,
             ⟨some 7, .mv (.t 29), none⟩]))))))
      (.seq (.ops [
         ⟨some 72, .mv (.t 6), none⟩,
         ⟨some 73, .mv (.t 0), none⟩,
         ⟨some 74, .bin .sub (.t 73) (.c (.int .i64 2)), none⟩,
         ⟨some 75, .bin .eql (.t 72) (.t 74), none⟩,
         ⟨some 76, .mv (.t 75), none⟩,
         ⟨some 77, .call (.c (.fn F_witanlaw14_wakes [])) [], (some (76, true))⟩,
         ⟨some 78, .pick (.t 76) (.t 77) (.c (.bool false)), none⟩,
         ⟨some 4, .mv (.t 78), none⟩])
       .ret)))))))⟩
theorem K_witanlaw14_JudgeSeals : chkFun DK Pg Try.f3 A_witanlaw14_JudgeSeals = true := by kernel_rfl
theorem B_witanlaw14_JudgeSeals {args : List AV} {m : Mem} {K : AV → Mem → Prop} (h : vcFun DK Pg A_witanlaw14_JudgeSeals args m K) : ACall Pg F_witanlaw14_JudgeSeals args m K := call_body mixed Try.func3 (by kernel_rfl) K_witanlaw14_JudgeSeals h

noncomputable def A_witanlaw10_BinOrder : AFun := ⟨3, 131, [.t 6],
 (.seq (.ops [
   ⟨some 6, .mv (.c (.bool false)), none⟩])
 (.seq (.ops [
    ⟨some 18, .mv (.t 2), none⟩,
    ⟨some 19, .conv .u64 (.t 18), none⟩,
    ⟨some 20, .bin .rem (.t 19) (.c (.int .u64 7)), none⟩,
    ⟨some 21, .conv .i64 (.t 20), none⟩,
    ⟨some 22, .bin .add (.c (.int .i64 1)) (.t 21), none⟩,
    ⟨some 2, .mv (.t 22), none⟩])
  (.seq (.ops [
     ⟨some 23, .mv (.t 2), none⟩,
     ⟨some 24, .bin .mul (.c (.int .i64 8)) (.t 23), none⟩,
     ⟨some 25, .conv .u64 (.t 24), none⟩,
     ⟨some 26, .bin .shl (.c (.int .i64 1)) (.t 25), none⟩,
     ⟨some 27, .bin .sub (.t 26) (.c (.int .i64 1)), none⟩,
     ⟨some 7, .mv (.t 27), none⟩])
   (.seq (.ops [
      ⟨some 28, .mv (.t 0), none⟩,
      ⟨some 29, .mv (.t 7), none⟩,
      ⟨some 30, .bin .and (.t 28) (.t 29), none⟩,
      ⟨some 31, .mv (.t 1), none⟩,
      ⟨some 32, .mv (.t 7), none⟩,
      ⟨some 33, .bin .and (.t 31) (.t 32), none⟩,
      ⟨some 0, .mv (.t 30), none⟩,
      ⟨some 1, .mv (.t 33), none⟩])
    (.seq (.ops [
       ⟨some 35, .mv (.t 0), none⟩,
       ⟨some 36, .mv (.t 2), none⟩,
       ⟨some 37, .call (.c (.fn F_bin_Put [])) [.c (.nils), .t 35, .t 36], none⟩,
       ⟨some 34, .mv (.t 37), none⟩,
       ⟨some 38, .ext (.t 34) 0, none⟩,
       ⟨some 39, .ext (.t 34) 1, none⟩,
       ⟨some 8, .mv (.t 38), none⟩,
       ⟨some 9, .mv (.t 39), none⟩])
     (.seq (.ops [
        ⟨some 41, .mv (.t 1), none⟩,
        ⟨some 42, .mv (.t 2), none⟩,
        ⟨some 43, .call (.c (.fn F_bin_Put [])) [.c (.nils), .t 41, .t 42], none⟩,
        ⟨some 40, .mv (.t 43), none⟩,
        ⟨some 44, .ext (.t 40) 0, none⟩,
        ⟨some 45, .ext (.t 40) 1, none⟩,
        ⟨some 10, .mv (.t 44), none⟩,
        ⟨some 11, .mv (.t 45), none⟩])
      (.seq (.ops [
         ⟨some 47, .mv (.t 7), none⟩,
         ⟨some 48, .mv (.t 2), none⟩,
         ⟨some 49, .call (.c (.fn F_bin_Put [])) [.c (.nils), .t 47, .t 48], none⟩,
         ⟨some 46, .mv (.t 49), none⟩,
         ⟨some 50, .ext (.t 46) 0, none⟩,
         ⟨some 51, .ext (.t 46) 1, none⟩,
         ⟨some 12, .mv (.t 50), none⟩,
         ⟨some 13, .mv (.t 51), none⟩])
       (.seq (.ops [
          ⟨some 53, .mv (.t 7), none⟩,
          ⟨some 54, .bin .add (.t 53) (.c (.int .i64 1)), none⟩,
          ⟨some 55, .mv (.t 2), none⟩,
          ⟨some 56, .call (.c (.fn F_bin_Put [])) [.c (.nils), .t 54, .t 55], none⟩,
          ⟨some 52, .mv (.t 56), none⟩,
          ⟨some 57, .ext (.t 52) 0, none⟩,
          ⟨some 58, .ext (.t 52) 1, none⟩,
          ⟨some 14, .mv (.t 57), none⟩,
          ⟨some 15, .mv (.t 58), none⟩])
        (.seq (.seq (.ops [
            ⟨some 59, .mv (.t 9), none⟩,
            ⟨some 60, .bin .neq (.t 59) (.c (.int .i64 0)), none⟩,
            ⟨some 61, .mv (.t 60), none⟩,
            ⟨some 62, .mv (.t 11), (some (61, false))⟩,
            ⟨some 63, .bin .neq (.t 62) (.c (.int .i64 0)), (some (61, false))⟩,
            ⟨some 64, .pick (.t 61) (.c (.bool true)) (.t 63), none⟩,
            ⟨some 65, .mv (.t 64), none⟩,
            ⟨some 66, .mv (.t 13), (some (65, false))⟩,
            ⟨some 67, .bin .neq (.t 66) (.c (.int .i64 0)), (some (65, false))⟩,
            ⟨some 68, .pick (.t 65) (.c (.bool true)) (.t 67), none⟩,
            ⟨some 69, .mv (.t 68), none⟩,
            ⟨some 70, .mv (.t 15), (some (69, false))⟩,
            ⟨some 71, .bin .neq (.t 70) (.c (.int .i64 1)), (some (69, false))⟩,
            ⟨some 72, .pick (.t 69) (.c (.bool true)) (.t 71), none⟩,
            ⟨some 73, .mv (.t 72), none⟩,
            ⟨some 74, .mv (.t 8), (some (73, false))⟩,
            ⟨some 75, .len (.t 74), (some (73, false))⟩,
            ⟨some 76, .mv (.t 2), (some (73, false))⟩,
            ⟨some 77, .bin .neq (.t 75) (.t 76), (some (73, false))⟩,
            ⟨some 78, .pick (.t 73) (.c (.bool true)) (.t 77), none⟩,
            ⟨some 79, .mv (.t 78), none⟩,
            ⟨some 80, .mv (.t 10), (some (79, false))⟩,
            ⟨some 81, .len (.t 80), (some (79, false))⟩,
            ⟨some 82, .mv (.t 2), (some (79, false))⟩,
            ⟨some 83, .bin .neq (.t 81) (.t 82), (some (79, false))⟩,
            ⟨some 84, .pick (.t 79) (.c (.bool true)) (.t 83), none⟩])
          (.cond (.t 84)
           (.seq (.ops [
              ⟨some 6, .mv (.c (.bool false)), none⟩])
            .ret)
           .skip))
         (.seq (.ops [
            ⟨some 16, .mv (.c (.int .i64 0)), none⟩])
          (.seq (.seq (.ops [
              ⟨some 85, .mv (.t 2), none⟩,
              ⟨some 86, .bin .sub (.t 85) (.c (.int .i64 1)), none⟩,
              ⟨some 17, .mv (.t 86), none⟩])
            (.block 0
             (.loop
              (.seq (.seq (.ops [
                  ⟨some 87, .mv (.t 17), none⟩,
                  ⟨some 88, .bin .geq (.t 87) (.c (.int .i64 0)), none⟩])
                (.cond (.t 88)
                 .skip
                 (.exit 0)))
               (.seq (.block 1
                 (.seq (.seq (.ops [
                     ⟨some 91, .mv (.t 12), none⟩,
                     ⟨some 92, .mv (.t 17), none⟩,
                     ⟨some 93, .idxA 1 (.t 91) (.t 92), none⟩,
                     ⟨some 94, .load 1 false (.t 93), none⟩,
                     ⟨some 95, .bin .neq (.t 94) (.c (.int .u8 255)), none⟩])
                   (.cond (.t 95)
                    (.seq (.ops [
                       ⟨some 6, .mv (.c (.bool false)), none⟩])
                     .ret)
                    .skip))
                  (.seq (.draw [
                     ⟨some 96, .mv (.t 8), none⟩,
                     ⟨some 97, .mv (.t 17), none⟩,
                     ⟨some 98, .idxA 1 (.t 96) (.t 97), none⟩,
                     ⟨some 99, .load 1 false (.t 98), none⟩,
                     ⟨some 100, .mv (.t 10), none⟩,
                     ⟨some 101, .mv (.t 17), none⟩,
                     ⟨some 102, .idxA 1 (.t 100) (.t 101), none⟩,
                     ⟨some 103, .load 1 false (.t 102), none⟩,
                     ⟨some 104, .bin .neq (.t 99) (.t 103), none⟩] ⟨.no, [], .flat⟩)
                   (.cond (.t 104)
                    (.seq (.ops [
                       ⟨some 16, .mv (.c (.int .i64 1)), none⟩])
                     (.seq (.draw [
                        ⟨some 105, .mv (.t 8), none⟩,
                        ⟨some 106, .mv (.t 17), none⟩,
                        ⟨some 107, .idxA 1 (.t 105) (.t 106), none⟩,
                        ⟨some 108, .load 1 false (.t 107), none⟩,
                        ⟨some 109, .mv (.t 10), none⟩,
                        ⟨some 110, .mv (.t 17), none⟩,
                        ⟨some 111, .idxA 1 (.t 109) (.t 110), none⟩,
                        ⟨some 112, .load 1 false (.t 111), none⟩,
                        ⟨some 113, .bin .lss (.t 108) (.t 112), none⟩] ⟨.no, [], .flat⟩)
                      (.cond (.t 113)
                       (.ops [
                         ⟨some 16, .mv (.c (.int .i64 (-1))), none⟩])
                       .skip)))
                    .skip))))
                (.ops [
                  ⟨some 89, .mv (.t 17), none⟩,
                  ⟨some 90, .bin .sub (.t 89) (.c (.int .i64 1)), none⟩,
                  ⟨some 17, .mv (.t 90), none⟩]))))))
           (.seq (.ops [
              ⟨some 114, .mv (.t 0), none⟩,
              ⟨some 115, .mv (.t 1), none⟩,
              ⟨some 116, .bin .lss (.t 114) (.t 115), none⟩,
              ⟨some 117, .mv (.t 16), none⟩,
              ⟨some 118, .bin .lss (.t 117) (.c (.int .i64 0)), none⟩,
              ⟨some 119, .eqb false (.t 116) (.t 118), none⟩,
              ⟨some 120, .mv (.t 119), none⟩,
              ⟨some 121, .mv (.t 0), (some (120, true))⟩,
              ⟨some 122, .mv (.t 1), (some (120, true))⟩,
              ⟨some 123, .bin .eql (.t 121) (.t 122), (some (120, true))⟩,
              ⟨some 124, .mv (.t 16), (some (120, true))⟩,
              ⟨some 125, .bin .eql (.t 124) (.c (.int .i64 0)), (some (120, true))⟩,
              ⟨some 126, .eqb false (.t 123) (.t 125), (some (120, true))⟩,
              ⟨some 127, .pick (.t 120) (.t 126) (.c (.bool false)), none⟩,
              ⟨some 128, .mv (.t 127), none⟩,
              ⟨some 129, .call (.c (.fn F_witanlaw10_wakes [])) [], (some (128, true))⟩,
              ⟨some 130, .pick (.t 128) (.t 129) (.c (.bool false)), none⟩,
              ⟨some 6, .mv (.t 130), none⟩])
            .ret))))))))))))⟩
theorem K_witanlaw10_BinOrder : chkFun DK Pg Try.f4 A_witanlaw10_BinOrder = true := by kernel_rfl
theorem B_witanlaw10_BinOrder {args : List AV} {m : Mem} {K : AV → Mem → Prop} (h : vcFun DK Pg A_witanlaw10_BinOrder args m K) : ACall Pg F_witanlaw10_BinOrder args m K := call_body mixed Try.func4 (by kernel_rfl) K_witanlaw10_BinOrder h

noncomputable def A_witanlaw10_BinExact : AFun := ⟨5, 151, [.t 10],
 (.seq (.ops [
   ⟨some 10, .mv (.c (.bool false)), none⟩])
 (.seq (.seq (.ops [
     ⟨some 21, .mv (.t 0), none⟩,
     ⟨some 22, .len (.t 21), none⟩,
     ⟨some 23, .bin .gtr (.t 22) (.c (.int .i64 2000)), none⟩,
     ⟨some 24, .mv (.t 23), none⟩,
     ⟨some 25, .mv (.t 1), (some (24, false))⟩,
     ⟨some 26, .len (.t 25), (some (24, false))⟩,
     ⟨some 27, .bin .gtr (.t 26) (.c (.int .i64 2000)), (some (24, false))⟩,
     ⟨some 28, .pick (.t 24) (.c (.bool true)) (.t 27), none⟩])
   (.cond (.t 28)
    (.seq (.ops [
       ⟨some 10, .mv (.c (.bool true)), none⟩])
     .ret)
    .skip))
  (.seq (.ops [
     ⟨some 29, .mv (.t 0), none⟩,
     ⟨some 30, .call (.c (.fn F_witankeep_Twin [])) [.t 29], none⟩,
     ⟨some 31, .mv (.t 1), none⟩,
     ⟨some 32, .call (.c (.fn F_witankeep_Twin [])) [.t 31], none⟩,
     ⟨some 11, .mv (.t 30), none⟩,
     ⟨some 12, .mv (.t 32), none⟩])
   (.seq (.ops [
      ⟨some 34, .mv (.t 11), none⟩,
      ⟨some 35, .mv (.t 2), none⟩,
      ⟨some 36, .mv (.t 4), none⟩,
      ⟨some 37, .call (.c (.fn F_bin_Put [])) [.t 34, .t 35, .t 36], none⟩,
      ⟨some 33, .mv (.t 37), none⟩,
      ⟨some 38, .ext (.t 33) 0, none⟩,
      ⟨some 39, .ext (.t 33) 1, none⟩,
      ⟨some 13, .mv (.t 38), none⟩,
      ⟨some 14, .mv (.t 39), none⟩])
    (.seq (.ops [
       ⟨some 41, .mv (.t 0), none⟩,
       ⟨some 42, .mv (.t 2), none⟩,
       ⟨some 43, .mv (.t 4), none⟩,
       ⟨some 44, .call (.c (.fn F_witanref10_Put [])) [.t 41, .t 42, .t 43], none⟩,
       ⟨some 40, .mv (.t 44), none⟩,
       ⟨some 45, .ext (.t 40) 0, none⟩,
       ⟨some 46, .ext (.t 40) 1, none⟩,
       ⟨some 15, .mv (.t 45), none⟩,
       ⟨some 16, .mv (.t 46), none⟩])
     (.seq (.seq (.ops [
         ⟨some 47, .mv (.t 13), none⟩,
         ⟨some 48, .mv (.t 15), none⟩,
         ⟨some 49, .call (.c (.fn F_witankeep_Bytes [])) [.t 47, .t 48], none⟩,
         ⟨some 50, .un .not (.t 49), none⟩,
         ⟨some 51, .mv (.t 50), none⟩,
         ⟨some 52, .mv (.t 14), (some (51, false))⟩,
         ⟨some 53, .mv (.t 16), (some (51, false))⟩,
         ⟨some 54, .bin .neq (.t 52) (.t 53), (some (51, false))⟩,
         ⟨some 55, .pick (.t 51) (.c (.bool true)) (.t 54), none⟩])
       (.cond (.t 55)
        (.seq (.ops [
           ⟨some 10, .mv (.c (.bool false)), none⟩])
         .ret)
        .skip))
      (.seq (.ops [
         ⟨some 56, .mv (.t 13), none⟩,
         ⟨some 57, .call (.c (.fn F_witankeep_SpoilBytes [])) [.t 56], none⟩])
       (.seq (.ops [
          ⟨some 59, .mv (.t 11), none⟩,
          ⟨some 60, .mv (.t 3), none⟩,
          ⟨some 61, .mv (.t 4), none⟩,
          ⟨some 62, .call (.c (.fn F_bin_Get [])) [.t 59, .t 60, .t 61], none⟩,
          ⟨some 58, .mv (.t 62), none⟩,
          ⟨some 63, .ext (.t 58) 0, none⟩,
          ⟨some 64, .ext (.t 58) 1, none⟩,
          ⟨some 65, .ext (.t 58) 2, none⟩,
          ⟨some 17, .mv (.t 63), none⟩,
          ⟨some 18, .mv (.t 64), none⟩,
          ⟨some 14, .mv (.t 65), none⟩])
        (.seq (.ops [
           ⟨some 67, .mv (.t 0), none⟩,
           ⟨some 68, .mv (.t 3), none⟩,
           ⟨some 69, .mv (.t 4), none⟩,
           ⟨some 70, .call (.c (.fn F_witanref10_Get [])) [.t 67, .t 68, .t 69], none⟩,
           ⟨some 66, .mv (.t 70), none⟩,
           ⟨some 71, .ext (.t 66) 0, none⟩,
           ⟨some 72, .ext (.t 66) 1, none⟩,
           ⟨some 73, .ext (.t 66) 2, none⟩,
           ⟨some 19, .mv (.t 71), none⟩,
           ⟨some 20, .mv (.t 72), none⟩,
           ⟨some 16, .mv (.t 73), none⟩])
         (.seq (.seq (.ops [
             ⟨some 74, .mv (.t 17), none⟩,
             ⟨some 75, .mv (.t 19), none⟩,
             ⟨some 76, .bin .neq (.t 74) (.t 75), none⟩,
             ⟨some 77, .mv (.t 76), none⟩,
             ⟨some 78, .mv (.t 18), (some (77, false))⟩,
             ⟨some 79, .mv (.t 20), (some (77, false))⟩,
             ⟨some 80, .bin .neq (.t 78) (.t 79), (some (77, false))⟩,
             ⟨some 81, .pick (.t 77) (.c (.bool true)) (.t 80), none⟩,
             ⟨some 82, .mv (.t 81), none⟩,
             ⟨some 83, .mv (.t 14), (some (82, false))⟩,
             ⟨some 84, .mv (.t 16), (some (82, false))⟩,
             ⟨some 85, .bin .neq (.t 83) (.t 84), (some (82, false))⟩,
             ⟨some 86, .pick (.t 82) (.c (.bool true)) (.t 85), none⟩])
           (.cond (.t 86)
            (.seq (.ops [
               ⟨some 10, .mv (.c (.bool false)), none⟩])
             .ret)
            .skip))
          (.seq (.ops [
             ⟨some 88, .mv (.t 11), none⟩,
             ⟨some 89, .mv (.t 12), none⟩,
             ⟨some 90, .call (.c (.fn F_bin_PutPart [])) [.t 88, .t 89], none⟩,
             ⟨some 87, .mv (.t 90), none⟩,
             ⟨some 91, .ext (.t 87) 0, none⟩,
             ⟨some 92, .ext (.t 87) 1, none⟩,
             ⟨some 13, .mv (.t 91), none⟩,
             ⟨some 14, .mv (.t 92), none⟩])
           (.seq (.ops [
              ⟨some 94, .mv (.t 0), none⟩,
              ⟨some 95, .mv (.t 1), none⟩,
              ⟨some 96, .call (.c (.fn F_witanref10_PutPart [])) [.t 94, .t 95], none⟩,
              ⟨some 93, .mv (.t 96), none⟩,
              ⟨some 97, .ext (.t 93) 0, none⟩,
              ⟨some 98, .ext (.t 93) 1, none⟩,
              ⟨some 15, .mv (.t 97), none⟩,
              ⟨some 16, .mv (.t 98), none⟩])
            (.seq (.seq (.ops [
                ⟨some 99, .mv (.t 13), none⟩,
                ⟨some 100, .mv (.t 15), none⟩,
                ⟨some 101, .call (.c (.fn F_witankeep_Bytes [])) [.t 99, .t 100], none⟩,
                ⟨some 102, .un .not (.t 101), none⟩,
                ⟨some 103, .mv (.t 102), none⟩,
                ⟨some 104, .mv (.t 14), (some (103, false))⟩,
                ⟨some 105, .mv (.t 16), (some (103, false))⟩,
                ⟨some 106, .bin .neq (.t 104) (.t 105), (some (103, false))⟩,
                ⟨some 107, .pick (.t 103) (.c (.bool true)) (.t 106), none⟩])
              (.cond (.t 107)
               (.seq (.ops [
                  ⟨some 10, .mv (.c (.bool false)), none⟩])
                .ret)
               .skip))
             (.seq (.ops [
                ⟨some 108, .mv (.t 13), none⟩,
                ⟨some 109, .call (.c (.fn F_witankeep_SpoilBytes [])) [.t 108], none⟩])
              (.seq (.ops [
                 ⟨some 111, .mv (.t 11), none⟩,
                 ⟨some 112, .mv (.t 3), none⟩,
                 ⟨some 113, .call (.c (.fn F_bin_GetPart [])) [.t 111, .t 112], none⟩,
                 ⟨some 110, .mv (.t 113), none⟩,
                 ⟨some 114, .ext (.t 110) 0, none⟩,
                 ⟨some 115, .ext (.t 110) 1, none⟩,
                 ⟨some 116, .ext (.t 110) 2, none⟩,
                 ⟨some 13, .mv (.t 114), none⟩,
                 ⟨some 18, .mv (.t 115), none⟩,
                 ⟨some 14, .mv (.t 116), none⟩])
               (.seq (.ops [
                  ⟨some 118, .mv (.t 0), none⟩,
                  ⟨some 119, .mv (.t 3), none⟩,
                  ⟨some 120, .call (.c (.fn F_witanref10_GetPart [])) [.t 118, .t 119], none⟩,
                  ⟨some 117, .mv (.t 120), none⟩,
                  ⟨some 121, .ext (.t 117) 0, none⟩,
                  ⟨some 122, .ext (.t 117) 1, none⟩,
                  ⟨some 123, .ext (.t 117) 2, none⟩,
                  ⟨some 15, .mv (.t 121), none⟩,
                  ⟨some 20, .mv (.t 122), none⟩,
                  ⟨some 16, .mv (.t 123), none⟩])
                (.seq (.seq (.ops [
                    ⟨some 124, .mv (.t 13), none⟩,
                    ⟨some 125, .mv (.t 15), none⟩,
                    ⟨some 126, .call (.c (.fn F_witankeep_Bytes [])) [.t 124, .t 125], none⟩,
                    ⟨some 127, .un .not (.t 126), none⟩,
                    ⟨some 128, .mv (.t 127), none⟩,
                    ⟨some 129, .mv (.t 18), (some (128, false))⟩,
                    ⟨some 130, .mv (.t 20), (some (128, false))⟩,
                    ⟨some 131, .bin .neq (.t 129) (.t 130), (some (128, false))⟩,
                    ⟨some 132, .pick (.t 128) (.c (.bool true)) (.t 131), none⟩,
                    ⟨some 133, .mv (.t 132), none⟩,
                    ⟨some 134, .mv (.t 14), (some (133, false))⟩,
                    ⟨some 135, .mv (.t 16), (some (133, false))⟩,
                    ⟨some 136, .bin .neq (.t 134) (.t 135), (some (133, false))⟩,
                    ⟨some 137, .pick (.t 133) (.c (.bool true)) (.t 136), none⟩])
                  (.cond (.t 137)
                   (.seq (.ops [
                      ⟨some 10, .mv (.c (.bool false)), none⟩])
                    .ret)
                   .skip))
                 (.seq (.ops [
                    ⟨some 138, .mv (.t 13), none⟩,
                    ⟨some 139, .call (.c (.fn F_witankeep_SpoilBytes [])) [.t 138], none⟩])
                  (.seq (.ops [
                     ⟨some 140, .mv (.t 11), none⟩,
                     ⟨some 141, .mv (.t 0), none⟩,
                     ⟨some 142, .call (.c (.fn F_witankeep_Bytes [])) [.t 140, .t 141], none⟩,
                     ⟨some 143, .mv (.t 142), none⟩,
                     ⟨some 144, .mv (.t 12), (some (143, true))⟩,
                     ⟨some 145, .mv (.t 1), (some (143, true))⟩,
                     ⟨some 146, .call (.c (.fn F_witankeep_Bytes [])) [.t 144, .t 145], (some (143, true))⟩,
                     ⟨some 147, .pick (.t 143) (.t 146) (.c (.bool false)), none⟩,
                     ⟨some 148, .mv (.t 147), none⟩,
                     ⟨some 149, .call (.c (.fn F_witanlaw10_wakes [])) [], (some (148, true))⟩,
                     ⟨some 150, .pick (.t 148) (.t 149) (.c (.bool false)), none⟩,
                     ⟨some 10, .mv (.t 150), none⟩])
                   .ret)))))))))))))))))))⟩
theorem K_witanlaw10_BinExact : chkFun DK Pg Try.f5 A_witanlaw10_BinExact = true := by kernel_rfl
theorem B_witanlaw10_BinExact {args : List AV} {m : Mem} {K : AV → Mem → Prop} (h : vcFun DK Pg A_witanlaw10_BinExact args m K) : ACall Pg F_witanlaw10_BinExact args m K := call_body mixed Try.func5 (by kernel_rfl) K_witanlaw10_BinExact h

noncomputable def A_witanlaw10_BinBack : AFun := ⟨3, 164, [.t 6],
 (.seq (.ops [
   ⟨some 6, .mv (.c (.bool false)), none⟩])
 (.seq (.seq (.ops [
     ⟨some 18, .mv (.t 0), none⟩,
     ⟨some 19, .len (.t 18), none⟩,
     ⟨some 20, .bin .gtr (.t 19) (.c (.int .i64 50)), none⟩,
     ⟨some 21, .mv (.t 20), none⟩,
     ⟨some 22, .mv (.t 1), (some (21, false))⟩,
     ⟨some 23, .len (.t 22), (some (21, false))⟩,
     ⟨some 24, .bin .gtr (.t 23) (.c (.int .i64 50)), (some (21, false))⟩,
     ⟨some 25, .pick (.t 21) (.c (.bool true)) (.t 24), none⟩])
   (.cond (.t 25)
    (.seq (.ops [
       ⟨some 6, .mv (.c (.bool true)), none⟩])
     .ret)
    .skip))
  (.seq (.ops [
     ⟨some 26, .mv (.t 2), none⟩,
     ⟨some 27, .conv .u64 (.t 26), none⟩,
     ⟨some 28, .bin .rem (.t 27) (.c (.int .u64 7)), none⟩,
     ⟨some 29, .conv .i64 (.t 28), none⟩,
     ⟨some 30, .bin .add (.c (.int .i64 1)) (.t 29), none⟩,
     ⟨some 2, .mv (.t 30), none⟩])
   (.seq (.ops [
      ⟨some 7, .mv (.c (.nils)), none⟩])
    (.seq (.ops [
       ⟨some 8, .mv (.c (.int .i64 0)), none⟩])
     (.seq (.seq (.ops [
         ⟨some 9, .mv (.c (.int .i64 0)), none⟩])
       (.block 0
        (.loop
         (.seq (.seq (.ops [
             ⟨some 31, .mv (.t 9), none⟩,
             ⟨some 32, .mv (.t 0), none⟩,
             ⟨some 33, .len (.t 32), none⟩,
             ⟨some 34, .bin .lss (.t 31) (.t 33), none⟩,
             ⟨some 35, .mv (.t 34), none⟩,
             ⟨some 36, .mv (.t 9), (some (35, false))⟩,
             ⟨some 37, .mv (.t 1), (some (35, false))⟩,
             ⟨some 38, .len (.t 37), (some (35, false))⟩,
             ⟨some 39, .bin .lss (.t 36) (.t 38), (some (35, false))⟩,
             ⟨some 40, .pick (.t 35) (.c (.bool true)) (.t 39), none⟩])
           (.cond (.t 40)
            .skip
            (.exit 0)))
          (.seq (.block 1
            (.seq (.seq (.ops [
                ⟨some 43, .mv (.t 9), none⟩,
                ⟨some 44, .mv (.t 0), none⟩,
                ⟨some 45, .len (.t 44), none⟩,
                ⟨some 46, .bin .lss (.t 43) (.t 45), none⟩])
              (.cond (.t 46)
               (.seq (.ops [
                  ⟨some 48, .mv (.t 7), none⟩,
                  ⟨some 49, .mv (.t 0), none⟩,
                  ⟨some 50, .mv (.t 9), none⟩,
                  ⟨some 51, .idxA 1 (.t 49) (.t 50), none⟩,
                  ⟨some 52, .load 1 false (.t 51), none⟩,
                  ⟨some 53, .mv (.t 2), none⟩,
                  ⟨some 54, .bin .mul (.c (.int .i64 8)) (.t 53), none⟩,
                  ⟨some 55, .conv .u64 (.t 54), none⟩,
                  ⟨some 56, .bin .shl (.c (.int .i64 1)) (.t 55), none⟩,
                  ⟨some 57, .bin .sub (.t 56) (.c (.int .i64 1)), none⟩,
                  ⟨some 58, .bin .and (.t 52) (.t 57), none⟩,
                  ⟨some 59, .mv (.t 2), none⟩,
                  ⟨some 60, .call (.c (.fn F_bin_Put [])) [.t 48, .t 58, .t 59], none⟩,
                  ⟨some 47, .mv (.t 60), none⟩,
                  ⟨some 61, .ext (.t 47) 0, none⟩,
                  ⟨some 62, .ext (.t 47) 1, none⟩,
                  ⟨some 7, .mv (.t 61), none⟩,
                  ⟨some 8, .mv (.t 62), none⟩])
                (.seq (.ops [
                   ⟨some 63, .mv (.t 8), none⟩,
                   ⟨some 64, .bin .neq (.t 63) (.c (.int .i64 0)), none⟩])
                 (.cond (.t 64)
                  (.seq (.ops [
                     ⟨some 6, .mv (.c (.bool false)), none⟩])
                   .ret)
                  .skip)))
               .skip))
             (.seq (.ops [
                ⟨some 65, .mv (.t 9), none⟩,
                ⟨some 66, .mv (.t 1), none⟩,
                ⟨some 67, .len (.t 66), none⟩,
                ⟨some 68, .bin .lss (.t 65) (.t 67), none⟩])
              (.cond (.t 68)
               (.seq (.seq (.ops [
                   ⟨some 69, .mv (.t 1), none⟩,
                   ⟨some 70, .mv (.t 9), none⟩,
                   ⟨some 71, .idxA 1 (.t 69) (.t 70), none⟩,
                   ⟨some 72, .load 1 false (.t 71), none⟩,
                   ⟨some 73, .len (.t 72), none⟩,
                   ⟨some 74, .bin .gtr (.t 73) (.c (.int .i64 2000)), none⟩])
                 (.cond (.t 74)
                  (.seq (.ops [
                     ⟨some 6, .mv (.c (.bool true)), none⟩])
                   .ret)
                  .skip))
                (.seq (.ops [
                   ⟨some 76, .mv (.t 7), none⟩,
                   ⟨some 77, .mv (.t 1), none⟩,
                   ⟨some 78, .mv (.t 9), none⟩,
                   ⟨some 79, .idxA 1 (.t 77) (.t 78), none⟩,
                   ⟨some 80, .load 1 false (.t 79), none⟩,
                   ⟨some 81, .call (.c (.fn F_bin_PutPart [])) [.t 76, .t 80], none⟩,
                   ⟨some 75, .mv (.t 81), none⟩,
                   ⟨some 82, .ext (.t 75) 0, none⟩,
                   ⟨some 83, .ext (.t 75) 1, none⟩,
                   ⟨some 7, .mv (.t 82), none⟩,
                   ⟨some 8, .mv (.t 83), none⟩])
                 (.seq (.ops [
                    ⟨some 84, .mv (.t 8), none⟩,
                    ⟨some 85, .bin .neq (.t 84) (.c (.int .i64 0)), none⟩])
                  (.cond (.t 85)
                   (.seq (.ops [
                      ⟨some 6, .mv (.c (.bool false)), none⟩])
                    .ret)
                   .skip))))
               .skip))))
           (.ops [
             ⟨some 41, .mv (.t 9), none⟩,
             ⟨some 42, .bin .add (.t 41) (.c (.int .i64 1)), none⟩,
             ⟨some 9, .mv (.t 42), none⟩]))))))
      (.seq (.ops [
         ⟨some 10, .mv (.c (.int .i64 0)), none⟩])
       (.seq (.seq (.ops [
           ⟨some 11, .mv (.c (.int .i64 0)), none⟩])
         (.block 2
          (.loop
           (.seq (.seq (.ops [
               ⟨some 86, .mv (.t 11), none⟩,
               ⟨some 87, .mv (.t 0), none⟩,
               ⟨some 88, .len (.t 87), none⟩,
               ⟨some 89, .bin .lss (.t 86) (.t 88), none⟩,
               ⟨some 90, .mv (.t 89), none⟩,
               ⟨some 91, .mv (.t 11), (some (90, false))⟩,
               ⟨some 92, .mv (.t 1), (some (90, false))⟩,
               ⟨some 93, .len (.t 92), (some (90, false))⟩,
               ⟨some 94, .bin .lss (.t 91) (.t 93), (some (90, false))⟩,
               ⟨some 95, .pick (.t 90) (.c (.bool true)) (.t 94), none⟩])
             (.cond (.t 95)
              .skip
              (.exit 2)))
            (.seq (.block 3
              (.seq (.seq (.ops [
                  ⟨some 98, .mv (.t 11), none⟩,
                  ⟨some 99, .mv (.t 0), none⟩,
                  ⟨some 100, .len (.t 99), none⟩,
                  ⟨some 101, .bin .lss (.t 98) (.t 100), none⟩])
                (.cond (.t 101)
                 (.seq (.ops [
                    ⟨some 103, .mv (.t 7), none⟩,
                    ⟨some 104, .mv (.t 10), none⟩,
                    ⟨some 105, .mv (.t 2), none⟩,
                    ⟨some 106, .call (.c (.fn F_bin_Get [])) [.t 103, .t 104, .t 105], none⟩,
                    ⟨some 102, .mv (.t 106), none⟩,
                    ⟨some 107, .ext (.t 102) 0, none⟩,
                    ⟨some 108, .ext (.t 102) 1, none⟩,
                    ⟨some 109, .ext (.t 102) 2, none⟩,
                    ⟨some 12, .mv (.t 107), none⟩,
                    ⟨some 13, .mv (.t 108), none⟩,
                    ⟨some 14, .mv (.t 109), none⟩])
                  (.seq (.seq (.ops [
                      ⟨some 110, .mv (.t 14), none⟩,
                      ⟨some 111, .bin .neq (.t 110) (.c (.int .i64 0)), none⟩,
                      ⟨some 112, .mv (.t 111), none⟩,
                      ⟨some 113, .mv (.t 12), (some (112, false))⟩,
                      ⟨some 114, .mv (.t 0), (some (112, false))⟩,
                      ⟨some 115, .mv (.t 11), (some (112, false))⟩,
                      ⟨some 116, .idxA 1 (.t 114) (.t 115), (some (112, false))⟩,
                      ⟨some 117, .load 1 false (.t 116), (some (112, false))⟩,
                      ⟨some 118, .mv (.t 2), (some (112, false))⟩,
                      ⟨some 119, .bin .mul (.c (.int .i64 8)) (.t 118), (some (112, false))⟩,
                      ⟨some 120, .conv .u64 (.t 119), (some (112, false))⟩,
                      ⟨some 121, .bin .shl (.c (.int .i64 1)) (.t 120), (some (112, false))⟩,
                      ⟨some 122, .bin .sub (.t 121) (.c (.int .i64 1)), (some (112, false))⟩,
                      ⟨some 123, .bin .and (.t 117) (.t 122), (some (112, false))⟩,
                      ⟨some 124, .bin .neq (.t 113) (.t 123), (some (112, false))⟩,
                      ⟨some 125, .pick (.t 112) (.c (.bool true)) (.t 124), none⟩,
                      ⟨some 126, .mv (.t 125), none⟩,
                      ⟨some 127, .mv (.t 13), (some (126, false))⟩,
                      ⟨some 128, .mv (.t 10), (some (126, false))⟩,
                      ⟨some 129, .mv (.t 2), (some (126, false))⟩,
                      ⟨some 130, .bin .add (.t 128) (.t 129), (some (126, false))⟩,
                      ⟨some 131, .bin .neq (.t 127) (.t 130), (some (126, false))⟩,
                      ⟨some 132, .pick (.t 126) (.c (.bool true)) (.t 131), none⟩])
                    (.cond (.t 132)
                     (.seq (.ops [
                        ⟨some 6, .mv (.c (.bool false)), none⟩])
                      .ret)
                     .skip))
                   (.ops [
                     ⟨some 133, .mv (.t 13), none⟩,
                     ⟨some 10, .mv (.t 133), none⟩])))
                 .skip))
               (.seq (.ops [
                  ⟨some 134, .mv (.t 11), none⟩,
                  ⟨some 135, .mv (.t 1), none⟩,
                  ⟨some 136, .len (.t 135), none⟩,
                  ⟨some 137, .bin .lss (.t 134) (.t 136), none⟩])
                (.cond (.t 137)
                 (.seq (.ops [
                    ⟨some 139, .mv (.t 7), none⟩,
                    ⟨some 140, .mv (.t 10), none⟩,
                    ⟨some 141, .call (.c (.fn F_bin_GetPart [])) [.t 139, .t 140], none⟩,
                    ⟨some 138, .mv (.t 141), none⟩,
                    ⟨some 142, .ext (.t 138) 0, none⟩,
                    ⟨some 143, .ext (.t 138) 1, none⟩,
                    ⟨some 144, .ext (.t 138) 2, none⟩,
                    ⟨some 15, .mv (.t 142), none⟩,
                    ⟨some 16, .mv (.t 143), none⟩,
                    ⟨some 17, .mv (.t 144), none⟩])
                  (.seq (.seq (.ops [
                      ⟨some 145, .mv (.t 17), none⟩,
                      ⟨some 146, .bin .neq (.t 145) (.c (.int .i64 0)), none⟩,
                      ⟨some 147, .mv (.t 146), none⟩,
                      ⟨some 148, .mv (.t 15), (some (147, false))⟩,
                      ⟨some 149, .mv (.t 1), (some (147, false))⟩,
                      ⟨some 150, .mv (.t 11), (some (147, false))⟩,
                      ⟨some 151, .idxA 1 (.t 149) (.t 150), (some (147, false))⟩,
                      ⟨some 152, .load 1 false (.t 151), (some (147, false))⟩,
                      ⟨some 153, .call (.c (.fn F_witankeep_Bytes [])) [.t 148, .t 152], (some (147, false))⟩,
                      ⟨some 154, .un .not (.t 153), (some (147, false))⟩,
                      ⟨some 155, .pick (.t 147) (.c (.bool true)) (.t 154), none⟩])
                    (.cond (.t 155)
                     (.seq (.ops [
                        ⟨some 6, .mv (.c (.bool false)), none⟩])
                      .ret)
                     .skip))
                   (.ops [
                     ⟨some 156, .mv (.t 16), none⟩,
                     ⟨some 10, .mv (.t 156), none⟩])))
                 .skip))))
             (.ops [
               ⟨some 96, .mv (.t 11), none⟩,
               ⟨some 97, .bin .add (.t 96) (.c (.int .i64 1)), none⟩,
               ⟨some 11, .mv (.t 97), none⟩]))))))
        (.seq (.ops [
           ⟨some 157, .mv (.t 10), none⟩,
           ⟨some 158, .mv (.t 7), none⟩,
           ⟨some 159, .len (.t 158), none⟩,
           ⟨some 160, .bin .eql (.t 157) (.t 159), none⟩,
           ⟨some 161, .mv (.t 160), none⟩,
           ⟨some 162, .call (.c (.fn F_witanlaw10_wakes [])) [], (some (161, true))⟩,
           ⟨some 163, .pick (.t 161) (.t 162) (.c (.bool false)), none⟩,
           ⟨some 6, .mv (.t 163), none⟩])
         .ret)))))))))⟩
theorem K_witanlaw10_BinBack : chkFun DK Pg Try.f6 A_witanlaw10_BinBack = true := by kernel_rfl
theorem B_witanlaw10_BinBack {args : List AV} {m : Mem} {K : AV → Mem → Prop} (h : vcFun DK Pg A_witanlaw10_BinBack args m K) : ACall Pg F_witanlaw10_BinBack args m K := call_body mixed Try.func6 (by kernel_rfl) K_witanlaw10_BinBack h

noncomputable def A_witanlaw10_BinEnds : AFun := ⟨3, 127, [.t 6],
 (.seq (.ops [
   ⟨some 6, .mv (.c (.bool false)), none⟩])
 (.seq (.seq (.ops [
     ⟨some 14, .mv (.t 0), none⟩,
     ⟨some 15, .len (.t 14), none⟩,
     ⟨some 16, .bin .gtr (.t 15) (.c (.int .i64 2000)), none⟩,
     ⟨some 17, .mv (.t 16), none⟩,
     ⟨some 18, .mv (.t 2), (some (17, false))⟩,
     ⟨some 19, .bin .lss (.t 18) (.c (.int .i64 0)), (some (17, false))⟩,
     ⟨some 20, .pick (.t 17) (.c (.bool true)) (.t 19), none⟩,
     ⟨some 21, .mv (.t 20), none⟩,
     ⟨some 22, .mv (.t 2), (some (21, false))⟩,
     ⟨some 23, .bin .gtr (.t 22) (.c (.int .i64 1)), (some (21, false))⟩,
     ⟨some 24, .pick (.t 21) (.c (.bool true)) (.t 23), none⟩])
   (.cond (.t 24)
    (.seq (.ops [
       ⟨some 6, .mv (.c (.bool true)), none⟩])
     .ret)
    .skip))
  (.seq (.ops [
     ⟨some 26, .mv (.t 0), none⟩,
     ⟨some 27, .call (.c (.fn F_bin_PutPart [])) [.c (.nils), .t 26], none⟩,
     ⟨some 25, .mv (.t 27), none⟩,
     ⟨some 28, .ext (.t 25) 0, none⟩,
     ⟨some 29, .ext (.t 25) 1, none⟩,
     ⟨some 7, .mv (.t 28), none⟩,
     ⟨some 8, .mv (.t 29), none⟩])
   (.seq (.seq (.ops [
       ⟨some 30, .mv (.t 8), none⟩,
       ⟨some 31, .bin .neq (.t 30) (.c (.int .i64 0)), none⟩,
       ⟨some 32, .mv (.t 31), none⟩,
       ⟨some 33, .mv (.t 7), (some (32, false))⟩,
       ⟨some 34, .len (.t 33), (some (32, false))⟩,
       ⟨some 35, .bin .eql (.t 34) (.c (.int .i64 0)), (some (32, false))⟩,
       ⟨some 36, .pick (.t 32) (.c (.bool true)) (.t 35), none⟩])
     (.cond (.t 36)
      (.seq (.ops [
         ⟨some 6, .mv (.c (.bool false)), none⟩])
       .ret)
      .skip))
    (.seq (.ops [
       ⟨some 37, .mv (.t 1), none⟩,
       ⟨some 38, .conv .u64 (.t 37), none⟩,
       ⟨some 39, .mv (.t 7), none⟩,
       ⟨some 40, .len (.t 39), none⟩,
       ⟨some 41, .conv .u64 (.t 40), none⟩,
       ⟨some 42, .bin .rem (.t 38) (.t 41), none⟩,
       ⟨some 43, .conv .i64 (.t 42), none⟩,
       ⟨some 9, .mv (.t 43), none⟩])
     (.seq (.ops [
        ⟨some 45, .mv (.t 7), none⟩,
        ⟨some 46, .mv (.t 9), none⟩,
        ⟨some 47, .slice 1 (.t 45) none (some (.t 46)) none, none⟩,
        ⟨some 48, .call (.c (.fn F_bin_GetPart [])) [.t 47, .c (.int .i64 0)], none⟩,
        ⟨some 44, .mv (.t 48), none⟩,
        ⟨some 49, .ext (.t 44) 0, none⟩,
        ⟨some 50, .ext (.t 44) 1, none⟩,
        ⟨some 51, .ext (.t 44) 2, none⟩,
        ⟨some 10, .mv (.t 49), none⟩,
        ⟨some 11, .mv (.t 50), none⟩,
        ⟨some 8, .mv (.t 51), none⟩])
      (.seq (.seq (.ops [
          ⟨some 52, .mv (.t 8), none⟩,
          ⟨some 53, .bin .neq (.t 52) (.c (.int .i64 7)), none⟩,
          ⟨some 54, .mv (.t 53), none⟩,
          ⟨some 55, .mv (.t 10), (some (54, false))⟩,
          ⟨some 56, .len (.t 55), (some (54, false))⟩,
          ⟨some 57, .bin .neq (.t 56) (.c (.int .i64 0)), (some (54, false))⟩,
          ⟨some 58, .pick (.t 54) (.c (.bool true)) (.t 57), none⟩,
          ⟨some 59, .mv (.t 58), none⟩,
          ⟨some 60, .mv (.t 11), (some (59, false))⟩,
          ⟨some 61, .bin .neq (.t 60) (.c (.int .i64 0)), (some (59, false))⟩,
          ⟨some 62, .pick (.t 59) (.c (.bool true)) (.t 61), none⟩])
        (.cond (.t 62)
         (.seq (.ops [
            ⟨some 6, .mv (.c (.bool false)), none⟩])
          .ret)
         .skip))
       (.seq (.ops [
          ⟨some 63, .mv (.t 2), none⟩,
          ⟨some 64, .bin .add (.c (.int .i64 16384)) (.t 63), none⟩,
          ⟨some 65, .mksl 1 1 [.int .u8 0] (.t 64) (.t 64), none⟩,
          ⟨some 12, .mv (.t 65), none⟩])
        (.seq (.ops [
           ⟨some 67, .mv (.t 12), none⟩,
           ⟨some 68, .call (.c (.fn F_bin_PutPart [])) [.c (.nils), .t 67], none⟩,
           ⟨some 66, .mv (.t 68), none⟩,
           ⟨some 69, .ext (.t 66) 0, none⟩,
           ⟨some 70, .ext (.t 66) 1, none⟩,
           ⟨some 7, .mv (.t 69), none⟩,
           ⟨some 8, .mv (.t 70), none⟩])
         (.seq (.seq (.ops [
             ⟨some 71, .mv (.t 2), none⟩,
             ⟨some 72, .bin .gtr (.t 71) (.c (.int .i64 0)), none⟩])
           (.cond (.t 72)
            (.seq (.seq (.ops [
                ⟨some 73, .mv (.t 8), none⟩,
                ⟨some 74, .bin .neq (.t 73) (.c (.int .i64 4)), none⟩,
                ⟨some 75, .mv (.t 74), none⟩,
                ⟨some 76, .mv (.t 7), (some (75, false))⟩,
                ⟨some 77, .len (.t 76), (some (75, false))⟩,
                ⟨some 78, .bin .gtr (.t 77) (.c (.int .i64 0)), (some (75, false))⟩,
                ⟨some 79, .pick (.t 75) (.c (.bool true)) (.t 78), none⟩])
              (.cond (.t 79)
               (.seq (.ops [
                  ⟨some 6, .mv (.c (.bool false)), none⟩])
                .ret)
               .skip))
             (.seq (.ops [
                ⟨some 81, .mv (.t 12), none⟩,
                ⟨some 82, .len (.t 81), none⟩,
                ⟨some 83, .call (.c (.fn F_bin_Put [])) [.c (.nils), .t 82, .c (.int .i64 4)], none⟩,
                ⟨some 80, .mv (.t 83), none⟩,
                ⟨some 84, .ext (.t 80) 0, none⟩,
                ⟨some 85, .ext (.t 80) 1, none⟩,
                ⟨some 7, .mv (.t 84), none⟩])
              (.seq (.ops [
                 ⟨some 87, .mv (.t 7), none⟩,
                 ⟨some 88, .mv (.t 12), none⟩,
                 ⟨some 89, .app 1 1 (.t 87) (.t 88), none⟩,
                 ⟨some 90, .call (.c (.fn F_bin_GetPart [])) [.t 89, .c (.int .i64 0)], none⟩,
                 ⟨some 86, .mv (.t 90), none⟩,
                 ⟨some 91, .ext (.t 86) 0, none⟩,
                 ⟨some 92, .ext (.t 86) 1, none⟩,
                 ⟨some 93, .ext (.t 86) 2, none⟩,
                 ⟨some 8, .mv (.t 93), none⟩])
               (.seq (.ops [
                  ⟨some 94, .mv (.t 8), none⟩,
                  ⟨some 95, .bin .eql (.t 94) (.c (.int .i64 7)), none⟩,
                  ⟨some 96, .mv (.t 95), none⟩,
                  ⟨some 97, .call (.c (.fn F_witanlaw10_wakes [])) [], (some (96, true))⟩,
                  ⟨some 98, .pick (.t 96) (.t 97) (.c (.bool false)), none⟩,
                  ⟨some 6, .mv (.t 98), none⟩])
                .ret))))
            .skip))
          (.seq (.ops [
             ⟨some 100, .mv (.t 7), none⟩,
             ⟨some 101, .call (.c (.fn F_bin_GetPart [])) [.t 100, .c (.int .i64 0)], none⟩,
             ⟨some 99, .mv (.t 101), none⟩,
             ⟨some 102, .ext (.t 99) 0, none⟩,
             ⟨some 103, .ext (.t 99) 1, none⟩,
             ⟨some 104, .ext (.t 99) 2, none⟩,
             ⟨some 10, .mv (.t 102), none⟩,
             ⟨some 11, .mv (.t 103), none⟩,
             ⟨some 13, .mv (.t 104), none⟩])
           (.seq (.ops [
              ⟨some 105, .mv (.t 8), none⟩,
              ⟨some 106, .bin .eql (.t 105) (.c (.int .i64 0)), none⟩,
              ⟨some 107, .mv (.t 106), none⟩,
              ⟨some 108, .mv (.t 13), (some (107, true))⟩,
              ⟨some 109, .bin .eql (.t 108) (.c (.int .i64 0)), (some (107, true))⟩,
              ⟨some 110, .pick (.t 107) (.t 109) (.c (.bool false)), none⟩,
              ⟨some 111, .mv (.t 110), none⟩,
              ⟨some 112, .mv (.t 10), (some (111, true))⟩,
              ⟨some 113, .len (.t 112), (some (111, true))⟩,
              ⟨some 114, .mv (.t 12), (some (111, true))⟩,
              ⟨some 115, .len (.t 114), (some (111, true))⟩,
              ⟨some 116, .bin .eql (.t 113) (.t 115), (some (111, true))⟩,
              ⟨some 117, .pick (.t 111) (.t 116) (.c (.bool false)), none⟩,
              ⟨some 118, .mv (.t 117), none⟩,
              ⟨some 119, .mv (.t 11), (some (118, true))⟩,
              ⟨some 120, .mv (.t 7), (some (118, true))⟩,
              ⟨some 121, .len (.t 120), (some (118, true))⟩,
              ⟨some 122, .bin .eql (.t 119) (.t 121), (some (118, true))⟩,
              ⟨some 123, .pick (.t 118) (.t 122) (.c (.bool false)), none⟩,
              ⟨some 124, .mv (.t 123), none⟩,
              ⟨some 125, .call (.c (.fn F_witanlaw10_wakes [])) [], (some (124, true))⟩,
              ⟨some 126, .pick (.t 124) (.t 125) (.c (.bool false)), none⟩,
              ⟨some 6, .mv (.t 126), none⟩])
            .ret))))))))))))⟩
theorem K_witanlaw10_BinEnds : chkFun DK Pg Try.f7 A_witanlaw10_BinEnds = true := by kernel_rfl
theorem B_witanlaw10_BinEnds {args : List AV} {m : Mem} {K : AV → Mem → Prop} (h : vcFun DK Pg A_witanlaw10_BinEnds args m K) : ACall Pg F_witanlaw10_BinEnds args m K := call_body mixed Try.func7 (by kernel_rfl) K_witanlaw10_BinEnds h

noncomputable def A_witanlaw04_ShaLengths : AFun := ⟨0, 23, [.t 0],
 (.seq (.ops [
   ⟨some 0, .mv (.c (.bool false)), none⟩])
 (.seq (.ops [
    ⟨some 5, .mksl 1 1 [.int .u8 0] (.c (.int .i64 200)) (.c (.int .i64 200)), none⟩,
    ⟨some 1, .mv (.t 5), none⟩])
  (.seq (.seq (.ops [
      ⟨some 2, .mv (.c (.int .i64 0)), none⟩])
    (.block 0
     (.loop
      (.seq (.seq (.ops [
          ⟨some 6, .mv (.t 2), none⟩,
          ⟨some 7, .bin .leq (.t 6) (.c (.int .i64 200)), none⟩])
        (.cond (.t 7)
         .skip
         (.exit 0)))
       (.seq (.block 1
         (.seq (.draw [
            ⟨some 10, .mv (.t 1), none⟩,
            ⟨some 11, .mv (.t 2), none⟩,
            ⟨some 12, .slice 1 (.t 10) none (some (.t 11)) none, none⟩,
            ⟨some 13, .call (.c (.fn F_sha_Sum [])) [.t 12], none⟩,
            ⟨some 14, .mv (.t 1), none⟩,
            ⟨some 15, .mv (.t 2), none⟩,
            ⟨some 16, .slice 1 (.t 14) none (some (.t 15)) none, none⟩,
            ⟨some 17, .call (.c (.fn F_witanref04_Sum256 [])) [.t 16], none⟩,
            ⟨some 3, .alloc 1 32 [.int .u8 0], none⟩,
            ⟨some 4, .alloc 1 32 [.int .u8 0], none⟩,
            ⟨none, .store 32 (.t 3) (.t 13), none⟩,
            ⟨none, .store 32 (.t 4) (.t 17), none⟩] ⟨.all, [(8, some 10), (9, some 11)], .look 0 (.look 1 (.look 2 (.look 4 (.look 5 (.look 6 (.run 3 true (.pre 8 10 (.run 7 true (.pre 9 11 (.fill .done))))))))))⟩)
          (.seq (.draw [
             ⟨some 18, .slarr 32 1 (.t 3) none none none, none⟩,
             ⟨some 19, .slarr 32 1 (.t 4) none none none, none⟩,
             ⟨some 20, .call (.c (.fn F_witankeep_Bytes [])) [.t 18, .t 19], none⟩,
             ⟨some 21, .un .not (.t 20), none⟩] ⟨.all, [], .look 0 (.look 1 (.run 2 true (.look 3 .done)))⟩)
           (.cond (.t 21)
            (.seq (.ops [
               ⟨some 0, .mv (.c (.bool false)), none⟩])
             .ret)
            .skip))))
        (.ops [
          ⟨some 8, .mv (.t 2), none⟩,
          ⟨some 9, .bin .add (.t 8) (.c (.int .i64 1)), none⟩,
          ⟨some 2, .mv (.t 9), none⟩]))))))
   (.seq (.ops [
      ⟨some 22, .call (.c (.fn F_witanlaw04_wakes [])) [], none⟩,
      ⟨some 0, .mv (.t 22), none⟩])
    .ret))))⟩
theorem K_witanlaw04_ShaLengths : chkFun DK Pg Try.f8 A_witanlaw04_ShaLengths = true := by kernel_rfl
theorem B_witanlaw04_ShaLengths {args : List AV} {m : Mem} {K : AV → Mem → Prop} (h : vcFun DK Pg A_witanlaw04_ShaLengths args m K) : ACall Pg F_witanlaw04_ShaLengths args m K := call_body mixed Try.func8 (by kernel_rfl) K_witanlaw04_ShaLengths h

noncomputable def A_witanlaw04_ShaAlone : AFun := ⟨3, 73, [.t 6],
 (.seq (.ops [
   ⟨some 6, .mv (.c (.bool false)), none⟩])
 (.seq (.seq (.ops [
     ⟨some 12, .mv (.t 0), none⟩,
     ⟨some 13, .len (.t 12), none⟩,
     ⟨some 14, .bin .gtr (.t 13) (.c (.int .i64 3000)), none⟩,
     ⟨some 15, .mv (.t 14), none⟩,
     ⟨some 16, .mv (.t 1), (some (15, false))⟩,
     ⟨some 17, .len (.t 16), (some (15, false))⟩,
     ⟨some 18, .bin .gtr (.t 17) (.c (.int .i64 3000)), (some (15, false))⟩,
     ⟨some 19, .pick (.t 15) (.c (.bool true)) (.t 18), none⟩,
     ⟨some 20, .mv (.t 19), none⟩,
     ⟨some 21, .mv (.t 2), (some (20, false))⟩,
     ⟨some 22, .bin .lss (.t 21) (.c (.int .i64 0)), (some (20, false))⟩,
     ⟨some 23, .pick (.t 20) (.c (.bool true)) (.t 22), none⟩,
     ⟨some 24, .mv (.t 23), none⟩,
     ⟨some 25, .mv (.t 2), (some (24, false))⟩,
     ⟨some 26, .bin .gtr (.t 25) (.c (.int .i64 200)), (some (24, false))⟩,
     ⟨some 27, .pick (.t 24) (.c (.bool true)) (.t 26), none⟩])
   (.cond (.t 27)
    (.seq (.ops [
       ⟨some 6, .mv (.c (.bool true)), none⟩])
     .ret)
    .skip))
  (.seq (.ops [
     ⟨some 28, .mv (.t 0), none⟩,
     ⟨some 29, .call (.c (.fn F_sha_Sum [])) [.t 28], none⟩,
     ⟨some 7, .alloc 1 32 [.int .u8 0], none⟩,
     ⟨none, .store 32 (.t 7) (.t 29), none⟩])
   (.seq (.ops [
      ⟨some 30, .mv (.t 1), none⟩,
      ⟨some 31, .call (.c (.fn F_sha_Sum [])) [.t 30], none⟩])
    (.seq (.ops [
       ⟨some 32, .mv (.t 0), none⟩,
       ⟨some 33, .len (.t 32), none⟩,
       ⟨some 34, .mv (.t 2), none⟩,
       ⟨some 35, .bin .add (.t 33) (.t 34), none⟩,
       ⟨some 36, .mksl 1 1 [.int .u8 0] (.t 35) (.t 35), none⟩,
       ⟨some 8, .mv (.t 36), none⟩])
     (.seq (.seq (.ops [
         ⟨some 9, .mv (.c (.int .i64 0)), none⟩])
       (.block 0
        (.loop
         (.seq (.seq (.ops [
             ⟨some 37, .mv (.t 9), none⟩,
             ⟨some 38, .mv (.t 8), none⟩,
             ⟨some 39, .len (.t 38), none⟩,
             ⟨some 40, .bin .lss (.t 37) (.t 39), none⟩])
           (.cond (.t 40)
            .skip
            (.exit 0)))
          (.seq (.block 1
            (.ops [
              ⟨some 43, .mv (.t 8), none⟩,
              ⟨some 44, .mv (.t 9), none⟩,
              ⟨some 45, .idxA 1 (.t 43) (.t 44), none⟩,
              ⟨none, .store 1 (.t 45) (.c (.int .u8 77)), none⟩]))
           (.ops [
             ⟨some 41, .mv (.t 9), none⟩,
             ⟨some 42, .bin .add (.t 41) (.c (.int .i64 1)), none⟩,
             ⟨some 9, .mv (.t 42), none⟩]))))))
      (.seq (.ops [
         ⟨some 46, .mv (.t 8), none⟩,
         ⟨some 47, .mv (.t 0), none⟩,
         ⟨some 48, .copy 1 (.t 46) (.t 47), none⟩])
       (.seq (.ops [
          ⟨some 49, .mv (.t 8), none⟩,
          ⟨some 50, .mv (.t 0), none⟩,
          ⟨some 51, .len (.t 50), none⟩,
          ⟨some 52, .slice 1 (.t 49) none (some (.t 51)) none, none⟩,
          ⟨some 53, .call (.c (.fn F_sha_Sum [])) [.t 52], none⟩,
          ⟨some 10, .alloc 1 32 [.int .u8 0], none⟩,
          ⟨none, .store 32 (.t 10) (.t 53), none⟩])
        (.seq (.seq (.ops [
            ⟨some 54, .mv (.t 0), none⟩,
            ⟨some 55, .len (.t 54), none⟩,
            ⟨some 11, .mv (.t 55), none⟩])
          (.block 2
           (.loop
            (.seq (.seq (.ops [
                ⟨some 56, .mv (.t 11), none⟩,
                ⟨some 57, .mv (.t 8), none⟩,
                ⟨some 58, .len (.t 57), none⟩,
                ⟨some 59, .bin .lss (.t 56) (.t 58), none⟩])
              (.cond (.t 59)
               .skip
               (.exit 2)))
             (.seq (.block 3
               (.seq (.ops [
                  ⟨some 62, .mv (.t 8), none⟩,
                  ⟨some 63, .mv (.t 11), none⟩,
                  ⟨some 64, .idxA 1 (.t 62) (.t 63), none⟩,
                  ⟨some 65, .load 1 false (.t 64), none⟩,
                  ⟨some 66, .bin .neq (.t 65) (.c (.int .u8 77)), none⟩])
                (.cond (.t 66)
                 (.seq (.ops [
                    ⟨some 6, .mv (.c (.bool false)), none⟩])
                  .ret)
                 .skip)))
              (.ops [
                ⟨some 60, .mv (.t 11), none⟩,
                ⟨some 61, .bin .add (.t 60) (.c (.int .i64 1)), none⟩,
                ⟨some 11, .mv (.t 61), none⟩]))))))
         (.seq (.draw [
            ⟨some 67, .slarr 32 1 (.t 7) none none none, none⟩,
            ⟨some 68, .slarr 32 1 (.t 10) none none none, none⟩,
            ⟨some 69, .call (.c (.fn F_witankeep_Bytes [])) [.t 67, .t 68], none⟩,
            ⟨some 70, .mv (.t 69), none⟩,
            ⟨some 71, .call (.c (.fn F_witanlaw04_wakes [])) [], (some (70, true))⟩,
            ⟨some 72, .pick (.t 70) (.t 71) (.c (.bool false)), none⟩,
            ⟨some 6, .mv (.t 72), none⟩] ⟨.all, [], .look 0 (.look 1 (.run 2 true (.look 3 (.run 4 true (.look 5 (.look 6 .done))))))⟩)
          .ret))))))))))⟩
theorem K_witanlaw04_ShaAlone : chkFun DK Pg Try.f9 A_witanlaw04_ShaAlone = true := by kernel_rfl
theorem B_witanlaw04_ShaAlone {args : List AV} {m : Mem} {K : AV → Mem → Prop} (h : vcFun DK Pg A_witanlaw04_ShaAlone args m K) : ACall Pg F_witanlaw04_ShaAlone args m K := call_body mixed Try.func9 (by kernel_rfl) K_witanlaw04_ShaAlone h

noncomputable def A_witanlaw04_ShaChains : AFun := ⟨2, 38, [.t 4],
 (.seq (.ops [
   ⟨some 4, .mv (.c (.bool false)), none⟩])
 (.seq (.seq (.ops [
     ⟨some 8, .mv (.t 0), none⟩,
     ⟨some 9, .len (.t 8), none⟩,
     ⟨some 10, .bin .gtr (.t 9) (.c (.int .i64 3000)), none⟩,
     ⟨some 11, .mv (.t 10), none⟩,
     ⟨some 12, .mv (.t 1), (some (11, false))⟩,
     ⟨some 13, .bin .lss (.t 12) (.c (.int .i64 0)), (some (11, false))⟩,
     ⟨some 14, .pick (.t 11) (.c (.bool true)) (.t 13), none⟩,
     ⟨some 15, .mv (.t 14), none⟩,
     ⟨some 16, .mv (.t 1), (some (15, false))⟩,
     ⟨some 17, .bin .gtr (.t 16) (.c (.int .i64 100)), (some (15, false))⟩,
     ⟨some 18, .pick (.t 15) (.c (.bool true)) (.t 17), none⟩])
   (.cond (.t 18)
    (.seq (.ops [
       ⟨some 4, .mv (.c (.bool true)), none⟩])
     .ret)
    .skip))
  (.seq (.ops [
     ⟨some 19, .mv (.t 0), none⟩,
     ⟨some 20, .call (.c (.fn F_sha_Sum [])) [.t 19], none⟩,
     ⟨some 21, .mv (.t 0), none⟩,
     ⟨some 22, .call (.c (.fn F_witanref04_Sum256 [])) [.t 21], none⟩,
     ⟨some 5, .alloc 1 32 [.int .u8 0], none⟩,
     ⟨some 6, .alloc 1 32 [.int .u8 0], none⟩,
     ⟨none, .store 32 (.t 5) (.t 20), none⟩,
     ⟨none, .store 32 (.t 6) (.t 22), none⟩])
   (.seq (.seq (.ops [
       ⟨some 7, .mv (.c (.int .i64 0)), none⟩])
     (.block 0
      (.loop
       (.seq (.seq (.ops [
           ⟨some 23, .mv (.t 7), none⟩,
           ⟨some 24, .mv (.t 1), none⟩,
           ⟨some 25, .bin .lss (.t 23) (.t 24), none⟩])
         (.cond (.t 25)
          .skip
          (.exit 0)))
        (.seq (.block 1
          (.draw [
            ⟨some 28, .slarr 32 1 (.t 5) none none none, none⟩,
            ⟨some 29, .call (.c (.fn F_sha_Sum [])) [.t 28], none⟩,
            ⟨some 30, .slarr 32 1 (.t 6) none none none, none⟩,
            ⟨some 31, .call (.c (.fn F_witanref04_Sum256 [])) [.t 30], none⟩,
            ⟨none, .store 32 (.t 5) (.t 29), none⟩,
            ⟨none, .store 32 (.t 6) (.t 31), none⟩] ⟨.shp, [], .look 0 (.look 2 (.run 1 true (.run 3 true (.run 4 true (.run 5 false .done)))))⟩))
         (.ops [
           ⟨some 26, .mv (.t 7), none⟩,
           ⟨some 27, .bin .add (.t 26) (.c (.int .i64 1)), none⟩,
           ⟨some 7, .mv (.t 27), none⟩]))))))
    (.seq (.draw [
       ⟨some 32, .slarr 32 1 (.t 5) none none none, none⟩,
       ⟨some 33, .slarr 32 1 (.t 6) none none none, none⟩,
       ⟨some 34, .call (.c (.fn F_witankeep_Bytes [])) [.t 32, .t 33], none⟩,
       ⟨some 35, .mv (.t 34), none⟩,
       ⟨some 36, .call (.c (.fn F_witanlaw04_wakes [])) [], (some (35, true))⟩,
       ⟨some 37, .pick (.t 35) (.t 36) (.c (.bool false)), none⟩,
       ⟨some 4, .mv (.t 37), none⟩] ⟨.all, [], .look 0 (.look 1 (.run 2 true (.look 3 (.run 4 true (.look 5 (.look 6 .done))))))⟩)
     .ret)))))⟩
theorem K_witanlaw04_ShaChains : chkFun DK Pg Try.f10 A_witanlaw04_ShaChains = true := by kernel_rfl
theorem B_witanlaw04_ShaChains {args : List AV} {m : Mem} {K : AV → Mem → Prop} (h : vcFun DK Pg A_witanlaw04_ShaChains args m K) : ACall Pg F_witanlaw04_ShaChains args m K := call_body mixed Try.func10 (by kernel_rfl) K_witanlaw04_ShaChains h

noncomputable def A_witanlaw04_ShaExact : AFun := ⟨2, 54, [.t 4],
 (.seq (.ops [
   ⟨some 4, .mv (.c (.bool false)), none⟩])
 (.seq (.seq (.ops [
     ⟨some 11, .mv (.t 0), none⟩,
     ⟨some 12, .len (.t 11), none⟩,
     ⟨some 13, .bin .gtr (.t 12) (.c (.int .i64 3000)), none⟩,
     ⟨some 14, .mv (.t 13), none⟩,
     ⟨some 15, .mv (.t 1), (some (14, false))⟩,
     ⟨some 16, .len (.t 15), (some (14, false))⟩,
     ⟨some 17, .bin .gtr (.t 16) (.c (.int .i64 3000)), (some (14, false))⟩,
     ⟨some 18, .pick (.t 14) (.c (.bool true)) (.t 17), none⟩])
   (.cond (.t 18)
    (.seq (.ops [
       ⟨some 4, .mv (.c (.bool true)), none⟩])
     .ret)
    .skip))
  (.seq (.ops [
     ⟨some 19, .mv (.t 0), none⟩,
     ⟨some 20, .call (.c (.fn F_witankeep_Twin [])) [.t 19], none⟩,
     ⟨some 21, .mv (.t 1), none⟩,
     ⟨some 22, .call (.c (.fn F_witankeep_Twin [])) [.t 21], none⟩,
     ⟨some 5, .mv (.t 20), none⟩,
     ⟨some 6, .mv (.t 22), none⟩])
   (.seq (.ops [
      ⟨some 23, .mv (.t 6), none⟩,
      ⟨some 24, .call (.c (.fn F_sha_Sum [])) [.t 23], none⟩,
      ⟨some 25, .mv (.t 1), none⟩,
      ⟨some 26, .call (.c (.fn F_witanref04_Sum256 [])) [.t 25], none⟩,
      ⟨some 7, .alloc 1 32 [.int .u8 0], none⟩,
      ⟨some 8, .alloc 1 32 [.int .u8 0], none⟩,
      ⟨none, .store 32 (.t 7) (.t 24), none⟩,
      ⟨none, .store 32 (.t 8) (.t 26), none⟩])
    (.seq (.ops [
       ⟨some 27, .mv (.t 5), none⟩,
       ⟨some 28, .mv (.t 6), none⟩,
       ⟨some 29, .call (.c (.fn F_sha_Mac [])) [.t 27, .t 28], none⟩,
       ⟨some 30, .mv (.t 0), none⟩,
       ⟨some 31, .mv (.t 1), none⟩,
       ⟨some 32, .call (.c (.fn F_witanref04_Mac [])) [.t 30, .t 31], none⟩,
       ⟨some 9, .alloc 1 32 [.int .u8 0], none⟩,
       ⟨some 10, .alloc 1 32 [.int .u8 0], none⟩,
       ⟨none, .store 32 (.t 9) (.t 29), none⟩,
       ⟨none, .store 32 (.t 10) (.t 32), none⟩])
     (.seq (.draw [
        ⟨some 33, .slarr 32 1 (.t 7) none none none, none⟩,
        ⟨some 34, .slarr 32 1 (.t 8) none none none, none⟩,
        ⟨some 35, .call (.c (.fn F_witankeep_Bytes [])) [.t 33, .t 34], none⟩,
        ⟨some 36, .mv (.t 35), none⟩,
        ⟨some 37, .slarr 32 1 (.t 9) none none none, (some (36, true))⟩,
        ⟨some 38, .slarr 32 1 (.t 10) none none none, (some (36, true))⟩,
        ⟨some 39, .call (.c (.fn F_witankeep_Bytes [])) [.t 37, .t 38], (some (36, true))⟩,
        ⟨some 40, .pick (.t 36) (.t 39) (.c (.bool false)), none⟩,
        ⟨some 41, .mv (.t 40), none⟩,
        ⟨some 42, .mv (.t 5), (some (41, true))⟩,
        ⟨some 43, .mv (.t 0), (some (41, true))⟩,
        ⟨some 44, .call (.c (.fn F_witankeep_Bytes [])) [.t 42, .t 43], (some (41, true))⟩,
        ⟨some 45, .pick (.t 41) (.t 44) (.c (.bool false)), none⟩,
        ⟨some 46, .mv (.t 45), none⟩,
        ⟨some 47, .mv (.t 6), (some (46, true))⟩,
        ⟨some 48, .mv (.t 1), (some (46, true))⟩,
        ⟨some 49, .call (.c (.fn F_witankeep_Bytes [])) [.t 47, .t 48], (some (46, true))⟩,
        ⟨some 50, .pick (.t 46) (.t 49) (.c (.bool false)), none⟩,
        ⟨some 51, .mv (.t 50), none⟩,
        ⟨some 52, .call (.c (.fn F_witanlaw04_wakes [])) [], (some (51, true))⟩,
        ⟨some 53, .pick (.t 51) (.t 52) (.c (.bool false)), none⟩,
        ⟨some 4, .mv (.t 53), none⟩] ⟨.all, [], .look 0 (.look 1 (.run 2 true (.look 3 (.look 4 (.look 5 (.run 6 true (.look 7 (.look 8 (.look 9 (.look 10 (.run 11 true (.look 12 (.look 13 (.look 14 (.look 15 (.run 16 true (.look 17 (.look 18 (.run 19 true (.look 20 (.look 21 .done)))))))))))))))))))))⟩)
      .ret))))))⟩
theorem K_witanlaw04_ShaExact : chkFun DK Pg Try.f11 A_witanlaw04_ShaExact = true := by kernel_rfl
theorem B_witanlaw04_ShaExact {args : List AV} {m : Mem} {K : AV → Mem → Prop} (h : vcFun DK Pg A_witanlaw04_ShaExact args m K) : ACall Pg F_witanlaw04_ShaExact args m K := call_body mixed Try.func11 (by kernel_rfl) K_witanlaw04_ShaExact h

noncomputable def A_witanlaw04_ShaKeys : AFun := ⟨3, 66, [.t 6],
 (.seq (.ops [
   ⟨some 6, .mv (.c (.bool false)), none⟩])
 (.seq (.seq (.ops [
     ⟨some 13, .mv (.t 0), none⟩,
     ⟨some 14, .len (.t 13), none⟩,
     ⟨some 15, .bin .gtr (.t 14) (.c (.int .i64 3000)), none⟩,
     ⟨some 16, .mv (.t 15), none⟩,
     ⟨some 17, .mv (.t 1), (some (16, false))⟩,
     ⟨some 18, .len (.t 17), (some (16, false))⟩,
     ⟨some 19, .bin .gtr (.t 18) (.c (.int .i64 3000)), (some (16, false))⟩,
     ⟨some 20, .pick (.t 16) (.c (.bool true)) (.t 19), none⟩,
     ⟨some 21, .mv (.t 20), none⟩,
     ⟨some 22, .mv (.t 2), (some (21, false))⟩,
     ⟨some 23, .bin .lss (.t 22) (.c (.int .i64 0)), (some (21, false))⟩,
     ⟨some 24, .pick (.t 21) (.c (.bool true)) (.t 23), none⟩])
   (.cond (.t 24)
    (.seq (.ops [
       ⟨some 6, .mv (.c (.bool true)), none⟩])
     .ret)
    .skip))
  (.seq (.ops [
     ⟨some 25, .mv (.t 0), none⟩,
     ⟨some 26, .mv (.t 1), none⟩,
     ⟨some 27, .call (.c (.fn F_sha_Mac [])) [.t 25, .t 26], none⟩,
     ⟨some 7, .alloc 1 32 [.int .u8 0], none⟩,
     ⟨none, .store 32 (.t 7) (.t 27), none⟩])
   (.seq (.seq (.ops [
       ⟨some 28, .mv (.t 0), none⟩,
       ⟨some 29, .len (.t 28), none⟩,
       ⟨some 30, .bin .gtr (.t 29) (.c (.int .i64 64)), none⟩])
     (.cond (.t 30)
      (.seq (.ops [
         ⟨some 31, .mv (.t 0), none⟩,
         ⟨some 32, .call (.c (.fn F_sha_Sum [])) [.t 31], none⟩,
         ⟨some 8, .alloc 1 32 [.int .u8 0], none⟩,
         ⟨none, .store 32 (.t 8) (.t 32), none⟩])
       (.seq (.ops [
          ⟨some 33, .slarr 32 1 (.t 8) none none none, none⟩,
          ⟨some 34, .mv (.t 1), none⟩,
          ⟨some 35, .call (.c (.fn F_sha_Mac [])) [.t 33, .t 34], none⟩,
          ⟨some 9, .alloc 1 32 [.int .u8 0], none⟩,
          ⟨none, .store 32 (.t 9) (.t 35), none⟩])
        (.seq (.draw [
           ⟨some 36, .slarr 32 1 (.t 7) none none none, none⟩,
           ⟨some 37, .slarr 32 1 (.t 9) none none none, none⟩,
           ⟨some 38, .call (.c (.fn F_witankeep_Bytes [])) [.t 36, .t 37], none⟩,
           ⟨some 39, .mv (.t 38), none⟩,
           ⟨some 40, .call (.c (.fn F_witanlaw04_wakes [])) [], (some (39, true))⟩,
           ⟨some 41, .pick (.t 39) (.t 40) (.c (.bool false)), none⟩,
           ⟨some 6, .mv (.t 41), none⟩] ⟨.all, [], .look 0 (.look 1 (.run 2 true (.look 3 (.run 4 true (.look 5 (.look 6 .done))))))⟩)
         .ret)))
      .skip))
    (.seq (.ops [
       ⟨some 42, .mv (.t 0), none⟩,
       ⟨some 43, .call (.c (.fn F_witankeep_Twin [])) [.t 42], none⟩,
       ⟨some 10, .mv (.t 43), none⟩])
     (.seq (.seq (.ops [
         ⟨some 11, .mv (.c (.int .i64 0)), none⟩])
       (.block 0
        (.loop
         (.seq (.seq (.ops [
             ⟨some 44, .mv (.t 11), none⟩,
             ⟨some 45, .mv (.t 2), none⟩,
             ⟨some 46, .bin .lss (.t 44) (.t 45), none⟩,
             ⟨some 47, .mv (.t 46), none⟩,
             ⟨some 48, .mv (.t 10), (some (47, true))⟩,
             ⟨some 49, .len (.t 48), (some (47, true))⟩,
             ⟨some 50, .bin .lss (.t 49) (.c (.int .i64 64)), (some (47, true))⟩,
             ⟨some 51, .pick (.t 47) (.t 50) (.c (.bool false)), none⟩])
           (.cond (.t 51)
            .skip
            (.exit 0)))
          (.seq (.block 1
            (.ops [
              ⟨some 54, .mv (.t 10), none⟩,
              ⟨some 55, .bsl 1 1 [.int .u8 0] [(0, 1, .c (.int .u8 0))], none⟩,
              ⟨some 56, .app 1 1 (.t 54) (.t 55), none⟩,
              ⟨some 10, .mv (.t 56), none⟩]))
           (.ops [
             ⟨some 52, .mv (.t 11), none⟩,
             ⟨some 53, .bin .add (.t 52) (.c (.int .i64 1)), none⟩,
             ⟨some 11, .mv (.t 53), none⟩]))))))
      (.seq (.ops [
         ⟨some 57, .mv (.t 10), none⟩,
         ⟨some 58, .mv (.t 1), none⟩,
         ⟨some 59, .call (.c (.fn F_sha_Mac [])) [.t 57, .t 58], none⟩,
         ⟨some 12, .alloc 1 32 [.int .u8 0], none⟩,
         ⟨none, .store 32 (.t 12) (.t 59), none⟩])
       (.seq (.draw [
          ⟨some 60, .slarr 32 1 (.t 7) none none none, none⟩,
          ⟨some 61, .slarr 32 1 (.t 12) none none none, none⟩,
          ⟨some 62, .call (.c (.fn F_witankeep_Bytes [])) [.t 60, .t 61], none⟩,
          ⟨some 63, .mv (.t 62), none⟩,
          ⟨some 64, .call (.c (.fn F_witanlaw04_wakes [])) [], (some (63, true))⟩,
          ⟨some 65, .pick (.t 63) (.t 64) (.c (.bool false)), none⟩,
          ⟨some 6, .mv (.t 65), none⟩] ⟨.all, [], .look 0 (.look 1 (.run 2 true (.look 3 (.run 4 true (.look 5 (.look 6 .done))))))⟩)
        .ret))))))))⟩
theorem K_witanlaw04_ShaKeys : chkFun DK Pg Try.f12 A_witanlaw04_ShaKeys = true := by kernel_rfl
theorem B_witanlaw04_ShaKeys {args : List AV} {m : Mem} {K : AV → Mem → Prop} (h : vcFun DK Pg A_witanlaw04_ShaKeys args m K) : ACall Pg F_witanlaw04_ShaKeys args m K := call_body mixed Try.func12 (by kernel_rfl) K_witanlaw04_ShaKeys h

noncomputable def A_witanlaw04_ShaParts : AFun := ⟨2, 64, [.t 4],
 (.seq (.ops [
   ⟨some 4, .mv (.c (.bool false)), none⟩])
 (.seq (.seq (.ops [
     ⟨some 11, .mv (.t 0), none⟩,
     ⟨some 12, .len (.t 11), none⟩,
     ⟨some 13, .bin .gtr (.t 12) (.c (.int .i64 64)), none⟩,
     ⟨some 14, .mv (.t 13), none⟩,
     ⟨some 15, .mv (.t 1), (some (14, false))⟩,
     ⟨some 16, .len (.t 15), (some (14, false))⟩,
     ⟨some 17, .bin .gtr (.t 16) (.c (.int .i64 3000)), (some (14, false))⟩,
     ⟨some 18, .pick (.t 14) (.c (.bool true)) (.t 17), none⟩])
   (.cond (.t 18)
    (.seq (.ops [
       ⟨some 4, .mv (.c (.bool true)), none⟩])
     .ret)
    .skip))
  (.seq (.ops [
     ⟨some 5, .alloc 1 64 [.int .u8 0], none⟩,
     ⟨some 6, .alloc 1 64 [.int .u8 0], none⟩])
   (.seq (.seq (.ops [
       ⟨some 7, .mv (.c (.int .i64 0)), none⟩])
     (.block 0
      (.loop
       (.seq (.seq (.ops [
           ⟨some 19, .mv (.t 7), none⟩,
           ⟨some 20, .bin .lss (.t 19) (.c (.int .i64 64)), none⟩])
         (.cond (.t 20)
          .skip
          (.exit 0)))
        (.seq (.block 1
          (.seq (.ops [
             ⟨some 23, .mv (.t 7), none⟩,
             ⟨some 24, .mv (.t 7), none⟩,
             ⟨some 25, .idxP 64 1 (.t 5) (.t 23), none⟩,
             ⟨none, .store 1 (.t 25) (.c (.int .u8 54)), none⟩,
             ⟨some 26, .idxP 64 1 (.t 6) (.t 24), none⟩,
             ⟨none, .store 1 (.t 26) (.c (.int .u8 92)), none⟩])
           (.seq (.ops [
              ⟨some 27, .mv (.t 7), none⟩,
              ⟨some 28, .mv (.t 0), none⟩,
              ⟨some 29, .len (.t 28), none⟩,
              ⟨some 30, .bin .lss (.t 27) (.t 29), none⟩])
            (.cond (.t 30)
             (.draw [
               ⟨some 31, .mv (.t 7), none⟩,
               ⟨some 32, .mv (.t 7), none⟩,
               ⟨some 33, .mv (.t 0), none⟩,
               ⟨some 34, .mv (.t 7), none⟩,
               ⟨some 35, .idxA 1 (.t 33) (.t 34), none⟩,
               ⟨some 36, .load 1 false (.t 35), none⟩,
               ⟨some 37, .bin .xor (.t 36) (.c (.int .u8 54)), none⟩,
               ⟨some 38, .mv (.t 0), none⟩,
               ⟨some 39, .mv (.t 7), none⟩,
               ⟨some 40, .idxA 1 (.t 38) (.t 39), none⟩,
               ⟨some 41, .load 1 false (.t 40), none⟩,
               ⟨some 42, .bin .xor (.t 41) (.c (.int .u8 92)), none⟩,
               ⟨some 43, .idxP 64 1 (.t 5) (.t 31), none⟩,
               ⟨none, .store 1 (.t 43) (.t 37), none⟩,
               ⟨some 44, .idxP 64 1 (.t 6) (.t 32), none⟩,
               ⟨none, .store 1 (.t 44) (.t 42), none⟩] ⟨.shp, [], .look 0 (.look 1 (.look 2 (.look 3 (.look 4 (.look 5 (.look 6 (.look 7 (.look 8 (.look 9 (.look 10 (.look 11 (.look 12 (.run 13 true (.look 14 (.run 15 false .done)))))))))))))))⟩)
             .skip))))
         (.ops [
           ⟨some 21, .mv (.t 7), none⟩,
           ⟨some 22, .bin .add (.t 21) (.c (.int .i64 1)), none⟩,
           ⟨some 7, .mv (.t 22), none⟩]))))))
    (.seq (.ops [
       ⟨some 45, .slarr 64 1 (.t 5) none none none, none⟩,
       ⟨some 46, .call (.c (.fn F_witankeep_Twin [])) [.t 45], none⟩,
       ⟨some 47, .mv (.t 1), none⟩,
       ⟨some 48, .app 1 1 (.t 46) (.t 47), none⟩,
       ⟨some 49, .call (.c (.fn F_sha_Sum [])) [.t 48], none⟩,
       ⟨some 8, .alloc 1 32 [.int .u8 0], none⟩,
       ⟨none, .store 32 (.t 8) (.t 49), none⟩])
     (.seq (.draw [
        ⟨some 50, .slarr 64 1 (.t 6) none none none, none⟩,
        ⟨some 51, .call (.c (.fn F_witankeep_Twin [])) [.t 50], none⟩,
        ⟨some 52, .slarr 32 1 (.t 8) none none none, none⟩,
        ⟨some 53, .app 1 1 (.t 51) (.t 52), none⟩,
        ⟨some 54, .call (.c (.fn F_sha_Sum [])) [.t 53], none⟩,
        ⟨some 9, .alloc 1 32 [.int .u8 0], none⟩,
        ⟨none, .store 32 (.t 9) (.t 54), none⟩] ⟨.all, [(5, some 6)], .look 0 (.look 2 (.run 1 true (.run 3 true (.run 4 true (.pre 5 6 (.fill .done))))))⟩)
      (.seq (.ops [
         ⟨some 55, .mv (.t 0), none⟩,
         ⟨some 56, .mv (.t 1), none⟩,
         ⟨some 57, .call (.c (.fn F_sha_Mac [])) [.t 55, .t 56], none⟩,
         ⟨some 10, .alloc 1 32 [.int .u8 0], none⟩,
         ⟨none, .store 32 (.t 10) (.t 57), none⟩])
       (.seq (.draw [
          ⟨some 58, .slarr 32 1 (.t 9) none none none, none⟩,
          ⟨some 59, .slarr 32 1 (.t 10) none none none, none⟩,
          ⟨some 60, .call (.c (.fn F_witankeep_Bytes [])) [.t 58, .t 59], none⟩,
          ⟨some 61, .mv (.t 60), none⟩,
          ⟨some 62, .call (.c (.fn F_witanlaw04_wakes [])) [], (some (61, true))⟩,
          ⟨some 63, .pick (.t 61) (.t 62) (.c (.bool false)), none⟩,
          ⟨some 4, .mv (.t 63), none⟩] ⟨.all, [], .look 0 (.look 1 (.run 2 true (.look 3 (.run 4 true (.look 5 (.look 6 .done))))))⟩)
        .ret))))))))⟩
theorem K_witanlaw04_ShaParts : chkFun DK Pg Try.f13 A_witanlaw04_ShaParts = true := by kernel_rfl
theorem B_witanlaw04_ShaParts {args : List AV} {m : Mem} {K : AV → Mem → Prop} (h : vcFun DK Pg A_witanlaw04_ShaParts args m K) : ACall Pg F_witanlaw04_ShaParts args m K := call_body mixed Try.func13 (by kernel_rfl) K_witanlaw04_ShaParts h

noncomputable def A_judge_Place : AFun := ⟨2, 28, [.t 4, .t 5],
 (.seq (.ops [
   ⟨some 4, .mv (.c (.int .i64 0)), none⟩,
   ⟨some 5, .mv (.c (.int .i64 0)), none⟩])
 (.seq (.block 0
   (.seq (.ops [
      ⟨some 7, .mv (.t 0), none⟩,
      ⟨some 8, .call (.c (.fn F_judge_dealer [])) [.t 7], none⟩,
      ⟨some 9, .un .not (.t 8), none⟩,
      ⟨some 10, .mv (.t 9), none⟩,
      ⟨some 11, .mv (.t 1), (some (10, false))⟩,
      ⟨some 12, .call (.c (.fn F_judge_dealer [])) [.t 11], (some (10, false))⟩,
      ⟨some 13, .un .not (.t 12), (some (10, false))⟩,
      ⟨some 14, .pick (.t 10) (.c (.bool true)) (.t 13), none⟩,
      ⟨some 15, .mv (.t 14), none⟩,
      ⟨some 16, .mv (.t 0), (some (15, false))⟩,
      ⟨some 17, .mv (.t 1), (some (15, false))⟩,
      ⟨some 18, .bin .eql (.t 16) (.t 17), (some (15, false))⟩,
      ⟨some 19, .pick (.t 15) (.c (.bool true)) (.t 18), none⟩,
      ⟨some 6, .mv (.t 19), none⟩])
    (.cond (.t 6)
     (.seq (.ops [
        ⟨some 4, .mv (.c (.int .i64 0)), none⟩,
        ⟨some 5, .mv (.c (.int .i64 1)), none⟩])
      .ret)
     (.seq (.ops [
        ⟨some 21, .mv (.t 1), none⟩,
        ⟨some 22, .mv (.t 0), none⟩,
        ⟨some 23, .bin .lss (.t 21) (.t 22), none⟩,
        ⟨some 20, .mv (.t 23), none⟩])
      (.cond (.t 20)
       (.seq (.ops [
          ⟨some 24, .mv (.t 1), none⟩,
          ⟨some 25, .bin .sub (.t 24) (.c (.int .i64 1)), none⟩,
          ⟨some 4, .mv (.t 25), none⟩,
          ⟨some 5, .mv (.c (.int .i64 0)), none⟩])
        .ret)
       .skip)))))
  (.seq (.ops [
     ⟨some 26, .mv (.t 1), none⟩,
     ⟨some 27, .bin .sub (.t 26) (.c (.int .i64 2)), none⟩,
     ⟨some 4, .mv (.t 27), none⟩,
     ⟨some 5, .mv (.c (.int .i64 0)), none⟩])
   .ret)))⟩
theorem K_judge_Place : chkFun DK Pg Try.f14 A_judge_Place = true := by kernel_rfl
theorem B_judge_Place {args : List AV} {m : Mem} {K : AV → Mem → Prop} (h : vcFun DK Pg A_judge_Place args m K) : ACall Pg F_judge_Place args m K := call_body mixed Try.func14 (by kernel_rfl) K_judge_Place h

noncomputable def A_witanlaw14_wakes : AFun := ⟨0, 37, [.t 0],
 (.seq (.ops [
   ⟨some 0, .mv (.c (.bool false)), none⟩])
 (.seq (.ops [
    ⟨some 8, .call (.c (.fn F_judge_Place [])) [.c (.int .i64 3), .c (.int .i64 1)], none⟩,
    ⟨some 7, .mv (.t 8), none⟩,
    ⟨some 9, .ext (.t 7) 0, none⟩,
    ⟨some 10, .ext (.t 7) 1, none⟩,
    ⟨some 1, .mv (.t 9), none⟩,
    ⟨some 2, .mv (.t 10), none⟩])
  (.seq (.ops [
     ⟨some 12, .call (.c (.fn F_judge_Place [])) [.c (.int .i64 1), .c (.int .i64 3)], none⟩,
     ⟨some 11, .mv (.t 12), none⟩,
     ⟨some 13, .ext (.t 11) 0, none⟩,
     ⟨some 14, .ext (.t 11) 1, none⟩,
     ⟨some 3, .mv (.t 13), none⟩,
     ⟨some 4, .mv (.t 14), none⟩])
   (.seq (.ops [
      ⟨some 16, .call (.c (.fn F_judge_Place [])) [.c (.int .i64 2), .c (.int .i64 2)], none⟩,
      ⟨some 15, .mv (.t 16), none⟩,
      ⟨some 17, .ext (.t 15) 0, none⟩,
      ⟨some 18, .ext (.t 15) 1, none⟩,
      ⟨some 5, .mv (.t 17), none⟩,
      ⟨some 6, .mv (.t 18), none⟩])
    (.seq (.ops [
       ⟨some 19, .mv (.t 2), none⟩,
       ⟨some 20, .bin .eql (.t 19) (.c (.int .i64 0)), none⟩,
       ⟨some 21, .mv (.t 20), none⟩,
       ⟨some 22, .mv (.t 4), (some (21, true))⟩,
       ⟨some 23, .bin .eql (.t 22) (.c (.int .i64 0)), (some (21, true))⟩,
       ⟨some 24, .pick (.t 21) (.t 23) (.c (.bool false)), none⟩,
       ⟨some 25, .mv (.t 24), none⟩,
       ⟨some 26, .mv (.t 6), (some (25, true))⟩,
       ⟨some 27, .bin .eql (.t 26) (.c (.int .i64 1)), (some (25, true))⟩,
       ⟨some 28, .pick (.t 25) (.t 27) (.c (.bool false)), none⟩,
       ⟨some 29, .mv (.t 28), none⟩,
       ⟨some 30, .mv (.t 1), (some (29, true))⟩,
       ⟨some 31, .bin .eql (.t 30) (.c (.int .i64 0)), (some (29, true))⟩,
       ⟨some 32, .pick (.t 29) (.t 31) (.c (.bool false)), none⟩,
       ⟨some 33, .mv (.t 32), none⟩,
       ⟨some 34, .mv (.t 3), (some (33, true))⟩,
       ⟨some 35, .bin .eql (.t 34) (.c (.int .i64 1)), (some (33, true))⟩,
       ⟨some 36, .pick (.t 33) (.t 35) (.c (.bool false)), none⟩,
       ⟨some 0, .mv (.t 36), none⟩])
     .ret)))))⟩
theorem K_witanlaw14_wakes : chkFun DK Pg Try.f15 A_witanlaw14_wakes = true := by kernel_rfl
theorem B_witanlaw14_wakes {args : List AV} {m : Mem} {K : AV → Mem → Prop} (h : vcFun DK Pg A_witanlaw14_wakes args m K) : ACall Pg F_witanlaw14_wakes args m K := call_body mixed Try.func15 (by kernel_rfl) K_witanlaw14_wakes h

noncomputable def A_bin_Put : AFun := ⟨3, 43, [.t 6, .t 7],
 (.seq (.ops [
   ⟨some 6, .mv (.c (.nils)), none⟩,
   ⟨some 7, .mv (.c (.int .i64 0)), none⟩])
 (.seq (.seq (.ops [
     ⟨some 10, .mv (.t 2), none⟩,
     ⟨some 11, .bin .lss (.t 10) (.c (.int .i64 1)), none⟩,
     ⟨some 12, .mv (.t 11), none⟩,
     ⟨some 13, .mv (.t 2), (some (12, false))⟩,
     ⟨some 14, .bin .gtr (.t 13) (.c (.int .i64 7)), (some (12, false))⟩,
     ⟨some 15, .pick (.t 12) (.c (.bool true)) (.t 14), none⟩,
     ⟨some 16, .mv (.t 15), none⟩,
     ⟨some 17, .mv (.t 1), (some (16, false))⟩,
     ⟨some 18, .bin .lss (.t 17) (.c (.int .i64 0)), (some (16, false))⟩,
     ⟨some 19, .pick (.t 16) (.c (.bool true)) (.t 18), none⟩,
     ⟨some 20, .mv (.t 19), none⟩,
     ⟨some 21, .mv (.t 1), (some (20, false))⟩,
     ⟨some 22, .mv (.t 2), (some (20, false))⟩,
     ⟨some 23, .call (.c (.fn F_bin_room [])) [.t 22], (some (20, false))⟩,
     ⟨some 24, .bin .geq (.t 21) (.t 23), (some (20, false))⟩,
     ⟨some 25, .pick (.t 20) (.c (.bool true)) (.t 24), none⟩])
   (.cond (.t 25)
    (.seq (.ops [
       ⟨some 6, .mv (.c (.nils)), none⟩,
       ⟨some 7, .mv (.c (.int .i64 1)), none⟩])
     .ret)
    .skip))
  (.seq (.ops [
     ⟨some 26, .mv (.t 0), none⟩,
     ⟨some 27, .call (.c (.fn F_slices_Clone_Sbyte_byte [])) [.t 26], none⟩,
     ⟨some 8, .mv (.t 27), none⟩])
   (.seq (.seq (.ops [
       ⟨some 28, .mv (.t 2), none⟩,
       ⟨some 29, .bin .sub (.t 28) (.c (.int .i64 1)), none⟩,
       ⟨some 9, .mv (.t 29), none⟩])
     (.block 0
      (.loop
       (.seq (.seq (.ops [
           ⟨some 30, .mv (.t 9), none⟩,
           ⟨some 31, .bin .geq (.t 30) (.c (.int .i64 0)), none⟩])
         (.cond (.t 31)
          .skip
          (.exit 0)))
        (.seq (.block 1
          (.ops [
            ⟨some 34, .mv (.t 8), none⟩,
            ⟨some 35, .mv (.t 1), none⟩,
            ⟨some 36, .mv (.t 9), none⟩,
            ⟨some 37, .bin .mul (.c (.int .i64 8)) (.t 36), none⟩,
            ⟨some 38, .bin .shr (.t 35) (.t 37), none⟩,
            ⟨some 39, .conv .u8 (.t 38), none⟩,
            ⟨some 40, .bsl 1 1 [.int .u8 0] [(0, 1, .t 39)], none⟩,
            ⟨some 41, .app 1 1 (.t 34) (.t 40), none⟩,
            ⟨some 8, .mv (.t 41), none⟩]))
         (.ops [
           ⟨some 32, .mv (.t 9), none⟩,
           ⟨some 33, .bin .sub (.t 32) (.c (.int .i64 1)), none⟩,
           ⟨some 9, .mv (.t 33), none⟩]))))))
    (.seq (.ops [
       ⟨some 42, .mv (.t 8), none⟩,
       ⟨some 6, .mv (.t 42), none⟩,
       ⟨some 7, .mv (.c (.int .i64 0)), none⟩])
     .ret)))))⟩
theorem K_bin_Put : chkFun DK Pg Try.f16 A_bin_Put = true := by kernel_rfl
theorem B_bin_Put {args : List AV} {m : Mem} {K : AV → Mem → Prop} (h : vcFun DK Pg A_bin_Put args m K) : ACall Pg F_bin_Put args m K := call_body mixed Try.func16 (by kernel_rfl) K_bin_Put h

noncomputable def A_witanlaw10_wakes : AFun := ⟨0, 47, [.t 0],
 (.seq (.ops [
   ⟨some 0, .mv (.c (.bool false)), none⟩])
 (.seq (.ops [
    ⟨some 7, .call (.c (.fn F_bin_Put [])) [.c (.nils), .c (.int .i64 258), .c (.int .i64 2)], none⟩,
    ⟨some 6, .mv (.t 7), none⟩,
    ⟨some 8, .ext (.t 6) 0, none⟩,
    ⟨some 9, .ext (.t 6) 1, none⟩,
    ⟨some 1, .mv (.t 8), none⟩,
    ⟨some 2, .mv (.t 9), none⟩])
  (.seq (.ops [
     ⟨some 11, .mv (.t 1), none⟩,
     ⟨some 12, .call (.c (.fn F_bin_Get [])) [.t 11, .c (.int .i64 0), .c (.int .i64 2)], none⟩,
     ⟨some 10, .mv (.t 12), none⟩,
     ⟨some 13, .ext (.t 10) 0, none⟩,
     ⟨some 14, .ext (.t 10) 1, none⟩,
     ⟨some 15, .ext (.t 10) 2, none⟩,
     ⟨some 3, .mv (.t 13), none⟩,
     ⟨some 4, .mv (.t 14), none⟩,
     ⟨some 5, .mv (.t 15), none⟩])
   (.seq (.ops [
      ⟨some 16, .mv (.t 2), none⟩,
      ⟨some 17, .bin .eql (.t 16) (.c (.int .i64 0)), none⟩,
      ⟨some 18, .mv (.t 17), none⟩,
      ⟨some 19, .mv (.t 5), (some (18, true))⟩,
      ⟨some 20, .bin .eql (.t 19) (.c (.int .i64 0)), (some (18, true))⟩,
      ⟨some 21, .pick (.t 18) (.t 20) (.c (.bool false)), none⟩,
      ⟨some 22, .mv (.t 21), none⟩,
      ⟨some 23, .mv (.t 1), (some (22, true))⟩,
      ⟨some 24, .len (.t 23), (some (22, true))⟩,
      ⟨some 25, .bin .eql (.t 24) (.c (.int .i64 2)), (some (22, true))⟩,
      ⟨some 26, .pick (.t 22) (.t 25) (.c (.bool false)), none⟩,
      ⟨some 27, .mv (.t 26), none⟩,
      ⟨some 28, .mv (.t 1), (some (27, true))⟩,
      ⟨some 29, .idxA 1 (.t 28) (.c (.int .i64 0)), (some (27, true))⟩,
      ⟨some 30, .load 1 false (.t 29), (some (27, true))⟩,
      ⟨some 31, .bin .eql (.t 30) (.c (.int .u8 1)), (some (27, true))⟩,
      ⟨some 32, .pick (.t 27) (.t 31) (.c (.bool false)), none⟩,
      ⟨some 33, .mv (.t 32), none⟩,
      ⟨some 34, .mv (.t 1), (some (33, true))⟩,
      ⟨some 35, .idxA 1 (.t 34) (.c (.int .i64 1)), (some (33, true))⟩,
      ⟨some 36, .load 1 false (.t 35), (some (33, true))⟩,
      ⟨some 37, .bin .eql (.t 36) (.c (.int .u8 2)), (some (33, true))⟩,
      ⟨some 38, .pick (.t 33) (.t 37) (.c (.bool false)), none⟩,
      ⟨some 39, .mv (.t 38), none⟩,
      ⟨some 40, .mv (.t 3), (some (39, true))⟩,
      ⟨some 41, .bin .eql (.t 40) (.c (.int .i64 258)), (some (39, true))⟩,
      ⟨some 42, .pick (.t 39) (.t 41) (.c (.bool false)), none⟩,
      ⟨some 43, .mv (.t 42), none⟩,
      ⟨some 44, .mv (.t 4), (some (43, true))⟩,
      ⟨some 45, .bin .eql (.t 44) (.c (.int .i64 2)), (some (43, true))⟩,
      ⟨some 46, .pick (.t 43) (.t 45) (.c (.bool false)), none⟩,
      ⟨some 0, .mv (.t 46), none⟩])
    .ret))))⟩
theorem K_witanlaw10_wakes : chkFun DK Pg Try.f17 A_witanlaw10_wakes = true := by kernel_rfl
theorem B_witanlaw10_wakes {args : List AV} {m : Mem} {K : AV → Mem → Prop} (h : vcFun DK Pg A_witanlaw10_wakes args m K) : ACall Pg F_witanlaw10_wakes args m K := call_body mixed Try.func17 (by kernel_rfl) K_witanlaw10_wakes h

noncomputable def A_witankeep_Twin : AFun := ⟨1, 7, [.t 2],
 (.seq (.ops [
   ⟨some 2, .mv (.c (.nils)), none⟩])
 (.seq (.ops [
    ⟨some 3, .mv (.c (.nils)), none⟩])
  (.seq (.ops [
     ⟨some 4, .mv (.t 3), none⟩,
     ⟨some 5, .mv (.t 0), none⟩,
     ⟨some 6, .app 1 1 (.t 4) (.t 5), none⟩,
     ⟨some 2, .mv (.t 6), none⟩])
   .ret)))⟩
theorem K_witankeep_Twin : chkFun DK Pg Try.f18 A_witankeep_Twin = true := by kernel_rfl
theorem B_witankeep_Twin {args : List AV} {m : Mem} {K : AV → Mem → Prop} (h : vcFun DK Pg A_witankeep_Twin args m K) : ACall Pg F_witankeep_Twin args m K := call_body mixed Try.func18 (by kernel_rfl) K_witankeep_Twin h

noncomputable def A_witanref10_Put : AFun := ⟨3, 46, [.t 6, .t 7],
 (.seq (.ops [
   ⟨some 6, .mv (.c (.nils)), none⟩,
   ⟨some 7, .mv (.c (.int .i64 0)), none⟩])
 (.seq (.seq (.ops [
     ⟨some 10, .mv (.t 2), none⟩,
     ⟨some 11, .bin .lss (.t 10) (.c (.int .i64 1)), none⟩,
     ⟨some 12, .mv (.t 11), none⟩,
     ⟨some 13, .mv (.t 2), (some (12, false))⟩,
     ⟨some 14, .bin .gtr (.t 13) (.c (.int .i64 7)), (some (12, false))⟩,
     ⟨some 15, .pick (.t 12) (.c (.bool true)) (.t 14), none⟩,
     ⟨some 16, .mv (.t 15), none⟩,
     ⟨some 17, .mv (.t 1), (some (16, false))⟩,
     ⟨some 18, .bin .lss (.t 17) (.c (.int .i64 0)), (some (16, false))⟩,
     ⟨some 19, .pick (.t 16) (.c (.bool true)) (.t 18), none⟩,
     ⟨some 20, .mv (.t 19), none⟩,
     ⟨some 21, .mv (.t 1), (some (20, false))⟩,
     ⟨some 22, .mv (.t 2), (some (20, false))⟩,
     ⟨some 23, .bin .mul (.c (.int .i64 8)) (.t 22), (some (20, false))⟩,
     ⟨some 24, .conv .u64 (.t 23), (some (20, false))⟩,
     ⟨some 25, .bin .shr (.t 21) (.t 24), (some (20, false))⟩,
     ⟨some 26, .bin .neq (.t 25) (.c (.int .i64 0)), (some (20, false))⟩,
     ⟨some 27, .pick (.t 20) (.c (.bool true)) (.t 26), none⟩])
   (.cond (.t 27)
    (.seq (.ops [
       ⟨some 6, .mv (.c (.nils)), none⟩,
       ⟨some 7, .mv (.c (.int .i64 1)), none⟩])
     .ret)
    .skip))
  (.seq (.ops [
     ⟨some 28, .mv (.t 0), none⟩,
     ⟨some 29, .call (.c (.fn F_witankeep_Twin [])) [.t 28], none⟩,
     ⟨some 8, .mv (.t 29), none⟩])
   (.seq (.seq (.ops [
       ⟨some 30, .mv (.t 2), none⟩,
       ⟨some 31, .bin .sub (.t 30) (.c (.int .i64 1)), none⟩,
       ⟨some 9, .mv (.t 31), none⟩])
     (.block 0
      (.loop
       (.seq (.seq (.ops [
           ⟨some 32, .mv (.t 9), none⟩,
           ⟨some 33, .bin .geq (.t 32) (.c (.int .i64 0)), none⟩])
         (.cond (.t 33)
          .skip
          (.exit 0)))
        (.seq (.block 1
          (.ops [
            ⟨some 36, .mv (.t 8), none⟩,
            ⟨some 37, .mv (.t 1), none⟩,
            ⟨some 38, .mv (.t 9), none⟩,
            ⟨some 39, .bin .mul (.c (.int .i64 8)) (.t 38), none⟩,
            ⟨some 40, .conv .u64 (.t 39), none⟩,
            ⟨some 41, .bin .shr (.t 37) (.t 40), none⟩,
            ⟨some 42, .conv .u8 (.t 41), none⟩,
            ⟨some 43, .bsl 1 1 [.int .u8 0] [(0, 1, .t 42)], none⟩,
            ⟨some 44, .app 1 1 (.t 36) (.t 43), none⟩,
            ⟨some 8, .mv (.t 44), none⟩]))
         (.ops [
           ⟨some 34, .mv (.t 9), none⟩,
           ⟨some 35, .bin .sub (.t 34) (.c (.int .i64 1)), none⟩,
           ⟨some 9, .mv (.t 35), none⟩]))))))
    (.seq (.ops [
       ⟨some 45, .mv (.t 8), none⟩,
       ⟨some 6, .mv (.t 45), none⟩,
       ⟨some 7, .mv (.c (.int .i64 0)), none⟩])
     .ret)))))⟩
theorem K_witanref10_Put : chkFun DK Pg Try.f19 A_witanref10_Put = true := by kernel_rfl
theorem B_witanref10_Put {args : List AV} {m : Mem} {K : AV → Mem → Prop} (h : vcFun DK Pg A_witanref10_Put args m K) : ACall Pg F_witanref10_Put args m K := call_body mixed Try.func19 (by kernel_rfl) K_witanref10_Put h

noncomputable def A_witankeep_Bytes : AFun := ⟨2, 26, [.t 4],
 (.seq (.ops [
   ⟨some 4, .mv (.c (.bool false)), none⟩])
 (.seq (.seq (.ops [
     ⟨some 6, .mv (.t 0), none⟩,
     ⟨some 7, .len (.t 6), none⟩,
     ⟨some 8, .mv (.t 1), none⟩,
     ⟨some 9, .len (.t 8), none⟩,
     ⟨some 10, .bin .neq (.t 7) (.t 9), none⟩])
   (.cond (.t 10)
    (.seq (.ops [
       ⟨some 4, .mv (.c (.bool false)), none⟩])
     .ret)
    .skip))
  (.seq (.seq (.ops [
      ⟨some 5, .mv (.c (.int .i64 0)), none⟩])
    (.block 0
     (.loop
      (.seq (.seq (.ops [
          ⟨some 11, .mv (.t 5), none⟩,
          ⟨some 12, .mv (.t 0), none⟩,
          ⟨some 13, .len (.t 12), none⟩,
          ⟨some 14, .bin .lss (.t 11) (.t 13), none⟩])
        (.cond (.t 14)
         .skip
         (.exit 0)))
       (.seq (.block 1
         (.seq (.draw [
            ⟨some 17, .mv (.t 0), none⟩,
            ⟨some 18, .mv (.t 5), none⟩,
            ⟨some 19, .idxA 1 (.t 17) (.t 18), none⟩,
            ⟨some 20, .load 1 false (.t 19), none⟩,
            ⟨some 21, .mv (.t 1), none⟩,
            ⟨some 22, .mv (.t 5), none⟩,
            ⟨some 23, .idxA 1 (.t 21) (.t 22), none⟩,
            ⟨some 24, .load 1 false (.t 23), none⟩,
            ⟨some 25, .bin .neq (.t 20) (.t 24), none⟩] ⟨.no, [], .flat⟩)
          (.cond (.t 25)
           (.seq (.ops [
              ⟨some 4, .mv (.c (.bool false)), none⟩])
            .ret)
           .skip)))
        (.ops [
          ⟨some 15, .mv (.t 5), none⟩,
          ⟨some 16, .bin .add (.t 15) (.c (.int .i64 1)), none⟩,
          ⟨some 5, .mv (.t 16), none⟩]))))))
   (.seq (.ops [
      ⟨some 4, .mv (.c (.bool true)), none⟩])
    .ret))))⟩
theorem K_witankeep_Bytes : chkFun DK Pg Try.f20 A_witankeep_Bytes = true := by kernel_rfl
theorem B_witankeep_Bytes {args : List AV} {m : Mem} {K : AV → Mem → Prop} (h : vcFun DK Pg A_witankeep_Bytes args m K) : ACall Pg F_witankeep_Bytes args m K := call_body mixed Try.func20 (by kernel_rfl) K_witankeep_Bytes h

noncomputable def A_witankeep_SpoilBytes : AFun := ⟨1, 17, [],
 (.seq (.ops [
   ⟨some 2, .mv (.c (.int .i64 0)), none⟩])
 (.block 0
  (.loop
   (.seq (.seq (.ops [
       ⟨some 3, .mv (.t 2), none⟩,
       ⟨some 4, .mv (.t 0), none⟩,
       ⟨some 5, .len (.t 4), none⟩,
       ⟨some 6, .bin .lss (.t 3) (.t 5), none⟩])
     (.cond (.t 6)
      .skip
      (.exit 0)))
    (.seq (.block 1
      (.ops [
        ⟨some 9, .mv (.t 0), none⟩,
        ⟨some 10, .mv (.t 2), none⟩,
        ⟨some 11, .mv (.t 0), none⟩,
        ⟨some 12, .mv (.t 2), none⟩,
        ⟨some 13, .idxA 1 (.t 11) (.t 12), none⟩,
        ⟨some 14, .load 1 false (.t 13), none⟩,
        ⟨some 15, .bin .add (.t 14) (.c (.int .u8 101)), none⟩,
        ⟨some 16, .idxA 1 (.t 9) (.t 10), none⟩,
        ⟨none, .store 1 (.t 16) (.t 15), none⟩]))
     (.ops [
       ⟨some 7, .mv (.t 2), none⟩,
       ⟨some 8, .bin .add (.t 7) (.c (.int .i64 1)), none⟩,
       ⟨some 2, .mv (.t 8), none⟩]))))))⟩
theorem K_witankeep_SpoilBytes : chkFun DK Pg Try.f21 A_witankeep_SpoilBytes = true := by kernel_rfl
theorem B_witankeep_SpoilBytes {args : List AV} {m : Mem} {K : AV → Mem → Prop} (h : vcFun DK Pg A_witankeep_SpoilBytes args m K) : ACall Pg F_witankeep_SpoilBytes args m K := call_body mixed Try.func21 (by kernel_rfl) K_witankeep_SpoilBytes h

noncomputable def A_bin_Get : AFun := ⟨3, 56, [.t 6, .t 7, .t 8],
 (.seq (.ops [
   ⟨some 6, .mv (.c (.int .i64 0)), none⟩,
   ⟨some 7, .mv (.c (.int .i64 0)), none⟩,
   ⟨some 8, .mv (.c (.int .i64 0)), none⟩])
 (.seq (.block 0
   (.seq (.ops [
      ⟨some 12, .mv (.t 2), none⟩,
      ⟨some 13, .bin .lss (.t 12) (.c (.int .i64 1)), none⟩,
      ⟨some 14, .mv (.t 13), none⟩,
      ⟨some 15, .mv (.t 2), (some (14, false))⟩,
      ⟨some 16, .bin .gtr (.t 15) (.c (.int .i64 7)), (some (14, false))⟩,
      ⟨some 17, .pick (.t 14) (.c (.bool true)) (.t 16), none⟩,
      ⟨some 18, .mv (.t 17), none⟩,
      ⟨some 19, .mv (.t 1), (some (18, false))⟩,
      ⟨some 20, .bin .lss (.t 19) (.c (.int .i64 0)), (some (18, false))⟩,
      ⟨some 21, .pick (.t 18) (.c (.bool true)) (.t 20), none⟩,
      ⟨some 22, .mv (.t 21), none⟩,
      ⟨some 23, .mv (.t 1), (some (22, false))⟩,
      ⟨some 24, .mv (.t 0), (some (22, false))⟩,
      ⟨some 25, .len (.t 24), (some (22, false))⟩,
      ⟨some 26, .bin .gtr (.t 23) (.t 25), (some (22, false))⟩,
      ⟨some 27, .pick (.t 22) (.c (.bool true)) (.t 26), none⟩,
      ⟨some 11, .mv (.t 27), none⟩])
    (.cond (.t 11)
     (.seq (.ops [
        ⟨some 6, .mv (.c (.int .i64 0)), none⟩,
        ⟨some 7, .mv (.c (.int .i64 0)), none⟩,
        ⟨some 8, .mv (.c (.int .i64 1)), none⟩])
      .ret)
     (.seq (.ops [
        ⟨some 29, .mv (.t 0), none⟩,
        ⟨some 30, .len (.t 29), none⟩,
        ⟨some 31, .mv (.t 1), none⟩,
        ⟨some 32, .bin .sub (.t 30) (.t 31), none⟩,
        ⟨some 33, .mv (.t 2), none⟩,
        ⟨some 34, .bin .lss (.t 32) (.t 33), none⟩,
        ⟨some 28, .mv (.t 34), none⟩])
      (.cond (.t 28)
       (.seq (.ops [
          ⟨some 6, .mv (.c (.int .i64 0)), none⟩,
          ⟨some 7, .mv (.c (.int .i64 0)), none⟩,
          ⟨some 8, .mv (.c (.int .i64 7)), none⟩])
        .ret)
       .skip)))))
  (.seq (.seq (.ops [
      ⟨some 35, .mv (.t 0), none⟩,
      ⟨some 36, .mv (.t 1), none⟩,
      ⟨some 37, .mv (.t 1), none⟩,
      ⟨some 38, .mv (.t 2), none⟩,
      ⟨some 39, .bin .add (.t 37) (.t 38), none⟩,
      ⟨some 40, .slice 1 (.t 35) (some (.t 36)) (some (.t 39)) none, none⟩,
      ⟨some 41, .len (.t 40), none⟩,
      ⟨some 42, .mv (.c (.int .i64 0)), none⟩])
    (.block 1
     (.loop
      (.seq (.ops [
         ⟨some 43, .bin .lss (.t 42) (.t 41), none⟩])
       (.seq (.cond (.t 43)
         .skip
         (.exit 1))
        (.seq (.block 2
          (.seq (.ops [
             ⟨some 44, .idxA 1 (.t 40) (.t 42), none⟩,
             ⟨some 45, .load 1 false (.t 44), none⟩,
             ⟨some 10, .mv (.t 45), none⟩])
           (.ops [
             ⟨some 46, .mv (.t 6), none⟩,
             ⟨some 47, .bin .shl (.t 46) (.c (.int .u64 8)), none⟩,
             ⟨some 48, .mv (.t 10), none⟩,
             ⟨some 49, .conv .i64 (.t 48), none⟩,
             ⟨some 50, .bin .or (.t 47) (.t 49), none⟩,
             ⟨some 6, .mv (.t 50), none⟩])))
         (.ops [
           ⟨some 51, .bin .add (.t 42) (.c (.int .i64 1)), none⟩,
           ⟨some 42, .mv (.t 51), none⟩])))))))
   (.seq (.ops [
      ⟨some 52, .mv (.t 6), none⟩,
      ⟨some 53, .mv (.t 1), none⟩,
      ⟨some 54, .mv (.t 2), none⟩,
      ⟨some 55, .bin .add (.t 53) (.t 54), none⟩,
      ⟨some 6, .mv (.t 52), none⟩,
      ⟨some 7, .mv (.t 55), none⟩,
      ⟨some 8, .mv (.c (.int .i64 0)), none⟩])
    .ret))))⟩
theorem K_bin_Get : chkFun DK Pg Try.f22 A_bin_Get = true := by kernel_rfl
theorem B_bin_Get {args : List AV} {m : Mem} {K : AV → Mem → Prop} (h : vcFun DK Pg A_bin_Get args m K) : ACall Pg F_bin_Get args m K := call_body mixed Try.func22 (by kernel_rfl) K_bin_Get h

noncomputable def A_witanref10_Get : AFun := ⟨3, 52, [.t 6, .t 7, .t 8],
 (.seq (.ops [
   ⟨some 6, .mv (.c (.int .i64 0)), none⟩,
   ⟨some 7, .mv (.c (.int .i64 0)), none⟩,
   ⟨some 8, .mv (.c (.int .i64 0)), none⟩])
 (.seq (.seq (.ops [
     ⟨some 11, .mv (.t 2), none⟩,
     ⟨some 12, .bin .lss (.t 11) (.c (.int .i64 1)), none⟩,
     ⟨some 13, .mv (.t 12), none⟩,
     ⟨some 14, .mv (.t 2), (some (13, false))⟩,
     ⟨some 15, .bin .gtr (.t 14) (.c (.int .i64 7)), (some (13, false))⟩,
     ⟨some 16, .pick (.t 13) (.c (.bool true)) (.t 15), none⟩,
     ⟨some 17, .mv (.t 16), none⟩,
     ⟨some 18, .mv (.t 1), (some (17, false))⟩,
     ⟨some 19, .bin .lss (.t 18) (.c (.int .i64 0)), (some (17, false))⟩,
     ⟨some 20, .pick (.t 17) (.c (.bool true)) (.t 19), none⟩,
     ⟨some 21, .mv (.t 20), none⟩,
     ⟨some 22, .mv (.t 1), (some (21, false))⟩,
     ⟨some 23, .mv (.t 0), (some (21, false))⟩,
     ⟨some 24, .len (.t 23), (some (21, false))⟩,
     ⟨some 25, .bin .gtr (.t 22) (.t 24), (some (21, false))⟩,
     ⟨some 26, .pick (.t 21) (.c (.bool true)) (.t 25), none⟩])
   (.cond (.t 26)
    (.seq (.ops [
       ⟨some 6, .mv (.c (.int .i64 0)), none⟩,
       ⟨some 7, .mv (.c (.int .i64 0)), none⟩,
       ⟨some 8, .mv (.c (.int .i64 1)), none⟩])
     .ret)
    .skip))
  (.seq (.seq (.ops [
      ⟨some 27, .mv (.t 0), none⟩,
      ⟨some 28, .len (.t 27), none⟩,
      ⟨some 29, .mv (.t 1), none⟩,
      ⟨some 30, .bin .sub (.t 28) (.t 29), none⟩,
      ⟨some 31, .mv (.t 2), none⟩,
      ⟨some 32, .bin .lss (.t 30) (.t 31), none⟩])
    (.cond (.t 32)
     (.seq (.ops [
        ⟨some 6, .mv (.c (.int .i64 0)), none⟩,
        ⟨some 7, .mv (.c (.int .i64 0)), none⟩,
        ⟨some 8, .mv (.c (.int .i64 7)), none⟩])
      .ret)
     .skip))
   (.seq (.ops [
      ⟨some 9, .mv (.c (.int .i64 0)), none⟩])
    (.seq (.seq (.ops [
        ⟨some 10, .mv (.c (.int .i64 0)), none⟩])
      (.block 0
       (.loop
        (.seq (.seq (.ops [
            ⟨some 33, .mv (.t 10), none⟩,
            ⟨some 34, .mv (.t 2), none⟩,
            ⟨some 35, .bin .lss (.t 33) (.t 34), none⟩])
          (.cond (.t 35)
           .skip
           (.exit 0)))
         (.seq (.block 1
           (.ops [
             ⟨some 38, .mv (.t 9), none⟩,
             ⟨some 39, .bin .shl (.t 38) (.c (.int .u64 8)), none⟩,
             ⟨some 40, .mv (.t 0), none⟩,
             ⟨some 41, .mv (.t 1), none⟩,
             ⟨some 42, .mv (.t 10), none⟩,
             ⟨some 43, .bin .add (.t 41) (.t 42), none⟩,
             ⟨some 44, .idxA 1 (.t 40) (.t 43), none⟩,
             ⟨some 45, .load 1 false (.t 44), none⟩,
             ⟨some 46, .conv .i64 (.t 45), none⟩,
             ⟨some 47, .bin .or (.t 39) (.t 46), none⟩,
             ⟨some 9, .mv (.t 47), none⟩]))
          (.ops [
            ⟨some 36, .mv (.t 10), none⟩,
            ⟨some 37, .bin .add (.t 36) (.c (.int .i64 1)), none⟩,
            ⟨some 10, .mv (.t 37), none⟩]))))))
     (.seq (.ops [
        ⟨some 48, .mv (.t 9), none⟩,
        ⟨some 49, .mv (.t 1), none⟩,
        ⟨some 50, .mv (.t 2), none⟩,
        ⟨some 51, .bin .add (.t 49) (.t 50), none⟩,
        ⟨some 6, .mv (.t 48), none⟩,
        ⟨some 7, .mv (.t 51), none⟩,
        ⟨some 8, .mv (.c (.int .i64 0)), none⟩])
      .ret))))))⟩
theorem K_witanref10_Get : chkFun DK Pg Try.f23 A_witanref10_Get = true := by kernel_rfl
theorem B_witanref10_Get {args : List AV} {m : Mem} {K : AV → Mem → Prop} (h : vcFun DK Pg A_witanref10_Get args m K) : ACall Pg F_witanref10_Get args m K := call_body mixed Try.func23 (by kernel_rfl) K_witanref10_Get h

noncomputable def A_bin_PutPart : AFun := ⟨2, 22, [.t 4, .t 5],
 (.seq (.ops [
   ⟨some 4, .mv (.c (.nils)), none⟩,
   ⟨some 5, .mv (.c (.int .i64 0)), none⟩])
 (.seq (.seq (.ops [
     ⟨some 8, .mv (.t 1), none⟩,
     ⟨some 9, .len (.t 8), none⟩,
     ⟨some 10, .bin .gtr (.t 9) (.c (.int .i64 16384)), none⟩])
   (.cond (.t 10)
    (.seq (.ops [
       ⟨some 4, .mv (.c (.nils)), none⟩,
       ⟨some 5, .mv (.c (.int .i64 4)), none⟩])
     .ret)
    .skip))
  (.seq (.ops [
     ⟨some 12, .mv (.t 0), none⟩,
     ⟨some 13, .mv (.t 1), none⟩,
     ⟨some 14, .len (.t 13), none⟩,
     ⟨some 15, .call (.c (.fn F_bin_Put [])) [.t 12, .t 14, .c (.int .i64 4)], none⟩,
     ⟨some 11, .mv (.t 15), none⟩,
     ⟨some 16, .ext (.t 11) 0, none⟩,
     ⟨some 17, .ext (.t 11) 1, none⟩,
     ⟨some 6, .mv (.t 16), none⟩,
     ⟨some 7, .mv (.t 17), none⟩])
   (.seq (.ops [
      ⟨some 18, .mv (.t 6), none⟩,
      ⟨some 19, .mv (.t 1), none⟩,
      ⟨some 20, .app 1 1 (.t 18) (.t 19), none⟩,
      ⟨some 21, .mv (.t 7), none⟩,
      ⟨some 4, .mv (.t 20), none⟩,
      ⟨some 5, .mv (.t 21), none⟩])
    .ret))))⟩
theorem K_bin_PutPart : chkFun DK Pg Try.f24 A_bin_PutPart = true := by kernel_rfl
theorem B_bin_PutPart {args : List AV} {m : Mem} {K : AV → Mem → Prop} (h : vcFun DK Pg A_bin_PutPart args m K) : ACall Pg F_bin_PutPart args m K := call_body mixed Try.func24 (by kernel_rfl) K_bin_PutPart h

noncomputable def A_witanref10_PutPart : AFun := ⟨2, 21, [.t 4, .t 5],
 (.seq (.ops [
   ⟨some 4, .mv (.c (.nils)), none⟩,
   ⟨some 5, .mv (.c (.int .i64 0)), none⟩])
 (.seq (.seq (.ops [
     ⟨some 8, .mv (.t 1), none⟩,
     ⟨some 9, .len (.t 8), none⟩,
     ⟨some 10, .bin .gtr (.t 9) (.c (.int .i64 16384)), none⟩])
   (.cond (.t 10)
    (.seq (.ops [
       ⟨some 4, .mv (.c (.nils)), none⟩,
       ⟨some 5, .mv (.c (.int .i64 4)), none⟩])
     .ret)
    .skip))
  (.seq (.ops [
     ⟨some 12, .mv (.t 0), none⟩,
     ⟨some 13, .mv (.t 1), none⟩,
     ⟨some 14, .len (.t 13), none⟩,
     ⟨some 15, .call (.c (.fn F_witanref10_Put [])) [.t 12, .t 14, .c (.int .i64 4)], none⟩,
     ⟨some 11, .mv (.t 15), none⟩,
     ⟨some 16, .ext (.t 11) 0, none⟩,
     ⟨some 17, .ext (.t 11) 1, none⟩,
     ⟨some 6, .mv (.t 16), none⟩,
     ⟨some 7, .mv (.t 17), none⟩])
   (.seq (.ops [
      ⟨some 18, .mv (.t 6), none⟩,
      ⟨some 19, .mv (.t 1), none⟩,
      ⟨some 20, .app 1 1 (.t 18) (.t 19), none⟩,
      ⟨some 4, .mv (.t 20), none⟩,
      ⟨some 5, .mv (.c (.int .i64 0)), none⟩])
    .ret))))⟩
theorem K_witanref10_PutPart : chkFun DK Pg Try.f25 A_witanref10_PutPart = true := by kernel_rfl
theorem B_witanref10_PutPart {args : List AV} {m : Mem} {K : AV → Mem → Prop} (h : vcFun DK Pg A_witanref10_PutPart args m K) : ACall Pg F_witanref10_PutPart args m K := call_body mixed Try.func25 (by kernel_rfl) K_witanref10_PutPart h

noncomputable def A_bin_GetPart : AFun := ⟨2, 40, [.t 4, .t 5, .t 6],
 (.seq (.ops [
   ⟨some 4, .mv (.c (.nils)), none⟩,
   ⟨some 5, .mv (.c (.int .i64 0)), none⟩,
   ⟨some 6, .mv (.c (.int .i64 0)), none⟩])
 (.seq (.ops [
    ⟨some 9, .mv (.t 0), none⟩,
    ⟨some 10, .mv (.t 1), none⟩,
    ⟨some 11, .call (.c (.fn F_bin_Get [])) [.t 9, .t 10, .c (.int .i64 4)], none⟩,
    ⟨some 8, .mv (.t 11), none⟩,
    ⟨some 12, .ext (.t 8) 0, none⟩,
    ⟨some 13, .ext (.t 8) 1, none⟩,
    ⟨some 14, .ext (.t 8) 2, none⟩,
    ⟨some 7, .mv (.t 12), none⟩,
    ⟨some 5, .mv (.t 13), none⟩,
    ⟨some 6, .mv (.t 14), none⟩])
  (.seq (.block 0
    (.seq (.ops [
       ⟨some 16, .mv (.t 6), none⟩,
       ⟨some 17, .bin .neq (.t 16) (.c (.int .i64 0)), none⟩,
       ⟨some 15, .mv (.t 17), none⟩])
     (.cond (.t 15)
      (.seq (.ops [
         ⟨some 18, .mv (.t 6), none⟩,
         ⟨some 4, .mv (.c (.nils)), none⟩,
         ⟨some 5, .mv (.c (.int .i64 0)), none⟩,
         ⟨some 6, .mv (.t 18), none⟩])
       .ret)
      (.seq (.ops [
         ⟨some 20, .mv (.t 7), none⟩,
         ⟨some 21, .bin .gtr (.t 20) (.c (.int .i64 16384)), none⟩,
         ⟨some 22, .mv (.t 21), none⟩,
         ⟨some 23, .mv (.t 0), (some (22, false))⟩,
         ⟨some 24, .len (.t 23), (some (22, false))⟩,
         ⟨some 25, .mv (.t 5), (some (22, false))⟩,
         ⟨some 26, .bin .sub (.t 24) (.t 25), (some (22, false))⟩,
         ⟨some 27, .mv (.t 7), (some (22, false))⟩,
         ⟨some 28, .bin .lss (.t 26) (.t 27), (some (22, false))⟩,
         ⟨some 29, .pick (.t 22) (.c (.bool true)) (.t 28), none⟩,
         ⟨some 19, .mv (.t 29), none⟩])
       (.cond (.t 19)
        (.seq (.ops [
           ⟨some 4, .mv (.c (.nils)), none⟩,
           ⟨some 5, .mv (.c (.int .i64 0)), none⟩,
           ⟨some 6, .mv (.c (.int .i64 7)), none⟩])
         .ret)
        .skip)))))
   (.seq (.ops [
      ⟨some 30, .mv (.t 0), none⟩,
      ⟨some 31, .mv (.t 5), none⟩,
      ⟨some 32, .mv (.t 5), none⟩,
      ⟨some 33, .mv (.t 7), none⟩,
      ⟨some 34, .bin .add (.t 32) (.t 33), none⟩,
      ⟨some 35, .slice 1 (.t 30) (some (.t 31)) (some (.t 34)) none, none⟩,
      ⟨some 36, .call (.c (.fn F_slices_Clone_Sbyte_byte [])) [.t 35], none⟩,
      ⟨some 37, .mv (.t 5), none⟩,
      ⟨some 38, .mv (.t 7), none⟩,
      ⟨some 39, .bin .add (.t 37) (.t 38), none⟩,
      ⟨some 4, .mv (.t 36), none⟩,
      ⟨some 5, .mv (.t 39), none⟩,
      ⟨some 6, .mv (.c (.int .i64 0)), none⟩])
    .ret))))⟩
theorem K_bin_GetPart : chkFun DK Pg Try.f26 A_bin_GetPart = true := by kernel_rfl
theorem B_bin_GetPart {args : List AV} {m : Mem} {K : AV → Mem → Prop} (h : vcFun DK Pg A_bin_GetPart args m K) : ACall Pg F_bin_GetPart args m K := call_body mixed Try.func26 (by kernel_rfl) K_bin_GetPart h

noncomputable def A_witanref10_GetPart : AFun := ⟨2, 40, [.t 4, .t 5, .t 6],
 (.seq (.ops [
   ⟨some 4, .mv (.c (.nils)), none⟩,
   ⟨some 5, .mv (.c (.int .i64 0)), none⟩,
   ⟨some 6, .mv (.c (.int .i64 0)), none⟩])
 (.seq (.ops [
    ⟨some 11, .mv (.t 0), none⟩,
    ⟨some 12, .mv (.t 1), none⟩,
    ⟨some 13, .call (.c (.fn F_witanref10_Get [])) [.t 11, .t 12, .c (.int .i64 4)], none⟩,
    ⟨some 10, .mv (.t 13), none⟩,
    ⟨some 14, .ext (.t 10) 0, none⟩,
    ⟨some 15, .ext (.t 10) 1, none⟩,
    ⟨some 16, .ext (.t 10) 2, none⟩,
    ⟨some 7, .mv (.t 14), none⟩,
    ⟨some 8, .mv (.t 15), none⟩,
    ⟨some 9, .mv (.t 16), none⟩])
  (.seq (.seq (.ops [
      ⟨some 17, .mv (.t 9), none⟩,
      ⟨some 18, .bin .neq (.t 17) (.c (.int .i64 0)), none⟩])
    (.cond (.t 18)
     (.seq (.ops [
        ⟨some 19, .mv (.t 9), none⟩,
        ⟨some 4, .mv (.c (.nils)), none⟩,
        ⟨some 5, .mv (.c (.int .i64 0)), none⟩,
        ⟨some 6, .mv (.t 19), none⟩])
      .ret)
     .skip))
   (.seq (.seq (.ops [
       ⟨some 20, .mv (.t 7), none⟩,
       ⟨some 21, .bin .gtr (.t 20) (.c (.int .i64 16384)), none⟩,
       ⟨some 22, .mv (.t 21), none⟩,
       ⟨some 23, .mv (.t 7), (some (22, false))⟩,
       ⟨some 24, .mv (.t 0), (some (22, false))⟩,
       ⟨some 25, .len (.t 24), (some (22, false))⟩,
       ⟨some 26, .mv (.t 8), (some (22, false))⟩,
       ⟨some 27, .bin .sub (.t 25) (.t 26), (some (22, false))⟩,
       ⟨some 28, .bin .gtr (.t 23) (.t 27), (some (22, false))⟩,
       ⟨some 29, .pick (.t 22) (.c (.bool true)) (.t 28), none⟩])
     (.cond (.t 29)
      (.seq (.ops [
         ⟨some 4, .mv (.c (.nils)), none⟩,
         ⟨some 5, .mv (.c (.int .i64 0)), none⟩,
         ⟨some 6, .mv (.c (.int .i64 7)), none⟩])
       .ret)
      .skip))
    (.seq (.ops [
       ⟨some 30, .mv (.t 0), none⟩,
       ⟨some 31, .mv (.t 8), none⟩,
       ⟨some 32, .mv (.t 8), none⟩,
       ⟨some 33, .mv (.t 7), none⟩,
       ⟨some 34, .bin .add (.t 32) (.t 33), none⟩,
       ⟨some 35, .slice 1 (.t 30) (some (.t 31)) (some (.t 34)) none, none⟩,
       ⟨some 36, .call (.c (.fn F_witankeep_Twin [])) [.t 35], none⟩,
       ⟨some 37, .mv (.t 8), none⟩,
       ⟨some 38, .mv (.t 7), none⟩,
       ⟨some 39, .bin .add (.t 37) (.t 38), none⟩,
       ⟨some 4, .mv (.t 36), none⟩,
       ⟨some 5, .mv (.t 39), none⟩,
       ⟨some 6, .mv (.c (.int .i64 0)), none⟩])
     .ret)))))⟩
theorem K_witanref10_GetPart : chkFun DK Pg Try.f27 A_witanref10_GetPart = true := by kernel_rfl
theorem B_witanref10_GetPart {args : List AV} {m : Mem} {K : AV → Mem → Prop} (h : vcFun DK Pg A_witanref10_GetPart args m K) : ACall Pg F_witanref10_GetPart args m K := call_body mixed Try.func27 (by kernel_rfl) K_witanref10_GetPart h

noncomputable def A_sha_Sum : AFun := ⟨1, 201, [.cell 2 32 true],
 (.seq (.ops [
   ⟨some 2, .alloc 1 32 [.int .u8 0], none⟩])
 (.seq (.ops [
    ⟨some 23, .build [.int .u32 0, .int .u32 0, .int .u32 0, .int .u32 0, .int .u32 0, .int .u32 0, .int .u32 0, .int .u32 0] [(0, 1, .c (.int .u32 1779033703)), (1, 1, .c (.int .u32 3144134277)), (2, 1, .c (.int .u32 1013904242)), (3, 1, .c (.int .u32 2773480762)), (4, 1, .c (.int .u32 1359893119)), (5, 1, .c (.int .u32 2600822924)), (6, 1, .c (.int .u32 528734635)), (7, 1, .c (.int .u32 1541459225))], none⟩,
    ⟨some 3, .alloc 1 8 [.int .u32 0], none⟩,
    ⟨none, .store 8 (.t 3) (.t 23), none⟩])
  (.seq (.ops [
     ⟨some 24, .call (.c (.fn F_sha_rounds [])) [], none⟩,
     ⟨some 4, .mv (.t 24), none⟩])
   (.seq (.seq (.ops [
       ⟨some 25, .mv (.t 0), none⟩,
       ⟨some 26, .call (.c (.fn F_sha_padded [])) [.t 25], none⟩,
       ⟨some 5, .mv (.t 26), none⟩])
     (.block 0
      (.loop
       (.seq (.seq (.ops [
           ⟨some 27, .mv (.t 5), none⟩,
           ⟨some 28, .len (.t 27), none⟩,
           ⟨some 29, .bin .gtr (.t 28) (.c (.int .i64 0)), none⟩])
         (.cond (.t 29)
          .skip
          (.exit 0)))
        (.seq (.block 1
          (.seq (.ops [
             ⟨some 6, .alloc 1 64 [.int .u32 0], none⟩])
           (.seq (.seq (.ops [
               ⟨some 32, .mv (.c (.int .i64 0)), none⟩])
             (.block 2
              (.loop
               (.seq (.ops [
                  ⟨some 33, .bin .lss (.t 32) (.c (.int .i64 64)), none⟩])
                (.seq (.cond (.t 33)
                  .skip
                  (.exit 2))
                 (.seq (.block 3
                   (.seq (.ops [
                      ⟨some 34, .mv (.t 32), none⟩,
                      ⟨some 7, .mv (.t 34), none⟩])
                    (.seq (.seq (.ops [
                        ⟨some 35, .mv (.t 7), none⟩,
                        ⟨some 36, .bin .lss (.t 35) (.c (.int .i64 16)), none⟩])
                      (.cond (.t 36)
                       (.seq (.ops [
                          ⟨some 37, .mv (.t 7), none⟩,
                          ⟨some 38, .mv (.t 5), none⟩,
                          ⟨some 39, .mv (.t 7), none⟩,
                          ⟨some 40, .bin .mul (.c (.int .i64 4)) (.t 39), none⟩,
                          ⟨some 41, .mv (.t 7), none⟩,
                          ⟨some 42, .bin .mul (.c (.int .i64 4)) (.t 41), none⟩,
                          ⟨some 43, .bin .add (.t 42) (.c (.int .i64 4)), none⟩,
                          ⟨some 44, .slice 1 (.t 38) (some (.t 40)) (some (.t 43)) none, none⟩,
                          ⟨some 45, .call (.c (.fn F_sha_high [])) [.t 44], none⟩,
                          ⟨some 46, .conv .u32 (.t 45), none⟩,
                          ⟨some 47, .idxP 64 1 (.t 6) (.t 37), none⟩,
                          ⟨none, .store 1 (.t 47) (.t 46), none⟩])
                        (.exit 3))
                       .skip))
                     (.seq (.draw [
                        ⟨some 48, .mv (.t 7), none⟩,
                        ⟨some 49, .bin .sub (.t 48) (.c (.int .i64 15)), none⟩,
                        ⟨some 50, .idxP 64 1 (.t 6) (.t 49), none⟩,
                        ⟨some 51, .load 1 false (.t 50), none⟩,
                        ⟨some 52, .mv (.t 7), none⟩,
                        ⟨some 53, .bin .sub (.t 52) (.c (.int .i64 2)), none⟩,
                        ⟨some 54, .idxP 64 1 (.t 6) (.t 53), none⟩,
                        ⟨some 55, .load 1 false (.t 54), none⟩,
                        ⟨some 8, .mv (.t 51), none⟩,
                        ⟨some 9, .mv (.t 55), none⟩] ⟨.no, [], .flat⟩)
                      (.seq (.ops [
                         ⟨some 56, .mv (.t 8), none⟩,
                         ⟨some 57, .call (.c (.fn F_bits_RotateLeft32 [])) [.t 56, .c (.int .i64 (-7))], none⟩,
                         ⟨some 58, .mv (.t 8), none⟩,
                         ⟨some 59, .call (.c (.fn F_bits_RotateLeft32 [])) [.t 58, .c (.int .i64 (-18))], none⟩,
                         ⟨some 60, .bin .xor (.t 57) (.t 59), none⟩,
                         ⟨some 61, .mv (.t 8), none⟩,
                         ⟨some 62, .bin .shr (.t 61) (.c (.int .u64 3)), none⟩,
                         ⟨some 63, .bin .xor (.t 60) (.t 62), none⟩,
                         ⟨some 10, .mv (.t 63), none⟩])
                       (.seq (.ops [
                          ⟨some 64, .mv (.t 9), none⟩,
                          ⟨some 65, .call (.c (.fn F_bits_RotateLeft32 [])) [.t 64, .c (.int .i64 (-17))], none⟩,
                          ⟨some 66, .mv (.t 9), none⟩,
                          ⟨some 67, .call (.c (.fn F_bits_RotateLeft32 [])) [.t 66, .c (.int .i64 (-19))], none⟩,
                          ⟨some 68, .bin .xor (.t 65) (.t 67), none⟩,
                          ⟨some 69, .mv (.t 9), none⟩,
                          ⟨some 70, .bin .shr (.t 69) (.c (.int .u64 10)), none⟩,
                          ⟨some 71, .bin .xor (.t 68) (.t 70), none⟩,
                          ⟨some 11, .mv (.t 71), none⟩])
                        (.draw [
                          ⟨some 72, .mv (.t 7), none⟩,
                          ⟨some 73, .mv (.t 7), none⟩,
                          ⟨some 74, .bin .sub (.t 73) (.c (.int .i64 16)), none⟩,
                          ⟨some 75, .idxP 64 1 (.t 6) (.t 74), none⟩,
                          ⟨some 76, .load 1 false (.t 75), none⟩,
                          ⟨some 77, .mv (.t 10), none⟩,
                          ⟨some 78, .bin .add (.t 76) (.t 77), none⟩,
                          ⟨some 79, .mv (.t 7), none⟩,
                          ⟨some 80, .bin .sub (.t 79) (.c (.int .i64 7)), none⟩,
                          ⟨some 81, .idxP 64 1 (.t 6) (.t 80), none⟩,
                          ⟨some 82, .load 1 false (.t 81), none⟩,
                          ⟨some 83, .bin .add (.t 78) (.t 82), none⟩,
                          ⟨some 84, .mv (.t 11), none⟩,
                          ⟨some 85, .bin .add (.t 83) (.t 84), none⟩,
                          ⟨some 86, .idxP 64 1 (.t 6) (.t 72), none⟩,
                          ⟨none, .store 1 (.t 86) (.t 85), none⟩] ⟨.all, [], .look 0 (.look 1 (.look 2 (.look 3 (.look 4 (.look 5 (.look 6 (.look 7 (.look 8 (.look 9 (.look 10 (.look 11 (.look 12 (.look 13 (.look 14 (.run 15 false .done)))))))))))))))⟩)))))))
                  (.ops [
                    ⟨some 87, .bin .add (.t 32) (.c (.int .i64 1)), none⟩,
                    ⟨some 32, .mv (.t 87), none⟩])))))))
            (.seq (.ops [
               ⟨some 88, .load 8 true (.t 3), none⟩,
               ⟨some 12, .alloc 1 8 [.int .u32 0], none⟩,
               ⟨none, .store 8 (.t 12) (.t 88), none⟩])
             (.seq (.seq (.ops [
                 ⟨some 89, .mv (.c (.int .i64 0)), none⟩])
               (.block 4
                (.loop
                 (.seq (.ops [
                    ⟨some 90, .bin .lss (.t 89) (.c (.int .i64 64)), none⟩])
                  (.seq (.cond (.t 90)
                    .skip
                    (.exit 4))
                   (.seq (.block 5
                     (.seq (.ops [
                        ⟨some 91, .mv (.t 89), none⟩,
                        ⟨some 13, .mv (.t 91), none⟩])
                      (.seq (.draw [
                         ⟨some 92, .idxP 8 1 (.t 12) (.c (.int .i64 4)), none⟩,
                         ⟨some 93, .load 1 false (.t 92), none⟩,
                         ⟨some 94, .idxP 8 1 (.t 12) (.c (.int .i64 0)), none⟩,
                         ⟨some 95, .load 1 false (.t 94), none⟩,
                         ⟨some 14, .mv (.t 93), none⟩,
                         ⟨some 15, .mv (.t 95), none⟩] ⟨.no, [], .flat⟩)
                       (.seq (.ops [
                          ⟨some 96, .mv (.t 14), none⟩,
                          ⟨some 97, .call (.c (.fn F_bits_RotateLeft32 [])) [.t 96, .c (.int .i64 (-6))], none⟩,
                          ⟨some 98, .mv (.t 14), none⟩,
                          ⟨some 99, .call (.c (.fn F_bits_RotateLeft32 [])) [.t 98, .c (.int .i64 (-11))], none⟩,
                          ⟨some 100, .bin .xor (.t 97) (.t 99), none⟩,
                          ⟨some 101, .mv (.t 14), none⟩,
                          ⟨some 102, .call (.c (.fn F_bits_RotateLeft32 [])) [.t 101, .c (.int .i64 (-25))], none⟩,
                          ⟨some 103, .bin .xor (.t 100) (.t 102), none⟩,
                          ⟨some 16, .mv (.t 103), none⟩])
                        (.seq (.draw [
                           ⟨some 104, .idxP 8 1 (.t 12) (.c (.int .i64 7)), none⟩,
                           ⟨some 105, .load 1 false (.t 104), none⟩,
                           ⟨some 106, .mv (.t 16), none⟩,
                           ⟨some 107, .bin .add (.t 105) (.t 106), none⟩,
                           ⟨some 108, .mv (.t 14), none⟩,
                           ⟨some 109, .idxP 8 1 (.t 12) (.c (.int .i64 5)), none⟩,
                           ⟨some 110, .load 1 false (.t 109), none⟩,
                           ⟨some 111, .bin .and (.t 108) (.t 110), none⟩,
                           ⟨some 112, .mv (.t 14), none⟩,
                           ⟨some 113, .un .xor (.t 112), none⟩,
                           ⟨some 114, .idxP 8 1 (.t 12) (.c (.int .i64 6)), none⟩,
                           ⟨some 115, .load 1 false (.t 114), none⟩,
                           ⟨some 116, .bin .and (.t 113) (.t 115), none⟩,
                           ⟨some 117, .bin .xor (.t 111) (.t 116), none⟩,
                           ⟨some 118, .bin .add (.t 107) (.t 117), none⟩,
                           ⟨some 119, .mv (.t 4), none⟩,
                           ⟨some 120, .mv (.t 13), none⟩,
                           ⟨some 121, .idxA 1 (.t 119) (.t 120), none⟩,
                           ⟨some 122, .load 1 false (.t 121), none⟩,
                           ⟨some 123, .bin .add (.t 118) (.t 122), none⟩,
                           ⟨some 124, .mv (.t 13), none⟩,
                           ⟨some 125, .idxP 64 1 (.t 6) (.t 124), none⟩,
                           ⟨some 126, .load 1 false (.t 125), none⟩,
                           ⟨some 127, .bin .add (.t 123) (.t 126), none⟩,
                           ⟨some 17, .mv (.t 127), none⟩] ⟨.no, [], .flat⟩)
                         (.seq (.ops [
                            ⟨some 128, .mv (.t 15), none⟩,
                            ⟨some 129, .call (.c (.fn F_bits_RotateLeft32 [])) [.t 128, .c (.int .i64 (-2))], none⟩,
                            ⟨some 130, .mv (.t 15), none⟩,
                            ⟨some 131, .call (.c (.fn F_bits_RotateLeft32 [])) [.t 130, .c (.int .i64 (-13))], none⟩,
                            ⟨some 132, .bin .xor (.t 129) (.t 131), none⟩,
                            ⟨some 133, .mv (.t 15), none⟩,
                            ⟨some 134, .call (.c (.fn F_bits_RotateLeft32 [])) [.t 133, .c (.int .i64 (-22))], none⟩,
                            ⟨some 135, .bin .xor (.t 132) (.t 134), none⟩,
                            ⟨some 18, .mv (.t 135), none⟩])
                          (.seq (.ops [
                             ⟨some 136, .mv (.t 18), none⟩,
                             ⟨some 137, .mv (.t 15), none⟩,
                             ⟨some 138, .idxP 8 1 (.t 12) (.c (.int .i64 1)), none⟩,
                             ⟨some 139, .load 1 false (.t 138), none⟩,
                             ⟨some 140, .bin .and (.t 137) (.t 139), none⟩,
                             ⟨some 141, .mv (.t 15), none⟩,
                             ⟨some 142, .idxP 8 1 (.t 12) (.c (.int .i64 2)), none⟩,
                             ⟨some 143, .load 1 false (.t 142), none⟩,
                             ⟨some 144, .bin .and (.t 141) (.t 143), none⟩,
                             ⟨some 145, .bin .xor (.t 140) (.t 144), none⟩,
                             ⟨some 146, .idxP 8 1 (.t 12) (.c (.int .i64 1)), none⟩,
                             ⟨some 147, .load 1 false (.t 146), none⟩,
                             ⟨some 148, .idxP 8 1 (.t 12) (.c (.int .i64 2)), none⟩,
                             ⟨some 149, .load 1 false (.t 148), none⟩,
                             ⟨some 150, .bin .and (.t 147) (.t 149), none⟩,
                             ⟨some 151, .bin .xor (.t 145) (.t 150), none⟩,
                             ⟨some 152, .bin .add (.t 136) (.t 151), none⟩,
                             ⟨some 19, .mv (.t 152), none⟩])
                           (.ops [
                             ⟨some 153, .mv (.t 17), none⟩,
                             ⟨some 154, .mv (.t 19), none⟩,
                             ⟨some 155, .bin .add (.t 153) (.t 154), none⟩,
                             ⟨some 156, .mv (.t 15), none⟩,
                             ⟨some 157, .idxP 8 1 (.t 12) (.c (.int .i64 1)), none⟩,
                             ⟨some 158, .load 1 false (.t 157), none⟩,
                             ⟨some 159, .idxP 8 1 (.t 12) (.c (.int .i64 2)), none⟩,
                             ⟨some 160, .load 1 false (.t 159), none⟩,
                             ⟨some 161, .idxP 8 1 (.t 12) (.c (.int .i64 3)), none⟩,
                             ⟨some 162, .load 1 false (.t 161), none⟩,
                             ⟨some 163, .mv (.t 17), none⟩,
                             ⟨some 164, .bin .add (.t 162) (.t 163), none⟩,
                             ⟨some 165, .mv (.t 14), none⟩,
                             ⟨some 166, .idxP 8 1 (.t 12) (.c (.int .i64 5)), none⟩,
                             ⟨some 167, .load 1 false (.t 166), none⟩,
                             ⟨some 168, .idxP 8 1 (.t 12) (.c (.int .i64 6)), none⟩,
                             ⟨some 169, .load 1 false (.t 168), none⟩,
                             ⟨some 170, .build [.int .u32 0, .int .u32 0, .int .u32 0, .int .u32 0, .int .u32 0, .int .u32 0, .int .u32 0, .int .u32 0] [(0, 1, .t 155), (1, 1, .t 156), (2, 1, .t 158), (3, 1, .t 160), (4, 1, .t 164), (5, 1, .t 165), (6, 1, .t 167), (7, 1, .t 169)], none⟩,
                             ⟨none, .store 8 (.t 12) (.t 170), none⟩]))))))))
                    (.ops [
                      ⟨some 171, .bin .add (.t 89) (.c (.int .i64 1)), none⟩,
                      ⟨some 89, .mv (.t 171), none⟩])))))))
              (.seq (.ops [
                 ⟨some 172, .mv (.c (.int .i64 0)), none⟩])
               (.block 6
                (.loop
                 (.seq (.ops [
                    ⟨some 173, .bin .lss (.t 172) (.c (.int .i64 8)), none⟩])
                  (.seq (.cond (.t 173)
                    .skip
                    (.exit 6))
                   (.seq (.block 7
                     (.seq (.ops [
                        ⟨some 174, .mv (.t 172), none⟩,
                        ⟨some 20, .mv (.t 174), none⟩])
                      (.draw [
                        ⟨some 175, .mv (.t 20), none⟩,
                        ⟨some 176, .idxP 8 1 (.t 3) (.t 175), none⟩,
                        ⟨some 177, .load 1 false (.t 176), none⟩,
                        ⟨some 178, .mv (.t 20), none⟩,
                        ⟨some 179, .idxP 8 1 (.t 12) (.t 178), none⟩,
                        ⟨some 180, .load 1 false (.t 179), none⟩,
                        ⟨some 181, .bin .add (.t 177) (.t 180), none⟩,
                        ⟨some 182, .idxP 8 1 (.t 3) (.t 175), none⟩,
                        ⟨none, .store 1 (.t 182) (.t 181), none⟩] ⟨.all, [], .look 0 (.look 1 (.look 2 (.look 3 (.look 4 (.look 5 (.look 6 (.look 7 (.run 8 false .done))))))))⟩)))
                    (.ops [
                      ⟨some 183, .bin .add (.t 172) (.c (.int .i64 1)), none⟩,
                      ⟨some 172, .mv (.t 183), none⟩]))))))))))))
         (.ops [
           ⟨some 30, .mv (.t 5), none⟩,
           ⟨some 31, .slice 1 (.t 30) (some (.c (.int .i64 64))) none none, none⟩,
           ⟨some 5, .mv (.t 31), none⟩]))))))
    (.seq (.ops [
       ⟨some 21, .alloc 1 32 [.int .u8 0], none⟩])
     (.seq (.seq (.ops [
         ⟨some 184, .mv (.c (.int .i64 0)), none⟩])
       (.block 8
        (.loop
         (.seq (.ops [
            ⟨some 185, .bin .lss (.t 184) (.c (.int .i64 32)), none⟩])
          (.seq (.cond (.t 185)
            .skip
            (.exit 8))
           (.seq (.block 9
             (.seq (.ops [
                ⟨some 186, .mv (.t 184), none⟩,
                ⟨some 22, .mv (.t 186), none⟩])
              (.ops [
                ⟨some 187, .mv (.t 22), none⟩,
                ⟨some 188, .mv (.t 22), none⟩,
                ⟨some 189, .bin .quo (.t 188) (.c (.int .i64 4)), none⟩,
                ⟨some 190, .idxP 8 1 (.t 3) (.t 189), none⟩,
                ⟨some 191, .load 1 false (.t 190), none⟩,
                ⟨some 192, .mv (.t 22), none⟩,
                ⟨some 193, .bin .rem (.t 192) (.c (.int .i64 4)), none⟩,
                ⟨some 194, .bin .mul (.c (.int .i64 8)) (.t 193), none⟩,
                ⟨some 195, .bin .sub (.c (.int .i64 24)) (.t 194), none⟩,
                ⟨some 196, .bin .shr (.t 191) (.t 195), none⟩,
                ⟨some 197, .conv .u8 (.t 196), none⟩,
                ⟨some 198, .idxP 32 1 (.t 21) (.t 187), none⟩,
                ⟨none, .store 1 (.t 198) (.t 197), none⟩])))
            (.ops [
              ⟨some 199, .bin .add (.t 184) (.c (.int .i64 1)), none⟩,
              ⟨some 184, .mv (.t 199), none⟩])))))))
      (.seq (.ops [
         ⟨some 200, .load 32 true (.t 21), none⟩,
         ⟨none, .store 32 (.t 2) (.t 200), none⟩])
       .ret)))))))⟩
theorem K_sha_Sum : chkFun DK Pg Try.f28 A_sha_Sum = true := by kernel_rfl
theorem B_sha_Sum {args : List AV} {m : Mem} {K : AV → Mem → Prop} (h : vcFun DK Pg A_sha_Sum args m K) : ACall Pg F_sha_Sum args m K := call_body mixed Try.func28 (by kernel_rfl) K_sha_Sum h

noncomputable def A_witanref04_Sum256 : AFun := ⟨1, 208, [.cell 2 32 true],
 (.seq (.ops [
   ⟨some 2, .alloc 1 32 [.int .u8 0], none⟩])
 (.seq (.ops [
    ⟨some 21, .call (.c (.fn F_witanref04_k256 [])) [], none⟩,
    ⟨some 3, .alloc 1 64 [.int .u32 0], none⟩,
    ⟨none, .store 64 (.t 3) (.t 21), none⟩])
  (.seq (.ops [
     ⟨some 22, .build [.int .u32 0, .int .u32 0, .int .u32 0, .int .u32 0, .int .u32 0, .int .u32 0, .int .u32 0, .int .u32 0] [(0, 1, .c (.int .u32 1779033703)), (1, 1, .c (.int .u32 3144134277)), (2, 1, .c (.int .u32 1013904242)), (3, 1, .c (.int .u32 2773480762)), (4, 1, .c (.int .u32 1359893119)), (5, 1, .c (.int .u32 2600822924)), (6, 1, .c (.int .u32 528734635)), (7, 1, .c (.int .u32 1541459225))], none⟩,
     ⟨some 4, .alloc 1 8 [.int .u32 0], none⟩,
     ⟨none, .store 8 (.t 4) (.t 22), none⟩])
   (.seq (.ops [
      ⟨some 23, .mv (.t 0), none⟩,
      ⟨some 24, .call (.c (.fn F_witanref04_padded [])) [.t 23], none⟩,
      ⟨some 5, .mv (.t 24), none⟩])
    (.seq (.seq (.ops [
        ⟨some 6, .mv (.c (.int .i64 0)), none⟩])
      (.block 0
       (.loop
        (.seq (.seq (.ops [
            ⟨some 25, .mv (.t 6), none⟩,
            ⟨some 26, .mv (.t 5), none⟩,
            ⟨some 27, .len (.t 26), none⟩,
            ⟨some 28, .bin .lss (.t 25) (.t 27), none⟩])
          (.cond (.t 28)
           .skip
           (.exit 0)))
         (.seq (.block 1
           (.seq (.ops [
              ⟨some 7, .alloc 1 64 [.int .u32 0], none⟩])
            (.seq (.seq (.ops [
                ⟨some 8, .mv (.c (.int .i64 0)), none⟩])
              (.block 2
               (.loop
                (.seq (.seq (.ops [
                    ⟨some 31, .mv (.t 8), none⟩,
                    ⟨some 32, .bin .lss (.t 31) (.c (.int .i64 64)), none⟩])
                  (.cond (.t 32)
                   .skip
                   (.exit 2)))
                 (.seq (.block 3
                   (.seq (.seq (.ops [
                       ⟨some 35, .mv (.t 8), none⟩,
                       ⟨some 36, .bin .lss (.t 35) (.c (.int .i64 16)), none⟩])
                     (.cond (.t 36)
                      (.seq (.seq (.ops [
                          ⟨some 9, .mv (.c (.int .i64 0)), none⟩])
                        (.block 4
                         (.loop
                          (.seq (.seq (.ops [
                              ⟨some 37, .mv (.t 9), none⟩,
                              ⟨some 38, .bin .lss (.t 37) (.c (.int .i64 4)), none⟩])
                            (.cond (.t 38)
                             .skip
                             (.exit 4)))
                           (.seq (.block 5
                             (.draw [
                               ⟨some 41, .mv (.t 8), none⟩,
                               ⟨some 42, .mv (.t 8), none⟩,
                               ⟨some 43, .idxP 64 1 (.t 7) (.t 42), none⟩,
                               ⟨some 44, .load 1 false (.t 43), none⟩,
                               ⟨some 45, .bin .shl (.t 44) (.c (.int .u64 8)), none⟩,
                               ⟨some 46, .mv (.t 5), none⟩,
                               ⟨some 47, .mv (.t 6), none⟩,
                               ⟨some 48, .mv (.t 8), none⟩,
                               ⟨some 49, .bin .mul (.c (.int .i64 4)) (.t 48), none⟩,
                               ⟨some 50, .bin .add (.t 47) (.t 49), none⟩,
                               ⟨some 51, .mv (.t 9), none⟩,
                               ⟨some 52, .bin .add (.t 50) (.t 51), none⟩,
                               ⟨some 53, .idxA 1 (.t 46) (.t 52), none⟩,
                               ⟨some 54, .load 1 false (.t 53), none⟩,
                               ⟨some 55, .conv .u32 (.t 54), none⟩,
                               ⟨some 56, .bin .or (.t 45) (.t 55), none⟩,
                               ⟨some 57, .idxP 64 1 (.t 7) (.t 41), none⟩,
                               ⟨none, .store 1 (.t 57) (.t 56), none⟩] ⟨.all, [], .look 0 (.look 1 (.look 2 (.look 3 (.look 4 (.look 5 (.look 6 (.look 7 (.look 8 (.look 9 (.look 10 (.look 11 (.look 12 (.look 13 (.look 14 (.look 15 (.look 16 (.run 17 false .done)))))))))))))))))⟩))
                            (.ops [
                              ⟨some 39, .mv (.t 9), none⟩,
                              ⟨some 40, .bin .add (.t 39) (.c (.int .i64 1)), none⟩,
                              ⟨some 9, .mv (.t 40), none⟩]))))))
                       (.exit 3))
                      .skip))
                    (.seq (.draw [
                       ⟨some 58, .mv (.t 8), none⟩,
                       ⟨some 59, .bin .sub (.t 58) (.c (.int .i64 15)), none⟩,
                       ⟨some 60, .idxP 64 1 (.t 7) (.t 59), none⟩,
                       ⟨some 61, .load 1 false (.t 60), none⟩,
                       ⟨some 62, .mv (.t 8), none⟩,
                       ⟨some 63, .bin .sub (.t 62) (.c (.int .i64 2)), none⟩,
                       ⟨some 64, .idxP 64 1 (.t 7) (.t 63), none⟩,
                       ⟨some 65, .load 1 false (.t 64), none⟩,
                       ⟨some 10, .mv (.t 61), none⟩,
                       ⟨some 11, .mv (.t 65), none⟩] ⟨.no, [], .flat⟩)
                     (.draw [
                       ⟨some 66, .mv (.t 8), none⟩,
                       ⟨some 67, .mv (.t 8), none⟩,
                       ⟨some 68, .bin .sub (.t 67) (.c (.int .i64 16)), none⟩,
                       ⟨some 69, .idxP 64 1 (.t 7) (.t 68), none⟩,
                       ⟨some 70, .load 1 false (.t 69), none⟩,
                       ⟨some 71, .mv (.t 8), none⟩,
                       ⟨some 72, .bin .sub (.t 71) (.c (.int .i64 7)), none⟩,
                       ⟨some 73, .idxP 64 1 (.t 7) (.t 72), none⟩,
                       ⟨some 74, .load 1 false (.t 73), none⟩,
                       ⟨some 75, .bin .add (.t 70) (.t 74), none⟩,
                       ⟨some 76, .mv (.t 10), none⟩,
                       ⟨some 77, .call (.c (.fn F_witanref04_rot32 [])) [.t 76, .c (.int .i64 7)], none⟩,
                       ⟨some 78, .mv (.t 10), none⟩,
                       ⟨some 79, .call (.c (.fn F_witanref04_rot32 [])) [.t 78, .c (.int .i64 18)], none⟩,
                       ⟨some 80, .bin .xor (.t 77) (.t 79), none⟩,
                       ⟨some 81, .mv (.t 10), none⟩,
                       ⟨some 82, .bin .shr (.t 81) (.c (.int .u64 3)), none⟩,
                       ⟨some 83, .bin .xor (.t 80) (.t 82), none⟩,
                       ⟨some 84, .bin .add (.t 75) (.t 83), none⟩,
                       ⟨some 85, .mv (.t 11), none⟩,
                       ⟨some 86, .call (.c (.fn F_witanref04_rot32 [])) [.t 85, .c (.int .i64 17)], none⟩,
                       ⟨some 87, .mv (.t 11), none⟩,
                       ⟨some 88, .call (.c (.fn F_witanref04_rot32 [])) [.t 87, .c (.int .i64 19)], none⟩,
                       ⟨some 89, .bin .xor (.t 86) (.t 88), none⟩,
                       ⟨some 90, .mv (.t 11), none⟩,
                       ⟨some 91, .bin .shr (.t 90) (.c (.int .u64 10)), none⟩,
                       ⟨some 92, .bin .xor (.t 89) (.t 91), none⟩,
                       ⟨some 93, .bin .add (.t 84) (.t 92), none⟩,
                       ⟨some 94, .idxP 64 1 (.t 7) (.t 66), none⟩,
                       ⟨none, .store 1 (.t 94) (.t 93), none⟩] ⟨.all, [], .look 0 (.look 1 (.look 2 (.look 3 (.look 4 (.look 5 (.look 6 (.look 7 (.look 8 (.look 9 (.look 10 (.look 12 (.look 15 (.look 16 (.look 19 (.look 21 (.look 24 (.look 25 (.run 11 true (.run 13 true (.look 14 (.look 17 (.look 18 (.run 20 true (.run 22 true (.look 23 (.look 26 (.look 27 (.look 28 (.run 29 false .done)))))))))))))))))))))))))))))⟩))))
                  (.ops [
                    ⟨some 33, .mv (.t 8), none⟩,
                    ⟨some 34, .bin .add (.t 33) (.c (.int .i64 1)), none⟩,
                    ⟨some 8, .mv (.t 34), none⟩]))))))
             (.seq (.ops [
                ⟨some 95, .load 8 true (.t 4), none⟩,
                ⟨some 12, .alloc 1 8 [.int .u32 0], none⟩,
                ⟨none, .store 8 (.t 12) (.t 95), none⟩])
              (.seq (.seq (.ops [
                  ⟨some 13, .mv (.c (.int .i64 0)), none⟩])
                (.block 6
                 (.loop
                  (.seq (.seq (.ops [
                      ⟨some 96, .mv (.t 13), none⟩,
                      ⟨some 97, .bin .lss (.t 96) (.c (.int .i64 64)), none⟩])
                    (.cond (.t 97)
                     .skip
                     (.exit 6)))
                   (.seq (.block 7
                     (.seq (.draw [
                        ⟨some 100, .idxP 8 1 (.t 12) (.c (.int .i64 0)), none⟩,
                        ⟨some 101, .load 1 false (.t 100), none⟩,
                        ⟨some 102, .idxP 8 1 (.t 12) (.c (.int .i64 4)), none⟩,
                        ⟨some 103, .load 1 false (.t 102), none⟩,
                        ⟨some 14, .mv (.t 101), none⟩,
                        ⟨some 15, .mv (.t 103), none⟩] ⟨.no, [], .flat⟩)
                      (.seq (.draw [
                         ⟨some 104, .idxP 8 1 (.t 12) (.c (.int .i64 7)), none⟩,
                         ⟨some 105, .load 1 false (.t 104), none⟩,
                         ⟨some 106, .mv (.t 15), none⟩,
                         ⟨some 107, .call (.c (.fn F_witanref04_rot32 [])) [.t 106, .c (.int .i64 6)], none⟩,
                         ⟨some 108, .mv (.t 15), none⟩,
                         ⟨some 109, .call (.c (.fn F_witanref04_rot32 [])) [.t 108, .c (.int .i64 11)], none⟩,
                         ⟨some 110, .bin .xor (.t 107) (.t 109), none⟩,
                         ⟨some 111, .mv (.t 15), none⟩,
                         ⟨some 112, .call (.c (.fn F_witanref04_rot32 [])) [.t 111, .c (.int .i64 25)], none⟩,
                         ⟨some 113, .bin .xor (.t 110) (.t 112), none⟩,
                         ⟨some 114, .bin .add (.t 105) (.t 113), none⟩,
                         ⟨some 115, .mv (.t 15), none⟩,
                         ⟨some 116, .idxP 8 1 (.t 12) (.c (.int .i64 5)), none⟩,
                         ⟨some 117, .load 1 false (.t 116), none⟩,
                         ⟨some 118, .bin .and (.t 115) (.t 117), none⟩,
                         ⟨some 119, .mv (.t 15), none⟩,
                         ⟨some 120, .un .xor (.t 119), none⟩,
                         ⟨some 121, .idxP 8 1 (.t 12) (.c (.int .i64 6)), none⟩,
                         ⟨some 122, .load 1 false (.t 121), none⟩,
                         ⟨some 123, .bin .and (.t 120) (.t 122), none⟩,
                         ⟨some 124, .bin .xor (.t 118) (.t 123), none⟩,
                         ⟨some 125, .bin .add (.t 114) (.t 124), none⟩,
                         ⟨some 126, .mv (.t 13), none⟩,
                         ⟨some 127, .idxP 64 1 (.t 3) (.t 126), none⟩,
                         ⟨some 128, .load 1 false (.t 127), none⟩,
                         ⟨some 129, .bin .add (.t 125) (.t 128), none⟩,
                         ⟨some 130, .mv (.t 13), none⟩,
                         ⟨some 131, .idxP 64 1 (.t 7) (.t 130), none⟩,
                         ⟨some 132, .load 1 false (.t 131), none⟩,
                         ⟨some 133, .bin .add (.t 129) (.t 132), none⟩,
                         ⟨some 16, .mv (.t 133), none⟩] ⟨.all, [], .look 0 (.look 1 (.look 2 (.look 4 (.look 7 (.look 11 (.look 12 (.look 13 (.look 14 (.look 15 (.look 16 (.look 17 (.look 18 (.look 19 (.look 20 (.look 22 (.look 23 (.look 24 (.look 26 (.look 27 (.look 28 (.run 3 true (.run 5 true (.look 6 (.run 8 true (.look 9 (.look 10 (.look 21 (.look 25 (.look 29 (.look 30 .done))))))))))))))))))))))))))))))⟩)
                       (.seq (.draw [
                          ⟨some 134, .mv (.t 14), none⟩,
                          ⟨some 135, .call (.c (.fn F_witanref04_rot32 [])) [.t 134, .c (.int .i64 2)], none⟩,
                          ⟨some 136, .mv (.t 14), none⟩,
                          ⟨some 137, .call (.c (.fn F_witanref04_rot32 [])) [.t 136, .c (.int .i64 13)], none⟩,
                          ⟨some 138, .bin .xor (.t 135) (.t 137), none⟩,
                          ⟨some 139, .mv (.t 14), none⟩,
                          ⟨some 140, .call (.c (.fn F_witanref04_rot32 [])) [.t 139, .c (.int .i64 22)], none⟩,
                          ⟨some 141, .bin .xor (.t 138) (.t 140), none⟩,
                          ⟨some 142, .mv (.t 14), none⟩,
                          ⟨some 143, .idxP 8 1 (.t 12) (.c (.int .i64 1)), none⟩,
                          ⟨some 144, .load 1 false (.t 143), none⟩,
                          ⟨some 145, .bin .and (.t 142) (.t 144), none⟩,
                          ⟨some 146, .mv (.t 14), none⟩,
                          ⟨some 147, .idxP 8 1 (.t 12) (.c (.int .i64 2)), none⟩,
                          ⟨some 148, .load 1 false (.t 147), none⟩,
                          ⟨some 149, .bin .and (.t 146) (.t 148), none⟩,
                          ⟨some 150, .bin .xor (.t 145) (.t 149), none⟩,
                          ⟨some 151, .idxP 8 1 (.t 12) (.c (.int .i64 1)), none⟩,
                          ⟨some 152, .load 1 false (.t 151), none⟩,
                          ⟨some 153, .idxP 8 1 (.t 12) (.c (.int .i64 2)), none⟩,
                          ⟨some 154, .load 1 false (.t 153), none⟩,
                          ⟨some 155, .bin .and (.t 152) (.t 154), none⟩,
                          ⟨some 156, .bin .xor (.t 150) (.t 155), none⟩,
                          ⟨some 157, .bin .add (.t 141) (.t 156), none⟩,
                          ⟨some 17, .mv (.t 157), none⟩] ⟨.all, [], .look 0 (.look 2 (.look 5 (.look 8 (.look 9 (.look 10 (.look 11 (.look 12 (.look 13 (.look 14 (.look 15 (.look 16 (.look 17 (.look 18 (.look 19 (.look 20 (.look 21 (.look 22 (.run 1 true (.run 3 true (.look 4 (.run 6 true (.look 7 (.look 23 (.look 24 .done))))))))))))))))))))))))⟩)
                        (.ops [
                          ⟨some 158, .mv (.t 16), none⟩,
                          ⟨some 159, .mv (.t 17), none⟩,
                          ⟨some 160, .bin .add (.t 158) (.t 159), none⟩,
                          ⟨some 161, .idxP 8 1 (.t 12) (.c (.int .i64 0)), none⟩,
                          ⟨some 162, .load 1 false (.t 161), none⟩,
                          ⟨some 163, .idxP 8 1 (.t 12) (.c (.int .i64 1)), none⟩,
                          ⟨some 164, .load 1 false (.t 163), none⟩,
                          ⟨some 165, .idxP 8 1 (.t 12) (.c (.int .i64 2)), none⟩,
                          ⟨some 166, .load 1 false (.t 165), none⟩,
                          ⟨some 167, .idxP 8 1 (.t 12) (.c (.int .i64 3)), none⟩,
                          ⟨some 168, .load 1 false (.t 167), none⟩,
                          ⟨some 169, .mv (.t 16), none⟩,
                          ⟨some 170, .bin .add (.t 168) (.t 169), none⟩,
                          ⟨some 171, .idxP 8 1 (.t 12) (.c (.int .i64 4)), none⟩,
                          ⟨some 172, .load 1 false (.t 171), none⟩,
                          ⟨some 173, .idxP 8 1 (.t 12) (.c (.int .i64 5)), none⟩,
                          ⟨some 174, .load 1 false (.t 173), none⟩,
                          ⟨some 175, .idxP 8 1 (.t 12) (.c (.int .i64 6)), none⟩,
                          ⟨some 176, .load 1 false (.t 175), none⟩,
                          ⟨some 177, .build [.int .u32 0, .int .u32 0, .int .u32 0, .int .u32 0, .int .u32 0, .int .u32 0, .int .u32 0, .int .u32 0] [(0, 1, .t 160), (1, 1, .t 162), (2, 1, .t 164), (3, 1, .t 166), (4, 1, .t 170), (5, 1, .t 172), (6, 1, .t 174), (7, 1, .t 176)], none⟩,
                          ⟨none, .store 8 (.t 12) (.t 177), none⟩])))))
                    (.ops [
                      ⟨some 98, .mv (.t 13), none⟩,
                      ⟨some 99, .bin .add (.t 98) (.c (.int .i64 1)), none⟩,
                      ⟨some 13, .mv (.t 99), none⟩]))))))
               (.seq (.ops [
                  ⟨some 18, .mv (.c (.int .i64 0)), none⟩])
                (.block 8
                 (.loop
                  (.seq (.seq (.ops [
                      ⟨some 178, .mv (.t 18), none⟩,
                      ⟨some 179, .bin .lss (.t 178) (.c (.int .i64 8)), none⟩])
                    (.cond (.t 179)
                     .skip
                     (.exit 8)))
                   (.seq (.block 9
                     (.draw [
                       ⟨some 182, .mv (.t 18), none⟩,
                       ⟨some 183, .idxP 8 1 (.t 4) (.t 182), none⟩,
                       ⟨some 184, .load 1 false (.t 183), none⟩,
                       ⟨some 185, .mv (.t 18), none⟩,
                       ⟨some 186, .idxP 8 1 (.t 12) (.t 185), none⟩,
                       ⟨some 187, .load 1 false (.t 186), none⟩,
                       ⟨some 188, .bin .add (.t 184) (.t 187), none⟩,
                       ⟨some 189, .idxP 8 1 (.t 4) (.t 182), none⟩,
                       ⟨none, .store 1 (.t 189) (.t 188), none⟩] ⟨.all, [], .look 0 (.look 1 (.look 2 (.look 3 (.look 4 (.look 5 (.look 6 (.look 7 (.run 8 false .done))))))))⟩))
                    (.ops [
                      ⟨some 180, .mv (.t 18), none⟩,
                      ⟨some 181, .bin .add (.t 180) (.c (.int .i64 1)), none⟩,
                      ⟨some 18, .mv (.t 181), none⟩])))))))))))
          (.ops [
            ⟨some 29, .mv (.t 6), none⟩,
            ⟨some 30, .bin .add (.t 29) (.c (.int .i64 64)), none⟩,
            ⟨some 6, .mv (.t 30), none⟩]))))))
     (.seq (.ops [
        ⟨some 19, .alloc 1 32 [.int .u8 0], none⟩])
      (.seq (.seq (.ops [
          ⟨some 20, .mv (.c (.int .i64 0)), none⟩])
        (.block 10
         (.loop
          (.seq (.seq (.ops [
              ⟨some 190, .mv (.t 20), none⟩,
              ⟨some 191, .bin .lss (.t 190) (.c (.int .i64 32)), none⟩])
            (.cond (.t 191)
             .skip
             (.exit 10)))
           (.seq (.block 11
             (.ops [
               ⟨some 194, .mv (.t 20), none⟩,
               ⟨some 195, .mv (.t 20), none⟩,
               ⟨some 196, .bin .quo (.t 195) (.c (.int .i64 4)), none⟩,
               ⟨some 197, .idxP 8 1 (.t 4) (.t 196), none⟩,
               ⟨some 198, .load 1 false (.t 197), none⟩,
               ⟨some 199, .mv (.t 20), none⟩,
               ⟨some 200, .bin .rem (.t 199) (.c (.int .i64 4)), none⟩,
               ⟨some 201, .bin .mul (.c (.int .i64 8)) (.t 200), none⟩,
               ⟨some 202, .bin .sub (.c (.int .i64 24)) (.t 201), none⟩,
               ⟨some 203, .conv .u64 (.t 202), none⟩,
               ⟨some 204, .bin .shr (.t 198) (.t 203), none⟩,
               ⟨some 205, .conv .u8 (.t 204), none⟩,
               ⟨some 206, .idxP 32 1 (.t 19) (.t 194), none⟩,
               ⟨none, .store 1 (.t 206) (.t 205), none⟩]))
            (.ops [
              ⟨some 192, .mv (.t 20), none⟩,
              ⟨some 193, .bin .add (.t 192) (.c (.int .i64 1)), none⟩,
              ⟨some 20, .mv (.t 193), none⟩]))))))
       (.seq (.ops [
          ⟨some 207, .load 32 true (.t 19), none⟩,
          ⟨none, .store 32 (.t 2) (.t 207), none⟩])
        .ret))))))))⟩
theorem K_witanref04_Sum256 : chkFun DK Pg Try.f29 A_witanref04_Sum256 = true := by kernel_rfl
theorem B_witanref04_Sum256 {args : List AV} {m : Mem} {K : AV → Mem → Prop} (h : vcFun DK Pg A_witanref04_Sum256 args m K) : ACall Pg F_witanref04_Sum256 args m K := call_body mixed Try.func29 (by kernel_rfl) K_witanref04_Sum256 h

noncomputable def A_witanlaw04_wakes : AFun := ⟨0, 18, [.t 0],
 (.seq (.ops [
   ⟨some 0, .mv (.c (.bool false)), none⟩])
 (.seq (.ops [
    ⟨some 2, .bsl 1 3 [.int .u8 0] [(0, 1, .c (.int .u8 97)), (1, 1, .c (.int .u8 98)), (2, 1, .c (.int .u8 99))], none⟩,
    ⟨some 3, .frz (.t 2), none⟩,
    ⟨some 4, .call (.c (.fn F_sha_Sum [])) [.t 3], none⟩,
    ⟨some 1, .alloc 1 32 [.int .u8 0], none⟩,
    ⟨none, .store 32 (.t 1) (.t 4), none⟩])
  (.seq (.ops [
     ⟨some 5, .idxP 32 1 (.t 1) (.c (.int .i64 0)), none⟩,
     ⟨some 6, .load 1 false (.t 5), none⟩,
     ⟨some 7, .bin .eql (.t 6) (.c (.int .u8 186)), none⟩,
     ⟨some 8, .mv (.t 7), none⟩,
     ⟨some 9, .idxP 32 1 (.t 1) (.c (.int .i64 1)), (some (8, true))⟩,
     ⟨some 10, .load 1 false (.t 9), (some (8, true))⟩,
     ⟨some 11, .bin .eql (.t 10) (.c (.int .u8 120)), (some (8, true))⟩,
     ⟨some 12, .pick (.t 8) (.t 11) (.c (.bool false)), none⟩,
     ⟨some 13, .mv (.t 12), none⟩,
     ⟨some 14, .idxP 32 1 (.t 1) (.c (.int .i64 31)), (some (13, true))⟩,
     ⟨some 15, .load 1 false (.t 14), (some (13, true))⟩,
     ⟨some 16, .bin .eql (.t 15) (.c (.int .u8 173)), (some (13, true))⟩,
     ⟨some 17, .pick (.t 13) (.t 16) (.c (.bool false)), none⟩,
     ⟨some 0, .mv (.t 17), none⟩])
   .ret)))⟩
theorem K_witanlaw04_wakes : chkFun DK Pg Try.f30 A_witanlaw04_wakes = true := by kernel_rfl
theorem B_witanlaw04_wakes {args : List AV} {m : Mem} {K : AV → Mem → Prop} (h : vcFun DK Pg A_witanlaw04_wakes args m K) : ACall Pg F_witanlaw04_wakes args m K := call_body mixed Try.func30 (by kernel_rfl) K_witanlaw04_wakes h

noncomputable def A_sha_Mac : AFun := ⟨2, 50, [.cell 4 32 true],
 (.seq (.ops [
   ⟨some 4, .alloc 1 32 [.int .u8 0], none⟩])
 (.seq (.seq (.ops [
     ⟨some 10, .mv (.t 0), none⟩,
     ⟨some 11, .len (.t 10), none⟩,
     ⟨some 12, .bin .gtr (.t 11) (.c (.int .i64 64)), none⟩])
   (.cond (.t 12)
    (.seq (.ops [
       ⟨some 13, .mv (.t 0), none⟩,
       ⟨some 14, .call (.c (.fn F_sha_Sum [])) [.t 13], none⟩,
       ⟨some 5, .alloc 1 32 [.int .u8 0], none⟩,
       ⟨none, .store 32 (.t 5) (.t 14), none⟩])
     (.ops [
       ⟨some 15, .slarr 32 1 (.t 5) none none none, none⟩,
       ⟨some 0, .mv (.t 15), none⟩]))
    .skip))
  (.seq (.draw [
     ⟨some 16, .mksl 1 1 [.int .u8 0] (.c (.int .i64 64)) (.c (.int .i64 64)), none⟩,
     ⟨some 17, .mksl 1 1 [.int .u8 0] (.c (.int .i64 64)) (.c (.int .i64 64)), none⟩,
     ⟨some 6, .mv (.t 16), none⟩,
     ⟨some 7, .mv (.t 17), none⟩] ⟨.no, [(1, none)], .run 0 true (.look 2 (.fill (.look 3 .done)))⟩)
   (.seq (.ops [
      ⟨some 18, .mv (.t 6), none⟩,
      ⟨some 19, .mv (.t 0), none⟩,
      ⟨some 20, .copy 1 (.t 18) (.t 19), none⟩])
    (.seq (.ops [
       ⟨some 21, .mv (.t 7), none⟩,
       ⟨some 22, .mv (.t 0), none⟩,
       ⟨some 23, .copy 1 (.t 21) (.t 22), none⟩])
     (.seq (.seq (.ops [
         ⟨some 24, .mv (.t 6), none⟩,
         ⟨some 25, .len (.t 24), none⟩,
         ⟨some 26, .mv (.c (.int .i64 0)), none⟩])
       (.block 0
        (.loop
         (.seq (.ops [
            ⟨some 27, .bin .lss (.t 26) (.t 25), none⟩])
          (.seq (.cond (.t 27)
            .skip
            (.exit 0))
           (.seq (.block 1
             (.seq (.ops [
                ⟨some 28, .mv (.t 26), none⟩,
                ⟨some 8, .mv (.t 28), none⟩])
              (.seq (.ops [
                 ⟨some 29, .mv (.t 6), none⟩,
                 ⟨some 30, .mv (.t 8), none⟩,
                 ⟨some 31, .idxA 1 (.t 29) (.t 30), none⟩,
                 ⟨some 32, .load 1 false (.t 31), none⟩,
                 ⟨some 33, .bin .xor (.t 32) (.c (.int .u8 54)), none⟩,
                 ⟨some 34, .idxA 1 (.t 29) (.t 30), none⟩,
                 ⟨none, .store 1 (.t 34) (.t 33), none⟩])
               (.ops [
                 ⟨some 35, .mv (.t 7), none⟩,
                 ⟨some 36, .mv (.t 8), none⟩,
                 ⟨some 37, .idxA 1 (.t 35) (.t 36), none⟩,
                 ⟨some 38, .load 1 false (.t 37), none⟩,
                 ⟨some 39, .bin .xor (.t 38) (.c (.int .u8 92)), none⟩,
                 ⟨some 40, .idxA 1 (.t 35) (.t 36), none⟩,
                 ⟨none, .store 1 (.t 40) (.t 39), none⟩]))))
            (.ops [
              ⟨some 41, .bin .add (.t 26) (.c (.int .i64 1)), none⟩,
              ⟨some 26, .mv (.t 41), none⟩])))))))
      (.seq (.ops [
         ⟨some 42, .mv (.t 6), none⟩,
         ⟨some 43, .mv (.t 1), none⟩,
         ⟨some 44, .app 1 1 (.t 42) (.t 43), none⟩,
         ⟨some 45, .call (.c (.fn F_sha_Sum [])) [.t 44], none⟩,
         ⟨some 9, .alloc 1 32 [.int .u8 0], none⟩,
         ⟨none, .store 32 (.t 9) (.t 45), none⟩])
       (.seq (.ops [
          ⟨some 46, .mv (.t 7), none⟩,
          ⟨some 47, .slarr 32 1 (.t 9) none none none, none⟩,
          ⟨some 48, .app 1 1 (.t 46) (.t 47), none⟩,
          ⟨some 49, .call (.c (.fn F_sha_Sum [])) [.t 48], none⟩,
          ⟨none, .store 32 (.t 4) (.t 49), none⟩])
        .ret))))))))⟩
theorem K_sha_Mac : chkFun DK Pg Try.f31 A_sha_Mac = true := by kernel_rfl
theorem B_sha_Mac {args : List AV} {m : Mem} {K : AV → Mem → Prop} (h : vcFun DK Pg A_sha_Mac args m K) : ACall Pg F_sha_Mac args m K := call_body mixed Try.func31 (by kernel_rfl) K_sha_Mac h

noncomputable def A_witanref04_Mac : AFun := ⟨2, 47, [.cell 4 32 true],
 (.seq (.ops [
   ⟨some 4, .alloc 1 32 [.int .u8 0], none⟩])
 (.seq (.ops [
    ⟨some 5, .alloc 1 64 [.int .u8 0], none⟩,
    ⟨some 6, .alloc 1 64 [.int .u8 0], none⟩])
  (.seq (.seq (.ops [
      ⟨some 11, .mv (.t 0), none⟩,
      ⟨some 12, .len (.t 11), none⟩,
      ⟨some 13, .bin .gtr (.t 12) (.c (.int .i64 64)), none⟩])
    (.cond (.t 13)
     (.seq (.ops [
        ⟨some 14, .mv (.t 0), none⟩,
        ⟨some 15, .call (.c (.fn F_witanref04_Sum256 [])) [.t 14], none⟩,
        ⟨some 7, .alloc 1 32 [.int .u8 0], none⟩,
        ⟨none, .store 32 (.t 7) (.t 15), none⟩])
      (.ops [
        ⟨some 16, .slarr 32 1 (.t 7) none none none, none⟩,
        ⟨some 0, .mv (.t 16), none⟩]))
     .skip))
   (.seq (.seq (.ops [
       ⟨some 8, .mv (.c (.int .i64 0)), none⟩])
     (.block 0
      (.loop
       (.seq (.seq (.ops [
           ⟨some 17, .mv (.t 8), none⟩,
           ⟨some 18, .bin .lss (.t 17) (.c (.int .i64 64)), none⟩])
         (.cond (.t 18)
          .skip
          (.exit 0)))
        (.seq (.block 1
          (.seq (.ops [
             ⟨some 9, .mv (.c (.int .u8 0)), none⟩])
           (.seq (.seq (.ops [
               ⟨some 21, .mv (.t 8), none⟩,
               ⟨some 22, .mv (.t 0), none⟩,
               ⟨some 23, .len (.t 22), none⟩,
               ⟨some 24, .bin .lss (.t 21) (.t 23), none⟩])
             (.cond (.t 24)
              (.ops [
                ⟨some 25, .mv (.t 0), none⟩,
                ⟨some 26, .mv (.t 8), none⟩,
                ⟨some 27, .idxA 1 (.t 25) (.t 26), none⟩,
                ⟨some 28, .load 1 false (.t 27), none⟩,
                ⟨some 9, .mv (.t 28), none⟩])
              .skip))
            (.ops [
              ⟨some 29, .mv (.t 8), none⟩,
              ⟨some 30, .mv (.t 8), none⟩,
              ⟨some 31, .mv (.t 9), none⟩,
              ⟨some 32, .bin .xor (.t 31) (.c (.int .u8 54)), none⟩,
              ⟨some 33, .mv (.t 9), none⟩,
              ⟨some 34, .bin .xor (.t 33) (.c (.int .u8 92)), none⟩,
              ⟨some 35, .idxP 64 1 (.t 5) (.t 29), none⟩,
              ⟨none, .store 1 (.t 35) (.t 32), none⟩,
              ⟨some 36, .idxP 64 1 (.t 6) (.t 30), none⟩,
              ⟨none, .store 1 (.t 36) (.t 34), none⟩]))))
         (.ops [
           ⟨some 19, .mv (.t 8), none⟩,
           ⟨some 20, .bin .add (.t 19) (.c (.int .i64 1)), none⟩,
           ⟨some 8, .mv (.t 20), none⟩]))))))
    (.seq (.ops [
       ⟨some 37, .slarr 64 1 (.t 5) none none none, none⟩,
       ⟨some 38, .mv (.t 1), none⟩,
       ⟨some 39, .bsl 1 2 [.nils] [(0, 1, .t 37), (1, 1, .t 38)], none⟩,
       ⟨some 40, .call (.c (.fn F_witanref04_join [])) [.t 39], none⟩,
       ⟨some 41, .call (.c (.fn F_witanref04_Sum256 [])) [.t 40], none⟩,
       ⟨some 10, .alloc 1 32 [.int .u8 0], none⟩,
       ⟨none, .store 32 (.t 10) (.t 41), none⟩])
     (.seq (.draw [
        ⟨some 42, .slarr 64 1 (.t 6) none none none, none⟩,
        ⟨some 43, .slarr 32 1 (.t 10) none none none, none⟩,
        ⟨some 44, .bsl 1 2 [.nils] [(0, 1, .t 42), (1, 1, .t 43)], none⟩,
        ⟨some 45, .call (.c (.fn F_witanref04_join [])) [.t 44], none⟩,
        ⟨some 46, .call (.c (.fn F_witanref04_Sum256 [])) [.t 45], none⟩,
        ⟨none, .store 32 (.t 4) (.t 46), none⟩] ⟨.all, [], .look 0 (.look 1 (.run 2 true (.run 3 true (.run 4 true (.run 5 false .done)))))⟩)
      .ret))))))⟩
theorem K_witanref04_Mac : chkFun DK Pg Try.f32 A_witanref04_Mac = true := by kernel_rfl
theorem B_witanref04_Mac {args : List AV} {m : Mem} {K : AV → Mem → Prop} (h : vcFun DK Pg A_witanref04_Mac args m K) : ACall Pg F_witanref04_Mac args m K := call_body mixed Try.func32 (by kernel_rfl) K_witanref04_Mac h

noncomputable def A_judge_dealer : AFun := ⟨1, 9, [.t 2],
 (.seq (.ops [
   ⟨some 2, .mv (.c (.bool false)), none⟩])
 (.seq (.ops [
    ⟨some 3, .mv (.t 0), none⟩,
    ⟨some 4, .bin .geq (.t 3) (.c (.int .i64 1)), none⟩,
    ⟨some 5, .mv (.t 4), none⟩,
    ⟨some 6, .mv (.t 0), (some (5, true))⟩,
    ⟨some 7, .bin .leq (.t 6) (.c (.int .i64 8)), (some (5, true))⟩,
    ⟨some 8, .pick (.t 5) (.t 7) (.c (.bool false)), none⟩,
    ⟨some 2, .mv (.t 8), none⟩])
  .ret))⟩
theorem K_judge_dealer : chkFun DK Pg Try.f33 A_judge_dealer = true := by kernel_rfl
theorem B_judge_dealer {args : List AV} {m : Mem} {K : AV → Mem → Prop} (h : vcFun DK Pg A_judge_dealer args m K) : ACall Pg F_judge_dealer args m K := call_body mixed Try.func33 (by kernel_rfl) K_judge_dealer h

noncomputable def A_bin_room : AFun := ⟨1, 6, [.t 2],
 (.seq (.ops [
   ⟨some 2, .mv (.c (.int .i64 0)), none⟩])
 (.seq (.ops [
    ⟨some 3, .mv (.t 0), none⟩,
    ⟨some 4, .bin .mul (.c (.int .i64 8)) (.t 3), none⟩,
    ⟨some 5, .bin .shl (.c (.int .i64 1)) (.t 4), none⟩,
    ⟨some 2, .mv (.t 5), none⟩])
  .ret))⟩
theorem K_bin_room : chkFun DK Pg Try.f34 A_bin_room = true := by kernel_rfl
theorem B_bin_room {args : List AV} {m : Mem} {K : AV → Mem → Prop} (h : vcFun DK Pg A_bin_room args m K) : ACall Pg F_bin_room args m K := call_body mixed Try.func34 (by kernel_rfl) K_bin_room h

noncomputable def A_slices_Clone_Sbyte_byte : AFun := ⟨1, 8, [.t 2],
 (.seq (.ops [
   ⟨some 2, .mv (.c (.nils)), none⟩])
 (.seq (.seq (.ops [
     ⟨some 3, .mv (.t 0), none⟩,
     ⟨some 4, .eqnS false (.t 3), none⟩])
   (.cond (.t 4)
    (.seq (.ops [
       ⟨some 2, .mv (.c (.nils)), none⟩])
     .ret)
    .skip))
  (.seq (.ops [
     ⟨some 5, .bsl 1 0 [.int .u8 0] [], none⟩,
     ⟨some 6, .mv (.t 0), none⟩,
     ⟨some 7, .app 1 1 (.t 5) (.t 6), none⟩,
     ⟨some 2, .mv (.t 7), none⟩])
   .ret)))⟩
theorem K_slices_Clone_Sbyte_byte : chkFun DK Pg Try.f35 A_slices_Clone_Sbyte_byte = true := by kernel_rfl
theorem B_slices_Clone_Sbyte_byte {args : List AV} {m : Mem} {K : AV → Mem → Prop} (h : vcFun DK Pg A_slices_Clone_Sbyte_byte args m K) : ACall Pg F_slices_Clone_Sbyte_byte args m K := call_body mixed Try.func35 (by kernel_rfl) K_slices_Clone_Sbyte_byte h

noncomputable def A_sha_rounds : AFun := ⟨0, 2, [.t 0],
 (.seq (.ops [
   ⟨some 0, .mv (.c (.nils)), none⟩])
 (.seq (.ops [
    ⟨some 1, .bsl 1 64 [.int .u32 0] [(0, 1, .c (.int .u32 1116352408)), (1, 1, .c (.int .u32 1899447441)), (2, 1, .c (.int .u32 3049323471)), (3, 1, .c (.int .u32 3921009573)), (4, 1, .c (.int .u32 961987163)), (5, 1, .c (.int .u32 1508970993)), (6, 1, .c (.int .u32 2453635748)), (7, 1, .c (.int .u32 2870763221)), (8, 1, .c (.int .u32 3624381080)), (9, 1, .c (.int .u32 310598401)), (10, 1, .c (.int .u32 607225278)), (11, 1, .c (.int .u32 1426881987)), (12, 1, .c (.int .u32 1925078388)), (13, 1, .c (.int .u32 2162078206)), (14, 1, .c (.int .u32 2614888103)), (15, 1, .c (.int .u32 3248222580)), (16, 1, .c (.int .u32 3835390401)), (17, 1, .c (.int .u32 4022224774)), (18, 1, .c (.int .u32 264347078)), (19, 1, .c (.int .u32 604807628)), (20, 1, .c (.int .u32 770255983)), (21, 1, .c (.int .u32 1249150122)), (22, 1, .c (.int .u32 1555081692)), (23, 1, .c (.int .u32 1996064986)), (24, 1, .c (.int .u32 2554220882)), (25, 1, .c (.int .u32 2821834349)), (26, 1, .c (.int .u32 2952996808)), (27, 1, .c (.int .u32 3210313671)), (28, 1, .c (.int .u32 3336571891)), (29, 1, .c (.int .u32 3584528711)), (30, 1, .c (.int .u32 113926993)), (31, 1, .c (.int .u32 338241895)), (32, 1, .c (.int .u32 666307205)), (33, 1, .c (.int .u32 773529912)), (34, 1, .c (.int .u32 1294757372)), (35, 1, .c (.int .u32 1396182291)), (36, 1, .c (.int .u32 1695183700)), (37, 1, .c (.int .u32 1986661051)), (38, 1, .c (.int .u32 2177026350)), (39, 1, .c (.int .u32 2456956037)), (40, 1, .c (.int .u32 2730485921)), (41, 1, .c (.int .u32 2820302411)), (42, 1, .c (.int .u32 3259730800)), (43, 1, .c (.int .u32 3345764771)), (44, 1, .c (.int .u32 3516065817)), (45, 1, .c (.int .u32 3600352804)), (46, 1, .c (.int .u32 4094571909)), (47, 1, .c (.int .u32 275423344)), (48, 1, .c (.int .u32 430227734)), (49, 1, .c (.int .u32 506948616)), (50, 1, .c (.int .u32 659060556)), (51, 1, .c (.int .u32 883997877)), (52, 1, .c (.int .u32 958139571)), (53, 1, .c (.int .u32 1322822218)), (54, 1, .c (.int .u32 1537002063)), (55, 1, .c (.int .u32 1747873779)), (56, 1, .c (.int .u32 1955562222)), (57, 1, .c (.int .u32 2024104815)), (58, 1, .c (.int .u32 2227730452)), (59, 1, .c (.int .u32 2361852424)), (60, 1, .c (.int .u32 2428436474)), (61, 1, .c (.int .u32 2756734187)), (62, 1, .c (.int .u32 3204031479)), (63, 1, .c (.int .u32 3329325298))], none⟩,
    ⟨some 0, .mv (.t 1), none⟩])
  .ret))⟩
theorem K_sha_rounds : chkFun DK Pg Try.f36 A_sha_rounds = true := by kernel_rfl
theorem B_sha_rounds {args : List AV} {m : Mem} {K : AV → Mem → Prop} (h : vcFun DK Pg A_sha_rounds args m K) : ACall Pg F_sha_rounds args m K := call_body mixed Try.func36 (by kernel_rfl) K_sha_rounds h

noncomputable def A_sha_padded : AFun := ⟨1, 35, [.t 2],
 (.seq (.ops [
   ⟨some 2, .mv (.c (.nils)), none⟩])
 (.seq (.ops [
    ⟨some 6, .bsl 1 0 [.int .u8 0] [], none⟩,
    ⟨some 7, .mv (.t 0), none⟩,
    ⟨some 8, .app 1 1 (.t 6) (.t 7), none⟩,
    ⟨some 9, .bsl 1 1 [.int .u8 0] [(0, 1, .c (.int .u8 128))], none⟩,
    ⟨some 10, .app 1 1 (.t 8) (.t 9), none⟩,
    ⟨some 3, .mv (.t 10), none⟩])
  (.seq (.block 0
    (.loop
     (.seq (.seq (.ops [
         ⟨some 11, .mv (.t 3), none⟩,
         ⟨some 12, .len (.t 11), none⟩,
         ⟨some 13, .bin .rem (.t 12) (.c (.int .i64 64)), none⟩,
         ⟨some 14, .bin .neq (.t 13) (.c (.int .i64 56)), none⟩])
       (.cond (.t 14)
        .skip
        (.exit 0)))
      (.block 1
       (.ops [
         ⟨some 15, .mv (.t 3), none⟩,
         ⟨some 16, .bsl 1 1 [.int .u8 0] [(0, 1, .c (.int .u8 0))], none⟩,
         ⟨some 17, .app 1 1 (.t 15) (.t 16), none⟩,
         ⟨some 3, .mv (.t 17), none⟩])))))
   (.seq (.ops [
      ⟨some 18, .mv (.t 0), none⟩,
      ⟨some 19, .len (.t 18), none⟩,
      ⟨some 20, .conv .u64 (.t 19), none⟩,
      ⟨some 21, .bin .shl (.t 20) (.c (.int .u64 3)), none⟩,
      ⟨some 4, .mv (.t 21), none⟩])
    (.seq (.seq (.ops [
        ⟨some 5, .mv (.c (.int .i64 7)), none⟩])
      (.block 2
       (.loop
        (.seq (.seq (.ops [
            ⟨some 22, .mv (.t 5), none⟩,
            ⟨some 23, .bin .geq (.t 22) (.c (.int .i64 0)), none⟩])
          (.cond (.t 23)
           .skip
           (.exit 2)))
         (.seq (.block 3
           (.ops [
             ⟨some 26, .mv (.t 3), none⟩,
             ⟨some 27, .mv (.t 4), none⟩,
             ⟨some 28, .mv (.t 5), none⟩,
             ⟨some 29, .bin .mul (.c (.int .i64 8)) (.t 28), none⟩,
             ⟨some 30, .bin .shr (.t 27) (.t 29), none⟩,
             ⟨some 31, .conv .u8 (.t 30), none⟩,
             ⟨some 32, .bsl 1 1 [.int .u8 0] [(0, 1, .t 31)], none⟩,
             ⟨some 33, .app 1 1 (.t 26) (.t 32), none⟩,
             ⟨some 3, .mv (.t 33), none⟩]))
          (.ops [
            ⟨some 24, .mv (.t 5), none⟩,
            ⟨some 25, .bin .sub (.t 24) (.c (.int .i64 1)), none⟩,
            ⟨some 5, .mv (.t 25), none⟩]))))))
     (.seq (.ops [
        ⟨some 34, .mv (.t 3), none⟩,
        ⟨some 2, .mv (.t 34), none⟩])
      .ret))))))⟩
theorem K_sha_padded : chkFun DK Pg Try.f37 A_sha_padded = true := by kernel_rfl
theorem B_sha_padded {args : List AV} {m : Mem} {K : AV → Mem → Prop} (h : vcFun DK Pg A_sha_padded args m K) : ACall Pg F_sha_padded args m K := call_body mixed Try.func37 (by kernel_rfl) K_sha_padded h

noncomputable def A_sha_high : AFun := ⟨1, 19, [.t 2],
 (.seq (.ops [
   ⟨some 2, .mv (.c (.int .u64 0)), none⟩])
 (.seq (.ops [
    ⟨some 3, .mv (.c (.int .u64 0)), none⟩])
  (.seq (.seq (.ops [
      ⟨some 6, .mv (.t 0), none⟩,
      ⟨some 7, .len (.t 6), none⟩,
      ⟨some 8, .mv (.c (.int .i64 0)), none⟩])
    (.block 0
     (.loop
      (.seq (.ops [
         ⟨some 9, .bin .lss (.t 8) (.t 7), none⟩])
       (.seq (.cond (.t 9)
         .skip
         (.exit 0))
        (.seq (.block 1
          (.seq (.ops [
             ⟨some 10, .idxA 1 (.t 6) (.t 8), none⟩,
             ⟨some 11, .load 1 false (.t 10), none⟩,
             ⟨some 5, .mv (.t 11), none⟩])
           (.ops [
             ⟨some 12, .mv (.t 3), none⟩,
             ⟨some 13, .bin .shl (.t 12) (.c (.int .u64 8)), none⟩,
             ⟨some 14, .mv (.t 5), none⟩,
             ⟨some 15, .conv .u64 (.t 14), none⟩,
             ⟨some 16, .bin .or (.t 13) (.t 15), none⟩,
             ⟨some 3, .mv (.t 16), none⟩])))
         (.ops [
           ⟨some 17, .bin .add (.t 8) (.c (.int .i64 1)), none⟩,
           ⟨some 8, .mv (.t 17), none⟩])))))))
   (.seq (.ops [
      ⟨some 18, .mv (.t 3), none⟩,
      ⟨some 2, .mv (.t 18), none⟩])
    .ret))))⟩
theorem K_sha_high : chkFun DK Pg Try.f38 A_sha_high = true := by kernel_rfl
theorem B_sha_high {args : List AV} {m : Mem} {K : AV → Mem → Prop} (h : vcFun DK Pg A_sha_high args m K) : ACall Pg F_sha_high args m K := call_body mixed Try.func38 (by kernel_rfl) K_sha_high h

noncomputable def A_bits_RotateLeft32 : AFun := ⟨2, 17, [.t 4],
 (.seq (.ops [
   ⟨some 4, .mv (.c (.int .u32 0)), none⟩])
 (.seq (.ops [
    ⟨some 6, .mv (.t 1), none⟩,
    ⟨some 7, .conv .u64 (.t 6), none⟩,
    ⟨some 8, .bin .and (.t 7) (.c (.int .u64 31)), none⟩,
    ⟨some 5, .mv (.t 8), none⟩])
  (.seq (.ops [
     ⟨some 9, .mv (.t 0), none⟩,
     ⟨some 10, .mv (.t 5), none⟩,
     ⟨some 11, .bin .shl (.t 9) (.t 10), none⟩,
     ⟨some 12, .mv (.t 0), none⟩,
     ⟨some 13, .mv (.t 5), none⟩,
     ⟨some 14, .bin .sub (.c (.int .u64 32)) (.t 13), none⟩,
     ⟨some 15, .bin .shr (.t 12) (.t 14), none⟩,
     ⟨some 16, .bin .or (.t 11) (.t 15), none⟩,
     ⟨some 4, .mv (.t 16), none⟩])
   .ret)))⟩
theorem K_bits_RotateLeft32 : chkFun DK Pg Try.f39 A_bits_RotateLeft32 = true := by kernel_rfl
theorem B_bits_RotateLeft32 {args : List AV} {m : Mem} {K : AV → Mem → Prop} (h : vcFun DK Pg A_bits_RotateLeft32 args m K) : ACall Pg F_bits_RotateLeft32 args m K := call_body mixed Try.func39 (by kernel_rfl) K_bits_RotateLeft32 h

noncomputable def A_witanref04_k256 : AFun := ⟨0, 2, [.cell 0 64 true],
 (.seq (.ops [
   ⟨some 0, .alloc 1 64 [.int .u32 0], none⟩])
 (.seq (.ops [
    ⟨some 1, .build (List.replicate 64 (.int .u32 0)) [(0, 1, .c (.int .u32 1116352408)), (1, 1, .c (.int .u32 1899447441)), (2, 1, .c (.int .u32 3049323471)), (3, 1, .c (.int .u32 3921009573)), (4, 1, .c (.int .u32 961987163)), (5, 1, .c (.int .u32 1508970993)), (6, 1, .c (.int .u32 2453635748)), (7, 1, .c (.int .u32 2870763221)), (8, 1, .c (.int .u32 3624381080)), (9, 1, .c (.int .u32 310598401)), (10, 1, .c (.int .u32 607225278)), (11, 1, .c (.int .u32 1426881987)), (12, 1, .c (.int .u32 1925078388)), (13, 1, .c (.int .u32 2162078206)), (14, 1, .c (.int .u32 2614888103)), (15, 1, .c (.int .u32 3248222580)), (16, 1, .c (.int .u32 3835390401)), (17, 1, .c (.int .u32 4022224774)), (18, 1, .c (.int .u32 264347078)), (19, 1, .c (.int .u32 604807628)), (20, 1, .c (.int .u32 770255983)), (21, 1, .c (.int .u32 1249150122)), (22, 1, .c (.int .u32 1555081692)), (23, 1, .c (.int .u32 1996064986)), (24, 1, .c (.int .u32 2554220882)), (25, 1, .c (.int .u32 2821834349)), (26, 1, .c (.int .u32 2952996808)), (27, 1, .c (.int .u32 3210313671)), (28, 1, .c (.int .u32 3336571891)), (29, 1, .c (.int .u32 3584528711)), (30, 1, .c (.int .u32 113926993)), (31, 1, .c (.int .u32 338241895)), (32, 1, .c (.int .u32 666307205)), (33, 1, .c (.int .u32 773529912)), (34, 1, .c (.int .u32 1294757372)), (35, 1, .c (.int .u32 1396182291)), (36, 1, .c (.int .u32 1695183700)), (37, 1, .c (.int .u32 1986661051)), (38, 1, .c (.int .u32 2177026350)), (39, 1, .c (.int .u32 2456956037)), (40, 1, .c (.int .u32 2730485921)), (41, 1, .c (.int .u32 2820302411)), (42, 1, .c (.int .u32 3259730800)), (43, 1, .c (.int .u32 3345764771)), (44, 1, .c (.int .u32 3516065817)), (45, 1, .c (.int .u32 3600352804)), (46, 1, .c (.int .u32 4094571909)), (47, 1, .c (.int .u32 275423344)), (48, 1, .c (.int .u32 430227734)), (49, 1, .c (.int .u32 506948616)), (50, 1, .c (.int .u32 659060556)), (51, 1, .c (.int .u32 883997877)), (52, 1, .c (.int .u32 958139571)), (53, 1, .c (.int .u32 1322822218)), (54, 1, .c (.int .u32 1537002063)), (55, 1, .c (.int .u32 1747873779)), (56, 1, .c (.int .u32 1955562222)), (57, 1, .c (.int .u32 2024104815)), (58, 1, .c (.int .u32 2227730452)), (59, 1, .c (.int .u32 2361852424)), (60, 1, .c (.int .u32 2428436474)), (61, 1, .c (.int .u32 2756734187)), (62, 1, .c (.int .u32 3204031479)), (63, 1, .c (.int .u32 3329325298))], none⟩,
    ⟨none, .store 64 (.t 0) (.t 1), none⟩])
  .ret))⟩
theorem K_witanref04_k256 : chkFun DK Pg Try.f40 A_witanref04_k256 = true := by kernel_rfl
theorem B_witanref04_k256 {args : List AV} {m : Mem} {K : AV → Mem → Prop} (h : vcFun DK Pg A_witanref04_k256 args m K) : ACall Pg F_witanref04_k256 args m K := call_body mixed Try.func40 (by kernel_rfl) K_witanref04_k256 h

noncomputable def A_witanref04_padded : AFun := ⟨1, 37, [.t 2],
 (.seq (.ops [
   ⟨some 2, .mv (.c (.nils)), none⟩])
 (.seq (.ops [
    ⟨some 3, .mv (.c (.nils)), none⟩])
  (.seq (.ops [
     ⟨some 6, .mv (.t 3), none⟩,
     ⟨some 7, .mv (.t 0), none⟩,
     ⟨some 8, .app 1 1 (.t 6) (.t 7), none⟩,
     ⟨some 9, .bsl 1 1 [.int .u8 0] [(0, 1, .c (.int .u8 128))], none⟩,
     ⟨some 10, .app 1 1 (.t 8) (.t 9), none⟩,
     ⟨some 3, .mv (.t 10), none⟩])
   (.seq (.block 0
     (.loop
      (.seq (.seq (.ops [
          ⟨some 11, .mv (.t 3), none⟩,
          ⟨some 12, .len (.t 11), none⟩,
          ⟨some 13, .bin .add (.t 12) (.c (.int .i64 8)), none⟩,
          ⟨some 14, .bin .rem (.t 13) (.c (.int .i64 64)), none⟩,
          ⟨some 15, .bin .neq (.t 14) (.c (.int .i64 0)), none⟩])
        (.cond (.t 15)
         .skip
         (.exit 0)))
       (.block 1
        (.ops [
          ⟨some 16, .mv (.t 3), none⟩,
          ⟨some 17, .bsl 1 1 [.int .u8 0] [(0, 1, .c (.int .u8 0))], none⟩,
          ⟨some 18, .app 1 1 (.t 16) (.t 17), none⟩,
          ⟨some 3, .mv (.t 18), none⟩])))))
    (.seq (.ops [
       ⟨some 19, .mv (.t 0), none⟩,
       ⟨some 20, .len (.t 19), none⟩,
       ⟨some 21, .conv .u64 (.t 20), none⟩,
       ⟨some 22, .bin .mul (.t 21) (.c (.int .u64 8)), none⟩,
       ⟨some 4, .mv (.t 22), none⟩])
     (.seq (.seq (.ops [
         ⟨some 5, .mv (.c (.int .i64 7)), none⟩])
       (.block 2
        (.loop
         (.seq (.seq (.ops [
             ⟨some 23, .mv (.t 5), none⟩,
             ⟨some 24, .bin .geq (.t 23) (.c (.int .i64 0)), none⟩])
           (.cond (.t 24)
            .skip
            (.exit 2)))
          (.seq (.block 3
            (.ops [
              ⟨some 27, .mv (.t 3), none⟩,
              ⟨some 28, .mv (.t 4), none⟩,
              ⟨some 29, .mv (.t 5), none⟩,
              ⟨some 30, .conv .u64 (.t 29), none⟩,
              ⟨some 31, .bin .mul (.c (.int .u64 8)) (.t 30), none⟩,
              ⟨some 32, .bin .shr (.t 28) (.t 31), none⟩,
              ⟨some 33, .conv .u8 (.t 32), none⟩,
              ⟨some 34, .bsl 1 1 [.int .u8 0] [(0, 1, .t 33)], none⟩,
              ⟨some 35, .app 1 1 (.t 27) (.t 34), none⟩,
              ⟨some 3, .mv (.t 35), none⟩]))
           (.ops [
             ⟨some 25, .mv (.t 5), none⟩,
             ⟨some 26, .bin .sub (.t 25) (.c (.int .i64 1)), none⟩,
             ⟨some 5, .mv (.t 26), none⟩]))))))
      (.seq (.ops [
         ⟨some 36, .mv (.t 3), none⟩,
         ⟨some 2, .mv (.t 36), none⟩])
       .ret)))))))⟩
theorem K_witanref04_padded : chkFun DK Pg Try.f41 A_witanref04_padded = true := by kernel_rfl
theorem B_witanref04_padded {args : List AV} {m : Mem} {K : AV → Mem → Prop} (h : vcFun DK Pg A_witanref04_padded args m K) : ACall Pg F_witanref04_padded args m K := call_body mixed Try.func41 (by kernel_rfl) K_witanref04_padded h

noncomputable def A_witanref04_rot32 : AFun := ⟨2, 9, [.t 4],
 (.seq (.ops [
   ⟨some 4, .mv (.c (.int .u32 0)), none⟩])
 (.seq (.ops [
    ⟨some 5, .mv (.t 0), none⟩,
    ⟨some 6, .mv (.t 1), none⟩,
    ⟨some 7, .un .neg (.t 6), none⟩,
    ⟨some 8, .call (.c (.fn F_bits_RotateLeft32 [])) [.t 5, .t 7], none⟩,
    ⟨some 4, .mv (.t 8), none⟩])
  .ret))⟩
theorem K_witanref04_rot32 : chkFun DK Pg Try.f42 A_witanref04_rot32 = true := by kernel_rfl
theorem B_witanref04_rot32 {args : List AV} {m : Mem} {K : AV → Mem → Prop} (h : vcFun DK Pg A_witanref04_rot32 args m K) : ACall Pg F_witanref04_rot32 args m K := call_body mixed Try.func42 (by kernel_rfl) K_witanref04_rot32 h

noncomputable def A_witanref04_join : AFun := ⟨1, 18, [.t 2],
 (.seq (.ops [
   ⟨some 2, .mv (.c (.nils)), none⟩])
 (.seq (.ops [
    ⟨some 3, .mv (.c (.nils)), none⟩])
  (.seq (.seq (.ops [
      ⟨some 4, .mv (.c (.int .i64 0)), none⟩])
    (.block 0
     (.loop
      (.seq (.seq (.ops [
          ⟨some 5, .mv (.t 4), none⟩,
          ⟨some 6, .mv (.t 0), none⟩,
          ⟨some 7, .len (.t 6), none⟩,
          ⟨some 8, .bin .lss (.t 5) (.t 7), none⟩])
        (.cond (.t 8)
         .skip
         (.exit 0)))
       (.seq (.block 1
         (.ops [
           ⟨some 11, .mv (.t 3), none⟩,
           ⟨some 12, .mv (.t 0), none⟩,
           ⟨some 13, .mv (.t 4), none⟩,
           ⟨some 14, .idxA 1 (.t 12) (.t 13), none⟩,
           ⟨some 15, .load 1 false (.t 14), none⟩,
           ⟨some 16, .app 1 1 (.t 11) (.t 15), none⟩,
           ⟨some 3, .mv (.t 16), none⟩]))
        (.ops [
          ⟨some 9, .mv (.t 4), none⟩,
          ⟨some 10, .bin .add (.t 9) (.c (.int .i64 1)), none⟩,
          ⟨some 4, .mv (.t 10), none⟩]))))))
   (.seq (.ops [
      ⟨some 17, .mv (.t 3), none⟩,
      ⟨some 2, .mv (.t 17), none⟩])
    .ret))))⟩
theorem K_witanref04_join : chkFun DK Pg Try.f43 A_witanref04_join = true := by kernel_rfl
theorem B_witanref04_join {args : List AV} {m : Mem} {K : AV → Mem → Prop} (h : vcFun DK Pg A_witanref04_join args m K) : ACall Pg F_witanref04_join args m K := call_body mixed Try.func43 (by kernel_rfl) K_witanref04_join h

end Go.Proofs.Ytdobchoiiihfiaa
