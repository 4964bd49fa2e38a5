import Derived.Test.YtkkddgdcmdnnmaaEB
import Derived.Test.YtkkddgdcmdnnmaaRows
set_option linter.unusedVariables false
set_option linter.unusedSimpArgs false
namespace Go.Proofs.Ytkkddgdcmdnnmaa
open Go Go.Sx Go.Proofs
def x5 : XC :=
 .seq (.ops [⟨some 6, .mv (.k (.bool false)), none, []⟩])
 (.seq (.ops [⟨some 15, .mv (.t 0), none, []⟩,
 ⟨some 16, .call (.k (.fn 11 [])) [(.t 15)], none, []⟩,
 ⟨some 17, .mv (.t 0), none, []⟩,
 ⟨some 18, .build [(.val (.slice none 0 0)), (.lit .i64 0)] [⟨0, 1, (.t 17)⟩], none, []⟩,
 ⟨some 19, .box 41 none (.t 18), none, []⟩,
 ⟨some 7, .mv (.t 16), none, []⟩,
 ⟨some 8, .mv (.t 19), none, []⟩])
 (.seq (.ops [⟨some 21, .mv (.t 7), none, []⟩,
 ⟨some 22, .call (.k (.fn 10 [])) [(.t 21)], none, []⟩,
 ⟨some 20, .mv (.t 22), none, []⟩,
 ⟨some 23, .extract (.t 20) 0, none, []⟩,
 ⟨some 24, .extract (.t 20) 1, none, []⟩,
 ⟨some 9, .mv (.t 23), none, []⟩,
 ⟨some 10, .mv (.t 24), none, []⟩])
 (.seq (.ops [⟨some 26, .mv (.t 8), none, []⟩,
 ⟨some 27, .call (.k (.fn 20 [])) [(.t 26)], none, []⟩,
 ⟨some 25, .mv (.t 27), none, []⟩,
 ⟨some 28, .extract (.t 25) 0, none, []⟩,
 ⟨some 29, .extract (.t 25) 1, none, []⟩,
 ⟨some 11, .mv (.t 28), none, []⟩,
 ⟨some 12, .mv (.t 29), none, []⟩])
 (.seq (.seq (.ops [⟨some 30, .mv (.t 10), none, []⟩,
 ⟨some 31, .mv (.t 12), none, []⟩,
 ⟨some 32, .cmp .neq (.t 30) (.t 31), none, []⟩,
 ⟨some 33, .mv (.t 32), none, []⟩,
 ⟨some 34, .mv (.t 10), some (33, false), []⟩,
 ⟨some 35, .cmp .eql (.t 34) (.k (.lit .i64 0)), some (33, false), []⟩,
 ⟨some 36, .mv (.t 35), some (33, false), []⟩,
 ⟨some 37, .mv (.t 9), some (36, true), []⟩,
 ⟨some 38, .mv (.t 11), some (36, true), []⟩,
 ⟨some 39, .cmp .neq (.t 37) (.t 38), some (36, true), []⟩,
 ⟨some 40, .pick (.t 36) (.t 39) (.k (.bool false)), some (33, false), []⟩,
 ⟨some 41, .pick (.t 33) (.k (.bool true)) (.t 40), none, []⟩])
 (.cond (.t 41) (.seq (.ops [⟨some 6, .mv (.k (.bool false)), none, []⟩])
 (.ret)) (.skip)))
 (.seq (.seq (.ops [⟨some 42, .mv (.t 10), none, []⟩,
 ⟨some 43, .cmp .neq (.t 42) (.k (.lit .i64 0)), none, []⟩])
 (.cond (.t 43) (.seq (.ops [⟨some 44, .call (.k (.fn 14 [])) [], none, []⟩,
 ⟨some 6, .mv (.t 44), none, []⟩])
 (.ret)) (.skip)))
 (.seq (.ops [⟨some 46, .mv (.t 7), none, []⟩,
 ⟨some 47, .mv (.t 1), none, []⟩,
 ⟨some 48, .mv (.t 2), none, []⟩,
 ⟨some 49, .call (.k (.fn 9 [])) [(.t 46), (.t 47), (.t 48)], none, []⟩,
 ⟨some 45, .mv (.t 49), none, []⟩,
 ⟨some 50, .extract (.t 45) 0, none, []⟩,
 ⟨some 51, .extract (.t 45) 1, none, []⟩,
 ⟨some 13, .mv (.t 50), none, []⟩,
 ⟨some 10, .mv (.t 51), none, []⟩])
 (.seq (.ops [⟨some 53, .mv (.t 8), none, []⟩,
 ⟨some 54, .mv (.t 1), none, []⟩,
 ⟨some 55, .mv (.t 2), none, []⟩,
 ⟨some 56, .call (.k (.fn 21 [])) [(.t 53), (.t 54), (.t 55)], none, []⟩,
 ⟨some 52, .mv (.t 56), none, []⟩,
 ⟨some 57, .extract (.t 52) 0, none, []⟩,
 ⟨some 58, .extract (.t 52) 1, none, []⟩,
 ⟨some 14, .mv (.t 57), none, []⟩,
 ⟨some 12, .mv (.t 58), none, []⟩])
 (.seq (.ops [⟨some 59, .mv (.t 10), none, []⟩,
 ⟨some 60, .mv (.t 12), none, []⟩,
 ⟨some 61, .cmp .eql (.t 59) (.t 60), none, []⟩,
 ⟨some 62, .mv (.t 61), none, []⟩,
 ⟨some 63, .mv (.t 13), some (62, true), []⟩,
 ⟨some 64, .bstr (.t 63), some (62, true), []⟩,
 ⟨some 65, .mv (.t 14), some (62, true), []⟩,
 ⟨some 66, .bstr (.t 65), some (62, true), []⟩,
 ⟨some 67, .eqv false 1 (.t 64) (.t 66), some (62, true), []⟩,
 ⟨some 68, .pick (.t 62) (.t 67) (.k (.bool false)), none, []⟩,
 ⟨some 69, .mv (.t 68), none, []⟩,
 ⟨some 70, .mv (.t 10), some (69, true), []⟩,
 ⟨some 71, .cmp .neq (.t 70) (.k (.lit .i64 0)), some (69, true), []⟩,
 ⟨some 72, .mv (.t 71), some (69, true), []⟩,
 ⟨some 73, .mv (.t 7), some (72, false), []⟩,
 ⟨some 74, .call (.k (.fn 18 [])) [(.t 73)], some (72, false), []⟩,
 ⟨some 75, .mv (.t 8), some (72, false), []⟩,
 ⟨some 76, .call (.k (.fn 19 [])) [(.t 75)], some (72, false), []⟩,
 ⟨some 77, .cmp .eql (.t 74) (.t 76), some (72, false), []⟩,
 ⟨some 78, .pick (.t 72) (.k (.bool true)) (.t 77), some (69, true), []⟩,
 ⟨some 79, .pick (.t 69) (.t 78) (.k (.bool false)), none, []⟩,
 ⟨some 80, .mv (.t 79), none, []⟩,
 ⟨some 81, .call (.k (.fn 14 [])) [], some (80, true), []⟩,
 ⟨some 82, .pick (.t 80) (.t 81) (.k (.bool false)), none, []⟩,
 ⟨some 6, .mv (.t 82), none, []⟩])
 (.ret)))))))))
theorem fn5 : FnOk Try.prog 5 x5 83 [6] := FnOk.of Try.call5 Try.func5 (by kernel_rfl) Try.ntmps5 (by kernel_rfl)
def x7 : XC :=
 .seq (.ops [⟨some 2, .box 33 none (.t 0), none, []⟩,
 ⟨some 3, .box 3 none (.t 1), none, []⟩,
 ⟨some 4, .newR 24 [(.val (.slice none 0 0)), (.lit .i64 0)], none, []⟩,
 ⟨some 5, .mv (.k (.lit .i64 0)), none, []⟩])
 (.seq (.seq (.ops [⟨some 6, .load1 (.t 2), none, []⟩,
 ⟨some 7, .eqv true 2 (.t 6) (.k (.val (.pointer none))), none, []⟩,
 ⟨some 8, .mv (.t 7), none, []⟩,
 ⟨some 9, .load1 (.t 3), some (8, true), []⟩,
 ⟨some 10, .cmp .lss (.t 9) (.k (.lit .i64 1)), some (8, true), []⟩,
 ⟨some 11, .mv (.t 10), some (8, true), []⟩,
 ⟨some 12, .load1 (.t 3), some (11, false), []⟩,
 ⟨some 13, .cmp .gtr (.t 12) (.k (.lit .i64 1024)), some (11, false), []⟩,
 ⟨some 14, .pick (.t 11) (.k (.bool true)) (.t 13), some (8, true), []⟩,
 ⟨some 15, .pick (.t 8) (.t 14) (.k (.bool false)), none, []⟩])
 (.cond (.t 15) (.seq (.ops [⟨some 16, .build [(.val (.slice none 0 0)), (.lit .i64 0)] [], none, []⟩,
 ⟨none, .storeA 2 (.t 4) (.t 16), none, []⟩,
 ⟨some 5, .mv (.k (.lit .i64 2)), none, []⟩])
 (.ret)) (.skip)))
 (.seq (.ops [⟨some 17, .load1 (.t 2), none, []⟩,
 ⟨some 18, .mkfn 26 [(.t 2), (.t 3)], none, []⟩,
 ⟨some 19, .call (.k (.fn 25 [])) [(.t 17), (.t 18)], none, []⟩,
 ⟨some 20, .extract (.t 19) 0, none, []⟩,
 ⟨some 21, .extract (.t 19) 1, none, []⟩,
 ⟨none, .storeA 2 (.t 4) (.t 20), none, []⟩,
 ⟨some 5, .mv (.t 21), none, []⟩])
 (.ret)))
theorem fn7 : FnOk Try.prog 7 x7 22 [6000004, 5] := FnOk.of Try.call7 Try.func7 (by kernel_rfl) Try.ntmps7 (by kernel_rfl)
def x9 : XC :=
 .seq (.ops [⟨some 3, .box 33 none (.t 0), none, []⟩,
 ⟨some 4, .box 3 none (.t 1), none, []⟩,
 ⟨some 5, .box 3 none (.t 2), none, []⟩,
 ⟨some 6, .mv (.k (.val (.slice none 0 0))), none, []⟩,
 ⟨some 7, .mv (.k (.lit .i64 0)), none, []⟩])
 (.seq (.seq (.ops [⟨some 8, .load1 (.t 3), none, []⟩,
 ⟨some 9, .eqv true 2 (.t 8) (.k (.val (.pointer none))), none, []⟩,
 ⟨some 10, .mv (.t 9), none, []⟩,
 ⟨some 11, .load1 (.t 4), some (10, true), []⟩,
 ⟨some 12, .cmp .lss (.t 11) (.k (.lit .i64 2)), some (10, true), []⟩,
 ⟨some 13, .mv (.t 12), some (10, true), []⟩,
 ⟨some 14, .load1 (.t 4), some (13, false), []⟩,
 ⟨some 15, .cmp .gtr (.t 14) (.k (.lit .i64 256)), some (13, false), []⟩,
 ⟨some 16, .pick (.t 13) (.k (.bool true)) (.t 15), some (10, true), []⟩,
 ⟨some 17, .mv (.t 16), some (10, true), []⟩,
 ⟨some 18, .load1 (.t 5), some (17, false), []⟩,
 ⟨some 19, .cmp .lss (.t 18) (.k (.lit .i64 1)), some (17, false), []⟩,
 ⟨some 20, .pick (.t 17) (.k (.bool true)) (.t 19), some (10, true), []⟩,
 ⟨some 21, .mv (.t 20), some (10, true), []⟩,
 ⟨some 22, .load1 (.t 5), some (21, false), []⟩,
 ⟨some 23, .cmp .gtr (.t 22) (.k (.lit .i64 16384)), some (21, false), []⟩,
 ⟨some 24, .pick (.t 21) (.k (.bool true)) (.t 23), some (10, true), []⟩,
 ⟨some 25, .pick (.t 10) (.t 24) (.k (.bool false)), none, []⟩])
 (.cond (.t 25) (.seq (.ops [⟨some 6, .mv (.k (.val (.slice none 0 0))), none, []⟩,
 ⟨some 7, .mv (.k (.lit .i64 2)), none, []⟩])
 (.ret)) (.skip)))
 (.seq (.ops [⟨some 26, .load1 (.t 3), none, []⟩,
 ⟨some 27, .mkfn 34 [(.t 3), (.t 4), (.t 5)], none, []⟩,
 ⟨some 28, .call (.k (.fn 33 [])) [(.t 26), (.t 27)], none, []⟩,
 ⟨some 29, .extract (.t 28) 0, none, []⟩,
 ⟨some 30, .extract (.t 28) 1, none, []⟩,
 ⟨some 6, .mv (.t 29), none, []⟩,
 ⟨some 7, .mv (.t 30), none, []⟩])
 (.ret)))
theorem fn9 : FnOk Try.prog 9 x9 31 [6, 7] := FnOk.of Try.call9 Try.func9 (by kernel_rfl) Try.ntmps9 (by kernel_rfl)
def x10 : XC :=
 .seq (.ops [⟨some 1, .box 33 none (.t 0), none, []⟩,
 ⟨some 2, .mv (.k (.lit .i64 0)), none, []⟩,
 ⟨some 3, .mv (.k (.lit .i64 0)), none, []⟩])
 (.seq (.ops [⟨some 4, .load1 (.t 1), none, []⟩,
 ⟨some 5, .mkfn 38 [(.t 1)], none, []⟩,
 ⟨some 6, .call (.k (.fn 37 [])) [(.t 4), (.t 5)], none, []⟩,
 ⟨some 7, .extract (.t 6) 0, none, []⟩,
 ⟨some 8, .extract (.t 6) 1, none, []⟩,
 ⟨some 2, .mv (.t 7), none, []⟩,
 ⟨some 3, .mv (.t 8), none, []⟩])
 (.ret))
theorem fn10 : FnOk Try.prog 10 x10 9 [2, 3] := FnOk.of Try.call10 Try.func10 (by kernel_rfl) Try.ntmps10 (by kernel_rfl)
def x11 : XC :=
 .seq (.ops [⟨some 2, .mv (.k (.val (.pointer none))), none, []⟩])
 (.seq (.ops [⟨some 5, .bsliceI 5 .u8 0 [], none, []⟩,
 ⟨some 6, .mv (.t 0), none, []⟩,
 ⟨some 7, .appI 5 .u8 1 (.t 5) (.t 6), none, []⟩,
 ⟨some 3, .newR 22 [(.val (.slice none 0 0))], none, []⟩,
 ⟨none, .store1 (.t 3) (.t 7), none, []⟩])
 (.seq (.ops [⟨some 4, .newR 3 [(.lit .i64 0)], none, []⟩,
 ⟨none, .store1 (.t 4) (.k (.lit .i64 0)), none, []⟩])
 (.seq (.ops [⟨some 8, .mkfn 39 [(.t 4), (.t 3)], none, []⟩,
 ⟨some 9, .mkfn 40 [(.t 3), (.t 4)], none, []⟩,
 ⟨some 10, .build [(.val .nilFunc), (.lit .u64 0), (.lit .i64 0), (.val .nilFunc)] [⟨0, 1, (.t 8)⟩, ⟨3, 1, (.t 9)⟩], none, []⟩,
 ⟨some 11, .box 81 none (.t 10), none, []⟩,
 ⟨some 2, .mv (.t 11), none, []⟩])
 (.ret))))
theorem fn11 : FnOk Try.prog 11 x11 12 [2] := FnOk.of Try.call11 Try.func11 (by kernel_rfl) Try.ntmps11 (by kernel_rfl)
def x14 : XC :=
 .seq (.ops [⟨some 0, .mv (.k (.bool false)), none, []⟩])
 (.seq (.ops [⟨some 7, .build [(.val (.slice none 0 0)), (.lit .i64 0)] [], none, []⟩,
 ⟨some 8, .box 56 none (.t 7), none, []⟩,
 ⟨some 1, .mv (.t 8), none, []⟩])
 (.seq (.ops [⟨some 9, .mv (.t 1), none, []⟩,
 ⟨some 10, .call (.k (.fn 23 [])) [(.t 9), (.k (.lit .u64 1)), (.k (.lit .i64 2))], none, []⟩])
 (.seq (.ops [⟨some 11, .mv (.t 1), none, []⟩,
 ⟨some 12, .call (.k (.fn 23 [])) [(.t 11), (.k (.lit .u64 0)), (.k (.lit .i64 2))], none, []⟩])
 (.seq (.ops [⟨some 13, .mv (.t 1), none, []⟩,
 ⟨some 14, .call (.k (.fn 23 [])) [(.t 13), (.k (.lit .u64 5)), (.k (.lit .i64 8))], none, []⟩])
 (.seq (.ops [⟨some 15, .mv (.t 1), none, []⟩,
 ⟨some 16, .call (.k (.fn 23 [])) [(.t 15), (.k (.lit .u64 19)), (.k (.lit .i64 5))], none, []⟩])
 (.seq (.ops [⟨some 17, .mv (.t 1), none, []⟩,
 ⟨some 18, .call (.k (.fn 22 [])) [(.t 17)], none, []⟩,
 ⟨some 19, .call (.k (.fn 11 [])) [(.t 18)], none, []⟩,
 ⟨some 2, .mv (.t 19), none, []⟩])
 (.seq (.ops [⟨some 21, .mv (.t 2), none, []⟩,
 ⟨some 22, .call (.k (.fn 7 [])) [(.t 21), (.k (.lit .i64 256))], none, []⟩,
 ⟨some 20, .mv (.t 22), none, []⟩,
 ⟨some 23, .extract (.t 20) 0, none, []⟩,
 ⟨some 24, .extract (.t 20) 1, none, []⟩,
 ⟨some 3, .newR 24 [(.val (.slice none 0 0)), (.lit .i64 0)], none, []⟩,
 ⟨none, .storeA 2 (.t 3) (.t 23), none, []⟩,
 ⟨some 4, .mv (.t 24), none, []⟩])
 (.seq (.ops [⟨some 26, .mv (.t 2), none, []⟩,
 ⟨some 27, .call (.k (.fn 10 [])) [(.t 26)], none, []⟩,
 ⟨some 25, .mv (.t 27), none, []⟩,
 ⟨some 28, .extract (.t 25) 0, none, []⟩,
 ⟨some 29, .extract (.t 25) 1, none, []⟩,
 ⟨some 5, .mv (.t 28), none, []⟩,
 ⟨some 6, .mv (.t 29), none, []⟩])
 (.seq (.ops [⟨some 30, .mv (.t 4), none, []⟩,
 ⟨some 31, .cmp .eql (.t 30) (.k (.lit .i64 0)), none, []⟩,
 ⟨some 32, .mv (.t 31), none, []⟩,
 ⟨some 33, .fadr 0 (.t 3), some (32, true), []⟩,
 ⟨some 34, .load1 (.t 33), some (32, true), []⟩,
 ⟨some 35, .len (.t 34), some (32, true), []⟩,
 ⟨some 36, .cmp .eql (.t 35) (.k (.lit .i64 0)), some (32, true), []⟩,
 ⟨some 37, .pick (.t 32) (.t 36) (.k (.bool false)), none, []⟩,
 ⟨some 38, .mv (.t 37), none, []⟩,
 ⟨some 39, .fadr 1 (.t 3), some (38, true), []⟩,
 ⟨some 40, .load1 (.t 39), some (38, true), []⟩,
 ⟨some 41, .cmp .eql (.t 40) (.k (.lit .i64 5)), some (38, true), []⟩,
 ⟨some 42, .pick (.t 38) (.t 41) (.k (.bool false)), none, []⟩,
 ⟨some 43, .mv (.t 42), none, []⟩,
 ⟨some 44, .mv (.t 6), some (43, true), []⟩,
 ⟨some 45, .cmp .eql (.t 44) (.k (.lit .i64 0)), some (43, true), []⟩,
 ⟨some 46, .pick (.t 43) (.t 45) (.k (.bool false)), none, []⟩,
 ⟨some 47, .mv (.t 46), none, []⟩,
 ⟨some 48, .mv (.t 5), some (47, true), []⟩,
 ⟨some 49, .cmp .eql (.t 48) (.k (.lit .i64 4)), some (47, true), []⟩,
 ⟨some 50, .pick (.t 47) (.t 49) (.k (.bool false)), none, []⟩,
 ⟨some 0, .mv (.t 50), none, []⟩])
 (.ret))))))))))
theorem fn14 : FnOk Try.prog 14 x14 51 [0] := FnOk.of Try.call14 Try.func14 (by kernel_rfl) Try.ntmps14 (by kernel_rfl)
def x15 : XC :=
 .seq (.ops [⟨some 4, .newR 44 [(.val (.slice none 0 0)), (.val (.slice none 0 0)), (.lit .i64 0)], none, []⟩,
 ⟨some 5, .mv (.k (.lit .i64 0)), none, []⟩])
 (.seq (.seq (.ops [⟨some 21, .mv (.t 1), none, []⟩,
 ⟨some 22, .cmp .lss (.t 21) (.k (.lit .i64 1)), none, []⟩,
 ⟨some 23, .mv (.t 22), none, []⟩,
 ⟨some 24, .mv (.t 1), some (23, false), []⟩,
 ⟨some 25, .cmp .gtr (.t 24) (.k (.lit .i64 1024)), some (23, false), []⟩,
 ⟨some 26, .pick (.t 23) (.k (.bool true)) (.t 25), none, []⟩])
 (.cond (.t 26) (.seq (.ops [⟨some 27, .build [(.val (.slice none 0 0)), (.val (.slice none 0 0)), (.lit .i64 0)] [], none, []⟩,
 ⟨none, .storeA 3 (.t 4) (.t 27), none, []⟩,
 ⟨some 5, .mv (.k (.lit .i64 2)), none, []⟩])
 (.ret)) (.skip)))
 (.seq (.ops [⟨some 29, .mv (.t 0), none, []⟩,
 ⟨some 30, .call (.k (.fn 47 [])) [(.t 29), (.k (.lit .i64 2))], none, []⟩,
 ⟨some 28, .mv (.t 30), none, []⟩,
 ⟨some 31, .extract (.t 28) 0, none, []⟩,
 ⟨some 32, .extract (.t 28) 1, none, []⟩,
 ⟨some 6, .mv (.t 31), none, []⟩,
 ⟨some 7, .mv (.t 32), none, []⟩])
 (.seq (.seq (.ops [⟨some 33, .mv (.t 7), none, []⟩,
 ⟨some 34, .cmp .neq (.t 33) (.k (.lit .i64 0)), none, []⟩])
 (.cond (.t 34) (.seq (.ops [⟨some 35, .build [(.val (.slice none 0 0)), (.val (.slice none 0 0)), (.lit .i64 0)] [], none, []⟩,
 ⟨some 36, .mv (.t 7), none, []⟩,
 ⟨none, .storeA 3 (.t 4) (.t 35), none, []⟩,
 ⟨some 5, .mv (.t 36), none, []⟩])
 (.ret)) (.skip)))
 (.seq (.seq (.ops [⟨some 37, .mv (.t 6), none, []⟩,
 ⟨some 38, .cmp .eql (.t 37) (.k (.lit .u64 1)), none, []⟩])
 (.cond (.t 38) (.seq (.ops [⟨some 39, .mv (.t 0), none, []⟩,
 ⟨some 40, .mv (.t 1), none, []⟩,
 ⟨some 41, .call (.k (.fn 48 [])) [(.t 39), (.t 40)], none, []⟩,
 ⟨some 42, .extract (.t 41) 0, none, []⟩,
 ⟨some 43, .extract (.t 41) 1, none, []⟩,
 ⟨none, .storeA 3 (.t 4) (.t 42), none, []⟩,
 ⟨some 5, .mv (.t 43), none, []⟩])
 (.ret)) (.skip)))
 (.seq (.ops [⟨some 45, .mv (.t 0), none, []⟩,
 ⟨some 46, .mv (.t 6), none, []⟩,
 ⟨some 47, .conv .i64 (.t 46), none, []⟩,
 ⟨some 48, .call (.k (.fn 49 [])) [(.t 45), (.t 47)], none, []⟩,
 ⟨some 44, .mv (.t 48), none, []⟩,
 ⟨some 49, .extract (.t 44) 0, none, []⟩,
 ⟨some 50, .extract (.t 44) 1, none, []⟩,
 ⟨some 8, .newR 44 [(.val (.slice none 0 0)), (.val (.slice none 0 0)), (.lit .i64 0)], none, []⟩,
 ⟨none, .storeA 3 (.t 8) (.t 49), none, []⟩,
 ⟨some 7, .mv (.t 50), none, []⟩])
 (.seq (.seq (.ops [⟨some 51, .mv (.t 7), none, []⟩,
 ⟨some 52, .cmp .neq (.t 51) (.k (.lit .i64 0)), none, []⟩])
 (.cond (.t 52) (.seq (.ops [⟨some 53, .build [(.val (.slice none 0 0)), (.val (.slice none 0 0)), (.lit .i64 0)] [], none, []⟩,
 ⟨some 54, .mv (.t 7), none, []⟩,
 ⟨none, .storeA 3 (.t 4) (.t 53), none, []⟩,
 ⟨some 5, .mv (.t 54), none, []⟩])
 (.ret)) (.skip)))
 (.seq (.ops [⟨some 55, .mv (.t 1), none, []⟩,
 ⟨some 56, .mkslI 5 .u8 1 (.t 55) (.t 55), none, []⟩,
 ⟨some 9, .mv (.t 56), none, []⟩])
 (.seq (.ops [⟨some 10, .mv (.k (.lit .i64 0)), none, []⟩,
 ⟨some 11, .mv (.k (.lit .i64 0)), none, []⟩,
 ⟨some 12, .mv (.k (.lit .u8 8)), none, []⟩,
 ⟨some 13, .mv (.k (.lit .i64 0)), none, []⟩,
 ⟨some 14, .mv (.k (.lit .i64 0)), none, []⟩])
 (.seq (.block 0 (.loop (.seq (.seq (.ops [⟨some 57, .mv (.t 10), none, []⟩,
 ⟨some 58, .mv (.t 1), none, []⟩,
 ⟨some 59, .cmp .lss (.t 57) (.t 58), none, []⟩,
 ⟨some 60, .mv (.t 59), none, []⟩,
 ⟨some 61, .mv (.t 11), some (60, true), []⟩,
 ⟨some 62, .cmp .lss (.t 61) (.k (.lit .i64 32768)), some (60, true), []⟩,
 ⟨some 63, .pick (.t 60) (.t 62) (.k (.bool false)), none, []⟩])
 (.cond (.t 63) (.skip) (.exit 0)))
 (.block 1 (.seq (.ops [⟨some 65, .mv (.t 0), none, []⟩,
 ⟨some 66, .loadA 3 (.t 8), none, []⟩,
 ⟨some 67, .call (.k (.fn 17 [])) [(.t 65), (.t 66)], none, []⟩,
 ⟨some 64, .mv (.t 67), none, []⟩,
 ⟨some 68, .extract (.t 64) 0, none, []⟩,
 ⟨some 69, .extract (.t 64) 1, none, []⟩,
 ⟨some 15, .mv (.t 68), none, []⟩,
 ⟨some 16, .mv (.t 69), none, []⟩])
 (.seq (.seq (.ops [⟨some 70, .mv (.t 16), none, []⟩,
 ⟨some 71, .cmp .neq (.t 70) (.k (.lit .i64 0)), none, []⟩])
 (.cond (.t 71) (.seq (.ops [⟨some 72, .build [(.val (.slice none 0 0)), (.val (.slice none 0 0)), (.lit .i64 0)] [], none, []⟩,
 ⟨some 73, .mv (.t 16), none, []⟩,
 ⟨none, .storeA 3 (.t 4) (.t 72), none, []⟩,
 ⟨some 5, .mv (.t 73), none, []⟩])
 (.ret)) (.skip)))
 (.seq (.seq (.ops [⟨some 74, .mv (.t 15), none, []⟩,
 ⟨some 75, .cmp .lss (.t 74) (.k (.lit .i64 16)), none, []⟩])
 (.cond (.t 75) (.seq (.ops [⟨some 76, .mv (.t 9), none, []⟩,
 ⟨some 77, .mv (.t 10), none, []⟩,
 ⟨some 78, .mv (.t 15), none, []⟩,
 ⟨some 79, .conv .u8 (.t 78), none, []⟩,
 ⟨some 80, .iadr 1 (.t 76) (.t 77), none, []⟩,
 ⟨none, .store1 (.t 80) (.t 79), none, []⟩])
 (.seq (.ops [⟨some 81, .mv (.t 10), none, []⟩,
 ⟨some 82, .bin .add .i64 (.t 81) (.k (.lit .i64 1)), none, []⟩,
 ⟨some 10, .mv (.t 82), none, []⟩])
 (.seq (.ops [⟨some 14, .mv (.k (.lit .i64 0)), none, []⟩])
 (.seq (.seq (.ops [⟨some 83, .mv (.t 15), none, []⟩,
 ⟨some 84, .cmp .gtr (.t 83) (.k (.lit .i64 0)), none, []⟩])
 (.cond (.t 84) (.seq (.ops [⟨some 85, .mv (.t 15), none, []⟩,
 ⟨some 86, .conv .u8 (.t 85), none, []⟩,
 ⟨some 12, .mv (.t 86), none, []⟩])
 (.ops [⟨some 87, .mv (.t 11), none, []⟩,
 ⟨some 88, .mv (.t 15), none, []⟩,
 ⟨some 89, .bin .sub .i64 (.k (.lit .i64 15)) (.t 88), none, []⟩,
 ⟨some 90, .conv .u64 (.t 89), none, []⟩,
 ⟨some 91, .bin .shl .i64 (.k (.lit .i64 1)) (.t 90), none, []⟩,
 ⟨some 92, .bin .add .i64 (.t 87) (.t 91), none, []⟩,
 ⟨some 11, .mv (.t 92), none, []⟩])) (.skip)))
 (.exit 1))))) (.skip)))
 (.seq (.ops [⟨some 93, .mv (.t 15), none, []⟩,
 ⟨some 94, .bin .sub .i64 (.t 93) (.k (.lit .i64 14)), none, []⟩,
 ⟨some 17, .mv (.t 94), none, []⟩])
 (.seq (.ops [⟨some 96, .mv (.t 0), none, []⟩,
 ⟨some 97, .mv (.t 17), none, []⟩,
 ⟨some 98, .call (.k (.fn 47 [])) [(.t 96), (.t 97)], none, []⟩,
 ⟨some 95, .mv (.t 98), none, []⟩,
 ⟨some 99, .extract (.t 95) 0, none, []⟩,
 ⟨some 100, .extract (.t 95) 1, none, []⟩,
 ⟨some 18, .mv (.t 99), none, []⟩,
 ⟨some 16, .mv (.t 100), none, []⟩])
 (.seq (.seq (.ops [⟨some 101, .mv (.t 16), none, []⟩,
 ⟨some 102, .cmp .neq (.t 101) (.k (.lit .i64 0)), none, []⟩])
 (.cond (.t 102) (.seq (.ops [⟨some 103, .build [(.val (.slice none 0 0)), (.val (.slice none 0 0)), (.lit .i64 0)] [], none, []⟩,
 ⟨some 104, .mv (.t 16), none, []⟩,
 ⟨none, .storeA 3 (.t 4) (.t 103), none, []⟩,
 ⟨some 5, .mv (.t 104), none, []⟩])
 (.ret)) (.skip)))
 (.seq (.ops [⟨some 19, .mv (.k (.lit .i64 0)), none, []⟩])
 (.seq (.seq (.ops [⟨some 105, .mv (.t 14), none, []⟩,
 ⟨some 106, .mv (.t 15), none, []⟩,
 ⟨some 107, .cmp .eql (.t 105) (.t 106), none, []⟩])
 (.cond (.t 107) (.seq (.ops [⟨some 108, .mv (.t 13), none, []⟩,
 ⟨some 19, .mv (.t 108), none, []⟩])
 (.ops [⟨some 109, .mv (.t 13), none, []⟩,
 ⟨some 110, .bin .sub .i64 (.t 109) (.k (.lit .i64 2)), none, []⟩,
 ⟨some 111, .mv (.t 17), none, []⟩,
 ⟨some 112, .conv .u64 (.t 111), none, []⟩,
 ⟨some 113, .bin .shl .i64 (.t 110) (.t 112), none, []⟩,
 ⟨some 13, .mv (.t 113), none, []⟩])) (.ops [⟨some 13, .mv (.k (.lit .i64 0)), none, []⟩])))
 (.seq (.ops [⟨some 114, .mv (.t 15), none, []⟩,
 ⟨some 14, .mv (.t 114), none, []⟩])
 (.seq (.ops [⟨some 115, .mv (.t 13), none, []⟩,
 ⟨some 116, .mv (.t 18), none, []⟩,
 ⟨some 117, .conv .i64 (.t 116), none, []⟩,
 ⟨some 118, .bin .add .i64 (.k (.lit .i64 3)) (.t 117), none, []⟩,
 ⟨some 119, .bin .add .i64 (.t 115) (.t 118), none, []⟩,
 ⟨some 13, .mv (.t 119), none, []⟩])
 (.seq (.seq (.ops [⟨some 120, .mv (.t 10), none, []⟩,
 ⟨some 121, .mv (.t 13), none, []⟩,
 ⟨some 122, .bin .add .i64 (.t 120) (.t 121), none, []⟩,
 ⟨some 123, .mv (.t 19), none, []⟩,
 ⟨some 124, .bin .sub .i64 (.t 122) (.t 123), none, []⟩,
 ⟨some 125, .mv (.t 1), none, []⟩,
 ⟨some 126, .cmp .gtr (.t 124) (.t 125), none, []⟩])
 (.cond (.t 126) (.seq (.ops [⟨some 127, .build [(.val (.slice none 0 0)), (.val (.slice none 0 0)), (.lit .i64 0)] [], none, []⟩,
 ⟨none, .storeA 3 (.t 4) (.t 127), none, []⟩,
 ⟨some 5, .mv (.k (.lit .i64 11)), none, []⟩])
 (.ret)) (.skip)))
 (.seq (.ops [⟨some 128, .mv (.t 19), none, []⟩,
 ⟨some 20, .mv (.t 128), none, []⟩])
 (.block 2 (.loop (.seq (.seq (.ops [⟨some 129, .mv (.t 20), none, []⟩,
 ⟨some 130, .mv (.t 13), none, []⟩,
 ⟨some 131, .cmp .lss (.t 129) (.t 130), none, []⟩])
 (.cond (.t 131) (.skip) (.exit 2)))
 (.seq (.block 3 (.seq (.seq (.ops [⟨some 134, .mv (.t 15), none, []⟩,
 ⟨some 135, .cmp .eql (.t 134) (.k (.lit .i64 16)), none, []⟩])
 (.cond (.t 135) (.seq (.ops [⟨some 136, .mv (.t 9), none, []⟩,
 ⟨some 137, .mv (.t 10), none, []⟩,
 ⟨some 138, .mv (.t 12), none, []⟩,
 ⟨some 139, .iadr 1 (.t 136) (.t 137), none, []⟩,
 ⟨none, .store1 (.t 139) (.t 138), none, []⟩])
 (.ops [⟨some 140, .mv (.t 11), none, []⟩,
 ⟨some 141, .mv (.t 12), none, []⟩,
 ⟨some 142, .bin .sub .u8 (.k (.lit .u8 15)) (.t 141), none, []⟩,
 ⟨some 143, .conv .u64 (.t 142), none, []⟩,
 ⟨some 144, .bin .shl .i64 (.k (.lit .i64 1)) (.t 143), none, []⟩,
 ⟨some 145, .bin .add .i64 (.t 140) (.t 144), none, []⟩,
 ⟨some 11, .mv (.t 145), none, []⟩])) (.skip)))
 (.ops [⟨some 146, .mv (.t 10), none, []⟩,
 ⟨some 147, .bin .add .i64 (.t 146) (.k (.lit .i64 1)), none, []⟩,
 ⟨some 10, .mv (.t 147), none, []⟩])))
 (.ops [⟨some 132, .mv (.t 20), none, []⟩,
 ⟨some 133, .bin .add .i64 (.t 132) (.k (.lit .i64 1)), none, []⟩,
 ⟨some 20, .mv (.t 133), none, []⟩])))))))))))))))))))))
 (.seq (.seq (.ops [⟨some 148, .mv (.t 11), none, []⟩,
 ⟨some 149, .cmp .neq (.t 148) (.k (.lit .i64 32768)), none, []⟩])
 (.cond (.t 149) (.seq (.ops [⟨some 150, .build [(.val (.slice none 0 0)), (.val (.slice none 0 0)), (.lit .i64 0)] [], none, []⟩,
 ⟨none, .storeA 3 (.t 4) (.t 150), none, []⟩,
 ⟨some 5, .mv (.k (.lit .i64 11)), none, []⟩])
 (.ret)) (.skip)))
 (.seq (.ops [⟨some 151, .mv (.t 9), none, []⟩,
 ⟨some 152, .call (.k (.fn 50 [])) [(.t 151)], none, []⟩,
 ⟨none, .storeA 3 (.t 4) (.t 152), none, []⟩,
 ⟨some 5, .mv (.k (.lit .i64 0)), none, []⟩])
 (.ret))))))))))))
theorem fn15 : FnOk Try.prog 15 x15 153 [8000004, 5] := FnOk.of Try.call15 Try.func15 (by kernel_rfl) Try.ntmps15 (by kernel_rfl)
def x17 : XC :=
 .seq (.ops [⟨some 3, .box 44 none (.t 1), none, []⟩,
 ⟨some 4, .mv (.k (.lit .i64 0)), none, []⟩,
 ⟨some 5, .mv (.k (.lit .i64 0)), none, []⟩])
 (.seq (.seq (.ops [⟨some 6, .fadr 0 (.t 3), none, []⟩,
 ⟨some 7, .load1 (.t 6), none, []⟩,
 ⟨some 8, .len (.t 7), none, []⟩,
 ⟨some 9, .cmp .eql (.t 8) (.k (.lit .i64 0)), none, []⟩])
 (.cond (.t 9) (.seq (.ops [⟨some 10, .fadr 2 (.t 3), none, []⟩,
 ⟨some 11, .load1 (.t 10), none, []⟩,
 ⟨some 4, .mv (.t 11), none, []⟩,
 ⟨some 5, .mv (.k (.lit .i64 0)), none, []⟩])
 (.ret)) (.skip)))
 (.seq (.ops [⟨some 12, .mv (.t 0), none, []⟩,
 ⟨some 13, .fadr 0 (.t 3), none, []⟩,
 ⟨some 14, .load1 (.t 13), none, []⟩,
 ⟨some 15, .fadr 1 (.t 3), none, []⟩,
 ⟨some 16, .load1 (.t 15), none, []⟩,
 ⟨some 17, .call (.k (.fn 51 [])) [(.t 12), (.t 14), (.t 16)], none, []⟩,
 ⟨some 18, .extract (.t 17) 0, none, []⟩,
 ⟨some 19, .extract (.t 17) 1, none, []⟩,
 ⟨some 4, .mv (.t 18), none, []⟩,
 ⟨some 5, .mv (.t 19), none, []⟩])
 (.ret)))
theorem fn17 : FnOk Try.prog 17 x17 20 [4, 5] := FnOk.of Try.call17 Try.func17 (by kernel_rfl) Try.ntmps17 (by kernel_rfl)
def x18 : XC :=
 .seq (.ops [⟨some 2, .mv (.k (.lit .i64 0)), none, []⟩])
 (.seq (.seq (.ops [⟨some 3, .mv (.t 0), none, []⟩,
 ⟨some 4, .eqv false 2 (.t 3) (.k (.val (.pointer none))), none, []⟩])
 (.cond (.t 4) (.seq (.ops [⟨some 2, .mv (.k (.lit .i64 0)), none, []⟩])
 (.ret)) (.skip)))
 (.seq (.ops [⟨some 5, .mv (.t 0), none, []⟩,
 ⟨some 6, .nilchk (.t 5), none, []⟩,
 ⟨some 7, .fadr 2 (.t 6), none, []⟩,
 ⟨some 8, .load1 (.t 7), none, []⟩,
 ⟨some 9, .mv (.t 0), none, []⟩,
 ⟨some 10, .nilchk (.t 9), none, []⟩,
 ⟨some 11, .fadr 3 (.t 10), none, []⟩,
 ⟨some 12, .load1 (.t 11), none, []⟩,
 ⟨some 13, .call (.t 12) [], none, [(.load1 (.t 7), 8, none)]⟩,
 ⟨some 14, .bin .add .i64 (.t 8) (.t 13), none, []⟩,
 ⟨some 2, .mv (.t 14), none, []⟩])
 (.ret)))
theorem fn18 : FnOk Try.prog 18 x18 15 [2] := FnOk.of Try.call18 Try.func18 (by kernel_rfl) Try.ntmps18 (by kernel_rfl)
def x19 : XC :=
 .seq (.ops [⟨some 2, .mv (.k (.lit .i64 0)), none, []⟩])
 (.seq (.ops [⟨some 3, .mv (.t 0), none, []⟩,
 ⟨some 4, .nilchk (.t 3), none, []⟩,
 ⟨some 5, .fadr 0 (.t 4), none, []⟩,
 ⟨some 6, .load1 (.t 5), none, []⟩,
 ⟨some 7, .len (.t 6), none, []⟩,
 ⟨some 8, .bin .mul .i64 (.k (.lit .i64 8)) (.t 7), none, []⟩,
 ⟨some 9, .mv (.t 0), none, []⟩,
 ⟨some 10, .nilchk (.t 9), none, []⟩,
 ⟨some 11, .fadr 1 (.t 10), none, []⟩,
 ⟨some 12, .load1 (.t 11), none, []⟩,
 ⟨some 13, .bin .sub .i64 (.t 8) (.t 12), none, []⟩,
 ⟨some 2, .mv (.t 13), none, []⟩])
 (.ret))
theorem fn19 : FnOk Try.prog 19 x19 14 [2] := FnOk.of Try.call19 Try.func19 (by kernel_rfl) Try.ntmps19 (by kernel_rfl)
def x20 : XC :=
 .seq (.ops [⟨some 2, .mv (.k (.lit .i64 0)), none, []⟩,
 ⟨some 3, .mv (.k (.lit .i64 0)), none, []⟩])
 (.seq (.ops [⟨some 9, .mv (.t 0), none, []⟩,
 ⟨some 10, .call (.k (.fn 47 [])) [(.t 9), (.k (.lit .i64 1))], none, []⟩,
 ⟨some 8, .mv (.t 10), none, []⟩,
 ⟨some 11, .extract (.t 8) 0, none, []⟩,
 ⟨some 12, .extract (.t 8) 1, none, []⟩,
 ⟨some 4, .mv (.t 11), none, []⟩,
 ⟨some 5, .mv (.t 12), none, []⟩])
 (.seq (.seq (.ops [⟨some 13, .mv (.t 5), none, []⟩,
 ⟨some 14, .cmp .neq (.t 13) (.k (.lit .i64 0)), none, []⟩,
 ⟨some 15, .mv (.t 14), none, []⟩,
 ⟨some 16, .mv (.t 4), some (15, false), []⟩,
 ⟨some 17, .cmp .eql (.t 16) (.k (.lit .u64 0)), some (15, false), []⟩,
 ⟨some 18, .pick (.t 15) (.k (.bool true)) (.t 17), none, []⟩])
 (.cond (.t 18) (.seq (.ops [⟨some 19, .mv (.t 5), none, []⟩,
 ⟨some 2, .mv (.k (.lit .i64 1)), none, []⟩,
 ⟨some 3, .mv (.t 19), none, []⟩])
 (.ret)) (.skip)))
 (.seq (.ops [⟨some 21, .mv (.t 0), none, []⟩,
 ⟨some 22, .call (.k (.fn 47 [])) [(.t 21), (.k (.lit .i64 3))], none, []⟩,
 ⟨some 20, .mv (.t 22), none, []⟩,
 ⟨some 23, .extract (.t 20) 0, none, []⟩,
 ⟨some 24, .extract (.t 20) 1, none, []⟩,
 ⟨some 6, .mv (.t 23), none, []⟩,
 ⟨some 5, .mv (.t 24), none, []⟩])
 (.seq (.seq (.ops [⟨some 25, .mv (.t 5), none, []⟩,
 ⟨some 26, .cmp .neq (.t 25) (.k (.lit .i64 0)), none, []⟩])
 (.cond (.t 26) (.seq (.ops [⟨some 27, .mv (.t 5), none, []⟩,
 ⟨some 2, .mv (.k (.lit .i64 0)), none, []⟩,
 ⟨some 3, .mv (.t 27), none, []⟩])
 (.ret)) (.skip)))
 (.seq (.ops [⟨some 29, .mv (.t 0), none, []⟩,
 ⟨some 30, .mv (.t 6), none, []⟩,
 ⟨some 31, .conv .i64 (.t 30), none, []⟩,
 ⟨some 32, .call (.k (.fn 47 [])) [(.t 29), (.t 31)], none, []⟩,
 ⟨some 28, .mv (.t 32), none, []⟩,
 ⟨some 33, .extract (.t 28) 0, none, []⟩,
 ⟨some 34, .extract (.t 28) 1, none, []⟩,
 ⟨some 7, .mv (.t 33), none, []⟩,
 ⟨some 5, .mv (.t 34), none, []⟩])
 (.seq (.seq (.ops [⟨some 35, .mv (.t 5), none, []⟩,
 ⟨some 36, .cmp .neq (.t 35) (.k (.lit .i64 0)), none, []⟩])
 (.cond (.t 36) (.seq (.ops [⟨some 37, .mv (.t 5), none, []⟩,
 ⟨some 2, .mv (.k (.lit .i64 0)), none, []⟩,
 ⟨some 3, .mv (.t 37), none, []⟩])
 (.ret)) (.skip)))
 (.seq (.ops [⟨some 38, .mv (.t 6), none, []⟩,
 ⟨some 39, .bin .shl .i64 (.k (.lit .i64 1)) (.t 38), none, []⟩,
 ⟨some 40, .bin .add .i64 (.t 39) (.k (.lit .i64 1)), none, []⟩,
 ⟨some 41, .mv (.t 7), none, []⟩,
 ⟨some 42, .conv .i64 (.t 41), none, []⟩,
 ⟨some 43, .bin .add .i64 (.t 40) (.t 42), none, []⟩,
 ⟨some 2, .mv (.t 43), none, []⟩,
 ⟨some 3, .mv (.k (.lit .i64 0)), none, []⟩])
 (.ret))))))))
theorem fn20 : FnOk Try.prog 20 x20 44 [2, 3] := FnOk.of Try.call20 Try.func20 (by kernel_rfl) Try.ntmps20 (by kernel_rfl)
def x21 : XC :=
 .seq (.ops [⟨some 6, .mv (.k (.val (.slice none 0 0))), none, []⟩,
 ⟨some 7, .mv (.k (.lit .i64 0)), none, []⟩])
 (.seq (.seq (.ops [⟨some 18, .mv (.t 1), none, []⟩,
 ⟨some 19, .cmp .lss (.t 18) (.k (.lit .i64 2)), none, []⟩,
 ⟨some 20, .mv (.t 19), none, []⟩,
 ⟨some 21, .mv (.t 1), some (20, false), []⟩,
 ⟨some 22, .cmp .gtr (.t 21) (.k (.lit .i64 256)), some (20, false), []⟩,
 ⟨some 23, .pick (.t 20) (.k (.bool true)) (.t 22), none, []⟩,
 ⟨some 24, .mv (.t 23), none, []⟩,
 ⟨some 25, .mv (.t 2), some (24, false), []⟩,
 ⟨some 26, .cmp .lss (.t 25) (.k (.lit .i64 1)), some (24, false), []⟩,
 ⟨some 27, .pick (.t 24) (.k (.bool true)) (.t 26), none, []⟩,
 ⟨some 28, .mv (.t 27), none, []⟩,
 ⟨some 29, .mv (.t 2), some (28, false), []⟩,
 ⟨some 30, .cmp .gtr (.t 29) (.k (.lit .i64 16384)), some (28, false), []⟩,
 ⟨some 31, .pick (.t 28) (.k (.bool true)) (.t 30), none, []⟩])
 (.cond (.t 31) (.seq (.ops [⟨some 6, .mv (.k (.val (.slice none 0 0))), none, []⟩,
 ⟨some 7, .mv (.k (.lit .i64 2)), none, []⟩])
 (.ret)) (.skip)))
 (.seq (.ops [⟨some 33, .mv (.t 0), none, []⟩,
 ⟨some 34, .call (.k (.fn 47 [])) [(.t 33), (.k (.lit .i64 1))], none, []⟩,
 ⟨some 32, .mv (.t 34), none, []⟩,
 ⟨some 35, .extract (.t 32) 0, none, []⟩,
 ⟨some 36, .extract (.t 32) 1, none, []⟩,
 ⟨some 8, .mv (.t 35), none, []⟩,
 ⟨some 9, .mv (.t 36), none, []⟩])
 (.seq (.ops [⟨some 10, .mv (.k (.lit .i64 0)), none, []⟩])
 (.seq (.seq (.ops [⟨some 37, .mv (.t 9), none, []⟩,
 ⟨some 38, .cmp .eql (.t 37) (.k (.lit .i64 0)), none, []⟩,
 ⟨some 39, .mv (.t 38), none, []⟩,
 ⟨some 40, .mv (.t 8), some (39, true), []⟩,
 ⟨some 41, .cmp .eql (.t 40) (.k (.lit .u64 1)), some (39, true), []⟩,
 ⟨some 42, .pick (.t 39) (.t 41) (.k (.bool false)), none, []⟩])
 (.cond (.t 42) (.seq (.ops [⟨some 44, .mv (.t 0), none, []⟩,
 ⟨some 45, .call (.k (.fn 47 [])) [(.t 44), (.k (.lit .i64 4))], none, []⟩,
 ⟨some 43, .mv (.t 45), none, []⟩,
 ⟨some 46, .extract (.t 43) 0, none, []⟩,
 ⟨some 47, .extract (.t 43) 1, none, []⟩,
 ⟨some 8, .mv (.t 46), none, []⟩,
 ⟨some 9, .mv (.t 47), none, []⟩])
 (.ops [⟨some 48, .mv (.t 8), none, []⟩,
 ⟨some 49, .conv .i64 (.t 48), none, []⟩,
 ⟨some 50, .bin .add .i64 (.t 49) (.k (.lit .i64 1)), none, []⟩,
 ⟨some 10, .mv (.t 50), none, []⟩])) (.skip)))
 (.seq (.seq (.ops [⟨some 51, .mv (.t 9), none, []⟩,
 ⟨some 52, .cmp .neq (.t 51) (.k (.lit .i64 0)), none, []⟩])
 (.cond (.t 52) (.seq (.ops [⟨some 53, .mv (.t 9), none, []⟩,
 ⟨some 6, .mv (.k (.val (.slice none 0 0))), none, []⟩,
 ⟨some 7, .mv (.t 53), none, []⟩])
 (.ret)) (.skip)))
 (.seq (.ops [⟨some 55, .mv (.t 0), none, []⟩,
 ⟨some 56, .mv (.t 1), none, []⟩,
 ⟨some 57, .mv (.t 10), none, []⟩,
 ⟨some 58, .bin .add .i64 (.t 56) (.t 57), none, []⟩,
 ⟨some 59, .call (.k (.fn 15 [])) [(.t 55), (.t 58)], none, []⟩,
 ⟨some 54, .mv (.t 59), none, []⟩,
 ⟨some 60, .extract (.t 54) 0, none, []⟩,
 ⟨some 61, .extract (.t 54) 1, none, []⟩,
 ⟨some 11, .newR 44 [(.val (.slice none 0 0)), (.val (.slice none 0 0)), (.lit .i64 0)], none, []⟩,
 ⟨none, .storeA 3 (.t 11) (.t 60), none, []⟩,
 ⟨some 9, .mv (.t 61), none, []⟩])
 (.seq (.seq (.ops [⟨some 62, .mv (.t 9), none, []⟩,
 ⟨some 63, .cmp .neq (.t 62) (.k (.lit .i64 0)), none, []⟩])
 (.cond (.t 63) (.seq (.ops [⟨some 64, .mv (.t 9), none, []⟩,
 ⟨some 6, .mv (.k (.val (.slice none 0 0))), none, []⟩,
 ⟨some 7, .mv (.t 64), none, []⟩])
 (.ret)) (.skip)))
 (.seq (.ops [⟨some 12, .mv (.k (.val (.slice none 0 0))), none, []⟩])
 (.seq (.block 0 (.loop (.seq (.seq (.ops [⟨some 65, .mv (.t 12), none, []⟩,
 ⟨some 66, .len (.t 65), none, []⟩,
 ⟨some 67, .mv (.t 2), none, []⟩,
 ⟨some 68, .cmp .lss (.t 66) (.t 67), none, []⟩])
 (.cond (.t 68) (.skip) (.exit 0)))
 (.block 1 (.seq (.ops [⟨some 70, .mv (.t 0), none, []⟩,
 ⟨some 71, .loadA 3 (.t 11), none, []⟩,
 ⟨some 72, .call (.k (.fn 17 [])) [(.t 70), (.t 71)], none, []⟩,
 ⟨some 69, .mv (.t 72), none, []⟩,
 ⟨some 73, .extract (.t 69) 0, none, []⟩,
 ⟨some 74, .extract (.t 69) 1, none, []⟩,
 ⟨some 13, .mv (.t 73), none, []⟩,
 ⟨some 14, .mv (.t 74), none, []⟩])
 (.seq (.seq (.ops [⟨some 75, .mv (.t 14), none, []⟩,
 ⟨some 76, .cmp .neq (.t 75) (.k (.lit .i64 0)), none, []⟩])
 (.cond (.t 76) (.seq (.ops [⟨some 77, .mv (.t 14), none, []⟩,
 ⟨some 6, .mv (.k (.val (.slice none 0 0))), none, []⟩,
 ⟨some 7, .mv (.t 77), none, []⟩])
 (.ret)) (.skip)))
 (.seq (.seq (.ops [⟨some 78, .mv (.t 13), none, []⟩,
 ⟨some 79, .cmp .eql (.t 78) (.k (.lit .i64 0)), none, []⟩,
 ⟨some 80, .mv (.t 79), none, []⟩,
 ⟨some 81, .mv (.t 13), some (80, false), []⟩,
 ⟨some 82, .mv (.t 10), some (80, false), []⟩,
 ⟨some 83, .cmp .gtr (.t 81) (.t 82), some (80, false), []⟩,
 ⟨some 84, .pick (.t 80) (.k (.bool true)) (.t 83), none, []⟩])
 (.cond (.t 84) (.seq (.ops [⟨some 85, .mv (.t 12), none, []⟩,
 ⟨some 86, .mv (.t 13), none, []⟩,
 ⟨some 87, .mv (.t 10), none, []⟩,
 ⟨some 88, .bin .sub .i64 (.t 86) (.t 87), none, []⟩,
 ⟨some 89, .max (.t 88) (.k (.lit .i64 0)), none, []⟩,
 ⟨some 90, .conv .u8 (.t 89), none, []⟩,
 ⟨some 91, .bsliceI 5 .u8 1 [⟨0, 1, (.t 90)⟩], none, []⟩,
 ⟨some 92, .appI 5 .u8 1 (.t 85) (.t 91), none, []⟩,
 ⟨some 12, .mv (.t 92), none, []⟩])
 (.exit 1)) (.skip)))
 (.seq (.ops [⟨some 94, .mv (.t 0), none, []⟩,
 ⟨some 95, .mv (.t 13), none, []⟩,
 ⟨some 96, .call (.k (.fn 47 [])) [(.t 94), (.t 95)], none, []⟩,
 ⟨some 93, .mv (.t 96), none, []⟩,
 ⟨some 97, .extract (.t 93) 0, none, []⟩,
 ⟨some 98, .extract (.t 93) 1, none, []⟩,
 ⟨some 15, .mv (.t 97), none, []⟩,
 ⟨some 14, .mv (.t 98), none, []⟩])
 (.seq (.seq (.ops [⟨some 99, .mv (.t 14), none, []⟩,
 ⟨some 100, .cmp .neq (.t 99) (.k (.lit .i64 0)), none, []⟩])
 (.cond (.t 100) (.seq (.ops [⟨some 101, .mv (.t 14), none, []⟩,
 ⟨some 6, .mv (.k (.val (.slice none 0 0))), none, []⟩,
 ⟨some 7, .mv (.t 101), none, []⟩])
 (.ret)) (.skip)))
 (.seq (.seq (.ops [⟨some 102, .mv (.t 12), none, []⟩,
 ⟨some 103, .len (.t 102), none, []⟩,
 ⟨some 104, .mv (.t 13), none, []⟩,
 ⟨some 105, .conv .u64 (.t 104), none, []⟩,
 ⟨some 106, .bin .shl .i64 (.k (.lit .i64 1)) (.t 105), none, []⟩,
 ⟨some 107, .bin .add .i64 (.t 103) (.t 106), none, []⟩,
 ⟨some 108, .mv (.t 15), none, []⟩,
 ⟨some 109, .conv .i64 (.t 108), none, []⟩,
 ⟨some 110, .bin .add .i64 (.t 107) (.t 109), none, []⟩,
 ⟨some 111, .mv (.t 2), none, []⟩,
 ⟨some 112, .cmp .gtr (.t 110) (.t 111), none, []⟩])
 (.cond (.t 112) (.seq (.ops [⟨some 6, .mv (.k (.val (.slice none 0 0))), none, []⟩,
 ⟨some 7, .mv (.k (.lit .i64 11)), none, []⟩])
 (.ret)) (.skip)))
 (.seq (.ops [⟨some 16, .mv (.k (.lit .i64 0)), none, []⟩])
 (.block 2 (.loop (.seq (.seq (.ops [⟨some 113, .mv (.t 16), none, []⟩,
 ⟨some 114, .mv (.t 13), none, []⟩,
 ⟨some 115, .conv .u64 (.t 114), none, []⟩,
 ⟨some 116, .bin .shl .i64 (.k (.lit .i64 1)) (.t 115), none, []⟩,
 ⟨some 117, .mv (.t 15), none, []⟩,
 ⟨some 118, .conv .i64 (.t 117), none, []⟩,
 ⟨some 119, .bin .add .i64 (.t 116) (.t 118), none, []⟩,
 ⟨some 120, .cmp .lss (.t 113) (.t 119), none, []⟩])
 (.cond (.t 120) (.skip) (.exit 2)))
 (.seq (.block 3 (.ops [⟨some 123, .mv (.t 12), none, []⟩,
 ⟨some 124, .bsliceI 5 .u8 1 [⟨0, 1, (.k (.lit .u8 0))⟩], none, []⟩,
 ⟨some 125, .appI 5 .u8 1 (.t 123) (.t 124), none, []⟩,
 ⟨some 12, .mv (.t 125), none, []⟩]))
 (.ops [⟨some 121, .mv (.t 16), none, []⟩,
 ⟨some 122, .bin .add .i64 (.t 121) (.k (.lit .i64 1)), none, []⟩,
 ⟨some 16, .mv (.t 122), none, []⟩]))))))))))))))))
 (.seq (.ops [⟨some 127, .mv (.t 0), none, []⟩,
 ⟨some 128, .call (.k (.fn 47 [])) [(.t 127), (.k (.lit .i64 1))], none, []⟩,
 ⟨some 126, .mv (.t 128), none, []⟩,
 ⟨some 129, .extract (.t 126) 0, none, []⟩,
 ⟨some 130, .extract (.t 126) 1, none, []⟩,
 ⟨some 8, .mv (.t 129), none, []⟩,
 ⟨some 9, .mv (.t 130), none, []⟩])
 (.seq (.seq (.ops [⟨some 131, .mv (.t 9), none, []⟩,
 ⟨some 132, .cmp .neq (.t 131) (.k (.lit .i64 0)), none, []⟩])
 (.cond (.t 132) (.seq (.ops [⟨some 133, .mv (.t 9), none, []⟩,
 ⟨some 6, .mv (.k (.val (.slice none 0 0))), none, []⟩,
 ⟨some 7, .mv (.t 133), none, []⟩])
 (.ret)) (.skip)))
 (.seq (.seq (.ops [⟨some 134, .mv (.t 8), none, []⟩,
 ⟨some 135, .cmp .eql (.t 134) (.k (.lit .u64 1)), none, []⟩])
 (.cond (.t 135) (.ops [⟨some 136, .mv (.t 12), none, []⟩,
 ⟨some 137, .call (.k (.fn 52 [])) [(.t 136)], none, []⟩,
 ⟨some 12, .mv (.t 137), none, []⟩]) (.skip)))
 (.seq (.seq (.ops [⟨some 17, .mv (.k (.lit .i64 0)), none, []⟩])
 (.block 4 (.loop (.seq (.seq (.ops [⟨some 138, .mv (.t 17), none, []⟩,
 ⟨some 139, .mv (.t 12), none, []⟩,
 ⟨some 140, .len (.t 139), none, []⟩,
 ⟨some 141, .cmp .lss (.t 138) (.t 140), none, []⟩])
 (.cond (.t 141) (.skip) (.exit 4)))
 (.seq (.block 5 (.seq (.ops [⟨some 144, .mv (.t 12), none, []⟩,
 ⟨some 145, .mv (.t 17), none, []⟩,
 ⟨some 146, .iadr 1 (.t 144) (.t 145), none, []⟩,
 ⟨some 147, .load1 (.t 146), none, []⟩,
 ⟨some 148, .conv .i64 (.t 147), none, []⟩,
 ⟨some 149, .mv (.t 1), none, []⟩,
 ⟨some 150, .cmp .geq (.t 148) (.t 149), none, []⟩])
 (.cond (.t 150) (.seq (.ops [⟨some 6, .mv (.k (.val (.slice none 0 0))), none, []⟩,
 ⟨some 7, .mv (.k (.lit .i64 11)), none, []⟩])
 (.ret)) (.skip))))
 (.ops [⟨some 142, .mv (.t 17), none, []⟩,
 ⟨some 143, .bin .add .i64 (.t 142) (.k (.lit .i64 1)), none, []⟩,
 ⟨some 17, .mv (.t 143), none, []⟩]))))))
 (.seq (.ops [⟨some 151, .mv (.t 12), none, []⟩,
 ⟨some 6, .mv (.t 151), none, []⟩,
 ⟨some 7, .mv (.k (.lit .i64 0)), none, []⟩])
 (.ret)))))))))))))))
theorem fn21 : FnOk Try.prog 21 x21 152 [6, 7] := FnOk.of Try.call21 Try.func21 (by kernel_rfl) Try.ntmps21 (by kernel_rfl)
def x22 : XC :=
 .seq (.ops [⟨some 2, .mv (.k (.val (.slice none 0 0))), none, []⟩])
 (.seq (.seq (.ops [⟨some 3, .mv (.t 0), none, []⟩,
 ⟨some 4, .eqv false 2 (.t 3) (.k (.val (.pointer none))), none, []⟩])
 (.cond (.t 4) (.seq (.ops [⟨some 2, .mv (.k (.val (.slice none 0 0))), none, []⟩])
 (.ret)) (.skip)))
 (.seq (.ops [⟨some 5, .bsliceI 5 .u8 0 [], none, []⟩,
 ⟨some 6, .mv (.t 0), none, []⟩,
 ⟨some 7, .nilchk (.t 6), none, []⟩,
 ⟨some 8, .fadr 0 (.t 7), none, []⟩,
 ⟨some 9, .load1 (.t 8), none, []⟩,
 ⟨some 10, .appI 5 .u8 1 (.t 5) (.t 9), none, []⟩,
 ⟨some 2, .mv (.t 10), none, []⟩])
 (.ret)))
theorem fn22 : FnOk Try.prog 22 x22 11 [2] := FnOk.of Try.call22 Try.func22 (by kernel_rfl) Try.ntmps22 (by kernel_rfl)
def x23 : XC :=
 .seq (.ops [⟨some 3, .box 54 none (.t 0), none, []⟩,
 ⟨some 6, .mv (.k (.lit .i64 0)), none, []⟩])
 (.seq (.block 0 (.seq (.ops [⟨some 9, .load1 (.t 3), none, []⟩,
 ⟨some 10, .eqv false 2 (.t 9) (.k (.val (.pointer none))), none, []⟩,
 ⟨some 8, .mv (.t 10), none, []⟩])
 (.cond (.t 8) (.seq (.ops [⟨some 6, .mv (.k (.lit .i64 1)), none, []⟩])
 (.ret)) (.seq (.ops [⟨some 12, .mv (.t 2), none, []⟩,
 ⟨some 13, .cmp .lss (.t 12) (.k (.lit .i64 0)), none, []⟩,
 ⟨some 14, .mv (.t 13), none, []⟩,
 ⟨some 15, .mv (.t 2), some (14, false), []⟩,
 ⟨some 16, .cmp .gtr (.t 15) (.k (.lit .i64 56)), some (14, false), []⟩,
 ⟨some 17, .pick (.t 14) (.k (.bool true)) (.t 16), none, []⟩,
 ⟨some 11, .mv (.t 17), none, []⟩])
 (.cond (.t 11) (.seq (.ops [⟨some 6, .mv (.k (.lit .i64 2)), none, []⟩])
 (.ret)) (.skip))))))
 (.seq (.seq (.ops [⟨some 18, .mv (.t 1), none, []⟩,
 ⟨some 19, .mv (.t 2), none, []⟩,
 ⟨some 20, .call (.k (.fn 53 [])) [(.t 18), (.t 19)], none, []⟩])
 (.block 1 (.range (.t 20) [21] (.ops [⟨some 7, .mv (.t 21), none, []⟩]) (.block 2 (.seq (.seq (.ops [⟨some 22, .load1 (.t 3), none, []⟩,
 ⟨some 23, .nilchk (.t 22), none, []⟩,
 ⟨some 24, .fadr 1 (.t 23), none, []⟩,
 ⟨some 25, .load1 (.t 24), none, []⟩,
 ⟨some 26, .bin .rem .i64 (.t 25) (.k (.lit .i64 8)), none, []⟩,
 ⟨some 27, .cmp .eql (.t 26) (.k (.lit .i64 0)), none, []⟩])
 (.cond (.t 27) (.ops [⟨some 28, .load1 (.t 3), none, []⟩,
 ⟨some 29, .load1 (.t 3), none, []⟩,
 ⟨some 30, .nilchk (.t 29), none, []⟩,
 ⟨some 31, .fadr 0 (.t 30), none, []⟩,
 ⟨some 32, .load1 (.t 31), none, []⟩,
 ⟨some 33, .bsliceI 5 .u8 1 [⟨0, 1, (.k (.lit .u8 0))⟩], none, [(.load1 (.t 31), 32, none), (.load1 (.t 3), 29, none), (.load1 (.t 3), 28, none)]⟩,
 ⟨some 34, .appI 5 .u8 1 (.t 32) (.t 33), none, [(.load1 (.t 3), 29, none), (.load1 (.t 3), 28, none)]⟩,
 ⟨some 35, .nilchk (.t 28), none, []⟩,
 ⟨some 36, .fadr 0 (.t 35), none, []⟩,
 ⟨none, .store1 (.t 36) (.t 34), none, []⟩]) (.skip)))
 (.seq (.ops [⟨some 37, .load1 (.t 3), none, []⟩,
 ⟨some 38, .nilchk (.t 37), none, []⟩,
 ⟨some 39, .fadr 0 (.t 38), none, []⟩,
 ⟨some 40, .load1 (.t 39), none, []⟩,
 ⟨some 41, .load1 (.t 3), none, []⟩,
 ⟨some 42, .nilchk (.t 41), none, []⟩,
 ⟨some 43, .fadr 1 (.t 42), none, []⟩,
 ⟨some 44, .load1 (.t 43), none, []⟩,
 ⟨some 45, .bin .quo .i64 (.t 44) (.k (.lit .i64 8)), none, []⟩,
 ⟨some 46, .iadr 1 (.t 40) (.t 45), none, []⟩,
 ⟨some 47, .load1 (.t 46), none, []⟩,
 ⟨some 48, .mv (.t 7), none, []⟩,
 ⟨some 49, .load1 (.t 3), none, []⟩,
 ⟨some 50, .nilchk (.t 49), none, []⟩,
 ⟨some 51, .fadr 1 (.t 50), none, []⟩,
 ⟨some 52, .load1 (.t 51), none, []⟩,
 ⟨some 53, .bin .rem .i64 (.t 52) (.k (.lit .i64 8)), none, []⟩,
 ⟨some 54, .conv .u64 (.t 53), none, []⟩,
 ⟨some 55, .bin .shl .u8 (.t 48) (.t 54), none, []⟩,
 ⟨some 56, .bin .or .u8 (.t 47) (.t 55), none, []⟩,
 ⟨some 57, .iadr 1 (.t 40) (.t 45), none, []⟩,
 ⟨none, .store1 (.t 57) (.t 56), none, []⟩])
 (.ops [⟨some 58, .load1 (.t 3), none, []⟩,
 ⟨some 59, .nilchk (.t 58), none, []⟩,
 ⟨some 60, .fadr 1 (.t 59), none, []⟩,
 ⟨some 61, .load1 (.t 60), none, []⟩,
 ⟨some 62, .bin .add .i64 (.t 61) (.k (.lit .i64 1)), none, []⟩,
 ⟨some 63, .nilchk (.t 58), none, []⟩,
 ⟨some 64, .fadr 1 (.t 63), none, []⟩,
 ⟨none, .store1 (.t 64) (.t 62), none, []⟩])))))))
 (.seq (.ops [⟨some 6, .mv (.k (.lit .i64 0)), none, []⟩])
 (.ret))))
theorem fn23 : FnOk Try.prog 23 x23 65 [6] := FnOk.of Try.call23 Try.func23 (by kernel_rfl) Try.ntmps23 (by kernel_rfl)
def x24 : XC :=
 .seq (.ops [⟨some 4, .mv (.k (.lit .u64 0)), none, []⟩,
 ⟨some 5, .mv (.k (.lit .i64 0)), none, []⟩])
 (.seq (.block 0 (.seq (.ops [⟨some 8, .mv (.t 0), none, []⟩,
 ⟨some 9, .eqv false 2 (.t 8) (.k (.val (.pointer none))), none, []⟩,
 ⟨some 7, .mv (.t 9), none, []⟩])
 (.cond (.t 7) (.seq (.ops [⟨some 4, .mv (.k (.lit .u64 0)), none, []⟩,
 ⟨some 5, .mv (.k (.lit .i64 1)), none, []⟩])
 (.ret)) (.seq (.ops [⟨some 11, .mv (.t 1), none, []⟩,
 ⟨some 12, .cmp .lss (.t 11) (.k (.lit .i64 0)), none, []⟩,
 ⟨some 13, .mv (.t 12), none, []⟩,
 ⟨some 14, .mv (.t 1), some (13, false), []⟩,
 ⟨some 15, .cmp .gtr (.t 14) (.k (.lit .i64 56)), some (13, false), []⟩,
 ⟨some 16, .pick (.t 13) (.k (.bool true)) (.t 15), none, []⟩,
 ⟨some 10, .mv (.t 16), none, []⟩])
 (.cond (.t 10) (.seq (.ops [⟨some 4, .mv (.k (.lit .u64 0)), none, []⟩,
 ⟨some 5, .mv (.k (.lit .i64 2)), none, []⟩])
 (.ret)) (.seq (.ops [⟨some 18, .mv (.t 0), none, []⟩,
 ⟨some 19, .mv (.t 1), none, []⟩,
 ⟨some 20, .call (.k (.fn 54 [])) [(.t 18), (.t 19)], none, []⟩,
 ⟨some 21, .not (.t 20), none, []⟩,
 ⟨some 17, .mv (.t 21), none, []⟩])
 (.cond (.t 17) (.seq (.ops [⟨some 4, .mv (.k (.lit .u64 0)), none, []⟩,
 ⟨some 5, .mv (.k (.lit .i64 10)), none, []⟩])
 (.ret)) (.skip))))))))
 (.seq (.ops [⟨some 22, .mv (.t 0), none, []⟩,
 ⟨some 23, .nilchk (.t 22), none, []⟩,
 ⟨some 24, .fadr 1 (.t 23), none, []⟩,
 ⟨some 25, .load1 (.t 24), none, []⟩,
 ⟨some 26, .mv (.t 1), none, []⟩,
 ⟨some 27, .conv .u64 (.t 26), none, []⟩,
 ⟨some 28, .bin .shl .u64 (.k (.lit .u64 1)) (.t 27), none, []⟩,
 ⟨some 29, .bin .sub .u64 (.t 28) (.k (.lit .u64 1)), none, []⟩,
 ⟨some 30, .bin .and .u64 (.t 25) (.t 29), none, []⟩,
 ⟨some 6, .mv (.t 30), none, []⟩])
 (.seq (.ops [⟨some 31, .mv (.t 0), none, []⟩,
 ⟨some 32, .nilchk (.t 31), none, []⟩,
 ⟨some 33, .fadr 1 (.t 32), none, []⟩,
 ⟨some 34, .load1 (.t 33), none, []⟩,
 ⟨some 35, .mv (.t 1), none, []⟩,
 ⟨some 36, .conv .u64 (.t 35), none, []⟩,
 ⟨some 37, .bin .shr .u64 (.t 34) (.t 36), none, []⟩,
 ⟨some 38, .nilchk (.t 31), none, []⟩,
 ⟨some 39, .fadr 1 (.t 38), none, []⟩,
 ⟨none, .store1 (.t 39) (.t 37), none, []⟩])
 (.seq (.ops [⟨some 40, .mv (.t 0), none, []⟩,
 ⟨some 41, .nilchk (.t 40), none, []⟩,
 ⟨some 42, .fadr 2 (.t 41), none, []⟩,
 ⟨some 43, .load1 (.t 42), none, []⟩,
 ⟨some 44, .mv (.t 1), none, []⟩,
 ⟨some 45, .bin .sub .i64 (.t 43) (.t 44), none, []⟩,
 ⟨some 46, .nilchk (.t 40), none, []⟩,
 ⟨some 47, .fadr 2 (.t 46), none, []⟩,
 ⟨none, .store1 (.t 47) (.t 45), none, []⟩])
 (.seq (.ops [⟨some 48, .mv (.t 6), none, []⟩,
 ⟨some 4, .mv (.t 48), none, []⟩,
 ⟨some 5, .mv (.k (.lit .i64 0)), none, []⟩])
 (.ret))))))
theorem fn24 : FnOk Try.prog 24 x24 49 [4, 5] := FnOk.of Try.call24 Try.func24 (by kernel_rfl) Try.ntmps24 (by kernel_rfl)
def x26 : XC :=
 .seq (.ops [⟨some 2, .newR 24 [(.val (.slice none 0 0)), (.lit .i64 0)], none, []⟩])
 (.seq (.ops [⟨some 9, .load1 (.t 0), none, []⟩,
 ⟨some 10, .call (.k (.fn 27 [])) [(.t 9), (.k (.lit .i64 2))], none, []⟩,
 ⟨some 3, .mv (.t 10), none, []⟩])
 (.seq (.seq (.ops [⟨some 11, .mv (.t 3), none, []⟩,
 ⟨some 12, .cmp .eql (.t 11) (.k (.lit .i64 1)), none, []⟩])
 (.cond (.t 12) (.seq (.ops [⟨some 13, .load1 (.t 0), none, []⟩,
 ⟨some 14, .load1 (.t 1), none, []⟩,
 ⟨some 15, .call (.k (.fn 28 [])) [(.t 13), (.t 14)], none, []⟩,
 ⟨none, .storeA 2 (.t 2) (.t 15), none, []⟩])
 (.ret)) (.skip)))
 (.seq (.ops [⟨some 16, .load1 (.t 0), none, []⟩,
 ⟨some 17, .mv (.t 3), none, []⟩,
 ⟨some 18, .call (.k (.fn 29 [])) [(.t 16), (.t 17)], none, []⟩,
 ⟨some 4, .newR 24 [(.val (.slice none 0 0)), (.lit .i64 0)], none, []⟩,
 ⟨none, .storeA 2 (.t 4) (.t 18), none, []⟩])
 (.seq (.ops [⟨some 19, .load1 (.t 1), none, []⟩,
 ⟨some 20, .mkslI 5 .u8 1 (.k (.lit .i64 0)) (.t 19), none, []⟩,
 ⟨some 21, .build [(.val (.slice none 0 0)), (.lit .i64 0)] [⟨0, 1, (.t 20)⟩], none, []⟩,
 ⟨some 5, .newR 24 [(.val (.slice none 0 0)), (.lit .i64 0)], none, []⟩,
 ⟨none, .storeA 2 (.t 5) (.t 21), none, []⟩])
 (.seq (.ops [⟨some 6, .newR 3 [(.lit .i64 0)], none, []⟩,
 ⟨none, .store1 (.t 6) (.k (.lit .i64 32768)), none, []⟩])
 (.seq (.seq (.ops [⟨some 22, .load1 (.t 0), none, []⟩,
 ⟨some 23, .loadA 2 (.t 4), none, []⟩,
 ⟨some 24, .call (.k (.fn 30 [])) [(.t 22), (.t 23)], none, []⟩])
 (.block 0 (.range (.t 24) [25, 26] (.seq (.ops [⟨some 7, .mv (.t 25), none, []⟩])
 (.ops [⟨some 8, .mv (.t 26), none, []⟩])) (.block 1 (.seq (.ops [⟨some 27, .fadr 0 (.t 5), none, []⟩,
 ⟨some 28, .load1 (.t 27), none, []⟩,
 ⟨some 29, .len (.t 28), none, []⟩,
 ⟨some 30, .mv (.t 8), none, []⟩,
 ⟨some 31, .bin .add .i64 (.t 29) (.t 30), none, []⟩,
 ⟨some 32, .load1 (.t 1), none, []⟩,
 ⟨some 33, .cmp .leq (.t 31) (.t 32), none, []⟩,
 ⟨some 34, .call (.k (.fn 31 [])) [(.t 33)], none, []⟩])
 (.seq (.seq (.ops [⟨some 35, .mv (.t 8), none, []⟩,
 ⟨some 36, .mv (.k (.lit .i64 0)), none, []⟩])
 (.block 2 (.loop (.seq (.ops [⟨some 37, .cmp .lss (.t 36) (.t 35), none, []⟩])
 (.seq (.cond (.t 37) (.skip) (.exit 2))
 (.seq (.block 3 (.seq (.ops [⟨some 38, .fadr 0 (.t 5), none, []⟩,
 ⟨some 39, .load1 (.t 38), none, []⟩,
 ⟨some 40, .mv (.t 7), none, []⟩,
 ⟨some 41, .bsliceI 5 .u8 1 [⟨0, 1, (.t 40)⟩], none, []⟩,
 ⟨some 42, .appI 5 .u8 1 (.t 39) (.t 41), none, []⟩,
 ⟨some 43, .fadr 0 (.t 5), none, []⟩,
 ⟨none, .store1 (.t 43) (.t 42), none, []⟩])
 (.seq (.ops [⟨some 44, .mv (.t 7), none, []⟩,
 ⟨some 45, .cmp .gtr (.t 44) (.k (.lit .u8 0)), none, []⟩])
 (.cond (.t 45) (.ops [⟨some 46, .load1 (.t 6), none, []⟩,
 ⟨some 47, .mv (.t 7), none, []⟩,
 ⟨some 48, .bin .sub .u8 (.k (.lit .u8 15)) (.t 47), none, []⟩,
 ⟨some 49, .conv .u64 (.t 48), none, []⟩,
 ⟨some 50, .bin .shl .i64 (.k (.lit .i64 1)) (.t 49), none, []⟩,
 ⟨some 51, .bin .sub .i64 (.t 46) (.t 50), none, []⟩,
 ⟨none, .store1 (.t 6) (.t 51), none, []⟩]) (.skip)))))
 (.ops [⟨some 52, .bin .add .i64 (.t 36) (.k (.lit .i64 1)), none, []⟩,
 ⟨some 36, .mv (.t 52), none, []⟩])))))))
 (.seq (.ops [⟨some 53, .load1 (.t 6), none, []⟩,
 ⟨some 54, .cmp .leq (.t 53) (.k (.lit .i64 0)), none, []⟩,
 ⟨some 55, .mv (.t 54), none, []⟩,
 ⟨some 56, .fadr 0 (.t 5), some (55, false), []⟩,
 ⟨some 57, .load1 (.t 56), some (55, false), []⟩,
 ⟨some 58, .len (.t 57), some (55, false), []⟩,
 ⟨some 59, .load1 (.t 1), some (55, false), []⟩,
 ⟨some 60, .cmp .eql (.t 58) (.t 59), some (55, false), []⟩,
 ⟨some 61, .pick (.t 55) (.k (.bool true)) (.t 60), none, []⟩])
 (.cond (.t 61) (.exit 0) (.skip)))))))))
 (.seq (.ops [⟨some 62, .load1 (.t 6), none, []⟩,
 ⟨some 63, .cmp .eql (.t 62) (.k (.lit .i64 0)), none, []⟩,
 ⟨some 64, .call (.k (.fn 31 [])) [(.t 63)], none, []⟩])
 (.seq (.ops [⟨some 65, .fadr 0 (.t 5), none, []⟩,
 ⟨some 66, .load1 (.t 65), none, []⟩,
 ⟨some 67, .load1 (.t 1), none, []⟩,
 ⟨some 68, .fadr 0 (.t 5), none, []⟩,
 ⟨some 69, .load1 (.t 68), none, []⟩,
 ⟨some 70, .len (.t 69), none, []⟩,
 ⟨some 71, .bin .sub .i64 (.t 67) (.t 70), none, []⟩,
 ⟨some 72, .appZ 5 .u8 1 (.t 66) (.t 71), none, []⟩,
 ⟨some 73, .fadr 0 (.t 5), none, []⟩,
 ⟨none, .store1 (.t 73) (.t 72), none, []⟩])
 (.seq (.ops [⟨some 74, .loadA 2 (.t 5), none, []⟩,
 ⟨none, .storeA 2 (.t 2) (.t 74), none, []⟩])
 (.ret))))))))))
theorem fn26 : FnOk Try.prog 26 x26 75 [6000002] := FnOk.of Try.call26 Try.func26 (by kernel_rfl) Try.ntmps26 (by kernel_rfl)
def x27 : XC :=
 .seq (.ops [⟨some 4, .mv (.k (.lit .i64 0)), none, []⟩])
 (.seq (.ops [⟨some 8, .mv (.t 0), none, []⟩,
 ⟨some 9, .mv (.t 1), none, []⟩,
 ⟨some 10, .call (.k (.fn 24 [])) [(.t 8), (.t 9)], none, []⟩,
 ⟨some 7, .mv (.t 10), none, []⟩,
 ⟨some 11, .extract (.t 7) 0, none, []⟩,
 ⟨some 12, .extract (.t 7) 1, none, []⟩,
 ⟨some 5, .mv (.t 11), none, []⟩,
 ⟨some 6, .mv (.t 12), none, []⟩])
 (.seq (.seq (.ops [⟨some 13, .mv (.t 6), none, []⟩,
 ⟨some 14, .cmp .neq (.t 13) (.k (.lit .i64 0)), none, []⟩])
 (.cond (.t 14) (.ops [⟨some 15, .mv (.t 6), none, []⟩,
 ⟨some 16, .build [(.lit .i64 0)] [⟨0, 1, (.t 15)⟩], none, []⟩,
 ⟨some 17, .mkif 75 (.t 16), none, []⟩,
 ⟨none, .pnc (.t 17), none, []⟩]) (.skip)))
 (.seq (.ops [⟨some 18, .mv (.t 5), none, []⟩,
 ⟨some 19, .conv .i64 (.t 18), none, []⟩,
 ⟨some 4, .mv (.t 19), none, []⟩])
 (.ret))))
theorem fn27 : FnOk Try.prog 27 x27 20 [4] := FnOk.of Try.call27 Try.func27 (by kernel_rfl) Try.ntmps27 (by kernel_rfl)
def x28 : XC :=
 .seq (.ops [⟨some 4, .newR 24 [(.val (.slice none 0 0)), (.lit .i64 0)], none, []⟩])
 (.seq (.ops [⟨some 14, .mv (.t 0), none, []⟩,
 ⟨some 15, .call (.k (.fn 27 [])) [(.t 14), (.k (.lit .i64 2))], none, []⟩,
 ⟨some 16, .bin .add .i64 (.k (.lit .i64 1)) (.t 15), none, []⟩,
 ⟨some 5, .mv (.t 16), none, []⟩])
 (.seq (.ops [⟨some 6, .mv (.k (.val (.slice none 0 0))), none, []⟩])
 (.seq (.seq (.ops [⟨some 17, .mv (.t 5), none, []⟩,
 ⟨some 18, .mv (.k (.lit .i64 0)), none, []⟩])
 (.block 0 (.loop (.seq (.ops [⟨some 19, .cmp .lss (.t 18) (.t 17), none, []⟩])
 (.seq (.cond (.t 19) (.skip) (.exit 0))
 (.seq (.block 1 (.seq (.ops [⟨some 20, .mv (.t 0), none, []⟩,
 ⟨some 21, .mv (.t 1), none, []⟩,
 ⟨some 22, .bin .sub .i64 (.t 21) (.k (.lit .i64 1)), none, []⟩,
 ⟨some 23, .conv .u64 (.t 22), none, []⟩,
 ⟨some 24, .call (.k (.fn 41 [])) [(.t 23)], none, []⟩,
 ⟨some 25, .call (.k (.fn 27 [])) [(.t 20), (.t 24)], none, []⟩,
 ⟨some 7, .mv (.t 25), none, []⟩])
 (.seq (.ops [⟨some 26, .mv (.t 7), none, []⟩,
 ⟨some 27, .mv (.t 1), none, []⟩,
 ⟨some 28, .cmp .lss (.t 26) (.t 27), none, []⟩,
 ⟨some 29, .call (.k (.fn 31 [])) [(.t 28)], none, []⟩])
 (.ops [⟨some 30, .mv (.t 6), none, []⟩,
 ⟨some 31, .mv (.t 7), none, []⟩,
 ⟨some 32, .bsliceI 3 .i64 1 [⟨0, 1, (.t 31)⟩], none, []⟩,
 ⟨some 33, .appI 3 .i64 8 (.t 30) (.t 32), none, []⟩,
 ⟨some 6, .mv (.t 33), none, []⟩]))))
 (.ops [⟨some 34, .bin .add .i64 (.t 18) (.k (.lit .i64 1)), none, []⟩,
 ⟨some 18, .mv (.t 34), none, []⟩])))))))
 (.seq (.seq (.ops [⟨some 35, .mv (.t 6), none, []⟩,
 ⟨some 36, .len (.t 35), none, []⟩,
 ⟨some 37, .mv (.k (.lit .i64 0)), none, []⟩])
 (.block 2 (.loop (.seq (.ops [⟨some 38, .cmp .lss (.t 37) (.t 36), none, []⟩])
 (.seq (.cond (.t 38) (.skip) (.exit 2))
 (.seq (.block 3 (.seq (.ops [⟨some 39, .mv (.t 37), none, []⟩,
 ⟨some 40, .iadr 1 (.t 35) (.t 37), none, []⟩,
 ⟨some 41, .load1 (.t 40), none, []⟩,
 ⟨some 8, .mv (.t 39), none, []⟩,
 ⟨some 9, .mv (.t 41), none, []⟩])
 (.ops [⟨some 42, .mv (.t 6), none, []⟩,
 ⟨some 43, .mv (.t 8), none, []⟩,
 ⟨some 44, .slc 1 (.t 42) none (some (.t 43)) none, none, []⟩,
 ⟨some 45, .mv (.t 9), none, []⟩,
 ⟨some 46, .call (.k (.fn 56 [])) [(.t 44), (.t 45)], none, []⟩,
 ⟨some 47, .not (.t 46), none, []⟩,
 ⟨some 48, .call (.k (.fn 31 [])) [(.t 47)], none, []⟩])))
 (.ops [⟨some 49, .bin .add .i64 (.t 37) (.k (.lit .i64 1)), none, []⟩,
 ⟨some 37, .mv (.t 49), none, []⟩])))))))
 (.seq (.seq (.ops [⟨some 50, .mv (.t 5), none, []⟩,
 ⟨some 51, .cmp .eql (.t 50) (.k (.lit .i64 1)), none, []⟩])
 (.cond (.t 51) (.seq (.ops [⟨some 52, .mv (.t 6), none, []⟩,
 ⟨some 53, .iadr 1 (.t 52) (.k (.lit .i64 0)), none, []⟩,
 ⟨some 54, .load1 (.t 53), none, []⟩,
 ⟨some 55, .build [(.val (.slice none 0 0)), (.lit .i64 0)] [⟨1, 1, (.t 54)⟩], none, []⟩,
 ⟨none, .storeA 2 (.t 4) (.t 55), none, []⟩])
 (.ret)) (.skip)))
 (.seq (.ops [⟨some 56, .bsliceI 5 .u8 2 [⟨0, 1, (.k (.lit .u8 1))⟩, ⟨1, 1, (.k (.lit .u8 1))⟩], none, []⟩,
 ⟨some 57, .bsliceI 5 .u8 3 [⟨0, 1, (.k (.lit .u8 1))⟩, ⟨1, 1, (.k (.lit .u8 2))⟩, ⟨2, 1, (.k (.lit .u8 2))⟩], none, []⟩,
 ⟨some 58, .bsliceI 5 .u8 4 [⟨0, 1, (.k (.lit .u8 2))⟩, ⟨1, 1, (.k (.lit .u8 2))⟩, ⟨2, 1, (.k (.lit .u8 2))⟩, ⟨3, 1, (.k (.lit .u8 2))⟩], none, []⟩,
 ⟨some 59, .bsliceR 22 1 5 [(.val (.slice none 0 0))] [⟨2, 1, (.t 56)⟩, ⟨3, 1, (.t 57)⟩, ⟨4, 1, (.t 58)⟩], none, []⟩,
 ⟨some 60, .mv (.t 5), none, []⟩,
 ⟨some 61, .iadr 1 (.t 59) (.t 60), none, []⟩,
 ⟨some 62, .load1 (.t 61), none, []⟩,
 ⟨some 10, .mv (.t 62), none, []⟩])
 (.seq (.seq (.ops [⟨some 63, .mv (.t 5), none, []⟩,
 ⟨some 64, .cmp .eql (.t 63) (.k (.lit .i64 4)), none, []⟩,
 ⟨some 65, .mv (.t 64), none, []⟩,
 ⟨some 66, .mv (.t 0), some (65, true), []⟩,
 ⟨some 67, .call (.k (.fn 27 [])) [(.t 66), (.k (.lit .i64 1))], some (65, true), []⟩,
 ⟨some 68, .cmp .eql (.t 67) (.k (.lit .i64 1)), some (65, true), []⟩,
 ⟨some 69, .pick (.t 65) (.t 68) (.k (.bool false)), none, []⟩])
 (.cond (.t 69) (.ops [⟨some 70, .bsliceI 5 .u8 4 [⟨0, 1, (.k (.lit .u8 1))⟩, ⟨1, 1, (.k (.lit .u8 2))⟩, ⟨2, 1, (.k (.lit .u8 3))⟩, ⟨3, 1, (.k (.lit .u8 3))⟩], none, []⟩,
 ⟨some 10, .mv (.t 70), none, []⟩]) (.skip)))
 (.seq (.ops [⟨some 71, .mv (.t 1), none, []⟩,
 ⟨some 72, .mkslI 5 .u8 1 (.t 71) (.t 71), none, []⟩,
 ⟨some 73, .build [(.val (.slice none 0 0)), (.lit .i64 0)] [⟨0, 1, (.t 72)⟩], none, []⟩,
 ⟨some 11, .newR 24 [(.val (.slice none 0 0)), (.lit .i64 0)], none, []⟩,
 ⟨none, .storeA 2 (.t 11) (.t 73), none, []⟩])
 (.seq (.seq (.ops [⟨some 74, .mv (.t 6), none, []⟩,
 ⟨some 75, .len (.t 74), none, []⟩,
 ⟨some 76, .mv (.k (.lit .i64 0)), none, []⟩])
 (.block 4 (.loop (.seq (.ops [⟨some 77, .cmp .lss (.t 76) (.t 75), none, []⟩])
 (.seq (.cond (.t 77) (.skip) (.exit 4))
 (.seq (.block 5 (.seq (.ops [⟨some 78, .mv (.t 76), none, []⟩,
 ⟨some 79, .iadr 1 (.t 74) (.t 76), none, []⟩,
 ⟨some 80, .load1 (.t 79), none, []⟩,
 ⟨some 12, .mv (.t 78), none, []⟩,
 ⟨some 13, .mv (.t 80), none, []⟩])
 (.ops [⟨some 81, .fadr 0 (.t 11), none, []⟩,
 ⟨some 82, .load1 (.t 81), none, []⟩,
 ⟨some 83, .mv (.t 13), none, []⟩,
 ⟨some 84, .mv (.t 10), none, []⟩,
 ⟨some 85, .mv (.t 12), none, []⟩,
 ⟨some 86, .iadr 1 (.t 84) (.t 85), none, []⟩,
 ⟨some 87, .load1 (.t 86), none, []⟩,
 ⟨some 88, .iadr 1 (.t 82) (.t 83), none, []⟩,
 ⟨none, .store1 (.t 88) (.t 87), none, []⟩])))
 (.ops [⟨some 89, .bin .add .i64 (.t 76) (.k (.lit .i64 1)), none, []⟩,
 ⟨some 76, .mv (.t 89), none, []⟩])))))))
 (.seq (.ops [⟨some 90, .loadA 2 (.t 11), none, []⟩,
 ⟨none, .storeA 2 (.t 4) (.t 90), none, []⟩])
 (.ret)))))))))))
theorem fn28 : FnOk Try.prog 28 x28 91 [6000004] := FnOk.of Try.call28 Try.func28 (by kernel_rfl) Try.ntmps28 (by kernel_rfl)
def x29 : XC :=
 .seq (.ops [⟨some 4, .newR 24 [(.val (.slice none 0 0)), (.lit .i64 0)], none, []⟩])
 (.scope (.seq (.ops [⟨some 12, .mkslI 5 .u8 1 (.k (.lit .i64 18)) (.k (.lit .i64 18)), none, []⟩,
 ⟨some 13, .build [(.val (.slice none 0 0)), (.lit .i64 0)] [⟨0, 1, (.t 12)⟩], none, []⟩,
 ⟨some 5, .newR 24 [(.val (.slice none 0 0)), (.lit .i64 0)], none, []⟩,
 ⟨none, .storeA 2 (.t 5) (.t 13), none, []⟩])
 (.seq (.ops [⟨some 6, .mv (.k (.lit .i64 32)), none, []⟩,
 ⟨some 7, .mv (.k (.lit .i64 0)), none, []⟩])
 (.seq (.ops [⟨some 14, .call (.k (.fn 45 [])) [], none, []⟩,
 ⟨some 8, .newI 94 .i64 18, none, []⟩,
 ⟨none, .storeA 18 (.t 8) (.t 14), none, []⟩])
 (.seq (.skip)
 (.seq (.seq (.ops [⟨some 15, .mv (.t 1), none, []⟩,
 ⟨some 16, .slcA 18 1 (.t 8) (some (.t 15)) none none, none, []⟩,
 ⟨some 17, .len (.t 16), none, []⟩,
 ⟨some 18, .mv (.k (.lit .i64 0)), none, []⟩])
 (.block 0 (.loop (.seq (.ops [⟨some 19, .cmp .lss (.t 18) (.t 17), none, []⟩])
 (.seq (.cond (.t 19) (.skip) (.exit 0))
 (.seq (.block 1 (.seq (.ops [⟨some 20, .iadr 1 (.t 16) (.t 18), none, []⟩,
 ⟨some 21, .load1 (.t 20), none, []⟩,
 ⟨some 10, .mv (.t 21), none, []⟩])
 (.seq (.ops [⟨some 22, .mv (.t 0), none, []⟩,
 ⟨some 23, .call (.k (.fn 57 [])) [(.t 22)], none, []⟩,
 ⟨some 11, .mv (.t 23), none, []⟩])
 (.seq (.seq (.ops [⟨some 24, .mv (.t 11), none, []⟩,
 ⟨some 25, .cmp .eql (.t 24) (.k (.lit .u8 0)), none, []⟩])
 (.cond (.t 25) (.exit 1) (.skip)))
 (.seq (.ops [⟨some 26, .fadr 0 (.t 5), none, []⟩,
 ⟨some 27, .load1 (.t 26), none, []⟩,
 ⟨some 28, .mv (.t 10), none, []⟩,
 ⟨some 29, .mv (.t 11), none, []⟩,
 ⟨some 30, .iadr 1 (.t 27) (.t 28), none, []⟩,
 ⟨none, .store1 (.t 30) (.t 29), none, []⟩])
 (.seq (.ops [⟨some 31, .mv (.t 10), none, []⟩,
 ⟨some 32, .fadr 1 (.t 5), none, []⟩,
 ⟨none, .store1 (.t 32) (.t 31), none, []⟩])
 (.seq (.ops [⟨some 33, .mv (.t 7), none, []⟩,
 ⟨some 34, .bin .add .i64 (.t 33) (.k (.lit .i64 1)), none, []⟩,
 ⟨some 7, .mv (.t 34), none, []⟩])
 (.seq (.ops [⟨some 35, .mv (.t 6), none, []⟩,
 ⟨some 36, .mv (.t 11), none, []⟩,
 ⟨some 37, .bin .shr .i64 (.k (.lit .i64 32)) (.t 36), none, []⟩,
 ⟨some 38, .bin .sub .i64 (.t 35) (.t 37), none, []⟩,
 ⟨some 6, .mv (.t 38), none, []⟩])
 (.seq (.ops [⟨some 39, .mv (.t 6), none, []⟩,
 ⟨some 40, .cmp .leq (.t 39) (.k (.lit .i64 0)), none, []⟩])
 (.cond (.t 40) (.exit 0) (.skip)))))))))))
 (.ops [⟨some 41, .bin .add .i64 (.t 18) (.k (.lit .i64 1)), none, []⟩,
 ⟨some 18, .mv (.t 41), none, []⟩])))))))
 (.seq (.seq (.ops [⟨some 42, .mv (.t 7), none, []⟩,
 ⟨some 43, .cmp .eql (.t 42) (.k (.lit .i64 1)), none, []⟩])
 (.cond (.t 43) (.seq (.ops [⟨some 44, .fadr 1 (.t 5), none, []⟩,
 ⟨some 45, .load1 (.t 44), none, []⟩,
 ⟨some 46, .build [(.val (.slice none 0 0)), (.lit .i64 0)] [⟨1, 1, (.t 45)⟩], none, []⟩,
 ⟨none, .storeA 2 (.t 4) (.t 46), none, []⟩])
 (.ret)) (.skip)))
 (.seq (.ops [⟨some 47, .mv (.t 6), none, []⟩,
 ⟨some 48, .cmp .eql (.t 47) (.k (.lit .i64 0)), none, []⟩,
 ⟨some 49, .call (.k (.fn 31 [])) [(.t 48)], none, []⟩])
 (.seq (.ops [⟨some 50, .fadr 0 (.t 5), none, []⟩,
 ⟨some 51, .load1 (.t 50), none, []⟩,
 ⟨some 52, .build [(.val (.slice none 0 0)), (.lit .i64 0)] [⟨0, 1, (.t 51)⟩], none, []⟩,
 ⟨none, .storeA 2 (.t 4) (.t 52), none, []⟩])
 (.ret))))))))))
theorem fn29 : FnOk Try.prog 29 x29 53 [6000004] := FnOk.of Try.call29 Try.func29 (by kernel_rfl) Try.ntmps29 (by kernel_rfl)
def x30 : XC :=
 .seq (.ops [⟨some 2, .box 33 none (.t 0), none, []⟩,
 ⟨some 3, .box 24 none (.t 1), none, []⟩,
 ⟨some 4, .mv (.k (.val .nilFunc)), none, []⟩])
 (.seq (.ops [⟨some 5, .mkfn 58 [(.t 2), (.t 3)], none, []⟩,
 ⟨some 4, .mv (.t 5), none, []⟩])
 (.ret))
theorem fn30 : FnOk Try.prog 30 x30 6 [4] := FnOk.of Try.call30 Try.func30 (by kernel_rfl) Try.ntmps30 (by kernel_rfl)
def x31 : XC :=
 .seq (.ops [⟨some 2, .mv (.t 0), none, []⟩,
 ⟨some 3, .not (.t 2), none, []⟩])
 (.cond (.t 3) (.ops [⟨some 4, .build [(.lit .i64 0)] [⟨0, 1, (.k (.lit .i64 11))⟩], none, []⟩,
 ⟨some 5, .mkif 75 (.t 4), none, []⟩,
 ⟨none, .pnc (.t 5), none, []⟩]) (.skip))
theorem fn31 : FnOk Try.prog 31 x31 6 [] := FnOk.of Try.call31 Try.func31 (by kernel_rfl) Try.ntmps31 (by kernel_rfl)
def x33 : XC :=
 .seq (.ops [⟨some 4, .newR 22 [(.val (.slice none 0 0))], none, []⟩,
 ⟨some 5, .newR 25 [(.lit .i64 0)], none, []⟩])
 (.seq (.seq (.ops [⟨some 6, .mv (.t 0), none, []⟩,
 ⟨some 7, .eqv false 2 (.t 6) (.k (.val (.pointer none))), none, []⟩])
 (.cond (.t 7) (.seq (.ops [⟨some 8, .load1 (.t 4), none, []⟩,
 ⟨none, .store1 (.t 4) (.t 8), none, []⟩,
 ⟨none, .store1 (.t 5) (.k (.lit .i64 1)), none, []⟩])
 (.ret)) (.skip)))
 (.seq (.bad)
 (.seq (.ops [⟨some 10, .mv (.t 1), none, []⟩,
 ⟨some 11, .call (.t 10) [], none, []⟩,
 ⟨none, .store1 (.t 4) (.t 11), none, []⟩,
 ⟨none, .store1 (.t 5) (.k (.lit .i64 0)), none, []⟩])
 (.ret))))
theorem fn33 : FnOk Try.prog 33 x33 12 [1000004, 1000005] := FnOk.of Try.call33 Try.func33 (by kernel_rfl) Try.ntmps33 (by kernel_rfl)
def x34 : XC :=
 .seq (.ops [⟨some 3, .mv (.k (.val (.slice none 0 0))), none, []⟩])
 (.seq (.ops [⟨some 4, .mv (.k (.lit .i64 0)), none, []⟩])
 (.seq (.seq (.ops [⟨some 12, .load1 (.t 0), none, []⟩,
 ⟨some 13, .call (.k (.fn 27 [])) [(.t 12), (.k (.lit .i64 1))], none, []⟩,
 ⟨some 14, .cmp .eql (.t 13) (.k (.lit .i64 1)), none, []⟩])
 (.cond (.t 14) (.ops [⟨some 15, .load1 (.t 0), none, []⟩,
 ⟨some 16, .call (.k (.fn 27 [])) [(.t 15), (.k (.lit .i64 4))], none, []⟩,
 ⟨some 17, .bin .add .i64 (.k (.lit .i64 1)) (.t 16), none, []⟩,
 ⟨some 4, .mv (.t 17), none, []⟩]) (.skip)))
 (.seq (.ops [⟨some 19, .load1 (.t 0), none, []⟩,
 ⟨some 20, .load1 (.t 1), none, []⟩,
 ⟨some 21, .mv (.t 4), none, []⟩,
 ⟨some 22, .bin .add .i64 (.t 20) (.t 21), none, []⟩,
 ⟨some 23, .call (.k (.fn 7 [])) [(.t 19), (.t 22)], none, []⟩,
 ⟨some 18, .mv (.t 23), none, []⟩,
 ⟨some 24, .extract (.t 18) 0, none, []⟩,
 ⟨some 25, .extract (.t 18) 1, none, []⟩,
 ⟨some 5, .newR 24 [(.val (.slice none 0 0)), (.lit .i64 0)], none, []⟩,
 ⟨none, .storeA 2 (.t 5) (.t 24), none, []⟩,
 ⟨some 6, .mv (.t 25), none, []⟩])
 (.seq (.seq (.ops [⟨some 26, .mv (.t 6), none, []⟩,
 ⟨some 27, .cmp .neq (.t 26) (.k (.lit .i64 0)), none, []⟩])
 (.cond (.t 27) (.ops [⟨some 28, .mv (.t 6), none, []⟩,
 ⟨some 29, .build [(.lit .i64 0)] [⟨0, 1, (.t 28)⟩], none, []⟩,
 ⟨some 30, .mkif 75 (.t 29), none, []⟩,
 ⟨none, .pnc (.t 30), none, []⟩]) (.skip)))
 (.seq (.ops [⟨some 7, .mv (.k (.val (.slice none 0 0))), none, []⟩])
 (.seq (.block 0 (.loop (.seq (.seq (.ops [⟨some 31, .mv (.t 7), none, []⟩,
 ⟨some 32, .len (.t 31), none, []⟩,
 ⟨some 33, .load1 (.t 2), none, []⟩,
 ⟨some 34, .cmp .lss (.t 32) (.t 33), none, []⟩])
 (.cond (.t 34) (.skip) (.exit 0)))
 (.block 1 (.seq (.ops [⟨some 35, .load1 (.t 0), none, []⟩,
 ⟨some 36, .loadA 2 (.t 5), none, []⟩,
 ⟨some 37, .call (.k (.fn 35 [])) [(.t 35), (.t 36)], none, []⟩,
 ⟨some 8, .mv (.t 37), none, []⟩])
 (.block 2 (.seq (.ops [⟨some 56, .mv (.t 8), none, []⟩,
 ⟨some 57, .mv (.t 4), none, []⟩,
 ⟨some 58, .cmp .gtr (.t 56) (.t 57), none, []⟩,
 ⟨some 55, .mv (.t 58), none, []⟩])
 (.cond (.t 55) (.ops [⟨some 59, .mv (.t 7), none, []⟩,
 ⟨some 60, .mv (.t 8), none, []⟩,
 ⟨some 61, .mv (.t 4), none, []⟩,
 ⟨some 62, .bin .sub .i64 (.t 60) (.t 61), none, []⟩,
 ⟨some 63, .conv .u8 (.t 62), none, []⟩,
 ⟨some 64, .bsliceI 5 .u8 1 [⟨0, 1, (.t 63)⟩], none, []⟩,
 ⟨some 65, .appI 5 .u8 1 (.t 59) (.t 64), none, []⟩,
 ⟨some 7, .mv (.t 65), none, []⟩]) (.seq (.ops [⟨some 67, .mv (.t 8), none, []⟩,
 ⟨some 68, .cmp .eql (.t 67) (.k (.lit .i64 0)), none, []⟩,
 ⟨some 66, .mv (.t 68), none, []⟩])
 (.cond (.t 66) (.ops [⟨some 69, .mv (.t 7), none, []⟩,
 ⟨some 70, .bsliceI 5 .u8 1 [⟨0, 1, (.k (.lit .u8 0))⟩], none, []⟩,
 ⟨some 71, .appI 5 .u8 1 (.t 69) (.t 70), none, []⟩,
 ⟨some 7, .mv (.t 71), none, []⟩]) (.seq (.ops [⟨some 38, .mv (.t 8), none, []⟩,
 ⟨some 39, .conv .u64 (.t 38), none, []⟩,
 ⟨some 40, .bin .shl .i64 (.k (.lit .i64 1)) (.t 39), none, []⟩,
 ⟨some 41, .load1 (.t 0), none, []⟩,
 ⟨some 42, .mv (.t 8), none, []⟩,
 ⟨some 43, .call (.k (.fn 27 [])) [(.t 41), (.t 42)], none, []⟩,
 ⟨some 44, .bin .add .i64 (.t 40) (.t 43), none, []⟩,
 ⟨some 9, .mv (.t 44), none, []⟩])
 (.seq (.ops [⟨some 45, .mv (.t 7), none, []⟩,
 ⟨some 46, .len (.t 45), none, []⟩,
 ⟨some 47, .mv (.t 9), none, []⟩,
 ⟨some 48, .bin .add .i64 (.t 46) (.t 47), none, []⟩,
 ⟨some 49, .load1 (.t 2), none, []⟩,
 ⟨some 50, .cmp .leq (.t 48) (.t 49), none, []⟩,
 ⟨some 51, .call (.k (.fn 31 [])) [(.t 50)], none, []⟩])
 (.ops [⟨some 52, .mv (.t 7), none, []⟩,
 ⟨some 53, .mv (.t 9), none, []⟩,
 ⟨some 54, .appZ 5 .u8 1 (.t 52) (.t 53), none, []⟩,
 ⟨some 7, .mv (.t 54), none, []⟩])))))))))))))
 (.seq (.seq (.ops [⟨some 72, .load1 (.t 0), none, []⟩,
 ⟨some 73, .call (.k (.fn 27 [])) [(.t 72), (.k (.lit .i64 1))], none, []⟩,
 ⟨some 74, .cmp .eql (.t 73) (.k (.lit .i64 1)), none, []⟩])
 (.cond (.t 74) (.ops [⟨some 75, .mv (.t 7), none, []⟩,
 ⟨some 76, .call (.k (.fn 36 [])) [(.t 75)], none, []⟩]) (.skip)))
 (.seq (.seq (.ops [⟨some 77, .mv (.t 7), none, []⟩,
 ⟨some 78, .len (.t 77), none, []⟩,
 ⟨some 79, .mv (.k (.lit .i64 0)), none, []⟩])
 (.block 3 (.loop (.seq (.ops [⟨some 80, .cmp .lss (.t 79) (.t 78), none, []⟩])
 (.seq (.cond (.t 80) (.skip) (.exit 3))
 (.seq (.block 4 (.seq (.ops [⟨some 81, .iadr 1 (.t 77) (.t 79), none, []⟩,
 ⟨some 82, .load1 (.t 81), none, []⟩,
 ⟨some 11, .mv (.t 82), none, []⟩])
 (.ops [⟨some 83, .mv (.t 11), none, []⟩,
 ⟨some 84, .conv .i64 (.t 83), none, []⟩,
 ⟨some 85, .load1 (.t 1), none, []⟩,
 ⟨some 86, .cmp .lss (.t 84) (.t 85), none, []⟩,
 ⟨some 87, .call (.k (.fn 31 [])) [(.t 86)], none, []⟩])))
 (.ops [⟨some 88, .bin .add .i64 (.t 79) (.k (.lit .i64 1)), none, []⟩,
 ⟨some 79, .mv (.t 88), none, []⟩])))))))
 (.seq (.ops [⟨some 89, .mv (.t 7), none, []⟩,
 ⟨some 3, .mv (.t 89), none, []⟩])
 (.ret))))))))))
theorem fn34 : FnOk Try.prog 34 x34 90 [3] := FnOk.of Try.call34 Try.func34 (by kernel_rfl) Try.ntmps34 (by kernel_rfl)
def x35 : XC :=
 .seq (.ops [⟨some 3, .box 24 none (.t 1), none, []⟩,
 ⟨some 4, .mv (.k (.lit .i64 0)), none, []⟩])
 (.seq (.seq (.ops [⟨some 7, .fadr 0 (.t 3), none, []⟩,
 ⟨some 8, .load1 (.t 7), none, []⟩,
 ⟨some 9, .len (.t 8), none, []⟩,
 ⟨some 10, .cmp .eql (.t 9) (.k (.lit .i64 0)), none, []⟩])
 (.cond (.t 10) (.seq (.ops [⟨some 11, .fadr 1 (.t 3), none, []⟩,
 ⟨some 12, .load1 (.t 11), none, []⟩,
 ⟨some 4, .mv (.t 12), none, []⟩])
 (.ret)) (.skip)))
 (.seq (.ops [⟨some 14, .mv (.t 0), none, []⟩,
 ⟨some 15, .fadr 0 (.t 3), none, []⟩,
 ⟨some 16, .load1 (.t 15), none, []⟩,
 ⟨some 17, .call (.k (.fn 60 [])) [(.t 14), (.t 16)], none, []⟩,
 ⟨some 13, .mv (.t 17), none, []⟩,
 ⟨some 18, .extract (.t 13) 0, none, []⟩,
 ⟨some 19, .extract (.t 13) 1, none, []⟩,
 ⟨some 5, .mv (.t 18), none, []⟩,
 ⟨some 6, .mv (.t 19), none, []⟩])
 (.seq (.seq (.ops [⟨some 20, .mv (.t 6), none, []⟩,
 ⟨some 21, .cmp .neq (.t 20) (.k (.lit .i64 0)), none, []⟩])
 (.cond (.t 21) (.ops [⟨some 22, .mv (.t 6), none, []⟩,
 ⟨some 23, .build [(.lit .i64 0)] [⟨0, 1, (.t 22)⟩], none, []⟩,
 ⟨some 24, .mkif 75 (.t 23), none, []⟩,
 ⟨none, .pnc (.t 24), none, []⟩]) (.skip)))
 (.seq (.ops [⟨some 25, .mv (.t 5), none, []⟩,
 ⟨some 4, .mv (.t 25), none, []⟩])
 (.ret)))))
theorem fn35 : FnOk Try.prog 35 x35 26 [4] := FnOk.of Try.call35 Try.func35 (by kernel_rfl) Try.ntmps35 (by kernel_rfl)
def x36 : XC :=
 .seq (.ops [⟨some 2, .newI 110 .u8 256, none, []⟩])
 (.seq (.seq (.ops [⟨some 7, .mv (.k (.lit .i64 0)), none, []⟩])
 (.block 0 (.loop (.seq (.ops [⟨some 8, .cmp .lss (.t 7) (.k (.lit .i64 256)), none, []⟩])
 (.seq (.cond (.t 8) (.skip) (.exit 0))
 (.seq (.block 1 (.seq (.ops [⟨some 9, .mv (.t 7), none, []⟩,
 ⟨some 3, .mv (.t 9), none, []⟩])
 (.ops [⟨some 10, .mv (.t 3), none, []⟩,
 ⟨some 11, .mv (.t 3), none, []⟩,
 ⟨some 12, .conv .u8 (.t 11), none, []⟩,
 ⟨some 13, .iadrA 256 1 (.t 2) (.t 10), none, []⟩,
 ⟨none, .store1 (.t 13) (.t 12), none, []⟩])))
 (.ops [⟨some 14, .bin .add .i64 (.t 7) (.k (.lit .i64 1)), none, []⟩,
 ⟨some 7, .mv (.t 14), none, []⟩])))))))
 (.seq (.ops [⟨some 15, .mv (.t 0), none, []⟩,
 ⟨some 16, .len (.t 15), none, []⟩,
 ⟨some 17, .mv (.k (.lit .i64 0)), none, []⟩])
 (.block 2 (.loop (.seq (.ops [⟨some 18, .cmp .lss (.t 17) (.t 16), none, []⟩])
 (.seq (.cond (.t 18) (.skip) (.exit 2))
 (.seq (.block 3 (.seq (.ops [⟨some 19, .mv (.t 17), none, []⟩,
 ⟨some 20, .iadr 1 (.t 15) (.t 17), none, []⟩,
 ⟨some 21, .load1 (.t 20), none, []⟩,
 ⟨some 4, .mv (.t 19), none, []⟩,
 ⟨some 5, .mv (.t 21), none, []⟩])
 (.seq (.ops [⟨some 22, .mv (.t 5), none, []⟩,
 ⟨some 23, .iadrA 256 1 (.t 2) (.t 22), none, []⟩,
 ⟨some 24, .load1 (.t 23), none, []⟩,
 ⟨some 6, .mv (.t 24), none, []⟩])
 (.seq (.ops [⟨some 25, .mv (.t 5), none, []⟩,
 ⟨some 26, .conv .i64 (.t 25), none, []⟩,
 ⟨some 27, .bin .add .i64 (.t 26) (.k (.lit .i64 1)), none, []⟩,
 ⟨some 28, .slcA 256 1 (.t 2) (some (.k (.lit .i64 1))) (some (.t 27)) none, none, []⟩,
 ⟨some 29, .mv (.t 5), none, []⟩,
 ⟨some 30, .slcA 256 1 (.t 2) none (some (.t 29)) none, none, []⟩,
 ⟨some 31, .copyI .u8 (.t 28) (.t 30), none, []⟩])
 (.ops [⟨some 32, .mv (.t 0), none, []⟩,
 ⟨some 33, .mv (.t 4), none, []⟩,
 ⟨some 34, .mv (.t 6), none, []⟩,
 ⟨some 35, .mv (.t 6), none, []⟩,
 ⟨some 36, .iadrA 256 1 (.t 2) (.k (.lit .i64 0)), none, []⟩,
 ⟨none, .store1 (.t 36) (.t 34), none, []⟩,
 ⟨some 37, .iadr 1 (.t 32) (.t 33), none, []⟩,
 ⟨none, .store1 (.t 37) (.t 35), none, []⟩])))))
 (.ops [⟨some 38, .bin .add .i64 (.t 17) (.k (.lit .i64 1)), none, []⟩,
 ⟨some 17, .mv (.t 38), none, []⟩]))))))))
theorem fn36 : FnOk Try.prog 36 x36 39 [] := FnOk.of Try.call36 Try.func36 (by kernel_rfl) Try.ntmps36 (by kernel_rfl)
def x38 : XC :=
 .seq (.ops [⟨some 1, .mv (.k (.lit .i64 0)), none, []⟩])
 (.seq (.seq (.ops [⟨some 3, .load1 (.t 0), none, []⟩,
 ⟨some 4, .call (.k (.fn 27 [])) [(.t 3), (.k (.lit .i64 1))], none, []⟩,
 ⟨some 5, .cmp .eql (.t 4) (.k (.lit .i64 0)), none, []⟩])
 (.cond (.t 5) (.seq (.ops [⟨some 1, .mv (.k (.lit .i64 1)), none, []⟩])
 (.ret)) (.skip)))
 (.seq (.ops [⟨some 6, .load1 (.t 0), none, []⟩,
 ⟨some 7, .call (.k (.fn 27 [])) [(.t 6), (.k (.lit .i64 3))], none, []⟩,
 ⟨some 2, .mv (.t 7), none, []⟩])
 (.seq (.ops [⟨some 8, .mv (.t 2), none, []⟩,
 ⟨some 9, .conv .u64 (.t 8), none, []⟩,
 ⟨some 10, .bin .shl .i64 (.k (.lit .i64 1)) (.t 9), none, []⟩,
 ⟨some 11, .bin .add .i64 (.t 10) (.k (.lit .i64 1)), none, []⟩,
 ⟨some 12, .load1 (.t 0), none, []⟩,
 ⟨some 13, .mv (.t 2), none, []⟩,
 ⟨some 14, .call (.k (.fn 27 [])) [(.t 12), (.t 13)], none, []⟩,
 ⟨some 15, .bin .add .i64 (.t 11) (.t 14), none, []⟩,
 ⟨some 1, .mv (.t 15), none, []⟩])
 (.ret))))
theorem fn38 : FnOk Try.prog 38 x38 16 [1] := FnOk.of Try.call38 Try.func38 (by kernel_rfl) Try.ntmps38 (by kernel_rfl)
def x39 : XC :=
 .seq (.ops [⟨some 2, .mv (.k (.lit .u8 0)), none, []⟩,
 ⟨some 3, .mv (.k (.bool false)), none, []⟩])
 (.seq (.seq (.ops [⟨some 4, .load1 (.t 0), none, []⟩,
 ⟨some 5, .load1 (.t 1), none, []⟩,
 ⟨some 6, .len (.t 5), none, []⟩,
 ⟨some 7, .cmp .geq (.t 4) (.t 6), none, []⟩])
 (.cond (.t 7) (.seq (.ops [⟨some 2, .mv (.k (.lit .u8 0)), none, []⟩,
 ⟨some 3, .mv (.k (.bool false)), none, []⟩])
 (.ret)) (.skip)))
 (.seq (.ops [⟨some 8, .load1 (.t 0), none, []⟩,
 ⟨some 9, .bin .add .i64 (.t 8) (.k (.lit .i64 1)), none, []⟩,
 ⟨none, .store1 (.t 0) (.t 9), none, []⟩])
 (.seq (.ops [⟨some 10, .load1 (.t 1), none, []⟩,
 ⟨some 11, .load1 (.t 0), none, []⟩,
 ⟨some 12, .bin .sub .i64 (.t 11) (.k (.lit .i64 1)), none, []⟩,
 ⟨some 13, .iadr 1 (.t 10) (.t 12), none, []⟩,
 ⟨some 14, .load1 (.t 13), none, []⟩,
 ⟨some 2, .mv (.t 14), none, []⟩,
 ⟨some 3, .mv (.k (.bool true)), none, []⟩])
 (.ret))))
theorem fn39 : FnOk Try.prog 39 x39 15 [2, 3] := FnOk.of Try.call39 Try.func39 (by kernel_rfl) Try.ntmps39 (by kernel_rfl)
def x40 : XC :=
 .seq (.ops [⟨some 2, .mv (.k (.lit .i64 0)), none, []⟩])
 (.seq (.ops [⟨some 3, .load1 (.t 0), none, []⟩,
 ⟨some 4, .len (.t 3), none, []⟩,
 ⟨some 5, .load1 (.t 1), none, []⟩,
 ⟨some 6, .bin .sub .i64 (.t 4) (.t 5), none, []⟩,
 ⟨some 7, .bin .mul .i64 (.k (.lit .i64 8)) (.t 6), none, []⟩,
 ⟨some 2, .mv (.t 7), none, []⟩])
 (.ret))
theorem fn40 : FnOk Try.prog 40 x40 8 [2] := FnOk.of Try.call40 Try.func40 (by kernel_rfl) Try.ntmps40 (by kernel_rfl)
def x41 : XC :=
 .seq (.ops [⟨some 2, .mv (.k (.lit .i64 0)), none, []⟩])
 (.seq (.cond (.k (.bool false)) (.seq (.ops [⟨some 3, .mv (.t 0), none, []⟩,
 ⟨some 4, .conv .u32 (.t 3), none, []⟩,
 ⟨some 5, .call (.k (.fn 63 [])) [(.t 4)], none, []⟩,
 ⟨some 2, .mv (.t 5), none, []⟩])
 (.ret)) (.skip))
 (.seq (.ops [⟨some 6, .mv (.t 0), none, []⟩,
 ⟨some 7, .call (.k (.fn 64 [])) [(.t 6)], none, []⟩,
 ⟨some 2, .mv (.t 7), none, []⟩])
 (.ret)))
theorem fn41 : FnOk Try.prog 41 x41 8 [2] := FnOk.of Try.call41 Try.func41 (by kernel_rfl) Try.ntmps41 (by kernel_rfl)
def x45 : XC :=
 .seq (.ops [⟨some 0, .newI 94 .i64 18, none, []⟩])
 (.seq (.ops [⟨some 1, .build (List.replicate 18 (.lit .i64 0)) [⟨0, 1, (.k (.lit .i64 1))⟩, ⟨1, 1, (.k (.lit .i64 2))⟩, ⟨2, 1, (.k (.lit .i64 3))⟩, ⟨3, 1, (.k (.lit .i64 4))⟩, ⟨4, 1, (.k (.lit .i64 0))⟩, ⟨5, 1, (.k (.lit .i64 5))⟩, ⟨6, 1, (.k (.lit .i64 17))⟩, ⟨7, 1, (.k (.lit .i64 6))⟩, ⟨8, 1, (.k (.lit .i64 16))⟩, ⟨9, 1, (.k (.lit .i64 7))⟩, ⟨10, 1, (.k (.lit .i64 8))⟩, ⟨11, 1, (.k (.lit .i64 9))⟩, ⟨12, 1, (.k (.lit .i64 10))⟩, ⟨13, 1, (.k (.lit .i64 11))⟩, ⟨14, 1, (.k (.lit .i64 12))⟩, ⟨15, 1, (.k (.lit .i64 13))⟩, ⟨16, 1, (.k (.lit .i64 14))⟩, ⟨17, 1, (.k (.lit .i64 15))⟩], none, []⟩,
 ⟨none, .storeA 18 (.t 0) (.t 1), none, []⟩])
 (.ret))
theorem fn45 : FnOk Try.prog 45 x45 2 [38000000] := FnOk.of Try.call45 Try.func45 (by kernel_rfl) Try.ntmps45 (by kernel_rfl)
def x47 : XC :=
 .seq (.ops [⟨some 4, .mv (.k (.lit .u64 0)), none, []⟩,
 ⟨some 5, .mv (.k (.lit .i64 0)), none, []⟩])
 (.seq (.seq (.ops [⟨some 8, .mv (.t 1), none, []⟩,
 ⟨some 9, .cmp .lss (.t 8) (.k (.lit .i64 0)), none, []⟩,
 ⟨some 10, .mv (.t 9), none, []⟩,
 ⟨some 11, .mv (.t 1), some (10, false), []⟩,
 ⟨some 12, .cmp .gtr (.t 11) (.k (.lit .i64 56)), some (10, false), []⟩,
 ⟨some 13, .pick (.t 10) (.k (.bool true)) (.t 12), none, []⟩])
 (.cond (.t 13) (.seq (.ops [⟨some 4, .mv (.k (.lit .u64 0)), none, []⟩,
 ⟨some 5, .mv (.k (.lit .i64 2)), none, []⟩])
 (.ret)) (.skip)))
 (.seq (.seq (.ops [⟨some 14, .mv (.t 0), none, []⟩,
 ⟨some 15, .call (.k (.fn 19 [])) [(.t 14)], none, []⟩,
 ⟨some 16, .mv (.t 1), none, []⟩,
 ⟨some 17, .cmp .lss (.t 15) (.t 16), none, []⟩])
 (.cond (.t 17) (.seq (.ops [⟨some 4, .mv (.k (.lit .u64 0)), none, []⟩,
 ⟨some 5, .mv (.k (.lit .i64 10)), none, []⟩])
 (.ret)) (.skip)))
 (.seq (.ops [⟨some 6, .mv (.k (.lit .u64 0)), none, []⟩])
 (.seq (.seq (.ops [⟨some 7, .mv (.k (.lit .i64 0)), none, []⟩])
 (.block 0 (.loop (.seq (.seq (.ops [⟨some 18, .mv (.t 7), none, []⟩,
 ⟨some 19, .mv (.t 1), none, []⟩,
 ⟨some 20, .cmp .lss (.t 18) (.t 19), none, []⟩])
 (.cond (.t 20) (.skip) (.exit 0)))
 (.seq (.block 1 (.ops [⟨some 23, .mv (.t 6), none, []⟩,
 ⟨some 24, .mv (.t 0), none, []⟩,
 ⟨some 25, .mv (.t 0), none, []⟩,
 ⟨some 26, .nilchk (.t 25), none, []⟩,
 ⟨some 27, .fadr 1 (.t 26), none, []⟩,
 ⟨some 28, .load1 (.t 27), none, []⟩,
 ⟨some 29, .mv (.t 7), none, []⟩,
 ⟨some 30, .bin .add .i64 (.t 28) (.t 29), none, []⟩,
 ⟨some 31, .call (.k (.fn 69 [])) [(.t 24), (.t 30)], none, []⟩,
 ⟨some 32, .mv (.t 7), none, []⟩,
 ⟨some 33, .conv .u64 (.t 32), none, []⟩,
 ⟨some 34, .bin .shl .u64 (.t 31) (.t 33), none, []⟩,
 ⟨some 35, .bin .or .u64 (.t 23) (.t 34), none, []⟩,
 ⟨some 6, .mv (.t 35), none, []⟩]))
 (.ops [⟨some 21, .mv (.t 7), none, []⟩,
 ⟨some 22, .bin .add .i64 (.t 21) (.k (.lit .i64 1)), none, []⟩,
 ⟨some 7, .mv (.t 22), none, []⟩]))))))
 (.seq (.ops [⟨some 36, .mv (.t 0), none, []⟩,
 ⟨some 37, .nilchk (.t 36), none, []⟩,
 ⟨some 38, .fadr 1 (.t 37), none, []⟩,
 ⟨some 39, .load1 (.t 38), none, []⟩,
 ⟨some 40, .mv (.t 1), none, []⟩,
 ⟨some 41, .bin .add .i64 (.t 39) (.t 40), none, []⟩,
 ⟨some 42, .nilchk (.t 36), none, []⟩,
 ⟨some 43, .fadr 1 (.t 42), none, []⟩,
 ⟨none, .store1 (.t 43) (.t 41), none, []⟩])
 (.seq (.ops [⟨some 44, .mv (.t 6), none, []⟩,
 ⟨some 4, .mv (.t 44), none, []⟩,
 ⟨some 5, .mv (.k (.lit .i64 0)), none, []⟩])
 (.ret)))))))
theorem fn47 : FnOk Try.prog 47 x47 45 [4, 5] := FnOk.of Try.call47 Try.func47 (by kernel_rfl) Try.ntmps47 (by kernel_rfl)
def x48 : XC :=
 .seq (.ops [⟨some 4, .newR 44 [(.val (.slice none 0 0)), (.val (.slice none 0 0)), (.lit .i64 0)], none, []⟩,
 ⟨some 5, .mv (.k (.lit .i64 0)), none, []⟩])
 (.seq (.ops [⟨some 20, .mv (.t 0), none, []⟩,
 ⟨some 21, .call (.k (.fn 47 [])) [(.t 20), (.k (.lit .i64 2))], none, []⟩,
 ⟨some 19, .mv (.t 21), none, []⟩,
 ⟨some 22, .extract (.t 19) 0, none, []⟩,
 ⟨some 23, .extract (.t 19) 1, none, []⟩,
 ⟨some 6, .mv (.t 22), none, []⟩,
 ⟨some 7, .mv (.t 23), none, []⟩])
 (.seq (.seq (.ops [⟨some 24, .mv (.t 7), none, []⟩,
 ⟨some 25, .cmp .neq (.t 24) (.k (.lit .i64 0)), none, []⟩])
 (.cond (.t 25) (.seq (.ops [⟨some 26, .build [(.val (.slice none 0 0)), (.val (.slice none 0 0)), (.lit .i64 0)] [], none, []⟩,
 ⟨some 27, .mv (.t 7), none, []⟩,
 ⟨none, .storeA 3 (.t 4) (.t 26), none, []⟩,
 ⟨some 5, .mv (.t 27), none, []⟩])
 (.ret)) (.skip)))
 (.seq (.ops [⟨some 8, .mv (.k (.val (.slice none 0 0))), none, []⟩])
 (.seq (.seq (.ops [⟨some 9, .mv (.k (.lit .i64 0)), none, []⟩])
 (.block 0 (.loop (.seq (.seq (.ops [⟨some 28, .mv (.t 9), none, []⟩,
 ⟨some 29, .mv (.t 6), none, []⟩,
 ⟨some 30, .conv .i64 (.t 29), none, []⟩,
 ⟨some 31, .cmp .leq (.t 28) (.t 30), none, []⟩])
 (.cond (.t 31) (.skip) (.exit 0)))
 (.seq (.block 1 (.seq (.ops [⟨some 35, .mv (.t 0), none, []⟩,
 ⟨some 36, .mv (.t 1), none, []⟩,
 ⟨some 37, .bin .sub .i64 (.t 36) (.k (.lit .i64 1)), none, []⟩,
 ⟨some 38, .call (.k (.fn 70 [])) [(.t 37)], none, []⟩,
 ⟨some 39, .call (.k (.fn 47 [])) [(.t 35), (.t 38)], none, []⟩,
 ⟨some 34, .mv (.t 39), none, []⟩,
 ⟨some 40, .extract (.t 34) 0, none, []⟩,
 ⟨some 41, .extract (.t 34) 1, none, []⟩,
 ⟨some 10, .mv (.t 40), none, []⟩,
 ⟨some 11, .mv (.t 41), none, []⟩])
 (.seq (.seq (.ops [⟨some 42, .mv (.t 11), none, []⟩,
 ⟨some 43, .cmp .neq (.t 42) (.k (.lit .i64 0)), none, []⟩])
 (.cond (.t 43) (.seq (.ops [⟨some 44, .build [(.val (.slice none 0 0)), (.val (.slice none 0 0)), (.lit .i64 0)] [], none, []⟩,
 ⟨some 45, .mv (.t 11), none, []⟩,
 ⟨none, .storeA 3 (.t 4) (.t 44), none, []⟩,
 ⟨some 5, .mv (.t 45), none, []⟩])
 (.ret)) (.skip)))
 (.seq (.seq (.ops [⟨some 46, .mv (.t 10), none, []⟩,
 ⟨some 47, .conv .i64 (.t 46), none, []⟩,
 ⟨some 48, .mv (.t 1), none, []⟩,
 ⟨some 49, .cmp .geq (.t 47) (.t 48), none, []⟩])
 (.cond (.t 49) (.seq (.ops [⟨some 50, .build [(.val (.slice none 0 0)), (.val (.slice none 0 0)), (.lit .i64 0)] [], none, []⟩,
 ⟨none, .storeA 3 (.t 4) (.t 50), none, []⟩,
 ⟨some 5, .mv (.k (.lit .i64 11)), none, []⟩])
 (.ret)) (.skip)))
 (.ops [⟨some 51, .mv (.t 8), none, []⟩,
 ⟨some 52, .mv (.t 10), none, []⟩,
 ⟨some 53, .conv .i64 (.t 52), none, []⟩,
 ⟨some 54, .bsliceI 3 .i64 1 [⟨0, 1, (.t 53)⟩], none, []⟩,
 ⟨some 55, .appI 3 .i64 8 (.t 51) (.t 54), none, []⟩,
 ⟨some 8, .mv (.t 55), none, []⟩])))))
 (.ops [⟨some 32, .mv (.t 9), none, []⟩,
 ⟨some 33, .bin .add .i64 (.t 32) (.k (.lit .i64 1)), none, []⟩,
 ⟨some 9, .mv (.t 33), none, []⟩]))))))
 (.seq (.seq (.ops [⟨some 12, .mv (.k (.lit .i64 0)), none, []⟩])
 (.block 2 (.loop (.seq (.seq (.ops [⟨some 56, .mv (.t 12), none, []⟩,
 ⟨some 57, .mv (.t 8), none, []⟩,
 ⟨some 58, .len (.t 57), none, []⟩,
 ⟨some 59, .cmp .lss (.t 56) (.t 58), none, []⟩])
 (.cond (.t 59) (.skip) (.exit 2)))
 (.seq (.block 3 (.seq (.ops [⟨some 13, .mv (.k (.lit .i64 0)), none, []⟩])
 (.block 4 (.loop (.seq (.seq (.ops [⟨some 62, .mv (.t 13), none, []⟩,
 ⟨some 63, .mv (.t 12), none, []⟩,
 ⟨some 64, .cmp .lss (.t 62) (.t 63), none, []⟩])
 (.cond (.t 64) (.skip) (.exit 4)))
 (.seq (.block 5 (.seq (.ops [⟨some 67, .mv (.t 8), none, []⟩,
 ⟨some 68, .mv (.t 12), none, []⟩,
 ⟨some 69, .iadr 1 (.t 67) (.t 68), none, []⟩,
 ⟨some 70, .load1 (.t 69), none, []⟩,
 ⟨some 71, .mv (.t 8), none, []⟩,
 ⟨some 72, .mv (.t 13), none, []⟩,
 ⟨some 73, .iadr 1 (.t 71) (.t 72), none, []⟩,
 ⟨some 74, .load1 (.t 73), none, []⟩,
 ⟨some 75, .cmp .eql (.t 70) (.t 74), none, []⟩])
 (.cond (.t 75) (.seq (.ops [⟨some 76, .build [(.val (.slice none 0 0)), (.val (.slice none 0 0)), (.lit .i64 0)] [], none, []⟩,
 ⟨none, .storeA 3 (.t 4) (.t 76), none, []⟩,
 ⟨some 5, .mv (.k (.lit .i64 11)), none, []⟩])
 (.ret)) (.skip))))
 (.ops [⟨some 65, .mv (.t 13), none, []⟩,
 ⟨some 66, .bin .add .i64 (.t 65) (.k (.lit .i64 1)), none, []⟩,
 ⟨some 13, .mv (.t 66), none, []⟩])))))))
 (.ops [⟨some 60, .mv (.t 12), none, []⟩,
 ⟨some 61, .bin .add .i64 (.t 60) (.k (.lit .i64 1)), none, []⟩,
 ⟨some 12, .mv (.t 61), none, []⟩]))))))
 (.seq (.ops [⟨some 77, .bsliceI 5 .u8 1 [⟨0, 1, (.k (.lit .u8 0))⟩], none, []⟩,
 ⟨some 78, .bsliceI 5 .u8 2 [⟨0, 1, (.k (.lit .u8 1))⟩, ⟨1, 1, (.k (.lit .u8 1))⟩], none, []⟩,
 ⟨some 79, .bsliceI 5 .u8 3 [⟨0, 1, (.k (.lit .u8 1))⟩, ⟨1, 1, (.k (.lit .u8 2))⟩, ⟨2, 1, (.k (.lit .u8 2))⟩], none, []⟩,
 ⟨some 80, .bsliceI 5 .u8 4 [⟨0, 1, (.k (.lit .u8 2))⟩, ⟨1, 1, (.k (.lit .u8 2))⟩, ⟨2, 1, (.k (.lit .u8 2))⟩, ⟨3, 1, (.k (.lit .u8 2))⟩], none, []⟩,
 ⟨some 81, .bsliceI 5 .u8 4 [⟨0, 1, (.k (.lit .u8 1))⟩, ⟨1, 1, (.k (.lit .u8 2))⟩, ⟨2, 1, (.k (.lit .u8 3))⟩, ⟨3, 1, (.k (.lit .u8 3))⟩], none, []⟩,
 ⟨some 82, .bsliceR 22 1 5 [(.val (.slice none 0 0))] [⟨0, 1, (.t 77)⟩, ⟨1, 1, (.t 78)⟩, ⟨2, 1, (.t 79)⟩, ⟨3, 1, (.t 80)⟩, ⟨4, 1, (.t 81)⟩], none, []⟩,
 ⟨some 83, .mv (.t 6), none, []⟩,
 ⟨some 84, .iadr 1 (.t 82) (.t 83), none, []⟩,
 ⟨some 85, .load1 (.t 84), none, []⟩,
 ⟨some 14, .mv (.t 85), none, []⟩])
 (.seq (.seq (.ops [⟨some 86, .mv (.t 6), none, []⟩,
 ⟨some 87, .cmp .eql (.t 86) (.k (.lit .u64 3)), none, []⟩])
 (.cond (.t 87) (.seq (.ops [⟨some 89, .mv (.t 0), none, []⟩,
 ⟨some 90, .call (.k (.fn 47 [])) [(.t 89), (.k (.lit .i64 1))], none, []⟩,
 ⟨some 88, .mv (.t 90), none, []⟩,
 ⟨some 91, .extract (.t 88) 0, none, []⟩,
 ⟨some 92, .extract (.t 88) 1, none, []⟩,
 ⟨some 15, .mv (.t 91), none, []⟩,
 ⟨some 16, .mv (.t 92), none, []⟩])
 (.seq (.seq (.ops [⟨some 93, .mv (.t 16), none, []⟩,
 ⟨some 94, .cmp .neq (.t 93) (.k (.lit .i64 0)), none, []⟩])
 (.cond (.t 94) (.seq (.ops [⟨some 95, .build [(.val (.slice none 0 0)), (.val (.slice none 0 0)), (.lit .i64 0)] [], none, []⟩,
 ⟨some 96, .mv (.t 16), none, []⟩,
 ⟨none, .storeA 3 (.t 4) (.t 95), none, []⟩,
 ⟨some 5, .mv (.t 96), none, []⟩])
 (.ret)) (.skip)))
 (.ops [⟨some 97, .bsliceI 5 .u8 4 [⟨0, 1, (.k (.lit .u8 2))⟩, ⟨1, 1, (.k (.lit .u8 2))⟩, ⟨2, 1, (.k (.lit .u8 2))⟩, ⟨3, 1, (.k (.lit .u8 2))⟩], none, []⟩,
 ⟨some 98, .bsliceI 5 .u8 4 [⟨0, 1, (.k (.lit .u8 1))⟩, ⟨1, 1, (.k (.lit .u8 2))⟩, ⟨2, 1, (.k (.lit .u8 3))⟩, ⟨3, 1, (.k (.lit .u8 3))⟩], none, []⟩,
 ⟨some 99, .bsliceR 22 1 2 [(.val (.slice none 0 0))] [⟨0, 1, (.t 97)⟩, ⟨1, 1, (.t 98)⟩], none, []⟩,
 ⟨some 100, .mv (.t 15), none, []⟩,
 ⟨some 101, .iadr 1 (.t 99) (.t 100), none, []⟩,
 ⟨some 102, .load1 (.t 101), none, []⟩,
 ⟨some 14, .mv (.t 102), none, []⟩]))) (.skip)))
 (.seq (.seq (.ops [⟨some 103, .mv (.t 6), none, []⟩,
 ⟨some 104, .cmp .eql (.t 103) (.k (.lit .u64 0)), none, []⟩])
 (.cond (.t 104) (.seq (.ops [⟨some 105, .mv (.t 8), none, []⟩,
 ⟨some 106, .iadr 1 (.t 105) (.k (.lit .i64 0)), none, []⟩,
 ⟨some 107, .load1 (.t 106), none, []⟩,
 ⟨some 108, .build [(.val (.slice none 0 0)), (.val (.slice none 0 0)), (.lit .i64 0)] [⟨2, 1, (.t 107)⟩], none, []⟩,
 ⟨none, .storeA 3 (.t 4) (.t 108), none, []⟩,
 ⟨some 5, .mv (.k (.lit .i64 0)), none, []⟩])
 (.ret)) (.skip)))
 (.seq (.ops [⟨some 109, .mv (.t 1), none, []⟩,
 ⟨some 110, .mkslI 5 .u8 1 (.t 109) (.t 109), none, []⟩,
 ⟨some 17, .mv (.t 110), none, []⟩])
 (.seq (.seq (.ops [⟨some 18, .mv (.k (.lit .i64 0)), none, []⟩])
 (.block 6 (.loop (.seq (.seq (.ops [⟨some 111, .mv (.t 18), none, []⟩,
 ⟨some 112, .mv (.t 8), none, []⟩,
 ⟨some 113, .len (.t 112), none, []⟩,
 ⟨some 114, .cmp .lss (.t 111) (.t 113), none, []⟩])
 (.cond (.t 114) (.skip) (.exit 6)))
 (.seq (.block 7 (.ops [⟨some 117, .mv (.t 17), none, []⟩,
 ⟨some 118, .mv (.t 8), none, []⟩,
 ⟨some 119, .mv (.t 18), none, []⟩,
 ⟨some 120, .iadr 1 (.t 118) (.t 119), none, []⟩,
 ⟨some 121, .load1 (.t 120), none, []⟩,
 ⟨some 122, .mv (.t 14), none, []⟩,
 ⟨some 123, .mv (.t 18), none, []⟩,
 ⟨some 124, .iadr 1 (.t 122) (.t 123), none, []⟩,
 ⟨some 125, .load1 (.t 124), none, []⟩,
 ⟨some 126, .iadr 1 (.t 117) (.t 121), none, []⟩,
 ⟨none, .store1 (.t 126) (.t 125), none, []⟩]))
 (.ops [⟨some 115, .mv (.t 18), none, []⟩,
 ⟨some 116, .bin .add .i64 (.t 115) (.k (.lit .i64 1)), none, []⟩,
 ⟨some 18, .mv (.t 116), none, []⟩]))))))
 (.seq (.ops [⟨some 127, .mv (.t 17), none, []⟩,
 ⟨some 128, .call (.k (.fn 50 [])) [(.t 127)], none, []⟩,
 ⟨none, .storeA 3 (.t 4) (.t 128), none, []⟩,
 ⟨some 5, .mv (.k (.lit .i64 0)), none, []⟩])
 (.ret))))))))))))
theorem fn48 : FnOk Try.prog 48 x48 129 [8000004, 5] := FnOk.of Try.call48 Try.func48 (by kernel_rfl) Try.ntmps48 (by kernel_rfl)
def x49 : XC :=
 .seq (.ops [⟨some 4, .newR 44 [(.val (.slice none 0 0)), (.val (.slice none 0 0)), (.lit .i64 0)], none, []⟩,
 ⟨some 5, .mv (.k (.lit .i64 0)), none, []⟩])
 (.seq (.ops [⟨some 14, .bsliceI 3 .i64 18 [⟨0, 1, (.k (.lit .i64 1))⟩, ⟨1, 1, (.k (.lit .i64 2))⟩, ⟨2, 1, (.k (.lit .i64 3))⟩, ⟨3, 1, (.k (.lit .i64 4))⟩, ⟨4, 1, (.k (.lit .i64 0))⟩, ⟨5, 1, (.k (.lit .i64 5))⟩, ⟨6, 1, (.k (.lit .i64 17))⟩, ⟨7, 1, (.k (.lit .i64 6))⟩, ⟨8, 1, (.k (.lit .i64 16))⟩, ⟨9, 1, (.k (.lit .i64 7))⟩, ⟨10, 1, (.k (.lit .i64 8))⟩, ⟨11, 1, (.k (.lit .i64 9))⟩, ⟨12, 1, (.k (.lit .i64 10))⟩, ⟨13, 1, (.k (.lit .i64 11))⟩, ⟨14, 1, (.k (.lit .i64 12))⟩, ⟨15, 1, (.k (.lit .i64 13))⟩, ⟨16, 1, (.k (.lit .i64 14))⟩, ⟨17, 1, (.k (.lit .i64 15))⟩], none, []⟩,
 ⟨some 6, .mv (.t 14), none, []⟩])
 (.seq (.ops [⟨some 15, .mkslI 5 .u8 1 (.k (.lit .i64 18)) (.k (.lit .i64 18)), none, []⟩,
 ⟨some 7, .mv (.t 15), none, []⟩])
 (.seq (.ops [⟨some 8, .mv (.k (.lit .i64 0)), none, []⟩,
 ⟨some 9, .mv (.k (.lit .i64 0)), none, []⟩,
 ⟨some 10, .mv (.k (.lit .i64 0)), none, []⟩])
 (.seq (.seq (.ops [⟨some 16, .mv (.t 1), none, []⟩,
 ⟨some 11, .mv (.t 16), none, []⟩])
 (.block 0 (.loop (.seq (.seq (.ops [⟨some 17, .mv (.t 11), none, []⟩,
 ⟨some 18, .cmp .lss (.t 17) (.k (.lit .i64 18)), none, []⟩,
 ⟨some 19, .mv (.t 18), none, []⟩,
 ⟨some 20, .mv (.t 8), some (19, true), []⟩,
 ⟨some 21, .cmp .lss (.t 20) (.k (.lit .i64 32)), some (19, true), []⟩,
 ⟨some 22, .pick (.t 19) (.t 21) (.k (.bool false)), none, []⟩])
 (.cond (.t 22) (.skip) (.exit 0)))
 (.seq (.block 1 (.seq (.ops [⟨some 26, .mv (.t 0), none, []⟩,
 ⟨some 27, .call (.k (.fn 71 [])) [(.t 26)], none, []⟩,
 ⟨some 25, .mv (.t 27), none, []⟩,
 ⟨some 28, .extract (.t 25) 0, none, []⟩,
 ⟨some 29, .extract (.t 25) 1, none, []⟩,
 ⟨some 12, .mv (.t 28), none, []⟩,
 ⟨some 13, .mv (.t 29), none, []⟩])
 (.seq (.seq (.ops [⟨some 30, .mv (.t 13), none, []⟩,
 ⟨some 31, .cmp .neq (.t 30) (.k (.lit .i64 0)), none, []⟩])
 (.cond (.t 31) (.seq (.ops [⟨some 32, .build [(.val (.slice none 0 0)), (.val (.slice none 0 0)), (.lit .i64 0)] [], none, []⟩,
 ⟨some 33, .mv (.t 13), none, []⟩,
 ⟨none, .storeA 3 (.t 4) (.t 32), none, []⟩,
 ⟨some 5, .mv (.t 33), none, []⟩])
 (.ret)) (.skip)))
 (.seq (.ops [⟨some 34, .mv (.t 7), none, []⟩,
 ⟨some 35, .mv (.t 6), none, []⟩,
 ⟨some 36, .mv (.t 11), none, []⟩,
 ⟨some 37, .iadr 1 (.t 35) (.t 36), none, []⟩,
 ⟨some 38, .load1 (.t 37), none, []⟩,
 ⟨some 39, .mv (.t 12), none, []⟩,
 ⟨some 40, .iadr 1 (.t 34) (.t 38), none, []⟩,
 ⟨none, .store1 (.t 40) (.t 39), none, []⟩])
 (.seq (.ops [⟨some 41, .mv (.t 12), none, []⟩,
 ⟨some 42, .cmp .gtr (.t 41) (.k (.lit .u8 0)), none, []⟩])
 (.cond (.t 42) (.seq (.ops [⟨some 43, .mv (.t 8), none, []⟩,
 ⟨some 44, .mv (.t 12), none, []⟩,
 ⟨some 45, .bin .shr .i64 (.k (.lit .i64 32)) (.t 44), none, []⟩,
 ⟨some 46, .bin .add .i64 (.t 43) (.t 45), none, []⟩,
 ⟨some 8, .mv (.t 46), none, []⟩])
 (.seq (.ops [⟨some 47, .mv (.t 9), none, []⟩,
 ⟨some 48, .bin .add .i64 (.t 47) (.k (.lit .i64 1)), none, []⟩,
 ⟨some 9, .mv (.t 48), none, []⟩])
 (.ops [⟨some 49, .mv (.t 6), none, []⟩,
 ⟨some 50, .mv (.t 11), none, []⟩,
 ⟨some 51, .iadr 1 (.t 49) (.t 50), none, []⟩,
 ⟨some 52, .load1 (.t 51), none, []⟩,
 ⟨some 10, .mv (.t 52), none, []⟩]))) (.skip)))))))
 (.ops [⟨some 23, .mv (.t 11), none, []⟩,
 ⟨some 24, .bin .add .i64 (.t 23) (.k (.lit .i64 1)), none, []⟩,
 ⟨some 11, .mv (.t 24), none, []⟩]))))))
 (.seq (.seq (.ops [⟨some 53, .mv (.t 9), none, []⟩,
 ⟨some 54, .cmp .eql (.t 53) (.k (.lit .i64 1)), none, []⟩])
 (.cond (.t 54) (.seq (.ops [⟨some 55, .mv (.t 10), none, []⟩,
 ⟨some 56, .build [(.val (.slice none 0 0)), (.val (.slice none 0 0)), (.lit .i64 0)] [⟨2, 1, (.t 55)⟩], none, []⟩,
 ⟨none, .storeA 3 (.t 4) (.t 56), none, []⟩,
 ⟨some 5, .mv (.k (.lit .i64 0)), none, []⟩])
 (.ret)) (.skip)))
 (.seq (.seq (.ops [⟨some 57, .mv (.t 8), none, []⟩,
 ⟨some 58, .cmp .neq (.t 57) (.k (.lit .i64 32)), none, []⟩])
 (.cond (.t 58) (.seq (.ops [⟨some 59, .build [(.val (.slice none 0 0)), (.val (.slice none 0 0)), (.lit .i64 0)] [], none, []⟩,
 ⟨none, .storeA 3 (.t 4) (.t 59), none, []⟩,
 ⟨some 5, .mv (.k (.lit .i64 11)), none, []⟩])
 (.ret)) (.skip)))
 (.seq (.ops [⟨some 60, .mv (.t 7), none, []⟩,
 ⟨some 61, .call (.k (.fn 50 [])) [(.t 60)], none, []⟩,
 ⟨none, .storeA 3 (.t 4) (.t 61), none, []⟩,
 ⟨some 5, .mv (.k (.lit .i64 0)), none, []⟩])
 (.ret))))))))
theorem fn49 : FnOk Try.prog 49 x49 62 [8000004, 5] := FnOk.of Try.call49 Try.func49 (by kernel_rfl) Try.ntmps49 (by kernel_rfl)
def x50 : XC :=
 .seq (.ops [⟨some 2, .newR 44 [(.val (.slice none 0 0)), (.val (.slice none 0 0)), (.lit .i64 0)], none, []⟩])
 (.seq (.ops [⟨some 3, .mv (.t 0), none, []⟩,
 ⟨some 4, .mv (.t 0), none, []⟩,
 ⟨some 5, .call (.k (.fn 72 [])) [(.t 4)], none, []⟩,
 ⟨some 6, .build [(.val (.slice none 0 0)), (.val (.slice none 0 0)), (.lit .i64 0)] [⟨0, 1, (.t 3)⟩, ⟨1, 1, (.t 5)⟩], none, []⟩,
 ⟨none, .storeA 3 (.t 2) (.t 6), none, []⟩])
 (.ret))
theorem fn50 : FnOk Try.prog 50 x50 7 [8000002] := FnOk.of Try.call50 Try.func50 (by kernel_rfl) Try.ntmps50 (by kernel_rfl)
def x51 : XC :=
 .seq (.ops [⟨some 6, .mv (.k (.lit .i64 0)), none, []⟩,
 ⟨some 7, .mv (.k (.lit .i64 0)), none, []⟩])
 (.seq (.ops [⟨some 8, .mv (.k (.lit .i64 0)), none, []⟩])
 (.seq (.seq (.ops [⟨some 9, .mv (.k (.lit .i64 1)), none, []⟩])
 (.block 0 (.loop (.seq (.seq (.ops [⟨some 13, .mv (.t 9), none, []⟩,
 ⟨some 14, .cmp .leq (.t 13) (.k (.lit .i64 15)), none, []⟩])
 (.cond (.t 14) (.skip) (.exit 0)))
 (.seq (.block 1 (.seq (.ops [⟨some 18, .mv (.t 0), none, []⟩,
 ⟨some 19, .call (.k (.fn 47 [])) [(.t 18), (.k (.lit .i64 1))], none, []⟩,
 ⟨some 17, .mv (.t 19), none, []⟩,
 ⟨some 20, .extract (.t 17) 0, none, []⟩,
 ⟨some 21, .extract (.t 17) 1, none, []⟩,
 ⟨some 10, .mv (.t 20), none, []⟩,
 ⟨some 11, .mv (.t 21), none, []⟩])
 (.seq (.seq (.ops [⟨some 22, .mv (.t 11), none, []⟩,
 ⟨some 23, .cmp .neq (.t 22) (.k (.lit .i64 0)), none, []⟩])
 (.cond (.t 23) (.seq (.ops [⟨some 24, .mv (.t 11), none, []⟩,
 ⟨some 6, .mv (.k (.lit .i64 0)), none, []⟩,
 ⟨some 7, .mv (.t 24), none, []⟩])
 (.ret)) (.skip)))
 (.seq (.ops [⟨some 25, .mv (.t 8), none, []⟩,
 ⟨some 26, .bin .mul .i64 (.k (.lit .i64 2)) (.t 25), none, []⟩,
 ⟨some 27, .mv (.t 10), none, []⟩,
 ⟨some 28, .conv .i64 (.t 27), none, []⟩,
 ⟨some 29, .bin .add .i64 (.t 26) (.t 28), none, []⟩,
 ⟨some 8, .mv (.t 29), none, []⟩])
 (.seq (.ops [⟨some 12, .mv (.k (.lit .i64 0)), none, []⟩])
 (.block 2 (.loop (.seq (.seq (.ops [⟨some 30, .mv (.t 12), none, []⟩,
 ⟨some 31, .mv (.t 1), none, []⟩,
 ⟨some 32, .len (.t 31), none, []⟩,
 ⟨some 33, .cmp .lss (.t 30) (.t 32), none, []⟩])
 (.cond (.t 33) (.skip) (.exit 2)))
 (.seq (.block 3 (.seq (.ops [⟨some 36, .mv (.t 1), none, []⟩,
 ⟨some 37, .mv (.t 12), none, []⟩,
 ⟨some 38, .iadr 1 (.t 36) (.t 37), none, []⟩,
 ⟨some 39, .load1 (.t 38), none, []⟩,
 ⟨some 40, .conv .i64 (.t 39), none, []⟩,
 ⟨some 41, .mv (.t 9), none, []⟩,
 ⟨some 42, .cmp .eql (.t 40) (.t 41), none, []⟩,
 ⟨some 43, .mv (.t 42), none, []⟩,
 ⟨some 44, .mv (.t 2), some (43, true), []⟩,
 ⟨some 45, .mv (.t 12), some (43, true), []⟩,
 ⟨some 46, .iadr 1 (.t 44) (.t 45), some (43, true), []⟩,
 ⟨some 47, .load1 (.t 46), some (43, true), []⟩,
 ⟨some 48, .conv .i64 (.t 47), some (43, true), []⟩,
 ⟨some 49, .mv (.t 8), some (43, true), []⟩,
 ⟨some 50, .cmp .eql (.t 48) (.t 49), some (43, true), []⟩,
 ⟨some 51, .pick (.t 43) (.t 50) (.k (.bool false)), none, []⟩])
 (.cond (.t 51) (.seq (.ops [⟨some 52, .mv (.t 12), none, []⟩,
 ⟨some 6, .mv (.t 52), none, []⟩,
 ⟨some 7, .mv (.k (.lit .i64 0)), none, []⟩])
 (.ret)) (.skip))))
 (.ops [⟨some 34, .mv (.t 12), none, []⟩,
 ⟨some 35, .bin .add .i64 (.t 34) (.k (.lit .i64 1)), none, []⟩,
 ⟨some 12, .mv (.t 35), none, []⟩]))))))))))
 (.ops [⟨some 15, .mv (.t 9), none, []⟩,
 ⟨some 16, .bin .add .i64 (.t 15) (.k (.lit .i64 1)), none, []⟩,
 ⟨some 9, .mv (.t 16), none, []⟩]))))))
 (.seq (.ops [⟨some 6, .mv (.k (.lit .i64 0)), none, []⟩,
 ⟨some 7, .mv (.k (.lit .i64 11)), none, []⟩])
 (.ret))))
theorem fn51 : FnOk Try.prog 51 x51 53 [6, 7] := FnOk.of Try.call51 Try.func51 (by kernel_rfl) Try.ntmps51 (by kernel_rfl)
def x52 : XC :=
 .seq (.ops [⟨some 2, .mv (.k (.val (.slice none 0 0))), none, []⟩])
 (.seq (.ops [⟨some 9, .mkslI 5 .u8 1 (.k (.lit .i64 256)) (.k (.lit .i64 256)), none, []⟩,
 ⟨some 3, .mv (.t 9), none, []⟩])
 (.seq (.seq (.ops [⟨some 4, .mv (.k (.lit .i64 0)), none, []⟩])
 (.block 0 (.loop (.seq (.seq (.ops [⟨some 10, .mv (.t 4), none, []⟩,
 ⟨some 11, .cmp .lss (.t 10) (.k (.lit .i64 256)), none, []⟩])
 (.cond (.t 11) (.skip) (.exit 0)))
 (.seq (.block 1 (.ops [⟨some 14, .mv (.t 3), none, []⟩,
 ⟨some 15, .mv (.t 4), none, []⟩,
 ⟨some 16, .mv (.t 4), none, []⟩,
 ⟨some 17, .conv .u8 (.t 16), none, []⟩,
 ⟨some 18, .iadr 1 (.t 14) (.t 15), none, []⟩,
 ⟨none, .store1 (.t 18) (.t 17), none, []⟩]))
 (.ops [⟨some 12, .mv (.t 4), none, []⟩,
 ⟨some 13, .bin .add .i64 (.t 12) (.k (.lit .i64 1)), none, []⟩,
 ⟨some 4, .mv (.t 13), none, []⟩]))))))
 (.seq (.ops [⟨some 5, .mv (.k (.val (.slice none 0 0))), none, []⟩])
 (.seq (.seq (.ops [⟨some 6, .mv (.k (.lit .i64 0)), none, []⟩])
 (.block 2 (.loop (.seq (.seq (.ops [⟨some 19, .mv (.t 6), none, []⟩,
 ⟨some 20, .mv (.t 0), none, []⟩,
 ⟨some 21, .len (.t 20), none, []⟩,
 ⟨some 22, .cmp .lss (.t 19) (.t 21), none, []⟩])
 (.cond (.t 22) (.skip) (.exit 2)))
 (.seq (.block 3 (.seq (.ops [⟨some 25, .mv (.t 3), none, []⟩,
 ⟨some 26, .mv (.t 0), none, []⟩,
 ⟨some 27, .mv (.t 6), none, []⟩,
 ⟨some 28, .iadr 1 (.t 26) (.t 27), none, []⟩,
 ⟨some 29, .load1 (.t 28), none, []⟩,
 ⟨some 30, .iadr 1 (.t 25) (.t 29), none, []⟩,
 ⟨some 31, .load1 (.t 30), none, []⟩,
 ⟨some 7, .mv (.t 31), none, []⟩])
 (.seq (.ops [⟨some 32, .mv (.t 5), none, []⟩,
 ⟨some 33, .mv (.t 7), none, []⟩,
 ⟨some 34, .bsliceI 5 .u8 1 [⟨0, 1, (.t 33)⟩], none, []⟩,
 ⟨some 35, .appI 5 .u8 1 (.t 32) (.t 34), none, []⟩,
 ⟨some 5, .mv (.t 35), none, []⟩])
 (.seq (.seq (.ops [⟨some 36, .mv (.t 0), none, []⟩,
 ⟨some 37, .mv (.t 6), none, []⟩,
 ⟨some 38, .iadr 1 (.t 36) (.t 37), none, []⟩,
 ⟨some 39, .load1 (.t 38), none, []⟩,
 ⟨some 40, .conv .i64 (.t 39), none, []⟩,
 ⟨some 8, .mv (.t 40), none, []⟩])
 (.block 4 (.loop (.seq (.seq (.ops [⟨some 41, .mv (.t 8), none, []⟩,
 ⟨some 42, .cmp .gtr (.t 41) (.k (.lit .i64 0)), none, []⟩])
 (.cond (.t 42) (.skip) (.exit 4)))
 (.seq (.block 5 (.ops [⟨some 45, .mv (.t 3), none, []⟩,
 ⟨some 46, .mv (.t 8), none, []⟩,
 ⟨some 47, .mv (.t 3), none, []⟩,
 ⟨some 48, .mv (.t 8), none, []⟩,
 ⟨some 49, .bin .sub .i64 (.t 48) (.k (.lit .i64 1)), none, []⟩,
 ⟨some 50, .iadr 1 (.t 47) (.t 49), none, []⟩,
 ⟨some 51, .load1 (.t 50), none, []⟩,
 ⟨some 52, .iadr 1 (.t 45) (.t 46), none, []⟩,
 ⟨none, .store1 (.t 52) (.t 51), none, []⟩]))
 (.ops [⟨some 43, .mv (.t 8), none, []⟩,
 ⟨some 44, .bin .sub .i64 (.t 43) (.k (.lit .i64 1)), none, []⟩,
 ⟨some 8, .mv (.t 44), none, []⟩]))))))
 (.ops [⟨some 53, .mv (.t 3), none, []⟩,
 ⟨some 54, .mv (.t 7), none, []⟩,
 ⟨some 55, .iadr 1 (.t 53) (.k (.lit .i64 0)), none, []⟩,
 ⟨none, .store1 (.t 55) (.t 54), none, []⟩])))))
 (.ops [⟨some 23, .mv (.t 6), none, []⟩,
 ⟨some 24, .bin .add .i64 (.t 23) (.k (.lit .i64 1)), none, []⟩,
 ⟨some 6, .mv (.t 24), none, []⟩]))))))
 (.seq (.ops [⟨some 56, .mv (.t 5), none, []⟩,
 ⟨some 2, .mv (.t 56), none, []⟩])
 (.ret))))))
theorem fn52 : FnOk Try.prog 52 x52 57 [2] := FnOk.of Try.call52 Try.func52 (by kernel_rfl) Try.ntmps52 (by kernel_rfl)
def x53 : XC :=
 .seq (.ops [⟨some 2, .box 59 none (.t 0), none, []⟩,
 ⟨some 3, .box 3 none (.t 1), none, []⟩,
 ⟨some 4, .mv (.k (.val .nilFunc)), none, []⟩])
 (.seq (.ops [⟨some 5, .mkfn 73 [(.t 3), (.t 2)], none, []⟩,
 ⟨some 4, .mv (.t 5), none, []⟩])
 (.ret))
theorem fn53 : FnOk Try.prog 53 x53 6 [4] := FnOk.of Try.call53 Try.func53 (by kernel_rfl) Try.ntmps53 (by kernel_rfl)
def x54 : XC :=
 .seq (.ops [⟨some 4, .mv (.k (.bool false)), none, []⟩])
 (.seq (.block 0 (.loop (.seq (.seq (.ops [⟨some 7, .mv (.t 0), none, []⟩,
 ⟨some 8, .nilchk (.t 7), none, []⟩,
 ⟨some 9, .fadr 2 (.t 8), none, []⟩,
 ⟨some 10, .load1 (.t 9), none, []⟩,
 ⟨some 11, .mv (.t 1), none, []⟩,
 ⟨some 12, .cmp .lss (.t 10) (.t 11), none, []⟩])
 (.cond (.t 12) (.skip) (.exit 0)))
 (.block 1 (.seq (.ops [⟨some 14, .mv (.t 0), none, []⟩,
 ⟨some 15, .nilchk (.t 14), none, []⟩,
 ⟨some 16, .fadr 0 (.t 15), none, []⟩,
 ⟨some 17, .load1 (.t 16), none, []⟩,
 ⟨some 18, .call (.t 17) [], none, []⟩,
 ⟨some 13, .mv (.t 18), none, []⟩,
 ⟨some 19, .extract (.t 13) 0, none, []⟩,
 ⟨some 20, .extract (.t 13) 1, none, []⟩,
 ⟨some 5, .mv (.t 19), none, []⟩,
 ⟨some 6, .mv (.t 20), none, []⟩])
 (.seq (.seq (.ops [⟨some 21, .mv (.t 6), none, []⟩,
 ⟨some 22, .not (.t 21), none, []⟩])
 (.cond (.t 22) (.seq (.ops [⟨some 4, .mv (.k (.bool false)), none, []⟩])
 (.ret)) (.skip)))
 (.seq (.ops [⟨some 23, .mv (.t 0), none, []⟩,
 ⟨some 24, .nilchk (.t 23), none, []⟩,
 ⟨some 25, .fadr 1 (.t 24), none, []⟩,
 ⟨some 26, .load1 (.t 25), none, []⟩,
 ⟨some 27, .mv (.t 5), none, []⟩,
 ⟨some 28, .conv .u64 (.t 27), none, []⟩,
 ⟨some 29, .mv (.t 0), none, []⟩,
 ⟨some 30, .nilchk (.t 29), none, []⟩,
 ⟨some 31, .fadr 2 (.t 30), none, []⟩,
 ⟨some 32, .load1 (.t 31), none, []⟩,
 ⟨some 33, .conv .u64 (.t 32), none, []⟩,
 ⟨some 34, .bin .shl .u64 (.t 28) (.t 33), none, []⟩,
 ⟨some 35, .bin .or .u64 (.t 26) (.t 34), none, []⟩,
 ⟨some 36, .nilchk (.t 23), none, []⟩,
 ⟨some 37, .fadr 1 (.t 36), none, []⟩,
 ⟨none, .store1 (.t 37) (.t 35), none, []⟩])
 (.ops [⟨some 38, .mv (.t 0), none, []⟩,
 ⟨some 39, .nilchk (.t 38), none, []⟩,
 ⟨some 40, .fadr 2 (.t 39), none, []⟩,
 ⟨some 41, .load1 (.t 40), none, []⟩,
 ⟨some 42, .bin .add .i64 (.t 41) (.k (.lit .i64 8)), none, []⟩,
 ⟨some 43, .nilchk (.t 38), none, []⟩,
 ⟨some 44, .fadr 2 (.t 43), none, []⟩,
 ⟨none, .store1 (.t 44) (.t 42), none, []⟩]))))))))
 (.seq (.ops [⟨some 4, .mv (.k (.bool true)), none, []⟩])
 (.ret)))
theorem fn54 : FnOk Try.prog 54 x54 45 [4] := FnOk.of Try.call54 Try.func54 (by kernel_rfl) Try.ntmps54 (by kernel_rfl)
def x56 : XC :=
 .seq (.ops [⟨some 4, .mv (.k (.bool false)), none, []⟩])
 (.seq (.ops [⟨some 5, .mv (.t 0), none, []⟩,
 ⟨some 6, .mv (.t 1), none, []⟩,
 ⟨some 7, .call (.k (.fn 74 [])) [(.t 5), (.t 6)], none, []⟩,
 ⟨some 8, .cmp .geq (.t 7) (.k (.lit .i64 0)), none, []⟩,
 ⟨some 4, .mv (.t 8), none, []⟩])
 (.ret))
theorem fn56 : FnOk Try.prog 56 x56 9 [4] := FnOk.of Try.call56 Try.func56 (by kernel_rfl) Try.ntmps56 (by kernel_rfl)
def x57 : XC :=
 .seq (.ops [⟨some 2, .mv (.k (.lit .u8 0)), none, []⟩])
 (.seq (.ops [⟨some 4, .mv (.t 0), none, []⟩,
 ⟨some 5, .call (.k (.fn 27 [])) [(.t 4), (.k (.lit .i64 2))], none, []⟩,
 ⟨some 3, .mv (.t 5), none, []⟩])
 (.seq (.seq (.ops [⟨some 6, .mv (.t 3), none, []⟩])
 (.block 0 (.seq (.ops [⟨some 8, .cmp .eql (.t 6) (.k (.lit .i64 3)), none, []⟩,
 ⟨some 7, .mv (.t 8), none, []⟩])
 (.cond (.t 7) (.seq (.seq (.ops [⟨some 9, .mv (.t 0), none, []⟩,
 ⟨some 10, .call (.k (.fn 27 [])) [(.t 9), (.k (.lit .i64 1))], none, []⟩,
 ⟨some 11, .cmp .eql (.t 10) (.k (.lit .i64 0)), none, []⟩])
 (.cond (.t 11) (.seq (.ops [⟨some 2, .mv (.k (.lit .u8 2)), none, []⟩])
 (.ret)) (.skip)))
 (.seq (.ops [⟨some 12, .mv (.t 0), none, []⟩,
 ⟨some 13, .call (.k (.fn 27 [])) [(.t 12), (.k (.lit .i64 1))], none, []⟩,
 ⟨some 14, .bin .mul .i64 (.k (.lit .i64 4)) (.t 13), none, []⟩,
 ⟨some 15, .bin .add .i64 (.k (.lit .i64 1)) (.t 14), none, []⟩,
 ⟨some 16, .conv .u8 (.t 15), none, []⟩,
 ⟨some 2, .mv (.t 16), none, []⟩])
 (.ret))) (.seq (.ops [⟨some 18, .cmp .eql (.t 6) (.k (.lit .i64 0)), none, []⟩,
 ⟨some 17, .mv (.t 18), none, []⟩])
 (.cond (.t 17) (.seq (.ops [⟨some 2, .mv (.k (.lit .u8 0)), none, []⟩])
 (.ret)) (.skip)))))))
 (.seq (.ops [⟨some 19, .mv (.t 3), none, []⟩,
 ⟨some 20, .bin .sub .i64 (.k (.lit .i64 5)) (.t 19), none, []⟩,
 ⟨some 21, .conv .u8 (.t 20), none, []⟩,
 ⟨some 2, .mv (.t 21), none, []⟩])
 (.ret))))
theorem fn57 : FnOk Try.prog 57 x57 22 [2] := FnOk.of Try.call57 Try.func57 (by kernel_rfl) Try.ntmps57 (by kernel_rfl)
def x58 : XC :=
 .seq (.ops [⟨some 4, .mv (.k (.lit .u8 8)), none, []⟩,
 ⟨some 5, .mv (.k (.lit .i64 0)), none, []⟩,
 ⟨some 6, .mv (.k (.lit .i64 0)), none, []⟩])
 (.block 0 (.loop (.block 1 (.seq (.ops [⟨some 11, .load1 (.t 1), none, []⟩,
 ⟨some 12, .loadA 2 (.t 2), none, []⟩,
 ⟨some 13, .call (.k (.fn 35 [])) [(.t 11), (.t 12)], none, []⟩,
 ⟨some 7, .mv (.t 13), none, []⟩])
 (.seq (.seq (.ops [⟨some 14, .mv (.t 7), none, []⟩,
 ⟨some 15, .cmp .lss (.t 14) (.k (.lit .i64 16)), none, []⟩])
 (.cond (.t 15) (.seq (.ops [⟨some 6, .mv (.k (.lit .i64 0)), none, []⟩])
 (.seq (.seq (.ops [⟨some 16, .mv (.t 7), none, []⟩,
 ⟨some 17, .cmp .gtr (.t 16) (.k (.lit .i64 0)), none, []⟩])
 (.cond (.t 17) (.ops [⟨some 18, .mv (.t 7), none, []⟩,
 ⟨some 19, .conv .u8 (.t 18), none, []⟩,
 ⟨some 4, .mv (.t 19), none, []⟩]) (.skip)))
 (.seq (.seq (.ops [⟨some 20, .mv (.t 0), none, []⟩,
 ⟨some 21, .mv (.t 7), none, []⟩,
 ⟨some 22, .conv .u8 (.t 21), none, []⟩,
 ⟨some 23, .call (.t 20) [(.t 22), (.k (.lit .i64 1))], none, []⟩,
 ⟨some 24, .not (.t 23), none, []⟩])
 (.cond (.t 24) (.ret) (.skip)))
 (.exit 1)))) (.skip)))
 (.seq (.ops [⟨some 25, .load1 (.t 1), none, []⟩,
 ⟨some 26, .mv (.t 7), none, []⟩,
 ⟨some 27, .bin .sub .i64 (.t 26) (.k (.lit .i64 14)), none, []⟩,
 ⟨some 28, .call (.k (.fn 27 [])) [(.t 25), (.t 27)], none, []⟩,
 ⟨some 8, .mv (.t 28), none, []⟩])
 (.seq (.ops [⟨some 9, .mv (.k (.lit .i64 0)), none, []⟩])
 (.seq (.seq (.ops [⟨some 29, .mv (.t 6), none, []⟩,
 ⟨some 30, .mv (.t 7), none, []⟩,
 ⟨some 31, .cmp .eql (.t 29) (.t 30), none, []⟩])
 (.cond (.t 31) (.ops [⟨some 32, .mv (.t 5), none, []⟩,
 ⟨some 33, .mv (.t 5), none, []⟩,
 ⟨some 34, .bin .sub .i64 (.t 33) (.k (.lit .i64 2)), none, []⟩,
 ⟨some 35, .mv (.t 7), none, []⟩,
 ⟨some 36, .bin .sub .i64 (.t 35) (.k (.lit .i64 14)), none, []⟩,
 ⟨some 37, .conv .u64 (.t 36), none, []⟩,
 ⟨some 38, .bin .shl .i64 (.t 34) (.t 37), none, []⟩,
 ⟨some 9, .mv (.t 32), none, []⟩,
 ⟨some 5, .mv (.t 38), none, []⟩]) (.ops [⟨some 5, .mv (.k (.lit .i64 0)), none, []⟩])))
 (.seq (.ops [⟨some 39, .mv (.t 7), none, []⟩,
 ⟨some 6, .mv (.t 39), none, []⟩])
 (.seq (.ops [⟨some 40, .mv (.t 5), none, []⟩,
 ⟨some 41, .mv (.t 8), none, []⟩,
 ⟨some 42, .bin .add .i64 (.k (.lit .i64 3)) (.t 41), none, []⟩,
 ⟨some 43, .bin .add .i64 (.t 40) (.t 42), none, []⟩,
 ⟨some 5, .mv (.t 43), none, []⟩])
 (.seq (.ops [⟨some 10, .mv (.k (.lit .u8 0)), none, []⟩])
 (.seq (.seq (.ops [⟨some 44, .mv (.t 7), none, []⟩,
 ⟨some 45, .cmp .eql (.t 44) (.k (.lit .i64 16)), none, []⟩])
 (.cond (.t 45) (.ops [⟨some 46, .mv (.t 4), none, []⟩,
 ⟨some 10, .mv (.t 46), none, []⟩]) (.skip)))
 (.seq (.ops [⟨some 47, .mv (.t 0), none, []⟩,
 ⟨some 48, .mv (.t 10), none, []⟩,
 ⟨some 49, .mv (.t 5), none, []⟩,
 ⟨some 50, .mv (.t 9), none, []⟩,
 ⟨some 51, .bin .sub .i64 (.t 49) (.t 50), none, []⟩,
 ⟨some 52, .call (.t 47) [(.t 48), (.t 51)], none, []⟩,
 ⟨some 53, .not (.t 52), none, []⟩])
 (.cond (.t 53) (.ret) (.skip)))))))))))))))
theorem fn58 : FnOk Try.prog 58 x58 54 [] := FnOk.of Try.call58 Try.func58 (by kernel_rfl) Try.ntmps58 (by kernel_rfl)
def x60 : XC :=
 .seq (.ops [⟨some 4, .mv (.k (.lit .i64 0)), none, []⟩,
 ⟨some 5, .mv (.k (.lit .i64 0)), none, []⟩])
 (.scope (.seq (.ops [⟨some 6, .newI 131 .i64 16, none, []⟩])
 (.seq (.seq (.ops [⟨some 17, .mv (.t 1), none, []⟩,
 ⟨some 18, .len (.t 17), none, []⟩,
 ⟨some 19, .mv (.k (.lit .i64 0)), none, []⟩])
 (.block 0 (.loop (.seq (.ops [⟨some 20, .cmp .lss (.t 19) (.t 18), none, []⟩])
 (.seq (.cond (.t 20) (.skip) (.exit 0))
 (.seq (.block 1 (.seq (.ops [⟨some 21, .iadr 1 (.t 17) (.t 19), none, []⟩,
 ⟨some 22, .load1 (.t 21), none, []⟩,
 ⟨some 8, .mv (.t 22), none, []⟩])
 (.ops [⟨some 23, .mv (.t 8), none, []⟩,
 ⟨some 24, .iadrA 16 1 (.t 6) (.t 23), none, []⟩,
 ⟨some 25, .load1 (.t 24), none, []⟩,
 ⟨some 26, .bin .add .i64 (.t 25) (.k (.lit .i64 1)), none, []⟩,
 ⟨some 27, .iadrA 16 1 (.t 6) (.t 23), none, []⟩,
 ⟨none, .store1 (.t 27) (.t 26), none, []⟩])))
 (.ops [⟨some 28, .bin .add .i64 (.t 19) (.k (.lit .i64 1)), none, []⟩,
 ⟨some 19, .mv (.t 28), none, []⟩])))))))
 (.seq (.ops [⟨some 9, .mv (.k (.lit .i64 0)), none, []⟩,
 ⟨some 10, .mv (.k (.lit .i64 0)), none, []⟩])
 (.seq (.skip)
 (.seq (.seq (.ops [⟨some 11, .mv (.k (.lit .i64 1)), none, []⟩])
 (.block 2 (.loop (.seq (.seq (.ops [⟨some 29, .mv (.t 11), none, []⟩,
 ⟨some 30, .cmp .leq (.t 29) (.k (.lit .i64 15)), none, []⟩])
 (.cond (.t 30) (.skip) (.exit 2)))
 (.seq (.block 3 (.seq (.ops [⟨some 34, .mv (.t 0), none, []⟩,
 ⟨some 35, .call (.k (.fn 24 [])) [(.t 34), (.k (.lit .i64 1))], none, []⟩,
 ⟨some 33, .mv (.t 35), none, []⟩,
 ⟨some 36, .extract (.t 33) 0, none, []⟩,
 ⟨some 37, .extract (.t 33) 1, none, []⟩,
 ⟨some 12, .mv (.t 36), none, []⟩,
 ⟨some 13, .mv (.t 37), none, []⟩])
 (.seq (.seq (.ops [⟨some 38, .mv (.t 13), none, []⟩,
 ⟨some 39, .cmp .neq (.t 38) (.k (.lit .i64 0)), none, []⟩])
 (.cond (.t 39) (.seq (.ops [⟨some 40, .mv (.t 13), none, []⟩,
 ⟨some 4, .mv (.k (.lit .i64 0)), none, []⟩,
 ⟨some 5, .mv (.t 40), none, []⟩])
 (.ret)) (.skip)))
 (.seq (.ops [⟨some 41, .mv (.t 9), none, []⟩,
 ⟨some 42, .bin .mul .i64 (.k (.lit .i64 2)) (.t 41), none, []⟩,
 ⟨some 43, .mv (.t 12), none, []⟩,
 ⟨some 44, .conv .i64 (.t 43), none, []⟩,
 ⟨some 45, .bin .add .i64 (.t 42) (.t 44), none, []⟩,
 ⟨some 46, .mv (.t 10), none, []⟩,
 ⟨some 47, .bin .mul .i64 (.k (.lit .i64 2)) (.t 46), none, []⟩,
 ⟨some 9, .mv (.t 45), none, []⟩,
 ⟨some 10, .mv (.t 47), none, []⟩])
 (.seq (.seq (.ops [⟨some 48, .mv (.t 9), none, []⟩,
 ⟨some 49, .mv (.t 10), none, []⟩,
 ⟨some 50, .bin .sub .i64 (.t 48) (.t 49), none, []⟩,
 ⟨some 51, .mv (.t 11), none, []⟩,
 ⟨some 52, .iadrA 16 1 (.t 6) (.t 51), none, []⟩,
 ⟨some 53, .load1 (.t 52), none, []⟩,
 ⟨some 54, .cmp .geq (.t 50) (.t 53), none, []⟩])
 (.cond (.t 54) (.seq (.ops [⟨some 55, .mv (.t 10), none, []⟩,
 ⟨some 56, .mv (.t 11), none, []⟩,
 ⟨some 57, .iadrA 16 1 (.t 6) (.t 56), none, []⟩,
 ⟨some 58, .load1 (.t 57), none, []⟩,
 ⟨some 59, .bin .add .i64 (.t 55) (.t 58), none, []⟩,
 ⟨some 10, .mv (.t 59), none, []⟩])
 (.exit 3)) (.skip)))
 (.seq (.ops [⟨some 60, .mv (.t 9), none, []⟩,
 ⟨some 61, .mv (.t 10), none, []⟩,
 ⟨some 62, .bin .sub .i64 (.t 60) (.t 61), none, []⟩,
 ⟨some 14, .mv (.t 62), none, []⟩])
 (.seq (.ops [⟨some 63, .mv (.t 1), none, []⟩,
 ⟨some 64, .len (.t 63), none, []⟩,
 ⟨some 65, .mv (.k (.lit .i64 0)), none, []⟩])
 (.block 4 (.loop (.seq (.ops [⟨some 66, .cmp .lss (.t 65) (.t 64), none, []⟩])
 (.seq (.cond (.t 66) (.skip) (.exit 4))
 (.seq (.block 5 (.seq (.ops [⟨some 67, .mv (.t 65), none, []⟩,
 ⟨some 68, .iadr 1 (.t 63) (.t 65), none, []⟩,
 ⟨some 69, .load1 (.t 68), none, []⟩,
 ⟨some 15, .mv (.t 67), none, []⟩,
 ⟨some 16, .mv (.t 69), none, []⟩])
 (.seq (.seq (.ops [⟨some 70, .mv (.t 16), none, []⟩,
 ⟨some 71, .conv .i64 (.t 70), none, []⟩,
 ⟨some 72, .mv (.t 11), none, []⟩,
 ⟨some 73, .cmp .neq (.t 71) (.t 72), none, []⟩])
 (.cond (.t 73) (.exit 5) (.skip)))
 (.seq (.seq (.ops [⟨some 74, .mv (.t 14), none, []⟩,
 ⟨some 75, .cmp .eql (.t 74) (.k (.lit .i64 0)), none, []⟩])
 (.cond (.t 75) (.seq (.ops [⟨some 76, .mv (.t 15), none, []⟩,
 ⟨some 4, .mv (.t 76), none, []⟩,
 ⟨some 5, .mv (.k (.lit .i64 0)), none, []⟩])
 (.ret)) (.skip)))
 (.ops [⟨some 77, .mv (.t 14), none, []⟩,
 ⟨some 78, .bin .sub .i64 (.t 77) (.k (.lit .i64 1)), none, []⟩,
 ⟨some 14, .mv (.t 78), none, []⟩])))))
 (.ops [⟨some 79, .bin .add .i64 (.t 65) (.k (.lit .i64 1)), none, []⟩,
 ⟨some 65, .mv (.t 79), none, []⟩])))))))))))))
 (.ops [⟨some 31, .mv (.t 11), none, []⟩,
 ⟨some 32, .bin .add .i64 (.t 31) (.k (.lit .i64 1)), none, []⟩,
 ⟨some 11, .mv (.t 32), none, []⟩]))))))
 (.seq (.ops [⟨some 4, .mv (.k (.lit .i64 0)), none, []⟩,
 ⟨some 5, .mv (.k (.lit .i64 11)), none, []⟩])
 (.ret))))))))
theorem fn60 : FnOk Try.prog 60 x60 80 [4, 5] := FnOk.of Try.call60 Try.func60 (by kernel_rfl) Try.ntmps60 (by kernel_rfl)
def x64 : XC :=
 .seq (.ops [⟨some 2, .mv (.k (.lit .i64 0)), none, []⟩])
 (.seq (.seq (.ops [⟨some 3, .mv (.t 0), none, []⟩,
 ⟨some 4, .cmp .geq (.t 3) (.k (.lit .u64 4294967296)), none, []⟩])
 (.cond (.t 4) (.seq (.ops [⟨some 5, .mv (.t 0), none, []⟩,
 ⟨some 6, .bin .shr .u64 (.t 5) (.k (.lit .u64 32)), none, []⟩,
 ⟨some 0, .mv (.t 6), none, []⟩])
 (.ops [⟨some 2, .mv (.k (.lit .i64 32)), none, []⟩])) (.skip)))
 (.seq (.seq (.ops [⟨some 7, .mv (.t 0), none, []⟩,
 ⟨some 8, .cmp .geq (.t 7) (.k (.lit .u64 65536)), none, []⟩])
 (.cond (.t 8) (.seq (.ops [⟨some 9, .mv (.t 0), none, []⟩,
 ⟨some 10, .bin .shr .u64 (.t 9) (.k (.lit .u64 16)), none, []⟩,
 ⟨some 0, .mv (.t 10), none, []⟩])
 (.ops [⟨some 11, .mv (.t 2), none, []⟩,
 ⟨some 12, .bin .add .i64 (.t 11) (.k (.lit .i64 16)), none, []⟩,
 ⟨some 2, .mv (.t 12), none, []⟩])) (.skip)))
 (.seq (.seq (.ops [⟨some 13, .mv (.t 0), none, []⟩,
 ⟨some 14, .cmp .geq (.t 13) (.k (.lit .u64 256)), none, []⟩])
 (.cond (.t 14) (.seq (.ops [⟨some 15, .mv (.t 0), none, []⟩,
 ⟨some 16, .bin .shr .u64 (.t 15) (.k (.lit .u64 8)), none, []⟩,
 ⟨some 0, .mv (.t 16), none, []⟩])
 (.ops [⟨some 17, .mv (.t 2), none, []⟩,
 ⟨some 18, .bin .add .i64 (.t 17) (.k (.lit .i64 8)), none, []⟩,
 ⟨some 2, .mv (.t 18), none, []⟩])) (.skip)))
 (.seq (.ops [⟨some 19, .mv (.t 2), none, []⟩,
 ⟨some 20, .mv (.t 0), none, []⟩,
 ⟨some 21, .conv .u8 (.t 20), none, []⟩,
 ⟨some 22, .idxS (.k (.str [0, 1, 2, 2, 3, 3, 3, 3, 4, 4, 4, 4, 4, 4, 4, 4, 5, 5, 5, 5, 5, 5, 5, 5, 5, 5, 5, 5, 5, 5, 5, 5, 6, 6, 6, 6, 6, 6, 6, 6, 6, 6, 6, 6, 6, 6, 6, 6, 6, 6, 6, 6, 6, 6, 6, 6, 6, 6, 6, 6, 6, 6, 6, 6, 7, 7, 7, 7, 7, 7, 7, 7, 7, 7, 7, 7, 7, 7, 7, 7, 7, 7, 7, 7, 7, 7, 7, 7, 7, 7, 7, 7, 7, 7, 7, 7, 7, 7, 7, 7, 7, 7, 7, 7, 7, 7, 7, 7, 7, 7, 7, 7, 7, 7, 7, 7, 7, 7, 7, 7, 7, 7, 7, 7, 7, 7, 7, 7, 8, 8, 8, 8, 8, 8, 8, 8, 8, 8, 8, 8, 8, 8, 8, 8, 8, 8, 8, 8, 8, 8, 8, 8, 8, 8, 8, 8, 8, 8, 8, 8, 8, 8, 8, 8, 8, 8, 8, 8, 8, 8, 8, 8, 8, 8, 8, 8, 8, 8, 8, 8, 8, 8, 8, 8, 8, 8, 8, 8, 8, 8, 8, 8, 8, 8, 8, 8, 8, 8, 8, 8, 8, 8, 8, 8, 8, 8, 8, 8, 8, 8, 8, 8, 8, 8, 8, 8, 8, 8, 8, 8, 8, 8, 8, 8, 8, 8, 8, 8, 8, 8, 8, 8, 8, 8, 8, 8, 8, 8, 8, 8, 8, 8, 8, 8, 8, 8, 8, 8, 8, 8, 8, 8, 8, 8, 8, 8])) (.t 21), none, []⟩,
 ⟨some 23, .conv .i64 (.t 22), none, []⟩,
 ⟨some 24, .bin .add .i64 (.t 19) (.t 23), none, []⟩,
 ⟨some 2, .mv (.t 24), none, []⟩])
 (.ret)))))
theorem fn64 : FnOk Try.prog 64 x64 25 [2] := FnOk.of Try.call64 Try.func64 (by kernel_rfl) Try.ntmps64 (by kernel_rfl)
def x69 : XC :=
 .seq (.ops [⟨some 4, .mv (.k (.lit .u64 0)), none, []⟩])
 (.seq (.ops [⟨some 5, .mv (.t 0), none, []⟩,
 ⟨some 6, .nilchk (.t 5), none, []⟩,
 ⟨some 7, .fadr 0 (.t 6), none, []⟩,
 ⟨some 8, .load1 (.t 7), none, []⟩,
 ⟨some 9, .mv (.t 1), none, []⟩,
 ⟨some 10, .bin .quo .i64 (.t 9) (.k (.lit .i64 8)), none, []⟩,
 ⟨some 11, .iadr 1 (.t 8) (.t 10), none, []⟩,
 ⟨some 12, .load1 (.t 11), none, []⟩,
 ⟨some 13, .mv (.t 1), none, []⟩,
 ⟨some 14, .bin .rem .i64 (.t 13) (.k (.lit .i64 8)), none, []⟩,
 ⟨some 15, .conv .u64 (.t 14), none, []⟩,
 ⟨some 16, .bin .shr .u8 (.t 12) (.t 15), none, []⟩,
 ⟨some 17, .conv .u64 (.t 16), none, []⟩,
 ⟨some 18, .bin .and .u64 (.t 17) (.k (.lit .u64 1)), none, []⟩,
 ⟨some 4, .mv (.t 18), none, []⟩])
 (.ret))
theorem fn69 : FnOk Try.prog 69 x69 19 [4] := FnOk.of Try.call69 Try.func69 (by kernel_rfl) Try.ntmps69 (by kernel_rfl)
def x70 : XC :=
 .seq (.ops [⟨some 2, .mv (.k (.lit .i64 0)), none, []⟩])
 (.seq (.ops [⟨some 3, .mv (.k (.lit .i64 0)), none, []⟩])
 (.seq (.block 0 (.loop (.seq (.seq (.ops [⟨some 4, .mv (.t 0), none, []⟩,
 ⟨some 5, .cmp .gtr (.t 4) (.k (.lit .i64 0)), none, []⟩])
 (.cond (.t 5) (.skip) (.exit 0)))
 (.block 1 (.seq (.ops [⟨some 6, .mv (.t 0), none, []⟩,
 ⟨some 7, .bin .quo .i64 (.t 6) (.k (.lit .i64 2)), none, []⟩,
 ⟨some 0, .mv (.t 7), none, []⟩])
 (.ops [⟨some 8, .mv (.t 3), none, []⟩,
 ⟨some 9, .bin .add .i64 (.t 8) (.k (.lit .i64 1)), none, []⟩,
 ⟨some 3, .mv (.t 9), none, []⟩]))))))
 (.seq (.ops [⟨some 10, .mv (.t 3), none, []⟩,
 ⟨some 2, .mv (.t 10), none, []⟩])
 (.ret))))
theorem fn70 : FnOk Try.prog 70 x70 11 [2] := FnOk.of Try.call70 Try.func70 (by kernel_rfl) Try.ntmps70 (by kernel_rfl)
def x71 : XC :=
 .seq (.ops [⟨some 2, .mv (.k (.lit .u8 0)), none, []⟩,
 ⟨some 3, .mv (.k (.lit .i64 0)), none, []⟩])
 (.seq (.ops [⟨some 4, .mv (.k (.lit .u64 0)), none, []⟩])
 (.seq (.seq (.ops [⟨some 5, .mv (.k (.lit .u64 0)), none, []⟩])
 (.block 0 (.loop (.seq (.seq (.ops [⟨some 8, .mv (.t 5), none, []⟩,
 ⟨some 9, .cmp .lss (.t 8) (.k (.lit .u64 4)), none, []⟩])
 (.cond (.t 9) (.skip) (.exit 0)))
 (.seq (.block 1 (.seq (.ops [⟨some 13, .mv (.t 0), none, []⟩,
 ⟨some 14, .call (.k (.fn 47 [])) [(.t 13), (.k (.lit .i64 1))], none, []⟩,
 ⟨some 12, .mv (.t 14), none, []⟩,
 ⟨some 15, .extract (.t 12) 0, none, []⟩,
 ⟨some 16, .extract (.t 12) 1, none, []⟩,
 ⟨some 6, .mv (.t 15), none, []⟩,
 ⟨some 7, .mv (.t 16), none, []⟩])
 (.seq (.seq (.ops [⟨some 17, .mv (.t 7), none, []⟩,
 ⟨some 18, .cmp .neq (.t 17) (.k (.lit .i64 0)), none, []⟩])
 (.cond (.t 18) (.seq (.ops [⟨some 19, .mv (.t 7), none, []⟩,
 ⟨some 2, .mv (.k (.lit .u8 0)), none, []⟩,
 ⟨some 3, .mv (.t 19), none, []⟩])
 (.ret)) (.skip)))
 (.seq (.ops [⟨some 20, .mv (.t 4), none, []⟩,
 ⟨some 21, .mv (.t 6), none, []⟩,
 ⟨some 22, .mv (.t 5), none, []⟩,
 ⟨some 23, .bin .shl .u64 (.t 21) (.t 22), none, []⟩,
 ⟨some 24, .bin .or .u64 (.t 20) (.t 23), none, []⟩,
 ⟨some 4, .mv (.t 24), none, []⟩])
 (.block 2 (.seq (.ops [⟨some 26, .mv (.t 5), none, []⟩,
 ⟨some 27, .cmp .eql (.t 26) (.k (.lit .u64 1)), none, []⟩,
 ⟨some 28, .mv (.t 27), none, []⟩,
 ⟨some 29, .mv (.t 4), some (28, true), []⟩,
 ⟨some 30, .cmp .eql (.t 29) (.k (.lit .u64 0)), some (28, true), []⟩,
 ⟨some 31, .pick (.t 28) (.t 30) (.k (.bool false)), none, []⟩,
 ⟨some 25, .mv (.t 31), none, []⟩])
 (.cond (.t 25) (.seq (.ops [⟨some 2, .mv (.k (.lit .u8 0)), none, []⟩,
 ⟨some 3, .mv (.k (.lit .i64 0)), none, []⟩])
 (.ret)) (.seq (.ops [⟨some 33, .mv (.t 5), none, []⟩,
 ⟨some 34, .cmp .eql (.t 33) (.k (.lit .u64 1)), none, []⟩,
 ⟨some 35, .mv (.t 34), none, []⟩,
 ⟨some 36, .mv (.t 4), some (35, true), []⟩,
 ⟨some 37, .cmp .eql (.t 36) (.k (.lit .u64 1)), some (35, true), []⟩,
 ⟨some 38, .pick (.t 35) (.t 37) (.k (.bool false)), none, []⟩,
 ⟨some 32, .mv (.t 38), none, []⟩])
 (.cond (.t 32) (.seq (.ops [⟨some 2, .mv (.k (.lit .u8 4)), none, []⟩,
 ⟨some 3, .mv (.k (.lit .i64 0)), none, []⟩])
 (.ret)) (.seq (.ops [⟨some 40, .mv (.t 5), none, []⟩,
 ⟨some 41, .cmp .eql (.t 40) (.k (.lit .u64 1)), none, []⟩,
 ⟨some 42, .mv (.t 41), none, []⟩,
 ⟨some 43, .mv (.t 4), some (42, true), []⟩,
 ⟨some 44, .cmp .eql (.t 43) (.k (.lit .u64 2)), some (42, true), []⟩,
 ⟨some 45, .pick (.t 42) (.t 44) (.k (.bool false)), none, []⟩,
 ⟨some 39, .mv (.t 45), none, []⟩])
 (.cond (.t 39) (.seq (.ops [⟨some 2, .mv (.k (.lit .u8 3)), none, []⟩,
 ⟨some 3, .mv (.k (.lit .i64 0)), none, []⟩])
 (.ret)) (.seq (.ops [⟨some 47, .mv (.t 5), none, []⟩,
 ⟨some 48, .cmp .eql (.t 47) (.k (.lit .u64 2)), none, []⟩,
 ⟨some 49, .mv (.t 48), none, []⟩,
 ⟨some 50, .mv (.t 4), some (49, true), []⟩,
 ⟨some 51, .cmp .eql (.t 50) (.k (.lit .u64 3)), some (49, true), []⟩,
 ⟨some 52, .pick (.t 49) (.t 51) (.k (.bool false)), none, []⟩,
 ⟨some 46, .mv (.t 52), none, []⟩])
 (.cond (.t 46) (.seq (.ops [⟨some 2, .mv (.k (.lit .u8 2)), none, []⟩,
 ⟨some 3, .mv (.k (.lit .i64 0)), none, []⟩])
 (.ret)) (.seq (.ops [⟨some 54, .mv (.t 5), none, []⟩,
 ⟨some 55, .cmp .eql (.t 54) (.k (.lit .u64 3)), none, []⟩,
 ⟨some 56, .mv (.t 55), none, []⟩,
 ⟨some 57, .mv (.t 4), some (56, true), []⟩,
 ⟨some 58, .cmp .eql (.t 57) (.k (.lit .u64 7)), some (56, true), []⟩,
 ⟨some 59, .pick (.t 56) (.t 58) (.k (.bool false)), none, []⟩,
 ⟨some 53, .mv (.t 59), none, []⟩])
 (.cond (.t 53) (.seq (.ops [⟨some 2, .mv (.k (.lit .u8 1)), none, []⟩,
 ⟨some 3, .mv (.k (.lit .i64 0)), none, []⟩])
 (.ret)) (.skip))))))))))))))))
 (.ops [⟨some 10, .mv (.t 5), none, []⟩,
 ⟨some 11, .bin .add .u64 (.t 10) (.k (.lit .u64 1)), none, []⟩,
 ⟨some 5, .mv (.t 11), none, []⟩]))))))
 (.seq (.ops [⟨some 2, .mv (.k (.lit .u8 5)), none, []⟩,
 ⟨some 3, .mv (.k (.lit .i64 0)), none, []⟩])
 (.ret))))
theorem fn71 : FnOk Try.prog 71 x71 60 [2, 3] := FnOk.of Try.call71 Try.func71 (by kernel_rfl) Try.ntmps71 (by kernel_rfl)
def x72 : XC :=
 .seq (.ops [⟨some 2, .mv (.k (.val (.slice none 0 0))), none, []⟩])
 (.seq (.ops [⟨some 3, .mv (.t 0), none, []⟩,
 ⟨some 4, .call (.k (.fn 79 [])) [(.t 3)], none, []⟩,
 ⟨some 2, .mv (.t 4), none, []⟩])
 (.ret))
theorem fn72 : FnOk Try.prog 72 x72 5 [2] := FnOk.of Try.call72 Try.func72 (by kernel_rfl) Try.ntmps72 (by kernel_rfl)
def x73 : XC :=
 .block 0 (.loop (.seq (.seq (.ops [⟨some 4, .load1 (.t 1), none, []⟩,
 ⟨some 5, .cmp .gtr (.t 4) (.k (.lit .i64 0)), none, []⟩])
 (.cond (.t 5) (.skip) (.exit 0)))
 (.seq (.block 1 (.seq (.seq (.ops [⟨some 8, .mv (.t 0), none, []⟩,
 ⟨some 9, .load1 (.t 2), none, []⟩,
 ⟨some 10, .bin .and .u64 (.t 9) (.k (.lit .u64 1)), none, []⟩,
 ⟨some 11, .conv .u8 (.t 10), none, []⟩,
 ⟨some 12, .call (.t 8) [(.t 11)], none, []⟩,
 ⟨some 13, .not (.t 12), none, []⟩])
 (.cond (.t 13) (.ret) (.skip)))
 (.ops [⟨some 14, .load1 (.t 2), none, []⟩,
 ⟨some 15, .bin .shr .u64 (.t 14) (.k (.lit .u64 1)), none, []⟩,
 ⟨none, .store1 (.t 2) (.t 15), none, []⟩])))
 (.ops [⟨some 6, .load1 (.t 1), none, []⟩,
 ⟨some 7, .bin .sub .i64 (.t 6) (.k (.lit .i64 1)), none, []⟩,
 ⟨none, .store1 (.t 1) (.t 7), none, []⟩]))))
theorem fn73 : FnOk Try.prog 73 x73 16 [] := FnOk.of Try.call73 Try.func73 (by kernel_rfl) Try.ntmps73 (by kernel_rfl)
def x74 : XC :=
 .seq (.ops [⟨some 4, .mv (.k (.lit .i64 0)), none, []⟩])
 (.seq (.seq (.ops [⟨some 6, .mv (.t 0), none, []⟩,
 ⟨some 7, .len (.t 6), none, []⟩,
 ⟨some 8, .mv (.k (.lit .i64 0)), none, []⟩])
 (.block 0 (.loop (.seq (.ops [⟨some 9, .cmp .lss (.t 8) (.t 7), none, []⟩])
 (.seq (.cond (.t 9) (.skip) (.exit 0))
 (.seq (.block 1 (.seq (.ops [⟨some 10, .mv (.t 8), none, []⟩,
 ⟨some 5, .mv (.t 10), none, []⟩])
 (.seq (.ops [⟨some 11, .mv (.t 1), none, []⟩,
 ⟨some 12, .mv (.t 0), none, []⟩,
 ⟨some 13, .mv (.t 5), none, []⟩,
 ⟨some 14, .iadr 1 (.t 12) (.t 13), none, []⟩,
 ⟨some 15, .load1 (.t 14), none, []⟩,
 ⟨some 16, .cmp .eql (.t 11) (.t 15), none, []⟩])
 (.cond (.t 16) (.seq (.ops [⟨some 17, .mv (.t 5), none, []⟩,
 ⟨some 4, .mv (.t 17), none, []⟩])
 (.ret)) (.skip)))))
 (.ops [⟨some 18, .bin .add .i64 (.t 8) (.k (.lit .i64 1)), none, []⟩,
 ⟨some 8, .mv (.t 18), none, []⟩])))))))
 (.seq (.ops [⟨some 4, .mv (.k (.lit .i64 (-1))), none, []⟩])
 (.ret)))
theorem fn74 : FnOk Try.prog 74 x74 19 [4] := FnOk.of Try.call74 Try.func74 (by kernel_rfl) Try.ntmps74 (by kernel_rfl)
def x79 : XC :=
 .seq (.ops [⟨some 2, .mv (.k (.val (.slice none 0 0))), none, []⟩])
 (.seq (.ops [⟨some 7, .mv (.t 0), none, []⟩,
 ⟨some 8, .len (.t 7), none, []⟩,
 ⟨some 9, .mkslI 116 .u16 2 (.t 8) (.t 8), none, []⟩,
 ⟨some 3, .mv (.t 9), none, []⟩])
 (.seq (.ops [⟨some 4, .mv (.k (.lit .i64 0)), none, []⟩])
 (.seq (.seq (.ops [⟨some 5, .mv (.k (.lit .i64 1)), none, []⟩])
 (.block 0 (.loop (.seq (.seq (.ops [⟨some 10, .mv (.t 5), none, []⟩,
 ⟨some 11, .cmp .leq (.t 10) (.k (.lit .i64 15)), none, []⟩])
 (.cond (.t 11) (.skip) (.exit 0)))
 (.seq (.block 1 (.seq (.ops [⟨some 14, .mv (.t 4), none, []⟩,
 ⟨some 15, .bin .mul .i64 (.t 14) (.k (.lit .i64 2)), none, []⟩,
 ⟨some 4, .mv (.t 15), none, []⟩])
 (.seq (.ops [⟨some 6, .mv (.k (.lit .i64 0)), none, []⟩])
 (.block 2 (.loop (.seq (.seq (.ops [⟨some 16, .mv (.t 6), none, []⟩,
 ⟨some 17, .mv (.t 0), none, []⟩,
 ⟨some 18, .len (.t 17), none, []⟩,
 ⟨some 19, .cmp .lss (.t 16) (.t 18), none, []⟩])
 (.cond (.t 19) (.skip) (.exit 2)))
 (.seq (.block 3 (.seq (.ops [⟨some 22, .mv (.t 0), none, []⟩,
 ⟨some 23, .mv (.t 6), none, []⟩,
 ⟨some 24, .iadr 1 (.t 22) (.t 23), none, []⟩,
 ⟨some 25, .load1 (.t 24), none, []⟩,
 ⟨some 26, .conv .i64 (.t 25), none, []⟩,
 ⟨some 27, .mv (.t 5), none, []⟩,
 ⟨some 28, .cmp .eql (.t 26) (.t 27), none, []⟩])
 (.cond (.t 28) (.seq (.ops [⟨some 29, .mv (.t 3), none, []⟩,
 ⟨some 30, .mv (.t 6), none, []⟩,
 ⟨some 31, .mv (.t 4), none, []⟩,
 ⟨some 32, .conv .u16 (.t 31), none, []⟩,
 ⟨some 33, .iadr 1 (.t 29) (.t 30), none, []⟩,
 ⟨none, .store1 (.t 33) (.t 32), none, []⟩])
 (.ops [⟨some 34, .mv (.t 4), none, []⟩,
 ⟨some 35, .bin .add .i64 (.t 34) (.k (.lit .i64 1)), none, []⟩,
 ⟨some 4, .mv (.t 35), none, []⟩])) (.skip))))
 (.ops [⟨some 20, .mv (.t 6), none, []⟩,
 ⟨some 21, .bin .add .i64 (.t 20) (.k (.lit .i64 1)), none, []⟩,
 ⟨some 6, .mv (.t 21), none, []⟩]))))))))
 (.ops [⟨some 12, .mv (.t 5), none, []⟩,
 ⟨some 13, .bin .add .i64 (.t 12) (.k (.lit .i64 1)), none, []⟩,
 ⟨some 5, .mv (.t 13), none, []⟩]))))))
 (.seq (.ops [⟨some 36, .mv (.t 3), none, []⟩,
 ⟨some 2, .mv (.t 36), none, []⟩])
 (.ret)))))
theorem fn79 : FnOk Try.prog 79 x79 37 [2] := FnOk.of Try.call79 Try.func79 (by kernel_rfl) Try.ntmps79 (by kernel_rfl)
end Go.Proofs.Ytkkddgdcmdnnmaa
