import Derived.Test.YtaaklikigccdfaaEB
import Derived.Test.YtaaklikigccdfaaRows
set_option linter.unusedVariables false
set_option linter.unusedSimpArgs false
/-
 The compact codes of this seat's functions (printed by wip/dev/Pr.lean.tpl), checked.
-/
namespace Go.Proofs.Ytaaklikigccdfaa
open Go Go.Sx Go.Proofs
/-- baler/balerlaw09.WeightsRead -/
def x3 : XC :=
 .seq (.ops [⟨(some 2), .mv (.k (.bool false)), none, []⟩])
 (.seq (.ops [⟨(some 10), .mv (.t 0), none, []⟩,
 ⟨(some 11), .call (.k (.fn 6 [])) [(.t 10)], none, []⟩,
 ⟨(some 9), .mv (.t 11), none, []⟩,
 ⟨(some 12), .extract (.t 9) 0, none, []⟩,
 ⟨(some 13), .extract (.t 9) 1, none, []⟩,
 ⟨(some 14), .extract (.t 9) 2, none, []⟩,
 ⟨(some 3), .mv (.t 12), none, []⟩,
 ⟨(some 4), .mv (.t 13), none, []⟩,
 ⟨(some 5), .mv (.t 14), none, []⟩])
 (.seq (.ops [⟨(some 16), .mv (.t 0), none, []⟩,
 ⟨(some 17), .call (.k (.fn 7 [])) [(.t 16)], none, []⟩,
 ⟨(some 15), .mv (.t 17), none, []⟩,
 ⟨(some 18), .extract (.t 15) 0, none, []⟩,
 ⟨(some 19), .extract (.t 15) 1, none, []⟩,
 ⟨(some 20), .extract (.t 15) 2, none, []⟩,
 ⟨(some 6), .mv (.t 18), none, []⟩,
 ⟨(some 7), .mv (.t 19), none, []⟩,
 ⟨(some 8), .mv (.t 20), none, []⟩])
 (.seq (.ops [⟨(some 21), .mv (.t 5), none, []⟩,
 ⟨(some 22), .mv (.t 8), none, []⟩,
 ⟨(some 23), .cmp .eql (.t 21) (.t 22), none, []⟩,
 ⟨(some 24), .mv (.t 23), none, []⟩,
 ⟨(some 25), .mv (.t 3), some (24, true), []⟩,
 ⟨(some 26), .bstr (.t 25), some (24, true), []⟩,
 ⟨(some 27), .mv (.t 6), some (24, true), []⟩,
 ⟨(some 28), .bstr (.t 27), some (24, true), []⟩,
 ⟨(some 29), .eqv false 1 (.t 26) (.t 28), some (24, true), []⟩,
 ⟨(some 30), .pick (.t 24) (.t 29) (.k (.bool false)), none, []⟩,
 ⟨(some 31), .mv (.t 30), none, []⟩,
 ⟨(some 32), .mv (.t 4), some (31, true), []⟩,
 ⟨(some 33), .mv (.t 7), some (31, true), []⟩,
 ⟨(some 34), .cmp .eql (.t 32) (.t 33), some (31, true), []⟩,
 ⟨(some 35), .pick (.t 31) (.t 34) (.k (.bool false)), none, []⟩,
 ⟨(some 36), .mv (.t 35), none, []⟩,
 ⟨(some 37), .call (.k (.fn 8 [])) [], some (36, true), []⟩,
 ⟨(some 38), .pick (.t 36) (.t 37) (.k (.bool false)), none, []⟩,
 ⟨(some 2), .mv (.t 38), none, []⟩])
 (.ret))))
theorem fn3 : FnOk Try.prog 3 x3 39 [2] := FnOk.of Try.call3 Try.func3 (by kernel_rfl) Try.ntmps3 (by kernel_rfl)
/-- baler/balerlaw11.LiteralsRead -/
def x4 : XC :=
 .seq (.ops [⟨(some 6), .mv (.k (.bool false)), none, []⟩])
 (.seq (.ops [⟨(some 16), .mv (.t 0), none, []⟩,
 ⟨(some 17), .mv (.t 1), none, []⟩,
 ⟨(some 18), .mv (.t 2), none, []⟩,
 ⟨(some 19), .call (.k (.fn 9 [])) [(.t 16), (.t 17), (.t 18)], none, []⟩,
 ⟨(some 15), .mv (.t 19), none, []⟩,
 ⟨(some 20), .extract (.t 15) 0, none, []⟩,
 ⟨(some 21), .extract (.t 15) 1, none, []⟩,
 ⟨(some 22), .extract (.t 15) 2, none, []⟩,
 ⟨(some 23), .extract (.t 15) 3, none, []⟩,
 ⟨(some 7), .mv (.t 20), none, []⟩,
 ⟨(some 8), .mv (.t 21), none, []⟩,
 ⟨(some 9), .mv (.t 22), none, []⟩,
 ⟨(some 10), .mv (.t 23), none, []⟩])
 (.seq (.ops [⟨(some 25), .mv (.t 0), none, []⟩,
 ⟨(some 26), .mv (.t 1), none, []⟩,
 ⟨(some 27), .mv (.t 2), none, []⟩,
 ⟨(some 28), .call (.k (.fn 10 [])) [(.t 25), (.t 26), (.t 27)], none, []⟩,
 ⟨(some 24), .mv (.t 28), none, []⟩,
 ⟨(some 29), .extract (.t 24) 0, none, []⟩,
 ⟨(some 30), .extract (.t 24) 1, none, []⟩,
 ⟨(some 31), .extract (.t 24) 2, none, []⟩,
 ⟨(some 32), .extract (.t 24) 3, none, []⟩,
 ⟨(some 11), .mv (.t 29), none, []⟩,
 ⟨(some 12), .mv (.t 30), none, []⟩,
 ⟨(some 13), .mv (.t 31), none, []⟩,
 ⟨(some 14), .mv (.t 32), none, []⟩])
 (.seq (.ops [⟨(some 33), .mv (.t 10), none, []⟩,
 ⟨(some 34), .mv (.t 14), none, []⟩,
 ⟨(some 35), .cmp .eql (.t 33) (.t 34), none, []⟩,
 ⟨(some 36), .mv (.t 35), none, []⟩,
 ⟨(some 37), .mv (.t 7), some (36, true), []⟩,
 ⟨(some 38), .bstr (.t 37), some (36, true), []⟩,
 ⟨(some 39), .mv (.t 11), some (36, true), []⟩,
 ⟨(some 40), .bstr (.t 39), some (36, true), []⟩,
 ⟨(some 41), .eqv false 1 (.t 38) (.t 40), some (36, true), []⟩,
 ⟨(some 42), .pick (.t 36) (.t 41) (.k (.bool false)), none, []⟩,
 ⟨(some 43), .mv (.t 42), none, []⟩,
 ⟨(some 44), .mv (.t 8), some (43, true), []⟩,
 ⟨(some 45), .bstr (.t 44), some (43, true), []⟩,
 ⟨(some 46), .mv (.t 12), some (43, true), []⟩,
 ⟨(some 47), .bstr (.t 46), some (43, true), []⟩,
 ⟨(some 48), .eqv false 1 (.t 45) (.t 47), some (43, true), []⟩,
 ⟨(some 49), .pick (.t 43) (.t 48) (.k (.bool false)), none, []⟩,
 ⟨(some 50), .mv (.t 49), none, []⟩,
 ⟨(some 51), .mv (.t 9), some (50, true), []⟩,
 ⟨(some 52), .mv (.t 13), some (50, true), []⟩,
 ⟨(some 53), .cmp .eql (.t 51) (.t 52), some (50, true), []⟩,
 ⟨(some 54), .pick (.t 50) (.t 53) (.k (.bool false)), none, []⟩,
 ⟨(some 55), .mv (.t 54), none, []⟩,
 ⟨(some 56), .call (.k (.fn 11 [])) [], some (55, true), []⟩,
 ⟨(some 57), .pick (.t 55) (.t 56) (.k (.bool false)), none, []⟩,
 ⟨(some 6), .mv (.t 57), none, []⟩])
 (.ret))))
theorem fn4 : FnOk Try.prog 4 x4 58 [6] := FnOk.of Try.call4 Try.func4 (by kernel_rfl) Try.ntmps4 (by kernel_rfl)
/-- baler/weights.Read -/
def x6 : XC :=
 .seq (.ops [⟨(some 2), .mv (.k (.val (.slice none 0 0))), none, []⟩,
 ⟨(some 3), .mv (.k (.lit .i64 0)), none, []⟩,
 ⟨(some 4), .mv (.k (.lit .i64 0)), none, []⟩])
 (.seq (.seq (.ops [⟨(some 11), .mv (.t 0), none, []⟩,
 ⟨(some 12), .len (.t 11), none, []⟩,
 ⟨(some 13), .cmp .eql (.t 12) (.k (.lit .i64 0)), none, []⟩])
 (.cond (.t 13) (.seq (.ops [⟨(some 2), .mv (.k (.val (.slice none 0 0))), none, []⟩,
 ⟨(some 3), .mv (.k (.lit .i64 0)), none, []⟩,
 ⟨(some 4), .mv (.k (.lit .i64 10)), none, []⟩])
 (.ret)) (.skip)))
 (.seq (.ops [⟨(some 14), .mv (.t 0), none, []⟩,
 ⟨(some 15), .iadr 1 (.t 14) (.k (.lit .i64 0)), none, []⟩,
 ⟨(some 16), .load1 (.t 15), none, []⟩,
 ⟨(some 17), .conv .i64 (.t 16), none, []⟩,
 ⟨(some 5), .mv (.t 17), none, []⟩])
 (.seq (.ops [⟨(some 18), .mv (.t 5), none, []⟩,
 ⟨(some 6), .mv (.t 18), none, []⟩])
 (.seq (.seq (.ops [⟨(some 19), .mv (.t 5), none, []⟩,
 ⟨(some 20), .cmp .geq (.t 19) (.k (.lit .i64 128)), none, []⟩])
 (.cond (.t 20) (.ops [⟨(some 21), .mv (.t 5), none, []⟩,
 ⟨(some 22), .bin .sub .i64 (.t 21) (.k (.lit .i64 126)), none, []⟩,
 ⟨(some 23), .bin .quo .i64 (.t 22) (.k (.lit .i64 2)), none, []⟩,
 ⟨(some 6), .mv (.t 23), none, []⟩]) (.skip)))
 (.seq (.seq (.ops [⟨(some 24), .mv (.t 0), none, []⟩,
 ⟨(some 25), .len (.t 24), none, []⟩,
 ⟨(some 26), .bin .sub .i64 (.t 25) (.k (.lit .i64 1)), none, []⟩,
 ⟨(some 27), .mv (.t 6), none, []⟩,
 ⟨(some 28), .cmp .lss (.t 26) (.t 27), none, []⟩])
 (.cond (.t 28) (.seq (.ops [⟨(some 2), .mv (.k (.val (.slice none 0 0))), none, []⟩,
 ⟨(some 3), .mv (.k (.lit .i64 0)), none, []⟩,
 ⟨(some 4), .mv (.k (.lit .i64 10)), none, []⟩])
 (.ret)) (.skip)))
 (.seq (.ops [⟨(some 7), .mv (.k (.val (.slice none 0 0))), none, []⟩])
 (.seq (.ops [⟨(some 8), .mv (.k (.bool true)), none, []⟩])
 (.seq (.seq (.ops [⟨(some 29), .mv (.t 5), none, []⟩,
 ⟨(some 30), .cmp .lss (.t 29) (.k (.lit .i64 128)), none, []⟩])
 (.cond (.t 30) (.ops [⟨(some 32), .mv (.t 0), none, []⟩,
 ⟨(some 33), .mv (.t 6), none, []⟩,
 ⟨(some 34), .bin .add .i64 (.k (.lit .i64 1)) (.t 33), none, []⟩,
 ⟨(some 35), .slc 1 (.t 32) (some (.k (.lit .i64 1))) (some (.t 34)) none, none, []⟩,
 ⟨(some 36), .call (.k (.fn 16 [])) [(.t 35)], none, []⟩,
 ⟨(some 31), .mv (.t 36), none, []⟩,
 ⟨(some 37), .extract (.t 31) 0, none, []⟩,
 ⟨(some 38), .extract (.t 31) 1, none, []⟩,
 ⟨(some 7), .mv (.t 37), none, []⟩,
 ⟨(some 8), .mv (.t 38), none, []⟩]) (.seq (.seq (.ops [⟨(some 39), .mv (.t 0), none, []⟩,
 ⟨(some 40), .mv (.t 6), none, []⟩,
 ⟨(some 41), .bin .add .i64 (.k (.lit .i64 1)) (.t 40), none, []⟩,
 ⟨(some 42), .slc 1 (.t 39) (some (.k (.lit .i64 1))) (some (.t 41)) none, none, []⟩,
 ⟨(some 43), .len (.t 42), none, []⟩,
 ⟨(some 44), .mv (.k (.lit .i64 0)), none, []⟩])
 (.block 0 (.loop (.seq (.ops [⟨(some 45), .cmp .lss (.t 44) (.t 43), none, []⟩])
 (.seq (.cond (.t 45) (.skip) (.exit 0))
 (.seq (.block 1 (.seq (.ops [⟨(some 46), .iadr 1 (.t 42) (.t 44), none, []⟩,
 ⟨(some 47), .load1 (.t 46), none, []⟩,
 ⟨(some 10), .mv (.t 47), none, []⟩])
 (.ops [⟨(some 48), .mv (.t 7), none, []⟩,
 ⟨(some 49), .mv (.t 10), none, []⟩,
 ⟨(some 50), .bin .shr .u8 (.t 49) (.k (.lit .u64 4)), none, []⟩,
 ⟨(some 51), .mv (.t 10), none, []⟩,
 ⟨(some 52), .bin .and .u8 (.t 51) (.k (.lit .u8 15)), none, []⟩,
 ⟨(some 53), .bsliceI 5 .u8 2 [⟨0, 1, (.t 50)⟩, ⟨1, 1, (.t 52)⟩], none, []⟩,
 ⟨(some 54), .appI 5 .u8 1 (.t 48) (.t 53), none, []⟩,
 ⟨(some 7), .mv (.t 54), none, []⟩])))
 (.ops [⟨(some 55), .bin .add .i64 (.t 44) (.k (.lit .i64 1)), none, []⟩,
 ⟨(some 44), .mv (.t 55), none, []⟩])))))))
 (.ops [⟨(some 56), .mv (.t 7), none, []⟩,
 ⟨(some 57), .mv (.t 5), none, []⟩,
 ⟨(some 58), .bin .sub .i64 (.t 57) (.k (.lit .i64 127)), none, []⟩,
 ⟨(some 59), .slc 1 (.t 56) none (some (.t 58)) none, none, []⟩,
 ⟨(some 7), .mv (.t 59), none, []⟩]))))
 (.seq (.seq (.ops [⟨(some 60), .mv (.t 8), none, []⟩])
 (.cond (.t 60) (.ops [⟨(some 62), .mv (.t 7), none, []⟩,
 ⟨(some 63), .call (.k (.fn 17 [])) [(.t 62)], none, []⟩,
 ⟨(some 61), .mv (.t 63), none, []⟩,
 ⟨(some 64), .extract (.t 61) 0, none, []⟩,
 ⟨(some 65), .extract (.t 61) 1, none, []⟩,
 ⟨(some 2), .mv (.t 64), none, []⟩,
 ⟨(some 8), .mv (.t 65), none, []⟩]) (.skip)))
 (.seq (.seq (.ops [⟨(some 66), .mv (.t 8), none, []⟩,
 ⟨(some 67), .not (.t 66), none, []⟩])
 (.cond (.t 67) (.seq (.ops [⟨(some 2), .mv (.k (.val (.slice none 0 0))), none, []⟩,
 ⟨(some 3), .mv (.k (.lit .i64 0)), none, []⟩,
 ⟨(some 4), .mv (.k (.lit .i64 11)), none, []⟩])
 (.ret)) (.skip)))
 (.seq (.ops [⟨(some 68), .mv (.t 2), none, []⟩,
 ⟨(some 69), .mv (.t 6), none, []⟩,
 ⟨(some 70), .bin .add .i64 (.k (.lit .i64 1)) (.t 69), none, []⟩,
 ⟨(some 2), .mv (.t 68), none, []⟩,
 ⟨(some 3), .mv (.t 70), none, []⟩,
 ⟨(some 4), .mv (.k (.lit .i64 0)), none, []⟩])
 (.ret))))))))))))
theorem fn6 : FnOk Try.prog 6 x6 71 [2, 3, 4] := FnOk.of Try.call6 Try.func6 (by kernel_rfl) Try.ntmps6 (by kernel_rfl)
/-- baler/balerref09.Read -/
def x7 : XC :=
 .seq (.ops [⟨(some 2), .mv (.k (.val (.slice none 0 0))), none, []⟩,
 ⟨(some 3), .mv (.k (.lit .i64 0)), none, []⟩,
 ⟨(some 4), .mv (.k (.lit .i64 0)), none, []⟩])
 (.seq (.seq (.ops [⟨(some 9), .mv (.t 0), none, []⟩,
 ⟨(some 10), .len (.t 9), none, []⟩,
 ⟨(some 11), .cmp .eql (.t 10) (.k (.lit .i64 0)), none, []⟩])
 (.cond (.t 11) (.seq (.ops [⟨(some 2), .mv (.k (.val (.slice none 0 0))), none, []⟩,
 ⟨(some 3), .mv (.k (.lit .i64 0)), none, []⟩,
 ⟨(some 4), .mv (.k (.lit .i64 10)), none, []⟩])
 (.ret)) (.skip)))
 (.seq (.ops [⟨(some 12), .mv (.t 0), none, []⟩,
 ⟨(some 13), .iadr 1 (.t 12) (.k (.lit .i64 0)), none, []⟩,
 ⟨(some 14), .load1 (.t 13), none, []⟩,
 ⟨(some 15), .conv .i64 (.t 14), none, []⟩,
 ⟨(some 5), .mv (.t 15), none, []⟩])
 (.seq (.ops [⟨(some 16), .mv (.t 5), none, []⟩,
 ⟨(some 17), .bin .add .i64 (.k (.lit .i64 1)) (.t 16), none, []⟩,
 ⟨(some 3), .mv (.t 17), none, []⟩])
 (.seq (.seq (.ops [⟨(some 18), .mv (.t 5), none, []⟩,
 ⟨(some 19), .cmp .geq (.t 18) (.k (.lit .i64 128)), none, []⟩])
 (.cond (.t 19) (.ops [⟨(some 20), .mv (.t 5), none, []⟩,
 ⟨(some 21), .bin .sub .i64 (.t 20) (.k (.lit .i64 127)), none, []⟩,
 ⟨(some 22), .bin .add .i64 (.t 21) (.k (.lit .i64 1)), none, []⟩,
 ⟨(some 23), .bin .quo .i64 (.t 22) (.k (.lit .i64 2)), none, []⟩,
 ⟨(some 24), .bin .add .i64 (.k (.lit .i64 1)) (.t 23), none, []⟩,
 ⟨(some 3), .mv (.t 24), none, []⟩]) (.skip)))
 (.seq (.seq (.ops [⟨(some 25), .mv (.t 0), none, []⟩,
 ⟨(some 26), .len (.t 25), none, []⟩,
 ⟨(some 27), .mv (.t 3), none, []⟩,
 ⟨(some 28), .cmp .lss (.t 26) (.t 27), none, []⟩])
 (.cond (.t 28) (.seq (.ops [⟨(some 2), .mv (.k (.val (.slice none 0 0))), none, []⟩,
 ⟨(some 3), .mv (.k (.lit .i64 0)), none, []⟩,
 ⟨(some 4), .mv (.k (.lit .i64 10)), none, []⟩])
 (.ret)) (.skip)))
 (.seq (.ops [⟨(some 6), .mv (.k (.val (.slice none 0 0))), none, []⟩])
 (.seq (.ops [⟨(some 7), .mv (.k (.bool true)), none, []⟩])
 (.seq (.seq (.ops [⟨(some 29), .mv (.t 5), none, []⟩,
 ⟨(some 30), .cmp .geq (.t 29) (.k (.lit .i64 128)), none, []⟩])
 (.cond (.t 30) (.seq (.ops [⟨(some 8), .mv (.k (.lit .i64 0)), none, []⟩])
 (.block 0 (.loop (.seq (.seq (.ops [⟨(some 31), .mv (.t 8), none, []⟩,
 ⟨(some 32), .mv (.t 5), none, []⟩,
 ⟨(some 33), .bin .sub .i64 (.t 32) (.k (.lit .i64 127)), none, []⟩,
 ⟨(some 34), .cmp .lss (.t 31) (.t 33), none, []⟩])
 (.cond (.t 34) (.skip) (.exit 0)))
 (.seq (.block 1 (.ops [⟨(some 37), .mv (.t 6), none, []⟩,
 ⟨(some 38), .mv (.t 0), none, []⟩,
 ⟨(some 39), .mv (.t 8), none, []⟩,
 ⟨(some 40), .bin .quo .i64 (.t 39) (.k (.lit .i64 2)), none, []⟩,
 ⟨(some 41), .bin .add .i64 (.k (.lit .i64 1)) (.t 40), none, []⟩,
 ⟨(some 42), .iadr 1 (.t 38) (.t 41), none, []⟩,
 ⟨(some 43), .load1 (.t 42), none, []⟩,
 ⟨(some 44), .mv (.t 8), none, []⟩,
 ⟨(some 45), .bin .rem .i64 (.t 44) (.k (.lit .i64 2)), none, []⟩,
 ⟨(some 46), .bin .sub .i64 (.k (.lit .i64 1)) (.t 45), none, []⟩,
 ⟨(some 47), .bin .mul .i64 (.k (.lit .i64 4)) (.t 46), none, []⟩,
 ⟨(some 48), .conv .u64 (.t 47), none, []⟩,
 ⟨(some 49), .bin .shr .u8 (.t 43) (.t 48), none, []⟩,
 ⟨(some 50), .bin .and .u8 (.t 49) (.k (.lit .u8 15)), none, []⟩,
 ⟨(some 51), .bsliceI 5 .u8 1 [⟨0, 1, (.t 50)⟩], none, []⟩,
 ⟨(some 52), .appI 5 .u8 1 (.t 37) (.t 51), none, []⟩,
 ⟨(some 6), .mv (.t 52), none, []⟩]))
 (.ops [⟨(some 35), .mv (.t 8), none, []⟩,
 ⟨(some 36), .bin .add .i64 (.t 35) (.k (.lit .i64 1)), none, []⟩,
 ⟨(some 8), .mv (.t 36), none, []⟩])))))) (.ops [⟨(some 54), .mv (.t 0), none, []⟩,
 ⟨(some 55), .mv (.t 3), none, []⟩,
 ⟨(some 56), .slc 1 (.t 54) (some (.k (.lit .i64 1))) (some (.t 55)) none, none, []⟩,
 ⟨(some 57), .call (.k (.fn 18 [])) [(.t 56)], none, []⟩,
 ⟨(some 53), .mv (.t 57), none, []⟩,
 ⟨(some 58), .extract (.t 53) 0, none, []⟩,
 ⟨(some 59), .extract (.t 53) 1, none, []⟩,
 ⟨(some 6), .mv (.t 58), none, []⟩,
 ⟨(some 7), .mv (.t 59), none, []⟩])))
 (.seq (.seq (.ops [⟨(some 60), .mv (.t 7), none, []⟩])
 (.cond (.t 60) (.ops [⟨(some 62), .mv (.t 6), none, []⟩,
 ⟨(some 63), .call (.k (.fn 19 [])) [(.t 62)], none, []⟩,
 ⟨(some 61), .mv (.t 63), none, []⟩,
 ⟨(some 64), .extract (.t 61) 0, none, []⟩,
 ⟨(some 65), .extract (.t 61) 1, none, []⟩,
 ⟨(some 2), .mv (.t 64), none, []⟩,
 ⟨(some 7), .mv (.t 65), none, []⟩]) (.skip)))
 (.seq (.seq (.ops [⟨(some 66), .mv (.t 7), none, []⟩,
 ⟨(some 67), .not (.t 66), none, []⟩])
 (.cond (.t 67) (.seq (.ops [⟨(some 2), .mv (.k (.val (.slice none 0 0))), none, []⟩,
 ⟨(some 3), .mv (.k (.lit .i64 0)), none, []⟩,
 ⟨(some 4), .mv (.k (.lit .i64 11)), none, []⟩])
 (.ret)) (.skip)))
 (.seq (.ops [⟨(some 68), .mv (.t 2), none, []⟩,
 ⟨(some 69), .mv (.t 3), none, []⟩,
 ⟨(some 2), .mv (.t 68), none, []⟩,
 ⟨(some 3), .mv (.t 69), none, []⟩,
 ⟨(some 4), .mv (.k (.lit .i64 0)), none, []⟩])
 (.ret))))))))))))
theorem fn7 : FnOk Try.prog 7 x7 70 [2, 3, 4] := FnOk.of Try.call7 Try.func7 (by kernel_rfl) Try.ntmps7 (by kernel_rfl)
/-- baler/literals.Read -/
def x9 : XC :=
 .seq (.ops [⟨(some 6), .mv (.k (.val (.slice none 0 0))), none, []⟩,
 ⟨(some 7), .mv (.k (.val (.slice none 0 0))), none, []⟩,
 ⟨(some 8), .mv (.k (.lit .i64 0)), none, []⟩,
 ⟨(some 9), .mv (.k (.lit .i64 0)), none, []⟩])
 (.seq (.seq (.ops [⟨(some 19), .mv (.t 2), none, []⟩,
 ⟨(some 20), .cmp .lss (.t 19) (.k (.lit .i64 0)), none, []⟩,
 ⟨(some 21), .mv (.t 20), none, []⟩,
 ⟨(some 22), .mv (.t 2), some (21, false), []⟩,
 ⟨(some 23), .cmp .gtr (.t 22) (.k (.lit .i64 131072)), some (21, false), []⟩,
 ⟨(some 24), .pick (.t 21) (.k (.bool true)) (.t 23), none, []⟩])
 (.cond (.t 24) (.seq (.ops [⟨(some 6), .mv (.k (.val (.slice none 0 0))), none, []⟩,
 ⟨(some 7), .mv (.k (.val (.slice none 0 0))), none, []⟩,
 ⟨(some 8), .mv (.k (.lit .i64 0)), none, []⟩,
 ⟨(some 9), .mv (.k (.lit .i64 2)), none, []⟩])
 (.ret)) (.skip)))
 (.seq (.seq (.ops [⟨(some 25), .mv (.t 0), none, []⟩,
 ⟨(some 26), .len (.t 25), none, []⟩,
 ⟨(some 27), .cmp .eql (.t 26) (.k (.lit .i64 0)), none, []⟩])
 (.cond (.t 27) (.seq (.ops [⟨(some 6), .mv (.k (.val (.slice none 0 0))), none, []⟩,
 ⟨(some 7), .mv (.k (.val (.slice none 0 0))), none, []⟩,
 ⟨(some 8), .mv (.k (.lit .i64 0)), none, []⟩,
 ⟨(some 9), .mv (.k (.lit .i64 10)), none, []⟩])
 (.ret)) (.skip)))
 (.seq (.ops [⟨(some 28), .mv (.t 0), none, []⟩,
 ⟨(some 29), .iadr 1 (.t 28) (.k (.lit .i64 0)), none, []⟩,
 ⟨(some 30), .load1 (.t 29), none, []⟩,
 ⟨(some 31), .bin .and .u8 (.t 30) (.k (.lit .u8 3)), none, []⟩,
 ⟨(some 10), .mv (.t 31), none, []⟩])
 (.seq (.tree (.step ⟨(some 33), .mv (.t 0), none, []⟩
 (.step ⟨(some 34), .iadr 1 (.t 33) (.k (.lit .i64 0)), none, []⟩
 (.step ⟨(some 35), .load1 (.t 34), none, []⟩
 (.step ⟨(some 36), .bin .shr .u8 (.t 35) (.k (.lit .u64 2)), none, []⟩
 (.step ⟨(some 37), .bin .and .u8 (.t 36) (.k (.lit .u8 3)), none, []⟩
 (.both
 (.step ⟨(some 32), .call (.k (.fn 21 [])) [], none, [(.load1 (.t 34), 35, none)]⟩
 (.step ⟨(some 38), .idxA 4 3 true (.t 32) (.t 37), none, []⟩
 (.step ⟨(some 11), .newR 48 [(.lit .i64 0), (.lit .i64 0), (.lit .i64 0)], none, [(.load1 (.t 34), 35, none)]⟩
 (.step ⟨none, .storeA 3 (.t 11) (.t 38), none, []⟩
 (.fin)))))
 (.step ⟨(some 11), .newR 48 [(.lit .i64 0), (.lit .i64 0), (.lit .i64 0)], none, [(.load1 (.t 34), 35, none)]⟩
 (.step ⟨(some 32), .call (.k (.fn 21 [])) [], none, [(.load1 (.t 34), 35, none)]⟩
 (.step ⟨(some 38), .idxA 4 3 true (.t 32) (.t 37), none, []⟩
 (.step ⟨none, .storeA 3 (.t 11) (.t 38), none, []⟩
 (.fin))))))))))))
 (.seq (.seq (.ops [⟨(some 39), .mv (.t 10), none, []⟩,
 ⟨(some 40), .cmp .geq (.t 39) (.k (.lit .u8 2)), none, []⟩])
 (.cond (.t 40) (.ops [⟨(some 42), .mv (.t 0), none, []⟩,
 ⟨(some 43), .iadr 1 (.t 42) (.k (.lit .i64 0)), none, []⟩,
 ⟨(some 44), .load1 (.t 43), none, []⟩,
 ⟨(some 45), .bin .shr .u8 (.t 44) (.k (.lit .u64 2)), none, []⟩,
 ⟨(some 46), .bin .and .u8 (.t 45) (.k (.lit .u8 3)), none, []⟩,
 ⟨(some 41), .call (.k (.fn 22 [])) [], none, [(.load1 (.t 43), 44, none)]⟩,
 ⟨(some 47), .idxA 4 3 true (.t 41) (.t 46), none, []⟩,
 ⟨none, .storeA 3 (.t 11) (.t 47), none, []⟩]) (.skip)))
 (.seq (.seq (.ops [⟨(some 48), .mv (.t 0), none, []⟩,
 ⟨(some 49), .len (.t 48), none, []⟩,
 ⟨(some 50), .fadr 0 (.t 11), none, []⟩,
 ⟨(some 51), .load1 (.t 50), none, []⟩,
 ⟨(some 52), .cmp .lss (.t 49) (.t 51), none, []⟩])
 (.cond (.t 52) (.seq (.ops [⟨(some 6), .mv (.k (.val (.slice none 0 0))), none, []⟩,
 ⟨(some 7), .mv (.k (.val (.slice none 0 0))), none, []⟩,
 ⟨(some 8), .mv (.k (.lit .i64 0)), none, []⟩,
 ⟨(some 9), .mv (.k (.lit .i64 10)), none, []⟩])
 (.ret)) (.skip)))
 (.seq (.ops [⟨(some 53), .mv (.t 0), none, []⟩,
 ⟨(some 54), .fadr 0 (.t 11), none, []⟩,
 ⟨(some 55), .load1 (.t 54), none, []⟩,
 ⟨(some 56), .slc 1 (.t 53) none (some (.t 55)) none, none, []⟩,
 ⟨(some 57), .call (.k (.fn 23 [])) [(.t 56)], none, []⟩,
 ⟨(some 58), .bin .shr .u64 (.t 57) (.k (.lit .u64 4)), none, []⟩,
 ⟨(some 12), .mv (.t 58), none, []⟩])
 (.seq (.seq (.ops [⟨(some 59), .fadr 0 (.t 11), none, []⟩,
 ⟨(some 60), .load1 (.t 59), none, []⟩,
 ⟨(some 61), .cmp .eql (.t 60) (.k (.lit .i64 1)), none, []⟩])
 (.cond (.t 61) (.ops [⟨(some 62), .mv (.t 0), none, []⟩,
 ⟨(some 63), .iadr 1 (.t 62) (.k (.lit .i64 0)), none, []⟩,
 ⟨(some 64), .load1 (.t 63), none, []⟩,
 ⟨(some 65), .bin .shr .u8 (.t 64) (.k (.lit .u64 3)), none, []⟩,
 ⟨(some 66), .conv .u64 (.t 65), none, []⟩,
 ⟨(some 12), .mv (.t 66), none, []⟩]) (.skip)))
 (.seq (.ops [⟨(some 67), .mv (.t 12), none, []⟩,
 ⟨(some 68), .fadr 1 (.t 11), none, []⟩,
 ⟨(some 69), .load1 (.t 68), none, []⟩,
 ⟨(some 70), .conv .u64 (.t 69), none, []⟩,
 ⟨(some 71), .bin .shl .u64 (.k (.lit .u64 1)) (.t 70), none, []⟩,
 ⟨(some 72), .bin .sub .u64 (.t 71) (.k (.lit .u64 1)), none, []⟩,
 ⟨(some 73), .bin .and .u64 (.t 67) (.t 72), none, []⟩,
 ⟨(some 74), .conv .i64 (.t 73), none, []⟩,
 ⟨(some 13), .mv (.t 74), none, []⟩])
 (.seq (.seq (.ops [⟨(some 75), .mv (.t 13), none, []⟩,
 ⟨(some 76), .mv (.t 2), none, []⟩,
 ⟨(some 77), .cmp .gtr (.t 75) (.t 76), none, []⟩])
 (.cond (.t 77) (.seq (.ops [⟨(some 6), .mv (.k (.val (.slice none 0 0))), none, []⟩,
 ⟨(some 7), .mv (.k (.val (.slice none 0 0))), none, []⟩,
 ⟨(some 8), .mv (.k (.lit .i64 0)), none, []⟩,
 ⟨(some 9), .mv (.k (.lit .i64 11)), none, []⟩])
 (.ret)) (.skip)))
 (.seq (.ops [⟨(some 78), .mv (.t 12), none, []⟩,
 ⟨(some 79), .fadr 1 (.t 11), none, []⟩,
 ⟨(some 80), .load1 (.t 79), none, []⟩,
 ⟨(some 81), .conv .u64 (.t 80), none, []⟩,
 ⟨(some 82), .bin .shr .u64 (.t 78) (.t 81), none, []⟩,
 ⟨(some 83), .conv .i64 (.t 82), none, []⟩,
 ⟨(some 14), .mv (.t 83), none, []⟩])
 (.seq (.seq (.ops [⟨(some 84), .mv (.t 10), none, []⟩])
 (.block 0 (.seq (.ops [⟨(some 86), .cmp .eql (.t 84) (.k (.lit .u8 0)), none, []⟩,
 ⟨(some 85), .mv (.t 86), none, []⟩])
 (.cond (.t 85) (.ops [⟨(some 87), .mv (.t 13), none, []⟩,
 ⟨(some 14), .mv (.t 87), none, []⟩]) (.seq (.ops [⟨(some 89), .cmp .eql (.t 84) (.k (.lit .u8 1)), none, []⟩,
 ⟨(some 88), .mv (.t 89), none, []⟩])
 (.cond (.t 88) (.ops [⟨(some 14), .mv (.k (.lit .i64 1)), none, []⟩]) (.skip)))))))
 (.seq (.seq (.ops [⟨(some 90), .fadr 0 (.t 11), none, []⟩,
 ⟨(some 91), .load1 (.t 90), none, []⟩,
 ⟨(some 92), .mv (.t 14), none, []⟩,
 ⟨(some 93), .bin .add .i64 (.t 91) (.t 92), none, []⟩,
 ⟨(some 8), .mv (.t 93), none, []⟩])
 (.seq (.ops [⟨(some 94), .mv (.t 0), none, []⟩,
 ⟨(some 95), .len (.t 94), none, []⟩,
 ⟨(some 96), .mv (.t 8), none, []⟩,
 ⟨(some 97), .cmp .lss (.t 95) (.t 96), none, []⟩])
 (.cond (.t 97) (.seq (.ops [⟨(some 6), .mv (.k (.val (.slice none 0 0))), none, []⟩,
 ⟨(some 7), .mv (.k (.val (.slice none 0 0))), none, []⟩,
 ⟨(some 8), .mv (.k (.lit .i64 0)), none, []⟩,
 ⟨(some 9), .mv (.k (.lit .i64 10)), none, []⟩])
 (.ret)) (.skip))))
 (.seq (.ops [⟨(some 98), .mv (.t 0), none, []⟩,
 ⟨(some 99), .fadr 0 (.t 11), none, []⟩,
 ⟨(some 100), .load1 (.t 99), none, []⟩,
 ⟨(some 101), .mv (.t 8), none, []⟩,
 ⟨(some 102), .mv (.t 8), none, []⟩,
 ⟨(some 103), .slc 1 (.t 98) (some (.t 100)) (some (.t 101)) (some (.t 102)), none, []⟩,
 ⟨(some 15), .mv (.t 103), none, []⟩])
 (.seq (.seq (.ops [⟨(some 104), .mv (.t 10), none, []⟩])
 (.block 1 (.seq (.ops [⟨(some 106), .cmp .eql (.t 104) (.k (.lit .u8 0)), none, []⟩,
 ⟨(some 105), .mv (.t 106), none, []⟩])
 (.cond (.t 105) (.seq (.ops [⟨(some 107), .bsliceI 5 .u8 0 [], none, []⟩,
 ⟨(some 108), .mv (.t 15), none, []⟩,
 ⟨(some 109), .appI 5 .u8 1 (.t 107) (.t 108), none, []⟩,
 ⟨(some 110), .mv (.t 1), none, []⟩,
 ⟨(some 111), .mv (.t 8), none, []⟩,
 ⟨(some 6), .mv (.t 109), none, []⟩,
 ⟨(some 7), .mv (.t 110), none, []⟩,
 ⟨(some 8), .mv (.t 111), none, []⟩,
 ⟨(some 9), .mv (.k (.lit .i64 0)), none, []⟩])
 (.ret)) (.seq (.ops [⟨(some 113), .cmp .eql (.t 104) (.k (.lit .u8 1)), none, []⟩,
 ⟨(some 112), .mv (.t 113), none, []⟩])
 (.cond (.t 112) (.seq (.ops [⟨(some 114), .mv (.t 15), none, []⟩,
 ⟨(some 115), .mv (.t 13), none, []⟩,
 ⟨(some 116), .call (.k (.fn 24 [])) [(.t 114), (.t 115)], none, []⟩,
 ⟨(some 117), .mv (.t 1), none, []⟩,
 ⟨(some 118), .mv (.t 8), none, []⟩,
 ⟨(some 6), .mv (.t 116), none, []⟩,
 ⟨(some 7), .mv (.t 117), none, []⟩,
 ⟨(some 8), .mv (.t 118), none, []⟩,
 ⟨(some 9), .mv (.k (.lit .i64 0)), none, []⟩])
 (.ret)) (.seq (.ops [⟨(some 120), .cmp .eql (.t 104) (.k (.lit .u8 2)), none, []⟩,
 ⟨(some 119), .mv (.t 120), none, []⟩])
 (.cond (.t 119) (.seq (.ops [⟨(some 122), .mv (.t 15), none, []⟩,
 ⟨(some 123), .call (.k (.fn 6 [])) [(.t 122)], none, []⟩,
 ⟨(some 121), .mv (.t 123), none, []⟩,
 ⟨(some 124), .extract (.t 121) 0, none, []⟩,
 ⟨(some 125), .extract (.t 121) 1, none, []⟩,
 ⟨(some 126), .extract (.t 121) 2, none, []⟩,
 ⟨(some 16), .mv (.t 124), none, []⟩,
 ⟨(some 17), .mv (.t 125), none, []⟩,
 ⟨(some 18), .mv (.t 126), none, []⟩])
 (.seq (.seq (.ops [⟨(some 127), .mv (.t 18), none, []⟩,
 ⟨(some 128), .cmp .neq (.t 127) (.k (.lit .i64 0)), none, []⟩])
 (.cond (.t 128) (.seq (.ops [⟨(some 6), .mv (.k (.val (.slice none 0 0))), none, []⟩,
 ⟨(some 7), .mv (.k (.val (.slice none 0 0))), none, []⟩,
 ⟨(some 8), .mv (.k (.lit .i64 0)), none, []⟩,
 ⟨(some 9), .mv (.k (.lit .i64 11)), none, []⟩])
 (.ret)) (.skip)))
 (.ops [⟨(some 129), .mv (.t 16), none, []⟩,
 ⟨(some 130), .mv (.t 15), none, []⟩,
 ⟨(some 131), .mv (.t 17), none, []⟩,
 ⟨(some 132), .slc 1 (.t 130) (some (.t 131)) none none, none, []⟩,
 ⟨(some 1), .mv (.t 129), none, []⟩,
 ⟨(some 15), .mv (.t 132), none, []⟩]))) (.skip)))))))))
 (.seq (.seq (.ops [⟨(some 134), .mv (.t 1), none, []⟩,
 ⟨(some 135), .mv (.t 15), none, []⟩,
 ⟨(some 136), .mv (.t 13), none, []⟩,
 ⟨(some 137), .fadr 2 (.t 11), none, []⟩,
 ⟨(some 138), .load1 (.t 137), none, []⟩,
 ⟨(some 139), .call (.k (.fn 25 [])) [(.t 134), (.t 135), (.t 136), (.t 138)], none, []⟩,
 ⟨(some 133), .mv (.t 139), none, []⟩,
 ⟨(some 140), .extract (.t 133) 0, none, []⟩,
 ⟨(some 141), .extract (.t 133) 1, none, []⟩,
 ⟨(some 6), .mv (.t 140), none, []⟩,
 ⟨(some 9), .mv (.t 141), none, []⟩])
 (.seq (.ops [⟨(some 142), .mv (.t 9), none, []⟩,
 ⟨(some 143), .cmp .neq (.t 142) (.k (.lit .i64 0)), none, []⟩])
 (.cond (.t 143) (.seq (.ops [⟨(some 6), .mv (.k (.val (.slice none 0 0))), none, []⟩,
 ⟨(some 7), .mv (.k (.val (.slice none 0 0))), none, []⟩,
 ⟨(some 8), .mv (.k (.lit .i64 0)), none, []⟩,
 ⟨(some 9), .mv (.k (.lit .i64 11)), none, []⟩])
 (.ret)) (.skip))))
 (.seq (.ops [⟨(some 144), .mv (.t 6), none, []⟩,
 ⟨(some 145), .mv (.t 1), none, []⟩,
 ⟨(some 146), .mv (.t 8), none, []⟩,
 ⟨(some 6), .mv (.t 144), none, []⟩,
 ⟨(some 7), .mv (.t 145), none, []⟩,
 ⟨(some 8), .mv (.t 146), none, []⟩,
 ⟨(some 9), .mv (.k (.lit .i64 0)), none, []⟩])
 (.ret))))))))))))))))))
theorem fn9 : FnOk Try.prog 9 x9 147 [6, 7, 8, 9] := FnOk.of Try.call9 Try.func9 (by kernel_rfl) Try.ntmps9 (by kernel_rfl)
/-- baler/balerref11.Read -/
def x10 : XC :=
 .seq (.ops [⟨(some 6), .mv (.k (.val (.slice none 0 0))), none, []⟩,
 ⟨(some 7), .mv (.k (.val (.slice none 0 0))), none, []⟩,
 ⟨(some 8), .mv (.k (.lit .i64 0)), none, []⟩,
 ⟨(some 9), .mv (.k (.lit .i64 0)), none, []⟩])
 (.seq (.seq (.ops [⟨(some 18), .mv (.t 2), none, []⟩,
 ⟨(some 19), .cmp .lss (.t 18) (.k (.lit .i64 0)), none, []⟩,
 ⟨(some 20), .mv (.t 19), none, []⟩,
 ⟨(some 21), .mv (.t 2), some (20, false), []⟩,
 ⟨(some 22), .cmp .gtr (.t 21) (.k (.lit .i64 131072)), some (20, false), []⟩,
 ⟨(some 23), .pick (.t 20) (.k (.bool true)) (.t 22), none, []⟩])
 (.cond (.t 23) (.seq (.ops [⟨(some 6), .mv (.k (.val (.slice none 0 0))), none, []⟩,
 ⟨(some 7), .mv (.k (.val (.slice none 0 0))), none, []⟩,
 ⟨(some 8), .mv (.k (.lit .i64 0)), none, []⟩,
 ⟨(some 9), .mv (.k (.lit .i64 2)), none, []⟩])
 (.ret)) (.skip)))
 (.seq (.seq (.ops [⟨(some 24), .mv (.t 0), none, []⟩,
 ⟨(some 25), .len (.t 24), none, []⟩,
 ⟨(some 26), .cmp .eql (.t 25) (.k (.lit .i64 0)), none, []⟩])
 (.cond (.t 26) (.seq (.ops [⟨(some 6), .mv (.k (.val (.slice none 0 0))), none, []⟩,
 ⟨(some 7), .mv (.k (.val (.slice none 0 0))), none, []⟩,
 ⟨(some 8), .mv (.k (.lit .i64 0)), none, []⟩,
 ⟨(some 9), .mv (.k (.lit .i64 10)), none, []⟩])
 (.ret)) (.skip)))
 (.seq (.ops [⟨(some 28), .mv (.t 0), none, []⟩,
 ⟨(some 29), .call (.k (.fn 26 [])) [(.t 28)], none, []⟩,
 ⟨(some 27), .mv (.t 29), none, []⟩,
 ⟨(some 30), .extract (.t 27) 0, none, []⟩,
 ⟨(some 31), .extract (.t 27) 1, none, []⟩,
 ⟨(some 10), .newR 56 [(.lit .i64 0), (.lit .i64 0), (.lit .i64 0), (.lit .i64 0), (.lit .i64 0)], none, []⟩,
 ⟨none, .storeA 5 (.t 10) (.t 30), none, []⟩,
 ⟨(some 11), .mv (.t 31), none, []⟩])
 (.seq (.seq (.ops [⟨(some 32), .mv (.t 11), none, []⟩,
 ⟨(some 33), .not (.t 32), none, []⟩])
 (.cond (.t 33) (.seq (.ops [⟨(some 6), .mv (.k (.val (.slice none 0 0))), none, []⟩,
 ⟨(some 7), .mv (.k (.val (.slice none 0 0))), none, []⟩,
 ⟨(some 8), .mv (.k (.lit .i64 0)), none, []⟩,
 ⟨(some 9), .mv (.k (.lit .i64 10)), none, []⟩])
 (.ret)) (.skip)))
 (.seq (.seq (.ops [⟨(some 34), .fadr 1 (.t 10), none, []⟩,
 ⟨(some 35), .load1 (.t 34), none, []⟩,
 ⟨(some 36), .mv (.t 2), none, []⟩,
 ⟨(some 37), .cmp .gtr (.t 35) (.t 36), none, []⟩])
 (.cond (.t 37) (.seq (.ops [⟨(some 6), .mv (.k (.val (.slice none 0 0))), none, []⟩,
 ⟨(some 7), .mv (.k (.val (.slice none 0 0))), none, []⟩,
 ⟨(some 8), .mv (.k (.lit .i64 0)), none, []⟩,
 ⟨(some 9), .mv (.k (.lit .i64 11)), none, []⟩])
 (.ret)) (.skip)))
 (.seq (.ops [⟨(some 38), .fadr 2 (.t 10), none, []⟩,
 ⟨(some 39), .load1 (.t 38), none, []⟩,
 ⟨(some 12), .mv (.t 39), none, []⟩])
 (.seq (.seq (.ops [⟨(some 40), .fadr 0 (.t 10), none, []⟩,
 ⟨(some 41), .load1 (.t 40), none, []⟩,
 ⟨(some 42), .cmp .eql (.t 41) (.k (.lit .i64 0)), none, []⟩])
 (.cond (.t 42) (.ops [⟨(some 43), .fadr 1 (.t 10), none, []⟩,
 ⟨(some 44), .load1 (.t 43), none, []⟩,
 ⟨(some 12), .mv (.t 44), none, []⟩]) (.skip)))
 (.seq (.seq (.ops [⟨(some 45), .fadr 0 (.t 10), none, []⟩,
 ⟨(some 46), .load1 (.t 45), none, []⟩,
 ⟨(some 47), .cmp .eql (.t 46) (.k (.lit .i64 1)), none, []⟩])
 (.cond (.t 47) (.ops [⟨(some 12), .mv (.k (.lit .i64 1)), none, []⟩]) (.skip)))
 (.seq (.seq (.ops [⟨(some 48), .mv (.t 0), none, []⟩,
 ⟨(some 49), .len (.t 48), none, []⟩,
 ⟨(some 50), .fadr 3 (.t 10), none, []⟩,
 ⟨(some 51), .load1 (.t 50), none, []⟩,
 ⟨(some 52), .bin .sub .i64 (.t 49) (.t 51), none, []⟩,
 ⟨(some 53), .mv (.t 12), none, []⟩,
 ⟨(some 54), .cmp .lss (.t 52) (.t 53), none, []⟩])
 (.cond (.t 54) (.seq (.ops [⟨(some 6), .mv (.k (.val (.slice none 0 0))), none, []⟩,
 ⟨(some 7), .mv (.k (.val (.slice none 0 0))), none, []⟩,
 ⟨(some 8), .mv (.k (.lit .i64 0)), none, []⟩,
 ⟨(some 9), .mv (.k (.lit .i64 10)), none, []⟩])
 (.ret)) (.skip)))
 (.seq (.ops [⟨(some 55), .fadr 3 (.t 10), none, []⟩,
 ⟨(some 56), .load1 (.t 55), none, []⟩,
 ⟨(some 57), .mv (.t 12), none, []⟩,
 ⟨(some 58), .bin .add .i64 (.t 56) (.t 57), none, []⟩,
 ⟨(some 8), .mv (.t 58), none, []⟩])
 (.seq (.ops [⟨(some 59), .mv (.t 0), none, []⟩,
 ⟨(some 60), .fadr 3 (.t 10), none, []⟩,
 ⟨(some 61), .load1 (.t 60), none, []⟩,
 ⟨(some 62), .mv (.t 8), none, []⟩,
 ⟨(some 63), .slc 1 (.t 59) (some (.t 61)) (some (.t 62)) none, none, []⟩,
 ⟨(some 13), .mv (.t 63), none, []⟩])
 (.seq (.seq (.ops [⟨(some 64), .fadr 0 (.t 10), none, []⟩,
 ⟨(some 65), .load1 (.t 64), none, []⟩])
 (.block 0 (.seq (.ops [⟨(some 67), .cmp .eql (.t 65) (.k (.lit .i64 0)), none, []⟩,
 ⟨(some 66), .mv (.t 67), none, []⟩])
 (.cond (.t 66) (.seq (.ops [⟨(some 68), .bsliceI 5 .u8 0 [], none, []⟩,
 ⟨(some 69), .mv (.t 13), none, []⟩,
 ⟨(some 70), .appI 5 .u8 1 (.t 68) (.t 69), none, []⟩,
 ⟨(some 71), .mv (.t 1), none, []⟩,
 ⟨(some 72), .mv (.t 8), none, []⟩,
 ⟨(some 6), .mv (.t 70), none, []⟩,
 ⟨(some 7), .mv (.t 71), none, []⟩,
 ⟨(some 8), .mv (.t 72), none, []⟩,
 ⟨(some 9), .mv (.k (.lit .i64 0)), none, []⟩])
 (.ret)) (.seq (.ops [⟨(some 74), .cmp .eql (.t 65) (.k (.lit .i64 1)), none, []⟩,
 ⟨(some 73), .mv (.t 74), none, []⟩])
 (.cond (.t 73) (.seq (.seq (.ops [⟨(some 14), .mv (.k (.lit .i64 0)), none, []⟩])
 (.block 1 (.loop (.seq (.seq (.ops [⟨(some 75), .mv (.t 14), none, []⟩,
 ⟨(some 76), .fadr 1 (.t 10), none, []⟩,
 ⟨(some 77), .load1 (.t 76), none, []⟩,
 ⟨(some 78), .cmp .lss (.t 75) (.t 77), none, []⟩])
 (.cond (.t 78) (.skip) (.exit 1)))
 (.seq (.block 2 (.ops [⟨(some 81), .mv (.t 6), none, []⟩,
 ⟨(some 82), .mv (.t 13), none, []⟩,
 ⟨(some 83), .iadr 1 (.t 82) (.k (.lit .i64 0)), none, []⟩,
 ⟨(some 84), .load1 (.t 83), none, []⟩,
 ⟨(some 85), .bsliceI 5 .u8 1 [⟨0, 1, (.t 84)⟩], none, []⟩,
 ⟨(some 86), .appI 5 .u8 1 (.t 81) (.t 85), none, []⟩,
 ⟨(some 6), .mv (.t 86), none, []⟩]))
 (.ops [⟨(some 79), .mv (.t 14), none, []⟩,
 ⟨(some 80), .bin .add .i64 (.t 79) (.k (.lit .i64 1)), none, []⟩,
 ⟨(some 14), .mv (.t 80), none, []⟩]))))))
 (.seq (.ops [⟨(some 87), .mv (.t 6), none, []⟩,
 ⟨(some 88), .mv (.t 1), none, []⟩,
 ⟨(some 89), .mv (.t 8), none, []⟩,
 ⟨(some 6), .mv (.t 87), none, []⟩,
 ⟨(some 7), .mv (.t 88), none, []⟩,
 ⟨(some 8), .mv (.t 89), none, []⟩,
 ⟨(some 9), .mv (.k (.lit .i64 0)), none, []⟩])
 (.ret))) (.seq (.ops [⟨(some 91), .cmp .eql (.t 65) (.k (.lit .i64 2)), none, []⟩,
 ⟨(some 90), .mv (.t 91), none, []⟩])
 (.cond (.t 90) (.seq (.ops [⟨(some 93), .mv (.t 13), none, []⟩,
 ⟨(some 94), .call (.k (.fn 7 [])) [(.t 93)], none, []⟩,
 ⟨(some 92), .mv (.t 94), none, []⟩,
 ⟨(some 95), .extract (.t 92) 0, none, []⟩,
 ⟨(some 96), .extract (.t 92) 1, none, []⟩,
 ⟨(some 97), .extract (.t 92) 2, none, []⟩,
 ⟨(some 15), .mv (.t 95), none, []⟩,
 ⟨(some 16), .mv (.t 96), none, []⟩,
 ⟨(some 17), .mv (.t 97), none, []⟩])
 (.seq (.seq (.ops [⟨(some 98), .mv (.t 17), none, []⟩,
 ⟨(some 99), .cmp .neq (.t 98) (.k (.lit .i64 0)), none, []⟩])
 (.cond (.t 99) (.seq (.ops [⟨(some 6), .mv (.k (.val (.slice none 0 0))), none, []⟩,
 ⟨(some 7), .mv (.k (.val (.slice none 0 0))), none, []⟩,
 ⟨(some 8), .mv (.k (.lit .i64 0)), none, []⟩,
 ⟨(some 9), .mv (.k (.lit .i64 11)), none, []⟩])
 (.ret)) (.skip)))
 (.seq (.ops [⟨(some 100), .mv (.t 15), none, []⟩,
 ⟨(some 1), .mv (.t 100), none, []⟩])
 (.ops [⟨(some 101), .mv (.t 13), none, []⟩,
 ⟨(some 102), .mv (.t 16), none, []⟩,
 ⟨(some 103), .slc 1 (.t 101) (some (.t 102)) none none, none, []⟩,
 ⟨(some 13), .mv (.t 103), none, []⟩])))) (.skip)))))))))
 (.seq (.seq (.ops [⟨(some 104), .mv (.t 1), none, []⟩,
 ⟨(some 105), .call (.k (.fn 27 [])) [(.t 104)], none, []⟩,
 ⟨(some 106), .cmp .eql (.t 105) (.k (.lit .i64 0)), none, []⟩])
 (.cond (.t 106) (.seq (.ops [⟨(some 6), .mv (.k (.val (.slice none 0 0))), none, []⟩,
 ⟨(some 7), .mv (.k (.val (.slice none 0 0))), none, []⟩,
 ⟨(some 8), .mv (.k (.lit .i64 0)), none, []⟩,
 ⟨(some 9), .mv (.k (.lit .i64 11)), none, []⟩])
 (.ret)) (.skip)))
 (.seq (.ops [⟨(some 108), .mv (.t 1), none, []⟩,
 ⟨(some 109), .mv (.t 13), none, []⟩,
 ⟨(some 110), .fadr 1 (.t 10), none, []⟩,
 ⟨(some 111), .load1 (.t 110), none, []⟩,
 ⟨(some 112), .fadr 4 (.t 10), none, []⟩,
 ⟨(some 113), .load1 (.t 112), none, []⟩,
 ⟨(some 114), .call (.k (.fn 28 [])) [(.t 108), (.t 109), (.t 111), (.t 113)], none, []⟩,
 ⟨(some 107), .mv (.t 114), none, []⟩,
 ⟨(some 115), .extract (.t 107) 0, none, []⟩,
 ⟨(some 116), .extract (.t 107) 1, none, []⟩,
 ⟨(some 6), .mv (.t 115), none, []⟩,
 ⟨(some 11), .mv (.t 116), none, []⟩])
 (.seq (.seq (.ops [⟨(some 117), .mv (.t 11), none, []⟩,
 ⟨(some 118), .not (.t 117), none, []⟩])
 (.cond (.t 118) (.seq (.ops [⟨(some 6), .mv (.k (.val (.slice none 0 0))), none, []⟩,
 ⟨(some 7), .mv (.k (.val (.slice none 0 0))), none, []⟩,
 ⟨(some 8), .mv (.k (.lit .i64 0)), none, []⟩,
 ⟨(some 9), .mv (.k (.lit .i64 11)), none, []⟩])
 (.ret)) (.skip)))
 (.seq (.ops [⟨(some 119), .mv (.t 6), none, []⟩,
 ⟨(some 120), .mv (.t 1), none, []⟩,
 ⟨(some 121), .mv (.t 8), none, []⟩,
 ⟨(some 6), .mv (.t 119), none, []⟩,
 ⟨(some 7), .mv (.t 120), none, []⟩,
 ⟨(some 8), .mv (.t 121), none, []⟩,
 ⟨(some 9), .mv (.k (.lit .i64 0)), none, []⟩])
 (.ret)))))))))))))))))
theorem fn10 : FnOk Try.prog 10 x10 122 [6, 7, 8, 9] := FnOk.of Try.call10 Try.func10 (by kernel_rfl) Try.ntmps10 (by kernel_rfl)
/-- baler/balerlaw11.wakes -/
def x11 : XC :=
 .seq (.ops [⟨(some 0), .mv (.k (.bool false)), none, []⟩])
 (.seq (.ops [⟨(some 14), .bsliceI 5 .u8 4 [⟨0, 1, (.k (.lit .u8 24))⟩, ⟨1, 1, (.k (.lit .u8 97))⟩, ⟨2, 1, (.k (.lit .u8 98))⟩, ⟨3, 1, (.k (.lit .u8 99))⟩], none, []⟩,
 ⟨(some 15), .call (.k (.fn 9 [])) [(.t 14), (.k (.val (.slice none 0 0))), (.k (.lit .i64 9))], none, []⟩,
 ⟨(some 13), .mv (.t 15), none, []⟩,
 ⟨(some 16), .extract (.t 13) 0, none, []⟩,
 ⟨(some 17), .extract (.t 13) 1, none, []⟩,
 ⟨(some 18), .extract (.t 13) 2, none, []⟩,
 ⟨(some 19), .extract (.t 13) 3, none, []⟩,
 ⟨(some 1), .mv (.t 16), none, []⟩,
 ⟨(some 2), .mv (.t 17), none, []⟩,
 ⟨(some 3), .mv (.t 18), none, []⟩,
 ⟨(some 4), .mv (.t 19), none, []⟩])
 (.seq (.ops [⟨(some 21), .bsliceI 5 .u8 2 [⟨0, 1, (.k (.lit .u8 41))⟩, ⟨1, 1, (.k (.lit .u8 97))⟩], none, []⟩,
 ⟨(some 22), .call (.k (.fn 9 [])) [(.t 21), (.k (.val (.slice none 0 0))), (.k (.lit .i64 9))], none, []⟩,
 ⟨(some 20), .mv (.t 22), none, []⟩,
 ⟨(some 23), .extract (.t 20) 0, none, []⟩,
 ⟨(some 24), .extract (.t 20) 1, none, []⟩,
 ⟨(some 25), .extract (.t 20) 2, none, []⟩,
 ⟨(some 26), .extract (.t 20) 3, none, []⟩,
 ⟨(some 5), .mv (.t 23), none, []⟩,
 ⟨(some 6), .mv (.t 24), none, []⟩,
 ⟨(some 7), .mv (.t 25), none, []⟩,
 ⟨(some 8), .mv (.t 26), none, []⟩])
 (.seq (.ops [⟨(some 28), .bsliceI 5 .u8 3 [⟨0, 1, (.k (.lit .u8 24))⟩, ⟨1, 1, (.k (.lit .u8 97))⟩, ⟨2, 1, (.k (.lit .u8 98))⟩], none, []⟩,
 ⟨(some 29), .call (.k (.fn 9 [])) [(.t 28), (.k (.val (.slice none 0 0))), (.k (.lit .i64 9))], none, []⟩,
 ⟨(some 27), .mv (.t 29), none, []⟩,
 ⟨(some 30), .extract (.t 27) 0, none, []⟩,
 ⟨(some 31), .extract (.t 27) 1, none, []⟩,
 ⟨(some 32), .extract (.t 27) 2, none, []⟩,
 ⟨(some 33), .extract (.t 27) 3, none, []⟩,
 ⟨(some 9), .mv (.t 30), none, []⟩,
 ⟨(some 10), .mv (.t 31), none, []⟩,
 ⟨(some 11), .mv (.t 32), none, []⟩,
 ⟨(some 12), .mv (.t 33), none, []⟩])
 (.seq (.ops [⟨(some 34), .mv (.t 4), none, []⟩,
 ⟨(some 35), .cmp .eql (.t 34) (.k (.lit .i64 0)), none, []⟩,
 ⟨(some 36), .mv (.t 35), none, []⟩,
 ⟨(some 37), .mv (.t 1), some (36, true), []⟩,
 ⟨(some 38), .bstr (.t 37), some (36, true), []⟩,
 ⟨(some 39), .eqv false 1 (.t 38) (.k (.str [97, 98, 99])), some (36, true), []⟩,
 ⟨(some 40), .pick (.t 36) (.t 39) (.k (.bool false)), none, []⟩,
 ⟨(some 41), .mv (.t 40), none, []⟩,
 ⟨(some 42), .mv (.t 3), some (41, true), []⟩,
 ⟨(some 43), .cmp .eql (.t 42) (.k (.lit .i64 4)), some (41, true), []⟩,
 ⟨(some 44), .pick (.t 41) (.t 43) (.k (.bool false)), none, []⟩,
 ⟨(some 45), .mv (.t 44), none, []⟩,
 ⟨(some 46), .mv (.t 8), some (45, true), []⟩,
 ⟨(some 47), .cmp .eql (.t 46) (.k (.lit .i64 0)), some (45, true), []⟩,
 ⟨(some 48), .pick (.t 45) (.t 47) (.k (.bool false)), none, []⟩,
 ⟨(some 49), .mv (.t 48), none, []⟩,
 ⟨(some 50), .mv (.t 5), some (49, true), []⟩,
 ⟨(some 51), .bstr (.t 50), some (49, true), []⟩,
 ⟨(some 52), .eqv false 1 (.t 51) (.k (.str [97, 97, 97, 97, 97])), some (49, true), []⟩,
 ⟨(some 53), .pick (.t 49) (.t 52) (.k (.bool false)), none, []⟩,
 ⟨(some 54), .mv (.t 53), none, []⟩,
 ⟨(some 55), .mv (.t 7), some (54, true), []⟩,
 ⟨(some 56), .cmp .eql (.t 55) (.k (.lit .i64 2)), some (54, true), []⟩,
 ⟨(some 57), .pick (.t 54) (.t 56) (.k (.bool false)), none, []⟩,
 ⟨(some 58), .mv (.t 57), none, []⟩,
 ⟨(some 59), .mv (.t 12), some (58, true), []⟩,
 ⟨(some 60), .cmp .eql (.t 59) (.k (.lit .i64 10)), some (58, true), []⟩,
 ⟨(some 61), .pick (.t 58) (.t 60) (.k (.bool false)), none, []⟩,
 ⟨(some 0), .mv (.t 61), none, []⟩])
 (.ret)))))
theorem fn11 : FnOk Try.prog 11 x11 62 [0] := FnOk.of Try.call11 Try.func11 (by kernel_rfl) Try.ntmps11 (by kernel_rfl)
/-- baler/weights.byStates -/
def x16 : XC :=
 .seq (.ops [⟨(some 2), .mv (.k (.val (.slice none 0 0))), none, []⟩,
 ⟨(some 3), .mv (.k (.bool false)), none, []⟩])
 (.seq (.ops [⟨(some 15), .mv (.t 0), none, []⟩,
 ⟨(some 16), .call (.k (.fn 43 [])) [(.t 15), (.k (.lit .i64 6)), (.k (.lit .i64 11))], none, []⟩,
 ⟨(some 14), .mv (.t 16), none, []⟩,
 ⟨(some 17), .extract (.t 14) 0, none, []⟩,
 ⟨(some 18), .extract (.t 14) 1, none, []⟩,
 ⟨(some 19), .extract (.t 14) 2, none, []⟩,
 ⟨(some 20), .extract (.t 14) 3, none, []⟩,
 ⟨(some 4), .mv (.t 17), none, []⟩,
 ⟨(some 5), .mv (.t 18), none, []⟩,
 ⟨(some 6), .mv (.t 19), none, []⟩,
 ⟨(some 7), .mv (.t 20), none, []⟩])
 (.seq (.seq (.ops [⟨(some 21), .mv (.t 7), none, []⟩,
 ⟨(some 22), .cmp .neq (.t 21) (.k (.lit .i64 0)), none, []⟩])
 (.cond (.t 22) (.seq (.ops [⟨(some 2), .mv (.k (.val (.slice none 0 0))), none, []⟩,
 ⟨(some 3), .mv (.k (.bool false)), none, []⟩])
 (.ret)) (.skip)))
 (.seq (.ops [⟨(some 24), .mv (.t 4), none, []⟩,
 ⟨(some 25), .mv (.t 5), none, []⟩,
 ⟨(some 26), .call (.k (.fn 44 [])) [(.t 24), (.t 25)], none, []⟩,
 ⟨(some 23), .mv (.t 26), none, []⟩,
 ⟨(some 27), .extract (.t 23) 0, none, []⟩,
 ⟨(some 28), .extract (.t 23) 1, none, []⟩,
 ⟨(some 8), .mv (.t 27), none, []⟩,
 ⟨(some 7), .mv (.t 28), none, []⟩])
 (.seq (.seq (.ops [⟨(some 29), .mv (.t 7), none, []⟩,
 ⟨(some 30), .cmp .neq (.t 29) (.k (.lit .i64 0)), none, []⟩])
 (.cond (.t 30) (.seq (.ops [⟨(some 2), .mv (.k (.val (.slice none 0 0))), none, []⟩,
 ⟨(some 3), .mv (.k (.bool false)), none, []⟩])
 (.ret)) (.skip)))
 (.seq (.ops [⟨(some 32), .mv (.t 0), none, []⟩,
 ⟨(some 33), .mv (.t 6), none, []⟩,
 ⟨(some 34), .slc 1 (.t 32) (some (.t 33)) none none, none, []⟩,
 ⟨(some 35), .call (.k (.fn 40 [])) [(.t 34)], none, []⟩,
 ⟨(some 31), .mv (.t 35), none, []⟩,
 ⟨(some 36), .extract (.t 31) 0, none, []⟩,
 ⟨(some 37), .extract (.t 31) 1, none, []⟩,
 ⟨(some 9), .mv (.t 36), none, []⟩,
 ⟨(some 7), .mv (.t 37), none, []⟩])
 (.seq (.seq (.ops [⟨(some 38), .mv (.t 7), none, []⟩,
 ⟨(some 39), .cmp .neq (.t 38) (.k (.lit .i64 0)), none, []⟩])
 (.cond (.t 39) (.seq (.ops [⟨(some 2), .mv (.k (.val (.slice none 0 0))), none, []⟩,
 ⟨(some 3), .mv (.k (.bool false)), none, []⟩])
 (.ret)) (.skip)))
 (.seq (.ops [⟨(some 40), .mv (.t 9), none, []⟩,
 ⟨(some 41), .mv (.t 5), none, []⟩,
 ⟨(some 42), .call (.k (.fn 41 [])) [(.t 40), (.t 41)], none, []⟩,
 ⟨(some 43), .conv .i64 (.t 42), none, []⟩,
 ⟨(some 44), .mv (.t 9), none, []⟩,
 ⟨(some 45), .mv (.t 5), none, []⟩,
 ⟨(some 46), .call (.k (.fn 41 [])) [(.t 44), (.t 45)], none, []⟩,
 ⟨(some 47), .conv .i64 (.t 46), none, []⟩,
 ⟨(some 10), .mv (.t 43), none, []⟩,
 ⟨(some 11), .mv (.t 47), none, []⟩])
 (.seq (.ops [⟨(some 12), .mv (.k (.val (.slice none 0 0))), none, []⟩])
 (.seq (.seq (.ops [⟨(some 48), .mv (.t 9), none, []⟩,
 ⟨(some 49), .call (.k (.fn 42 [])) [(.t 48)], none, []⟩,
 ⟨(some 50), .cmp .lss (.t 49) (.k (.lit .i64 0)), none, []⟩])
 (.cond (.t 50) (.seq (.ops [⟨(some 2), .mv (.k (.val (.slice none 0 0))), none, []⟩,
 ⟨(some 3), .mv (.k (.bool false)), none, []⟩])
 (.ret)) (.skip)))
 (.seq (.block 0 (.loop (.seq (.seq (.ops [⟨(some 51), .mv (.t 12), none, []⟩,
 ⟨(some 52), .len (.t 51), none, []⟩,
 ⟨(some 53), .cmp .leq (.t 52) (.k (.lit .i64 255)), none, []⟩])
 (.cond (.t 53) (.skip) (.exit 0)))
 (.block 1 (.seq (.ops [⟨(some 54), .mv (.t 8), none, []⟩,
 ⟨(some 55), .mv (.t 10), none, []⟩,
 ⟨(some 56), .iadr 3 (.t 54) (.t 55), none, []⟩,
 ⟨(some 57), .loadA 3 (.t 56), none, []⟩,
 ⟨(some 13), .newR 86 [(.lit .u8 0), (.lit .u8 0), (.lit .u16 0)], none, []⟩,
 ⟨none, .storeA 3 (.t 13) (.t 57), none, []⟩])
 (.seq (.ops [⟨(some 58), .mv (.t 12), none, []⟩,
 ⟨(some 59), .fadr 0 (.t 13), none, []⟩,
 ⟨(some 60), .load1 (.t 59), none, []⟩,
 ⟨(some 61), .bsliceI 5 .u8 1 [⟨0, 1, (.t 60)⟩], none, []⟩,
 ⟨(some 62), .appI 5 .u8 1 (.t 58) (.t 61), none, []⟩,
 ⟨(some 12), .mv (.t 62), none, []⟩])
 (.seq (.ops [⟨(some 63), .mv (.t 11), none, []⟩,
 ⟨(some 64), .fadr 2 (.t 13), none, []⟩,
 ⟨(some 65), .load1 (.t 64), none, []⟩,
 ⟨(some 66), .conv .i64 (.t 65), none, []⟩,
 ⟨(some 67), .mv (.t 9), none, []⟩,
 ⟨(some 68), .fadr 1 (.t 13), none, []⟩,
 ⟨(some 69), .load1 (.t 68), none, []⟩,
 ⟨(some 70), .conv .i64 (.t 69), none, []⟩,
 ⟨(some 71), .call (.k (.fn 41 [])) [(.t 67), (.t 70)], none, [(.load1 (.t 68), 69, none), (.load1 (.t 64), 65, none)]⟩,
 ⟨(some 72), .conv .i64 (.t 71), none, []⟩,
 ⟨(some 73), .bin .add .i64 (.t 66) (.t 72), none, []⟩,
 ⟨(some 10), .mv (.t 63), none, []⟩,
 ⟨(some 11), .mv (.t 73), none, []⟩])
 (.seq (.ops [⟨(some 74), .mv (.t 9), none, []⟩,
 ⟨(some 75), .call (.k (.fn 42 [])) [(.t 74)], none, []⟩,
 ⟨(some 76), .cmp .lss (.t 75) (.k (.lit .i64 0)), none, []⟩])
 (.cond (.t 76) (.seq (.ops [⟨(some 77), .mv (.t 12), none, []⟩,
 ⟨(some 78), .mv (.t 8), none, []⟩,
 ⟨(some 79), .mv (.t 10), none, []⟩,
 ⟨(some 80), .iadr 3 (.t 78) (.t 79), none, []⟩,
 ⟨(some 81), .fadr 0 (.t 80), none, []⟩,
 ⟨(some 82), .load1 (.t 81), none, []⟩,
 ⟨(some 83), .bsliceI 5 .u8 1 [⟨0, 1, (.t 82)⟩], none, []⟩,
 ⟨(some 84), .appI 5 .u8 1 (.t 77) (.t 83), none, []⟩,
 ⟨(some 2), .mv (.t 84), none, []⟩,
 ⟨(some 3), .mv (.k (.bool true)), none, []⟩])
 (.ret)) (.skip))))))))))
 (.seq (.ops [⟨(some 2), .mv (.k (.val (.slice none 0 0))), none, []⟩,
 ⟨(some 3), .mv (.k (.bool false)), none, []⟩])
 (.ret))))))))))))
theorem fn16 : FnOk Try.prog 16 x16 85 [2, 3] := FnOk.of Try.call16 Try.func16 (by kernel_rfl) Try.ntmps16 (by kernel_rfl)
/-- baler/weights.ends -/
def x17 : XC :=
 .seq (.ops [⟨(some 2), .mv (.k (.val (.slice none 0 0))), none, []⟩,
 ⟨(some 3), .mv (.k (.bool false)), none, []⟩])
 (.seq (.ops [⟨(some 4), .mv (.k (.lit .u64 0)), none, []⟩])
 (.seq (.seq (.ops [⟨(some 9), .mv (.t 0), none, []⟩,
 ⟨(some 10), .len (.t 9), none, []⟩,
 ⟨(some 11), .mv (.k (.lit .i64 0)), none, []⟩])
 (.block 0 (.loop (.seq (.ops [⟨(some 12), .cmp .lss (.t 11) (.t 10), none, []⟩])
 (.seq (.cond (.t 12) (.skip) (.exit 0))
 (.seq (.block 1 (.seq (.ops [⟨(some 13), .iadr 1 (.t 9) (.t 11), none, []⟩,
 ⟨(some 14), .load1 (.t 13), none, []⟩,
 ⟨(some 6), .mv (.t 14), none, []⟩])
 (.seq (.seq (.ops [⟨(some 15), .mv (.t 6), none, []⟩,
 ⟨(some 16), .cmp .gtr (.t 15) (.k (.lit .u8 11)), none, []⟩])
 (.cond (.t 16) (.seq (.ops [⟨(some 2), .mv (.k (.val (.slice none 0 0))), none, []⟩,
 ⟨(some 3), .mv (.k (.bool false)), none, []⟩])
 (.ret)) (.skip)))
 (.ops [⟨(some 17), .mv (.t 4), none, []⟩,
 ⟨(some 18), .mv (.t 6), none, []⟩,
 ⟨(some 19), .bin .shl .u64 (.k (.lit .u64 1)) (.t 18), none, []⟩,
 ⟨(some 20), .bin .shr .u64 (.t 19) (.k (.lit .u64 1)), none, []⟩,
 ⟨(some 21), .bin .add .u64 (.t 17) (.t 20), none, []⟩,
 ⟨(some 4), .mv (.t 21), none, []⟩]))))
 (.ops [⟨(some 22), .bin .add .i64 (.t 11) (.k (.lit .i64 1)), none, []⟩,
 ⟨(some 11), .mv (.t 22), none, []⟩])))))))
 (.seq (.seq (.ops [⟨(some 23), .mv (.t 4), none, []⟩,
 ⟨(some 24), .cmp .eql (.t 23) (.k (.lit .u64 0)), none, []⟩,
 ⟨(some 25), .mv (.t 24), none, []⟩,
 ⟨(some 26), .mv (.t 0), some (25, false), []⟩,
 ⟨(some 27), .len (.t 26), some (25, false), []⟩,
 ⟨(some 28), .cmp .gtr (.t 27) (.k (.lit .i64 255)), some (25, false), []⟩,
 ⟨(some 29), .pick (.t 25) (.k (.bool true)) (.t 28), none, []⟩])
 (.cond (.t 29) (.seq (.ops [⟨(some 2), .mv (.k (.val (.slice none 0 0))), none, []⟩,
 ⟨(some 3), .mv (.k (.bool false)), none, []⟩])
 (.ret)) (.skip)))
 (.seq (.ops [⟨(some 30), .mv (.t 4), none, []⟩,
 ⟨(some 31), .call (.k (.fn 45 [])) [(.t 30)], none, []⟩,
 ⟨(some 32), .conv .u64 (.t 31), none, []⟩,
 ⟨(some 33), .bin .shl .u64 (.k (.lit .u64 1)) (.t 32), none, []⟩,
 ⟨(some 34), .mv (.t 4), none, []⟩,
 ⟨(some 35), .bin .sub .u64 (.t 33) (.t 34), none, []⟩,
 ⟨(some 7), .mv (.t 35), none, []⟩])
 (.seq (.seq (.ops [⟨(some 36), .mv (.t 7), none, []⟩,
 ⟨(some 37), .mv (.t 7), none, []⟩,
 ⟨(some 38), .bin .sub .u64 (.t 37) (.k (.lit .u64 1)), none, []⟩,
 ⟨(some 39), .bin .and .u64 (.t 36) (.t 38), none, []⟩,
 ⟨(some 40), .cmp .neq (.t 39) (.k (.lit .u64 0)), none, []⟩])
 (.cond (.t 40) (.seq (.ops [⟨(some 2), .mv (.k (.val (.slice none 0 0))), none, []⟩,
 ⟨(some 3), .mv (.k (.bool false)), none, []⟩])
 (.ret)) (.skip)))
 (.seq (.ops [⟨(some 41), .mv (.t 0), none, []⟩,
 ⟨(some 42), .mv (.t 7), none, []⟩,
 ⟨(some 43), .call (.k (.fn 45 [])) [(.t 42)], none, []⟩,
 ⟨(some 44), .conv .u8 (.t 43), none, []⟩,
 ⟨(some 45), .bsliceI 5 .u8 1 [⟨0, 1, (.t 44)⟩], none, []⟩,
 ⟨(some 46), .appI 5 .u8 1 (.t 41) (.t 45), none, []⟩,
 ⟨(some 8), .mv (.t 46), none, []⟩])
 (.seq (.ops [⟨(some 47), .mv (.t 8), none, []⟩,
 ⟨(some 48), .mv (.t 8), none, []⟩,
 ⟨(some 49), .call (.k (.fn 46 [])) [(.t 48)], none, []⟩,
 ⟨(some 50), .cmp .gtr (.t 49) (.k (.lit .i64 0)), none, []⟩,
 ⟨(some 2), .mv (.t 47), none, []⟩,
 ⟨(some 3), .mv (.t 50), none, []⟩])
 (.ret))))))))
theorem fn17 : FnOk Try.prog 17 x17 51 [2, 3] := FnOk.of Try.call17 Try.func17 (by kernel_rfl) Try.ntmps17 (by kernel_rfl)
/-- baler/balerref09.states -/
def x18 : XC :=
 .seq (.ops [⟨(some 2), .mv (.k (.val (.slice none 0 0))), none, []⟩,
 ⟨(some 3), .mv (.k (.bool false)), none, []⟩])
 (.seq (.ops [⟨(some 16), .mv (.t 0), none, []⟩,
 ⟨(some 17), .call (.k (.fn 47 [])) [(.t 16), (.k (.lit .i64 6)), (.k (.lit .i64 11))], none, []⟩,
 ⟨(some 15), .mv (.t 17), none, []⟩,
 ⟨(some 18), .extract (.t 15) 0, none, []⟩,
 ⟨(some 19), .extract (.t 15) 1, none, []⟩,
 ⟨(some 20), .extract (.t 15) 2, none, []⟩,
 ⟨(some 21), .extract (.t 15) 3, none, []⟩,
 ⟨(some 4), .mv (.t 18), none, []⟩,
 ⟨(some 5), .mv (.t 19), none, []⟩,
 ⟨(some 6), .mv (.t 20), none, []⟩,
 ⟨(some 7), .mv (.t 21), none, []⟩])
 (.seq (.seq (.ops [⟨(some 22), .mv (.t 7), none, []⟩,
 ⟨(some 23), .cmp .neq (.t 22) (.k (.lit .i64 0)), none, []⟩])
 (.cond (.t 23) (.seq (.ops [⟨(some 2), .mv (.k (.val (.slice none 0 0))), none, []⟩,
 ⟨(some 3), .mv (.k (.bool false)), none, []⟩])
 (.ret)) (.skip)))
 (.seq (.ops [⟨(some 25), .mv (.t 4), none, []⟩,
 ⟨(some 26), .mv (.t 5), none, []⟩,
 ⟨(some 27), .call (.k (.fn 48 [])) [(.t 25), (.t 26)], none, []⟩,
 ⟨(some 24), .mv (.t 27), none, []⟩,
 ⟨(some 28), .extract (.t 24) 0, none, []⟩,
 ⟨(some 29), .extract (.t 24) 1, none, []⟩,
 ⟨(some 8), .mv (.t 28), none, []⟩,
 ⟨(some 7), .mv (.t 29), none, []⟩])
 (.seq (.ops [⟨(some 31), .mv (.t 0), none, []⟩,
 ⟨(some 32), .mv (.t 6), none, []⟩,
 ⟨(some 33), .slc 1 (.t 31) (some (.t 32)) none none, none, []⟩,
 ⟨(some 34), .call (.k (.fn 49 [])) [(.t 33)], none, []⟩,
 ⟨(some 30), .mv (.t 34), none, []⟩,
 ⟨(some 35), .extract (.t 30) 0, none, []⟩,
 ⟨(some 36), .extract (.t 30) 1, none, []⟩,
 ⟨(some 9), .mv (.t 35), none, []⟩,
 ⟨(some 10), .mv (.t 36), none, []⟩])
 (.seq (.seq (.ops [⟨(some 37), .mv (.t 7), none, []⟩,
 ⟨(some 38), .cmp .neq (.t 37) (.k (.lit .i64 0)), none, []⟩,
 ⟨(some 39), .mv (.t 38), none, []⟩,
 ⟨(some 40), .mv (.t 10), some (39, false), []⟩,
 ⟨(some 41), .cmp .neq (.t 40) (.k (.lit .i64 0)), some (39, false), []⟩,
 ⟨(some 42), .pick (.t 39) (.k (.bool true)) (.t 41), none, []⟩])
 (.cond (.t 42) (.seq (.ops [⟨(some 2), .mv (.k (.val (.slice none 0 0))), none, []⟩,
 ⟨(some 3), .mv (.k (.bool false)), none, []⟩])
 (.ret)) (.skip)))
 (.seq (.ops [⟨(some 11), .newI 112 .i64 2, none, []⟩])
 (.seq (.ops [⟨(some 43), .mv (.t 9), none, []⟩,
 ⟨(some 44), .mv (.t 5), none, []⟩,
 ⟨(some 45), .call (.k (.fn 50 [])) [(.t 43), (.t 44)], none, []⟩,
 ⟨(some 46), .conv .i64 (.t 45), none, []⟩,
 ⟨(some 47), .iadrA 2 1 (.t 11) (.k (.lit .i64 0)), none, []⟩,
 ⟨none, .store1 (.t 47) (.t 46), none, []⟩])
 (.seq (.ops [⟨(some 48), .mv (.t 9), none, []⟩,
 ⟨(some 49), .mv (.t 5), none, []⟩,
 ⟨(some 50), .call (.k (.fn 50 [])) [(.t 48), (.t 49)], none, []⟩,
 ⟨(some 51), .conv .i64 (.t 50), none, []⟩,
 ⟨(some 52), .iadrA 2 1 (.t 11) (.k (.lit .i64 1)), none, []⟩,
 ⟨none, .store1 (.t 52) (.t 51), none, []⟩])
 (.seq (.seq (.ops [⟨(some 53), .mv (.t 9), none, []⟩,
 ⟨(some 54), .nilchk (.t 53), none, []⟩,
 ⟨(some 55), .fadr 1 (.t 54), none, []⟩,
 ⟨(some 56), .load1 (.t 55), none, []⟩,
 ⟨(some 57), .cmp .lss (.t 56) (.k (.lit .i64 0)), none, []⟩])
 (.cond (.t 57) (.seq (.ops [⟨(some 2), .mv (.k (.val (.slice none 0 0))), none, []⟩,
 ⟨(some 3), .mv (.k (.bool false)), none, []⟩])
 (.ret)) (.skip)))
 (.seq (.ops [⟨(some 12), .mv (.k (.val (.slice none 0 0))), none, []⟩])
 (.seq (.seq (.ops [⟨(some 13), .mv (.k (.lit .i64 0)), none, []⟩])
 (.block 0 (.loop (.seq (.seq (.ops [⟨(some 58), .mv (.t 12), none, []⟩,
 ⟨(some 59), .len (.t 58), none, []⟩,
 ⟨(some 60), .cmp .leq (.t 59) (.k (.lit .i64 256)), none, []⟩])
 (.cond (.t 60) (.skip) (.exit 0)))
 (.seq (.block 1 (.seq (.ops [⟨(some 63), .mv (.t 8), none, []⟩,
 ⟨(some 64), .mv (.t 13), none, []⟩,
 ⟨(some 65), .iadrA 2 1 (.t 11) (.t 64), none, []⟩,
 ⟨(some 66), .load1 (.t 65), none, []⟩,
 ⟨(some 67), .iadr 3 (.t 63) (.t 66), none, []⟩,
 ⟨(some 68), .loadA 3 (.t 67), none, []⟩,
 ⟨(some 14), .newR 86 [(.lit .u8 0), (.lit .u8 0), (.lit .u16 0)], none, []⟩,
 ⟨none, .storeA 3 (.t 14) (.t 68), none, []⟩])
 (.seq (.ops [⟨(some 69), .mv (.t 12), none, []⟩,
 ⟨(some 70), .fadr 0 (.t 14), none, []⟩,
 ⟨(some 71), .load1 (.t 70), none, []⟩,
 ⟨(some 72), .bsliceI 5 .u8 1 [⟨0, 1, (.t 71)⟩], none, []⟩,
 ⟨(some 73), .appI 5 .u8 1 (.t 69) (.t 72), none, []⟩,
 ⟨(some 12), .mv (.t 73), none, []⟩])
 (.seq (.ops [⟨(some 74), .mv (.t 13), none, []⟩,
 ⟨(some 75), .fadr 2 (.t 14), none, []⟩,
 ⟨(some 76), .load1 (.t 75), none, []⟩,
 ⟨(some 77), .conv .i64 (.t 76), none, []⟩,
 ⟨(some 78), .mv (.t 9), none, []⟩,
 ⟨(some 79), .fadr 1 (.t 14), none, []⟩,
 ⟨(some 80), .load1 (.t 79), none, []⟩,
 ⟨(some 81), .conv .i64 (.t 80), none, []⟩,
 ⟨(some 82), .call (.k (.fn 50 [])) [(.t 78), (.t 81)], none, [(.load1 (.t 79), 80, none), (.load1 (.t 75), 76, none)]⟩,
 ⟨(some 83), .conv .i64 (.t 82), none, []⟩,
 ⟨(some 84), .bin .add .i64 (.t 77) (.t 83), none, []⟩,
 ⟨(some 85), .iadrA 2 1 (.t 11) (.t 74), none, []⟩,
 ⟨none, .store1 (.t 85) (.t 84), none, []⟩])
 (.seq (.ops [⟨(some 86), .mv (.t 9), none, []⟩,
 ⟨(some 87), .nilchk (.t 86), none, []⟩,
 ⟨(some 88), .fadr 1 (.t 87), none, []⟩,
 ⟨(some 89), .load1 (.t 88), none, []⟩,
 ⟨(some 90), .cmp .lss (.t 89) (.k (.lit .i64 0)), none, []⟩])
 (.cond (.t 90) (.seq (.ops [⟨(some 91), .mv (.t 12), none, []⟩,
 ⟨(some 92), .mv (.t 8), none, []⟩,
 ⟨(some 93), .mv (.t 13), none, []⟩,
 ⟨(some 94), .bin .sub .i64 (.k (.lit .i64 1)) (.t 93), none, []⟩,
 ⟨(some 95), .iadrA 2 1 (.t 11) (.t 94), none, []⟩,
 ⟨(some 96), .load1 (.t 95), none, []⟩,
 ⟨(some 97), .iadr 3 (.t 92) (.t 96), none, []⟩,
 ⟨(some 98), .fadr 0 (.t 97), none, []⟩,
 ⟨(some 99), .load1 (.t 98), none, []⟩,
 ⟨(some 100), .bsliceI 5 .u8 1 [⟨0, 1, (.t 99)⟩], none, []⟩,
 ⟨(some 101), .appI 5 .u8 1 (.t 91) (.t 100), none, []⟩,
 ⟨(some 2), .mv (.t 101), none, []⟩,
 ⟨(some 3), .mv (.k (.bool true)), none, []⟩])
 (.ret)) (.skip)))))))
 (.ops [⟨(some 61), .mv (.t 13), none, []⟩,
 ⟨(some 62), .bin .sub .i64 (.k (.lit .i64 1)) (.t 61), none, []⟩,
 ⟨(some 13), .mv (.t 62), none, []⟩]))))))
 (.seq (.ops [⟨(some 2), .mv (.k (.val (.slice none 0 0))), none, []⟩,
 ⟨(some 3), .mv (.k (.bool false)), none, []⟩])
 (.ret)))))))))))))
theorem fn18 : FnOk Try.prog 18 x18 102 [2, 3] := FnOk.of Try.call18 Try.func18 (by kernel_rfl) Try.ntmps18 (by kernel_rfl)
/-- baler/balerref09.whole -/
def x19 : XC :=
 .seq (.ops [⟨(some 2), .mv (.k (.val (.slice none 0 0))), none, []⟩,
 ⟨(some 3), .mv (.k (.bool false)), none, []⟩])
 (.seq (.seq (.ops [⟨(some 9), .mv (.t 0), none, []⟩,
 ⟨(some 10), .len (.t 9), none, []⟩,
 ⟨(some 11), .cmp .gtr (.t 10) (.k (.lit .i64 255)), none, []⟩])
 (.cond (.t 11) (.seq (.ops [⟨(some 2), .mv (.k (.val (.slice none 0 0))), none, []⟩,
 ⟨(some 3), .mv (.k (.bool false)), none, []⟩])
 (.ret)) (.skip)))
 (.seq (.ops [⟨(some 4), .mv (.k (.lit .i64 0)), none, []⟩])
 (.seq (.seq (.ops [⟨(some 5), .mv (.k (.lit .i64 0)), none, []⟩])
 (.block 0 (.loop (.seq (.seq (.ops [⟨(some 12), .mv (.t 5), none, []⟩,
 ⟨(some 13), .mv (.t 0), none, []⟩,
 ⟨(some 14), .len (.t 13), none, []⟩,
 ⟨(some 15), .cmp .lss (.t 12) (.t 14), none, []⟩])
 (.cond (.t 15) (.skip) (.exit 0)))
 (.seq (.block 1 (.seq (.seq (.ops [⟨(some 18), .mv (.t 0), none, []⟩,
 ⟨(some 19), .mv (.t 5), none, []⟩,
 ⟨(some 20), .iadr 1 (.t 18) (.t 19), none, []⟩,
 ⟨(some 21), .load1 (.t 20), none, []⟩,
 ⟨(some 22), .cmp .gtr (.t 21) (.k (.lit .u8 11)), none, []⟩])
 (.cond (.t 22) (.seq (.ops [⟨(some 2), .mv (.k (.val (.slice none 0 0))), none, []⟩,
 ⟨(some 3), .mv (.k (.bool false)), none, []⟩])
 (.ret)) (.skip)))
 (.seq (.ops [⟨(some 23), .mv (.t 0), none, []⟩,
 ⟨(some 24), .mv (.t 5), none, []⟩,
 ⟨(some 25), .iadr 1 (.t 23) (.t 24), none, []⟩,
 ⟨(some 26), .load1 (.t 25), none, []⟩,
 ⟨(some 27), .cmp .gtr (.t 26) (.k (.lit .u8 0)), none, []⟩])
 (.cond (.t 27) (.ops [⟨(some 28), .mv (.t 4), none, []⟩,
 ⟨(some 29), .mv (.t 0), none, []⟩,
 ⟨(some 30), .mv (.t 5), none, []⟩,
 ⟨(some 31), .iadr 1 (.t 29) (.t 30), none, []⟩,
 ⟨(some 32), .load1 (.t 31), none, []⟩,
 ⟨(some 33), .bin .sub .u8 (.t 32) (.k (.lit .u8 1)), none, []⟩,
 ⟨(some 34), .conv .u64 (.t 33), none, []⟩,
 ⟨(some 35), .bin .shl .i64 (.k (.lit .i64 1)) (.t 34), none, []⟩,
 ⟨(some 36), .bin .add .i64 (.t 28) (.t 35), none, []⟩,
 ⟨(some 4), .mv (.t 36), none, []⟩]) (.skip)))))
 (.ops [⟨(some 16), .mv (.t 5), none, []⟩,
 ⟨(some 17), .bin .add .i64 (.t 16) (.k (.lit .i64 1)), none, []⟩,
 ⟨(some 5), .mv (.t 17), none, []⟩]))))))
 (.seq (.seq (.ops [⟨(some 37), .mv (.t 4), none, []⟩,
 ⟨(some 38), .cmp .eql (.t 37) (.k (.lit .i64 0)), none, []⟩,
 ⟨(some 39), .mv (.t 38), none, []⟩,
 ⟨(some 40), .mv (.t 4), some (39, false), []⟩,
 ⟨(some 41), .cmp .gtr (.t 40) (.k (.lit .i64 4096)), some (39, false), []⟩,
 ⟨(some 42), .pick (.t 39) (.k (.bool true)) (.t 41), none, []⟩])
 (.cond (.t 42) (.seq (.ops [⟨(some 2), .mv (.k (.val (.slice none 0 0))), none, []⟩,
 ⟨(some 3), .mv (.k (.bool false)), none, []⟩])
 (.ret)) (.skip)))
 (.seq (.ops [⟨(some 6), .mv (.k (.lit .i64 1)), none, []⟩])
 (.seq (.block 2 (.loop (.seq (.seq (.ops [⟨(some 43), .mv (.t 6), none, []⟩,
 ⟨(some 44), .mv (.t 4), none, []⟩,
 ⟨(some 45), .cmp .leq (.t 43) (.t 44), none, []⟩])
 (.cond (.t 45) (.skip) (.exit 2)))
 (.block 3 (.ops [⟨(some 46), .mv (.t 6), none, []⟩,
 ⟨(some 47), .bin .mul .i64 (.t 46) (.k (.lit .i64 2)), none, []⟩,
 ⟨(some 6), .mv (.t 47), none, []⟩])))))
 (.seq (.seq (.ops [⟨(some 7), .mv (.k (.lit .i64 1)), none, []⟩])
 (.block 4 (.loop (.seq (.seq (.ops [⟨(some 48), .mv (.t 7), none, []⟩,
 ⟨(some 49), .cmp .leq (.t 48) (.k (.lit .i64 12)), none, []⟩])
 (.cond (.t 49) (.skip) (.exit 4)))
 (.seq (.block 5 (.seq (.ops [⟨(some 52), .mv (.t 6), none, []⟩,
 ⟨(some 53), .mv (.t 4), none, []⟩,
 ⟨(some 54), .bin .sub .i64 (.t 52) (.t 53), none, []⟩,
 ⟨(some 55), .mv (.t 7), none, []⟩,
 ⟨(some 56), .bin .sub .i64 (.t 55) (.k (.lit .i64 1)), none, []⟩,
 ⟨(some 57), .conv .u64 (.t 56), none, []⟩,
 ⟨(some 58), .bin .shl .i64 (.k (.lit .i64 1)) (.t 57), none, []⟩,
 ⟨(some 59), .cmp .eql (.t 54) (.t 58), none, []⟩])
 (.cond (.t 59) (.seq (.ops [⟨(some 60), .bsliceI 5 .u8 0 [], none, []⟩,
 ⟨(some 61), .mv (.t 0), none, []⟩,
 ⟨(some 62), .appI 5 .u8 1 (.t 60) (.t 61), none, []⟩,
 ⟨(some 63), .mv (.t 7), none, []⟩,
 ⟨(some 64), .conv .u8 (.t 63), none, []⟩,
 ⟨(some 65), .bsliceI 5 .u8 1 [⟨0, 1, (.t 64)⟩], none, []⟩,
 ⟨(some 66), .appI 5 .u8 1 (.t 62) (.t 65), none, []⟩,
 ⟨(some 8), .mv (.t 66), none, []⟩])
 (.seq (.ops [⟨(some 67), .mv (.t 8), none, []⟩,
 ⟨(some 68), .mv (.t 8), none, []⟩,
 ⟨(some 69), .call (.k (.fn 27 [])) [(.t 68)], none, []⟩,
 ⟨(some 70), .cmp .gtr (.t 69) (.k (.lit .i64 0)), none, []⟩,
 ⟨(some 2), .mv (.t 67), none, []⟩,
 ⟨(some 3), .mv (.t 70), none, []⟩])
 (.ret))) (.skip))))
 (.ops [⟨(some 50), .mv (.t 7), none, []⟩,
 ⟨(some 51), .bin .add .i64 (.t 50) (.k (.lit .i64 1)), none, []⟩,
 ⟨(some 7), .mv (.t 51), none, []⟩]))))))
 (.seq (.ops [⟨(some 2), .mv (.k (.val (.slice none 0 0))), none, []⟩,
 ⟨(some 3), .mv (.k (.bool false)), none, []⟩])
 (.ret)))))))))
theorem fn19 : FnOk Try.prog 19 x19 71 [2, 3] := FnOk.of Try.call19 Try.func19 (by kernel_rfl) Try.ntmps19 (by kernel_rfl)
/-- baler/literals.plain -/
def x21 : XC :=
 .seq (.ops [⟨(some 0), .newR 49 [(.lit .i64 0), (.lit .i64 0), (.lit .i64 0), (.lit .i64 0), (.lit .i64 0), (.lit .i64 0), (.lit .i64 0), (.lit .i64 0), (.lit .i64 0), (.lit .i64 0), (.lit .i64 0), (.lit .i64 0)], none, []⟩])
 (.seq (.ops [⟨(some 1), .build [(.lit .i64 0), (.lit .i64 0), (.lit .i64 0)] [⟨0, 1, (.k (.lit .i64 1))⟩, ⟨1, 1, (.k (.lit .i64 5))⟩, ⟨2, 1, (.k (.lit .i64 0))⟩], none, []⟩,
 ⟨(some 2), .build [(.lit .i64 0), (.lit .i64 0), (.lit .i64 0)] [⟨0, 1, (.k (.lit .i64 2))⟩, ⟨1, 1, (.k (.lit .i64 12))⟩, ⟨2, 1, (.k (.lit .i64 0))⟩], none, []⟩,
 ⟨(some 3), .build [(.lit .i64 0), (.lit .i64 0), (.lit .i64 0)] [⟨0, 1, (.k (.lit .i64 1))⟩, ⟨1, 1, (.k (.lit .i64 5))⟩, ⟨2, 1, (.k (.lit .i64 0))⟩], none, []⟩,
 ⟨(some 4), .build [(.lit .i64 0), (.lit .i64 0), (.lit .i64 0)] [⟨0, 1, (.k (.lit .i64 3))⟩, ⟨1, 1, (.k (.lit .i64 20))⟩, ⟨2, 1, (.k (.lit .i64 0))⟩], none, []⟩,
 ⟨(some 5), .build [(.lit .i64 0), (.lit .i64 0), (.lit .i64 0), (.lit .i64 0), (.lit .i64 0), (.lit .i64 0), (.lit .i64 0), (.lit .i64 0), (.lit .i64 0), (.lit .i64 0), (.lit .i64 0), (.lit .i64 0)] [⟨0, 3, (.t 1)⟩, ⟨3, 3, (.t 2)⟩, ⟨6, 3, (.t 3)⟩, ⟨9, 3, (.t 4)⟩], none, []⟩,
 ⟨none, .storeA 12 (.t 0) (.t 5), none, []⟩])
 (.ret))
theorem fn21 : FnOk Try.prog 21 x21 6 [26000000] := FnOk.of Try.call21 Try.func21 (by kernel_rfl) Try.ntmps21 (by kernel_rfl)
/-- baler/literals.packed -/
def x22 : XC :=
 .seq (.ops [⟨(some 0), .newR 49 [(.lit .i64 0), (.lit .i64 0), (.lit .i64 0), (.lit .i64 0), (.lit .i64 0), (.lit .i64 0), (.lit .i64 0), (.lit .i64 0), (.lit .i64 0), (.lit .i64 0), (.lit .i64 0), (.lit .i64 0)], none, []⟩])
 (.seq (.ops [⟨(some 1), .build [(.lit .i64 0), (.lit .i64 0), (.lit .i64 0)] [⟨0, 1, (.k (.lit .i64 3))⟩, ⟨1, 1, (.k (.lit .i64 10))⟩, ⟨2, 1, (.k (.lit .i64 1))⟩], none, []⟩,
 ⟨(some 2), .build [(.lit .i64 0), (.lit .i64 0), (.lit .i64 0)] [⟨0, 1, (.k (.lit .i64 3))⟩, ⟨1, 1, (.k (.lit .i64 10))⟩, ⟨2, 1, (.k (.lit .i64 4))⟩], none, []⟩,
 ⟨(some 3), .build [(.lit .i64 0), (.lit .i64 0), (.lit .i64 0)] [⟨0, 1, (.k (.lit .i64 4))⟩, ⟨1, 1, (.k (.lit .i64 14))⟩, ⟨2, 1, (.k (.lit .i64 4))⟩], none, []⟩,
 ⟨(some 4), .build [(.lit .i64 0), (.lit .i64 0), (.lit .i64 0)] [⟨0, 1, (.k (.lit .i64 5))⟩, ⟨1, 1, (.k (.lit .i64 18))⟩, ⟨2, 1, (.k (.lit .i64 4))⟩], none, []⟩,
 ⟨(some 5), .build [(.lit .i64 0), (.lit .i64 0), (.lit .i64 0), (.lit .i64 0), (.lit .i64 0), (.lit .i64 0), (.lit .i64 0), (.lit .i64 0), (.lit .i64 0), (.lit .i64 0), (.lit .i64 0), (.lit .i64 0)] [⟨0, 3, (.t 1)⟩, ⟨3, 3, (.t 2)⟩, ⟨6, 3, (.t 3)⟩, ⟨9, 3, (.t 4)⟩], none, []⟩,
 ⟨none, .storeA 12 (.t 0) (.t 5), none, []⟩])
 (.ret))
theorem fn22 : FnOk Try.prog 22 x22 6 [26000000] := FnOk.of Try.call22 Try.func22 (by kernel_rfl) Try.ntmps22 (by kernel_rfl)
/-- baler/literals.number -/
def x23 : XC :=
 .seq (.ops [⟨(some 2), .mv (.k (.lit .u64 0)), none, []⟩])
 (.seq (.ops [⟨(some 3), .mv (.k (.lit .u64 0)), none, []⟩])
 (.seq (.seq (.ops [⟨(some 6), .mv (.t 0), none, []⟩,
 ⟨(some 7), .len (.t 6), none, []⟩,
 ⟨(some 8), .mv (.k (.lit .i64 0)), none, []⟩])
 (.block 0 (.loop (.seq (.ops [⟨(some 9), .cmp .lss (.t 8) (.t 7), none, []⟩])
 (.seq (.cond (.t 9) (.skip) (.exit 0))
 (.seq (.block 1 (.seq (.ops [⟨(some 10), .mv (.t 8), none, []⟩,
 ⟨(some 11), .iadr 1 (.t 6) (.t 8), none, []⟩,
 ⟨(some 12), .load1 (.t 11), none, []⟩,
 ⟨(some 4), .mv (.t 10), none, []⟩,
 ⟨(some 5), .mv (.t 12), none, []⟩])
 (.ops [⟨(some 13), .mv (.t 3), none, []⟩,
 ⟨(some 14), .mv (.t 5), none, []⟩,
 ⟨(some 15), .conv .u64 (.t 14), none, []⟩,
 ⟨(some 16), .mv (.t 4), none, []⟩,
 ⟨(some 17), .bin .mul .i64 (.k (.lit .i64 8)) (.t 16), none, []⟩,
 ⟨(some 18), .conv .u64 (.t 17), none, []⟩,
 ⟨(some 19), .bin .shl .u64 (.t 15) (.t 18), none, []⟩,
 ⟨(some 20), .bin .or .u64 (.t 13) (.t 19), none, []⟩,
 ⟨(some 3), .mv (.t 20), none, []⟩])))
 (.ops [⟨(some 21), .bin .add .i64 (.t 8) (.k (.lit .i64 1)), none, []⟩,
 ⟨(some 8), .mv (.t 21), none, []⟩])))))))
 (.seq (.ops [⟨(some 22), .mv (.t 3), none, []⟩,
 ⟨(some 2), .mv (.t 22), none, []⟩])
 (.ret))))
theorem fn23 : FnOk Try.prog 23 x23 23 [2] := FnOk.of Try.call23 Try.func23 (by kernel_rfl) Try.ntmps23 (by kernel_rfl)
/-- bytes.Repeat -/
def x24 : XC :=
 .seq (.ops [⟨(some 4), .mv (.k (.val (.slice none 0 0))), none, []⟩])
 (.seq (.seq (.ops [⟨(some 12), .mv (.t 1), none, []⟩,
 ⟨(some 13), .cmp .eql (.t 12) (.k (.lit .i64 0)), none, []⟩])
 (.cond (.t 13) (.seq (.ops [⟨(some 14), .bsliceI 5 .u8 0 [], none, []⟩,
 ⟨(some 4), .mv (.t 14), none, []⟩])
 (.ret)) (.skip)))
 (.seq (.seq (.ops [⟨(some 15), .mv (.t 1), none, []⟩,
 ⟨(some 16), .cmp .lss (.t 15) (.k (.lit .i64 0)), none, []⟩])
 (.cond (.t 16) (.ops [⟨(some 17), .mkif 9 (.k (.str [98, 121, 116, 101, 115, 58, 32, 110, 101, 103, 97, 116, 105, 118, 101, 32, 82, 101, 112, 101, 97, 116, 32, 99, 111, 117, 110, 116])), none, []⟩,
 ⟨none, .pnc (.t 17), none, []⟩]) (.skip)))
 (.seq (.ops [⟨(some 19), .mv (.t 0), none, []⟩,
 ⟨(some 20), .len (.t 19), none, []⟩,
 ⟨(some 21), .conv .u64 (.t 20), none, []⟩,
 ⟨(some 22), .mv (.t 1), none, []⟩,
 ⟨(some 23), .conv .u64 (.t 22), none, []⟩,
 ⟨(some 24), .call (.k (.fn 52 [])) [(.t 21), (.t 23)], none, []⟩,
 ⟨(some 18), .mv (.t 24), none, []⟩,
 ⟨(some 25), .extract (.t 18) 0, none, []⟩,
 ⟨(some 26), .extract (.t 18) 1, none, []⟩,
 ⟨(some 5), .mv (.t 25), none, []⟩,
 ⟨(some 6), .mv (.t 26), none, []⟩])
 (.seq (.seq (.ops [⟨(some 27), .mv (.t 5), none, []⟩,
 ⟨(some 28), .cmp .gtr (.t 27) (.k (.lit .u64 0)), none, []⟩,
 ⟨(some 29), .mv (.t 28), none, []⟩,
 ⟨(some 30), .mv (.t 6), some (29, false), []⟩,
 ⟨(some 31), .cmp .gtr (.t 30) (.k (.lit .u64 9223372036854775807)), some (29, false), []⟩,
 ⟨(some 32), .pick (.t 29) (.k (.bool true)) (.t 31), none, []⟩])
 (.cond (.t 32) (.ops [⟨(some 33), .mkif 9 (.k (.str [98, 121, 116, 101, 115, 58, 32, 82, 101, 112, 101, 97, 116, 32, 111, 117, 116, 112, 117, 116, 32, 108, 101, 110, 103, 116, 104, 32, 111, 118, 101, 114, 102, 108, 111, 119])), none, []⟩,
 ⟨none, .pnc (.t 33), none, []⟩]) (.skip)))
 (.seq (.ops [⟨(some 34), .mv (.t 6), none, []⟩,
 ⟨(some 35), .conv .i64 (.t 34), none, []⟩,
 ⟨(some 7), .mv (.t 35), none, []⟩])
 (.seq (.seq (.ops [⟨(some 36), .mv (.t 0), none, []⟩,
 ⟨(some 37), .len (.t 36), none, []⟩,
 ⟨(some 38), .cmp .eql (.t 37) (.k (.lit .i64 0)), none, []⟩])
 (.cond (.t 38) (.seq (.ops [⟨(some 39), .bsliceI 5 .u8 0 [], none, []⟩,
 ⟨(some 4), .mv (.t 39), none, []⟩])
 (.ret)) (.skip)))
 (.seq (.ops [⟨(some 40), .mv (.t 7), none, []⟩,
 ⟨(some 8), .mv (.t 40), none, []⟩])
 (.seq (.seq (.ops [⟨(some 41), .mv (.t 8), none, []⟩,
 ⟨(some 42), .cmp .gtr (.t 41) (.k (.lit .i64 8192)), none, []⟩])
 (.cond (.t 42) (.seq (.ops [⟨(some 43), .mv (.t 0), none, []⟩,
 ⟨(some 44), .len (.t 43), none, []⟩,
 ⟨(some 45), .bin .quo .i64 (.k (.lit .i64 8192)) (.t 44), none, []⟩,
 ⟨(some 46), .mv (.t 0), none, []⟩,
 ⟨(some 47), .len (.t 46), none, []⟩,
 ⟨(some 48), .bin .mul .i64 (.t 45) (.t 47), none, []⟩,
 ⟨(some 8), .mv (.t 48), none, []⟩])
 (.seq (.ops [⟨(some 49), .mv (.t 8), none, []⟩,
 ⟨(some 50), .cmp .eql (.t 49) (.k (.lit .i64 0)), none, []⟩])
 (.cond (.t 50) (.ops [⟨(some 51), .mv (.t 0), none, []⟩,
 ⟨(some 52), .len (.t 51), none, []⟩,
 ⟨(some 8), .mv (.t 52), none, []⟩]) (.skip)))) (.skip)))
 (.seq (.ops [⟨(some 53), .mv (.t 7), none, []⟩,
 ⟨(some 54), .nozero 5 (.t 53), none, []⟩,
 ⟨(some 55), .mv (.t 7), none, []⟩,
 ⟨(some 56), .mv (.t 7), none, []⟩,
 ⟨(some 57), .slc 1 (.t 54) none (some (.t 55)) (some (.t 56)), none, []⟩,
 ⟨(some 9), .mv (.t 57), none, []⟩])
 (.seq (.ops [⟨(some 58), .mv (.t 9), none, []⟩,
 ⟨(some 59), .mv (.t 0), none, []⟩,
 ⟨(some 60), .copyI .u8 (.t 58) (.t 59), none, []⟩,
 ⟨(some 10), .mv (.t 60), none, []⟩])
 (.seq (.block 0 (.loop (.seq (.seq (.ops [⟨(some 61), .mv (.t 10), none, []⟩,
 ⟨(some 62), .mv (.t 7), none, []⟩,
 ⟨(some 63), .cmp .lss (.t 61) (.t 62), none, []⟩])
 (.cond (.t 63) (.skip) (.exit 0)))
 (.block 1 (.seq (.ops [⟨(some 64), .mv (.t 10), none, []⟩,
 ⟨(some 65), .mv (.t 8), none, []⟩,
 ⟨(some 66), .min (.t 64) (.t 65), none, []⟩,
 ⟨(some 11), .mv (.t 66), none, []⟩])
 (.ops [⟨(some 67), .mv (.t 10), none, []⟩,
 ⟨(some 68), .mv (.t 9), none, []⟩,
 ⟨(some 69), .mv (.t 10), none, []⟩,
 ⟨(some 70), .slc 1 (.t 68) (some (.t 69)) none none, none, []⟩,
 ⟨(some 71), .mv (.t 9), none, []⟩,
 ⟨(some 72), .mv (.t 11), none, []⟩,
 ⟨(some 73), .slc 1 (.t 71) none (some (.t 72)) none, none, []⟩,
 ⟨(some 74), .copyI .u8 (.t 70) (.t 73), none, []⟩,
 ⟨(some 75), .bin .add .i64 (.t 67) (.t 74), none, []⟩,
 ⟨(some 10), .mv (.t 75), none, []⟩]))))))
 (.seq (.ops [⟨(some 76), .mv (.t 9), none, []⟩,
 ⟨(some 4), .mv (.t 76), none, []⟩])
 (.ret)))))))))))))
theorem fn24 : FnOk Try.prog 24 x24 77 [4] := FnOk.of Try.call24 Try.func24 (by kernel_rfl) Try.ntmps24 (by kernel_rfl)
/-- baler/literals.rows -/
def x25 : XC :=
 .seq (.ops [⟨(some 8), .mv (.k (.val (.slice none 0 0))), none, []⟩,
 ⟨(some 9), .mv (.k (.lit .i64 0)), none, []⟩])
 (.seq (.seq (.ops [⟨(some 18), .mv (.t 3), none, []⟩,
 ⟨(some 19), .cmp .eql (.t 18) (.k (.lit .i64 1)), none, []⟩])
 (.cond (.t 19) (.seq (.ops [⟨(some 20), .mv (.t 0), none, []⟩,
 ⟨(some 21), .mv (.t 1), none, []⟩,
 ⟨(some 22), .mv (.t 2), none, []⟩,
 ⟨(some 23), .call (.k (.fn 54 [])) [(.t 20), (.t 21), (.t 22)], none, []⟩,
 ⟨(some 24), .extract (.t 23) 0, none, []⟩,
 ⟨(some 25), .extract (.t 23) 1, none, []⟩,
 ⟨(some 8), .mv (.t 24), none, []⟩,
 ⟨(some 9), .mv (.t 25), none, []⟩])
 (.ret)) (.skip)))
 (.seq (.ops [⟨(some 26), .mv (.t 2), none, []⟩,
 ⟨(some 27), .bin .add .i64 (.t 26) (.k (.lit .i64 3)), none, []⟩,
 ⟨(some 28), .bin .quo .i64 (.t 27) (.k (.lit .i64 4)), none, []⟩,
 ⟨(some 10), .mv (.t 28), none, []⟩])
 (.seq (.seq (.ops [⟨(some 29), .mv (.t 1), none, []⟩,
 ⟨(some 30), .len (.t 29), none, []⟩,
 ⟨(some 31), .cmp .lss (.t 30) (.k (.lit .i64 6)), none, []⟩,
 ⟨(some 32), .mv (.t 31), none, []⟩,
 ⟨(some 33), .mv (.t 10), some (32, false), []⟩,
 ⟨(some 34), .bin .mul .i64 (.k (.lit .i64 3)) (.t 33), some (32, false), []⟩,
 ⟨(some 35), .mv (.t 2), some (32, false), []⟩,
 ⟨(some 36), .cmp .gtr (.t 34) (.t 35), some (32, false), []⟩,
 ⟨(some 37), .pick (.t 32) (.k (.bool true)) (.t 36), none, []⟩])
 (.cond (.t 37) (.seq (.ops [⟨(some 8), .mv (.k (.val (.slice none 0 0))), none, []⟩,
 ⟨(some 9), .mv (.k (.lit .i64 11)), none, []⟩])
 (.ret)) (.skip)))
 (.seq (.ops [⟨(some 11), .mv (.k (.val (.slice none 0 0))), none, []⟩])
 (.seq (.ops [⟨(some 38), .mv (.t 1), none, []⟩,
 ⟨(some 39), .slc 1 (.t 38) (some (.k (.lit .i64 6))) none none, none, []⟩,
 ⟨(some 12), .mv (.t 39), none, []⟩])
 (.seq (.seq (.ops [⟨(some 40), .mv (.k (.lit .i64 0)), none, []⟩])
 (.block 0 (.loop (.seq (.ops [⟨(some 41), .cmp .lss (.t 40) (.k (.lit .i64 4)), none, []⟩])
 (.seq (.cond (.t 41) (.skip) (.exit 0))
 (.seq (.block 1 (.seq (.ops [⟨(some 42), .mv (.t 40), none, []⟩,
 ⟨(some 13), .mv (.t 42), none, []⟩])
 (.seq (.ops [⟨(some 43), .mv (.t 12), none, []⟩,
 ⟨(some 44), .len (.t 43), none, []⟩,
 ⟨(some 45), .mv (.t 2), none, []⟩,
 ⟨(some 46), .mv (.t 10), none, []⟩,
 ⟨(some 47), .bin .mul .i64 (.k (.lit .i64 3)) (.t 46), none, []⟩,
 ⟨(some 48), .bin .sub .i64 (.t 45) (.t 47), none, []⟩,
 ⟨(some 14), .mv (.t 44), none, []⟩,
 ⟨(some 15), .mv (.t 48), none, []⟩])
 (.seq (.seq (.ops [⟨(some 49), .mv (.t 13), none, []⟩,
 ⟨(some 50), .cmp .lss (.t 49) (.k (.lit .i64 3)), none, []⟩])
 (.cond (.t 50) (.ops [⟨(some 51), .mv (.t 1), none, []⟩,
 ⟨(some 52), .mv (.t 13), none, []⟩,
 ⟨(some 53), .bin .mul .i64 (.k (.lit .i64 2)) (.t 52), none, []⟩,
 ⟨(some 54), .mv (.t 13), none, []⟩,
 ⟨(some 55), .bin .mul .i64 (.k (.lit .i64 2)) (.t 54), none, []⟩,
 ⟨(some 56), .bin .add .i64 (.t 55) (.k (.lit .i64 2)), none, []⟩,
 ⟨(some 57), .slc 1 (.t 51) (some (.t 53)) (some (.t 56)) none, none, []⟩,
 ⟨(some 58), .call (.k (.fn 23 [])) [(.t 57)], none, []⟩,
 ⟨(some 59), .conv .i64 (.t 58), none, []⟩,
 ⟨(some 60), .mv (.t 10), none, []⟩,
 ⟨(some 14), .mv (.t 59), none, []⟩,
 ⟨(some 15), .mv (.t 60), none, []⟩]) (.skip)))
 (.seq (.seq (.ops [⟨(some 61), .mv (.t 14), none, []⟩,
 ⟨(some 62), .mv (.t 12), none, []⟩,
 ⟨(some 63), .len (.t 62), none, []⟩,
 ⟨(some 64), .cmp .gtr (.t 61) (.t 63), none, []⟩])
 (.cond (.t 64) (.seq (.ops [⟨(some 8), .mv (.k (.val (.slice none 0 0))), none, []⟩,
 ⟨(some 9), .mv (.k (.lit .i64 11)), none, []⟩])
 (.ret)) (.skip)))
 (.seq (.ops [⟨(some 66), .mv (.t 0), none, []⟩,
 ⟨(some 67), .mv (.t 12), none, []⟩,
 ⟨(some 68), .mv (.t 14), none, []⟩,
 ⟨(some 69), .mv (.t 14), none, []⟩,
 ⟨(some 70), .slc 1 (.t 67) none (some (.t 68)) (some (.t 69)), none, []⟩,
 ⟨(some 71), .mv (.t 15), none, []⟩,
 ⟨(some 72), .call (.k (.fn 54 [])) [(.t 66), (.t 70), (.t 71)], none, []⟩,
 ⟨(some 65), .mv (.t 72), none, []⟩,
 ⟨(some 73), .extract (.t 65) 0, none, []⟩,
 ⟨(some 74), .extract (.t 65) 1, none, []⟩,
 ⟨(some 16), .mv (.t 73), none, []⟩,
 ⟨(some 17), .mv (.t 74), none, []⟩])
 (.seq (.seq (.ops [⟨(some 75), .mv (.t 17), none, []⟩,
 ⟨(some 76), .cmp .neq (.t 75) (.k (.lit .i64 0)), none, []⟩])
 (.cond (.t 76) (.seq (.ops [⟨(some 77), .mv (.t 17), none, []⟩,
 ⟨(some 8), .mv (.k (.val (.slice none 0 0))), none, []⟩,
 ⟨(some 9), .mv (.t 77), none, []⟩])
 (.ret)) (.skip)))
 (.ops [⟨(some 78), .mv (.t 11), none, []⟩,
 ⟨(some 79), .mv (.t 16), none, []⟩,
 ⟨(some 81), .mv (.t 12), none, []⟩,
 ⟨(some 82), .mv (.t 14), none, []⟩,
 ⟨(some 83), .slc 1 (.t 81) (some (.t 82)) none none, none, []⟩,
 ⟨(some 80), .appI 5 .u8 1 (.t 78) (.t 79), none, []⟩,
 ⟨(some 11), .mv (.t 80), none, []⟩,
 ⟨(some 12), .mv (.t 83), none, []⟩]))))))))
 (.ops [⟨(some 84), .bin .add .i64 (.t 40) (.k (.lit .i64 1)), none, []⟩,
 ⟨(some 40), .mv (.t 84), none, []⟩])))))))
 (.seq (.ops [⟨(some 85), .mv (.t 11), none, []⟩,
 ⟨(some 8), .mv (.t 85), none, []⟩,
 ⟨(some 9), .mv (.k (.lit .i64 0)), none, []⟩])
 (.ret))))))))
theorem fn25 : FnOk Try.prog 25 x25 86 [8, 9] := FnOk.of Try.call25 Try.func25 (by kernel_rfl) Try.ntmps25 (by kernel_rfl)
/-- baler/balerref11.head -/
def x26 : XC :=
 .seq (.ops [⟨(some 2), .newR 56 [(.lit .i64 0), (.lit .i64 0), (.lit .i64 0), (.lit .i64 0), (.lit .i64 0)], none, []⟩,
 ⟨(some 3), .mv (.k (.bool false)), none, []⟩])
 (.seq (.ops [⟨(some 12), .mv (.t 0), none, []⟩,
 ⟨(some 13), .iadr 1 (.t 12) (.k (.lit .i64 0)), none, []⟩,
 ⟨(some 14), .load1 (.t 13), none, []⟩,
 ⟨(some 15), .bin .and .u8 (.t 14) (.k (.lit .u8 3)), none, []⟩,
 ⟨(some 16), .conv .i64 (.t 15), none, []⟩,
 ⟨(some 17), .mv (.t 0), none, []⟩,
 ⟨(some 18), .iadr 1 (.t 17) (.k (.lit .i64 0)), none, []⟩,
 ⟨(some 19), .load1 (.t 18), none, []⟩,
 ⟨(some 20), .bin .shr .u8 (.t 19) (.k (.lit .u64 2)), none, []⟩,
 ⟨(some 21), .bin .and .u8 (.t 20) (.k (.lit .u8 3)), none, []⟩,
 ⟨(some 22), .conv .i64 (.t 21), none, []⟩,
 ⟨(some 4), .mv (.t 16), none, []⟩,
 ⟨(some 5), .mv (.t 22), none, []⟩])
 (.seq (.seq (.ops [⟨(some 23), .mv (.t 4), none, []⟩,
 ⟨(some 24), .cmp .lss (.t 23) (.k (.lit .i64 2)), none, []⟩])
 (.cond (.t 24) (.seq (.ops [⟨(some 6), .mv (.k (.lit .i64 1)), none, []⟩])
 (.seq (.seq (.ops [⟨(some 25), .mv (.t 5), none, []⟩,
 ⟨(some 26), .cmp .eql (.t 25) (.k (.lit .i64 1)), none, []⟩])
 (.cond (.t 26) (.ops [⟨(some 6), .mv (.k (.lit .i64 2)), none, []⟩]) (.skip)))
 (.seq (.seq (.ops [⟨(some 27), .mv (.t 5), none, []⟩,
 ⟨(some 28), .cmp .eql (.t 27) (.k (.lit .i64 3)), none, []⟩])
 (.cond (.t 28) (.ops [⟨(some 6), .mv (.k (.lit .i64 3)), none, []⟩]) (.skip)))
 (.seq (.seq (.ops [⟨(some 29), .mv (.t 0), none, []⟩,
 ⟨(some 30), .len (.t 29), none, []⟩,
 ⟨(some 31), .mv (.t 6), none, []⟩,
 ⟨(some 32), .cmp .lss (.t 30) (.t 31), none, []⟩])
 (.cond (.t 32) (.seq (.ops [⟨(some 33), .build [(.lit .i64 0), (.lit .i64 0), (.lit .i64 0), (.lit .i64 0), (.lit .i64 0)] [], none, []⟩,
 ⟨none, .storeA 5 (.t 2) (.t 33), none, []⟩,
 ⟨(some 3), .mv (.k (.bool false)), none, []⟩])
 (.ret)) (.skip)))
 (.seq (.ops [⟨(some 34), .mv (.t 0), none, []⟩,
 ⟨(some 35), .mv (.t 6), none, []⟩,
 ⟨(some 36), .slc 1 (.t 34) none (some (.t 35)) none, none, []⟩,
 ⟨(some 37), .call (.k (.fn 55 [])) [(.t 36)], none, []⟩,
 ⟨(some 7), .mv (.t 37), none, []⟩])
 (.seq (.seq (.ops [⟨(some 38), .mv (.t 6), none, []⟩,
 ⟨(some 39), .cmp .eql (.t 38) (.k (.lit .i64 1)), none, []⟩])
 (.cond (.t 39) (.seq (.ops [⟨(some 40), .mv (.t 4), none, []⟩,
 ⟨(some 41), .mv (.t 7), none, []⟩,
 ⟨(some 42), .bin .shr .u64 (.t 41) (.k (.lit .u64 3)), none, []⟩,
 ⟨(some 43), .conv .i64 (.t 42), none, []⟩,
 ⟨(some 44), .build [(.lit .i64 0), (.lit .i64 0), (.lit .i64 0), (.lit .i64 0), (.lit .i64 0)] [⟨0, 1, (.t 40)⟩, ⟨1, 1, (.t 43)⟩, ⟨3, 1, (.k (.lit .i64 1))⟩], none, []⟩,
 ⟨none, .storeA 5 (.t 2) (.t 44), none, []⟩,
 ⟨(some 3), .mv (.k (.bool true)), none, []⟩])
 (.ret)) (.skip)))
 (.seq (.ops [⟨(some 45), .mv (.t 4), none, []⟩,
 ⟨(some 46), .mv (.t 7), none, []⟩,
 ⟨(some 47), .bin .shr .u64 (.t 46) (.k (.lit .u64 4)), none, []⟩,
 ⟨(some 48), .conv .i64 (.t 47), none, []⟩,
 ⟨(some 49), .mv (.t 6), none, []⟩,
 ⟨(some 50), .build [(.lit .i64 0), (.lit .i64 0), (.lit .i64 0), (.lit .i64 0), (.lit .i64 0)] [⟨0, 1, (.t 45)⟩, ⟨1, 1, (.t 48)⟩, ⟨3, 1, (.t 49)⟩], none, []⟩,
 ⟨none, .storeA 5 (.t 2) (.t 50), none, []⟩,
 ⟨(some 3), .mv (.k (.bool true)), none, []⟩])
 (.ret)))))))) (.skip)))
 (.seq (.ops [⟨(some 8), .mv (.k (.lit .i64 3)), none, []⟩,
 ⟨(some 9), .mv (.k (.lit .i64 10)), none, []⟩,
 ⟨(some 10), .mv (.k (.lit .i64 1)), none, []⟩])
 (.seq (.seq (.ops [⟨(some 51), .mv (.t 5), none, []⟩,
 ⟨(some 52), .cmp .geq (.t 51) (.k (.lit .i64 1)), none, []⟩])
 (.cond (.t 52) (.ops [⟨(some 10), .mv (.k (.lit .i64 4)), none, []⟩]) (.skip)))
 (.seq (.seq (.ops [⟨(some 53), .mv (.t 5), none, []⟩,
 ⟨(some 54), .cmp .eql (.t 53) (.k (.lit .i64 2)), none, []⟩])
 (.cond (.t 54) (.seq (.ops [⟨(some 8), .mv (.k (.lit .i64 4)), none, []⟩])
 (.ops [⟨(some 9), .mv (.k (.lit .i64 14)), none, []⟩])) (.skip)))
 (.seq (.seq (.ops [⟨(some 55), .mv (.t 5), none, []⟩,
 ⟨(some 56), .cmp .eql (.t 55) (.k (.lit .i64 3)), none, []⟩])
 (.cond (.t 56) (.seq (.ops [⟨(some 8), .mv (.k (.lit .i64 5)), none, []⟩])
 (.ops [⟨(some 9), .mv (.k (.lit .i64 18)), none, []⟩])) (.skip)))
 (.seq (.seq (.ops [⟨(some 57), .mv (.t 0), none, []⟩,
 ⟨(some 58), .len (.t 57), none, []⟩,
 ⟨(some 59), .mv (.t 8), none, []⟩,
 ⟨(some 60), .cmp .lss (.t 58) (.t 59), none, []⟩])
 (.cond (.t 60) (.seq (.ops [⟨(some 61), .build [(.lit .i64 0), (.lit .i64 0), (.lit .i64 0), (.lit .i64 0), (.lit .i64 0)] [], none, []⟩,
 ⟨none, .storeA 5 (.t 2) (.t 61), none, []⟩,
 ⟨(some 3), .mv (.k (.bool false)), none, []⟩])
 (.ret)) (.skip)))
 (.seq (.ops [⟨(some 62), .mv (.t 0), none, []⟩,
 ⟨(some 63), .mv (.t 8), none, []⟩,
 ⟨(some 64), .slc 1 (.t 62) none (some (.t 63)) none, none, []⟩,
 ⟨(some 65), .call (.k (.fn 55 [])) [(.t 64)], none, []⟩,
 ⟨(some 11), .mv (.t 65), none, []⟩])
 (.seq (.ops [⟨(some 66), .mv (.t 4), none, []⟩,
 ⟨(some 67), .mv (.t 11), none, []⟩,
 ⟨(some 68), .bin .shr .u64 (.t 67) (.k (.lit .u64 4)), none, []⟩,
 ⟨(some 69), .mv (.t 9), none, []⟩,
 ⟨(some 70), .conv .u64 (.t 69), none, []⟩,
 ⟨(some 71), .bin .shl .u64 (.k (.lit .u64 1)) (.t 70), none, []⟩,
 ⟨(some 72), .bin .sub .u64 (.t 71) (.k (.lit .u64 1)), none, []⟩,
 ⟨(some 73), .bin .and .u64 (.t 68) (.t 72), none, []⟩,
 ⟨(some 74), .conv .i64 (.t 73), none, []⟩,
 ⟨(some 75), .mv (.t 11), none, []⟩,
 ⟨(some 76), .mv (.t 9), none, []⟩,
 ⟨(some 77), .bin .add .i64 (.k (.lit .i64 4)) (.t 76), none, []⟩,
 ⟨(some 78), .conv .u64 (.t 77), none, []⟩,
 ⟨(some 79), .bin .shr .u64 (.t 75) (.t 78), none, []⟩,
 ⟨(some 80), .conv .i64 (.t 79), none, []⟩,
 ⟨(some 81), .mv (.t 8), none, []⟩,
 ⟨(some 82), .mv (.t 10), none, []⟩,
 ⟨(some 83), .build [(.lit .i64 0), (.lit .i64 0), (.lit .i64 0), (.lit .i64 0), (.lit .i64 0)] [⟨0, 1, (.t 66)⟩, ⟨1, 1, (.t 74)⟩, ⟨2, 1, (.t 80)⟩, ⟨3, 1, (.t 81)⟩, ⟨4, 1, (.t 82)⟩], none, []⟩,
 ⟨none, .storeA 5 (.t 2) (.t 83), none, []⟩,
 ⟨(some 3), .mv (.k (.bool true)), none, []⟩])
 (.ret))))))))))
theorem fn26 : FnOk Try.prog 26 x26 84 [12000002, 3] := FnOk.of Try.call26 Try.func26 (by kernel_rfl) Try.ntmps26 (by kernel_rfl)
/-- baler/balerref09.Bits -/
def x27 : XC :=
 .seq (.ops [⟨(some 2), .mv (.k (.lit .i64 0)), none, []⟩])
 (.seq (.seq (.ops [⟨(some 7), .mv (.t 0), none, []⟩,
 ⟨(some 8), .len (.t 7), none, []⟩,
 ⟨(some 9), .cmp .lss (.t 8) (.k (.lit .i64 2)), none, []⟩,
 ⟨(some 10), .mv (.t 9), none, []⟩,
 ⟨(some 11), .mv (.t 0), some (10, false), []⟩,
 ⟨(some 12), .len (.t 11), some (10, false), []⟩,
 ⟨(some 13), .cmp .gtr (.t 12) (.k (.lit .i64 256)), some (10, false), []⟩,
 ⟨(some 14), .pick (.t 10) (.k (.bool true)) (.t 13), none, []⟩,
 ⟨(some 15), .mv (.t 14), none, []⟩,
 ⟨(some 16), .mv (.t 0), some (15, false), []⟩,
 ⟨(some 17), .mv (.t 0), some (15, false), []⟩,
 ⟨(some 18), .len (.t 17), some (15, false), []⟩,
 ⟨(some 19), .bin .sub .i64 (.t 18) (.k (.lit .i64 1)), some (15, false), []⟩,
 ⟨(some 20), .iadr 1 (.t 16) (.t 19), some (15, false), []⟩,
 ⟨(some 21), .load1 (.t 20), some (15, false), []⟩,
 ⟨(some 22), .cmp .eql (.t 21) (.k (.lit .u8 0)), some (15, false), []⟩,
 ⟨(some 23), .pick (.t 15) (.k (.bool true)) (.t 22), none, []⟩])
 (.cond (.t 23) (.seq (.ops [⟨(some 2), .mv (.k (.lit .i64 0)), none, []⟩])
 (.ret)) (.skip)))
 (.seq (.ops [⟨(some 3), .mv (.k (.lit .i64 0)), none, []⟩,
 ⟨(some 4), .mv (.k (.lit .i64 0)), none, []⟩])
 (.seq (.seq (.ops [⟨(some 5), .mv (.k (.lit .i64 0)), none, []⟩])
 (.block 0 (.loop (.seq (.seq (.ops [⟨(some 24), .mv (.t 5), none, []⟩,
 ⟨(some 25), .mv (.t 0), none, []⟩,
 ⟨(some 26), .len (.t 25), none, []⟩,
 ⟨(some 27), .cmp .lss (.t 24) (.t 26), none, []⟩])
 (.cond (.t 27) (.skip) (.exit 0)))
 (.seq (.block 1 (.seq (.seq (.ops [⟨(some 30), .mv (.t 0), none, []⟩,
 ⟨(some 31), .mv (.t 5), none, []⟩,
 ⟨(some 32), .iadr 1 (.t 30) (.t 31), none, []⟩,
 ⟨(some 33), .load1 (.t 32), none, []⟩,
 ⟨(some 34), .cmp .gtr (.t 33) (.k (.lit .u8 11)), none, []⟩])
 (.cond (.t 34) (.seq (.ops [⟨(some 2), .mv (.k (.lit .i64 0)), none, []⟩])
 (.ret)) (.skip)))
 (.seq (.seq (.ops [⟨(some 35), .mv (.t 0), none, []⟩,
 ⟨(some 36), .mv (.t 5), none, []⟩,
 ⟨(some 37), .iadr 1 (.t 35) (.t 36), none, []⟩,
 ⟨(some 38), .load1 (.t 37), none, []⟩,
 ⟨(some 39), .cmp .gtr (.t 38) (.k (.lit .u8 0)), none, []⟩])
 (.cond (.t 39) (.ops [⟨(some 40), .mv (.t 3), none, []⟩,
 ⟨(some 41), .mv (.t 0), none, []⟩,
 ⟨(some 42), .mv (.t 5), none, []⟩,
 ⟨(some 43), .iadr 1 (.t 41) (.t 42), none, []⟩,
 ⟨(some 44), .load1 (.t 43), none, []⟩,
 ⟨(some 45), .bin .sub .u8 (.t 44) (.k (.lit .u8 1)), none, []⟩,
 ⟨(some 46), .conv .u64 (.t 45), none, []⟩,
 ⟨(some 47), .bin .shl .i64 (.k (.lit .i64 1)) (.t 46), none, []⟩,
 ⟨(some 48), .bin .add .i64 (.t 40) (.t 47), none, []⟩,
 ⟨(some 3), .mv (.t 48), none, []⟩]) (.skip)))
 (.seq (.ops [⟨(some 49), .mv (.t 0), none, []⟩,
 ⟨(some 50), .mv (.t 5), none, []⟩,
 ⟨(some 51), .iadr 1 (.t 49) (.t 50), none, []⟩,
 ⟨(some 52), .load1 (.t 51), none, []⟩,
 ⟨(some 53), .cmp .eql (.t 52) (.k (.lit .u8 1)), none, []⟩])
 (.cond (.t 53) (.ops [⟨(some 54), .mv (.t 4), none, []⟩,
 ⟨(some 55), .bin .add .i64 (.t 54) (.k (.lit .i64 1)), none, []⟩,
 ⟨(some 4), .mv (.t 55), none, []⟩]) (.skip))))))
 (.ops [⟨(some 28), .mv (.t 5), none, []⟩,
 ⟨(some 29), .bin .add .i64 (.t 28) (.k (.lit .i64 1)), none, []⟩,
 ⟨(some 5), .mv (.t 29), none, []⟩]))))))
 (.seq (.seq (.ops [⟨(some 6), .mv (.k (.lit .i64 1)), none, []⟩])
 (.block 2 (.loop (.seq (.seq (.ops [⟨(some 56), .mv (.t 6), none, []⟩,
 ⟨(some 57), .cmp .leq (.t 56) (.k (.lit .i64 11)), none, []⟩])
 (.cond (.t 57) (.skip) (.exit 2)))
 (.seq (.block 3 (.seq (.ops [⟨(some 60), .mv (.t 3), none, []⟩,
 ⟨(some 61), .mv (.t 6), none, []⟩,
 ⟨(some 62), .conv .u64 (.t 61), none, []⟩,
 ⟨(some 63), .bin .shl .i64 (.k (.lit .i64 1)) (.t 62), none, []⟩,
 ⟨(some 64), .cmp .eql (.t 60) (.t 63), none, []⟩,
 ⟨(some 65), .mv (.t 64), none, []⟩,
 ⟨(some 66), .mv (.t 4), some (65, true), []⟩,
 ⟨(some 67), .cmp .geq (.t 66) (.k (.lit .i64 2)), some (65, true), []⟩,
 ⟨(some 68), .pick (.t 65) (.t 67) (.k (.bool false)), none, []⟩])
 (.cond (.t 68) (.seq (.ops [⟨(some 69), .mv (.t 6), none, []⟩,
 ⟨(some 2), .mv (.t 69), none, []⟩])
 (.ret)) (.skip))))
 (.ops [⟨(some 58), .mv (.t 6), none, []⟩,
 ⟨(some 59), .bin .add .i64 (.t 58) (.k (.lit .i64 1)), none, []⟩,
 ⟨(some 6), .mv (.t 59), none, []⟩]))))))
 (.seq (.ops [⟨(some 2), .mv (.k (.lit .i64 0)), none, []⟩])
 (.ret))))))
theorem fn27 : FnOk Try.prog 27 x27 70 [2] := FnOk.of Try.call27 Try.func27 (by kernel_rfl) Try.ntmps27 (by kernel_rfl)
/-- baler/balerref11.rows -/
def x28 : XC :=
 .seq (.ops [⟨(some 8), .mv (.k (.val (.slice none 0 0))), none, []⟩,
 ⟨(some 9), .mv (.k (.bool false)), none, []⟩])
 (.seq (.seq (.ops [⟨(some 20), .mv (.t 3), none, []⟩,
 ⟨(some 21), .cmp .eql (.t 20) (.k (.lit .i64 1)), none, []⟩])
 (.cond (.t 21) (.seq (.ops [⟨(some 23), .mv (.t 0), none, []⟩,
 ⟨(some 24), .mv (.t 1), none, []⟩,
 ⟨(some 25), .mv (.t 2), none, []⟩,
 ⟨(some 26), .call (.k (.fn 56 [])) [(.t 23), (.t 24), (.t 25)], none, []⟩,
 ⟨(some 22), .mv (.t 26), none, []⟩,
 ⟨(some 27), .extract (.t 22) 0, none, []⟩,
 ⟨(some 28), .extract (.t 22) 1, none, []⟩,
 ⟨(some 10), .mv (.t 27), none, []⟩,
 ⟨(some 11), .mv (.t 28), none, []⟩])
 (.seq (.ops [⟨(some 29), .mv (.t 10), none, []⟩,
 ⟨(some 30), .mv (.t 11), none, []⟩,
 ⟨(some 31), .cmp .eql (.t 30) (.k (.lit .i64 0)), none, []⟩,
 ⟨(some 8), .mv (.t 29), none, []⟩,
 ⟨(some 9), .mv (.t 31), none, []⟩])
 (.ret))) (.skip)))
 (.seq (.seq (.ops [⟨(some 32), .mv (.t 1), none, []⟩,
 ⟨(some 33), .len (.t 32), none, []⟩,
 ⟨(some 34), .cmp .lss (.t 33) (.k (.lit .i64 6)), none, []⟩])
 (.cond (.t 34) (.seq (.ops [⟨(some 8), .mv (.k (.val (.slice none 0 0))), none, []⟩,
 ⟨(some 9), .mv (.k (.bool false)), none, []⟩])
 (.ret)) (.skip)))
 (.seq (.ops [⟨(some 35), .mv (.t 2), none, []⟩,
 ⟨(some 36), .bin .add .i64 (.t 35) (.k (.lit .i64 3)), none, []⟩,
 ⟨(some 37), .bin .quo .i64 (.t 36) (.k (.lit .i64 4)), none, []⟩,
 ⟨(some 12), .mv (.t 37), none, []⟩])
 (.seq (.seq (.ops [⟨(some 38), .mv (.t 12), none, []⟩,
 ⟨(some 39), .bin .mul .i64 (.k (.lit .i64 3)) (.t 38), none, []⟩,
 ⟨(some 40), .mv (.t 2), none, []⟩,
 ⟨(some 41), .cmp .gtr (.t 39) (.t 40), none, []⟩])
 (.cond (.t 41) (.seq (.ops [⟨(some 8), .mv (.k (.val (.slice none 0 0))), none, []⟩,
 ⟨(some 9), .mv (.k (.bool false)), none, []⟩])
 (.ret)) (.skip)))
 (.seq (.ops [⟨(some 13), .mv (.k (.val (.slice none 0 0))), none, []⟩])
 (.seq (.ops [⟨(some 14), .mv (.k (.lit .i64 6)), none, []⟩])
 (.seq (.seq (.ops [⟨(some 15), .mv (.k (.lit .i64 0)), none, []⟩])
 (.block 0 (.loop (.seq (.seq (.ops [⟨(some 42), .mv (.t 15), none, []⟩,
 ⟨(some 43), .cmp .lss (.t 42) (.k (.lit .i64 4)), none, []⟩])
 (.cond (.t 43) (.skip) (.exit 0)))
 (.seq (.block 1 (.seq (.ops [⟨(some 46), .mv (.t 1), none, []⟩,
 ⟨(some 47), .len (.t 46), none, []⟩,
 ⟨(some 48), .mv (.t 14), none, []⟩,
 ⟨(some 49), .bin .sub .i64 (.t 47) (.t 48), none, []⟩,
 ⟨(some 50), .mv (.t 2), none, []⟩,
 ⟨(some 51), .mv (.t 12), none, []⟩,
 ⟨(some 52), .bin .mul .i64 (.k (.lit .i64 3)) (.t 51), none, []⟩,
 ⟨(some 53), .bin .sub .i64 (.t 50) (.t 52), none, []⟩,
 ⟨(some 16), .mv (.t 49), none, []⟩,
 ⟨(some 17), .mv (.t 53), none, []⟩])
 (.seq (.seq (.ops [⟨(some 54), .mv (.t 15), none, []⟩,
 ⟨(some 55), .cmp .lss (.t 54) (.k (.lit .i64 3)), none, []⟩])
 (.cond (.t 55) (.seq (.ops [⟨(some 56), .mv (.t 1), none, []⟩,
 ⟨(some 57), .mv (.t 15), none, []⟩,
 ⟨(some 58), .bin .mul .i64 (.k (.lit .i64 2)) (.t 57), none, []⟩,
 ⟨(some 59), .mv (.t 15), none, []⟩,
 ⟨(some 60), .bin .mul .i64 (.k (.lit .i64 2)) (.t 59), none, []⟩,
 ⟨(some 61), .bin .add .i64 (.t 60) (.k (.lit .i64 2)), none, []⟩,
 ⟨(some 62), .slc 1 (.t 56) (some (.t 58)) (some (.t 61)) none, none, []⟩,
 ⟨(some 63), .call (.k (.fn 55 [])) [(.t 62)], none, []⟩,
 ⟨(some 64), .conv .i64 (.t 63), none, []⟩,
 ⟨(some 16), .mv (.t 64), none, []⟩])
 (.ops [⟨(some 65), .mv (.t 12), none, []⟩,
 ⟨(some 17), .mv (.t 65), none, []⟩])) (.skip)))
 (.seq (.seq (.ops [⟨(some 66), .mv (.t 16), none, []⟩,
 ⟨(some 67), .mv (.t 1), none, []⟩,
 ⟨(some 68), .len (.t 67), none, []⟩,
 ⟨(some 69), .mv (.t 14), none, []⟩,
 ⟨(some 70), .bin .sub .i64 (.t 68) (.t 69), none, []⟩,
 ⟨(some 71), .cmp .gtr (.t 66) (.t 70), none, []⟩])
 (.cond (.t 71) (.seq (.ops [⟨(some 8), .mv (.k (.val (.slice none 0 0))), none, []⟩,
 ⟨(some 9), .mv (.k (.bool false)), none, []⟩])
 (.ret)) (.skip)))
 (.seq (.ops [⟨(some 73), .mv (.t 0), none, []⟩,
 ⟨(some 74), .mv (.t 1), none, []⟩,
 ⟨(some 75), .mv (.t 14), none, []⟩,
 ⟨(some 76), .mv (.t 14), none, []⟩,
 ⟨(some 77), .mv (.t 16), none, []⟩,
 ⟨(some 78), .bin .add .i64 (.t 76) (.t 77), none, []⟩,
 ⟨(some 79), .slc 1 (.t 74) (some (.t 75)) (some (.t 78)) none, none, []⟩,
 ⟨(some 80), .mv (.t 17), none, []⟩,
 ⟨(some 81), .call (.k (.fn 56 [])) [(.t 73), (.t 79), (.t 80)], none, []⟩,
 ⟨(some 72), .mv (.t 81), none, []⟩,
 ⟨(some 82), .extract (.t 72) 0, none, []⟩,
 ⟨(some 83), .extract (.t 72) 1, none, []⟩,
 ⟨(some 18), .mv (.t 82), none, []⟩,
 ⟨(some 19), .mv (.t 83), none, []⟩])
 (.seq (.seq (.ops [⟨(some 84), .mv (.t 19), none, []⟩,
 ⟨(some 85), .cmp .neq (.t 84) (.k (.lit .i64 0)), none, []⟩])
 (.cond (.t 85) (.seq (.ops [⟨(some 8), .mv (.k (.val (.slice none 0 0))), none, []⟩,
 ⟨(some 9), .mv (.k (.bool false)), none, []⟩])
 (.ret)) (.skip)))
 (.seq (.ops [⟨(some 86), .mv (.t 13), none, []⟩,
 ⟨(some 87), .mv (.t 18), none, []⟩,
 ⟨(some 88), .appI 5 .u8 1 (.t 86) (.t 87), none, []⟩,
 ⟨(some 13), .mv (.t 88), none, []⟩])
 (.ops [⟨(some 89), .mv (.t 14), none, []⟩,
 ⟨(some 90), .mv (.t 16), none, []⟩,
 ⟨(some 91), .bin .add .i64 (.t 89) (.t 90), none, []⟩,
 ⟨(some 14), .mv (.t 91), none, []⟩]))))))))
 (.ops [⟨(some 44), .mv (.t 15), none, []⟩,
 ⟨(some 45), .bin .add .i64 (.t 44) (.k (.lit .i64 1)), none, []⟩,
 ⟨(some 15), .mv (.t 45), none, []⟩]))))))
 (.seq (.ops [⟨(some 92), .mv (.t 13), none, []⟩,
 ⟨(some 8), .mv (.t 92), none, []⟩,
 ⟨(some 9), .mv (.k (.bool true)), none, []⟩])
 (.ret)))))))))
theorem fn28 : FnOk Try.prog 28 x28 93 [8, 9] := FnOk.of Try.call28 Try.func28 (by kernel_rfl) Try.ntmps28 (by kernel_rfl)
/-- baler/tail.New -/
def x40 : XC :=
 .seq (.ops [⟨(some 2), .mv (.k (.val (.pointer none))), none, []⟩,
 ⟨(some 3), .mv (.k (.lit .i64 0)), none, []⟩])
 (.seq (.seq (.ops [⟨(some 5), .mv (.t 0), none, []⟩,
 ⟨(some 6), .len (.t 5), none, []⟩,
 ⟨(some 7), .cmp .eql (.t 6) (.k (.lit .i64 0)), none, []⟩,
 ⟨(some 8), .mv (.t 7), none, []⟩,
 ⟨(some 9), .mv (.t 0), some (8, false), []⟩,
 ⟨(some 10), .mv (.t 0), some (8, false), []⟩,
 ⟨(some 11), .len (.t 10), some (8, false), []⟩,
 ⟨(some 12), .bin .sub .i64 (.t 11) (.k (.lit .i64 1)), some (8, false), []⟩,
 ⟨(some 13), .iadr 1 (.t 9) (.t 12), some (8, false), []⟩,
 ⟨(some 14), .load1 (.t 13), some (8, false), []⟩,
 ⟨(some 15), .cmp .eql (.t 14) (.k (.lit .u8 0)), some (8, false), []⟩,
 ⟨(some 16), .pick (.t 8) (.k (.bool true)) (.t 15), none, []⟩])
 (.cond (.t 16) (.seq (.ops [⟨(some 2), .mv (.k (.val (.pointer none))), none, []⟩,
 ⟨(some 3), .mv (.k (.lit .i64 11)), none, []⟩])
 (.ret)) (.skip)))
 (.seq (.ops [⟨(some 17), .mv (.t 0), none, []⟩,
 ⟨(some 18), .mv (.t 0), none, []⟩,
 ⟨(some 19), .len (.t 18), none, []⟩,
 ⟨(some 20), .bin .sub .i64 (.t 19) (.k (.lit .i64 1)), none, []⟩,
 ⟨(some 21), .iadr 1 (.t 17) (.t 20), none, []⟩,
 ⟨(some 22), .load1 (.t 21), none, []⟩,
 ⟨(some 23), .call (.k (.fn 66 [])) [(.t 22)], none, []⟩,
 ⟨(some 24), .bin .sub .i64 (.t 23) (.k (.lit .i64 1)), none, []⟩,
 ⟨(some 4), .mv (.t 24), none, []⟩])
 (.seq (.ops [⟨(some 25), .bsliceI 5 .u8 0 [], none, []⟩,
 ⟨(some 26), .mv (.t 0), none, []⟩,
 ⟨(some 27), .appI 5 .u8 1 (.t 25) (.t 26), none, []⟩,
 ⟨(some 28), .mv (.t 0), none, []⟩,
 ⟨(some 29), .len (.t 28), none, []⟩,
 ⟨(some 30), .bin .sub .i64 (.t 29) (.k (.lit .i64 1)), none, []⟩,
 ⟨(some 31), .bin .mul .i64 (.k (.lit .i64 8)) (.t 30), none, []⟩,
 ⟨(some 32), .mv (.t 4), none, []⟩,
 ⟨(some 33), .bin .add .i64 (.t 31) (.t 32), none, []⟩,
 ⟨(some 34), .build [(.lit .i64 0)] [⟨0, 1, (.t 33)⟩], none, []⟩,
 ⟨(some 35), .build [(.val (.slice none 0 0)), (.lit .i64 0)] [⟨0, 1, (.t 27)⟩, ⟨1, 1, (.t 34)⟩], none, []⟩,
 ⟨(some 36), .box 140 none (.t 35), none, []⟩,
 ⟨(some 2), .mv (.t 36), none, []⟩,
 ⟨(some 3), .mv (.k (.lit .i64 0)), none, []⟩])
 (.ret))))
theorem fn40 : FnOk Try.prog 40 x40 37 [2, 3] := FnOk.of Try.call40 Try.func40 (by kernel_rfl) Try.ntmps40 (by kernel_rfl)
/-- (*baler/tail.Reader).Bits -/
def x41 : XC :=
 .seq (.ops [⟨(some 4), .mv (.k (.lit .u64 0)), none, []⟩])
 (.seq (.seq (.ops [⟨(some 8), .mv (.t 0), none, []⟩,
 ⟨(some 9), .eqv false 2 (.t 8) (.k (.val (.pointer none))), none, []⟩])
 (.cond (.t 9) (.seq (.ops [⟨(some 4), .mv (.k (.lit .u64 0)), none, []⟩])
 (.ret)) (.skip)))
 (.seq (.ops [⟨(some 10), .mv (.t 1), none, []⟩,
 ⟨(some 11), .max (.t 10) (.k (.lit .i64 0)), none, []⟩,
 ⟨(some 12), .min (.t 11) (.k (.lit .i64 56)), none, []⟩,
 ⟨(some 1), .mv (.t 12), none, []⟩])
 (.seq (.ops [⟨(some 5), .mv (.k (.lit .u64 0)), none, []⟩])
 (.seq (.seq (.ops [⟨(some 13), .mv (.t 1), none, []⟩,
 ⟨(some 14), .mv (.k (.lit .i64 0)), none, []⟩])
 (.block 0 (.loop (.seq (.ops [⟨(some 15), .cmp .lss (.t 14) (.t 13), none, []⟩])
 (.seq (.cond (.t 15) (.skip) (.exit 0))
 (.seq (.block 1 (.seq (.ops [⟨(some 16), .mv (.t 14), none, []⟩,
 ⟨(some 6), .mv (.t 16), none, []⟩])
 (.seq (.ops [⟨(some 17), .mv (.t 5), none, []⟩,
 ⟨(some 18), .bin .shl .u64 (.t 17) (.k (.lit .u64 1)), none, []⟩,
 ⟨(some 5), .mv (.t 18), none, []⟩])
 (.seq (.ops [⟨(some 19), .mv (.t 0), none, []⟩,
 ⟨(some 20), .nilchk (.t 19), none, []⟩,
 ⟨(some 21), .fadr 1 (.t 20), none, []⟩,
 ⟨(some 22), .fadr 0 (.t 21), none, []⟩,
 ⟨(some 23), .load1 (.t 22), none, []⟩,
 ⟨(some 24), .bin .sub .i64 (.t 23) (.k (.lit .i64 1)), none, []⟩,
 ⟨(some 25), .mv (.t 6), none, []⟩,
 ⟨(some 26), .bin .sub .i64 (.t 24) (.t 25), none, []⟩,
 ⟨(some 7), .mv (.t 26), none, []⟩])
 (.seq (.ops [⟨(some 27), .mv (.t 7), none, []⟩,
 ⟨(some 28), .cmp .geq (.t 27) (.k (.lit .i64 0)), none, []⟩])
 (.cond (.t 28) (.ops [⟨(some 29), .mv (.t 5), none, []⟩,
 ⟨(some 30), .mv (.t 0), none, []⟩,
 ⟨(some 31), .nilchk (.t 30), none, []⟩,
 ⟨(some 32), .fadr 0 (.t 31), none, []⟩,
 ⟨(some 33), .load1 (.t 32), none, []⟩,
 ⟨(some 34), .mv (.t 7), none, []⟩,
 ⟨(some 35), .bin .quo .i64 (.t 34) (.k (.lit .i64 8)), none, []⟩,
 ⟨(some 36), .iadr 1 (.t 33) (.t 35), none, []⟩,
 ⟨(some 37), .load1 (.t 36), none, []⟩,
 ⟨(some 38), .mv (.t 7), none, []⟩,
 ⟨(some 39), .bin .rem .i64 (.t 38) (.k (.lit .i64 8)), none, []⟩,
 ⟨(some 40), .conv .u64 (.t 39), none, []⟩,
 ⟨(some 41), .bin .shr .u8 (.t 37) (.t 40), none, []⟩,
 ⟨(some 42), .conv .u64 (.t 41), none, []⟩,
 ⟨(some 43), .bin .and .u64 (.t 42) (.k (.lit .u64 1)), none, []⟩,
 ⟨(some 44), .bin .or .u64 (.t 29) (.t 43), none, []⟩,
 ⟨(some 5), .mv (.t 44), none, []⟩]) (.skip)))))))
 (.ops [⟨(some 45), .bin .add .i64 (.t 14) (.k (.lit .i64 1)), none, []⟩,
 ⟨(some 14), .mv (.t 45), none, []⟩])))))))
 (.seq (.seq (.ops [⟨(some 46), .mv (.t 0), none, []⟩,
 ⟨(some 47), .mv (.t 0), none, []⟩,
 ⟨(some 48), .nilchk (.t 47), none, []⟩,
 ⟨(some 49), .fadr 1 (.t 48), none, []⟩,
 ⟨(some 50), .fadr 0 (.t 49), none, []⟩,
 ⟨(some 51), .load1 (.t 50), none, []⟩,
 ⟨(some 52), .mv (.t 1), none, []⟩,
 ⟨(some 53), .bin .sub .i64 (.t 51) (.t 52), none, []⟩,
 ⟨(some 54), .build [(.lit .i64 0)] [⟨0, 1, (.t 53)⟩], none, []⟩,
 ⟨(some 55), .nilchk (.t 46), none, []⟩,
 ⟨(some 56), .fadr 1 (.t 55), none, []⟩,
 ⟨none, .storeA 1 (.t 56) (.t 54), none, []⟩])
 (.seq (.ops [⟨(some 57), .mv (.t 0), none, []⟩,
 ⟨(some 58), .nilchk (.t 57), none, []⟩,
 ⟨(some 59), .fadr 1 (.t 58), none, []⟩,
 ⟨(some 60), .fadr 0 (.t 59), none, []⟩,
 ⟨(some 61), .load1 (.t 60), none, []⟩,
 ⟨(some 62), .cmp .lss (.t 61) (.k (.lit .i64 (-1099511627776))), none, []⟩])
 (.cond (.t 62) (.ops [⟨(some 63), .mv (.t 0), none, []⟩,
 ⟨(some 64), .build [(.lit .i64 0)] [⟨0, 1, (.k (.lit .i64 (-1099511627776)))⟩], none, []⟩,
 ⟨(some 65), .nilchk (.t 63), none, []⟩,
 ⟨(some 66), .fadr 1 (.t 65), none, []⟩,
 ⟨none, .storeA 1 (.t 66) (.t 64), none, []⟩]) (.skip))))
 (.seq (.ops [⟨(some 67), .mv (.t 5), none, []⟩,
 ⟨(some 4), .mv (.t 67), none, []⟩])
 (.ret)))))))
theorem fn41 : FnOk Try.prog 41 x41 68 [4] := FnOk.of Try.call41 Try.func41 (by kernel_rfl) Try.ntmps41 (by kernel_rfl)
/-- (*baler/tail.Reader).Left -/
def x42 : XC :=
 .seq (.ops [⟨(some 2), .mv (.k (.lit .i64 0)), none, []⟩])
 (.seq (.seq (.ops [⟨(some 3), .mv (.t 0), none, []⟩,
 ⟨(some 4), .eqv false 2 (.t 3) (.k (.val (.pointer none))), none, []⟩])
 (.cond (.t 4) (.seq (.ops [⟨(some 2), .mv (.k (.lit .i64 0)), none, []⟩])
 (.ret)) (.skip)))
 (.seq (.ops [⟨(some 5), .mv (.t 0), none, []⟩,
 ⟨(some 6), .nilchk (.t 5), none, []⟩,
 ⟨(some 7), .fadr 1 (.t 6), none, []⟩,
 ⟨(some 8), .fadr 0 (.t 7), none, []⟩,
 ⟨(some 9), .load1 (.t 8), none, []⟩,
 ⟨(some 2), .mv (.t 9), none, []⟩])
 (.ret)))
theorem fn42 : FnOk Try.prog 42 x42 10 [2] := FnOk.of Try.call42 Try.func42 (by kernel_rfl) Try.ntmps42 (by kernel_rfl)
/-- baler/states.Read -/
def x43 : XC :=
 .seq (.ops [⟨(some 6), .mv (.k (.val (.slice none 0 0))), none, []⟩,
 ⟨(some 7), .mv (.k (.lit .i64 0)), none, []⟩,
 ⟨(some 8), .mv (.k (.lit .i64 0)), none, []⟩,
 ⟨(some 9), .mv (.k (.lit .i64 0)), none, []⟩])
 (.scope (.seq (.seq (.ops [⟨(some 21), .mv (.t 1), none, []⟩,
 ⟨(some 22), .cmp .lss (.t 21) (.k (.lit .i64 5)), none, []⟩,
 ⟨(some 23), .mv (.t 22), none, []⟩,
 ⟨(some 24), .mv (.t 1), some (23, false), []⟩,
 ⟨(some 25), .cmp .gtr (.t 24) (.k (.lit .i64 12)), some (23, false), []⟩,
 ⟨(some 26), .pick (.t 23) (.k (.bool true)) (.t 25), none, []⟩,
 ⟨(some 27), .mv (.t 26), none, []⟩,
 ⟨(some 28), .mv (.t 2), some (27, false), []⟩,
 ⟨(some 29), .cmp .lss (.t 28) (.k (.lit .i64 0)), some (27, false), []⟩,
 ⟨(some 30), .pick (.t 27) (.k (.bool true)) (.t 29), none, []⟩,
 ⟨(some 31), .mv (.t 30), none, []⟩,
 ⟨(some 32), .mv (.t 2), some (31, false), []⟩,
 ⟨(some 33), .cmp .gtr (.t 32) (.k (.lit .i64 255)), some (31, false), []⟩,
 ⟨(some 34), .pick (.t 31) (.k (.bool true)) (.t 33), none, []⟩])
 (.cond (.t 34) (.seq (.ops [⟨(some 6), .mv (.k (.val (.slice none 0 0))), none, []⟩,
 ⟨(some 7), .mv (.k (.lit .i64 0)), none, []⟩,
 ⟨(some 8), .mv (.k (.lit .i64 0)), none, []⟩,
 ⟨(some 9), .mv (.k (.lit .i64 2)), none, []⟩])
 (.ret)) (.skip)))
 (.seq (.ops [⟨(some 35), .mv (.t 0), none, []⟩,
 ⟨(some 36), .call (.k (.fn 67 [])) [(.t 35)], none, []⟩,
 ⟨(some 10), .mv (.t 36), none, []⟩])
 (.seq (.ops [⟨(some 38), .mv (.t 10), none, []⟩,
 ⟨(some 39), .call (.k (.fn 68 [])) [(.t 38), (.k (.lit .i64 4))], none, []⟩,
 ⟨(some 37), .mv (.t 39), none, []⟩,
 ⟨(some 40), .extract (.t 37) 0, none, []⟩,
 ⟨(some 41), .extract (.t 37) 1, none, []⟩,
 ⟨(some 11), .mv (.t 40), none, []⟩,
 ⟨(some 9), .mv (.t 41), none, []⟩])
 (.seq (.seq (.ops [⟨(some 42), .mv (.t 9), none, []⟩,
 ⟨(some 43), .cmp .neq (.t 42) (.k (.lit .i64 0)), none, []⟩])
 (.cond (.t 43) (.seq (.ops [⟨(some 44), .mv (.t 9), none, []⟩,
 ⟨(some 6), .mv (.k (.val (.slice none 0 0))), none, []⟩,
 ⟨(some 7), .mv (.k (.lit .i64 0)), none, []⟩,
 ⟨(some 8), .mv (.k (.lit .i64 0)), none, []⟩,
 ⟨(some 9), .mv (.t 44), none, []⟩])
 (.ret)) (.skip)))
 (.seq (.seq (.ops [⟨(some 45), .mv (.t 11), none, []⟩,
 ⟨(some 46), .conv .i64 (.t 45), none, []⟩,
 ⟨(some 47), .bin .add .i64 (.t 46) (.k (.lit .i64 5)), none, []⟩,
 ⟨(some 7), .mv (.t 47), none, []⟩])
 (.seq (.ops [⟨(some 48), .mv (.t 7), none, []⟩,
 ⟨(some 49), .mv (.t 1), none, []⟩,
 ⟨(some 50), .cmp .gtr (.t 48) (.t 49), none, []⟩])
 (.cond (.t 50) (.seq (.ops [⟨(some 6), .mv (.k (.val (.slice none 0 0))), none, []⟩,
 ⟨(some 7), .mv (.k (.lit .i64 0)), none, []⟩,
 ⟨(some 8), .mv (.k (.lit .i64 0)), none, []⟩,
 ⟨(some 9), .mv (.k (.lit .i64 11)), none, []⟩])
 (.ret)) (.skip))))
 (.seq (.ops [⟨(some 51), .mv (.t 7), none, []⟩,
 ⟨(some 52), .conv .u64 (.t 51), none, []⟩,
 ⟨(some 53), .bin .shl .i64 (.k (.lit .i64 1)) (.t 52), none, []⟩,
 ⟨(some 12), .mv (.t 53), none, []⟩])
 (.seq (.skip)
 (.seq (.block 0 (.loop (.seq (.seq (.ops [⟨(some 54), .mv (.t 12), none, []⟩,
 ⟨(some 55), .cmp .gtr (.t 54) (.k (.lit .i64 0)), none, []⟩])
 (.cond (.t 55) (.skip) (.exit 0)))
 (.block 1 (.seq (.seq (.ops [⟨(some 56), .mv (.t 6), none, []⟩,
 ⟨(some 57), .len (.t 56), none, []⟩,
 ⟨(some 58), .mv (.t 2), none, []⟩,
 ⟨(some 59), .cmp .gtr (.t 57) (.t 58), none, []⟩])
 (.cond (.t 59) (.seq (.ops [⟨(some 6), .mv (.k (.val (.slice none 0 0))), none, []⟩,
 ⟨(some 7), .mv (.k (.lit .i64 0)), none, []⟩,
 ⟨(some 8), .mv (.k (.lit .i64 0)), none, []⟩,
 ⟨(some 9), .mv (.k (.lit .i64 11)), none, []⟩])
 (.ret)) (.skip)))
 (.seq (.ops [⟨(some 60), .mv (.t 12), none, []⟩,
 ⟨(some 61), .bin .add .i64 (.t 60) (.k (.lit .i64 1)), none, []⟩,
 ⟨(some 62), .conv .u64 (.t 61), none, []⟩,
 ⟨(some 63), .call (.k (.fn 45 [])) [(.t 62)], none, []⟩,
 ⟨(some 13), .mv (.t 63), none, []⟩])
 (.seq (.ops [⟨(some 64), .mv (.t 13), none, []⟩,
 ⟨(some 65), .conv .u64 (.t 64), none, []⟩,
 ⟨(some 66), .bin .shl .i64 (.k (.lit .i64 1)) (.t 65), none, []⟩,
 ⟨(some 67), .bin .sub .i64 (.t 66) (.k (.lit .i64 1)), none, []⟩,
 ⟨(some 68), .mv (.t 12), none, []⟩,
 ⟨(some 69), .bin .add .i64 (.t 68) (.k (.lit .i64 1)), none, []⟩,
 ⟨(some 70), .bin .sub .i64 (.t 67) (.t 69), none, []⟩,
 ⟨(some 71), .conv .u64 (.t 70), none, []⟩,
 ⟨(some 14), .mv (.t 71), none, []⟩])
 (.seq (.ops [⟨(some 73), .mv (.t 10), none, []⟩,
 ⟨(some 74), .mv (.t 13), none, []⟩,
 ⟨(some 75), .bin .sub .i64 (.t 74) (.k (.lit .i64 1)), none, []⟩,
 ⟨(some 76), .call (.k (.fn 68 [])) [(.t 73), (.t 75)], none, []⟩,
 ⟨(some 72), .mv (.t 76), none, []⟩,
 ⟨(some 77), .extract (.t 72) 0, none, []⟩,
 ⟨(some 78), .extract (.t 72) 1, none, []⟩,
 ⟨(some 15), .mv (.t 77), none, []⟩,
 ⟨(some 16), .mv (.t 78), none, []⟩])
 (.seq (.seq (.ops [⟨(some 79), .mv (.t 16), none, []⟩,
 ⟨(some 80), .cmp .neq (.t 79) (.k (.lit .i64 0)), none, []⟩])
 (.cond (.t 80) (.seq (.ops [⟨(some 81), .mv (.t 16), none, []⟩,
 ⟨(some 6), .mv (.k (.val (.slice none 0 0))), none, []⟩,
 ⟨(some 7), .mv (.k (.lit .i64 0)), none, []⟩,
 ⟨(some 8), .mv (.k (.lit .i64 0)), none, []⟩,
 ⟨(some 9), .mv (.t 81), none, []⟩])
 (.ret)) (.skip)))
 (.seq (.seq (.ops [⟨(some 82), .mv (.t 15), none, []⟩,
 ⟨(some 83), .mv (.t 14), none, []⟩,
 ⟨(some 84), .cmp .geq (.t 82) (.t 83), none, []⟩])
 (.cond (.t 84) (.seq (.ops [⟨(some 86), .mv (.t 10), none, []⟩,
 ⟨(some 87), .call (.k (.fn 68 [])) [(.t 86), (.k (.lit .i64 1))], none, []⟩,
 ⟨(some 85), .mv (.t 87), none, []⟩,
 ⟨(some 88), .extract (.t 85) 0, none, []⟩,
 ⟨(some 89), .extract (.t 85) 1, none, []⟩,
 ⟨(some 17), .mv (.t 88), none, []⟩,
 ⟨(some 18), .mv (.t 89), none, []⟩])
 (.seq (.seq (.ops [⟨(some 90), .mv (.t 18), none, []⟩,
 ⟨(some 91), .cmp .neq (.t 90) (.k (.lit .i64 0)), none, []⟩])
 (.cond (.t 91) (.seq (.ops [⟨(some 92), .mv (.t 18), none, []⟩,
 ⟨(some 6), .mv (.k (.val (.slice none 0 0))), none, []⟩,
 ⟨(some 7), .mv (.k (.lit .i64 0)), none, []⟩,
 ⟨(some 8), .mv (.k (.lit .i64 0)), none, []⟩,
 ⟨(some 9), .mv (.t 92), none, []⟩])
 (.ret)) (.skip)))
 (.seq (.ops [⟨(some 93), .mv (.t 17), none, []⟩,
 ⟨(some 94), .cmp .eql (.t 93) (.k (.lit .u64 1)), none, []⟩])
 (.cond (.t 94) (.ops [⟨(some 95), .mv (.t 15), none, []⟩,
 ⟨(some 96), .mv (.t 13), none, []⟩,
 ⟨(some 97), .bin .sub .i64 (.t 96) (.k (.lit .i64 1)), none, []⟩,
 ⟨(some 98), .conv .u64 (.t 97), none, []⟩,
 ⟨(some 99), .bin .shl .u64 (.k (.lit .u64 1)) (.t 98), none, []⟩,
 ⟨(some 100), .mv (.t 14), none, []⟩,
 ⟨(some 101), .bin .sub .u64 (.t 99) (.t 100), none, []⟩,
 ⟨(some 102), .bin .add .u64 (.t 95) (.t 101), none, []⟩,
 ⟨(some 15), .mv (.t 102), none, []⟩]) (.skip))))) (.skip)))
 (.seq (.ops [⟨(some 103), .mv (.t 15), none, []⟩,
 ⟨(some 104), .conv .i16 (.t 103), none, []⟩,
 ⟨(some 105), .bin .sub .i16 (.t 104) (.k (.lit .i16 1)), none, []⟩,
 ⟨(some 19), .mv (.t 105), none, []⟩])
 (.seq (.ops [⟨(some 106), .mv (.t 6), none, []⟩,
 ⟨(some 107), .mv (.t 19), none, []⟩,
 ⟨(some 108), .bsliceI 125 .i16 1 [⟨0, 1, (.t 107)⟩], none, []⟩,
 ⟨(some 109), .appI 125 .i16 2 (.t 106) (.t 108), none, []⟩,
 ⟨(some 6), .mv (.t 109), none, []⟩])
 (.seq (.ops [⟨(some 110), .mv (.t 12), none, []⟩,
 ⟨(some 111), .mv (.t 19), none, []⟩,
 ⟨(some 112), .call (.k (.fn 69 [])) [(.t 111)], none, []⟩,
 ⟨(some 113), .bin .sub .i64 (.t 110) (.t 112), none, []⟩,
 ⟨(some 12), .mv (.t 113), none, []⟩])
 (.seq (.seq (.ops [⟨(some 114), .mv (.t 19), none, []⟩,
 ⟨(some 115), .cmp .neq (.t 114) (.k (.lit .i16 0)), none, []⟩])
 (.cond (.t 115) (.exit 1) (.skip)))
 (.seq (.seq (.ops [⟨(some 116), .mv (.t 6), none, []⟩,
 ⟨(some 117), .len (.t 116), none, []⟩,
 ⟨(some 118), .mv (.t 2), none, []⟩,
 ⟨(some 119), .cmp .gtr (.t 117) (.t 118), none, []⟩])
 (.cond (.t 119) (.seq (.ops [⟨(some 6), .mv (.k (.val (.slice none 0 0))), none, []⟩,
 ⟨(some 7), .mv (.k (.lit .i64 0)), none, []⟩,
 ⟨(some 8), .mv (.k (.lit .i64 0)), none, []⟩,
 ⟨(some 9), .mv (.k (.lit .i64 11)), none, []⟩])
 (.ret)) (.skip)))
 (.seq (.ops [⟨(some 20), .mv (.k (.lit .u64 3)), none, []⟩])
 (.block 2 (.loop (.seq (.seq (.ops [⟨(some 120), .mv (.t 20), none, []⟩,
 ⟨(some 121), .cmp .eql (.t 120) (.k (.lit .u64 3)), none, []⟩])
 (.cond (.t 121) (.skip) (.exit 2)))
 (.block 3 (.seq (.seq (.ops [⟨(some 123), .mv (.t 10), none, []⟩,
 ⟨(some 124), .call (.k (.fn 68 [])) [(.t 123), (.k (.lit .i64 2))], none, []⟩,
 ⟨(some 122), .mv (.t 124), none, []⟩,
 ⟨(some 125), .extract (.t 122) 0, none, []⟩,
 ⟨(some 126), .extract (.t 122) 1, none, []⟩,
 ⟨(some 20), .mv (.t 125), none, []⟩,
 ⟨(some 16), .mv (.t 126), none, []⟩])
 (.seq (.ops [⟨(some 127), .mv (.t 16), none, []⟩,
 ⟨(some 128), .cmp .neq (.t 127) (.k (.lit .i64 0)), none, []⟩])
 (.cond (.t 128) (.seq (.ops [⟨(some 129), .mv (.t 16), none, []⟩,
 ⟨(some 6), .mv (.k (.val (.slice none 0 0))), none, []⟩,
 ⟨(some 7), .mv (.k (.lit .i64 0)), none, []⟩,
 ⟨(some 8), .mv (.k (.lit .i64 0)), none, []⟩,
 ⟨(some 9), .mv (.t 129), none, []⟩])
 (.ret)) (.skip))))
 (.seq (.ops [⟨(some 130), .mv (.t 6), none, []⟩,
 ⟨(some 131), .mv (.t 20), none, []⟩,
 ⟨(some 132), .appZ 125 .i16 2 (.t 130) (.t 131), none, []⟩,
 ⟨(some 6), .mv (.t 132), none, []⟩])
 (.seq (.ops [⟨(some 133), .mv (.t 6), none, []⟩,
 ⟨(some 134), .len (.t 133), none, []⟩,
 ⟨(some 135), .mv (.t 2), none, []⟩,
 ⟨(some 136), .cmp .gtr (.t 134) (.t 135), none, []⟩])
 (.cond (.t 136) (.seq (.ops [⟨(some 6), .mv (.k (.val (.slice none 0 0))), none, []⟩,
 ⟨(some 7), .mv (.k (.lit .i64 0)), none, []⟩,
 ⟨(some 8), .mv (.k (.lit .i64 0)), none, []⟩,
 ⟨(some 9), .mv (.k (.lit .i64 11)), none, []⟩])
 (.ret)) (.skip)))))))))))))))))))))))))
 (.seq (.ops [⟨(some 137), .mv (.t 6), none, []⟩,
 ⟨(some 138), .mv (.t 7), none, []⟩,
 ⟨(some 139), .mv (.t 0), none, []⟩,
 ⟨(some 140), .len (.t 139), none, []⟩,
 ⟨(some 141), .mv (.t 10), none, []⟩,
 ⟨(some 142), .call (.k (.fn 70 [])) [(.t 141)], none, []⟩,
 ⟨(some 143), .bin .quo .i64 (.t 142) (.k (.lit .i64 8)), none, []⟩,
 ⟨(some 144), .bin .sub .i64 (.t 140) (.t 143), none, []⟩,
 ⟨(some 6), .mv (.t 137), none, []⟩,
 ⟨(some 7), .mv (.t 138), none, []⟩,
 ⟨(some 8), .mv (.t 144), none, []⟩,
 ⟨(some 9), .mv (.k (.lit .i64 0)), none, []⟩])
 (.ret)))))))))))
theorem fn43 : FnOk Try.prog 43 x43 145 [6, 7, 8, 9] := FnOk.of Try.call43 Try.func43 (by kernel_rfl) Try.ntmps43 (by kernel_rfl)
/-- baler/states.Table -/
def x44 : XC :=
 .seq (.ops [⟨(some 4), .mv (.k (.val (.slice none 0 0))), none, []⟩,
 ⟨(some 5), .mv (.k (.lit .i64 0)), none, []⟩])
 (.seq (.seq (.ops [⟨(some 18), .mv (.t 0), none, []⟩,
 ⟨(some 19), .mv (.t 1), none, []⟩,
 ⟨(some 20), .call (.k (.fn 71 [])) [(.t 18), (.t 19)], none, []⟩,
 ⟨(some 21), .not (.t 20), none, []⟩])
 (.cond (.t 21) (.seq (.ops [⟨(some 4), .mv (.k (.val (.slice none 0 0))), none, []⟩,
 ⟨(some 5), .mv (.k (.lit .i64 70)), none, []⟩])
 (.ret)) (.skip)))
 (.seq (.ops [⟨(some 22), .mv (.t 1), none, []⟩,
 ⟨(some 23), .conv .u64 (.t 22), none, []⟩,
 ⟨(some 24), .bin .shl .i64 (.k (.lit .i64 1)) (.t 23), none, []⟩,
 ⟨(some 6), .mv (.t 24), none, []⟩])
 (.seq (.ops [⟨(some 25), .mv (.t 6), none, []⟩,
 ⟨(some 26), .mkslR 86 3 4 [(.lit .u8 0), (.lit .u8 0), (.lit .u16 0)] (.t 25) (.t 25), none, []⟩,
 ⟨(some 7), .newR 36 [(.val (.slice none 0 0))], none, []⟩,
 ⟨none, .store1 (.t 7) (.t 26), none, []⟩])
 (.seq (.ops [⟨(some 27), .mv (.t 6), none, []⟩,
 ⟨(some 8), .mv (.t 27), none, []⟩])
 (.seq (.ops [⟨(some 9), .newR 22 [(.val (.slice none 0 0))], none, []⟩])
 (.seq (.ops [⟨(some 10), .newI 147 .i64 256, none, []⟩])
 (.seq (.seq (.ops [⟨(some 28), .mv (.t 0), none, []⟩,
 ⟨(some 29), .len (.t 28), none, []⟩,
 ⟨(some 30), .mv (.k (.lit .i64 0)), none, []⟩])
 (.block 0 (.loop (.seq (.ops [⟨(some 31), .cmp .lss (.t 30) (.t 29), none, []⟩])
 (.seq (.cond (.t 31) (.skip) (.exit 0))
 (.seq (.block 1 (.seq (.ops [⟨(some 32), .mv (.t 30), none, []⟩,
 ⟨(some 33), .iadr 1 (.t 28) (.t 30), none, []⟩,
 ⟨(some 34), .load1 (.t 33), none, []⟩,
 ⟨(some 11), .mv (.t 32), none, []⟩,
 ⟨(some 12), .mv (.t 34), none, []⟩])
 (.seq (.ops [⟨(some 35), .mv (.t 11), none, []⟩,
 ⟨(some 36), .mv (.t 12), none, []⟩,
 ⟨(some 37), .call (.k (.fn 69 [])) [(.t 36)], none, []⟩,
 ⟨(some 38), .iadrA 256 1 (.t 10) (.t 35), none, []⟩,
 ⟨none, .store1 (.t 38) (.t 37), none, []⟩])
 (.seq (.seq (.ops [⟨(some 39), .mv (.t 12), none, []⟩,
 ⟨(some 40), .cmp .lss (.t 39) (.k (.lit .i16 0)), none, []⟩])
 (.cond (.t 40) (.seq (.ops [⟨(some 41), .mv (.t 8), none, []⟩,
 ⟨(some 42), .bin .sub .i64 (.t 41) (.k (.lit .i64 1)), none, []⟩,
 ⟨(some 8), .mv (.t 42), none, []⟩])
 (.seq (.ops [⟨(some 43), .load1 (.t 7), none, []⟩,
 ⟨(some 44), .mv (.t 8), none, []⟩,
 ⟨(some 45), .mv (.t 11), none, []⟩,
 ⟨(some 46), .conv .u8 (.t 45), none, []⟩,
 ⟨(some 47), .iadr 3 (.t 43) (.t 44), none, []⟩,
 ⟨(some 48), .fadr 0 (.t 47), none, []⟩,
 ⟨none, .store1 (.t 48) (.t 46), none, []⟩])
 (.exit 1))) (.skip)))
 (.seq (.ops [⟨(some 49), .mv (.t 12), none, []⟩,
 ⟨(some 50), .mv (.k (.lit .i16 0)), none, []⟩])
 (.block 2 (.loop (.seq (.ops [⟨(some 51), .cmp .lss (.t 50) (.t 49), none, []⟩])
 (.seq (.cond (.t 51) (.skip) (.exit 2))
 (.seq (.block 3 (.ops [⟨(some 52), .load1 (.t 9), none, []⟩,
 ⟨(some 53), .mv (.t 11), none, []⟩,
 ⟨(some 54), .conv .u8 (.t 53), none, []⟩,
 ⟨(some 55), .bsliceI 5 .u8 1 [⟨0, 1, (.t 54)⟩], none, []⟩,
 ⟨(some 56), .appI 5 .u8 1 (.t 52) (.t 55), none, []⟩,
 ⟨none, .store1 (.t 9) (.t 56), none, []⟩]))
 (.ops [⟨(some 57), .bin .add .i16 (.t 50) (.k (.lit .i16 1)), none, []⟩,
 ⟨(some 50), .mv (.t 57), none, []⟩])))))))))))
 (.ops [⟨(some 58), .bin .add .i64 (.t 30) (.k (.lit .i64 1)), none, []⟩,
 ⟨(some 30), .mv (.t 58), none, []⟩])))))))
 (.seq (.ops [⟨(some 13), .newR 3 [(.lit .i64 0)], none, []⟩,
 ⟨none, .store1 (.t 13) (.k (.lit .i64 0)), none, []⟩])
 (.seq (.seq (.ops [⟨(some 59), .mv (.t 6), none, []⟩,
 ⟨(some 60), .mv (.t 8), none, []⟩,
 ⟨(some 61), .call (.k (.fn 72 [])) [(.t 59), (.t 60)], none, []⟩])
 (.block 4 (.range (.t 61) [62] (.ops [⟨(some 14), .mv (.t 62), none, []⟩]) (.block 5 (.seq (.ops [⟨(some 63), .load1 (.t 7), none, []⟩,
 ⟨(some 64), .mv (.t 14), none, []⟩,
 ⟨(some 65), .load1 (.t 9), none, []⟩,
 ⟨(some 66), .load1 (.t 13), none, []⟩,
 ⟨(some 67), .iadr 1 (.t 65) (.t 66), none, []⟩,
 ⟨(some 68), .load1 (.t 67), none, []⟩,
 ⟨(some 69), .iadr 3 (.t 63) (.t 64), none, []⟩,
 ⟨(some 70), .fadr 0 (.t 69), none, []⟩,
 ⟨none, .store1 (.t 70) (.t 68), none, []⟩])
 (.ops [⟨(some 71), .load1 (.t 13), none, []⟩,
 ⟨(some 72), .bin .add .i64 (.t 71) (.k (.lit .i64 1)), none, []⟩,
 ⟨none, .store1 (.t 13) (.t 72), none, []⟩]))))))
 (.seq (.seq (.ops [⟨(some 73), .load1 (.t 7), none, []⟩,
 ⟨(some 74), .len (.t 73), none, []⟩,
 ⟨(some 75), .mv (.k (.lit .i64 0)), none, []⟩])
 (.block 6 (.loop (.seq (.ops [⟨(some 76), .cmp .lss (.t 75) (.t 74), none, []⟩])
 (.seq (.cond (.t 76) (.skip) (.exit 6))
 (.seq (.block 7 (.seq (.ops [⟨(some 77), .mv (.t 75), none, []⟩,
 ⟨(some 15), .mv (.t 77), none, []⟩])
 (.seq (.ops [⟨(some 78), .load1 (.t 7), none, []⟩,
 ⟨(some 79), .mv (.t 15), none, []⟩,
 ⟨(some 80), .iadr 3 (.t 78) (.t 79), none, []⟩,
 ⟨(some 16), .mv (.t 80), none, []⟩])
 (.seq (.ops [⟨(some 81), .mv (.t 1), none, []⟩,
 ⟨(some 82), .bin .add .i64 (.t 81) (.k (.lit .i64 1)), none, []⟩,
 ⟨(some 83), .mv (.t 16), none, []⟩,
 ⟨(some 84), .nilchk (.t 83), none, []⟩,
 ⟨(some 85), .fadr 0 (.t 84), none, []⟩,
 ⟨(some 86), .load1 (.t 85), none, []⟩,
 ⟨(some 87), .iadrA 256 1 (.t 10) (.t 86), none, []⟩,
 ⟨(some 88), .load1 (.t 87), none, []⟩,
 ⟨(some 89), .conv .u64 (.t 88), none, []⟩,
 ⟨(some 90), .call (.k (.fn 45 [])) [(.t 89)], none, []⟩,
 ⟨(some 91), .bin .sub .i64 (.t 82) (.t 90), none, []⟩,
 ⟨(some 17), .mv (.t 91), none, []⟩])
 (.seq (.ops [⟨(some 92), .mv (.t 16), none, []⟩,
 ⟨(some 93), .mv (.t 16), none, []⟩,
 ⟨(some 94), .mv (.t 17), none, []⟩,
 ⟨(some 95), .conv .u8 (.t 94), none, []⟩,
 ⟨(some 96), .mv (.t 16), none, []⟩,
 ⟨(some 97), .nilchk (.t 96), none, []⟩,
 ⟨(some 98), .fadr 0 (.t 97), none, []⟩,
 ⟨(some 99), .load1 (.t 98), none, []⟩,
 ⟨(some 100), .iadrA 256 1 (.t 10) (.t 99), none, []⟩,
 ⟨(some 101), .load1 (.t 100), none, []⟩,
 ⟨(some 102), .mv (.t 17), none, []⟩,
 ⟨(some 103), .conv .u64 (.t 102), none, []⟩,
 ⟨(some 104), .bin .shl .i64 (.t 101) (.t 103), none, []⟩,
 ⟨(some 105), .mv (.t 6), none, []⟩,
 ⟨(some 106), .bin .sub .i64 (.t 104) (.t 105), none, []⟩,
 ⟨(some 107), .conv .u16 (.t 106), none, []⟩,
 ⟨(some 108), .nilchk (.t 92), none, []⟩,
 ⟨(some 109), .fadr 1 (.t 108), none, []⟩,
 ⟨none, .store1 (.t 109) (.t 95), none, [(.load1 (.t 100), 101, none)]⟩,
 ⟨(some 110), .nilchk (.t 93), none, []⟩,
 ⟨(some 111), .fadr 2 (.t 110), none, []⟩,
 ⟨none, .store1 (.t 111) (.t 107), none, []⟩])
 (.ops [⟨(some 112), .mv (.t 16), none, []⟩,
 ⟨(some 113), .nilchk (.t 112), none, []⟩,
 ⟨(some 114), .fadr 0 (.t 113), none, []⟩,
 ⟨(some 115), .load1 (.t 114), none, []⟩,
 ⟨(some 116), .iadrA 256 1 (.t 10) (.t 115), none, []⟩,
 ⟨(some 117), .load1 (.t 116), none, []⟩,
 ⟨(some 118), .bin .add .i64 (.t 117) (.k (.lit .i64 1)), none, []⟩,
 ⟨(some 119), .iadrA 256 1 (.t 10) (.t 115), none, []⟩,
 ⟨none, .store1 (.t 119) (.t 118), none, []⟩]))))))
 (.ops [⟨(some 120), .bin .add .i64 (.t 75) (.k (.lit .i64 1)), none, []⟩,
 ⟨(some 75), .mv (.t 120), none, []⟩])))))))
 (.seq (.ops [⟨(some 121), .load1 (.t 7), none, []⟩,
 ⟨(some 4), .mv (.t 121), none, []⟩,
 ⟨(some 5), .mv (.k (.lit .i64 0)), none, []⟩])
 (.ret))))))))))))
theorem fn44 : FnOk Try.prog 44 x44 122 [4, 5] := FnOk.of Try.call44 Try.func44 (by kernel_rfl) Try.ntmps44 (by kernel_rfl)
/-- math/bits.Len -/
def x45 : XC :=
 .seq (.ops [⟨(some 2), .mv (.k (.lit .i64 0)), none, []⟩])
 (.seq (.cond (.k (.bool false)) (.seq (.ops [⟨(some 3), .mv (.t 0), none, []⟩,
 ⟨(some 4), .conv .u32 (.t 3), none, []⟩,
 ⟨(some 5), .call (.k (.fn 73 [])) [(.t 4)], none, []⟩,
 ⟨(some 2), .mv (.t 5), none, []⟩])
 (.ret)) (.skip))
 (.seq (.ops [⟨(some 6), .mv (.t 0), none, []⟩,
 ⟨(some 7), .call (.k (.fn 74 [])) [(.t 6)], none, []⟩,
 ⟨(some 2), .mv (.t 7), none, []⟩])
 (.ret)))
theorem fn45 : FnOk Try.prog 45 x45 8 [2] := FnOk.of Try.call45 Try.func45 (by kernel_rfl) Try.ntmps45 (by kernel_rfl)
/-- baler/weights.size -/
def x46 : XC :=
 .seq (.ops [⟨(some 2), .mv (.k (.lit .i64 0)), none, []⟩])
 (.seq (.seq (.ops [⟨(some 7), .mv (.t 0), none, []⟩,
 ⟨(some 8), .len (.t 7), none, []⟩,
 ⟨(some 9), .cmp .lss (.t 8) (.k (.lit .i64 2)), none, []⟩,
 ⟨(some 10), .mv (.t 9), none, []⟩,
 ⟨(some 11), .mv (.t 0), some (10, false), []⟩,
 ⟨(some 12), .len (.t 11), some (10, false), []⟩,
 ⟨(some 13), .cmp .gtr (.t 12) (.k (.lit .i64 256)), some (10, false), []⟩,
 ⟨(some 14), .pick (.t 10) (.k (.bool true)) (.t 13), none, []⟩,
 ⟨(some 15), .mv (.t 14), none, []⟩,
 ⟨(some 16), .mv (.t 0), some (15, false), []⟩,
 ⟨(some 17), .mv (.t 0), some (15, false), []⟩,
 ⟨(some 18), .len (.t 17), some (15, false), []⟩,
 ⟨(some 19), .bin .sub .i64 (.t 18) (.k (.lit .i64 1)), some (15, false), []⟩,
 ⟨(some 20), .iadr 1 (.t 16) (.t 19), some (15, false), []⟩,
 ⟨(some 21), .load1 (.t 20), some (15, false), []⟩,
 ⟨(some 22), .cmp .eql (.t 21) (.k (.lit .u8 0)), some (15, false), []⟩,
 ⟨(some 23), .pick (.t 15) (.k (.bool true)) (.t 22), none, []⟩])
 (.cond (.t 23) (.seq (.ops [⟨(some 2), .mv (.k (.lit .i64 0)), none, []⟩])
 (.ret)) (.skip)))
 (.seq (.ops [⟨(some 3), .mv (.k (.lit .u64 0)), none, []⟩,
 ⟨(some 4), .mv (.k (.lit .i64 0)), none, []⟩])
 (.seq (.seq (.ops [⟨(some 24), .mv (.t 0), none, []⟩,
 ⟨(some 25), .len (.t 24), none, []⟩,
 ⟨(some 26), .mv (.k (.lit .i64 0)), none, []⟩])
 (.block 0 (.loop (.seq (.ops [⟨(some 27), .cmp .lss (.t 26) (.t 25), none, []⟩])
 (.seq (.cond (.t 27) (.skip) (.exit 0))
 (.seq (.block 1 (.seq (.ops [⟨(some 28), .iadr 1 (.t 24) (.t 26), none, []⟩,
 ⟨(some 29), .load1 (.t 28), none, []⟩,
 ⟨(some 6), .mv (.t 29), none, []⟩])
 (.seq (.block 2 (.seq (.ops [⟨(some 31), .mv (.t 6), none, []⟩,
 ⟨(some 32), .cmp .gtr (.t 31) (.k (.lit .u8 11)), none, []⟩,
 ⟨(some 30), .mv (.t 32), none, []⟩])
 (.cond (.t 30) (.seq (.ops [⟨(some 2), .mv (.k (.lit .i64 0)), none, []⟩])
 (.ret)) (.seq (.ops [⟨(some 34), .mv (.t 6), none, []⟩,
 ⟨(some 35), .cmp .eql (.t 34) (.k (.lit .u8 1)), none, []⟩,
 ⟨(some 33), .mv (.t 35), none, []⟩])
 (.cond (.t 33) (.ops [⟨(some 36), .mv (.t 4), none, []⟩,
 ⟨(some 37), .bin .add .i64 (.t 36) (.k (.lit .i64 1)), none, []⟩,
 ⟨(some 4), .mv (.t 37), none, []⟩]) (.skip))))))
 (.ops [⟨(some 38), .mv (.t 3), none, []⟩,
 ⟨(some 39), .mv (.t 6), none, []⟩,
 ⟨(some 40), .bin .shl .u64 (.k (.lit .u64 1)) (.t 39), none, []⟩,
 ⟨(some 41), .bin .shr .u64 (.t 40) (.k (.lit .u64 1)), none, []⟩,
 ⟨(some 42), .bin .add .u64 (.t 38) (.t 41), none, []⟩,
 ⟨(some 3), .mv (.t 42), none, []⟩]))))
 (.ops [⟨(some 43), .bin .add .i64 (.t 26) (.k (.lit .i64 1)), none, []⟩,
 ⟨(some 26), .mv (.t 43), none, []⟩])))))))
 (.seq (.seq (.ops [⟨(some 44), .mv (.t 4), none, []⟩,
 ⟨(some 45), .cmp .lss (.t 44) (.k (.lit .i64 2)), none, []⟩,
 ⟨(some 46), .mv (.t 45), none, []⟩,
 ⟨(some 47), .mv (.t 3), some (46, false), []⟩,
 ⟨(some 48), .mv (.t 3), some (46, false), []⟩,
 ⟨(some 49), .bin .sub .u64 (.t 48) (.k (.lit .u64 1)), some (46, false), []⟩,
 ⟨(some 50), .bin .and .u64 (.t 47) (.t 49), some (46, false), []⟩,
 ⟨(some 51), .cmp .neq (.t 50) (.k (.lit .u64 0)), some (46, false), []⟩,
 ⟨(some 52), .pick (.t 46) (.k (.bool true)) (.t 51), none, []⟩,
 ⟨(some 53), .mv (.t 52), none, []⟩,
 ⟨(some 54), .mv (.t 3), some (53, false), []⟩,
 ⟨(some 55), .cmp .gtr (.t 54) (.k (.lit .u64 2048)), some (53, false), []⟩,
 ⟨(some 56), .pick (.t 53) (.k (.bool true)) (.t 55), none, []⟩])
 (.cond (.t 56) (.seq (.ops [⟨(some 2), .mv (.k (.lit .i64 0)), none, []⟩])
 (.ret)) (.skip)))
 (.seq (.ops [⟨(some 57), .mv (.t 3), none, []⟩,
 ⟨(some 58), .call (.k (.fn 45 [])) [(.t 57)], none, []⟩,
 ⟨(some 59), .bin .sub .i64 (.t 58) (.k (.lit .i64 1)), none, []⟩,
 ⟨(some 2), .mv (.t 59), none, []⟩])
 (.ret))))))
theorem fn46 : FnOk Try.prog 46 x46 60 [2] := FnOk.of Try.call46 Try.func46 (by kernel_rfl) Try.ntmps46 (by kernel_rfl)
/-- baler/balerref07.Read -/
def x47 : XC :=
 .seq (.ops [⟨(some 6), .mv (.k (.val (.slice none 0 0))), none, []⟩,
 ⟨(some 7), .mv (.k (.lit .i64 0)), none, []⟩,
 ⟨(some 8), .mv (.k (.lit .i64 0)), none, []⟩,
 ⟨(some 9), .mv (.k (.lit .i64 0)), none, []⟩])
 (.seq (.seq (.ops [⟨(some 19), .mv (.t 1), none, []⟩,
 ⟨(some 20), .cmp .lss (.t 19) (.k (.lit .i64 5)), none, []⟩,
 ⟨(some 21), .mv (.t 20), none, []⟩,
 ⟨(some 22), .mv (.t 1), some (21, false), []⟩,
 ⟨(some 23), .cmp .gtr (.t 22) (.k (.lit .i64 12)), some (21, false), []⟩,
 ⟨(some 24), .pick (.t 21) (.k (.bool true)) (.t 23), none, []⟩,
 ⟨(some 25), .mv (.t 24), none, []⟩,
 ⟨(some 26), .mv (.t 2), some (25, false), []⟩,
 ⟨(some 27), .cmp .lss (.t 26) (.k (.lit .i64 0)), some (25, false), []⟩,
 ⟨(some 28), .pick (.t 25) (.k (.bool true)) (.t 27), none, []⟩,
 ⟨(some 29), .mv (.t 28), none, []⟩,
 ⟨(some 30), .mv (.t 2), some (29, false), []⟩,
 ⟨(some 31), .cmp .gtr (.t 30) (.k (.lit .i64 255)), some (29, false), []⟩,
 ⟨(some 32), .pick (.t 29) (.k (.bool true)) (.t 31), none, []⟩])
 (.cond (.t 32) (.seq (.ops [⟨(some 6), .mv (.k (.val (.slice none 0 0))), none, []⟩,
 ⟨(some 7), .mv (.k (.lit .i64 0)), none, []⟩,
 ⟨(some 8), .mv (.k (.lit .i64 0)), none, []⟩,
 ⟨(some 9), .mv (.k (.lit .i64 2)), none, []⟩])
 (.ret)) (.skip)))
 (.seq (.ops [⟨(some 33), .mv (.t 0), none, []⟩,
 ⟨(some 34), .build [(.val (.slice none 0 0)), (.lit .i64 0)] [⟨0, 1, (.t 33)⟩], none, []⟩,
 ⟨(some 35), .box 156 none (.t 34), none, []⟩,
 ⟨(some 10), .mv (.t 35), none, []⟩])
 (.seq (.ops [⟨(some 37), .mv (.t 10), none, []⟩,
 ⟨(some 38), .call (.k (.fn 75 [])) [(.t 37), (.k (.lit .i64 4))], none, []⟩,
 ⟨(some 36), .mv (.t 38), none, []⟩,
 ⟨(some 39), .extract (.t 36) 0, none, []⟩,
 ⟨(some 40), .extract (.t 36) 1, none, []⟩,
 ⟨(some 11), .mv (.t 39), none, []⟩,
 ⟨(some 9), .mv (.t 40), none, []⟩])
 (.seq (.seq (.ops [⟨(some 41), .mv (.t 9), none, []⟩,
 ⟨(some 42), .cmp .neq (.t 41) (.k (.lit .i64 0)), none, []⟩])
 (.cond (.t 42) (.seq (.ops [⟨(some 43), .mv (.t 9), none, []⟩,
 ⟨(some 6), .mv (.k (.val (.slice none 0 0))), none, []⟩,
 ⟨(some 7), .mv (.k (.lit .i64 0)), none, []⟩,
 ⟨(some 8), .mv (.k (.lit .i64 0)), none, []⟩,
 ⟨(some 9), .mv (.t 43), none, []⟩])
 (.ret)) (.skip)))
 (.seq (.ops [⟨(some 44), .mv (.t 11), none, []⟩,
 ⟨(some 45), .conv .i64 (.t 44), none, []⟩,
 ⟨(some 46), .bin .add .i64 (.t 45) (.k (.lit .i64 5)), none, []⟩,
 ⟨(some 7), .mv (.t 46), none, []⟩])
 (.seq (.seq (.ops [⟨(some 47), .mv (.t 7), none, []⟩,
 ⟨(some 48), .mv (.t 1), none, []⟩,
 ⟨(some 49), .cmp .gtr (.t 47) (.t 48), none, []⟩])
 (.cond (.t 49) (.seq (.ops [⟨(some 6), .mv (.k (.val (.slice none 0 0))), none, []⟩,
 ⟨(some 7), .mv (.k (.lit .i64 0)), none, []⟩,
 ⟨(some 8), .mv (.k (.lit .i64 0)), none, []⟩,
 ⟨(some 9), .mv (.k (.lit .i64 11)), none, []⟩])
 (.ret)) (.skip)))
 (.seq (.ops [⟨(some 50), .mv (.t 7), none, []⟩,
 ⟨(some 51), .conv .u64 (.t 50), none, []⟩,
 ⟨(some 52), .bin .shl .i64 (.k (.lit .i64 1)) (.t 51), none, []⟩,
 ⟨(some 12), .mv (.t 52), none, []⟩])
 (.seq (.block 0 (.loop (.seq (.seq (.ops [⟨(some 53), .mv (.t 12), none, []⟩,
 ⟨(some 54), .cmp .gtr (.t 53) (.k (.lit .i64 0)), none, []⟩])
 (.cond (.t 54) (.skip) (.exit 0)))
 (.block 1 (.seq (.seq (.ops [⟨(some 55), .mv (.t 6), none, []⟩,
 ⟨(some 56), .len (.t 55), none, []⟩,
 ⟨(some 57), .mv (.t 2), none, []⟩,
 ⟨(some 58), .cmp .gtr (.t 56) (.t 57), none, []⟩])
 (.cond (.t 58) (.seq (.ops [⟨(some 6), .mv (.k (.val (.slice none 0 0))), none, []⟩,
 ⟨(some 7), .mv (.k (.lit .i64 0)), none, []⟩,
 ⟨(some 8), .mv (.k (.lit .i64 0)), none, []⟩,
 ⟨(some 9), .mv (.k (.lit .i64 11)), none, []⟩])
 (.ret)) (.skip)))
 (.seq (.ops [⟨(some 60), .mv (.t 10), none, []⟩,
 ⟨(some 61), .mv (.t 12), none, []⟩,
 ⟨(some 62), .bin .add .i64 (.t 61) (.k (.lit .i64 1)), none, []⟩,
 ⟨(some 63), .call (.k (.fn 76 [])) [(.t 60), (.t 62)], none, []⟩,
 ⟨(some 59), .mv (.t 63), none, []⟩,
 ⟨(some 64), .extract (.t 59) 0, none, []⟩,
 ⟨(some 65), .extract (.t 59) 1, none, []⟩,
 ⟨(some 13), .mv (.t 64), none, []⟩,
 ⟨(some 14), .mv (.t 65), none, []⟩])
 (.seq (.seq (.ops [⟨(some 66), .mv (.t 14), none, []⟩,
 ⟨(some 67), .cmp .neq (.t 66) (.k (.lit .i64 0)), none, []⟩])
 (.cond (.t 67) (.seq (.ops [⟨(some 68), .mv (.t 14), none, []⟩,
 ⟨(some 6), .mv (.k (.val (.slice none 0 0))), none, []⟩,
 ⟨(some 7), .mv (.k (.lit .i64 0)), none, []⟩,
 ⟨(some 8), .mv (.k (.lit .i64 0)), none, []⟩,
 ⟨(some 9), .mv (.t 68), none, []⟩])
 (.ret)) (.skip)))
 (.seq (.ops [⟨(some 69), .mv (.t 13), none, []⟩,
 ⟨(some 70), .bin .sub .i64 (.t 69) (.k (.lit .i64 1)), none, []⟩,
 ⟨(some 71), .conv .i16 (.t 70), none, []⟩,
 ⟨(some 15), .mv (.t 71), none, []⟩])
 (.seq (.ops [⟨(some 72), .mv (.t 6), none, []⟩,
 ⟨(some 73), .mv (.t 15), none, []⟩,
 ⟨(some 74), .bsliceI 125 .i16 1 [⟨0, 1, (.t 73)⟩], none, []⟩,
 ⟨(some 75), .appI 125 .i16 2 (.t 72) (.t 74), none, []⟩,
 ⟨(some 6), .mv (.t 75), none, []⟩])
 (.seq (.ops [⟨(some 76), .mv (.t 12), none, []⟩,
 ⟨(some 77), .mv (.t 15), none, []⟩,
 ⟨(some 78), .call (.k (.fn 77 [])) [(.t 77)], none, []⟩,
 ⟨(some 79), .bin .sub .i64 (.t 76) (.t 78), none, []⟩,
 ⟨(some 12), .mv (.t 79), none, []⟩])
 (.seq (.seq (.ops [⟨(some 80), .mv (.t 12), none, []⟩,
 ⟨(some 81), .cmp .lss (.t 80) (.k (.lit .i64 0)), none, []⟩])
 (.cond (.t 81) (.seq (.ops [⟨(some 6), .mv (.k (.val (.slice none 0 0))), none, []⟩,
 ⟨(some 7), .mv (.k (.lit .i64 0)), none, []⟩,
 ⟨(some 8), .mv (.k (.lit .i64 0)), none, []⟩,
 ⟨(some 9), .mv (.k (.lit .i64 11)), none, []⟩])
 (.ret)) (.skip)))
 (.seq (.seq (.ops [⟨(some 82), .mv (.t 15), none, []⟩,
 ⟨(some 83), .cmp .neq (.t 82) (.k (.lit .i16 0)), none, []⟩])
 (.cond (.t 83) (.exit 1) (.skip)))
 (.seq (.seq (.ops [⟨(some 84), .mv (.t 6), none, []⟩,
 ⟨(some 85), .len (.t 84), none, []⟩,
 ⟨(some 86), .mv (.t 2), none, []⟩,
 ⟨(some 87), .cmp .gtr (.t 85) (.t 86), none, []⟩])
 (.cond (.t 87) (.seq (.ops [⟨(some 6), .mv (.k (.val (.slice none 0 0))), none, []⟩,
 ⟨(some 7), .mv (.k (.lit .i64 0)), none, []⟩,
 ⟨(some 8), .mv (.k (.lit .i64 0)), none, []⟩,
 ⟨(some 9), .mv (.k (.lit .i64 11)), none, []⟩])
 (.ret)) (.skip)))
 (.block 2 (.loop (.block 3 (.seq (.ops [⟨(some 89), .mv (.t 10), none, []⟩,
 ⟨(some 90), .call (.k (.fn 75 [])) [(.t 89), (.k (.lit .i64 2))], none, []⟩,
 ⟨(some 88), .mv (.t 90), none, []⟩,
 ⟨(some 91), .extract (.t 88) 0, none, []⟩,
 ⟨(some 92), .extract (.t 88) 1, none, []⟩,
 ⟨(some 16), .mv (.t 91), none, []⟩,
 ⟨(some 17), .mv (.t 92), none, []⟩])
 (.seq (.seq (.ops [⟨(some 93), .mv (.t 17), none, []⟩,
 ⟨(some 94), .cmp .neq (.t 93) (.k (.lit .i64 0)), none, []⟩])
 (.cond (.t 94) (.seq (.ops [⟨(some 95), .mv (.t 17), none, []⟩,
 ⟨(some 6), .mv (.k (.val (.slice none 0 0))), none, []⟩,
 ⟨(some 7), .mv (.k (.lit .i64 0)), none, []⟩,
 ⟨(some 8), .mv (.k (.lit .i64 0)), none, []⟩,
 ⟨(some 9), .mv (.t 95), none, []⟩])
 (.ret)) (.skip)))
 (.seq (.seq (.ops [⟨(some 18), .mv (.k (.lit .i64 0)), none, []⟩])
 (.block 4 (.loop (.seq (.seq (.ops [⟨(some 96), .mv (.t 18), none, []⟩,
 ⟨(some 97), .mv (.t 16), none, []⟩,
 ⟨(some 98), .conv .i64 (.t 97), none, []⟩,
 ⟨(some 99), .cmp .lss (.t 96) (.t 98), none, []⟩])
 (.cond (.t 99) (.skip) (.exit 4)))
 (.seq (.block 5 (.ops [⟨(some 102), .mv (.t 6), none, []⟩,
 ⟨(some 103), .bsliceI 125 .i16 1 [⟨0, 1, (.k (.lit .i16 0))⟩], none, []⟩,
 ⟨(some 104), .appI 125 .i16 2 (.t 102) (.t 103), none, []⟩,
 ⟨(some 6), .mv (.t 104), none, []⟩]))
 (.ops [⟨(some 100), .mv (.t 18), none, []⟩,
 ⟨(some 101), .bin .add .i64 (.t 100) (.k (.lit .i64 1)), none, []⟩,
 ⟨(some 18), .mv (.t 101), none, []⟩]))))))
 (.seq (.seq (.ops [⟨(some 105), .mv (.t 6), none, []⟩,
 ⟨(some 106), .len (.t 105), none, []⟩,
 ⟨(some 107), .mv (.t 2), none, []⟩,
 ⟨(some 108), .cmp .gtr (.t 106) (.t 107), none, []⟩])
 (.cond (.t 108) (.seq (.ops [⟨(some 6), .mv (.k (.val (.slice none 0 0))), none, []⟩,
 ⟨(some 7), .mv (.k (.lit .i64 0)), none, []⟩,
 ⟨(some 8), .mv (.k (.lit .i64 0)), none, []⟩,
 ⟨(some 9), .mv (.k (.lit .i64 11)), none, []⟩])
 (.ret)) (.skip)))
 (.seq (.ops [⟨(some 109), .mv (.t 16), none, []⟩,
 ⟨(some 110), .cmp .lss (.t 109) (.k (.lit .u64 3)), none, []⟩])
 (.cond (.t 110) (.exit 2) (.skip)))))))))))))))))))))))
 (.seq (.ops [⟨(some 111), .mv (.t 6), none, []⟩,
 ⟨(some 112), .mv (.t 7), none, []⟩,
 ⟨(some 113), .mv (.t 10), none, []⟩,
 ⟨(some 114), .nilchk (.t 113), none, []⟩,
 ⟨(some 115), .fadr 1 (.t 114), none, []⟩,
 ⟨(some 116), .load1 (.t 115), none, []⟩,
 ⟨(some 117), .bin .add .i64 (.t 116) (.k (.lit .i64 7)), none, []⟩,
 ⟨(some 118), .bin .quo .i64 (.t 117) (.k (.lit .i64 8)), none, []⟩,
 ⟨(some 6), .mv (.t 111), none, []⟩,
 ⟨(some 7), .mv (.t 112), none, []⟩,
 ⟨(some 8), .mv (.t 118), none, []⟩,
 ⟨(some 9), .mv (.k (.lit .i64 0)), none, []⟩])
 (.ret))))))))))
theorem fn47 : FnOk Try.prog 47 x47 119 [6, 7, 8, 9] := FnOk.of Try.call47 Try.func47 (by kernel_rfl) Try.ntmps47 (by kernel_rfl)
/-- baler/balerref07.Table -/
def x48 : XC :=
 .seq (.ops [⟨(some 4), .mv (.k (.val (.slice none 0 0))), none, []⟩,
 ⟨(some 5), .mv (.k (.lit .i64 0)), none, []⟩])
 (.seq (.seq (.ops [⟨(some 19), .mv (.t 0), none, []⟩,
 ⟨(some 20), .mv (.t 1), none, []⟩,
 ⟨(some 21), .call (.k (.fn 78 [])) [(.t 19), (.t 20)], none, []⟩,
 ⟨(some 22), .not (.t 21), none, []⟩])
 (.cond (.t 22) (.seq (.ops [⟨(some 4), .mv (.k (.val (.slice none 0 0))), none, []⟩,
 ⟨(some 5), .mv (.k (.lit .i64 70)), none, []⟩])
 (.ret)) (.skip)))
 (.seq (.ops [⟨(some 23), .mv (.t 1), none, []⟩,
 ⟨(some 24), .conv .u64 (.t 23), none, []⟩,
 ⟨(some 25), .bin .shl .i64 (.k (.lit .i64 1)) (.t 24), none, []⟩,
 ⟨(some 6), .mv (.t 25), none, []⟩])
 (.seq (.ops [⟨(some 26), .mv (.t 6), none, []⟩,
 ⟨(some 27), .mkslI 3 .i64 8 (.t 26) (.t 26), none, []⟩,
 ⟨(some 7), .mv (.t 27), none, []⟩])
 (.seq (.ops [⟨(some 28), .mv (.t 6), none, []⟩,
 ⟨(some 8), .mv (.t 28), none, []⟩])
 (.seq (.seq (.ops [⟨(some 9), .mv (.k (.lit .i64 0)), none, []⟩])
 (.block 0 (.loop (.seq (.seq (.ops [⟨(some 29), .mv (.t 9), none, []⟩,
 ⟨(some 30), .mv (.t 0), none, []⟩,
 ⟨(some 31), .len (.t 30), none, []⟩,
 ⟨(some 32), .cmp .lss (.t 29) (.t 31), none, []⟩])
 (.cond (.t 32) (.skip) (.exit 0)))
 (.seq (.block 1 (.seq (.ops [⟨(some 35), .mv (.t 0), none, []⟩,
 ⟨(some 36), .mv (.t 9), none, []⟩,
 ⟨(some 37), .iadr 1 (.t 35) (.t 36), none, []⟩,
 ⟨(some 38), .load1 (.t 37), none, []⟩,
 ⟨(some 39), .cmp .eql (.t 38) (.k (.lit .i16 (-1))), none, []⟩])
 (.cond (.t 39) (.seq (.ops [⟨(some 40), .mv (.t 8), none, []⟩,
 ⟨(some 41), .bin .sub .i64 (.t 40) (.k (.lit .i64 1)), none, []⟩,
 ⟨(some 8), .mv (.t 41), none, []⟩])
 (.ops [⟨(some 42), .mv (.t 7), none, []⟩,
 ⟨(some 43), .mv (.t 8), none, []⟩,
 ⟨(some 44), .mv (.t 9), none, []⟩,
 ⟨(some 45), .iadr 1 (.t 42) (.t 43), none, []⟩,
 ⟨none, .store1 (.t 45) (.t 44), none, []⟩])) (.skip))))
 (.ops [⟨(some 33), .mv (.t 9), none, []⟩,
 ⟨(some 34), .bin .add .i64 (.t 33) (.k (.lit .i64 1)), none, []⟩,
 ⟨(some 9), .mv (.t 34), none, []⟩]))))))
 (.seq (.ops [⟨(some 10), .mv (.k (.lit .i64 0)), none, []⟩])
 (.seq (.seq (.ops [⟨(some 11), .mv (.k (.lit .i64 0)), none, []⟩])
 (.block 2 (.loop (.seq (.seq (.ops [⟨(some 46), .mv (.t 11), none, []⟩,
 ⟨(some 47), .mv (.t 0), none, []⟩,
 ⟨(some 48), .len (.t 47), none, []⟩,
 ⟨(some 49), .cmp .lss (.t 46) (.t 48), none, []⟩])
 (.cond (.t 49) (.skip) (.exit 2)))
 (.seq (.block 3 (.seq (.ops [⟨(some 12), .mv (.k (.lit .i64 0)), none, []⟩])
 (.block 4 (.loop (.seq (.seq (.ops [⟨(some 52), .mv (.t 12), none, []⟩,
 ⟨(some 53), .mv (.t 0), none, []⟩,
 ⟨(some 54), .mv (.t 11), none, []⟩,
 ⟨(some 55), .iadr 1 (.t 53) (.t 54), none, []⟩,
 ⟨(some 56), .load1 (.t 55), none, []⟩,
 ⟨(some 57), .conv .i64 (.t 56), none, []⟩,
 ⟨(some 58), .cmp .lss (.t 52) (.t 57), none, []⟩])
 (.cond (.t 58) (.skip) (.exit 4)))
 (.seq (.block 5 (.seq (.ops [⟨(some 61), .mv (.t 7), none, []⟩,
 ⟨(some 62), .mv (.t 10), none, []⟩,
 ⟨(some 63), .mv (.t 11), none, []⟩,
 ⟨(some 64), .iadr 1 (.t 61) (.t 62), none, []⟩,
 ⟨none, .store1 (.t 64) (.t 63), none, []⟩])
 (.seq (.ops [⟨(some 65), .mv (.t 10), none, []⟩,
 ⟨(some 66), .mv (.t 6), none, []⟩,
 ⟨(some 67), .bin .quo .i64 (.t 66) (.k (.lit .i64 2)), none, []⟩,
 ⟨(some 68), .bin .add .i64 (.t 65) (.t 67), none, []⟩,
 ⟨(some 69), .mv (.t 6), none, []⟩,
 ⟨(some 70), .bin .quo .i64 (.t 69) (.k (.lit .i64 8)), none, []⟩,
 ⟨(some 71), .bin .add .i64 (.t 68) (.t 70), none, []⟩,
 ⟨(some 72), .bin .add .i64 (.t 71) (.k (.lit .i64 3)), none, []⟩,
 ⟨(some 73), .mv (.t 6), none, []⟩,
 ⟨(some 74), .bin .rem .i64 (.t 72) (.t 73), none, []⟩,
 ⟨(some 10), .mv (.t 74), none, []⟩])
 (.block 6 (.loop (.seq (.seq (.ops [⟨(some 75), .mv (.t 10), none, []⟩,
 ⟨(some 76), .mv (.t 8), none, []⟩,
 ⟨(some 77), .cmp .geq (.t 75) (.t 76), none, []⟩,
 ⟨(some 78), .mv (.t 77), none, []⟩,
 ⟨(some 79), .mv (.t 8), some (78, true), []⟩,
 ⟨(some 80), .cmp .gtr (.t 79) (.k (.lit .i64 0)), some (78, true), []⟩,
 ⟨(some 81), .pick (.t 78) (.t 80) (.k (.bool false)), none, []⟩])
 (.cond (.t 81) (.skip) (.exit 6)))
 (.block 7 (.ops [⟨(some 82), .mv (.t 10), none, []⟩,
 ⟨(some 83), .mv (.t 6), none, []⟩,
 ⟨(some 84), .bin .quo .i64 (.t 83) (.k (.lit .i64 2)), none, []⟩,
 ⟨(some 85), .bin .add .i64 (.t 82) (.t 84), none, []⟩,
 ⟨(some 86), .mv (.t 6), none, []⟩,
 ⟨(some 87), .bin .quo .i64 (.t 86) (.k (.lit .i64 8)), none, []⟩,
 ⟨(some 88), .bin .add .i64 (.t 85) (.t 87), none, []⟩,
 ⟨(some 89), .bin .add .i64 (.t 88) (.k (.lit .i64 3)), none, []⟩,
 ⟨(some 90), .mv (.t 6), none, []⟩,
 ⟨(some 91), .bin .rem .i64 (.t 89) (.t 90), none, []⟩,
 ⟨(some 10), .mv (.t 91), none, []⟩]))))))))
 (.ops [⟨(some 59), .mv (.t 12), none, []⟩,
 ⟨(some 60), .bin .add .i64 (.t 59) (.k (.lit .i64 1)), none, []⟩,
 ⟨(some 12), .mv (.t 60), none, []⟩])))))))
 (.ops [⟨(some 50), .mv (.t 11), none, []⟩,
 ⟨(some 51), .bin .add .i64 (.t 50) (.k (.lit .i64 1)), none, []⟩,
 ⟨(some 11), .mv (.t 51), none, []⟩]))))))
 (.seq (.ops [⟨(some 92), .mv (.t 6), none, []⟩,
 ⟨(some 93), .mkslR 86 3 4 [(.lit .u8 0), (.lit .u8 0), (.lit .u16 0)] (.t 92) (.t 92), none, []⟩,
 ⟨(some 13), .mv (.t 93), none, []⟩])
 (.seq (.ops [⟨(some 94), .mkslI 3 .i64 8 (.k (.lit .i64 256)) (.k (.lit .i64 256)), none, []⟩,
 ⟨(some 14), .mv (.t 94), none, []⟩])
 (.seq (.seq (.ops [⟨(some 15), .mv (.k (.lit .i64 0)), none, []⟩])
 (.block 8 (.loop (.seq (.seq (.ops [⟨(some 95), .mv (.t 15), none, []⟩,
 ⟨(some 96), .mv (.t 6), none, []⟩,
 ⟨(some 97), .cmp .lss (.t 95) (.t 96), none, []⟩])
 (.cond (.t 97) (.skip) (.exit 8)))
 (.seq (.block 9 (.seq (.ops [⟨(some 100), .mv (.t 7), none, []⟩,
 ⟨(some 101), .mv (.t 15), none, []⟩,
 ⟨(some 102), .iadr 1 (.t 100) (.t 101), none, []⟩,
 ⟨(some 103), .load1 (.t 102), none, []⟩,
 ⟨(some 16), .mv (.t 103), none, []⟩])
 (.seq (.ops [⟨(some 104), .mv (.t 0), none, []⟩,
 ⟨(some 105), .mv (.t 16), none, []⟩,
 ⟨(some 106), .iadr 1 (.t 104) (.t 105), none, []⟩,
 ⟨(some 107), .load1 (.t 106), none, []⟩,
 ⟨(some 109), .mv (.t 14), none, []⟩,
 ⟨(some 110), .mv (.t 16), none, []⟩,
 ⟨(some 111), .iadr 1 (.t 109) (.t 110), none, []⟩,
 ⟨(some 112), .load1 (.t 111), none, []⟩,
 ⟨(some 108), .call (.k (.fn 77 [])) [(.t 107)], none, [(.load1 (.t 111), 112, none)]⟩,
 ⟨(some 113), .bin .add .i64 (.t 108) (.t 112), none, []⟩,
 ⟨(some 17), .mv (.t 113), none, []⟩])
 (.seq (.ops [⟨(some 114), .mv (.t 14), none, []⟩,
 ⟨(some 115), .mv (.t 16), none, []⟩,
 ⟨(some 116), .iadr 1 (.t 114) (.t 115), none, []⟩,
 ⟨(some 117), .load1 (.t 116), none, []⟩,
 ⟨(some 118), .bin .add .i64 (.t 117) (.k (.lit .i64 1)), none, []⟩,
 ⟨(some 119), .iadr 1 (.t 114) (.t 115), none, []⟩,
 ⟨none, .store1 (.t 119) (.t 118), none, []⟩])
 (.seq (.ops [⟨(some 120), .mv (.t 1), none, []⟩,
 ⟨(some 121), .mv (.t 17), none, []⟩,
 ⟨(some 122), .call (.k (.fn 79 [])) [(.t 121)], none, []⟩,
 ⟨(some 123), .bin .sub .i64 (.t 122) (.k (.lit .i64 1)), none, []⟩,
 ⟨(some 124), .bin .sub .i64 (.t 120) (.t 123), none, []⟩,
 ⟨(some 18), .mv (.t 124), none, []⟩])
 (.ops [⟨(some 125), .mv (.t 13), none, []⟩,
 ⟨(some 126), .mv (.t 15), none, []⟩,
 ⟨(some 127), .mv (.t 16), none, []⟩,
 ⟨(some 128), .conv .u8 (.t 127), none, []⟩,
 ⟨(some 129), .mv (.t 18), none, []⟩,
 ⟨(some 130), .conv .u8 (.t 129), none, []⟩,
 ⟨(some 131), .mv (.t 17), none, []⟩,
 ⟨(some 132), .mv (.t 18), none, []⟩,
 ⟨(some 133), .conv .u64 (.t 132), none, []⟩,
 ⟨(some 134), .bin .shl .i64 (.t 131) (.t 133), none, []⟩,
 ⟨(some 135), .mv (.t 6), none, []⟩,
 ⟨(some 136), .bin .sub .i64 (.t 134) (.t 135), none, []⟩,
 ⟨(some 137), .conv .u16 (.t 136), none, []⟩,
 ⟨(some 138), .build [(.lit .u8 0), (.lit .u8 0), (.lit .u16 0)] [⟨0, 1, (.t 128)⟩, ⟨1, 1, (.t 130)⟩, ⟨2, 1, (.t 137)⟩], none, []⟩,
 ⟨(some 139), .iadr 3 (.t 125) (.t 126), none, []⟩,
 ⟨none, .storeA 3 (.t 139) (.t 138), none, []⟩]))))))
 (.ops [⟨(some 98), .mv (.t 15), none, []⟩,
 ⟨(some 99), .bin .add .i64 (.t 98) (.k (.lit .i64 1)), none, []⟩,
 ⟨(some 15), .mv (.t 99), none, []⟩]))))))
 (.seq (.ops [⟨(some 140), .mv (.t 13), none, []⟩,
 ⟨(some 4), .mv (.t 140), none, []⟩,
 ⟨(some 5), .mv (.k (.lit .i64 0)), none, []⟩])
 (.ret))))))))))))
theorem fn48 : FnOk Try.prog 48 x48 141 [4, 5] := FnOk.of Try.call48 Try.func48 (by kernel_rfl) Try.ntmps48 (by kernel_rfl)
/-- baler/balerref03.New -/
def x49 : XC :=
 .seq (.ops [⟨(some 2), .mv (.k (.val (.pointer none))), none, []⟩,
 ⟨(some 3), .mv (.k (.lit .i64 0)), none, []⟩])
 (.seq (.seq (.ops [⟨(some 6), .mv (.t 0), none, []⟩,
 ⟨(some 7), .len (.t 6), none, []⟩,
 ⟨(some 8), .cmp .eql (.t 7) (.k (.lit .i64 0)), none, []⟩,
 ⟨(some 9), .mv (.t 8), none, []⟩,
 ⟨(some 10), .mv (.t 0), some (9, false), []⟩,
 ⟨(some 11), .mv (.t 0), some (9, false), []⟩,
 ⟨(some 12), .len (.t 11), some (9, false), []⟩,
 ⟨(some 13), .bin .sub .i64 (.t 12) (.k (.lit .i64 1)), some (9, false), []⟩,
 ⟨(some 14), .iadr 1 (.t 10) (.t 13), some (9, false), []⟩,
 ⟨(some 15), .load1 (.t 14), some (9, false), []⟩,
 ⟨(some 16), .cmp .eql (.t 15) (.k (.lit .u8 0)), some (9, false), []⟩,
 ⟨(some 17), .pick (.t 9) (.k (.bool true)) (.t 16), none, []⟩])
 (.cond (.t 17) (.seq (.ops [⟨(some 2), .mv (.k (.val (.pointer none))), none, []⟩,
 ⟨(some 3), .mv (.k (.lit .i64 11)), none, []⟩])
 (.ret)) (.skip)))
 (.seq (.ops [⟨(some 18), .build [(.val (.slice none 0 0)), (.lit .i64 0)] [], none, []⟩,
 ⟨(some 19), .box 114 none (.t 18), none, []⟩,
 ⟨(some 4), .mv (.t 19), none, []⟩])
 (.seq (.seq (.ops [⟨(some 5), .mv (.k (.lit .i64 0)), none, []⟩])
 (.block 0 (.loop (.seq (.seq (.ops [⟨(some 20), .mv (.t 5), none, []⟩,
 ⟨(some 21), .mv (.t 0), none, []⟩,
 ⟨(some 22), .len (.t 21), none, []⟩,
 ⟨(some 23), .bin .mul .i64 (.k (.lit .i64 8)) (.t 22), none, []⟩,
 ⟨(some 24), .cmp .lss (.t 20) (.t 23), none, []⟩])
 (.cond (.t 24) (.skip) (.exit 0)))
 (.seq (.block 1 (.ops [⟨(some 27), .mv (.t 4), none, []⟩,
 ⟨(some 28), .mv (.t 4), none, []⟩,
 ⟨(some 29), .nilchk (.t 28), none, []⟩,
 ⟨(some 30), .fadr 0 (.t 29), none, []⟩,
 ⟨(some 31), .load1 (.t 30), none, []⟩,
 ⟨(some 32), .mv (.t 0), none, []⟩,
 ⟨(some 33), .mv (.t 5), none, []⟩,
 ⟨(some 34), .bin .quo .i64 (.t 33) (.k (.lit .i64 8)), none, []⟩,
 ⟨(some 35), .iadr 1 (.t 32) (.t 34), none, []⟩,
 ⟨(some 36), .load1 (.t 35), none, []⟩,
 ⟨(some 37), .mv (.t 5), none, []⟩,
 ⟨(some 38), .bin .rem .i64 (.t 37) (.k (.lit .i64 8)), none, []⟩,
 ⟨(some 39), .conv .u64 (.t 38), none, []⟩,
 ⟨(some 40), .bin .shr .u8 (.t 36) (.t 39), none, []⟩,
 ⟨(some 41), .bin .and .u8 (.t 40) (.k (.lit .u8 1)), none, []⟩,
 ⟨(some 42), .bsliceI 5 .u8 1 [⟨0, 1, (.t 41)⟩], none, [(.load1 (.t 35), 36, none), (.load1 (.t 30), 31, none)]⟩,
 ⟨(some 43), .appI 5 .u8 1 (.t 31) (.t 42), none, [(.load1 (.t 35), 36, none)]⟩,
 ⟨(some 44), .nilchk (.t 27), none, []⟩,
 ⟨(some 45), .fadr 0 (.t 44), none, []⟩,
 ⟨none, .store1 (.t 45) (.t 43), none, []⟩]))
 (.ops [⟨(some 25), .mv (.t 5), none, []⟩,
 ⟨(some 26), .bin .add .i64 (.t 25) (.k (.lit .i64 1)), none, []⟩,
 ⟨(some 5), .mv (.t 26), none, []⟩]))))))
 (.seq (.block 2 (.loop (.seq (.seq (.ops [⟨(some 46), .mv (.t 4), none, []⟩,
 ⟨(some 47), .nilchk (.t 46), none, []⟩,
 ⟨(some 48), .fadr 0 (.t 47), none, []⟩,
 ⟨(some 49), .load1 (.t 48), none, []⟩,
 ⟨(some 50), .mv (.t 4), none, []⟩,
 ⟨(some 51), .nilchk (.t 50), none, []⟩,
 ⟨(some 52), .fadr 0 (.t 51), none, []⟩,
 ⟨(some 53), .load1 (.t 52), none, []⟩,
 ⟨(some 54), .len (.t 53), none, []⟩,
 ⟨(some 55), .bin .sub .i64 (.t 54) (.k (.lit .i64 1)), none, []⟩,
 ⟨(some 56), .iadr 1 (.t 49) (.t 55), none, []⟩,
 ⟨(some 57), .load1 (.t 56), none, []⟩,
 ⟨(some 58), .cmp .eql (.t 57) (.k (.lit .u8 0)), none, []⟩])
 (.cond (.t 58) (.skip) (.exit 2)))
 (.block 3 (.ops [⟨(some 59), .mv (.t 4), none, []⟩,
 ⟨(some 60), .mv (.t 4), none, []⟩,
 ⟨(some 61), .nilchk (.t 60), none, []⟩,
 ⟨(some 62), .fadr 0 (.t 61), none, []⟩,
 ⟨(some 63), .load1 (.t 62), none, []⟩,
 ⟨(some 64), .mv (.t 4), none, []⟩,
 ⟨(some 65), .nilchk (.t 64), none, []⟩,
 ⟨(some 66), .fadr 0 (.t 65), none, []⟩,
 ⟨(some 67), .load1 (.t 66), none, []⟩,
 ⟨(some 68), .len (.t 67), none, []⟩,
 ⟨(some 69), .bin .sub .i64 (.t 68) (.k (.lit .i64 1)), none, []⟩,
 ⟨(some 70), .slc 1 (.t 63) none (some (.t 69)) none, none, []⟩,
 ⟨(some 71), .nilchk (.t 59), none, []⟩,
 ⟨(some 72), .fadr 0 (.t 71), none, []⟩,
 ⟨none, .store1 (.t 72) (.t 70), none, []⟩])))))
 (.seq (.ops [⟨(some 73), .mv (.t 4), none, []⟩,
 ⟨(some 74), .mv (.t 4), none, []⟩,
 ⟨(some 75), .nilchk (.t 74), none, []⟩,
 ⟨(some 76), .fadr 0 (.t 75), none, []⟩,
 ⟨(some 77), .load1 (.t 76), none, []⟩,
 ⟨(some 78), .mv (.t 4), none, []⟩,
 ⟨(some 79), .nilchk (.t 78), none, []⟩,
 ⟨(some 80), .fadr 0 (.t 79), none, []⟩,
 ⟨(some 81), .load1 (.t 80), none, []⟩,
 ⟨(some 82), .len (.t 81), none, []⟩,
 ⟨(some 83), .bin .sub .i64 (.t 82) (.k (.lit .i64 1)), none, []⟩,
 ⟨(some 84), .slc 1 (.t 77) none (some (.t 83)) none, none, []⟩,
 ⟨(some 85), .nilchk (.t 73), none, []⟩,
 ⟨(some 86), .fadr 0 (.t 85), none, []⟩,
 ⟨none, .store1 (.t 86) (.t 84), none, []⟩])
 (.seq (.ops [⟨(some 87), .mv (.t 4), none, []⟩,
 ⟨(some 88), .mv (.t 4), none, []⟩,
 ⟨(some 89), .nilchk (.t 88), none, []⟩,
 ⟨(some 90), .fadr 0 (.t 89), none, []⟩,
 ⟨(some 91), .load1 (.t 90), none, []⟩,
 ⟨(some 92), .len (.t 91), none, []⟩,
 ⟨(some 93), .nilchk (.t 87), none, []⟩,
 ⟨(some 94), .fadr 1 (.t 93), none, []⟩,
 ⟨none, .store1 (.t 94) (.t 92), none, []⟩])
 (.seq (.ops [⟨(some 95), .mv (.t 4), none, []⟩,
 ⟨(some 2), .mv (.t 95), none, []⟩,
 ⟨(some 3), .mv (.k (.lit .i64 0)), none, []⟩])
 (.ret))))))))
theorem fn49 : FnOk Try.prog 49 x49 96 [2, 3] := FnOk.of Try.call49 Try.func49 (by kernel_rfl) Try.ntmps49 (by kernel_rfl)
/-- (*baler/balerref03.R).Bits -/
def x50 : XC :=
 .seq (.ops [⟨(some 4), .mv (.k (.lit .u64 0)), none, []⟩])
 (.seq (.ops [⟨(some 7), .mv (.t 1), none, []⟩,
 ⟨(some 8), .max (.t 7) (.k (.lit .i64 0)), none, []⟩,
 ⟨(some 9), .min (.t 8) (.k (.lit .i64 56)), none, []⟩,
 ⟨(some 1), .mv (.t 9), none, []⟩])
 (.seq (.ops [⟨(some 10), .mv (.t 0), none, []⟩,
 ⟨(some 11), .nilchk (.t 10), none, []⟩,
 ⟨(some 12), .fadr 1 (.t 11), none, []⟩,
 ⟨(some 13), .load1 (.t 12), none, []⟩,
 ⟨(some 14), .mv (.t 1), none, []⟩,
 ⟨(some 15), .bin .sub .i64 (.t 13) (.t 14), none, []⟩,
 ⟨(some 16), .nilchk (.t 10), none, []⟩,
 ⟨(some 17), .fadr 1 (.t 16), none, []⟩,
 ⟨none, .store1 (.t 17) (.t 15), none, []⟩])
 (.seq (.ops [⟨(some 5), .mv (.k (.lit .u64 0)), none, []⟩])
 (.seq (.seq (.ops [⟨(some 18), .mv (.t 1), none, []⟩,
 ⟨(some 19), .bin .sub .i64 (.t 18) (.k (.lit .i64 1)), none, []⟩,
 ⟨(some 6), .mv (.t 19), none, []⟩])
 (.block 0 (.loop (.seq (.seq (.ops [⟨(some 20), .mv (.t 6), none, []⟩,
 ⟨(some 21), .cmp .geq (.t 20) (.k (.lit .i64 0)), none, []⟩])
 (.cond (.t 21) (.skip) (.exit 0)))
 (.seq (.block 1 (.seq (.ops [⟨(some 24), .mv (.t 5), none, []⟩,
 ⟨(some 25), .bin .shl .u64 (.t 24) (.k (.lit .u64 1)), none, []⟩,
 ⟨(some 5), .mv (.t 25), none, []⟩])
 (.seq (.ops [⟨(some 26), .mv (.t 0), none, []⟩,
 ⟨(some 27), .nilchk (.t 26), none, []⟩,
 ⟨(some 28), .fadr 1 (.t 27), none, []⟩,
 ⟨(some 29), .load1 (.t 28), none, []⟩,
 ⟨(some 30), .mv (.t 6), none, []⟩,
 ⟨(some 31), .bin .add .i64 (.t 29) (.t 30), none, []⟩,
 ⟨(some 32), .cmp .geq (.t 31) (.k (.lit .i64 0)), none, []⟩])
 (.cond (.t 32) (.ops [⟨(some 33), .mv (.t 5), none, []⟩,
 ⟨(some 34), .mv (.t 0), none, []⟩,
 ⟨(some 35), .nilchk (.t 34), none, []⟩,
 ⟨(some 36), .fadr 0 (.t 35), none, []⟩,
 ⟨(some 37), .load1 (.t 36), none, []⟩,
 ⟨(some 38), .mv (.t 0), none, []⟩,
 ⟨(some 39), .nilchk (.t 38), none, []⟩,
 ⟨(some 40), .fadr 1 (.t 39), none, []⟩,
 ⟨(some 41), .load1 (.t 40), none, []⟩,
 ⟨(some 42), .mv (.t 6), none, []⟩,
 ⟨(some 43), .bin .add .i64 (.t 41) (.t 42), none, []⟩,
 ⟨(some 44), .iadr 1 (.t 37) (.t 43), none, []⟩,
 ⟨(some 45), .load1 (.t 44), none, []⟩,
 ⟨(some 46), .conv .u64 (.t 45), none, []⟩,
 ⟨(some 47), .bin .or .u64 (.t 33) (.t 46), none, []⟩,
 ⟨(some 5), .mv (.t 47), none, []⟩]) (.skip)))))
 (.ops [⟨(some 22), .mv (.t 6), none, []⟩,
 ⟨(some 23), .bin .sub .i64 (.t 22) (.k (.lit .i64 1)), none, []⟩,
 ⟨(some 6), .mv (.t 23), none, []⟩]))))))
 (.seq (.ops [⟨(some 48), .mv (.t 0), none, []⟩,
 ⟨(some 49), .mv (.t 0), none, []⟩,
 ⟨(some 50), .nilchk (.t 49), none, []⟩,
 ⟨(some 51), .fadr 1 (.t 50), none, []⟩,
 ⟨(some 52), .load1 (.t 51), none, []⟩,
 ⟨(some 53), .max (.t 52) (.k (.lit .i64 (-1099511627776))), none, []⟩,
 ⟨(some 54), .nilchk (.t 48), none, []⟩,
 ⟨(some 55), .fadr 1 (.t 54), none, []⟩,
 ⟨none, .store1 (.t 55) (.t 53), none, []⟩])
 (.seq (.ops [⟨(some 56), .mv (.t 5), none, []⟩,
 ⟨(some 4), .mv (.t 56), none, []⟩])
 (.ret)))))))
theorem fn50 : FnOk Try.prog 50 x50 57 [4] := FnOk.of Try.call50 Try.func50 (by kernel_rfl) Try.ntmps50 (by kernel_rfl)
/-- baler/weights.all -/
def x51 : XC :=
 .seq (.ops [⟨(some 2), .box 22 none (.t 0), none, []⟩,
 ⟨(some 3), .box 3 none (.t 1), none, []⟩,
 ⟨(some 4), .mv (.k (.val .nilFunc)), none, []⟩])
 (.seq (.ops [⟨(some 5), .mkfn 80 [(.t 3), (.t 2)], none, []⟩,
 ⟨(some 4), .mv (.t 5), none, []⟩])
 (.ret))
theorem fn51 : FnOk Try.prog 51 x51 6 [4] := FnOk.of Try.call51 Try.func51 (by kernel_rfl) Try.ntmps51 (by kernel_rfl)
/-- math/bits.Mul -/
def x52 : XC :=
 .seq (.ops [⟨(some 4), .mv (.k (.lit .u64 0)), none, []⟩,
 ⟨(some 5), .mv (.k (.lit .u64 0)), none, []⟩])
 (.seq (.cond (.k (.bool false)) (.seq (.ops [⟨(some 11), .mv (.t 0), none, []⟩,
 ⟨(some 12), .conv .u32 (.t 11), none, []⟩,
 ⟨(some 13), .mv (.t 1), none, []⟩,
 ⟨(some 14), .conv .u32 (.t 13), none, []⟩,
 ⟨(some 15), .call (.k (.fn 81 [])) [(.t 12), (.t 14)], none, []⟩,
 ⟨(some 10), .mv (.t 15), none, []⟩,
 ⟨(some 16), .extract (.t 10) 0, none, []⟩,
 ⟨(some 17), .extract (.t 10) 1, none, []⟩,
 ⟨(some 6), .mv (.t 16), none, []⟩,
 ⟨(some 7), .mv (.t 17), none, []⟩])
 (.seq (.ops [⟨(some 18), .mv (.t 6), none, []⟩,
 ⟨(some 19), .conv .u64 (.t 18), none, []⟩,
 ⟨(some 20), .mv (.t 7), none, []⟩,
 ⟨(some 21), .conv .u64 (.t 20), none, []⟩,
 ⟨(some 4), .mv (.t 19), none, []⟩,
 ⟨(some 5), .mv (.t 21), none, []⟩])
 (.ret))) (.skip))
 (.seq (.ops [⟨(some 23), .mv (.t 0), none, []⟩,
 ⟨(some 24), .mv (.t 1), none, []⟩,
 ⟨(some 25), .call (.k (.fn 82 [])) [(.t 23), (.t 24)], none, []⟩,
 ⟨(some 22), .mv (.t 25), none, []⟩,
 ⟨(some 26), .extract (.t 22) 0, none, []⟩,
 ⟨(some 27), .extract (.t 22) 1, none, []⟩,
 ⟨(some 8), .mv (.t 26), none, []⟩,
 ⟨(some 9), .mv (.t 27), none, []⟩])
 (.seq (.ops [⟨(some 28), .mv (.t 8), none, []⟩,
 ⟨(some 29), .mv (.t 9), none, []⟩,
 ⟨(some 4), .mv (.t 28), none, []⟩,
 ⟨(some 5), .mv (.t 29), none, []⟩])
 (.ret))))
theorem fn52 : FnOk Try.prog 52 x52 30 [4, 5] := FnOk.of Try.call52 Try.func52 (by kernel_rfl) Try.ntmps52 (by kernel_rfl)
-- 53: not compiled
/-- baler/weights.Unpack -/
def x54 : XC :=
 .seq (.ops [⟨(some 6), .mv (.k (.val (.slice none 0 0))), none, []⟩,
 ⟨(some 7), .mv (.k (.lit .i64 0)), none, []⟩])
 (.scope (.seq (.ops [⟨(some 20), .mv (.t 0), none, []⟩,
 ⟨(some 21), .call (.k (.fn 46 [])) [(.t 20)], none, []⟩,
 ⟨(some 8), .newR 3 [(.lit .i64 0)], none, []⟩,
 ⟨none, .store1 (.t 8) (.t 21), none, []⟩])
 (.seq (.block 0 (.seq (.ops [⟨(some 23), .load1 (.t 8), none, []⟩,
 ⟨(some 24), .cmp .eql (.t 23) (.k (.lit .i64 0)), none, []⟩,
 ⟨(some 22), .mv (.t 24), none, []⟩])
 (.cond (.t 22) (.seq (.ops [⟨(some 6), .mv (.k (.val (.slice none 0 0))), none, []⟩,
 ⟨(some 7), .mv (.k (.lit .i64 50)), none, []⟩])
 (.ret)) (.seq (.ops [⟨(some 26), .mv (.t 2), none, []⟩,
 ⟨(some 27), .cmp .lss (.t 26) (.k (.lit .i64 0)), none, []⟩,
 ⟨(some 28), .mv (.t 27), none, []⟩,
 ⟨(some 29), .mv (.t 2), some (28, false), []⟩,
 ⟨(some 30), .cmp .gtr (.t 29) (.k (.lit .i64 131072)), some (28, false), []⟩,
 ⟨(some 31), .pick (.t 28) (.k (.bool true)) (.t 30), none, []⟩,
 ⟨(some 25), .mv (.t 31), none, []⟩])
 (.cond (.t 25) (.seq (.ops [⟨(some 6), .mv (.k (.val (.slice none 0 0))), none, []⟩,
 ⟨(some 7), .mv (.k (.lit .i64 2)), none, []⟩])
 (.ret)) (.skip))))))
 (.seq (.ops [⟨(some 33), .mv (.t 1), none, []⟩,
 ⟨(some 34), .call (.k (.fn 40 [])) [(.t 33)], none, []⟩,
 ⟨(some 32), .mv (.t 34), none, []⟩,
 ⟨(some 35), .extract (.t 32) 0, none, []⟩,
 ⟨(some 36), .extract (.t 32) 1, none, []⟩,
 ⟨(some 9), .mv (.t 35), none, []⟩,
 ⟨(some 10), .mv (.t 36), none, []⟩])
 (.seq (.seq (.ops [⟨(some 37), .mv (.t 10), none, []⟩,
 ⟨(some 38), .cmp .neq (.t 37) (.k (.lit .i64 0)), none, []⟩])
 (.cond (.t 38) (.seq (.ops [⟨(some 39), .mv (.t 10), none, []⟩,
 ⟨(some 6), .mv (.k (.val (.slice none 0 0))), none, []⟩,
 ⟨(some 7), .mv (.t 39), none, []⟩])
 (.ret)) (.skip)))
 (.seq (.ops [⟨(some 11), .newA 165 2 2048 [(.lit .u8 0), (.lit .i64 0)], none, []⟩])
 (.seq (.seq (.ops [⟨(some 40), .mv (.t 0), none, []⟩,
 ⟨(some 41), .load1 (.t 8), none, []⟩,
 ⟨(some 42), .call (.k (.fn 51 [])) [(.t 40), (.t 41)], none, []⟩])
 (.block 1 (.range (.t 42) [43, 44] (.seq (.ops [⟨(some 12), .mv (.t 43), none, []⟩])
 (.ops [⟨(some 13), .newR 116 [(.lit .u64 0), (.lit .i64 0)], none, []⟩,
 ⟨none, .storeA 2 (.t 13) (.t 44), none, []⟩])) (.block 2 (.seq (.ops [⟨(some 45), .fadr 0 (.t 13), none, []⟩,
 ⟨(some 46), .load1 (.t 45), none, []⟩,
 ⟨(some 47), .load1 (.t 8), none, []⟩,
 ⟨(some 48), .fadr 1 (.t 13), none, []⟩,
 ⟨(some 49), .load1 (.t 48), none, []⟩,
 ⟨(some 50), .bin .sub .i64 (.t 47) (.t 49), none, []⟩,
 ⟨(some 51), .conv .u64 (.t 50), none, []⟩,
 ⟨(some 52), .bin .shl .u64 (.t 46) (.t 51), none, []⟩,
 ⟨(some 14), .mv (.t 52), none, []⟩])
 (.seq (.ops [⟨(some 53), .load1 (.t 8), none, []⟩,
 ⟨(some 54), .fadr 1 (.t 13), none, []⟩,
 ⟨(some 55), .load1 (.t 54), none, []⟩,
 ⟨(some 56), .bin .sub .i64 (.t 53) (.t 55), none, []⟩,
 ⟨(some 57), .conv .u64 (.t 56), none, []⟩,
 ⟨(some 58), .bin .shl .u64 (.k (.lit .u64 1)) (.t 57), none, []⟩,
 ⟨(some 59), .mv (.k (.lit .u64 0)), none, []⟩])
 (.block 3 (.loop (.seq (.ops [⟨(some 60), .cmp .lss (.t 59) (.t 58), none, []⟩])
 (.seq (.cond (.t 60) (.skip) (.exit 3))
 (.seq (.block 4 (.seq (.ops [⟨(some 61), .mv (.t 59), none, []⟩,
 ⟨(some 15), .mv (.t 61), none, []⟩])
 (.ops [⟨(some 62), .mv (.t 14), none, []⟩,
 ⟨(some 63), .mv (.t 15), none, []⟩,
 ⟨(some 64), .bin .add .u64 (.t 62) (.t 63), none, []⟩,
 ⟨(some 65), .mv (.t 12), none, []⟩,
 ⟨(some 66), .conv .u8 (.t 65), none, []⟩,
 ⟨(some 67), .fadr 1 (.t 13), none, []⟩,
 ⟨(some 68), .load1 (.t 67), none, []⟩,
 ⟨(some 69), .build [(.lit .u8 0), (.lit .i64 0)] [⟨0, 1, (.t 66)⟩, ⟨1, 1, (.t 68)⟩], none, []⟩,
 ⟨(some 70), .iadrA 2048 2 (.t 11) (.t 64), none, []⟩,
 ⟨none, .storeA 2 (.t 70) (.t 69), none, []⟩])))
 (.ops [⟨(some 71), .bin .add .u64 (.t 59) (.k (.lit .u64 1)), none, []⟩,
 ⟨(some 59), .mv (.t 71), none, []⟩]))))))))))))
 (.seq (.ops [⟨(some 16), .mv (.k (.val (.slice none 0 0))), none, []⟩])
 (.seq (.ops [⟨(some 17), .mv (.k (.lit .u64 0)), none, []⟩,
 ⟨(some 18), .mv (.k (.lit .i64 0)), none, []⟩])
 (.seq (.skip)
 (.seq (.block 5 (.loop (.seq (.seq (.ops [⟨(some 72), .mv (.t 16), none, []⟩,
 ⟨(some 73), .len (.t 72), none, []⟩,
 ⟨(some 74), .mv (.t 2), none, []⟩,
 ⟨(some 75), .cmp .lss (.t 73) (.t 74), none, []⟩])
 (.cond (.t 75) (.skip) (.exit 5)))
 (.block 6 (.seq (.ops [⟨(some 76), .mv (.t 17), none, []⟩,
 ⟨(some 77), .load1 (.t 8), none, []⟩,
 ⟨(some 78), .mv (.t 18), none, []⟩,
 ⟨(some 79), .bin .sub .i64 (.t 77) (.t 78), none, []⟩,
 ⟨(some 80), .conv .u64 (.t 79), none, []⟩,
 ⟨(some 81), .bin .shl .u64 (.t 76) (.t 80), none, []⟩,
 ⟨(some 82), .mv (.t 9), none, []⟩,
 ⟨(some 83), .load1 (.t 8), none, []⟩,
 ⟨(some 84), .mv (.t 18), none, []⟩,
 ⟨(some 85), .bin .sub .i64 (.t 83) (.t 84), none, []⟩,
 ⟨(some 88), .load1 (.t 8), none, []⟩,
 ⟨(some 86), .call (.k (.fn 41 [])) [(.t 82), (.t 85)], none, [(.load1 (.t 8), 88, none), (.load1 (.t 8), 83, none), (.load1 (.t 8), 77, none)]⟩,
 ⟨(some 87), .bin .or .u64 (.t 81) (.t 86), none, []⟩,
 ⟨(some 17), .mv (.t 87), none, []⟩,
 ⟨(some 18), .mv (.t 88), none, []⟩])
 (.seq (.ops [⟨(some 89), .mv (.t 17), none, []⟩,
 ⟨(some 90), .iadrA 2048 2 (.t 11) (.t 89), none, []⟩,
 ⟨(some 91), .loadA 2 (.t 90), none, []⟩,
 ⟨(some 19), .newR 164 [(.lit .u8 0), (.lit .i64 0)], none, []⟩,
 ⟨none, .storeA 2 (.t 19) (.t 91), none, []⟩])
 (.seq (.ops [⟨(some 92), .mv (.t 18), none, []⟩,
 ⟨(some 93), .fadr 1 (.t 19), none, []⟩,
 ⟨(some 94), .load1 (.t 93), none, []⟩,
 ⟨(some 95), .bin .sub .i64 (.t 92) (.t 94), none, []⟩,
 ⟨(some 18), .mv (.t 95), none, []⟩])
 (.seq (.ops [⟨(some 96), .mv (.t 17), none, []⟩,
 ⟨(some 97), .mv (.t 18), none, []⟩,
 ⟨(some 98), .conv .u64 (.t 97), none, []⟩,
 ⟨(some 99), .bin .shl .u64 (.k (.lit .u64 1)) (.t 98), none, []⟩,
 ⟨(some 100), .bin .sub .u64 (.t 99) (.k (.lit .u64 1)), none, []⟩,
 ⟨(some 101), .bin .and .u64 (.t 96) (.t 100), none, []⟩,
 ⟨(some 17), .mv (.t 101), none, []⟩])
 (.seq (.seq (.ops [⟨(some 102), .mv (.t 9), none, []⟩,
 ⟨(some 103), .call (.k (.fn 42 [])) [(.t 102)], none, []⟩,
 ⟨(some 104), .mv (.t 18), none, []⟩,
 ⟨(some 105), .bin .add .i64 (.t 103) (.t 104), none, []⟩,
 ⟨(some 106), .cmp .lss (.t 105) (.k (.lit .i64 0)), none, []⟩])
 (.cond (.t 106) (.exit 5) (.skip)))
 (.ops [⟨(some 107), .mv (.t 16), none, []⟩,
 ⟨(some 108), .fadr 0 (.t 19), none, []⟩,
 ⟨(some 109), .load1 (.t 108), none, []⟩,
 ⟨(some 110), .bsliceI 5 .u8 1 [⟨0, 1, (.t 109)⟩], none, []⟩,
 ⟨(some 111), .appI 5 .u8 1 (.t 107) (.t 110), none, []⟩,
 ⟨(some 16), .mv (.t 111), none, []⟩]))))))))))
 (.seq (.seq (.ops [⟨(some 112), .mv (.t 16), none, []⟩,
 ⟨(some 113), .len (.t 112), none, []⟩,
 ⟨(some 114), .mv (.t 2), none, []⟩,
 ⟨(some 115), .cmp .lss (.t 113) (.t 114), none, []⟩,
 ⟨(some 116), .mv (.t 115), none, []⟩,
 ⟨(some 117), .mv (.t 9), some (116, false), []⟩,
 ⟨(some 118), .call (.k (.fn 42 [])) [(.t 117)], some (116, false), []⟩,
 ⟨(some 119), .mv (.t 18), some (116, false), []⟩,
 ⟨(some 120), .bin .add .i64 (.t 118) (.t 119), some (116, false), []⟩,
 ⟨(some 121), .cmp .neq (.t 120) (.k (.lit .i64 0)), some (116, false), []⟩,
 ⟨(some 122), .pick (.t 116) (.k (.bool true)) (.t 121), none, []⟩])
 (.cond (.t 122) (.seq (.ops [⟨(some 6), .mv (.k (.val (.slice none 0 0))), none, []⟩,
 ⟨(some 7), .mv (.k (.lit .i64 11)), none, []⟩])
 (.ret)) (.skip)))
 (.seq (.ops [⟨(some 123), .mv (.t 16), none, []⟩,
 ⟨(some 6), .mv (.t 123), none, []⟩,
 ⟨(some 7), .mv (.k (.lit .i64 0)), none, []⟩])
 (.ret))))))))))))))
theorem fn54 : FnOk Try.prog 54 x54 124 [6, 7] := FnOk.of Try.call54 Try.func54 (by kernel_rfl) Try.ntmps54 (by kernel_rfl)
/-- baler/balerref11.Number -/
def x55 : XC :=
 .seq (.ops [⟨(some 2), .mv (.k (.lit .u64 0)), none, []⟩])
 (.seq (.ops [⟨(some 3), .mv (.k (.lit .u64 0)), none, []⟩])
 (.seq (.seq (.ops [⟨(some 5), .mv (.t 0), none, []⟩,
 ⟨(some 6), .len (.t 5), none, []⟩,
 ⟨(some 7), .bin .sub .i64 (.t 6) (.k (.lit .i64 1)), none, []⟩,
 ⟨(some 4), .mv (.t 7), none, []⟩])
 (.block 0 (.loop (.seq (.seq (.ops [⟨(some 8), .mv (.t 4), none, []⟩,
 ⟨(some 9), .cmp .geq (.t 8) (.k (.lit .i64 0)), none, []⟩])
 (.cond (.t 9) (.skip) (.exit 0)))
 (.seq (.block 1 (.ops [⟨(some 12), .mv (.t 3), none, []⟩,
 ⟨(some 13), .bin .shl .u64 (.t 12) (.k (.lit .u64 8)), none, []⟩,
 ⟨(some 14), .mv (.t 0), none, []⟩,
 ⟨(some 15), .mv (.t 4), none, []⟩,
 ⟨(some 16), .iadr 1 (.t 14) (.t 15), none, []⟩,
 ⟨(some 17), .load1 (.t 16), none, []⟩,
 ⟨(some 18), .conv .u64 (.t 17), none, []⟩,
 ⟨(some 19), .bin .or .u64 (.t 13) (.t 18), none, []⟩,
 ⟨(some 3), .mv (.t 19), none, []⟩]))
 (.ops [⟨(some 10), .mv (.t 4), none, []⟩,
 ⟨(some 11), .bin .sub .i64 (.t 10) (.k (.lit .i64 1)), none, []⟩,
 ⟨(some 4), .mv (.t 11), none, []⟩]))))))
 (.seq (.ops [⟨(some 20), .mv (.t 3), none, []⟩,
 ⟨(some 2), .mv (.t 20), none, []⟩])
 (.ret))))
theorem fn55 : FnOk Try.prog 55 x55 21 [2] := FnOk.of Try.call55 Try.func55 (by kernel_rfl) Try.ntmps55 (by kernel_rfl)
/-- baler/balerref09.Unpack -/
def x56 : XC :=
 .seq (.ops [⟨(some 6), .mv (.k (.val (.slice none 0 0))), none, []⟩,
 ⟨(some 7), .mv (.k (.lit .i64 0)), none, []⟩])
 (.seq (.ops [⟨(some 16), .mv (.t 0), none, []⟩,
 ⟨(some 17), .call (.k (.fn 27 [])) [(.t 16)], none, []⟩,
 ⟨(some 8), .mv (.t 17), none, []⟩])
 (.seq (.seq (.ops [⟨(some 18), .mv (.t 8), none, []⟩,
 ⟨(some 19), .cmp .eql (.t 18) (.k (.lit .i64 0)), none, []⟩])
 (.cond (.t 19) (.seq (.ops [⟨(some 6), .mv (.k (.val (.slice none 0 0))), none, []⟩,
 ⟨(some 7), .mv (.k (.lit .i64 50)), none, []⟩])
 (.ret)) (.skip)))
 (.seq (.seq (.ops [⟨(some 20), .mv (.t 2), none, []⟩,
 ⟨(some 21), .cmp .lss (.t 20) (.k (.lit .i64 0)), none, []⟩,
 ⟨(some 22), .mv (.t 21), none, []⟩,
 ⟨(some 23), .mv (.t 2), some (22, false), []⟩,
 ⟨(some 24), .cmp .gtr (.t 23) (.k (.lit .i64 131072)), some (22, false), []⟩,
 ⟨(some 25), .pick (.t 22) (.k (.bool true)) (.t 24), none, []⟩])
 (.cond (.t 25) (.seq (.ops [⟨(some 6), .mv (.k (.val (.slice none 0 0))), none, []⟩,
 ⟨(some 7), .mv (.k (.lit .i64 2)), none, []⟩])
 (.ret)) (.skip)))
 (.seq (.ops [⟨(some 27), .mv (.t 1), none, []⟩,
 ⟨(some 28), .call (.k (.fn 49 [])) [(.t 27)], none, []⟩,
 ⟨(some 26), .mv (.t 28), none, []⟩,
 ⟨(some 29), .extract (.t 26) 0, none, []⟩,
 ⟨(some 30), .extract (.t 26) 1, none, []⟩,
 ⟨(some 9), .mv (.t 29), none, []⟩,
 ⟨(some 10), .mv (.t 30), none, []⟩])
 (.seq (.seq (.ops [⟨(some 31), .mv (.t 10), none, []⟩,
 ⟨(some 32), .cmp .neq (.t 31) (.k (.lit .i64 0)), none, []⟩])
 (.cond (.t 32) (.seq (.ops [⟨(some 33), .mv (.t 10), none, []⟩,
 ⟨(some 6), .mv (.k (.val (.slice none 0 0))), none, []⟩,
 ⟨(some 7), .mv (.t 33), none, []⟩])
 (.ret)) (.skip)))
 (.seq (.ops [⟨(some 34), .mv (.t 0), none, []⟩,
 ⟨(some 35), .call (.k (.fn 83 [])) [(.t 34)], none, []⟩,
 ⟨(some 11), .mv (.t 35), none, []⟩])
 (.seq (.ops [⟨(some 12), .mv (.k (.val (.slice none 0 0))), none, []⟩])
 (.seq (.seq (.ops [⟨(some 13), .mv (.k (.lit .i64 0)), none, []⟩])
 (.block 0 (.loop (.seq (.seq (.ops [⟨(some 36), .mv (.t 13), none, []⟩,
 ⟨(some 37), .mv (.t 2), none, []⟩,
 ⟨(some 38), .cmp .lss (.t 36) (.t 37), none, []⟩])
 (.cond (.t 38) (.skip) (.exit 0)))
 (.seq (.block 1 (.seq (.ops [⟨(some 42), .mv (.t 9), none, []⟩,
 ⟨(some 43), .mv (.t 11), none, []⟩,
 ⟨(some 44), .mv (.t 8), none, []⟩,
 ⟨(some 45), .call (.k (.fn 84 [])) [(.t 42), (.t 43), (.t 44)], none, []⟩,
 ⟨(some 41), .mv (.t 45), none, []⟩,
 ⟨(some 46), .extract (.t 41) 0, none, []⟩,
 ⟨(some 47), .extract (.t 41) 1, none, []⟩,
 ⟨(some 14), .mv (.t 46), none, []⟩,
 ⟨(some 15), .mv (.t 47), none, []⟩])
 (.seq (.seq (.ops [⟨(some 48), .mv (.t 15), none, []⟩,
 ⟨(some 49), .not (.t 48), none, []⟩])
 (.cond (.t 49) (.seq (.ops [⟨(some 6), .mv (.k (.val (.slice none 0 0))), none, []⟩,
 ⟨(some 7), .mv (.k (.lit .i64 11)), none, []⟩])
 (.ret)) (.skip)))
 (.ops [⟨(some 50), .mv (.t 12), none, []⟩,
 ⟨(some 51), .mv (.t 14), none, []⟩,
 ⟨(some 52), .bsliceI 5 .u8 1 [⟨0, 1, (.t 51)⟩], none, []⟩,
 ⟨(some 53), .appI 5 .u8 1 (.t 50) (.t 52), none, []⟩,
 ⟨(some 12), .mv (.t 53), none, []⟩]))))
 (.ops [⟨(some 39), .mv (.t 13), none, []⟩,
 ⟨(some 40), .bin .add .i64 (.t 39) (.k (.lit .i64 1)), none, []⟩,
 ⟨(some 13), .mv (.t 40), none, []⟩]))))))
 (.seq (.seq (.ops [⟨(some 54), .mv (.t 9), none, []⟩,
 ⟨(some 55), .nilchk (.t 54), none, []⟩,
 ⟨(some 56), .fadr 1 (.t 55), none, []⟩,
 ⟨(some 57), .load1 (.t 56), none, []⟩,
 ⟨(some 58), .cmp .neq (.t 57) (.k (.lit .i64 0)), none, []⟩])
 (.cond (.t 58) (.seq (.ops [⟨(some 6), .mv (.k (.val (.slice none 0 0))), none, []⟩,
 ⟨(some 7), .mv (.k (.lit .i64 11)), none, []⟩])
 (.ret)) (.skip)))
 (.seq (.ops [⟨(some 59), .mv (.t 12), none, []⟩,
 ⟨(some 6), .mv (.t 59), none, []⟩,
 ⟨(some 7), .mv (.k (.lit .i64 0)), none, []⟩])
 (.ret)))))))))))
theorem fn56 : FnOk Try.prog 56 x56 60 [6, 7] := FnOk.of Try.call56 Try.func56 (by kernel_rfl) Try.ntmps56 (by kernel_rfl)
/-- math/bits.Len8 -/
def x66 : XC :=
 .seq (.ops [⟨(some 2), .mv (.k (.lit .i64 0)), none, []⟩])
 (.seq (.ops [⟨(some 3), .mv (.t 0), none, []⟩,
 ⟨(some 4), .idxS (.k (.str [0, 1, 2, 2, 3, 3, 3, 3, 4, 4, 4, 4, 4, 4, 4, 4, 5, 5, 5, 5, 5, 5, 5, 5, 5, 5, 5, 5, 5, 5, 5, 5, 6, 6, 6, 6, 6, 6, 6, 6, 6, 6, 6, 6, 6, 6, 6, 6, 6, 6, 6, 6, 6, 6, 6, 6, 6, 6, 6, 6, 6, 6, 6, 6, 7, 7, 7, 7, 7, 7, 7, 7, 7, 7, 7, 7, 7, 7, 7, 7, 7, 7, 7, 7, 7, 7, 7, 7, 7, 7, 7, 7, 7, 7, 7, 7, 7, 7, 7, 7, 7, 7, 7, 7, 7, 7, 7, 7, 7, 7, 7, 7, 7, 7, 7, 7, 7, 7, 7, 7, 7, 7, 7, 7, 7, 7, 7, 7, 8, 8, 8, 8, 8, 8, 8, 8, 8, 8, 8, 8, 8, 8, 8, 8, 8, 8, 8, 8, 8, 8, 8, 8, 8, 8, 8, 8, 8, 8, 8, 8, 8, 8, 8, 8, 8, 8, 8, 8, 8, 8, 8, 8, 8, 8, 8, 8, 8, 8, 8, 8, 8, 8, 8, 8, 8, 8, 8, 8, 8, 8, 8, 8, 8, 8, 8, 8, 8, 8, 8, 8, 8, 8, 8, 8, 8, 8, 8, 8, 8, 8, 8, 8, 8, 8, 8, 8, 8, 8, 8, 8, 8, 8, 8, 8, 8, 8, 8, 8, 8, 8, 8, 8, 8, 8, 8, 8, 8, 8, 8, 8, 8, 8, 8, 8, 8, 8, 8, 8, 8, 8, 8, 8, 8, 8, 8, 8])) (.t 3), none, []⟩,
 ⟨(some 5), .conv .i64 (.t 4), none, []⟩,
 ⟨(some 2), .mv (.t 5), none, []⟩])
 (.ret))
theorem fn66 : FnOk Try.prog 66 x66 6 [2] := FnOk.of Try.call66 Try.func66 (by kernel_rfl) Try.ntmps66 (by kernel_rfl)
/-- baler/bits.New -/
def x67 : XC :=
 .seq (.ops [⟨(some 2), .mv (.k (.val (.pointer none))), none, []⟩])
 (.seq (.ops [⟨(some 5), .bsliceI 5 .u8 0 [], none, []⟩,
 ⟨(some 6), .mv (.t 0), none, []⟩,
 ⟨(some 7), .appI 5 .u8 1 (.t 5) (.t 6), none, []⟩,
 ⟨(some 3), .newR 22 [(.val (.slice none 0 0))], none, []⟩,
 ⟨none, .store1 (.t 3) (.t 7), none, []⟩])
 (.seq (.ops [⟨(some 4), .newR 3 [(.lit .i64 0)], none, []⟩,
 ⟨none, .store1 (.t 4) (.k (.lit .i64 0)), none, []⟩])
 (.seq (.ops [⟨(some 8), .mkfn 91 [(.t 4), (.t 3)], none, []⟩,
 ⟨(some 9), .mkfn 92 [(.t 3), (.t 4)], none, []⟩,
 ⟨(some 10), .build [(.val .nilFunc), (.lit .u64 0), (.lit .i64 0), (.val .nilFunc)] [⟨0, 1, (.t 8)⟩, ⟨3, 1, (.t 9)⟩], none, []⟩,
 ⟨(some 11), .box 178 none (.t 10), none, []⟩,
 ⟨(some 2), .mv (.t 11), none, []⟩])
 (.ret))))
theorem fn67 : FnOk Try.prog 67 x67 12 [2] := FnOk.of Try.call67 Try.func67 (by kernel_rfl) Try.ntmps67 (by kernel_rfl)
/-- (*baler/bits.Reader).Bits -/
def x68 : XC :=
 .seq (.ops [⟨(some 4), .mv (.k (.lit .u64 0)), none, []⟩,
 ⟨(some 5), .mv (.k (.lit .i64 0)), none, []⟩])
 (.seq (.block 0 (.seq (.ops [⟨(some 8), .mv (.t 0), none, []⟩,
 ⟨(some 9), .eqv false 2 (.t 8) (.k (.val (.pointer none))), none, []⟩,
 ⟨(some 7), .mv (.t 9), none, []⟩])
 (.cond (.t 7) (.seq (.ops [⟨(some 4), .mv (.k (.lit .u64 0)), none, []⟩,
 ⟨(some 5), .mv (.k (.lit .i64 1)), none, []⟩])
 (.ret)) (.seq (.ops [⟨(some 11), .mv (.t 1), none, []⟩,
 ⟨(some 12), .cmp .lss (.t 11) (.k (.lit .i64 0)), none, []⟩,
 ⟨(some 13), .mv (.t 12), none, []⟩,
 ⟨(some 14), .mv (.t 1), some (13, false), []⟩,
 ⟨(some 15), .cmp .gtr (.t 14) (.k (.lit .i64 56)), some (13, false), []⟩,
 ⟨(some 16), .pick (.t 13) (.k (.bool true)) (.t 15), none, []⟩,
 ⟨(some 10), .mv (.t 16), none, []⟩])
 (.cond (.t 10) (.seq (.ops [⟨(some 4), .mv (.k (.lit .u64 0)), none, []⟩,
 ⟨(some 5), .mv (.k (.lit .i64 2)), none, []⟩])
 (.ret)) (.seq (.ops [⟨(some 18), .mv (.t 0), none, []⟩,
 ⟨(some 19), .mv (.t 1), none, []⟩,
 ⟨(some 20), .call (.k (.fn 93 [])) [(.t 18), (.t 19)], none, []⟩,
 ⟨(some 21), .not (.t 20), none, []⟩,
 ⟨(some 17), .mv (.t 21), none, []⟩])
 (.cond (.t 17) (.seq (.ops [⟨(some 4), .mv (.k (.lit .u64 0)), none, []⟩,
 ⟨(some 5), .mv (.k (.lit .i64 10)), none, []⟩])
 (.ret)) (.skip))))))))
 (.seq (.ops [⟨(some 22), .mv (.t 0), none, []⟩,
 ⟨(some 23), .nilchk (.t 22), none, []⟩,
 ⟨(some 24), .fadr 1 (.t 23), none, []⟩,
 ⟨(some 25), .load1 (.t 24), none, []⟩,
 ⟨(some 26), .mv (.t 1), none, []⟩,
 ⟨(some 27), .conv .u64 (.t 26), none, []⟩,
 ⟨(some 28), .bin .shl .u64 (.k (.lit .u64 1)) (.t 27), none, []⟩,
 ⟨(some 29), .bin .sub .u64 (.t 28) (.k (.lit .u64 1)), none, []⟩,
 ⟨(some 30), .bin .and .u64 (.t 25) (.t 29), none, []⟩,
 ⟨(some 6), .mv (.t 30), none, []⟩])
 (.seq (.ops [⟨(some 31), .mv (.t 0), none, []⟩,
 ⟨(some 32), .nilchk (.t 31), none, []⟩,
 ⟨(some 33), .fadr 1 (.t 32), none, []⟩,
 ⟨(some 34), .load1 (.t 33), none, []⟩,
 ⟨(some 35), .mv (.t 1), none, []⟩,
 ⟨(some 36), .conv .u64 (.t 35), none, []⟩,
 ⟨(some 37), .bin .shr .u64 (.t 34) (.t 36), none, []⟩,
 ⟨(some 38), .nilchk (.t 31), none, []⟩,
 ⟨(some 39), .fadr 1 (.t 38), none, []⟩,
 ⟨none, .store1 (.t 39) (.t 37), none, []⟩])
 (.seq (.ops [⟨(some 40), .mv (.t 0), none, []⟩,
 ⟨(some 41), .nilchk (.t 40), none, []⟩,
 ⟨(some 42), .fadr 2 (.t 41), none, []⟩,
 ⟨(some 43), .load1 (.t 42), none, []⟩,
 ⟨(some 44), .mv (.t 1), none, []⟩,
 ⟨(some 45), .bin .sub .i64 (.t 43) (.t 44), none, []⟩,
 ⟨(some 46), .nilchk (.t 40), none, []⟩,
 ⟨(some 47), .fadr 2 (.t 46), none, []⟩,
 ⟨none, .store1 (.t 47) (.t 45), none, []⟩])
 (.seq (.ops [⟨(some 48), .mv (.t 6), none, []⟩,
 ⟨(some 4), .mv (.t 48), none, []⟩,
 ⟨(some 5), .mv (.k (.lit .i64 0)), none, []⟩])
 (.ret))))))
theorem fn68 : FnOk Try.prog 68 x68 49 [4, 5] := FnOk.of Try.call68 Try.func68 (by kernel_rfl) Try.ntmps68 (by kernel_rfl)
/-- baler/states.parts -/
def x69 : XC :=
 .seq (.ops [⟨(some 2), .mv (.k (.lit .i64 0)), none, []⟩])
 (.seq (.seq (.ops [⟨(some 3), .mv (.t 0), none, []⟩,
 ⟨(some 4), .cmp .lss (.t 3) (.k (.lit .i16 0)), none, []⟩])
 (.cond (.t 4) (.seq (.ops [⟨(some 2), .mv (.k (.lit .i64 1)), none, []⟩])
 (.ret)) (.skip)))
 (.seq (.ops [⟨(some 5), .mv (.t 0), none, []⟩,
 ⟨(some 6), .conv .i64 (.t 5), none, []⟩,
 ⟨(some 2), .mv (.t 6), none, []⟩])
 (.ret)))
theorem fn69 : FnOk Try.prog 69 x69 7 [2] := FnOk.of Try.call69 Try.func69 (by kernel_rfl) Try.ntmps69 (by kernel_rfl)
/-- (*baler/bits.Reader).Left -/
def x70 : XC :=
 .seq (.ops [⟨(some 2), .mv (.k (.lit .i64 0)), none, []⟩])
 (.seq (.seq (.ops [⟨(some 3), .mv (.t 0), none, []⟩,
 ⟨(some 4), .eqv false 2 (.t 3) (.k (.val (.pointer none))), none, []⟩])
 (.cond (.t 4) (.seq (.ops [⟨(some 2), .mv (.k (.lit .i64 0)), none, []⟩])
 (.ret)) (.skip)))
 (.seq (.ops [⟨(some 5), .mv (.t 0), none, []⟩,
 ⟨(some 6), .nilchk (.t 5), none, []⟩,
 ⟨(some 7), .fadr 2 (.t 6), none, []⟩,
 ⟨(some 8), .load1 (.t 7), none, []⟩,
 ⟨(some 9), .mv (.t 0), none, []⟩,
 ⟨(some 10), .nilchk (.t 9), none, []⟩,
 ⟨(some 11), .fadr 3 (.t 10), none, []⟩,
 ⟨(some 12), .load1 (.t 11), none, []⟩,
 ⟨(some 13), .call (.t 12) [], none, [(.load1 (.t 7), 8, none)]⟩,
 ⟨(some 14), .bin .add .i64 (.t 8) (.t 13), none, []⟩,
 ⟨(some 2), .mv (.t 14), none, []⟩])
 (.ret)))
theorem fn70 : FnOk Try.prog 70 x70 15 [2] := FnOk.of Try.call70 Try.func70 (by kernel_rfl) Try.ntmps70 (by kernel_rfl)
/-- baler/states.right -/
def x71 : XC :=
 .seq (.ops [⟨(some 4), .mv (.k (.bool false)), none, []⟩])
 (.seq (.seq (.ops [⟨(some 8), .mv (.t 1), none, []⟩,
 ⟨(some 9), .cmp .lss (.t 8) (.k (.lit .i64 5)), none, []⟩,
 ⟨(some 10), .mv (.t 9), none, []⟩,
 ⟨(some 11), .mv (.t 1), some (10, false), []⟩,
 ⟨(some 12), .cmp .gtr (.t 11) (.k (.lit .i64 12)), some (10, false), []⟩,
 ⟨(some 13), .pick (.t 10) (.k (.bool true)) (.t 12), none, []⟩,
 ⟨(some 14), .mv (.t 13), none, []⟩,
 ⟨(some 15), .mv (.t 0), some (14, false), []⟩,
 ⟨(some 16), .len (.t 15), some (14, false), []⟩,
 ⟨(some 17), .cmp .eql (.t 16) (.k (.lit .i64 0)), some (14, false), []⟩,
 ⟨(some 18), .pick (.t 14) (.k (.bool true)) (.t 17), none, []⟩,
 ⟨(some 19), .mv (.t 18), none, []⟩,
 ⟨(some 20), .mv (.t 0), some (19, false), []⟩,
 ⟨(some 21), .len (.t 20), some (19, false), []⟩,
 ⟨(some 22), .cmp .gtr (.t 21) (.k (.lit .i64 256)), some (19, false), []⟩,
 ⟨(some 23), .pick (.t 19) (.k (.bool true)) (.t 22), none, []⟩,
 ⟨(some 24), .mv (.t 23), none, []⟩,
 ⟨(some 25), .mv (.t 0), some (24, false), []⟩,
 ⟨(some 26), .mv (.t 0), some (24, false), []⟩,
 ⟨(some 27), .len (.t 26), some (24, false), []⟩,
 ⟨(some 28), .bin .sub .i64 (.t 27) (.k (.lit .i64 1)), some (24, false), []⟩,
 ⟨(some 29), .iadr 1 (.t 25) (.t 28), some (24, false), []⟩,
 ⟨(some 30), .load1 (.t 29), some (24, false), []⟩,
 ⟨(some 31), .cmp .eql (.t 30) (.k (.lit .i16 0)), some (24, false), []⟩,
 ⟨(some 32), .pick (.t 24) (.k (.bool true)) (.t 31), none, []⟩])
 (.cond (.t 32) (.seq (.ops [⟨(some 4), .mv (.k (.bool false)), none, []⟩])
 (.ret)) (.skip)))
 (.seq (.ops [⟨(some 5), .mv (.k (.lit .i64 0)), none, []⟩])
 (.seq (.seq (.ops [⟨(some 33), .mv (.t 0), none, []⟩,
 ⟨(some 34), .len (.t 33), none, []⟩,
 ⟨(some 35), .mv (.k (.lit .i64 0)), none, []⟩])
 (.block 0 (.loop (.seq (.ops [⟨(some 36), .cmp .lss (.t 35) (.t 34), none, []⟩])
 (.seq (.cond (.t 36) (.skip) (.exit 0))
 (.seq (.block 1 (.seq (.ops [⟨(some 37), .iadr 1 (.t 33) (.t 35), none, []⟩,
 ⟨(some 38), .load1 (.t 37), none, []⟩,
 ⟨(some 7), .mv (.t 38), none, []⟩])
 (.seq (.seq (.ops [⟨(some 39), .mv (.t 7), none, []⟩,
 ⟨(some 40), .cmp .lss (.t 39) (.k (.lit .i16 (-1))), none, []⟩])
 (.cond (.t 40) (.seq (.ops [⟨(some 4), .mv (.k (.bool false)), none, []⟩])
 (.ret)) (.skip)))
 (.ops [⟨(some 41), .mv (.t 5), none, []⟩,
 ⟨(some 42), .mv (.t 7), none, []⟩,
 ⟨(some 43), .call (.k (.fn 69 [])) [(.t 42)], none, []⟩,
 ⟨(some 44), .bin .add .i64 (.t 41) (.t 43), none, []⟩,
 ⟨(some 5), .mv (.t 44), none, []⟩]))))
 (.ops [⟨(some 45), .bin .add .i64 (.t 35) (.k (.lit .i64 1)), none, []⟩,
 ⟨(some 35), .mv (.t 45), none, []⟩])))))))
 (.seq (.ops [⟨(some 46), .mv (.t 5), none, []⟩,
 ⟨(some 47), .mv (.t 1), none, []⟩,
 ⟨(some 48), .conv .u64 (.t 47), none, []⟩,
 ⟨(some 49), .bin .shl .i64 (.k (.lit .i64 1)) (.t 48), none, []⟩,
 ⟨(some 50), .cmp .eql (.t 46) (.t 49), none, []⟩,
 ⟨(some 4), .mv (.t 50), none, []⟩])
 (.ret)))))
theorem fn71 : FnOk Try.prog 71 x71 51 [4] := FnOk.of Try.call71 Try.func71 (by kernel_rfl) Try.ntmps71 (by kernel_rfl)
/-- baler/states.places -/
def x72 : XC :=
 .seq (.ops [⟨(some 2), .box 3 none (.t 0), none, []⟩,
 ⟨(some 3), .box 3 none (.t 1), none, []⟩,
 ⟨(some 4), .mv (.k (.val .nilFunc)), none, []⟩])
 (.seq (.ops [⟨(some 5), .mkfn 94 [(.t 3), (.t 2)], none, []⟩,
 ⟨(some 4), .mv (.t 5), none, []⟩])
 (.ret))
theorem fn72 : FnOk Try.prog 72 x72 6 [4] := FnOk.of Try.call72 Try.func72 (by kernel_rfl) Try.ntmps72 (by kernel_rfl)
/-- math/bits.Len64 -/
def x74 : XC :=
 .seq (.ops [⟨(some 2), .mv (.k (.lit .i64 0)), none, []⟩])
 (.seq (.seq (.ops [⟨(some 3), .mv (.t 0), none, []⟩,
 ⟨(some 4), .cmp .geq (.t 3) (.k (.lit .u64 4294967296)), none, []⟩])
 (.cond (.t 4) (.seq (.ops [⟨(some 5), .mv (.t 0), none, []⟩,
 ⟨(some 6), .bin .shr .u64 (.t 5) (.k (.lit .u64 32)), none, []⟩,
 ⟨(some 0), .mv (.t 6), none, []⟩])
 (.ops [⟨(some 2), .mv (.k (.lit .i64 32)), none, []⟩])) (.skip)))
 (.seq (.seq (.ops [⟨(some 7), .mv (.t 0), none, []⟩,
 ⟨(some 8), .cmp .geq (.t 7) (.k (.lit .u64 65536)), none, []⟩])
 (.cond (.t 8) (.seq (.ops [⟨(some 9), .mv (.t 0), none, []⟩,
 ⟨(some 10), .bin .shr .u64 (.t 9) (.k (.lit .u64 16)), none, []⟩,
 ⟨(some 0), .mv (.t 10), none, []⟩])
 (.ops [⟨(some 11), .mv (.t 2), none, []⟩,
 ⟨(some 12), .bin .add .i64 (.t 11) (.k (.lit .i64 16)), none, []⟩,
 ⟨(some 2), .mv (.t 12), none, []⟩])) (.skip)))
 (.seq (.seq (.ops [⟨(some 13), .mv (.t 0), none, []⟩,
 ⟨(some 14), .cmp .geq (.t 13) (.k (.lit .u64 256)), none, []⟩])
 (.cond (.t 14) (.seq (.ops [⟨(some 15), .mv (.t 0), none, []⟩,
 ⟨(some 16), .bin .shr .u64 (.t 15) (.k (.lit .u64 8)), none, []⟩,
 ⟨(some 0), .mv (.t 16), none, []⟩])
 (.ops [⟨(some 17), .mv (.t 2), none, []⟩,
 ⟨(some 18), .bin .add .i64 (.t 17) (.k (.lit .i64 8)), none, []⟩,
 ⟨(some 2), .mv (.t 18), none, []⟩])) (.skip)))
 (.seq (.ops [⟨(some 19), .mv (.t 2), none, []⟩,
 ⟨(some 20), .mv (.t 0), none, []⟩,
 ⟨(some 21), .conv .u8 (.t 20), none, []⟩,
 ⟨(some 22), .idxS (.k (.str [0, 1, 2, 2, 3, 3, 3, 3, 4, 4, 4, 4, 4, 4, 4, 4, 5, 5, 5, 5, 5, 5, 5, 5, 5, 5, 5, 5, 5, 5, 5, 5, 6, 6, 6, 6, 6, 6, 6, 6, 6, 6, 6, 6, 6, 6, 6, 6, 6, 6, 6, 6, 6, 6, 6, 6, 6, 6, 6, 6, 6, 6, 6, 6, 7, 7, 7, 7, 7, 7, 7, 7, 7, 7, 7, 7, 7, 7, 7, 7, 7, 7, 7, 7, 7, 7, 7, 7, 7, 7, 7, 7, 7, 7, 7, 7, 7, 7, 7, 7, 7, 7, 7, 7, 7, 7, 7, 7, 7, 7, 7, 7, 7, 7, 7, 7, 7, 7, 7, 7, 7, 7, 7, 7, 7, 7, 7, 7, 8, 8, 8, 8, 8, 8, 8, 8, 8, 8, 8, 8, 8, 8, 8, 8, 8, 8, 8, 8, 8, 8, 8, 8, 8, 8, 8, 8, 8, 8, 8, 8, 8, 8, 8, 8, 8, 8, 8, 8, 8, 8, 8, 8, 8, 8, 8, 8, 8, 8, 8, 8, 8, 8, 8, 8, 8, 8, 8, 8, 8, 8, 8, 8, 8, 8, 8, 8, 8, 8, 8, 8, 8, 8, 8, 8, 8, 8, 8, 8, 8, 8, 8, 8, 8, 8, 8, 8, 8, 8, 8, 8, 8, 8, 8, 8, 8, 8, 8, 8, 8, 8, 8, 8, 8, 8, 8, 8, 8, 8, 8, 8, 8, 8, 8, 8, 8, 8, 8, 8, 8, 8, 8, 8, 8, 8, 8, 8])) (.t 21), none, []⟩,
 ⟨(some 23), .conv .i64 (.t 22), none, []⟩,
 ⟨(some 24), .bin .add .i64 (.t 19) (.t 23), none, []⟩,
 ⟨(some 2), .mv (.t 24), none, []⟩])
 (.ret)))))
theorem fn74 : FnOk Try.prog 74 x74 25 [2] := FnOk.of Try.call74 Try.func74 (by kernel_rfl) Try.ntmps74 (by kernel_rfl)
/-- (*baler/balerref01.R).Bits -/
def x75 : XC :=
 .seq (.ops [⟨(some 4), .mv (.k (.lit .u64 0)), none, []⟩,
 ⟨(some 5), .mv (.k (.lit .i64 0)), none, []⟩])
 (.seq (.seq (.ops [⟨(some 8), .mv (.t 1), none, []⟩,
 ⟨(some 9), .cmp .lss (.t 8) (.k (.lit .i64 0)), none, []⟩,
 ⟨(some 10), .mv (.t 9), none, []⟩,
 ⟨(some 11), .mv (.t 1), some (10, false), []⟩,
 ⟨(some 12), .cmp .gtr (.t 11) (.k (.lit .i64 56)), some (10, false), []⟩,
 ⟨(some 13), .pick (.t 10) (.k (.bool true)) (.t 12), none, []⟩])
 (.cond (.t 13) (.seq (.ops [⟨(some 4), .mv (.k (.lit .u64 0)), none, []⟩,
 ⟨(some 5), .mv (.k (.lit .i64 2)), none, []⟩])
 (.ret)) (.skip)))
 (.seq (.seq (.ops [⟨(some 14), .mv (.t 0), none, []⟩,
 ⟨(some 15), .call (.k (.fn 95 [])) [(.t 14)], none, []⟩,
 ⟨(some 16), .mv (.t 1), none, []⟩,
 ⟨(some 17), .cmp .lss (.t 15) (.t 16), none, []⟩])
 (.cond (.t 17) (.seq (.ops [⟨(some 4), .mv (.k (.lit .u64 0)), none, []⟩,
 ⟨(some 5), .mv (.k (.lit .i64 10)), none, []⟩])
 (.ret)) (.skip)))
 (.seq (.ops [⟨(some 6), .mv (.k (.lit .u64 0)), none, []⟩])
 (.seq (.seq (.ops [⟨(some 7), .mv (.k (.lit .i64 0)), none, []⟩])
 (.block 0 (.loop (.seq (.seq (.ops [⟨(some 18), .mv (.t 7), none, []⟩,
 ⟨(some 19), .mv (.t 1), none, []⟩,
 ⟨(some 20), .cmp .lss (.t 18) (.t 19), none, []⟩])
 (.cond (.t 20) (.skip) (.exit 0)))
 (.seq (.block 1 (.ops [⟨(some 23), .mv (.t 6), none, []⟩,
 ⟨(some 24), .mv (.t 0), none, []⟩,
 ⟨(some 25), .mv (.t 0), none, []⟩,
 ⟨(some 26), .nilchk (.t 25), none, []⟩,
 ⟨(some 27), .fadr 1 (.t 26), none, []⟩,
 ⟨(some 28), .load1 (.t 27), none, []⟩,
 ⟨(some 29), .mv (.t 7), none, []⟩,
 ⟨(some 30), .bin .add .i64 (.t 28) (.t 29), none, []⟩,
 ⟨(some 31), .call (.k (.fn 96 [])) [(.t 24), (.t 30)], none, []⟩,
 ⟨(some 32), .mv (.t 7), none, []⟩,
 ⟨(some 33), .conv .u64 (.t 32), none, []⟩,
 ⟨(some 34), .bin .shl .u64 (.t 31) (.t 33), none, []⟩,
 ⟨(some 35), .bin .or .u64 (.t 23) (.t 34), none, []⟩,
 ⟨(some 6), .mv (.t 35), none, []⟩]))
 (.ops [⟨(some 21), .mv (.t 7), none, []⟩,
 ⟨(some 22), .bin .add .i64 (.t 21) (.k (.lit .i64 1)), none, []⟩,
 ⟨(some 7), .mv (.t 22), none, []⟩]))))))
 (.seq (.ops [⟨(some 36), .mv (.t 0), none, []⟩,
 ⟨(some 37), .nilchk (.t 36), none, []⟩,
 ⟨(some 38), .fadr 1 (.t 37), none, []⟩,
 ⟨(some 39), .load1 (.t 38), none, []⟩,
 ⟨(some 40), .mv (.t 1), none, []⟩,
 ⟨(some 41), .bin .add .i64 (.t 39) (.t 40), none, []⟩,
 ⟨(some 42), .nilchk (.t 36), none, []⟩,
 ⟨(some 43), .fadr 1 (.t 42), none, []⟩,
 ⟨none, .store1 (.t 43) (.t 41), none, []⟩])
 (.seq (.ops [⟨(some 44), .mv (.t 6), none, []⟩,
 ⟨(some 4), .mv (.t 44), none, []⟩,
 ⟨(some 5), .mv (.k (.lit .i64 0)), none, []⟩])
 (.ret)))))))
theorem fn75 : FnOk Try.prog 75 x75 45 [4, 5] := FnOk.of Try.call75 Try.func75 (by kernel_rfl) Try.ntmps75 (by kernel_rfl)
/-- baler/balerref07.value -/
def x76 : XC :=
 .seq (.ops [⟨(some 4), .mv (.k (.lit .i64 0)), none, []⟩,
 ⟨(some 5), .mv (.k (.lit .i64 0)), none, []⟩])
 (.seq (.ops [⟨(some 12), .mv (.t 1), none, []⟩,
 ⟨(some 13), .call (.k (.fn 79 [])) [(.t 12)], none, []⟩,
 ⟨(some 6), .mv (.t 13), none, []⟩])
 (.seq (.ops [⟨(some 14), .mv (.t 6), none, []⟩,
 ⟨(some 15), .conv .u64 (.t 14), none, []⟩,
 ⟨(some 16), .bin .shl .i64 (.k (.lit .i64 1)) (.t 15), none, []⟩,
 ⟨(some 17), .bin .sub .i64 (.t 16) (.k (.lit .i64 1)), none, []⟩,
 ⟨(some 18), .mv (.t 1), none, []⟩,
 ⟨(some 19), .bin .sub .i64 (.t 17) (.t 18), none, []⟩,
 ⟨(some 7), .mv (.t 19), none, []⟩])
 (.seq (.ops [⟨(some 21), .mv (.t 0), none, []⟩,
 ⟨(some 22), .mv (.t 6), none, []⟩,
 ⟨(some 23), .bin .sub .i64 (.t 22) (.k (.lit .i64 1)), none, []⟩,
 ⟨(some 24), .call (.k (.fn 75 [])) [(.t 21), (.t 23)], none, []⟩,
 ⟨(some 20), .mv (.t 24), none, []⟩,
 ⟨(some 25), .extract (.t 20) 0, none, []⟩,
 ⟨(some 26), .extract (.t 20) 1, none, []⟩,
 ⟨(some 8), .mv (.t 25), none, []⟩,
 ⟨(some 9), .mv (.t 26), none, []⟩])
 (.seq (.seq (.ops [⟨(some 27), .mv (.t 9), none, []⟩,
 ⟨(some 28), .cmp .neq (.t 27) (.k (.lit .i64 0)), none, []⟩])
 (.cond (.t 28) (.seq (.ops [⟨(some 29), .mv (.t 9), none, []⟩,
 ⟨(some 4), .mv (.k (.lit .i64 0)), none, []⟩,
 ⟨(some 5), .mv (.t 29), none, []⟩])
 (.ret)) (.skip)))
 (.seq (.seq (.ops [⟨(some 30), .mv (.t 8), none, []⟩,
 ⟨(some 31), .conv .i64 (.t 30), none, []⟩,
 ⟨(some 32), .mv (.t 7), none, []⟩,
 ⟨(some 33), .cmp .lss (.t 31) (.t 32), none, []⟩])
 (.cond (.t 33) (.seq (.ops [⟨(some 34), .mv (.t 8), none, []⟩,
 ⟨(some 35), .conv .i64 (.t 34), none, []⟩,
 ⟨(some 4), .mv (.t 35), none, []⟩,
 ⟨(some 5), .mv (.k (.lit .i64 0)), none, []⟩])
 (.ret)) (.skip)))
 (.seq (.ops [⟨(some 37), .mv (.t 0), none, []⟩,
 ⟨(some 38), .call (.k (.fn 75 [])) [(.t 37), (.k (.lit .i64 1))], none, []⟩,
 ⟨(some 36), .mv (.t 38), none, []⟩,
 ⟨(some 39), .extract (.t 36) 0, none, []⟩,
 ⟨(some 40), .extract (.t 36) 1, none, []⟩,
 ⟨(some 10), .mv (.t 39), none, []⟩,
 ⟨(some 9), .mv (.t 40), none, []⟩])
 (.seq (.seq (.ops [⟨(some 41), .mv (.t 9), none, []⟩,
 ⟨(some 42), .cmp .neq (.t 41) (.k (.lit .i64 0)), none, []⟩])
 (.cond (.t 42) (.seq (.ops [⟨(some 43), .mv (.t 9), none, []⟩,
 ⟨(some 4), .mv (.k (.lit .i64 0)), none, []⟩,
 ⟨(some 5), .mv (.t 43), none, []⟩])
 (.ret)) (.skip)))
 (.seq (.ops [⟨(some 44), .mv (.t 8), none, []⟩,
 ⟨(some 45), .conv .i64 (.t 44), none, []⟩,
 ⟨(some 46), .mv (.t 10), none, []⟩,
 ⟨(some 47), .conv .i64 (.t 46), none, []⟩,
 ⟨(some 48), .mv (.t 6), none, []⟩,
 ⟨(some 49), .bin .sub .i64 (.t 48) (.k (.lit .i64 1)), none, []⟩,
 ⟨(some 50), .conv .u64 (.t 49), none, []⟩,
 ⟨(some 51), .bin .shl .i64 (.t 47) (.t 50), none, []⟩,
 ⟨(some 52), .bin .add .i64 (.t 45) (.t 51), none, []⟩,
 ⟨(some 11), .mv (.t 52), none, []⟩])
 (.seq (.seq (.ops [⟨(some 53), .mv (.t 11), none, []⟩,
 ⟨(some 54), .mv (.t 6), none, []⟩,
 ⟨(some 55), .bin .sub .i64 (.t 54) (.k (.lit .i64 1)), none, []⟩,
 ⟨(some 56), .conv .u64 (.t 55), none, []⟩,
 ⟨(some 57), .bin .shl .i64 (.k (.lit .i64 1)) (.t 56), none, []⟩,
 ⟨(some 58), .cmp .geq (.t 53) (.t 57), none, []⟩])
 (.cond (.t 58) (.ops [⟨(some 59), .mv (.t 11), none, []⟩,
 ⟨(some 60), .mv (.t 7), none, []⟩,
 ⟨(some 61), .bin .sub .i64 (.t 59) (.t 60), none, []⟩,
 ⟨(some 11), .mv (.t 61), none, []⟩]) (.skip)))
 (.seq (.ops [⟨(some 62), .mv (.t 11), none, []⟩,
 ⟨(some 4), .mv (.t 62), none, []⟩,
 ⟨(some 5), .mv (.k (.lit .i64 0)), none, []⟩])
 (.ret)))))))))))
theorem fn76 : FnOk Try.prog 76 x76 63 [4, 5] := FnOk.of Try.call76 Try.func76 (by kernel_rfl) Try.ntmps76 (by kernel_rfl)
/-- baler/balerref07.parts -/
def x77 : XC :=
 .seq (.ops [⟨(some 2), .mv (.k (.lit .i64 0)), none, []⟩])
 (.seq (.seq (.ops [⟨(some 3), .mv (.t 0), none, []⟩,
 ⟨(some 4), .cmp .eql (.t 3) (.k (.lit .i16 (-1))), none, []⟩])
 (.cond (.t 4) (.seq (.ops [⟨(some 2), .mv (.k (.lit .i64 1)), none, []⟩])
 (.ret)) (.skip)))
 (.seq (.ops [⟨(some 5), .mv (.t 0), none, []⟩,
 ⟨(some 6), .conv .i64 (.t 5), none, []⟩,
 ⟨(some 2), .mv (.t 6), none, []⟩])
 (.ret)))
theorem fn77 : FnOk Try.prog 77 x77 7 [2] := FnOk.of Try.call77 Try.func77 (by kernel_rfl) Try.ntmps77 (by kernel_rfl)
/-- baler/balerref07.Right -/
def x78 : XC :=
 .seq (.ops [⟨(some 4), .mv (.k (.bool false)), none, []⟩])
 (.seq (.seq (.ops [⟨(some 7), .mv (.t 1), none, []⟩,
 ⟨(some 8), .cmp .lss (.t 7) (.k (.lit .i64 5)), none, []⟩,
 ⟨(some 9), .mv (.t 8), none, []⟩,
 ⟨(some 10), .mv (.t 1), some (9, false), []⟩,
 ⟨(some 11), .cmp .gtr (.t 10) (.k (.lit .i64 12)), some (9, false), []⟩,
 ⟨(some 12), .pick (.t 9) (.k (.bool true)) (.t 11), none, []⟩,
 ⟨(some 13), .mv (.t 12), none, []⟩,
 ⟨(some 14), .mv (.t 0), some (13, false), []⟩,
 ⟨(some 15), .len (.t 14), some (13, false), []⟩,
 ⟨(some 16), .cmp .eql (.t 15) (.k (.lit .i64 0)), some (13, false), []⟩,
 ⟨(some 17), .pick (.t 13) (.k (.bool true)) (.t 16), none, []⟩,
 ⟨(some 18), .mv (.t 17), none, []⟩,
 ⟨(some 19), .mv (.t 0), some (18, false), []⟩,
 ⟨(some 20), .len (.t 19), some (18, false), []⟩,
 ⟨(some 21), .cmp .gtr (.t 20) (.k (.lit .i64 256)), some (18, false), []⟩,
 ⟨(some 22), .pick (.t 18) (.k (.bool true)) (.t 21), none, []⟩,
 ⟨(some 23), .mv (.t 22), none, []⟩,
 ⟨(some 24), .mv (.t 0), some (23, false), []⟩,
 ⟨(some 25), .mv (.t 0), some (23, false), []⟩,
 ⟨(some 26), .len (.t 25), some (23, false), []⟩,
 ⟨(some 27), .bin .sub .i64 (.t 26) (.k (.lit .i64 1)), some (23, false), []⟩,
 ⟨(some 28), .iadr 1 (.t 24) (.t 27), some (23, false), []⟩,
 ⟨(some 29), .load1 (.t 28), some (23, false), []⟩,
 ⟨(some 30), .cmp .eql (.t 29) (.k (.lit .i16 0)), some (23, false), []⟩,
 ⟨(some 31), .pick (.t 23) (.k (.bool true)) (.t 30), none, []⟩])
 (.cond (.t 31) (.seq (.ops [⟨(some 4), .mv (.k (.bool false)), none, []⟩])
 (.ret)) (.skip)))
 (.seq (.ops [⟨(some 5), .mv (.k (.lit .i64 0)), none, []⟩])
 (.seq (.seq (.ops [⟨(some 6), .mv (.k (.lit .i64 0)), none, []⟩])
 (.block 0 (.loop (.seq (.seq (.ops [⟨(some 32), .mv (.t 6), none, []⟩,
 ⟨(some 33), .mv (.t 0), none, []⟩,
 ⟨(some 34), .len (.t 33), none, []⟩,
 ⟨(some 35), .cmp .lss (.t 32) (.t 34), none, []⟩])
 (.cond (.t 35) (.skip) (.exit 0)))
 (.seq (.block 1 (.seq (.seq (.ops [⟨(some 38), .mv (.t 0), none, []⟩,
 ⟨(some 39), .mv (.t 6), none, []⟩,
 ⟨(some 40), .iadr 1 (.t 38) (.t 39), none, []⟩,
 ⟨(some 41), .load1 (.t 40), none, []⟩,
 ⟨(some 42), .cmp .lss (.t 41) (.k (.lit .i16 (-1))), none, []⟩])
 (.cond (.t 42) (.seq (.ops [⟨(some 4), .mv (.k (.bool false)), none, []⟩])
 (.ret)) (.skip)))
 (.ops [⟨(some 43), .mv (.t 5), none, []⟩,
 ⟨(some 44), .mv (.t 0), none, []⟩,
 ⟨(some 45), .mv (.t 6), none, []⟩,
 ⟨(some 46), .iadr 1 (.t 44) (.t 45), none, []⟩,
 ⟨(some 47), .load1 (.t 46), none, []⟩,
 ⟨(some 48), .call (.k (.fn 77 [])) [(.t 47)], none, []⟩,
 ⟨(some 49), .bin .add .i64 (.t 43) (.t 48), none, []⟩,
 ⟨(some 5), .mv (.t 49), none, []⟩])))
 (.ops [⟨(some 36), .mv (.t 6), none, []⟩,
 ⟨(some 37), .bin .add .i64 (.t 36) (.k (.lit .i64 1)), none, []⟩,
 ⟨(some 6), .mv (.t 37), none, []⟩]))))))
 (.seq (.ops [⟨(some 50), .mv (.t 5), none, []⟩,
 ⟨(some 51), .mv (.t 1), none, []⟩,
 ⟨(some 52), .conv .u64 (.t 51), none, []⟩,
 ⟨(some 53), .bin .shl .i64 (.k (.lit .i64 1)) (.t 52), none, []⟩,
 ⟨(some 54), .cmp .eql (.t 50) (.t 53), none, []⟩,
 ⟨(some 4), .mv (.t 54), none, []⟩])
 (.ret)))))
theorem fn78 : FnOk Try.prog 78 x78 55 [4] := FnOk.of Try.call78 Try.func78 (by kernel_rfl) Try.ntmps78 (by kernel_rfl)
/-- baler/balerref07.width -/
def x79 : XC :=
 .seq (.ops [⟨(some 2), .mv (.k (.lit .i64 0)), none, []⟩])
 (.seq (.ops [⟨(some 3), .mv (.k (.lit .i64 0)), none, []⟩])
 (.seq (.block 0 (.loop (.seq (.seq (.ops [⟨(some 4), .mv (.t 0), none, []⟩,
 ⟨(some 5), .cmp .gtr (.t 4) (.k (.lit .i64 0)), none, []⟩])
 (.cond (.t 5) (.skip) (.exit 0)))
 (.block 1 (.seq (.ops [⟨(some 6), .mv (.t 0), none, []⟩,
 ⟨(some 7), .bin .quo .i64 (.t 6) (.k (.lit .i64 2)), none, []⟩,
 ⟨(some 0), .mv (.t 7), none, []⟩])
 (.ops [⟨(some 8), .mv (.t 3), none, []⟩,
 ⟨(some 9), .bin .add .i64 (.t 8) (.k (.lit .i64 1)), none, []⟩,
 ⟨(some 3), .mv (.t 9), none, []⟩]))))))
 (.seq (.ops [⟨(some 10), .mv (.t 3), none, []⟩,
 ⟨(some 2), .mv (.t 10), none, []⟩])
 (.ret))))
theorem fn79 : FnOk Try.prog 79 x79 11 [2] := FnOk.of Try.call79 Try.func79 (by kernel_rfl) Try.ntmps79 (by kernel_rfl)
/-- baler/weights.all$1 -/
def x80 : XC :=
 .seq (.ops [⟨(some 4), .mv (.k (.lit .i64 0)), none, []⟩])
 (.seq (.ops [⟨(some 5), .mv (.k (.lit .i64 1)), none, []⟩])
 (.block 0 (.loop (.seq (.seq (.ops [⟨(some 8), .mv (.t 5), none, []⟩,
 ⟨(some 9), .load1 (.t 1), none, []⟩,
 ⟨(some 10), .bin .add .i64 (.t 9) (.k (.lit .i64 1)), none, []⟩,
 ⟨(some 11), .cmp .leq (.t 8) (.t 10), none, []⟩])
 (.cond (.t 11) (.skip) (.exit 0)))
 (.seq (.block 1 (.seq (.ops [⟨(some 14), .load1 (.t 2), none, []⟩,
 ⟨(some 15), .len (.t 14), none, []⟩,
 ⟨(some 16), .mv (.k (.lit .i64 0)), none, []⟩])
 (.block 2 (.loop (.seq (.ops [⟨(some 17), .cmp .lss (.t 16) (.t 15), none, []⟩])
 (.seq (.cond (.t 17) (.skip) (.exit 2))
 (.seq (.block 3 (.seq (.ops [⟨(some 18), .mv (.t 16), none, []⟩,
 ⟨(some 19), .iadr 1 (.t 14) (.t 16), none, []⟩,
 ⟨(some 20), .load1 (.t 19), none, []⟩,
 ⟨(some 6), .mv (.t 18), none, []⟩,
 ⟨(some 7), .mv (.t 20), none, []⟩])
 (.seq (.seq (.ops [⟨(some 21), .mv (.t 7), none, []⟩,
 ⟨(some 22), .conv .i64 (.t 21), none, []⟩,
 ⟨(some 23), .mv (.t 5), none, []⟩,
 ⟨(some 24), .cmp .neq (.t 22) (.t 23), none, []⟩])
 (.cond (.t 24) (.exit 3) (.skip)))
 (.seq (.seq (.ops [⟨(some 25), .mv (.t 0), none, []⟩,
 ⟨(some 26), .mv (.t 6), none, []⟩,
 ⟨(some 27), .mv (.t 4), none, []⟩,
 ⟨(some 28), .mv (.t 5), none, []⟩,
 ⟨(some 29), .bin .sub .i64 (.t 28) (.k (.lit .i64 1)), none, []⟩,
 ⟨(some 30), .conv .u64 (.t 29), none, []⟩,
 ⟨(some 31), .bin .shr .i64 (.t 27) (.t 30), none, []⟩,
 ⟨(some 32), .conv .u64 (.t 31), none, []⟩,
 ⟨(some 33), .load1 (.t 1), none, []⟩,
 ⟨(some 34), .bin .add .i64 (.t 33) (.k (.lit .i64 1)), none, []⟩,
 ⟨(some 35), .mv (.t 5), none, []⟩,
 ⟨(some 36), .bin .sub .i64 (.t 34) (.t 35), none, []⟩,
 ⟨(some 37), .build [(.lit .u64 0), (.lit .i64 0)] [⟨0, 1, (.t 32)⟩, ⟨1, 1, (.t 36)⟩], none, []⟩,
 ⟨(some 38), .call (.t 25) [(.t 26), (.t 37)], none, []⟩,
 ⟨(some 39), .not (.t 38), none, []⟩])
 (.cond (.t 39) (.ret) (.skip)))
 (.ops [⟨(some 40), .mv (.t 4), none, []⟩,
 ⟨(some 41), .mv (.t 5), none, []⟩,
 ⟨(some 42), .bin .sub .i64 (.t 41) (.k (.lit .i64 1)), none, []⟩,
 ⟨(some 43), .conv .u64 (.t 42), none, []⟩,
 ⟨(some 44), .bin .shl .i64 (.k (.lit .i64 1)) (.t 43), none, []⟩,
 ⟨(some 45), .bin .add .i64 (.t 40) (.t 44), none, []⟩,
 ⟨(some 4), .mv (.t 45), none, []⟩])))))
 (.ops [⟨(some 46), .bin .add .i64 (.t 16) (.k (.lit .i64 1)), none, []⟩,
 ⟨(some 16), .mv (.t 46), none, []⟩]))))))))
 (.ops [⟨(some 12), .mv (.t 5), none, []⟩,
 ⟨(some 13), .bin .add .i64 (.t 12) (.k (.lit .i64 1)), none, []⟩,
 ⟨(some 5), .mv (.t 13), none, []⟩]))))))
theorem fn80 : FnOk Try.prog 80 x80 47 [] := FnOk.of Try.call80 Try.func80 (by kernel_rfl) Try.ntmps80 (by kernel_rfl)
/-- math/bits.Mul64 -/
def x82 : XC :=
 .seq (.ops [⟨(some 4), .mv (.k (.lit .u64 0)), none, []⟩,
 ⟨(some 5), .mv (.k (.lit .u64 0)), none, []⟩])
 (.seq (.ops [⟨(some 14), .mv (.t 0), none, []⟩,
 ⟨(some 15), .bin .and .u64 (.t 14) (.k (.lit .u64 4294967295)), none, []⟩,
 ⟨(some 6), .mv (.t 15), none, []⟩])
 (.seq (.ops [⟨(some 16), .mv (.t 0), none, []⟩,
 ⟨(some 17), .bin .shr .u64 (.t 16) (.k (.lit .u64 32)), none, []⟩,
 ⟨(some 7), .mv (.t 17), none, []⟩])
 (.seq (.ops [⟨(some 18), .mv (.t 1), none, []⟩,
 ⟨(some 19), .bin .and .u64 (.t 18) (.k (.lit .u64 4294967295)), none, []⟩,
 ⟨(some 8), .mv (.t 19), none, []⟩])
 (.seq (.ops [⟨(some 20), .mv (.t 1), none, []⟩,
 ⟨(some 21), .bin .shr .u64 (.t 20) (.k (.lit .u64 32)), none, []⟩,
 ⟨(some 9), .mv (.t 21), none, []⟩])
 (.seq (.ops [⟨(some 22), .mv (.t 6), none, []⟩,
 ⟨(some 23), .mv (.t 8), none, []⟩,
 ⟨(some 24), .bin .mul .u64 (.t 22) (.t 23), none, []⟩,
 ⟨(some 10), .mv (.t 24), none, []⟩])
 (.seq (.ops [⟨(some 25), .mv (.t 7), none, []⟩,
 ⟨(some 26), .mv (.t 8), none, []⟩,
 ⟨(some 27), .bin .mul .u64 (.t 25) (.t 26), none, []⟩,
 ⟨(some 28), .mv (.t 10), none, []⟩,
 ⟨(some 29), .bin .shr .u64 (.t 28) (.k (.lit .u64 32)), none, []⟩,
 ⟨(some 30), .bin .add .u64 (.t 27) (.t 29), none, []⟩,
 ⟨(some 11), .mv (.t 30), none, []⟩])
 (.seq (.ops [⟨(some 31), .mv (.t 11), none, []⟩,
 ⟨(some 32), .bin .and .u64 (.t 31) (.k (.lit .u64 4294967295)), none, []⟩,
 ⟨(some 12), .mv (.t 32), none, []⟩])
 (.seq (.ops [⟨(some 33), .mv (.t 11), none, []⟩,
 ⟨(some 34), .bin .shr .u64 (.t 33) (.k (.lit .u64 32)), none, []⟩,
 ⟨(some 13), .mv (.t 34), none, []⟩])
 (.seq (.ops [⟨(some 35), .mv (.t 12), none, []⟩,
 ⟨(some 36), .mv (.t 6), none, []⟩,
 ⟨(some 37), .mv (.t 9), none, []⟩,
 ⟨(some 38), .bin .mul .u64 (.t 36) (.t 37), none, []⟩,
 ⟨(some 39), .bin .add .u64 (.t 35) (.t 38), none, []⟩,
 ⟨(some 12), .mv (.t 39), none, []⟩])
 (.seq (.ops [⟨(some 40), .mv (.t 7), none, []⟩,
 ⟨(some 41), .mv (.t 9), none, []⟩,
 ⟨(some 42), .bin .mul .u64 (.t 40) (.t 41), none, []⟩,
 ⟨(some 43), .mv (.t 13), none, []⟩,
 ⟨(some 44), .bin .add .u64 (.t 42) (.t 43), none, []⟩,
 ⟨(some 45), .mv (.t 12), none, []⟩,
 ⟨(some 46), .bin .shr .u64 (.t 45) (.k (.lit .u64 32)), none, []⟩,
 ⟨(some 47), .bin .add .u64 (.t 44) (.t 46), none, []⟩,
 ⟨(some 4), .mv (.t 47), none, []⟩])
 (.seq (.ops [⟨(some 48), .mv (.t 0), none, []⟩,
 ⟨(some 49), .mv (.t 1), none, []⟩,
 ⟨(some 50), .bin .mul .u64 (.t 48) (.t 49), none, []⟩,
 ⟨(some 5), .mv (.t 50), none, []⟩])
 (.ret))))))))))))
theorem fn82 : FnOk Try.prog 82 x82 51 [4, 5] := FnOk.of Try.call82 Try.func82 (by kernel_rfl) Try.ntmps82 (by kernel_rfl)
/-- baler/balerref09.Words -/
def x83 : XC :=
 .seq (.ops [⟨(some 2), .mv (.k (.val (.slice none 0 0))), none, []⟩])
 (.seq (.ops [⟨(some 8), .mv (.t 0), none, []⟩,
 ⟨(some 9), .call (.k (.fn 27 [])) [(.t 8)], none, []⟩,
 ⟨(some 3), .mv (.t 9), none, []⟩])
 (.seq (.ops [⟨(some 10), .mv (.t 0), none, []⟩,
 ⟨(some 11), .len (.t 10), none, []⟩,
 ⟨(some 12), .mkslR 181 2 16 [(.lit .u64 0), (.lit .i64 0)] (.t 11) (.t 11), none, []⟩,
 ⟨(some 4), .mv (.t 12), none, []⟩])
 (.seq (.ops [⟨(some 5), .mv (.k (.lit .i64 0)), none, []⟩])
 (.seq (.seq (.ops [⟨(some 6), .mv (.k (.lit .i64 1)), none, []⟩])
 (.block 0 (.loop (.seq (.seq (.ops [⟨(some 13), .mv (.t 6), none, []⟩,
 ⟨(some 14), .mv (.t 3), none, []⟩,
 ⟨(some 15), .bin .add .i64 (.t 14) (.k (.lit .i64 1)), none, []⟩,
 ⟨(some 16), .cmp .leq (.t 13) (.t 15), none, []⟩])
 (.cond (.t 16) (.skip) (.exit 0)))
 (.seq (.block 1 (.seq (.ops [⟨(some 7), .mv (.k (.lit .i64 0)), none, []⟩])
 (.block 2 (.loop (.seq (.seq (.ops [⟨(some 19), .mv (.t 7), none, []⟩,
 ⟨(some 20), .mv (.t 0), none, []⟩,
 ⟨(some 21), .len (.t 20), none, []⟩,
 ⟨(some 22), .cmp .lss (.t 19) (.t 21), none, []⟩])
 (.cond (.t 22) (.skip) (.exit 2)))
 (.seq (.block 3 (.seq (.ops [⟨(some 25), .mv (.t 0), none, []⟩,
 ⟨(some 26), .mv (.t 7), none, []⟩,
 ⟨(some 27), .iadr 1 (.t 25) (.t 26), none, []⟩,
 ⟨(some 28), .load1 (.t 27), none, []⟩,
 ⟨(some 29), .conv .i64 (.t 28), none, []⟩,
 ⟨(some 30), .mv (.t 6), none, []⟩,
 ⟨(some 31), .cmp .eql (.t 29) (.t 30), none, []⟩])
 (.cond (.t 31) (.seq (.ops [⟨(some 32), .mv (.t 4), none, []⟩,
 ⟨(some 33), .mv (.t 7), none, []⟩,
 ⟨(some 34), .mv (.t 5), none, []⟩,
 ⟨(some 35), .mv (.t 6), none, []⟩,
 ⟨(some 36), .bin .sub .i64 (.t 35) (.k (.lit .i64 1)), none, []⟩,
 ⟨(some 37), .conv .u64 (.t 36), none, []⟩,
 ⟨(some 38), .bin .shr .i64 (.t 34) (.t 37), none, []⟩,
 ⟨(some 39), .conv .u64 (.t 38), none, []⟩,
 ⟨(some 40), .mv (.t 3), none, []⟩,
 ⟨(some 41), .bin .add .i64 (.t 40) (.k (.lit .i64 1)), none, []⟩,
 ⟨(some 42), .mv (.t 6), none, []⟩,
 ⟨(some 43), .bin .sub .i64 (.t 41) (.t 42), none, []⟩,
 ⟨(some 44), .build [(.lit .u64 0), (.lit .i64 0)] [⟨0, 1, (.t 39)⟩, ⟨1, 1, (.t 43)⟩], none, []⟩,
 ⟨(some 45), .iadr 2 (.t 32) (.t 33), none, []⟩,
 ⟨none, .storeA 2 (.t 45) (.t 44), none, []⟩])
 (.ops [⟨(some 46), .mv (.t 5), none, []⟩,
 ⟨(some 47), .mv (.t 6), none, []⟩,
 ⟨(some 48), .bin .sub .i64 (.t 47) (.k (.lit .i64 1)), none, []⟩,
 ⟨(some 49), .conv .u64 (.t 48), none, []⟩,
 ⟨(some 50), .bin .shl .i64 (.k (.lit .i64 1)) (.t 49), none, []⟩,
 ⟨(some 51), .bin .add .i64 (.t 46) (.t 50), none, []⟩,
 ⟨(some 5), .mv (.t 51), none, []⟩])) (.skip))))
 (.ops [⟨(some 23), .mv (.t 7), none, []⟩,
 ⟨(some 24), .bin .add .i64 (.t 23) (.k (.lit .i64 1)), none, []⟩,
 ⟨(some 7), .mv (.t 24), none, []⟩])))))))
 (.ops [⟨(some 17), .mv (.t 6), none, []⟩,
 ⟨(some 18), .bin .add .i64 (.t 17) (.k (.lit .i64 1)), none, []⟩,
 ⟨(some 6), .mv (.t 18), none, []⟩]))))))
 (.seq (.ops [⟨(some 52), .mv (.t 4), none, []⟩,
 ⟨(some 2), .mv (.t 52), none, []⟩])
 (.ret))))))
theorem fn83 : FnOk Try.prog 83 x83 53 [2] := FnOk.of Try.call83 Try.func83 (by kernel_rfl) Try.ntmps83 (by kernel_rfl)
/-- baler/balerref09.next -/
def x84 : XC :=
 .seq (.ops [⟨(some 6), .mv (.k (.lit .u8 0)), none, []⟩,
 ⟨(some 7), .mv (.k (.bool false)), none, []⟩])
 (.seq (.ops [⟨(some 8), .mv (.k (.lit .u64 0)), none, []⟩])
 (.seq (.seq (.ops [⟨(some 9), .mv (.k (.lit .i64 0)), none, []⟩])
 (.block 0 (.loop (.seq (.seq (.ops [⟨(some 11), .mv (.t 9), none, []⟩,
 ⟨(some 12), .mv (.t 2), none, []⟩,
 ⟨(some 13), .cmp .leq (.t 11) (.t 12), none, []⟩])
 (.cond (.t 13) (.skip) (.exit 0)))
 (.seq (.block 1 (.seq (.seq (.ops [⟨(some 10), .mv (.k (.lit .i64 0)), none, []⟩])
 (.block 2 (.loop (.seq (.seq (.ops [⟨(some 16), .mv (.t 10), none, []⟩,
 ⟨(some 17), .mv (.t 1), none, []⟩,
 ⟨(some 18), .len (.t 17), none, []⟩,
 ⟨(some 19), .cmp .lss (.t 16) (.t 18), none, []⟩])
 (.cond (.t 19) (.skip) (.exit 2)))
 (.seq (.block 3 (.seq (.ops [⟨(some 22), .mv (.t 1), none, []⟩,
 ⟨(some 23), .mv (.t 10), none, []⟩,
 ⟨(some 24), .iadr 2 (.t 22) (.t 23), none, []⟩,
 ⟨(some 25), .fadr 1 (.t 24), none, []⟩,
 ⟨(some 26), .load1 (.t 25), none, []⟩,
 ⟨(some 27), .mv (.t 9), none, []⟩,
 ⟨(some 28), .cmp .eql (.t 26) (.t 27), none, []⟩,
 ⟨(some 29), .mv (.t 28), none, []⟩,
 ⟨(some 30), .mv (.t 9), some (29, true), []⟩,
 ⟨(some 31), .cmp .gtr (.t 30) (.k (.lit .i64 0)), some (29, true), []⟩,
 ⟨(some 32), .pick (.t 29) (.t 31) (.k (.bool false)), none, []⟩,
 ⟨(some 33), .mv (.t 32), none, []⟩,
 ⟨(some 34), .mv (.t 1), some (33, true), []⟩,
 ⟨(some 35), .mv (.t 10), some (33, true), []⟩,
 ⟨(some 36), .iadr 2 (.t 34) (.t 35), some (33, true), []⟩,
 ⟨(some 37), .fadr 0 (.t 36), some (33, true), []⟩,
 ⟨(some 38), .load1 (.t 37), some (33, true), []⟩,
 ⟨(some 39), .mv (.t 8), some (33, true), []⟩,
 ⟨(some 40), .cmp .eql (.t 38) (.t 39), some (33, true), []⟩,
 ⟨(some 41), .pick (.t 33) (.t 40) (.k (.bool false)), none, []⟩])
 (.cond (.t 41) (.seq (.ops [⟨(some 42), .mv (.t 10), none, []⟩,
 ⟨(some 43), .conv .u8 (.t 42), none, []⟩,
 ⟨(some 44), .mv (.t 0), none, []⟩,
 ⟨(some 45), .nilchk (.t 44), none, []⟩,
 ⟨(some 46), .fadr 1 (.t 45), none, []⟩,
 ⟨(some 47), .load1 (.t 46), none, []⟩,
 ⟨(some 48), .cmp .geq (.t 47) (.k (.lit .i64 0)), none, []⟩,
 ⟨(some 6), .mv (.t 43), none, []⟩,
 ⟨(some 7), .mv (.t 48), none, []⟩])
 (.ret)) (.skip))))
 (.ops [⟨(some 20), .mv (.t 10), none, []⟩,
 ⟨(some 21), .bin .add .i64 (.t 20) (.k (.lit .i64 1)), none, []⟩,
 ⟨(some 10), .mv (.t 21), none, []⟩]))))))
 (.ops [⟨(some 49), .mv (.t 8), none, []⟩,
 ⟨(some 50), .bin .mul .u64 (.k (.lit .u64 2)) (.t 49), none, []⟩,
 ⟨(some 51), .mv (.t 0), none, []⟩,
 ⟨(some 52), .call (.k (.fn 50 [])) [(.t 51), (.k (.lit .i64 1))], none, []⟩,
 ⟨(some 53), .bin .add .u64 (.t 50) (.t 52), none, []⟩,
 ⟨(some 8), .mv (.t 53), none, []⟩])))
 (.ops [⟨(some 14), .mv (.t 9), none, []⟩,
 ⟨(some 15), .bin .add .i64 (.t 14) (.k (.lit .i64 1)), none, []⟩,
 ⟨(some 9), .mv (.t 15), none, []⟩]))))))
 (.seq (.ops [⟨(some 6), .mv (.k (.lit .u8 0)), none, []⟩,
 ⟨(some 7), .mv (.k (.bool false)), none, []⟩])
 (.ret))))
theorem fn84 : FnOk Try.prog 84 x84 54 [6, 7] := FnOk.of Try.call84 Try.func84 (by kernel_rfl) Try.ntmps84 (by kernel_rfl)
/-- baler/bits.New$1 -/
def x91 : XC :=
 .seq (.ops [⟨(some 2), .mv (.k (.lit .u8 0)), none, []⟩,
 ⟨(some 3), .mv (.k (.bool false)), none, []⟩])
 (.seq (.seq (.ops [⟨(some 4), .load1 (.t 0), none, []⟩,
 ⟨(some 5), .load1 (.t 1), none, []⟩,
 ⟨(some 6), .len (.t 5), none, []⟩,
 ⟨(some 7), .cmp .geq (.t 4) (.t 6), none, []⟩])
 (.cond (.t 7) (.seq (.ops [⟨(some 2), .mv (.k (.lit .u8 0)), none, []⟩,
 ⟨(some 3), .mv (.k (.bool false)), none, []⟩])
 (.ret)) (.skip)))
 (.seq (.ops [⟨(some 8), .load1 (.t 0), none, []⟩,
 ⟨(some 9), .bin .add .i64 (.t 8) (.k (.lit .i64 1)), none, []⟩,
 ⟨none, .store1 (.t 0) (.t 9), none, []⟩])
 (.seq (.ops [⟨(some 10), .load1 (.t 1), none, []⟩,
 ⟨(some 11), .load1 (.t 0), none, []⟩,
 ⟨(some 12), .bin .sub .i64 (.t 11) (.k (.lit .i64 1)), none, []⟩,
 ⟨(some 13), .iadr 1 (.t 10) (.t 12), none, []⟩,
 ⟨(some 14), .load1 (.t 13), none, []⟩,
 ⟨(some 2), .mv (.t 14), none, []⟩,
 ⟨(some 3), .mv (.k (.bool true)), none, []⟩])
 (.ret))))
theorem fn91 : FnOk Try.prog 91 x91 15 [2, 3] := FnOk.of Try.call91 Try.func91 (by kernel_rfl) Try.ntmps91 (by kernel_rfl)
/-- baler/bits.New$2 -/
def x92 : XC :=
 .seq (.ops [⟨(some 2), .mv (.k (.lit .i64 0)), none, []⟩])
 (.seq (.ops [⟨(some 3), .load1 (.t 0), none, []⟩,
 ⟨(some 4), .len (.t 3), none, []⟩,
 ⟨(some 5), .load1 (.t 1), none, []⟩,
 ⟨(some 6), .bin .sub .i64 (.t 4) (.t 5), none, []⟩,
 ⟨(some 7), .bin .mul .i64 (.k (.lit .i64 8)) (.t 6), none, []⟩,
 ⟨(some 2), .mv (.t 7), none, []⟩])
 (.ret))
theorem fn92 : FnOk Try.prog 92 x92 8 [2] := FnOk.of Try.call92 Try.func92 (by kernel_rfl) Try.ntmps92 (by kernel_rfl)
/-- (*baler/bits.Reader).fill -/
def x93 : XC :=
 .seq (.ops [⟨(some 4), .mv (.k (.bool false)), none, []⟩])
 (.seq (.block 0 (.loop (.seq (.seq (.ops [⟨(some 7), .mv (.t 0), none, []⟩,
 ⟨(some 8), .nilchk (.t 7), none, []⟩,
 ⟨(some 9), .fadr 2 (.t 8), none, []⟩,
 ⟨(some 10), .load1 (.t 9), none, []⟩,
 ⟨(some 11), .mv (.t 1), none, []⟩,
 ⟨(some 12), .cmp .lss (.t 10) (.t 11), none, []⟩])
 (.cond (.t 12) (.skip) (.exit 0)))
 (.block 1 (.seq (.ops [⟨(some 14), .mv (.t 0), none, []⟩,
 ⟨(some 15), .nilchk (.t 14), none, []⟩,
 ⟨(some 16), .fadr 0 (.t 15), none, []⟩,
 ⟨(some 17), .load1 (.t 16), none, []⟩,
 ⟨(some 18), .call (.t 17) [], none, []⟩,
 ⟨(some 13), .mv (.t 18), none, []⟩,
 ⟨(some 19), .extract (.t 13) 0, none, []⟩,
 ⟨(some 20), .extract (.t 13) 1, none, []⟩,
 ⟨(some 5), .mv (.t 19), none, []⟩,
 ⟨(some 6), .mv (.t 20), none, []⟩])
 (.seq (.seq (.ops [⟨(some 21), .mv (.t 6), none, []⟩,
 ⟨(some 22), .not (.t 21), none, []⟩])
 (.cond (.t 22) (.seq (.ops [⟨(some 4), .mv (.k (.bool false)), none, []⟩])
 (.ret)) (.skip)))
 (.seq (.ops [⟨(some 23), .mv (.t 0), none, []⟩,
 ⟨(some 24), .nilchk (.t 23), none, []⟩,
 ⟨(some 25), .fadr 1 (.t 24), none, []⟩,
 ⟨(some 26), .load1 (.t 25), none, []⟩,
 ⟨(some 27), .mv (.t 5), none, []⟩,
 ⟨(some 28), .conv .u64 (.t 27), none, []⟩,
 ⟨(some 29), .mv (.t 0), none, []⟩,
 ⟨(some 30), .nilchk (.t 29), none, []⟩,
 ⟨(some 31), .fadr 2 (.t 30), none, []⟩,
 ⟨(some 32), .load1 (.t 31), none, []⟩,
 ⟨(some 33), .conv .u64 (.t 32), none, []⟩,
 ⟨(some 34), .bin .shl .u64 (.t 28) (.t 33), none, []⟩,
 ⟨(some 35), .bin .or .u64 (.t 26) (.t 34), none, []⟩,
 ⟨(some 36), .nilchk (.t 23), none, []⟩,
 ⟨(some 37), .fadr 1 (.t 36), none, []⟩,
 ⟨none, .store1 (.t 37) (.t 35), none, []⟩])
 (.ops [⟨(some 38), .mv (.t 0), none, []⟩,
 ⟨(some 39), .nilchk (.t 38), none, []⟩,
 ⟨(some 40), .fadr 2 (.t 39), none, []⟩,
 ⟨(some 41), .load1 (.t 40), none, []⟩,
 ⟨(some 42), .bin .add .i64 (.t 41) (.k (.lit .i64 8)), none, []⟩,
 ⟨(some 43), .nilchk (.t 38), none, []⟩,
 ⟨(some 44), .fadr 2 (.t 43), none, []⟩,
 ⟨none, .store1 (.t 44) (.t 42), none, []⟩]))))))))
 (.seq (.ops [⟨(some 4), .mv (.k (.bool true)), none, []⟩])
 (.ret)))
theorem fn93 : FnOk Try.prog 93 x93 45 [4] := FnOk.of Try.call93 Try.func93 (by kernel_rfl) Try.ntmps93 (by kernel_rfl)
/-- baler/states.places$1 -/
def x94 : XC :=
 .seq (.ops [⟨(some 4), .mv (.k (.lit .i64 0)), none, []⟩])
 (.seq (.ops [⟨(some 5), .load1 (.t 1), none, []⟩,
 ⟨(some 6), .mv (.k (.lit .i64 0)), none, []⟩])
 (.block 0 (.loop (.seq (.ops [⟨(some 7), .cmp .lss (.t 6) (.t 5), none, []⟩])
 (.seq (.cond (.t 7) (.skip) (.exit 0))
 (.seq (.block 1 (.seq (.seq (.ops [⟨(some 8), .mv (.t 0), none, []⟩,
 ⟨(some 9), .mv (.t 4), none, []⟩,
 ⟨(some 10), .call (.t 8) [(.t 9)], none, []⟩,
 ⟨(some 11), .not (.t 10), none, []⟩])
 (.cond (.t 11) (.ret) (.skip)))
 (.seq (.ops [⟨(some 12), .mv (.t 4), none, []⟩,
 ⟨(some 13), .load1 (.t 2), none, []⟩,
 ⟨(some 14), .bin .quo .i64 (.t 13) (.k (.lit .i64 2)), none, []⟩,
 ⟨(some 15), .bin .add .i64 (.t 12) (.t 14), none, []⟩,
 ⟨(some 16), .load1 (.t 2), none, []⟩,
 ⟨(some 17), .bin .quo .i64 (.t 16) (.k (.lit .i64 8)), none, []⟩,
 ⟨(some 18), .bin .add .i64 (.t 15) (.t 17), none, []⟩,
 ⟨(some 19), .bin .add .i64 (.t 18) (.k (.lit .i64 3)), none, []⟩,
 ⟨(some 20), .load1 (.t 2), none, []⟩,
 ⟨(some 21), .bin .rem .i64 (.t 19) (.t 20), none, []⟩,
 ⟨(some 4), .mv (.t 21), none, []⟩])
 (.block 2 (.loop (.seq (.seq (.ops [⟨(some 22), .mv (.t 4), none, []⟩,
 ⟨(some 23), .load1 (.t 1), none, []⟩,
 ⟨(some 24), .cmp .geq (.t 22) (.t 23), none, []⟩])
 (.cond (.t 24) (.skip) (.exit 2)))
 (.seq (.block 3 (.seq (.ops [⟨(some 35), .load1 (.t 1), none, []⟩,
 ⟨(some 36), .cmp .eql (.t 35) (.k (.lit .i64 0)), none, []⟩])
 (.cond (.t 36) (.ret) (.skip))))
 (.ops [⟨(some 25), .mv (.t 4), none, []⟩,
 ⟨(some 26), .load1 (.t 2), none, []⟩,
 ⟨(some 27), .bin .quo .i64 (.t 26) (.k (.lit .i64 2)), none, []⟩,
 ⟨(some 28), .bin .add .i64 (.t 25) (.t 27), none, []⟩,
 ⟨(some 29), .load1 (.t 2), none, []⟩,
 ⟨(some 30), .bin .quo .i64 (.t 29) (.k (.lit .i64 8)), none, []⟩,
 ⟨(some 31), .bin .add .i64 (.t 28) (.t 30), none, []⟩,
 ⟨(some 32), .bin .add .i64 (.t 31) (.k (.lit .i64 3)), none, []⟩,
 ⟨(some 33), .load1 (.t 2), none, []⟩,
 ⟨(some 34), .bin .rem .i64 (.t 32) (.t 33), none, []⟩,
 ⟨(some 4), .mv (.t 34), none, []⟩]))))))))
 (.ops [⟨(some 37), .bin .add .i64 (.t 6) (.k (.lit .i64 1)), none, []⟩,
 ⟨(some 6), .mv (.t 37), none, []⟩])))))))
theorem fn94 : FnOk Try.prog 94 x94 38 [] := FnOk.of Try.call94 Try.func94 (by kernel_rfl) Try.ntmps94 (by kernel_rfl)
/-- (*baler/balerref01.R).Left -/
def x95 : XC :=
 .seq (.ops [⟨(some 2), .mv (.k (.lit .i64 0)), none, []⟩])
 (.seq (.ops [⟨(some 3), .mv (.t 0), none, []⟩,
 ⟨(some 4), .nilchk (.t 3), none, []⟩,
 ⟨(some 5), .fadr 0 (.t 4), none, []⟩,
 ⟨(some 6), .load1 (.t 5), none, []⟩,
 ⟨(some 7), .len (.t 6), none, []⟩,
 ⟨(some 8), .bin .mul .i64 (.k (.lit .i64 8)) (.t 7), none, []⟩,
 ⟨(some 9), .mv (.t 0), none, []⟩,
 ⟨(some 10), .nilchk (.t 9), none, []⟩,
 ⟨(some 11), .fadr 1 (.t 10), none, []⟩,
 ⟨(some 12), .load1 (.t 11), none, []⟩,
 ⟨(some 13), .bin .sub .i64 (.t 8) (.t 12), none, []⟩,
 ⟨(some 2), .mv (.t 13), none, []⟩])
 (.ret))
theorem fn95 : FnOk Try.prog 95 x95 14 [2] := FnOk.of Try.call95 Try.func95 (by kernel_rfl) Try.ntmps95 (by kernel_rfl)
/-- (*baler/balerref01.R).bit -/
def x96 : XC :=
 .seq (.ops [⟨(some 4), .mv (.k (.lit .u64 0)), none, []⟩])
 (.seq (.ops [⟨(some 5), .mv (.t 0), none, []⟩,
 ⟨(some 6), .nilchk (.t 5), none, []⟩,
 ⟨(some 7), .fadr 0 (.t 6), none, []⟩,
 ⟨(some 8), .load1 (.t 7), none, []⟩,
 ⟨(some 9), .mv (.t 1), none, []⟩,
 ⟨(some 10), .bin .quo .i64 (.t 9) (.k (.lit .i64 8)), none, []⟩,
 ⟨(some 11), .iadr 1 (.t 8) (.t 10), none, []⟩,
 ⟨(some 12), .load1 (.t 11), none, []⟩,
 ⟨(some 13), .mv (.t 1), none, []⟩,
 ⟨(some 14), .bin .rem .i64 (.t 13) (.k (.lit .i64 8)), none, []⟩,
 ⟨(some 15), .conv .u64 (.t 14), none, []⟩,
 ⟨(some 16), .bin .shr .u8 (.t 12) (.t 15), none, []⟩,
 ⟨(some 17), .conv .u64 (.t 16), none, []⟩,
 ⟨(some 18), .bin .and .u64 (.t 17) (.k (.lit .u64 1)), none, []⟩,
 ⟨(some 4), .mv (.t 18), none, []⟩])
 (.ret))
theorem fn96 : FnOk Try.prog 96 x96 19 [4] := FnOk.of Try.call96 Try.func96 (by kernel_rfl) Try.ntmps96 (by kernel_rfl)
end Go.Proofs.Ytaaklikigccdfaa
