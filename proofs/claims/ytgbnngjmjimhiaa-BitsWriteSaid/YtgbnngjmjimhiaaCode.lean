/-
  The compact codes of this seat's functions (printed by wip/dev/Pr.lean.tpl), checked.
-/
import Derived.Test.YtgbnngjmjimhiaaSx14
import Derived.Test.YtgbnngjmjimhiaaRows
namespace Go.Proofs.Ytgbnngjmjimhiaa
open Go Go.Sx Go.Proofs
/-- baler/balerlaw03.TailRead -/
def x3 : XC :=
  .seq (.ops [⟨(some 4), .mv (.k (.bool false)), none, []⟩])
    (.seq (.ops [⟨(some 12), .mv (.t 0), none, []⟩,
      ⟨(some 13), .call (.k (.fn 11 [])) [(.t 12)], none, []⟩,
      ⟨(some 11), .mv (.t 13), none, []⟩,
      ⟨(some 14), .extract (.t 11) 0, none, []⟩,
      ⟨(some 15), .extract (.t 11) 1, none, []⟩,
      ⟨(some 5), .mv (.t 14), none, []⟩,
      ⟨(some 6), .mv (.t 15), none, []⟩])
    (.seq (.ops [⟨(some 17), .mv (.t 0), none, []⟩,
      ⟨(some 18), .call (.k (.fn 12 [])) [(.t 17)], none, []⟩,
      ⟨(some 16), .mv (.t 18), none, []⟩,
      ⟨(some 19), .extract (.t 16) 0, none, []⟩,
      ⟨(some 20), .extract (.t 16) 1, none, []⟩,
      ⟨(some 7), .mv (.t 19), none, []⟩,
      ⟨(some 8), .mv (.t 20), none, []⟩])
    (.seq (.seq (.ops [⟨(some 21), .mv (.t 6), none, []⟩,
      ⟨(some 22), .mv (.t 8), none, []⟩,
      ⟨(some 23), .cmp .neq (.t 21) (.t 22), none, []⟩,
      ⟨(some 24), .mv (.t 23), none, []⟩,
      ⟨(some 25), .mv (.t 5), some (24, false), []⟩,
      ⟨(some 26), .eqv false 2 (.t 25) (.k (.val (.pointer none))), some (24, false), []⟩,
      ⟨(some 27), .mv (.t 6), some (24, false), []⟩,
      ⟨(some 28), .cmp .neq (.t 27) (.k (.lit .i64 0)), some (24, false), []⟩,
      ⟨(some 29), .eqv true 0 (.t 26) (.t 28), some (24, false), []⟩,
      ⟨(some 30), .pick (.t 24) (.k (.bool true)) (.t 29), none, []⟩])
    (.cond (.t 30) (.seq (.ops [⟨(some 4), .mv (.k (.bool false)), none, []⟩])
    (.ret)) (.skip)))
    (.seq (.seq (.ops [⟨(some 31), .mv (.t 6), none, []⟩,
      ⟨(some 32), .cmp .neq (.t 31) (.k (.lit .i64 0)), none, []⟩])
    (.cond (.t 32) (.seq (.ops [⟨(some 33), .call (.k (.fn 13 [])) [], none, []⟩,
      ⟨(some 4), .mv (.t 33), none, []⟩])
    (.ret)) (.skip)))
    (.seq (.seq (.ops [⟨(some 34), .mv (.t 1), none, []⟩,
      ⟨(some 35), .len (.t 34), none, []⟩,
      ⟨(some 36), .mv (.k (.lit .i64 0)), none, []⟩])
    (.block 0 (.loop (.seq (.ops [⟨(some 37), .cmp .lss (.t 36) (.t 35), none, []⟩])
    (.seq (.cond (.t 37) (.skip) (.exit 0))
    (.seq (.block 1 (.seq (.ops [⟨(some 38), .mv (.t 36), none, []⟩,
      ⟨(some 39), .iadr 1 (.t 34) (.t 36), none, []⟩,
      ⟨(some 40), .load1 (.t 39), none, []⟩,
      ⟨(some 9), .mv (.t 38), none, []⟩,
      ⟨(some 10), .mv (.t 40), none, []⟩])
    (.seq (.seq (.ops [⟨(some 41), .mv (.t 9), none, []⟩,
      ⟨(some 42), .cmp .geq (.t 41) (.k (.lit .i64 300)), none, []⟩])
    (.cond (.t 42) (.exit 0) (.skip)))
    (.seq (.ops [⟨(some 43), .mv (.t 5), none, []⟩,
      ⟨(some 44), .mv (.t 10), none, []⟩,
      ⟨(some 46), .mv (.t 7), none, []⟩,
      ⟨(some 47), .mv (.t 10), none, []⟩,
      ⟨(some 45), .call (.k (.fn 14 [])) [(.t 43), (.t 44)], none, []⟩,
      ⟨(some 48), .call (.k (.fn 15 [])) [(.t 46), (.t 47)], none, []⟩,
      ⟨(some 49), .cmp .neq (.t 45) (.t 48), none, []⟩,
      ⟨(some 50), .mv (.t 49), none, []⟩,
      ⟨(some 51), .mv (.t 5), some (50, false), []⟩,
      ⟨(some 53), .mv (.t 7), some (50, false), []⟩,
      ⟨(some 54), .nilchk (.t 53), some (50, false), []⟩,
      ⟨(some 55), .fadr 1 (.t 54), some (50, false), []⟩,
      ⟨(some 56), .load1 (.t 55), some (50, false), []⟩,
      ⟨(some 52), .call (.k (.fn 16 [])) [(.t 51)], some (50, false), [(.load1 (.t 55), 56, some (50, false))]⟩,
      ⟨(some 57), .cmp .neq (.t 52) (.t 56), some (50, false), []⟩,
      ⟨(some 58), .pick (.t 50) (.k (.bool true)) (.t 57), none, []⟩])
    (.cond (.t 58) (.seq (.ops [⟨(some 4), .mv (.k (.bool false)), none, []⟩])
    (.ret)) (.skip))))))
    (.ops [⟨(some 59), .bin .add .i64 (.t 36) (.k (.lit .i64 1)), none, []⟩,
      ⟨(some 36), .mv (.t 59), none, []⟩])))))))
    (.seq (.ops [⟨(some 60), .call (.k (.fn 13 [])) [], none, []⟩,
      ⟨(some 4), .mv (.t 60), none, []⟩])
    (.ret)))))))
theorem fn3 : FnOk Try.prog 3 x3 61 [4] := FnOk.of Try.call3 Try.func3 (by kernel_rfl) Try.ntmps3 (by kernel_rfl)
/-- baler/balerlaw03.TailWrite -/
def x4 : XC :=
  .seq (.ops [⟨(some 4), .mv (.k (.bool false)), none, []⟩])
    (.seq (.ops [⟨(some 9), .build [(.val (.slice none 0 0)), (.lit .i64 0)] [], none, []⟩,
      ⟨(some 10), .box 41 none (.t 9), none, []⟩,
      ⟨(some 11), .build [(.val (.slice none 0 0))] [], none, []⟩,
      ⟨(some 12), .box 44 none (.t 11), none, []⟩,
      ⟨(some 5), .mv (.t 10), none, []⟩,
      ⟨(some 6), .mv (.t 12), none, []⟩])
    (.seq (.seq (.ops [⟨(some 13), .mv (.t 0), none, []⟩,
      ⟨(some 14), .len (.t 13), none, []⟩,
      ⟨(some 15), .mv (.k (.lit .i64 0)), none, []⟩])
    (.block 0 (.loop (.seq (.ops [⟨(some 16), .cmp .lss (.t 15) (.t 14), none, []⟩])
    (.seq (.cond (.t 16) (.skip) (.exit 0))
    (.seq (.block 1 (.seq (.ops [⟨(some 17), .mv (.t 15), none, []⟩,
      ⟨(some 18), .iadr 2 (.t 13) (.t 15), none, []⟩,
      ⟨(some 19), .loadA 2 (.t 18), none, []⟩,
      ⟨(some 8), .newR 46 [(.lit .u64 0), (.lit .i64 0)], none, []⟩,
      ⟨(some 7), .mv (.t 17), none, []⟩,
      ⟨none, .storeA 2 (.t 8) (.t 19), none, []⟩])
    (.seq (.seq (.ops [⟨(some 20), .mv (.t 7), none, []⟩,
      ⟨(some 21), .cmp .geq (.t 20) (.k (.lit .i64 300)), none, []⟩])
    (.cond (.t 21) (.exit 0) (.skip)))
    (.seq (.seq (.ops [⟨(some 22), .mv (.t 5), none, []⟩,
      ⟨(some 23), .fadr 0 (.t 8), none, []⟩,
      ⟨(some 24), .load1 (.t 23), none, []⟩,
      ⟨(some 25), .fadr 1 (.t 8), none, []⟩,
      ⟨(some 26), .load1 (.t 25), none, []⟩,
      ⟨(some 28), .mv (.t 6), none, []⟩,
      ⟨(some 29), .fadr 0 (.t 8), none, []⟩,
      ⟨(some 30), .load1 (.t 29), none, []⟩,
      ⟨(some 31), .fadr 1 (.t 8), none, []⟩,
      ⟨(some 32), .load1 (.t 31), none, []⟩,
      ⟨(some 27), .call (.k (.fn 17 [])) [(.t 22), (.t 24), (.t 26)], none, [(.load1 (.t 31), 32, none), (.load1 (.t 29), 30, none)]⟩,
      ⟨(some 33), .call (.k (.fn 18 [])) [(.t 28), (.t 30), (.t 32)], none, []⟩,
      ⟨(some 34), .cmp .neq (.t 27) (.t 33), none, []⟩])
    (.cond (.t 34) (.seq (.ops [⟨(some 4), .mv (.k (.bool false)), none, []⟩])
    (.ret)) (.skip)))
    (.seq (.ops [⟨(some 35), .mv (.t 1), none, []⟩,
      ⟨(some 36), .mv (.t 35), none, []⟩,
      ⟨(some 37), .mv (.t 7), some (36, true), []⟩,
      ⟨(some 38), .bin .rem .i64 (.t 37) (.k (.lit .i64 50)), some (36, true), []⟩,
      ⟨(some 39), .cmp .eql (.t 38) (.k (.lit .i64 49)), some (36, true), []⟩,
      ⟨(some 40), .pick (.t 36) (.t 39) (.k (.bool false)), none, []⟩,
      ⟨(some 41), .mv (.t 40), none, []⟩,
      ⟨(some 42), .mv (.t 5), some (41, true), []⟩,
      ⟨(some 45), .mv (.t 6), some (41, true), []⟩,
      ⟨(some 43), .call (.k (.fn 19 [])) [(.t 42)], some (41, true), []⟩,
      ⟨(some 44), .bstr (.t 43), some (41, true), []⟩,
      ⟨(some 46), .call (.k (.fn 20 [])) [(.t 45)], some (41, true), [(.bstr (.t 43), 44, some (41, true))]⟩,
      ⟨(some 47), .bstr (.t 46), some (41, true), []⟩,
      ⟨(some 48), .eqv true 1 (.t 44) (.t 47), some (41, true), []⟩,
      ⟨(some 49), .pick (.t 41) (.t 48) (.k (.bool false)), none, []⟩])
    (.cond (.t 49) (.seq (.ops [⟨(some 4), .mv (.k (.bool false)), none, []⟩])
    (.ret)) (.skip)))))))
    (.ops [⟨(some 50), .bin .add .i64 (.t 15) (.k (.lit .i64 1)), none, []⟩,
      ⟨(some 15), .mv (.t 50), none, []⟩])))))))
    (.seq (.ops [⟨(some 51), .mv (.t 5), none, []⟩,
      ⟨(some 54), .mv (.t 6), none, []⟩,
      ⟨(some 52), .call (.k (.fn 19 [])) [(.t 51)], none, []⟩,
      ⟨(some 53), .bstr (.t 52), none, []⟩,
      ⟨(some 55), .call (.k (.fn 20 [])) [(.t 54)], none, [(.bstr (.t 52), 53, none)]⟩,
      ⟨(some 56), .bstr (.t 55), none, []⟩,
      ⟨(some 57), .eqv false 1 (.t 53) (.t 56), none, []⟩,
      ⟨(some 58), .mv (.t 57), none, []⟩,
      ⟨(some 59), .mv (.t 5), some (58, true), []⟩,
      ⟨(some 60), .call (.k (.fn 19 [])) [(.t 59)], some (58, true), [(.bstr (.t 55), 56, none), (.bstr (.t 52), 53, none)]⟩,
      ⟨(some 61), .bstr (.t 60), some (58, true), []⟩,
      ⟨(some 62), .eqv false 1 (.t 61) (.k (.str [1])), some (58, true), []⟩,
      ⟨(some 63), .pick (.t 58) (.t 62) (.k (.bool false)), none, []⟩,
      ⟨(some 64), .mv (.t 63), none, []⟩,
      ⟨(some 65), .call (.k (.fn 13 [])) [], some (64, true), [(.bstr (.t 60), 61, some (58, true)), (.bstr (.t 55), 56, none), (.bstr (.t 52), 53, none)]⟩,
      ⟨(some 66), .pick (.t 64) (.t 65) (.k (.bool false)), none, []⟩,
      ⟨(some 4), .mv (.t 66), none, []⟩])
    (.ret))))
theorem fn4 : FnOk Try.prog 4 x4 67 [4] := FnOk.of Try.call4 Try.func4 (by kernel_rfl) Try.ntmps4 (by kernel_rfl)
/-- baler/balerlaw03.TailBack -/
def x5 : XC :=
  .seq (.ops [⟨(some 2), .mv (.k (.bool false)), none, []⟩])
    (.seq (.seq (.ops [⟨(some 10), .mv (.t 0), none, []⟩,
      ⟨(some 11), .len (.t 10), none, []⟩,
      ⟨(some 12), .cmp .gtr (.t 11) (.k (.lit .i64 300)), none, []⟩])
    (.cond (.t 12) (.ops [⟨(some 13), .mv (.t 0), none, []⟩,
      ⟨(some 14), .slc 2 (.t 13) none (some (.k (.lit .i64 300))) none, none, []⟩,
      ⟨(some 0), .mv (.t 14), none, []⟩]) (.skip)))
    (.seq (.ops [⟨(some 15), .build [(.val (.slice none 0 0)), (.lit .i64 0)] [], none, []⟩,
      ⟨(some 16), .box 41 none (.t 15), none, []⟩,
      ⟨(some 3), .mv (.t 16), none, []⟩])
    (.seq (.seq (.ops [⟨(some 17), .mv (.t 0), none, []⟩,
      ⟨(some 18), .len (.t 17), none, []⟩,
      ⟨(some 19), .mv (.k (.lit .i64 0)), none, []⟩])
    (.block 0 (.loop (.seq (.ops [⟨(some 20), .cmp .lss (.t 19) (.t 18), none, []⟩])
    (.seq (.cond (.t 20) (.skip) (.exit 0))
    (.seq (.block 1 (.seq (.ops [⟨(some 21), .iadr 2 (.t 17) (.t 19), none, []⟩,
      ⟨(some 22), .loadA 2 (.t 21), none, []⟩,
      ⟨(some 5), .newR 46 [(.lit .u64 0), (.lit .i64 0)], none, []⟩,
      ⟨none, .storeA 2 (.t 5) (.t 22), none, []⟩])
    (.ops [⟨(some 23), .mv (.t 3), none, []⟩,
      ⟨(some 24), .fadr 0 (.t 5), none, []⟩,
      ⟨(some 25), .load1 (.t 24), none, []⟩,
      ⟨(some 26), .fadr 1 (.t 5), none, []⟩,
      ⟨(some 27), .load1 (.t 26), none, []⟩,
      ⟨(some 28), .call (.k (.fn 17 [])) [(.t 23), (.t 25), (.t 27)], none, []⟩])))
    (.ops [⟨(some 29), .bin .add .i64 (.t 19) (.k (.lit .i64 1)), none, []⟩,
      ⟨(some 19), .mv (.t 29), none, []⟩])))))))
    (.seq (.ops [⟨(some 31), .mv (.t 3), none, []⟩,
      ⟨(some 32), .call (.k (.fn 19 [])) [(.t 31)], none, []⟩,
      ⟨(some 33), .call (.k (.fn 11 [])) [(.t 32)], none, []⟩,
      ⟨(some 30), .mv (.t 33), none, []⟩,
      ⟨(some 34), .extract (.t 30) 0, none, []⟩,
      ⟨(some 35), .extract (.t 30) 1, none, []⟩,
      ⟨(some 6), .mv (.t 34), none, []⟩,
      ⟨(some 7), .mv (.t 35), none, []⟩])
    (.seq (.seq (.ops [⟨(some 36), .mv (.t 7), none, []⟩,
      ⟨(some 37), .cmp .neq (.t 36) (.k (.lit .i64 0)), none, []⟩])
    (.cond (.t 37) (.seq (.ops [⟨(some 2), .mv (.k (.bool false)), none, []⟩])
    (.ret)) (.skip)))
    (.seq (.seq (.ops [⟨(some 38), .mv (.t 0), none, []⟩,
      ⟨(some 39), .len (.t 38), none, []⟩,
      ⟨(some 40), .bin .sub .i64 (.t 39) (.k (.lit .i64 1)), none, []⟩,
      ⟨(some 8), .mv (.t 40), none, []⟩])
    (.block 2 (.loop (.seq (.seq (.ops [⟨(some 41), .mv (.t 8), none, []⟩,
      ⟨(some 42), .cmp .geq (.t 41) (.k (.lit .i64 0)), none, []⟩])
    (.cond (.t 42) (.skip) (.exit 2)))
    (.seq (.block 3 (.seq (.ops [⟨(some 45), .mv (.t 0), none, []⟩,
      ⟨(some 46), .mv (.t 8), none, []⟩,
      ⟨(some 47), .iadr 2 (.t 45) (.t 46), none, []⟩,
      ⟨(some 48), .loadA 2 (.t 47), none, []⟩,
      ⟨(some 9), .newR 46 [(.lit .u64 0), (.lit .i64 0)], none, []⟩,
      ⟨none, .storeA 2 (.t 9) (.t 48), none, []⟩])
    (.seq (.ops [⟨(some 49), .fadr 1 (.t 9), none, []⟩,
      ⟨(some 50), .load1 (.t 49), none, []⟩,
      ⟨(some 51), .cmp .geq (.t 50) (.k (.lit .i64 0)), none, []⟩,
      ⟨(some 52), .mv (.t 51), none, []⟩,
      ⟨(some 53), .fadr 1 (.t 9), some (52, true), []⟩,
      ⟨(some 54), .load1 (.t 53), some (52, true), []⟩,
      ⟨(some 55), .cmp .leq (.t 54) (.k (.lit .i64 56)), some (52, true), []⟩,
      ⟨(some 56), .pick (.t 52) (.t 55) (.k (.bool false)), none, []⟩,
      ⟨(some 57), .mv (.t 56), none, []⟩,
      ⟨(some 58), .mv (.t 6), some (57, true), []⟩,
      ⟨(some 59), .fadr 1 (.t 9), some (57, true), []⟩,
      ⟨(some 60), .load1 (.t 59), some (57, true), []⟩,
      ⟨(some 62), .fadr 0 (.t 9), some (57, true), []⟩,
      ⟨(some 63), .load1 (.t 62), some (57, true), []⟩,
      ⟨(some 64), .fadr 1 (.t 9), some (57, true), []⟩,
      ⟨(some 65), .load1 (.t 64), some (57, true), []⟩,
      ⟨(some 66), .conv .u64 (.t 65), some (57, true), []⟩,
      ⟨(some 67), .bin .shl .u64 (.k (.lit .u64 1)) (.t 66), some (57, true), []⟩,
      ⟨(some 68), .bin .sub .u64 (.t 67) (.k (.lit .u64 1)), some (57, true), []⟩,
      ⟨(some 69), .bin .and .u64 (.t 63) (.t 68), some (57, true), []⟩,
      ⟨(some 61), .call (.k (.fn 14 [])) [(.t 58), (.t 60)], some (57, true), [(.load1 (.t 64), 65, some (57, true)), (.load1 (.t 62), 63, some (57, true)), (.load1 (.t 53), 54, some (52, true)), (.load1 (.t 49), 50, none)]⟩,
      ⟨(some 70), .cmp .neq (.t 61) (.t 69), some (57, true), []⟩,
      ⟨(some 71), .pick (.t 57) (.t 70) (.k (.bool false)), none, []⟩])
    (.cond (.t 71) (.seq (.ops [⟨(some 2), .mv (.k (.bool false)), none, []⟩])
    (.ret)) (.skip)))))
    (.ops [⟨(some 43), .mv (.t 8), none, []⟩,
      ⟨(some 44), .bin .sub .i64 (.t 43) (.k (.lit .i64 1)), none, []⟩,
      ⟨(some 8), .mv (.t 44), none, []⟩]))))))
    (.seq (.ops [⟨(some 72), .mv (.t 6), none, []⟩,
      ⟨(some 73), .call (.k (.fn 16 [])) [(.t 72)], none, []⟩,
      ⟨(some 74), .cmp .eql (.t 73) (.k (.lit .i64 0)), none, []⟩,
      ⟨(some 75), .mv (.t 74), none, []⟩,
      ⟨(some 76), .call (.k (.fn 13 [])) [], some (75, true), []⟩,
      ⟨(some 77), .pick (.t 75) (.t 76) (.k (.bool false)), none, []⟩,
      ⟨(some 2), .mv (.t 77), none, []⟩])
    (.ret))))))))
theorem fn5 : FnOk Try.prog 5 x5 78 [2] := FnOk.of Try.call5 Try.func5 (by kernel_rfl) Try.ntmps5 (by kernel_rfl)
/-- baler/balerlaw03.TailNil -/
def x6 : XC :=
  .seq (.ops [⟨(some 2), .mv (.k (.bool false)), none, []⟩])
    (.seq (.ops [⟨(some 3), .mv (.k (.val (.pointer none))), none, []⟩])
    (.seq (.ops [⟨(some 4), .mv (.k (.val (.pointer none))), none, []⟩])
    (.seq (.ops [⟨(some 5), .mv (.t 3), none, []⟩,
      ⟨(some 6), .mv (.t 0), none, []⟩,
      ⟨(some 7), .call (.k (.fn 14 [])) [(.t 5), (.t 6)], none, []⟩,
      ⟨(some 8), .cmp .eql (.t 7) (.k (.lit .u64 0)), none, []⟩,
      ⟨(some 9), .mv (.t 8), none, []⟩,
      ⟨(some 10), .mv (.t 3), some (9, true), []⟩,
      ⟨(some 11), .call (.k (.fn 16 [])) [(.t 10)], some (9, true), []⟩,
      ⟨(some 12), .cmp .eql (.t 11) (.k (.lit .i64 0)), some (9, true), []⟩,
      ⟨(some 13), .pick (.t 9) (.t 12) (.k (.bool false)), none, []⟩,
      ⟨(some 14), .mv (.t 13), none, []⟩,
      ⟨(some 15), .mv (.t 4), some (14, true), []⟩,
      ⟨(some 16), .mv (.t 0), some (14, true), []⟩,
      ⟨(some 17), .call (.k (.fn 17 [])) [(.t 15), (.k (.lit .u64 1)), (.t 16)], some (14, true), []⟩,
      ⟨(some 18), .cmp .eql (.t 17) (.k (.lit .i64 1)), some (14, true), []⟩,
      ⟨(some 19), .pick (.t 14) (.t 18) (.k (.bool false)), none, []⟩,
      ⟨(some 20), .mv (.t 19), none, []⟩,
      ⟨(some 21), .mv (.t 4), some (20, true), []⟩,
      ⟨(some 22), .call (.k (.fn 19 [])) [(.t 21)], some (20, true), []⟩,
      ⟨(some 23), .len (.t 22), some (20, true), []⟩,
      ⟨(some 24), .cmp .eql (.t 23) (.k (.lit .i64 0)), some (20, true), []⟩,
      ⟨(some 25), .pick (.t 20) (.t 24) (.k (.bool false)), none, []⟩,
      ⟨(some 26), .mv (.t 25), none, []⟩,
      ⟨(some 27), .call (.k (.fn 13 [])) [], some (26, true), []⟩,
      ⟨(some 28), .pick (.t 26) (.t 27) (.k (.bool false)), none, []⟩,
      ⟨(some 2), .mv (.t 28), none, []⟩])
    (.ret))))
theorem fn6 : FnOk Try.prog 6 x6 29 [2] := FnOk.of Try.call6 Try.func6 (by kernel_rfl) Try.ntmps6 (by kernel_rfl)
/-- baler/balerlaw01.BitsWrite -/
def x7 : XC :=
  .seq (.ops [⟨(some 2), .mv (.k (.bool false)), none, []⟩])
    (.seq (.ops [⟨(some 7), .build [(.val (.slice none 0 0)), (.lit .i64 0)] [], none, []⟩,
      ⟨(some 8), .box 56 none (.t 7), none, []⟩,
      ⟨(some 9), .build [(.val (.slice none 0 0))] [], none, []⟩,
      ⟨(some 10), .box 58 none (.t 9), none, []⟩,
      ⟨(some 3), .mv (.t 8), none, []⟩,
      ⟨(some 4), .mv (.t 10), none, []⟩])
    (.seq (.seq (.ops [⟨(some 11), .mv (.t 0), none, []⟩,
      ⟨(some 12), .len (.t 11), none, []⟩,
      ⟨(some 13), .mv (.k (.lit .i64 0)), none, []⟩])
    (.block 0 (.loop (.seq (.ops [⟨(some 14), .cmp .lss (.t 13) (.t 12), none, []⟩])
    (.seq (.cond (.t 14) (.skip) (.exit 0))
    (.seq (.block 1 (.seq (.ops [⟨(some 15), .mv (.t 13), none, []⟩,
      ⟨(some 16), .iadr 3 (.t 11) (.t 13), none, []⟩,
      ⟨(some 17), .loadA 3 (.t 16), none, []⟩,
      ⟨(some 6), .newR 60 [(.lit .u64 0), (.lit .i64 0), (.bool false)], none, []⟩,
      ⟨(some 5), .mv (.t 15), none, []⟩,
      ⟨none, .storeA 3 (.t 6) (.t 17), none, []⟩])
    (.seq (.seq (.ops [⟨(some 18), .mv (.t 5), none, []⟩,
      ⟨(some 19), .cmp .geq (.t 18) (.k (.lit .i64 300)), none, []⟩])
    (.cond (.t 19) (.exit 0) (.skip)))
    (.seq (.seq (.ops [⟨(some 20), .fadr 2 (.t 6), none, []⟩,
      ⟨(some 21), .load1 (.t 20), none, []⟩])
    (.cond (.t 21) (.seq (.ops [⟨(some 22), .mv (.t 3), none, []⟩,
      ⟨(some 23), .call (.k (.fn 21 [])) [(.t 22)], none, []⟩])
    (.seq (.ops [⟨(some 24), .mv (.t 4), none, []⟩,
      ⟨(some 25), .call (.k (.fn 22 [])) [(.t 24)], none, []⟩])
    (.exit 1))) (.skip)))
    (.seq (.seq (.ops [⟨(some 26), .mv (.t 3), none, []⟩,
      ⟨(some 27), .fadr 0 (.t 6), none, []⟩,
      ⟨(some 28), .load1 (.t 27), none, []⟩,
      ⟨(some 29), .fadr 1 (.t 6), none, []⟩,
      ⟨(some 30), .load1 (.t 29), none, []⟩,
      ⟨(some 32), .mv (.t 4), none, []⟩,
      ⟨(some 33), .fadr 0 (.t 6), none, []⟩,
      ⟨(some 34), .load1 (.t 33), none, []⟩,
      ⟨(some 35), .fadr 1 (.t 6), none, []⟩,
      ⟨(some 36), .load1 (.t 35), none, []⟩,
      ⟨(some 31), .call (.k (.fn 23 [])) [(.t 26), (.t 28), (.t 30)], none, [(.load1 (.t 35), 36, none), (.load1 (.t 33), 34, none)]⟩,
      ⟨(some 37), .call (.k (.fn 24 [])) [(.t 32), (.t 34), (.t 36)], none, []⟩,
      ⟨(some 38), .cmp .neq (.t 31) (.t 37), none, []⟩])
    (.cond (.t 38) (.seq (.ops [⟨(some 2), .mv (.k (.bool false)), none, []⟩])
    (.ret)) (.skip)))
    (.seq (.ops [⟨(some 39), .mv (.t 5), none, []⟩,
      ⟨(some 40), .bin .rem .i64 (.t 39) (.k (.lit .i64 7)), none, []⟩,
      ⟨(some 41), .cmp .eql (.t 40) (.k (.lit .i64 0)), none, []⟩,
      ⟨(some 42), .mv (.t 41), none, []⟩,
      ⟨(some 43), .mv (.t 3), some (42, true), []⟩,
      ⟨(some 46), .mv (.t 4), some (42, true), []⟩,
      ⟨(some 44), .call (.k (.fn 25 [])) [(.t 43)], some (42, true), []⟩,
      ⟨(some 45), .bstr (.t 44), some (42, true), []⟩,
      ⟨(some 47), .call (.k (.fn 26 [])) [(.t 46)], some (42, true), [(.bstr (.t 44), 45, some (42, true))]⟩,
      ⟨(some 48), .bstr (.t 47), some (42, true), []⟩,
      ⟨(some 49), .eqv true 1 (.t 45) (.t 48), some (42, true), []⟩,
      ⟨(some 50), .pick (.t 42) (.t 49) (.k (.bool false)), none, []⟩])
    (.cond (.t 50) (.seq (.ops [⟨(some 2), .mv (.k (.bool false)), none, []⟩])
    (.ret)) (.skip))))))))
    (.ops [⟨(some 51), .bin .add .i64 (.t 13) (.k (.lit .i64 1)), none, []⟩,
      ⟨(some 13), .mv (.t 51), none, []⟩])))))))
    (.seq (.ops [⟨(some 52), .mv (.t 3), none, []⟩,
      ⟨(some 55), .mv (.t 4), none, []⟩,
      ⟨(some 53), .call (.k (.fn 25 [])) [(.t 52)], none, []⟩,
      ⟨(some 54), .bstr (.t 53), none, []⟩,
      ⟨(some 56), .call (.k (.fn 26 [])) [(.t 55)], none, [(.bstr (.t 53), 54, none)]⟩,
      ⟨(some 57), .bstr (.t 56), none, []⟩,
      ⟨(some 58), .eqv false 1 (.t 54) (.t 57), none, []⟩,
      ⟨(some 59), .mv (.t 58), none, []⟩,
      ⟨(some 60), .call (.k (.fn 27 [])) [], some (59, true), [(.bstr (.t 56), 57, none), (.bstr (.t 53), 54, none)]⟩,
      ⟨(some 61), .pick (.t 59) (.t 60) (.k (.bool false)), none, []⟩,
      ⟨(some 2), .mv (.t 61), none, []⟩])
    (.ret))))
theorem fn7 : FnOk Try.prog 7 x7 62 [2] := FnOk.of Try.call7 Try.func7 (by kernel_rfl) Try.ntmps7 (by kernel_rfl)
/-- baler/balerlaw01.BitsRead -/
def x8 : XC :=
  .seq (.ops [⟨(some 4), .mv (.k (.bool false)), none, []⟩])
    (.seq (.ops [⟨(some 15), .bsliceI 5 .u8 0 [], none, []⟩,
      ⟨(some 16), .mv (.t 0), none, []⟩,
      ⟨(some 17), .appI 5 .u8 1 (.t 15) (.t 16), none, []⟩,
      ⟨(some 5), .mv (.t 17), none, []⟩])
    (.seq (.ops [⟨(some 18), .mv (.t 5), none, []⟩,
      ⟨(some 19), .call (.k (.fn 28 [])) [(.t 18)], none, []⟩,
      ⟨(some 20), .mv (.t 0), none, []⟩,
      ⟨(some 21), .build [(.val (.slice none 0 0)), (.lit .i64 0)] [⟨0, 1, (.t 20)⟩], none, []⟩,
      ⟨(some 22), .box 66 none (.t 21), none, []⟩,
      ⟨(some 6), .mv (.t 19), none, []⟩,
      ⟨(some 7), .mv (.t 22), none, []⟩])
    (.seq (.seq (.ops [⟨(some 23), .mv (.t 5), none, []⟩,
      ⟨(some 24), .len (.t 23), none, []⟩,
      ⟨(some 25), .mv (.k (.lit .i64 0)), none, []⟩])
    (.block 0 (.loop (.seq (.ops [⟨(some 26), .cmp .lss (.t 25) (.t 24), none, []⟩])
    (.seq (.cond (.t 26) (.skip) (.exit 0))
    (.seq (.block 1 (.seq (.ops [⟨(some 27), .mv (.t 25), none, []⟩,
      ⟨(some 8), .mv (.t 27), none, []⟩])
    (.ops [⟨(some 28), .mv (.t 5), none, []⟩,
      ⟨(some 29), .mv (.t 8), none, []⟩,
      ⟨(some 30), .iadr 1 (.t 28) (.t 29), none, []⟩,
      ⟨(some 31), .load1 (.t 30), none, []⟩,
      ⟨(some 32), .bin .xor .u8 (.t 31) (.k (.lit .u8 255)), none, []⟩,
      ⟨(some 33), .iadr 1 (.t 28) (.t 29), none, []⟩,
      ⟨none, .store1 (.t 33) (.t 32), none, []⟩])))
    (.ops [⟨(some 34), .bin .add .i64 (.t 25) (.k (.lit .i64 1)), none, []⟩,
      ⟨(some 25), .mv (.t 34), none, []⟩])))))))
    (.seq (.seq (.ops [⟨(some 35), .mv (.t 1), none, []⟩,
      ⟨(some 36), .len (.t 35), none, []⟩,
      ⟨(some 37), .mv (.k (.lit .i64 0)), none, []⟩])
    (.block 2 (.loop (.seq (.ops [⟨(some 38), .cmp .lss (.t 37) (.t 36), none, []⟩])
    (.seq (.cond (.t 38) (.skip) (.exit 2))
    (.seq (.block 3 (.seq (.ops [⟨(some 39), .mv (.t 37), none, []⟩,
      ⟨(some 40), .iadr 1 (.t 35) (.t 37), none, []⟩,
      ⟨(some 41), .load1 (.t 40), none, []⟩,
      ⟨(some 9), .mv (.t 39), none, []⟩,
      ⟨(some 10), .mv (.t 41), none, []⟩])
    (.seq (.seq (.ops [⟨(some 42), .mv (.t 9), none, []⟩,
      ⟨(some 43), .cmp .geq (.t 42) (.k (.lit .i64 300)), none, []⟩])
    (.cond (.t 43) (.exit 2) (.skip)))
    (.seq (.ops [⟨(some 11), .mv (.k (.lit .u64 0)), none, []⟩,
      ⟨(some 12), .mv (.k (.lit .u64 0)), none, []⟩])
    (.seq (.ops [⟨(some 13), .mv (.k (.lit .i64 0)), none, []⟩,
      ⟨(some 14), .mv (.k (.lit .i64 0)), none, []⟩])
    (.seq (.seq (.ops [⟨(some 44), .mv (.t 10), none, []⟩,
      ⟨(some 45), .cmp .lss (.t 44) (.k (.lit .i64 (-100))), none, []⟩])
    (.cond (.t 45) (.seq (.ops [⟨(some 47), .mv (.t 6), none, []⟩,
      ⟨(some 48), .call (.k (.fn 29 [])) [(.t 47)], none, []⟩,
      ⟨(some 46), .mv (.t 48), none, []⟩,
      ⟨(some 49), .extract (.t 46) 0, none, []⟩,
      ⟨(some 50), .extract (.t 46) 1, none, []⟩,
      ⟨(some 11), .mv (.t 49), none, []⟩,
      ⟨(some 13), .mv (.t 50), none, []⟩])
    (.ops [⟨(some 52), .mv (.t 7), none, []⟩,
      ⟨(some 53), .call (.k (.fn 30 [])) [(.t 52)], none, []⟩,
      ⟨(some 51), .mv (.t 53), none, []⟩,
      ⟨(some 54), .extract (.t 51) 0, none, []⟩,
      ⟨(some 55), .extract (.t 51) 1, none, []⟩,
      ⟨(some 12), .mv (.t 54), none, []⟩,
      ⟨(some 14), .mv (.t 55), none, []⟩])) (.seq (.ops [⟨(some 57), .mv (.t 6), none, []⟩,
      ⟨(some 58), .mv (.t 10), none, []⟩,
      ⟨(some 59), .call (.k (.fn 31 [])) [(.t 57), (.t 58)], none, []⟩,
      ⟨(some 56), .mv (.t 59), none, []⟩,
      ⟨(some 60), .extract (.t 56) 0, none, []⟩,
      ⟨(some 61), .extract (.t 56) 1, none, []⟩,
      ⟨(some 11), .mv (.t 60), none, []⟩,
      ⟨(some 13), .mv (.t 61), none, []⟩])
    (.ops [⟨(some 63), .mv (.t 7), none, []⟩,
      ⟨(some 64), .mv (.t 10), none, []⟩,
      ⟨(some 65), .call (.k (.fn 32 [])) [(.t 63), (.t 64)], none, []⟩,
      ⟨(some 62), .mv (.t 65), none, []⟩,
      ⟨(some 66), .extract (.t 62) 0, none, []⟩,
      ⟨(some 67), .extract (.t 62) 1, none, []⟩,
      ⟨(some 12), .mv (.t 66), none, []⟩,
      ⟨(some 14), .mv (.t 67), none, []⟩]))))
    (.seq (.ops [⟨(some 68), .mv (.t 11), none, []⟩,
      ⟨(some 69), .mv (.t 12), none, []⟩,
      ⟨(some 70), .cmp .neq (.t 68) (.t 69), none, []⟩,
      ⟨(some 71), .mv (.t 70), none, []⟩,
      ⟨(some 72), .mv (.t 13), some (71, false), []⟩,
      ⟨(some 73), .mv (.t 14), some (71, false), []⟩,
      ⟨(some 74), .cmp .neq (.t 72) (.t 73), some (71, false), []⟩,
      ⟨(some 75), .pick (.t 71) (.k (.bool true)) (.t 74), none, []⟩,
      ⟨(some 76), .mv (.t 75), none, []⟩,
      ⟨(some 77), .mv (.t 6), some (76, false), []⟩,
      ⟨(some 78), .call (.k (.fn 33 [])) [(.t 77)], some (76, false), []⟩,
      ⟨(some 79), .mv (.t 7), some (76, false), []⟩,
      ⟨(some 80), .call (.k (.fn 34 [])) [(.t 79)], some (76, false), []⟩,
      ⟨(some 81), .cmp .neq (.t 78) (.t 80), some (76, false), []⟩,
      ⟨(some 82), .pick (.t 76) (.k (.bool true)) (.t 81), none, []⟩])
    (.cond (.t 82) (.seq (.ops [⟨(some 4), .mv (.k (.bool false)), none, []⟩])
    (.ret)) (.skip)))))))))
    (.ops [⟨(some 83), .bin .add .i64 (.t 37) (.k (.lit .i64 1)), none, []⟩,
      ⟨(some 37), .mv (.t 83), none, []⟩])))))))
    (.seq (.ops [⟨(some 84), .call (.k (.fn 27 [])) [], none, []⟩,
      ⟨(some 4), .mv (.t 84), none, []⟩])
    (.ret))))))
theorem fn8 : FnOk Try.prog 8 x8 85 [4] := FnOk.of Try.call8 Try.func8 (by kernel_rfl) Try.ntmps8 (by kernel_rfl)
/-- baler/balerlaw01.BitsBack -/
def x9 : XC :=
  .seq (.ops [⟨(some 2), .mv (.k (.bool false)), none, []⟩])
    (.seq (.seq (.ops [⟨(some 15), .mv (.t 0), none, []⟩,
      ⟨(some 16), .len (.t 15), none, []⟩,
      ⟨(some 17), .cmp .gtr (.t 16) (.k (.lit .i64 300)), none, []⟩])
    (.cond (.t 17) (.ops [⟨(some 18), .mv (.t 0), none, []⟩,
      ⟨(some 19), .slc 3 (.t 18) none (some (.k (.lit .i64 300))) none, none, []⟩,
      ⟨(some 0), .mv (.t 19), none, []⟩]) (.skip)))
    (.seq (.ops [⟨(some 20), .build [(.val (.slice none 0 0)), (.lit .i64 0)] [], none, []⟩,
      ⟨(some 21), .box 56 none (.t 20), none, []⟩,
      ⟨(some 3), .mv (.t 21), none, []⟩])
    (.seq (.seq (.ops [⟨(some 22), .mv (.t 0), none, []⟩,
      ⟨(some 23), .len (.t 22), none, []⟩,
      ⟨(some 24), .mv (.k (.lit .i64 0)), none, []⟩])
    (.block 0 (.loop (.seq (.ops [⟨(some 25), .cmp .lss (.t 24) (.t 23), none, []⟩])
    (.seq (.cond (.t 25) (.skip) (.exit 0))
    (.seq (.block 1 (.seq (.ops [⟨(some 26), .iadr 3 (.t 22) (.t 24), none, []⟩,
      ⟨(some 27), .loadA 3 (.t 26), none, []⟩,
      ⟨(some 5), .newR 60 [(.lit .u64 0), (.lit .i64 0), (.bool false)], none, []⟩,
      ⟨none, .storeA 3 (.t 5) (.t 27), none, []⟩])
    (.seq (.ops [⟨(some 28), .fadr 2 (.t 5), none, []⟩,
      ⟨(some 29), .load1 (.t 28), none, []⟩])
    (.cond (.t 29) (.ops [⟨(some 30), .mv (.t 3), none, []⟩,
      ⟨(some 31), .call (.k (.fn 21 [])) [(.t 30)], none, []⟩]) (.seq (.ops [⟨(some 32), .mv (.t 3), none, []⟩,
      ⟨(some 33), .fadr 0 (.t 5), none, []⟩,
      ⟨(some 34), .load1 (.t 33), none, []⟩,
      ⟨(some 35), .fadr 1 (.t 5), none, []⟩,
      ⟨(some 36), .load1 (.t 35), none, []⟩,
      ⟨(some 37), .call (.k (.fn 23 [])) [(.t 32), (.t 34), (.t 36)], none, []⟩,
      ⟨(some 6), .mv (.t 37), none, []⟩])
    (.seq (.ops [⟨(some 38), .mv (.t 6), none, []⟩,
      ⟨(some 39), .cmp .eql (.t 38) (.k (.lit .i64 0)), none, []⟩,
      ⟨(some 40), .fadr 1 (.t 5), none, []⟩,
      ⟨(some 41), .load1 (.t 40), none, []⟩,
      ⟨(some 42), .cmp .geq (.t 41) (.k (.lit .i64 0)), none, []⟩,
      ⟨(some 43), .mv (.t 42), none, []⟩,
      ⟨(some 44), .fadr 1 (.t 5), some (43, true), []⟩,
      ⟨(some 45), .load1 (.t 44), some (43, true), []⟩,
      ⟨(some 46), .cmp .leq (.t 45) (.k (.lit .i64 56)), some (43, true), []⟩,
      ⟨(some 47), .pick (.t 43) (.t 46) (.k (.bool false)), none, []⟩,
      ⟨(some 48), .eqv true 0 (.t 39) (.t 47), none, []⟩])
    (.cond (.t 48) (.seq (.ops [⟨(some 2), .mv (.k (.bool false)), none, []⟩])
    (.ret)) (.skip))))))))
    (.ops [⟨(some 49), .bin .add .i64 (.t 24) (.k (.lit .i64 1)), none, []⟩,
      ⟨(some 24), .mv (.t 49), none, []⟩])))))))
    (.seq (.ops [⟨(some 50), .mv (.t 3), none, []⟩,
      ⟨(some 51), .call (.k (.fn 25 [])) [(.t 50)], none, []⟩,
      ⟨(some 52), .call (.k (.fn 28 [])) [(.t 51)], none, []⟩,
      ⟨(some 7), .mv (.t 52), none, []⟩])
    (.seq (.seq (.ops [⟨(some 53), .mv (.t 0), none, []⟩,
      ⟨(some 54), .len (.t 53), none, []⟩,
      ⟨(some 55), .mv (.k (.lit .i64 0)), none, []⟩])
    (.block 2 (.loop (.seq (.ops [⟨(some 56), .cmp .lss (.t 55) (.t 54), none, []⟩])
    (.seq (.cond (.t 56) (.skip) (.exit 2))
    (.seq (.block 3 (.seq (.ops [⟨(some 57), .iadr 3 (.t 53) (.t 55), none, []⟩,
      ⟨(some 58), .loadA 3 (.t 57), none, []⟩,
      ⟨(some 9), .newR 60 [(.lit .u64 0), (.lit .i64 0), (.bool false)], none, []⟩,
      ⟨none, .storeA 3 (.t 9) (.t 58), none, []⟩])
    (.seq (.seq (.ops [⟨(some 59), .fadr 2 (.t 9), none, []⟩,
      ⟨(some 60), .load1 (.t 59), none, []⟩])
    (.cond (.t 60) (.seq (.seq (.ops [⟨(some 62), .mv (.t 7), none, []⟩,
      ⟨(some 63), .call (.k (.fn 29 [])) [(.t 62)], none, []⟩,
      ⟨(some 61), .mv (.t 63), none, []⟩,
      ⟨(some 64), .extract (.t 61) 0, none, []⟩,
      ⟨(some 65), .extract (.t 61) 1, none, []⟩,
      ⟨(some 10), .mv (.t 64), none, []⟩,
      ⟨(some 11), .mv (.t 65), none, []⟩])
    (.seq (.ops [⟨(some 66), .mv (.t 10), none, []⟩,
      ⟨(some 67), .cmp .neq (.t 66) (.k (.lit .u64 0)), none, []⟩,
      ⟨(some 68), .mv (.t 67), none, []⟩,
      ⟨(some 69), .mv (.t 11), some (68, false), []⟩,
      ⟨(some 70), .cmp .neq (.t 69) (.k (.lit .i64 0)), some (68, false), []⟩,
      ⟨(some 71), .pick (.t 68) (.k (.bool true)) (.t 70), none, []⟩])
    (.cond (.t 71) (.seq (.ops [⟨(some 2), .mv (.k (.bool false)), none, []⟩])
    (.ret)) (.skip))))
    (.exit 3)) (.skip)))
    (.seq (.seq (.ops [⟨(some 72), .fadr 1 (.t 9), none, []⟩,
      ⟨(some 73), .load1 (.t 72), none, []⟩,
      ⟨(some 74), .cmp .lss (.t 73) (.k (.lit .i64 0)), none, []⟩,
      ⟨(some 75), .mv (.t 74), none, []⟩,
      ⟨(some 76), .fadr 1 (.t 9), some (75, false), []⟩,
      ⟨(some 77), .load1 (.t 76), some (75, false), []⟩,
      ⟨(some 78), .cmp .gtr (.t 77) (.k (.lit .i64 56)), some (75, false), []⟩,
      ⟨(some 79), .pick (.t 75) (.k (.bool true)) (.t 78), none, []⟩])
    (.cond (.t 79) (.exit 3) (.skip)))
    (.seq (.ops [⟨(some 80), .mv (.t 7), none, []⟩,
      ⟨(some 81), .call (.k (.fn 33 [])) [(.t 80)], none, []⟩,
      ⟨(some 12), .mv (.t 81), none, []⟩])
    (.seq (.ops [⟨(some 83), .mv (.t 7), none, []⟩,
      ⟨(some 84), .fadr 1 (.t 9), none, []⟩,
      ⟨(some 85), .load1 (.t 84), none, []⟩,
      ⟨(some 86), .call (.k (.fn 31 [])) [(.t 83), (.t 85)], none, []⟩,
      ⟨(some 82), .mv (.t 86), none, []⟩,
      ⟨(some 87), .extract (.t 82) 0, none, []⟩,
      ⟨(some 88), .extract (.t 82) 1, none, []⟩,
      ⟨(some 13), .mv (.t 87), none, []⟩,
      ⟨(some 14), .mv (.t 88), none, []⟩])
    (.seq (.ops [⟨(some 89), .mv (.t 14), none, []⟩,
      ⟨(some 90), .cmp .neq (.t 89) (.k (.lit .i64 0)), none, []⟩,
      ⟨(some 91), .mv (.t 90), none, []⟩,
      ⟨(some 92), .mv (.t 13), some (91, false), []⟩,
      ⟨(some 93), .fadr 0 (.t 9), some (91, false), []⟩,
      ⟨(some 94), .load1 (.t 93), some (91, false), []⟩,
      ⟨(some 95), .fadr 1 (.t 9), some (91, false), []⟩,
      ⟨(some 96), .load1 (.t 95), some (91, false), []⟩,
      ⟨(some 97), .conv .u64 (.t 96), some (91, false), []⟩,
      ⟨(some 98), .bin .shl .u64 (.k (.lit .u64 1)) (.t 97), some (91, false), []⟩,
      ⟨(some 99), .bin .sub .u64 (.t 98) (.k (.lit .u64 1)), some (91, false), []⟩,
      ⟨(some 100), .bin .and .u64 (.t 94) (.t 99), some (91, false), []⟩,
      ⟨(some 101), .cmp .neq (.t 92) (.t 100), some (91, false), []⟩,
      ⟨(some 102), .pick (.t 91) (.k (.bool true)) (.t 101), none, []⟩,
      ⟨(some 103), .mv (.t 102), none, []⟩,
      ⟨(some 104), .mv (.t 7), some (103, false), []⟩,
      ⟨(some 106), .mv (.t 12), some (103, false), []⟩,
      ⟨(some 107), .fadr 1 (.t 9), some (103, false), []⟩,
      ⟨(some 108), .load1 (.t 107), some (103, false), []⟩,
      ⟨(some 109), .bin .sub .i64 (.t 106) (.t 108), some (103, false), []⟩,
      ⟨(some 105), .call (.k (.fn 33 [])) [(.t 104)], some (103, false), [(.load1 (.t 107), 108, some (103, false)), (.load1 (.t 95), 96, some (91, false)), (.load1 (.t 93), 94, some (91, false))]⟩,
      ⟨(some 110), .cmp .neq (.t 105) (.t 109), some (103, false), []⟩,
      ⟨(some 111), .pick (.t 103) (.k (.bool true)) (.t 110), none, []⟩])
    (.cond (.t 111) (.seq (.ops [⟨(some 2), .mv (.k (.bool false)), none, []⟩])
    (.ret)) (.skip)))))))))
    (.ops [⟨(some 112), .bin .add .i64 (.t 55) (.k (.lit .i64 1)), none, []⟩,
      ⟨(some 55), .mv (.t 112), none, []⟩])))))))
    (.seq (.ops [⟨(some 113), .mv (.t 7), none, []⟩,
      ⟨(some 114), .call (.k (.fn 33 [])) [(.t 113)], none, []⟩,
      ⟨(some 115), .cmp .geq (.t 114) (.k (.lit .i64 0)), none, []⟩,
      ⟨(some 116), .mv (.t 115), none, []⟩,
      ⟨(some 117), .mv (.t 7), some (116, true), []⟩,
      ⟨(some 118), .call (.k (.fn 33 [])) [(.t 117)], some (116, true), []⟩,
      ⟨(some 119), .cmp .lss (.t 118) (.k (.lit .i64 8)), some (116, true), []⟩,
      ⟨(some 120), .pick (.t 116) (.t 119) (.k (.bool false)), none, []⟩,
      ⟨(some 121), .mv (.t 120), none, []⟩,
      ⟨(some 122), .call (.k (.fn 27 [])) [], some (121, true), []⟩,
      ⟨(some 123), .pick (.t 121) (.t 122) (.k (.bool false)), none, []⟩,
      ⟨(some 2), .mv (.t 123), none, []⟩])
    (.ret)))))))
theorem fn9 : FnOk Try.prog 9 x9 124 [2] := FnOk.of Try.call9 Try.func9 (by kernel_rfl) Try.ntmps9 (by kernel_rfl)
/-- baler/balerlaw01.BitsNil -/
def x10 : XC :=
  .seq (.ops [⟨(some 2), .mv (.k (.bool false)), none, []⟩])
    (.seq (.ops [⟨(some 3), .mv (.k (.val (.pointer none))), none, []⟩])
    (.seq (.ops [⟨(some 4), .mv (.k (.val (.pointer none))), none, []⟩])
    (.seq (.ops [⟨(some 10), .mv (.t 3), none, []⟩,
      ⟨(some 11), .mv (.t 0), none, []⟩,
      ⟨(some 12), .call (.k (.fn 31 [])) [(.t 10), (.t 11)], none, []⟩,
      ⟨(some 9), .mv (.t 12), none, []⟩,
      ⟨(some 13), .extract (.t 9) 0, none, []⟩,
      ⟨(some 14), .extract (.t 9) 1, none, []⟩,
      ⟨(some 5), .mv (.t 13), none, []⟩,
      ⟨(some 6), .mv (.t 14), none, []⟩])
    (.seq (.ops [⟨(some 16), .mv (.t 3), none, []⟩,
      ⟨(some 17), .call (.k (.fn 29 [])) [(.t 16)], none, []⟩,
      ⟨(some 15), .mv (.t 17), none, []⟩,
      ⟨(some 18), .extract (.t 15) 0, none, []⟩,
      ⟨(some 19), .extract (.t 15) 1, none, []⟩,
      ⟨(some 7), .mv (.t 18), none, []⟩,
      ⟨(some 8), .mv (.t 19), none, []⟩])
    (.seq (.ops [⟨(some 20), .mv (.t 4), none, []⟩,
      ⟨(some 21), .call (.k (.fn 21 [])) [(.t 20)], none, []⟩])
    (.seq (.ops [⟨(some 22), .mv (.t 5), none, []⟩,
      ⟨(some 23), .cmp .eql (.t 22) (.k (.lit .u64 0)), none, []⟩,
      ⟨(some 24), .mv (.t 23), none, []⟩,
      ⟨(some 25), .mv (.t 6), some (24, true), []⟩,
      ⟨(some 26), .cmp .eql (.t 25) (.k (.lit .i64 1)), some (24, true), []⟩,
      ⟨(some 27), .pick (.t 24) (.t 26) (.k (.bool false)), none, []⟩,
      ⟨(some 28), .mv (.t 27), none, []⟩,
      ⟨(some 29), .mv (.t 7), some (28, true), []⟩,
      ⟨(some 30), .cmp .eql (.t 29) (.k (.lit .u64 0)), some (28, true), []⟩,
      ⟨(some 31), .pick (.t 28) (.t 30) (.k (.bool false)), none, []⟩,
      ⟨(some 32), .mv (.t 31), none, []⟩,
      ⟨(some 33), .mv (.t 8), some (32, true), []⟩,
      ⟨(some 34), .cmp .eql (.t 33) (.k (.lit .i64 1)), some (32, true), []⟩,
      ⟨(some 35), .pick (.t 32) (.t 34) (.k (.bool false)), none, []⟩,
      ⟨(some 36), .mv (.t 35), none, []⟩,
      ⟨(some 37), .mv (.t 3), some (36, true), []⟩,
      ⟨(some 38), .call (.k (.fn 33 [])) [(.t 37)], some (36, true), []⟩,
      ⟨(some 39), .cmp .eql (.t 38) (.k (.lit .i64 0)), some (36, true), []⟩,
      ⟨(some 40), .pick (.t 36) (.t 39) (.k (.bool false)), none, []⟩,
      ⟨(some 41), .mv (.t 40), none, []⟩,
      ⟨(some 42), .mv (.t 4), some (41, true), []⟩,
      ⟨(some 43), .mv (.t 0), some (41, true), []⟩,
      ⟨(some 44), .call (.k (.fn 23 [])) [(.t 42), (.k (.lit .u64 1)), (.t 43)], some (41, true), []⟩,
      ⟨(some 45), .cmp .eql (.t 44) (.k (.lit .i64 1)), some (41, true), []⟩,
      ⟨(some 46), .pick (.t 41) (.t 45) (.k (.bool false)), none, []⟩,
      ⟨(some 47), .mv (.t 46), none, []⟩,
      ⟨(some 48), .mv (.t 4), some (47, true), []⟩,
      ⟨(some 49), .call (.k (.fn 25 [])) [(.t 48)], some (47, true), []⟩,
      ⟨(some 50), .len (.t 49), some (47, true), []⟩,
      ⟨(some 51), .cmp .eql (.t 50) (.k (.lit .i64 0)), some (47, true), []⟩,
      ⟨(some 52), .pick (.t 47) (.t 51) (.k (.bool false)), none, []⟩,
      ⟨(some 53), .mv (.t 52), none, []⟩,
      ⟨(some 54), .call (.k (.fn 27 [])) [], some (53, true), []⟩,
      ⟨(some 55), .pick (.t 53) (.t 54) (.k (.bool false)), none, []⟩,
      ⟨(some 2), .mv (.t 55), none, []⟩])
    (.ret)))))))
theorem fn10 : FnOk Try.prog 10 x10 56 [2] := FnOk.of Try.call10 Try.func10 (by kernel_rfl) Try.ntmps10 (by kernel_rfl)
/-- baler/tail.New -/
def x11 : XC :=
  .seq (.ops [⟨(some 2), .mv (.k (.val (.pointer none))), none, []⟩,
      ⟨(some 3), .mv (.k (.lit .i64 0)), none, []⟩])
    (.seq (.seq (.ops [⟨(some 5), .mv (.t 0), none, []⟩,
      ⟨(some 6), .len (.t 5), none, []⟩,
      ⟨(some 7), .cmp .eql (.t 6) (.k (.lit .i64 0)), none, []⟩,
      ⟨(some 8), .mv (.t 7), none, []⟩,
      ⟨(some 9), .mv (.t 0), some (8, false), []⟩,
      ⟨(some 10), .mv (.t 0), some (8, false), []⟩,
      ⟨(some 11), .len (.t 10), some (8, false), []⟩,
      ⟨(some 12), .bin .sub .i64 (.t 11) (.k (.lit .i64 1)), some (8, false), []⟩,
      ⟨(some 13), .iadr 1 (.t 9) (.t 12), some (8, false), []⟩,
      ⟨(some 14), .load1 (.t 13), some (8, false), []⟩,
      ⟨(some 15), .cmp .eql (.t 14) (.k (.lit .u8 0)), some (8, false), []⟩,
      ⟨(some 16), .pick (.t 8) (.k (.bool true)) (.t 15), none, []⟩])
    (.cond (.t 16) (.seq (.ops [⟨(some 2), .mv (.k (.val (.pointer none))), none, []⟩,
      ⟨(some 3), .mv (.k (.lit .i64 11)), none, []⟩])
    (.ret)) (.skip)))
    (.seq (.ops [⟨(some 17), .mv (.t 0), none, []⟩,
      ⟨(some 18), .mv (.t 0), none, []⟩,
      ⟨(some 19), .len (.t 18), none, []⟩,
      ⟨(some 20), .bin .sub .i64 (.t 19) (.k (.lit .i64 1)), none, []⟩,
      ⟨(some 21), .iadr 1 (.t 17) (.t 20), none, []⟩,
      ⟨(some 22), .load1 (.t 21), none, []⟩,
      ⟨(some 23), .call (.k (.fn 35 [])) [(.t 22)], none, []⟩,
      ⟨(some 24), .bin .sub .i64 (.t 23) (.k (.lit .i64 1)), none, []⟩,
      ⟨(some 4), .mv (.t 24), none, []⟩])
    (.seq (.ops [⟨(some 25), .bsliceI 5 .u8 0 [], none, []⟩,
      ⟨(some 26), .mv (.t 0), none, []⟩,
      ⟨(some 27), .appI 5 .u8 1 (.t 25) (.t 26), none, []⟩,
      ⟨(some 28), .mv (.t 0), none, []⟩,
      ⟨(some 29), .len (.t 28), none, []⟩,
      ⟨(some 30), .bin .sub .i64 (.t 29) (.k (.lit .i64 1)), none, []⟩,
      ⟨(some 31), .bin .mul .i64 (.k (.lit .i64 8)) (.t 30), none, []⟩,
      ⟨(some 32), .mv (.t 4), none, []⟩,
      ⟨(some 33), .bin .add .i64 (.t 31) (.t 32), none, []⟩,
      ⟨(some 34), .build [(.lit .i64 0)] [⟨0, 1, (.t 33)⟩], none, []⟩,
      ⟨(some 35), .build [(.val (.slice none 0 0)), (.lit .i64 0)] [⟨0, 1, (.t 27)⟩, ⟨1, 1, (.t 34)⟩], none, []⟩,
      ⟨(some 36), .box 74 none (.t 35), none, []⟩,
      ⟨(some 2), .mv (.t 36), none, []⟩,
      ⟨(some 3), .mv (.k (.lit .i64 0)), none, []⟩])
    (.ret))))
theorem fn11 : FnOk Try.prog 11 x11 37 [2, 3] := FnOk.of Try.call11 Try.func11 (by kernel_rfl) Try.ntmps11 (by kernel_rfl)
/-- baler/balerref03.New -/
def x12 : XC :=
  .seq (.ops [⟨(some 2), .mv (.k (.val (.pointer none))), none, []⟩,
      ⟨(some 3), .mv (.k (.lit .i64 0)), none, []⟩])
    (.seq (.seq (.ops [⟨(some 6), .mv (.t 0), none, []⟩,
      ⟨(some 7), .len (.t 6), none, []⟩,
      ⟨(some 8), .cmp .eql (.t 7) (.k (.lit .i64 0)), none, []⟩,
      ⟨(some 9), .mv (.t 8), none, []⟩,
      ⟨(some 10), .mv (.t 0), some (9, false), []⟩,
      ⟨(some 11), .mv (.t 0), some (9, false), []⟩,
      ⟨(some 12), .len (.t 11), some (9, false), []⟩,
      ⟨(some 13), .bin .sub .i64 (.t 12) (.k (.lit .i64 1)), some (9, false), []⟩,
      ⟨(some 14), .iadr 1 (.t 10) (.t 13), some (9, false), []⟩,
      ⟨(some 15), .load1 (.t 14), some (9, false), []⟩,
      ⟨(some 16), .cmp .eql (.t 15) (.k (.lit .u8 0)), some (9, false), []⟩,
      ⟨(some 17), .pick (.t 9) (.k (.bool true)) (.t 16), none, []⟩])
    (.cond (.t 17) (.seq (.ops [⟨(some 2), .mv (.k (.val (.pointer none))), none, []⟩,
      ⟨(some 3), .mv (.k (.lit .i64 11)), none, []⟩])
    (.ret)) (.skip)))
    (.seq (.ops [⟨(some 18), .build [(.val (.slice none 0 0)), (.lit .i64 0)] [], none, []⟩,
      ⟨(some 19), .box 36 none (.t 18), none, []⟩,
      ⟨(some 4), .mv (.t 19), none, []⟩])
    (.seq (.seq (.ops [⟨(some 5), .mv (.k (.lit .i64 0)), none, []⟩])
    (.block 0 (.loop (.seq (.seq (.ops [⟨(some 20), .mv (.t 5), none, []⟩,
      ⟨(some 21), .mv (.t 0), none, []⟩,
      ⟨(some 22), .len (.t 21), none, []⟩,
      ⟨(some 23), .bin .mul .i64 (.k (.lit .i64 8)) (.t 22), none, []⟩,
      ⟨(some 24), .cmp .lss (.t 20) (.t 23), none, []⟩])
    (.cond (.t 24) (.skip) (.exit 0)))
    (.seq (.block 1 (.ops [⟨(some 27), .mv (.t 4), none, []⟩,
      ⟨(some 28), .mv (.t 4), none, []⟩,
      ⟨(some 29), .nilchk (.t 28), none, []⟩,
      ⟨(some 30), .fadr 0 (.t 29), none, []⟩,
      ⟨(some 31), .load1 (.t 30), none, []⟩,
      ⟨(some 32), .mv (.t 0), none, []⟩,
      ⟨(some 33), .mv (.t 5), none, []⟩,
      ⟨(some 34), .bin .quo .i64 (.t 33) (.k (.lit .i64 8)), none, []⟩,
      ⟨(some 35), .iadr 1 (.t 32) (.t 34), none, []⟩,
      ⟨(some 36), .load1 (.t 35), none, []⟩,
      ⟨(some 37), .mv (.t 5), none, []⟩,
      ⟨(some 38), .bin .rem .i64 (.t 37) (.k (.lit .i64 8)), none, []⟩,
      ⟨(some 39), .conv .u64 (.t 38), none, []⟩,
      ⟨(some 40), .bin .shr .u8 (.t 36) (.t 39), none, []⟩,
      ⟨(some 41), .bin .and .u8 (.t 40) (.k (.lit .u8 1)), none, []⟩,
      ⟨(some 42), .bsliceI 5 .u8 1 [⟨0, 1, (.t 41)⟩], none, [(.load1 (.t 35), 36, none), (.load1 (.t 30), 31, none)]⟩,
      ⟨(some 43), .appI 5 .u8 1 (.t 31) (.t 42), none, [(.load1 (.t 35), 36, none)]⟩,
      ⟨(some 44), .nilchk (.t 27), none, []⟩,
      ⟨(some 45), .fadr 0 (.t 44), none, []⟩,
      ⟨none, .store1 (.t 45) (.t 43), none, []⟩]))
    (.ops [⟨(some 25), .mv (.t 5), none, []⟩,
      ⟨(some 26), .bin .add .i64 (.t 25) (.k (.lit .i64 1)), none, []⟩,
      ⟨(some 5), .mv (.t 26), none, []⟩]))))))
    (.seq (.block 2 (.loop (.seq (.seq (.ops [⟨(some 46), .mv (.t 4), none, []⟩,
      ⟨(some 47), .nilchk (.t 46), none, []⟩,
      ⟨(some 48), .fadr 0 (.t 47), none, []⟩,
      ⟨(some 49), .load1 (.t 48), none, []⟩,
      ⟨(some 50), .mv (.t 4), none, []⟩,
      ⟨(some 51), .nilchk (.t 50), none, []⟩,
      ⟨(some 52), .fadr 0 (.t 51), none, []⟩,
      ⟨(some 53), .load1 (.t 52), none, []⟩,
      ⟨(some 54), .len (.t 53), none, []⟩,
      ⟨(some 55), .bin .sub .i64 (.t 54) (.k (.lit .i64 1)), none, []⟩,
      ⟨(some 56), .iadr 1 (.t 49) (.t 55), none, []⟩,
      ⟨(some 57), .load1 (.t 56), none, []⟩,
      ⟨(some 58), .cmp .eql (.t 57) (.k (.lit .u8 0)), none, []⟩])
    (.cond (.t 58) (.skip) (.exit 2)))
    (.block 3 (.ops [⟨(some 59), .mv (.t 4), none, []⟩,
      ⟨(some 60), .mv (.t 4), none, []⟩,
      ⟨(some 61), .nilchk (.t 60), none, []⟩,
      ⟨(some 62), .fadr 0 (.t 61), none, []⟩,
      ⟨(some 63), .load1 (.t 62), none, []⟩,
      ⟨(some 64), .mv (.t 4), none, []⟩,
      ⟨(some 65), .nilchk (.t 64), none, []⟩,
      ⟨(some 66), .fadr 0 (.t 65), none, []⟩,
      ⟨(some 67), .load1 (.t 66), none, []⟩,
      ⟨(some 68), .len (.t 67), none, []⟩,
      ⟨(some 69), .bin .sub .i64 (.t 68) (.k (.lit .i64 1)), none, []⟩,
      ⟨(some 70), .slc 1 (.t 63) none (some (.t 69)) none, none, []⟩,
      ⟨(some 71), .nilchk (.t 59), none, []⟩,
      ⟨(some 72), .fadr 0 (.t 71), none, []⟩,
      ⟨none, .store1 (.t 72) (.t 70), none, []⟩])))))
    (.seq (.ops [⟨(some 73), .mv (.t 4), none, []⟩,
      ⟨(some 74), .mv (.t 4), none, []⟩,
      ⟨(some 75), .nilchk (.t 74), none, []⟩,
      ⟨(some 76), .fadr 0 (.t 75), none, []⟩,
      ⟨(some 77), .load1 (.t 76), none, []⟩,
      ⟨(some 78), .mv (.t 4), none, []⟩,
      ⟨(some 79), .nilchk (.t 78), none, []⟩,
      ⟨(some 80), .fadr 0 (.t 79), none, []⟩,
      ⟨(some 81), .load1 (.t 80), none, []⟩,
      ⟨(some 82), .len (.t 81), none, []⟩,
      ⟨(some 83), .bin .sub .i64 (.t 82) (.k (.lit .i64 1)), none, []⟩,
      ⟨(some 84), .slc 1 (.t 77) none (some (.t 83)) none, none, []⟩,
      ⟨(some 85), .nilchk (.t 73), none, []⟩,
      ⟨(some 86), .fadr 0 (.t 85), none, []⟩,
      ⟨none, .store1 (.t 86) (.t 84), none, []⟩])
    (.seq (.ops [⟨(some 87), .mv (.t 4), none, []⟩,
      ⟨(some 88), .mv (.t 4), none, []⟩,
      ⟨(some 89), .nilchk (.t 88), none, []⟩,
      ⟨(some 90), .fadr 0 (.t 89), none, []⟩,
      ⟨(some 91), .load1 (.t 90), none, []⟩,
      ⟨(some 92), .len (.t 91), none, []⟩,
      ⟨(some 93), .nilchk (.t 87), none, []⟩,
      ⟨(some 94), .fadr 1 (.t 93), none, []⟩,
      ⟨none, .store1 (.t 94) (.t 92), none, []⟩])
    (.seq (.ops [⟨(some 95), .mv (.t 4), none, []⟩,
      ⟨(some 2), .mv (.t 95), none, []⟩,
      ⟨(some 3), .mv (.k (.lit .i64 0)), none, []⟩])
    (.ret))))))))
theorem fn12 : FnOk Try.prog 12 x12 96 [2, 3] := FnOk.of Try.call12 Try.func12 (by kernel_rfl) Try.ntmps12 (by kernel_rfl)
/-- baler/balerlaw03.wakes -/
def x13 : XC :=
  .seq (.ops [⟨(some 0), .mv (.k (.bool false)), none, []⟩])
    (.seq (.ops [⟨(some 10), .build [(.val (.slice none 0 0)), (.lit .i64 0)] [], none, []⟩,
      ⟨(some 11), .box 41 none (.t 10), none, []⟩,
      ⟨(some 1), .mv (.t 11), none, []⟩])
    (.seq (.ops [⟨(some 12), .mv (.t 1), none, []⟩,
      ⟨(some 13), .call (.k (.fn 17 [])) [(.t 12), (.k (.lit .u64 2)), (.k (.lit .i64 2))], none, []⟩])
    (.seq (.ops [⟨(some 14), .mv (.t 1), none, []⟩,
      ⟨(some 15), .call (.k (.fn 17 [])) [(.t 14), (.k (.lit .u64 5)), (.k (.lit .i64 3))], none, []⟩])
    (.seq (.ops [⟨(some 17), .bsliceI 5 .u8 1 [⟨0, 1, (.k (.lit .u8 54))⟩], none, []⟩,
      ⟨(some 18), .call (.k (.fn 11 [])) [(.t 17)], none, []⟩,
      ⟨(some 16), .mv (.t 18), none, []⟩,
      ⟨(some 19), .extract (.t 16) 0, none, []⟩,
      ⟨(some 20), .extract (.t 16) 1, none, []⟩,
      ⟨(some 2), .mv (.t 19), none, []⟩,
      ⟨(some 3), .mv (.t 20), none, []⟩])
    (.seq (.seq (.ops [⟨(some 21), .mv (.t 1), none, []⟩,
      ⟨(some 22), .call (.k (.fn 19 [])) [(.t 21)], none, []⟩,
      ⟨(some 23), .bstr (.t 22), none, []⟩,
      ⟨(some 24), .eqv true 1 (.t 23) (.k (.str [54])), none, []⟩,
      ⟨(some 25), .mv (.t 24), none, []⟩,
      ⟨(some 26), .mv (.t 3), some (25, false), []⟩,
      ⟨(some 27), .cmp .neq (.t 26) (.k (.lit .i64 0)), some (25, false), []⟩,
      ⟨(some 28), .pick (.t 25) (.k (.bool true)) (.t 27), none, []⟩])
    (.cond (.t 28) (.seq (.ops [⟨(some 0), .mv (.k (.bool false)), none, []⟩])
    (.ret)) (.skip)))
    (.seq (.ops [⟨(some 29), .mv (.t 2), none, []⟩,
      ⟨(some 30), .call (.k (.fn 14 [])) [(.t 29), (.k (.lit .i64 3))], none, []⟩,
      ⟨(some 31), .mv (.t 2), none, []⟩,
      ⟨(some 32), .call (.k (.fn 14 [])) [(.t 31), (.k (.lit .i64 2))], none, []⟩,
      ⟨(some 33), .mv (.t 2), none, []⟩,
      ⟨(some 34), .call (.k (.fn 16 [])) [(.t 33)], none, []⟩,
      ⟨(some 35), .mv (.t 2), none, []⟩,
      ⟨(some 36), .call (.k (.fn 14 [])) [(.t 35), (.k (.lit .i64 4))], none, []⟩,
      ⟨(some 4), .mv (.t 30), none, []⟩,
      ⟨(some 5), .mv (.t 32), none, []⟩,
      ⟨(some 6), .mv (.t 34), none, []⟩,
      ⟨(some 7), .mv (.t 36), none, []⟩])
    (.seq (.ops [⟨(some 38), .bsliceI 5 .u8 2 [⟨0, 1, (.k (.lit .u8 1))⟩, ⟨1, 1, (.k (.lit .u8 0))⟩], none, []⟩,
      ⟨(some 39), .call (.k (.fn 11 [])) [(.t 38)], none, []⟩,
      ⟨(some 37), .mv (.t 39), none, []⟩,
      ⟨(some 40), .extract (.t 37) 0, none, []⟩,
      ⟨(some 41), .extract (.t 37) 1, none, []⟩,
      ⟨(some 8), .mv (.t 40), none, []⟩,
      ⟨(some 9), .mv (.t 41), none, []⟩])
    (.seq (.ops [⟨(some 42), .mv (.t 4), none, []⟩,
      ⟨(some 43), .cmp .eql (.t 42) (.k (.lit .u64 5)), none, []⟩,
      ⟨(some 44), .mv (.t 43), none, []⟩,
      ⟨(some 45), .mv (.t 5), some (44, true), []⟩,
      ⟨(some 46), .cmp .eql (.t 45) (.k (.lit .u64 2)), some (44, true), []⟩,
      ⟨(some 47), .pick (.t 44) (.t 46) (.k (.bool false)), none, []⟩,
      ⟨(some 48), .mv (.t 47), none, []⟩,
      ⟨(some 49), .mv (.t 6), some (48, true), []⟩,
      ⟨(some 50), .cmp .eql (.t 49) (.k (.lit .i64 0)), some (48, true), []⟩,
      ⟨(some 51), .pick (.t 48) (.t 50) (.k (.bool false)), none, []⟩,
      ⟨(some 52), .mv (.t 51), none, []⟩,
      ⟨(some 53), .mv (.t 7), some (52, true), []⟩,
      ⟨(some 54), .cmp .eql (.t 53) (.k (.lit .u64 0)), some (52, true), []⟩,
      ⟨(some 55), .pick (.t 52) (.t 54) (.k (.bool false)), none, []⟩,
      ⟨(some 56), .mv (.t 55), none, []⟩,
      ⟨(some 57), .mv (.t 2), some (56, true), []⟩,
      ⟨(some 58), .call (.k (.fn 16 [])) [(.t 57)], some (56, true), []⟩,
      ⟨(some 59), .cmp .eql (.t 58) (.k (.lit .i64 (-4))), some (56, true), []⟩,
      ⟨(some 60), .pick (.t 56) (.t 59) (.k (.bool false)), none, []⟩,
      ⟨(some 61), .mv (.t 60), none, []⟩,
      ⟨(some 62), .mv (.t 9), some (61, true), []⟩,
      ⟨(some 63), .cmp .eql (.t 62) (.k (.lit .i64 11)), some (61, true), []⟩,
      ⟨(some 64), .pick (.t 61) (.t 63) (.k (.bool false)), none, []⟩,
      ⟨(some 0), .mv (.t 64), none, []⟩])
    (.ret)))))))))
theorem fn13 : FnOk Try.prog 13 x13 65 [0] := FnOk.of Try.call13 Try.func13 (by kernel_rfl) Try.ntmps13 (by kernel_rfl)
/-- (*baler/tail.Reader).Bits -/
def x14 : XC :=
  .seq (.ops [⟨(some 4), .mv (.k (.lit .u64 0)), none, []⟩])
    (.seq (.seq (.ops [⟨(some 8), .mv (.t 0), none, []⟩,
      ⟨(some 9), .eqv false 2 (.t 8) (.k (.val (.pointer none))), none, []⟩])
    (.cond (.t 9) (.seq (.ops [⟨(some 4), .mv (.k (.lit .u64 0)), none, []⟩])
    (.ret)) (.skip)))
    (.seq (.ops [⟨(some 10), .mv (.t 1), none, []⟩,
      ⟨(some 11), .max (.t 10) (.k (.lit .i64 0)), none, []⟩,
      ⟨(some 12), .min (.t 11) (.k (.lit .i64 56)), none, []⟩,
      ⟨(some 1), .mv (.t 12), none, []⟩])
    (.seq (.ops [⟨(some 5), .mv (.k (.lit .u64 0)), none, []⟩])
    (.seq (.seq (.ops [⟨(some 13), .mv (.t 1), none, []⟩,
      ⟨(some 14), .mv (.k (.lit .i64 0)), none, []⟩])
    (.block 0 (.loop (.seq (.ops [⟨(some 15), .cmp .lss (.t 14) (.t 13), none, []⟩])
    (.seq (.cond (.t 15) (.skip) (.exit 0))
    (.seq (.block 1 (.seq (.ops [⟨(some 16), .mv (.t 14), none, []⟩,
      ⟨(some 6), .mv (.t 16), none, []⟩])
    (.seq (.ops [⟨(some 17), .mv (.t 5), none, []⟩,
      ⟨(some 18), .bin .shl .u64 (.t 17) (.k (.lit .u64 1)), none, []⟩,
      ⟨(some 5), .mv (.t 18), none, []⟩])
    (.seq (.ops [⟨(some 19), .mv (.t 0), none, []⟩,
      ⟨(some 20), .nilchk (.t 19), none, []⟩,
      ⟨(some 21), .fadr 1 (.t 20), none, []⟩,
      ⟨(some 22), .fadr 0 (.t 21), none, []⟩,
      ⟨(some 23), .load1 (.t 22), none, []⟩,
      ⟨(some 24), .bin .sub .i64 (.t 23) (.k (.lit .i64 1)), none, []⟩,
      ⟨(some 25), .mv (.t 6), none, []⟩,
      ⟨(some 26), .bin .sub .i64 (.t 24) (.t 25), none, []⟩,
      ⟨(some 7), .mv (.t 26), none, []⟩])
    (.seq (.ops [⟨(some 27), .mv (.t 7), none, []⟩,
      ⟨(some 28), .cmp .geq (.t 27) (.k (.lit .i64 0)), none, []⟩])
    (.cond (.t 28) (.ops [⟨(some 29), .mv (.t 5), none, []⟩,
      ⟨(some 30), .mv (.t 0), none, []⟩,
      ⟨(some 31), .nilchk (.t 30), none, []⟩,
      ⟨(some 32), .fadr 0 (.t 31), none, []⟩,
      ⟨(some 33), .load1 (.t 32), none, []⟩,
      ⟨(some 34), .mv (.t 7), none, []⟩,
      ⟨(some 35), .bin .quo .i64 (.t 34) (.k (.lit .i64 8)), none, []⟩,
      ⟨(some 36), .iadr 1 (.t 33) (.t 35), none, []⟩,
      ⟨(some 37), .load1 (.t 36), none, []⟩,
      ⟨(some 38), .mv (.t 7), none, []⟩,
      ⟨(some 39), .bin .rem .i64 (.t 38) (.k (.lit .i64 8)), none, []⟩,
      ⟨(some 40), .conv .u64 (.t 39), none, []⟩,
      ⟨(some 41), .bin .shr .u8 (.t 37) (.t 40), none, []⟩,
      ⟨(some 42), .conv .u64 (.t 41), none, []⟩,
      ⟨(some 43), .bin .and .u64 (.t 42) (.k (.lit .u64 1)), none, []⟩,
      ⟨(some 44), .bin .or .u64 (.t 29) (.t 43), none, []⟩,
      ⟨(some 5), .mv (.t 44), none, []⟩]) (.skip)))))))
    (.ops [⟨(some 45), .bin .add .i64 (.t 14) (.k (.lit .i64 1)), none, []⟩,
      ⟨(some 14), .mv (.t 45), none, []⟩])))))))
    (.seq (.seq (.ops [⟨(some 46), .mv (.t 0), none, []⟩,
      ⟨(some 47), .mv (.t 0), none, []⟩,
      ⟨(some 48), .nilchk (.t 47), none, []⟩,
      ⟨(some 49), .fadr 1 (.t 48), none, []⟩,
      ⟨(some 50), .fadr 0 (.t 49), none, []⟩,
      ⟨(some 51), .load1 (.t 50), none, []⟩,
      ⟨(some 52), .mv (.t 1), none, []⟩,
      ⟨(some 53), .bin .sub .i64 (.t 51) (.t 52), none, []⟩,
      ⟨(some 54), .build [(.lit .i64 0)] [⟨0, 1, (.t 53)⟩], none, []⟩,
      ⟨(some 55), .nilchk (.t 46), none, []⟩,
      ⟨(some 56), .fadr 1 (.t 55), none, []⟩,
      ⟨none, .storeA 1 (.t 56) (.t 54), none, []⟩])
    (.seq (.ops [⟨(some 57), .mv (.t 0), none, []⟩,
      ⟨(some 58), .nilchk (.t 57), none, []⟩,
      ⟨(some 59), .fadr 1 (.t 58), none, []⟩,
      ⟨(some 60), .fadr 0 (.t 59), none, []⟩,
      ⟨(some 61), .load1 (.t 60), none, []⟩,
      ⟨(some 62), .cmp .lss (.t 61) (.k (.lit .i64 (-1099511627776))), none, []⟩])
    (.cond (.t 62) (.ops [⟨(some 63), .mv (.t 0), none, []⟩,
      ⟨(some 64), .build [(.lit .i64 0)] [⟨0, 1, (.k (.lit .i64 (-1099511627776)))⟩], none, []⟩,
      ⟨(some 65), .nilchk (.t 63), none, []⟩,
      ⟨(some 66), .fadr 1 (.t 65), none, []⟩,
      ⟨none, .storeA 1 (.t 66) (.t 64), none, []⟩]) (.skip))))
    (.seq (.ops [⟨(some 67), .mv (.t 5), none, []⟩,
      ⟨(some 4), .mv (.t 67), none, []⟩])
    (.ret)))))))
theorem fn14 : FnOk Try.prog 14 x14 68 [4] := FnOk.of Try.call14 Try.func14 (by kernel_rfl) Try.ntmps14 (by kernel_rfl)
/-- (*baler/balerref03.R).Bits -/
def x15 : XC :=
  .seq (.ops [⟨(some 4), .mv (.k (.lit .u64 0)), none, []⟩])
    (.seq (.ops [⟨(some 7), .mv (.t 1), none, []⟩,
      ⟨(some 8), .max (.t 7) (.k (.lit .i64 0)), none, []⟩,
      ⟨(some 9), .min (.t 8) (.k (.lit .i64 56)), none, []⟩,
      ⟨(some 1), .mv (.t 9), none, []⟩])
    (.seq (.ops [⟨(some 10), .mv (.t 0), none, []⟩,
      ⟨(some 11), .nilchk (.t 10), none, []⟩,
      ⟨(some 12), .fadr 1 (.t 11), none, []⟩,
      ⟨(some 13), .load1 (.t 12), none, []⟩,
      ⟨(some 14), .mv (.t 1), none, []⟩,
      ⟨(some 15), .bin .sub .i64 (.t 13) (.t 14), none, []⟩,
      ⟨(some 16), .nilchk (.t 10), none, []⟩,
      ⟨(some 17), .fadr 1 (.t 16), none, []⟩,
      ⟨none, .store1 (.t 17) (.t 15), none, []⟩])
    (.seq (.ops [⟨(some 5), .mv (.k (.lit .u64 0)), none, []⟩])
    (.seq (.seq (.ops [⟨(some 18), .mv (.t 1), none, []⟩,
      ⟨(some 19), .bin .sub .i64 (.t 18) (.k (.lit .i64 1)), none, []⟩,
      ⟨(some 6), .mv (.t 19), none, []⟩])
    (.block 0 (.loop (.seq (.seq (.ops [⟨(some 20), .mv (.t 6), none, []⟩,
      ⟨(some 21), .cmp .geq (.t 20) (.k (.lit .i64 0)), none, []⟩])
    (.cond (.t 21) (.skip) (.exit 0)))
    (.seq (.block 1 (.seq (.ops [⟨(some 24), .mv (.t 5), none, []⟩,
      ⟨(some 25), .bin .shl .u64 (.t 24) (.k (.lit .u64 1)), none, []⟩,
      ⟨(some 5), .mv (.t 25), none, []⟩])
    (.seq (.ops [⟨(some 26), .mv (.t 0), none, []⟩,
      ⟨(some 27), .nilchk (.t 26), none, []⟩,
      ⟨(some 28), .fadr 1 (.t 27), none, []⟩,
      ⟨(some 29), .load1 (.t 28), none, []⟩,
      ⟨(some 30), .mv (.t 6), none, []⟩,
      ⟨(some 31), .bin .add .i64 (.t 29) (.t 30), none, []⟩,
      ⟨(some 32), .cmp .geq (.t 31) (.k (.lit .i64 0)), none, []⟩])
    (.cond (.t 32) (.ops [⟨(some 33), .mv (.t 5), none, []⟩,
      ⟨(some 34), .mv (.t 0), none, []⟩,
      ⟨(some 35), .nilchk (.t 34), none, []⟩,
      ⟨(some 36), .fadr 0 (.t 35), none, []⟩,
      ⟨(some 37), .load1 (.t 36), none, []⟩,
      ⟨(some 38), .mv (.t 0), none, []⟩,
      ⟨(some 39), .nilchk (.t 38), none, []⟩,
      ⟨(some 40), .fadr 1 (.t 39), none, []⟩,
      ⟨(some 41), .load1 (.t 40), none, []⟩,
      ⟨(some 42), .mv (.t 6), none, []⟩,
      ⟨(some 43), .bin .add .i64 (.t 41) (.t 42), none, []⟩,
      ⟨(some 44), .iadr 1 (.t 37) (.t 43), none, []⟩,
      ⟨(some 45), .load1 (.t 44), none, []⟩,
      ⟨(some 46), .conv .u64 (.t 45), none, []⟩,
      ⟨(some 47), .bin .or .u64 (.t 33) (.t 46), none, []⟩,
      ⟨(some 5), .mv (.t 47), none, []⟩]) (.skip)))))
    (.ops [⟨(some 22), .mv (.t 6), none, []⟩,
      ⟨(some 23), .bin .sub .i64 (.t 22) (.k (.lit .i64 1)), none, []⟩,
      ⟨(some 6), .mv (.t 23), none, []⟩]))))))
    (.seq (.ops [⟨(some 48), .mv (.t 0), none, []⟩,
      ⟨(some 49), .mv (.t 0), none, []⟩,
      ⟨(some 50), .nilchk (.t 49), none, []⟩,
      ⟨(some 51), .fadr 1 (.t 50), none, []⟩,
      ⟨(some 52), .load1 (.t 51), none, []⟩,
      ⟨(some 53), .max (.t 52) (.k (.lit .i64 (-1099511627776))), none, []⟩,
      ⟨(some 54), .nilchk (.t 48), none, []⟩,
      ⟨(some 55), .fadr 1 (.t 54), none, []⟩,
      ⟨none, .store1 (.t 55) (.t 53), none, []⟩])
    (.seq (.ops [⟨(some 56), .mv (.t 5), none, []⟩,
      ⟨(some 4), .mv (.t 56), none, []⟩])
    (.ret)))))))
theorem fn15 : FnOk Try.prog 15 x15 57 [4] := FnOk.of Try.call15 Try.func15 (by kernel_rfl) Try.ntmps15 (by kernel_rfl)
/-- (*baler/tail.Reader).Left -/
def x16 : XC :=
  .seq (.ops [⟨(some 2), .mv (.k (.lit .i64 0)), none, []⟩])
    (.seq (.seq (.ops [⟨(some 3), .mv (.t 0), none, []⟩,
      ⟨(some 4), .eqv false 2 (.t 3) (.k (.val (.pointer none))), none, []⟩])
    (.cond (.t 4) (.seq (.ops [⟨(some 2), .mv (.k (.lit .i64 0)), none, []⟩])
    (.ret)) (.skip)))
    (.seq (.ops [⟨(some 5), .mv (.t 0), none, []⟩,
      ⟨(some 6), .nilchk (.t 5), none, []⟩,
      ⟨(some 7), .fadr 1 (.t 6), none, []⟩,
      ⟨(some 8), .fadr 0 (.t 7), none, []⟩,
      ⟨(some 9), .load1 (.t 8), none, []⟩,
      ⟨(some 2), .mv (.t 9), none, []⟩])
    (.ret)))
theorem fn16 : FnOk Try.prog 16 x16 10 [2] := FnOk.of Try.call16 Try.func16 (by kernel_rfl) Try.ntmps16 (by kernel_rfl)
/-- (*baler/tail.Writer).Put -/
def x17 : XC :=
  .seq (.ops [⟨(some 3), .box 39 none (.t 0), none, []⟩,
      ⟨(some 6), .mv (.k (.lit .i64 0)), none, []⟩])
    (.seq (.block 0 (.seq (.ops [⟨(some 10), .load1 (.t 3), none, []⟩,
      ⟨(some 11), .eqv false 2 (.t 10) (.k (.val (.pointer none))), none, []⟩,
      ⟨(some 9), .mv (.t 11), none, []⟩])
    (.cond (.t 9) (.seq (.ops [⟨(some 6), .mv (.k (.lit .i64 1)), none, []⟩])
    (.ret)) (.seq (.ops [⟨(some 13), .mv (.t 2), none, []⟩,
      ⟨(some 14), .cmp .lss (.t 13) (.k (.lit .i64 0)), none, []⟩,
      ⟨(some 15), .mv (.t 14), none, []⟩,
      ⟨(some 16), .mv (.t 2), some (15, false), []⟩,
      ⟨(some 17), .cmp .gtr (.t 16) (.k (.lit .i64 56)), some (15, false), []⟩,
      ⟨(some 18), .pick (.t 15) (.k (.bool true)) (.t 17), none, []⟩,
      ⟨(some 12), .mv (.t 18), none, []⟩])
    (.cond (.t 12) (.seq (.ops [⟨(some 6), .mv (.k (.lit .i64 2)), none, []⟩])
    (.ret)) (.skip))))))
    (.seq (.seq (.ops [⟨(some 19), .mv (.t 1), none, []⟩,
      ⟨(some 20), .mv (.t 2), none, []⟩,
      ⟨(some 21), .call (.k (.fn 36 [])) [(.t 19), (.t 20)], none, []⟩])
    (.block 1 (.range (.t 21) [22, 23] (.ops [⟨(some 8), .mv (.t 23), none, []⟩]) (.block 2 (.seq (.seq (.ops [⟨(some 24), .load1 (.t 3), none, []⟩,
      ⟨(some 25), .nilchk (.t 24), none, []⟩,
      ⟨(some 26), .fadr 1 (.t 25), none, []⟩,
      ⟨(some 27), .load1 (.t 26), none, []⟩,
      ⟨(some 28), .bin .rem .i64 (.t 27) (.k (.lit .i64 8)), none, []⟩,
      ⟨(some 29), .cmp .eql (.t 28) (.k (.lit .i64 0)), none, []⟩])
    (.cond (.t 29) (.ops [⟨(some 30), .load1 (.t 3), none, []⟩,
      ⟨(some 31), .load1 (.t 3), none, []⟩,
      ⟨(some 32), .nilchk (.t 31), none, []⟩,
      ⟨(some 33), .fadr 0 (.t 32), none, []⟩,
      ⟨(some 34), .load1 (.t 33), none, []⟩,
      ⟨(some 35), .bsliceI 5 .u8 1 [⟨0, 1, (.k (.lit .u8 0))⟩], none, [(.load1 (.t 33), 34, none), (.load1 (.t 3), 31, none), (.load1 (.t 3), 30, none)]⟩,
      ⟨(some 36), .appI 5 .u8 1 (.t 34) (.t 35), none, [(.load1 (.t 3), 31, none), (.load1 (.t 3), 30, none)]⟩,
      ⟨(some 37), .nilchk (.t 30), none, []⟩,
      ⟨(some 38), .fadr 0 (.t 37), none, []⟩,
      ⟨none, .store1 (.t 38) (.t 36), none, []⟩]) (.skip)))
    (.seq (.ops [⟨(some 39), .load1 (.t 3), none, []⟩,
      ⟨(some 40), .nilchk (.t 39), none, []⟩,
      ⟨(some 41), .fadr 0 (.t 40), none, []⟩,
      ⟨(some 42), .load1 (.t 41), none, []⟩,
      ⟨(some 43), .load1 (.t 3), none, []⟩,
      ⟨(some 44), .nilchk (.t 43), none, []⟩,
      ⟨(some 45), .fadr 1 (.t 44), none, []⟩,
      ⟨(some 46), .load1 (.t 45), none, []⟩,
      ⟨(some 47), .bin .quo .i64 (.t 46) (.k (.lit .i64 8)), none, []⟩,
      ⟨(some 48), .iadr 1 (.t 42) (.t 47), none, []⟩,
      ⟨(some 49), .load1 (.t 48), none, []⟩,
      ⟨(some 50), .mv (.t 8), none, []⟩,
      ⟨(some 51), .load1 (.t 3), none, []⟩,
      ⟨(some 52), .nilchk (.t 51), none, []⟩,
      ⟨(some 53), .fadr 1 (.t 52), none, []⟩,
      ⟨(some 54), .load1 (.t 53), none, []⟩,
      ⟨(some 55), .bin .rem .i64 (.t 54) (.k (.lit .i64 8)), none, []⟩,
      ⟨(some 56), .conv .u64 (.t 55), none, []⟩,
      ⟨(some 57), .bin .shl .u8 (.t 50) (.t 56), none, []⟩,
      ⟨(some 58), .bin .or .u8 (.t 49) (.t 57), none, []⟩,
      ⟨(some 59), .iadr 1 (.t 42) (.t 47), none, []⟩,
      ⟨none, .store1 (.t 59) (.t 58), none, []⟩])
    (.ops [⟨(some 60), .load1 (.t 3), none, []⟩,
      ⟨(some 61), .nilchk (.t 60), none, []⟩,
      ⟨(some 62), .fadr 1 (.t 61), none, []⟩,
      ⟨(some 63), .load1 (.t 62), none, []⟩,
      ⟨(some 64), .bin .add .i64 (.t 63) (.k (.lit .i64 1)), none, []⟩,
      ⟨(some 65), .nilchk (.t 60), none, []⟩,
      ⟨(some 66), .fadr 1 (.t 65), none, []⟩,
      ⟨none, .store1 (.t 66) (.t 64), none, []⟩])))))))
    (.seq (.ops [⟨(some 6), .mv (.k (.lit .i64 0)), none, []⟩])
    (.ret))))
theorem fn17 : FnOk Try.prog 17 x17 67 [6] := FnOk.of Try.call17 Try.func17 (by kernel_rfl) Try.ntmps17 (by kernel_rfl)
/-- (*baler/balerref03.W).Put -/
def x18 : XC :=
  .seq (.ops [⟨(some 6), .mv (.k (.lit .i64 0)), none, []⟩])
    (.seq (.seq (.ops [⟨(some 8), .mv (.t 2), none, []⟩,
      ⟨(some 9), .cmp .lss (.t 8) (.k (.lit .i64 0)), none, []⟩,
      ⟨(some 10), .mv (.t 9), none, []⟩,
      ⟨(some 11), .mv (.t 2), some (10, false), []⟩,
      ⟨(some 12), .cmp .gtr (.t 11) (.k (.lit .i64 56)), some (10, false), []⟩,
      ⟨(some 13), .pick (.t 10) (.k (.bool true)) (.t 12), none, []⟩])
    (.cond (.t 13) (.seq (.ops [⟨(some 6), .mv (.k (.lit .i64 2)), none, []⟩])
    (.ret)) (.skip)))
    (.seq (.seq (.ops [⟨(some 7), .mv (.k (.lit .i64 0)), none, []⟩])
    (.block 0 (.loop (.seq (.seq (.ops [⟨(some 14), .mv (.t 7), none, []⟩,
      ⟨(some 15), .mv (.t 2), none, []⟩,
      ⟨(some 16), .cmp .lss (.t 14) (.t 15), none, []⟩])
    (.cond (.t 16) (.skip) (.exit 0)))
    (.seq (.block 1 (.ops [⟨(some 19), .mv (.t 0), none, []⟩,
      ⟨(some 20), .mv (.t 0), none, []⟩,
      ⟨(some 21), .nilchk (.t 20), none, []⟩,
      ⟨(some 22), .fadr 0 (.t 21), none, []⟩,
      ⟨(some 23), .load1 (.t 22), none, []⟩,
      ⟨(some 24), .mv (.t 1), none, []⟩,
      ⟨(some 25), .mv (.t 7), none, []⟩,
      ⟨(some 26), .conv .u64 (.t 25), none, []⟩,
      ⟨(some 27), .bin .shr .u64 (.t 24) (.t 26), none, []⟩,
      ⟨(some 28), .bin .and .u64 (.t 27) (.k (.lit .u64 1)), none, []⟩,
      ⟨(some 29), .conv .u8 (.t 28), none, []⟩,
      ⟨(some 30), .bsliceI 5 .u8 1 [⟨0, 1, (.t 29)⟩], none, []⟩,
      ⟨(some 31), .appI 5 .u8 1 (.t 23) (.t 30), none, []⟩,
      ⟨(some 32), .nilchk (.t 19), none, []⟩,
      ⟨(some 33), .fadr 0 (.t 32), none, []⟩,
      ⟨none, .store1 (.t 33) (.t 31), none, []⟩]))
    (.ops [⟨(some 17), .mv (.t 7), none, []⟩,
      ⟨(some 18), .bin .add .i64 (.t 17) (.k (.lit .i64 1)), none, []⟩,
      ⟨(some 7), .mv (.t 18), none, []⟩]))))))
    (.seq (.ops [⟨(some 6), .mv (.k (.lit .i64 0)), none, []⟩])
    (.ret))))
theorem fn18 : FnOk Try.prog 18 x18 34 [6] := FnOk.of Try.call18 Try.func18 (by kernel_rfl) Try.ntmps18 (by kernel_rfl)
/-- (*baler/tail.Writer).Close -/
def x19 : XC :=
  .seq (.ops [⟨(some 2), .mv (.k (.val (.slice none 0 0))), none, []⟩])
    (.seq (.seq (.ops [⟨(some 4), .mv (.t 0), none, []⟩,
      ⟨(some 5), .eqv false 2 (.t 4) (.k (.val (.pointer none))), none, []⟩])
    (.cond (.t 5) (.seq (.ops [⟨(some 2), .mv (.k (.val (.slice none 0 0))), none, []⟩])
    (.ret)) (.skip)))
    (.seq (.ops [⟨(some 6), .mv (.t 0), none, []⟩,
      ⟨(some 7), .call (.k (.fn 17 [])) [(.t 6), (.k (.lit .u64 1)), (.k (.lit .i64 1))], none, []⟩])
    (.seq (.ops [⟨(some 8), .mv (.t 0), none, []⟩,
      ⟨(some 9), .nilchk (.t 8), none, []⟩,
      ⟨(some 10), .fadr 0 (.t 9), none, []⟩,
      ⟨(some 11), .load1 (.t 10), none, []⟩,
      ⟨(some 3), .mv (.t 11), none, []⟩])
    (.seq (.ops [⟨(some 12), .mv (.t 0), none, []⟩,
      ⟨(some 13), .build [(.val (.slice none 0 0)), (.lit .i64 0)] [], none, []⟩,
      ⟨(some 14), .nilchk (.t 12), none, []⟩,
      ⟨none, .storeA 2 (.t 14) (.t 13), none, []⟩])
    (.seq (.ops [⟨(some 15), .mv (.t 3), none, []⟩,
      ⟨(some 2), .mv (.t 15), none, []⟩])
    (.ret))))))
theorem fn19 : FnOk Try.prog 19 x19 16 [2] := FnOk.of Try.call19 Try.func19 (by kernel_rfl) Try.ntmps19 (by kernel_rfl)
/-- (*baler/balerref03.W).Close -/
def x20 : XC :=
  .seq (.ops [⟨(some 2), .mv (.k (.val (.slice none 0 0))), none, []⟩])
    (.seq (.ops [⟨(some 6), .mv (.t 0), none, []⟩,
      ⟨(some 7), .nilchk (.t 6), none, []⟩,
      ⟨(some 8), .fadr 0 (.t 7), none, []⟩,
      ⟨(some 9), .load1 (.t 8), none, []⟩,
      ⟨(some 10), .bsliceI 5 .u8 1 [⟨0, 1, (.k (.lit .u8 1))⟩], none, []⟩,
      ⟨(some 11), .appI 5 .u8 1 (.t 9) (.t 10), none, []⟩,
      ⟨(some 3), .mv (.t 11), none, []⟩])
    (.seq (.ops [⟨(some 12), .mv (.t 0), none, []⟩,
      ⟨(some 13), .nilchk (.t 12), none, []⟩,
      ⟨(some 14), .fadr 0 (.t 13), none, []⟩,
      ⟨none, .store1 (.t 14) (.k (.val (.slice none 0 0))), none, []⟩])
    (.seq (.ops [⟨(some 15), .mv (.t 3), none, []⟩,
      ⟨(some 16), .len (.t 15), none, []⟩,
      ⟨(some 17), .bin .add .i64 (.t 16) (.k (.lit .i64 7)), none, []⟩,
      ⟨(some 18), .bin .quo .i64 (.t 17) (.k (.lit .i64 8)), none, []⟩,
      ⟨(some 19), .mkslI 5 .u8 1 (.t 18) (.t 18), none, []⟩,
      ⟨(some 4), .mv (.t 19), none, []⟩])
    (.seq (.seq (.ops [⟨(some 5), .mv (.k (.lit .i64 0)), none, []⟩])
    (.block 0 (.loop (.seq (.seq (.ops [⟨(some 20), .mv (.t 5), none, []⟩,
      ⟨(some 21), .mv (.t 3), none, []⟩,
      ⟨(some 22), .len (.t 21), none, []⟩,
      ⟨(some 23), .cmp .lss (.t 20) (.t 22), none, []⟩])
    (.cond (.t 23) (.skip) (.exit 0)))
    (.seq (.block 1 (.ops [⟨(some 26), .mv (.t 4), none, []⟩,
      ⟨(some 27), .mv (.t 5), none, []⟩,
      ⟨(some 28), .bin .quo .i64 (.t 27) (.k (.lit .i64 8)), none, []⟩,
      ⟨(some 29), .iadr 1 (.t 26) (.t 28), none, []⟩,
      ⟨(some 30), .load1 (.t 29), none, []⟩,
      ⟨(some 31), .mv (.t 3), none, []⟩,
      ⟨(some 32), .mv (.t 5), none, []⟩,
      ⟨(some 33), .iadr 1 (.t 31) (.t 32), none, []⟩,
      ⟨(some 34), .load1 (.t 33), none, []⟩,
      ⟨(some 35), .mv (.t 5), none, []⟩,
      ⟨(some 36), .bin .rem .i64 (.t 35) (.k (.lit .i64 8)), none, []⟩,
      ⟨(some 37), .conv .u64 (.t 36), none, []⟩,
      ⟨(some 38), .bin .shl .u8 (.t 34) (.t 37), none, []⟩,
      ⟨(some 39), .bin .or .u8 (.t 30) (.t 38), none, []⟩,
      ⟨(some 40), .iadr 1 (.t 26) (.t 28), none, []⟩,
      ⟨none, .store1 (.t 40) (.t 39), none, []⟩]))
    (.ops [⟨(some 24), .mv (.t 5), none, []⟩,
      ⟨(some 25), .bin .add .i64 (.t 24) (.k (.lit .i64 1)), none, []⟩,
      ⟨(some 5), .mv (.t 25), none, []⟩]))))))
    (.seq (.ops [⟨(some 41), .mv (.t 4), none, []⟩,
      ⟨(some 2), .mv (.t 41), none, []⟩])
    (.ret))))))
theorem fn20 : FnOk Try.prog 20 x20 42 [2] := FnOk.of Try.call20 Try.func20 (by kernel_rfl) Try.ntmps20 (by kernel_rfl)
/-- (*baler/bits.Writer).Align -/
def x21 : XC :=
  .seq (.ops [⟨(some 2), .mv (.t 0), none, []⟩,
      ⟨(some 3), .eqv true 2 (.t 2) (.k (.val (.pointer none))), none, []⟩])
    (.cond (.t 3) (.ops [⟨(some 4), .mv (.t 0), none, []⟩,
      ⟨(some 5), .mv (.t 0), none, []⟩,
      ⟨(some 6), .nilchk (.t 5), none, []⟩,
      ⟨(some 7), .fadr 0 (.t 6), none, []⟩,
      ⟨(some 8), .load1 (.t 7), none, []⟩,
      ⟨(some 9), .len (.t 8), none, []⟩,
      ⟨(some 10), .bin .mul .i64 (.k (.lit .i64 8)) (.t 9), none, []⟩,
      ⟨(some 11), .nilchk (.t 4), none, []⟩,
      ⟨(some 12), .fadr 1 (.t 11), none, []⟩,
      ⟨none, .store1 (.t 12) (.t 10), none, []⟩]) (.skip))
theorem fn21 : FnOk Try.prog 21 x21 13 [] := FnOk.of Try.call21 Try.func21 (by kernel_rfl) Try.ntmps21 (by kernel_rfl)
/-- (*baler/balerref01.W).Align -/
def x22 : XC :=
  .block 0 (.loop (.seq (.seq (.ops [⟨(some 2), .mv (.t 0), none, []⟩,
      ⟨(some 3), .nilchk (.t 2), none, []⟩,
      ⟨(some 4), .fadr 0 (.t 3), none, []⟩,
      ⟨(some 5), .load1 (.t 4), none, []⟩,
      ⟨(some 6), .len (.t 5), none, []⟩,
      ⟨(some 7), .bin .rem .i64 (.t 6) (.k (.lit .i64 8)), none, []⟩,
      ⟨(some 8), .cmp .neq (.t 7) (.k (.lit .i64 0)), none, []⟩])
    (.cond (.t 8) (.skip) (.exit 0)))
    (.block 1 (.ops [⟨(some 9), .mv (.t 0), none, []⟩,
      ⟨(some 10), .mv (.t 0), none, []⟩,
      ⟨(some 11), .nilchk (.t 10), none, []⟩,
      ⟨(some 12), .fadr 0 (.t 11), none, []⟩,
      ⟨(some 13), .load1 (.t 12), none, []⟩,
      ⟨(some 14), .bsliceI 5 .u8 1 [⟨0, 1, (.k (.lit .u8 0))⟩], none, []⟩,
      ⟨(some 15), .appI 5 .u8 1 (.t 13) (.t 14), none, []⟩,
      ⟨(some 16), .nilchk (.t 9), none, []⟩,
      ⟨(some 17), .fadr 0 (.t 16), none, []⟩,
      ⟨none, .store1 (.t 17) (.t 15), none, []⟩]))))
theorem fn22 : FnOk Try.prog 22 x22 18 [] := FnOk.of Try.call22 Try.func22 (by kernel_rfl) Try.ntmps22 (by kernel_rfl)
/-- (*baler/bits.Writer).Put -/
def x23 : XC :=
  .seq (.ops [⟨(some 3), .box 54 none (.t 0), none, []⟩,
      ⟨(some 6), .mv (.k (.lit .i64 0)), none, []⟩])
    (.seq (.block 0 (.seq (.ops [⟨(some 9), .load1 (.t 3), none, []⟩,
      ⟨(some 10), .eqv false 2 (.t 9) (.k (.val (.pointer none))), none, []⟩,
      ⟨(some 8), .mv (.t 10), none, []⟩])
    (.cond (.t 8) (.seq (.ops [⟨(some 6), .mv (.k (.lit .i64 1)), none, []⟩])
    (.ret)) (.seq (.ops [⟨(some 12), .mv (.t 2), none, []⟩,
      ⟨(some 13), .cmp .lss (.t 12) (.k (.lit .i64 0)), none, []⟩,
      ⟨(some 14), .mv (.t 13), none, []⟩,
      ⟨(some 15), .mv (.t 2), some (14, false), []⟩,
      ⟨(some 16), .cmp .gtr (.t 15) (.k (.lit .i64 56)), some (14, false), []⟩,
      ⟨(some 17), .pick (.t 14) (.k (.bool true)) (.t 16), none, []⟩,
      ⟨(some 11), .mv (.t 17), none, []⟩])
    (.cond (.t 11) (.seq (.ops [⟨(some 6), .mv (.k (.lit .i64 2)), none, []⟩])
    (.ret)) (.skip))))))
    (.seq (.seq (.ops [⟨(some 18), .mv (.t 1), none, []⟩,
      ⟨(some 19), .mv (.t 2), none, []⟩,
      ⟨(some 20), .call (.k (.fn 37 [])) [(.t 18), (.t 19)], none, []⟩])
    (.block 1 (.range (.t 20) [21] (.ops [⟨(some 7), .mv (.t 21), none, []⟩]) (.block 2 (.seq (.seq (.ops [⟨(some 22), .load1 (.t 3), none, []⟩,
      ⟨(some 23), .nilchk (.t 22), none, []⟩,
      ⟨(some 24), .fadr 1 (.t 23), none, []⟩,
      ⟨(some 25), .load1 (.t 24), none, []⟩,
      ⟨(some 26), .bin .rem .i64 (.t 25) (.k (.lit .i64 8)), none, []⟩,
      ⟨(some 27), .cmp .eql (.t 26) (.k (.lit .i64 0)), none, []⟩])
    (.cond (.t 27) (.ops [⟨(some 28), .load1 (.t 3), none, []⟩,
      ⟨(some 29), .load1 (.t 3), none, []⟩,
      ⟨(some 30), .nilchk (.t 29), none, []⟩,
      ⟨(some 31), .fadr 0 (.t 30), none, []⟩,
      ⟨(some 32), .load1 (.t 31), none, []⟩,
      ⟨(some 33), .bsliceI 5 .u8 1 [⟨0, 1, (.k (.lit .u8 0))⟩], none, [(.load1 (.t 31), 32, none), (.load1 (.t 3), 29, none), (.load1 (.t 3), 28, none)]⟩,
      ⟨(some 34), .appI 5 .u8 1 (.t 32) (.t 33), none, [(.load1 (.t 3), 29, none), (.load1 (.t 3), 28, none)]⟩,
      ⟨(some 35), .nilchk (.t 28), none, []⟩,
      ⟨(some 36), .fadr 0 (.t 35), none, []⟩,
      ⟨none, .store1 (.t 36) (.t 34), none, []⟩]) (.skip)))
    (.seq (.ops [⟨(some 37), .load1 (.t 3), none, []⟩,
      ⟨(some 38), .nilchk (.t 37), none, []⟩,
      ⟨(some 39), .fadr 0 (.t 38), none, []⟩,
      ⟨(some 40), .load1 (.t 39), none, []⟩,
      ⟨(some 41), .load1 (.t 3), none, []⟩,
      ⟨(some 42), .nilchk (.t 41), none, []⟩,
      ⟨(some 43), .fadr 1 (.t 42), none, []⟩,
      ⟨(some 44), .load1 (.t 43), none, []⟩,
      ⟨(some 45), .bin .quo .i64 (.t 44) (.k (.lit .i64 8)), none, []⟩,
      ⟨(some 46), .iadr 1 (.t 40) (.t 45), none, []⟩,
      ⟨(some 47), .load1 (.t 46), none, []⟩,
      ⟨(some 48), .mv (.t 7), none, []⟩,
      ⟨(some 49), .load1 (.t 3), none, []⟩,
      ⟨(some 50), .nilchk (.t 49), none, []⟩,
      ⟨(some 51), .fadr 1 (.t 50), none, []⟩,
      ⟨(some 52), .load1 (.t 51), none, []⟩,
      ⟨(some 53), .bin .rem .i64 (.t 52) (.k (.lit .i64 8)), none, []⟩,
      ⟨(some 54), .conv .u64 (.t 53), none, []⟩,
      ⟨(some 55), .bin .shl .u8 (.t 48) (.t 54), none, []⟩,
      ⟨(some 56), .bin .or .u8 (.t 47) (.t 55), none, []⟩,
      ⟨(some 57), .iadr 1 (.t 40) (.t 45), none, []⟩,
      ⟨none, .store1 (.t 57) (.t 56), none, []⟩])
    (.ops [⟨(some 58), .load1 (.t 3), none, []⟩,
      ⟨(some 59), .nilchk (.t 58), none, []⟩,
      ⟨(some 60), .fadr 1 (.t 59), none, []⟩,
      ⟨(some 61), .load1 (.t 60), none, []⟩,
      ⟨(some 62), .bin .add .i64 (.t 61) (.k (.lit .i64 1)), none, []⟩,
      ⟨(some 63), .nilchk (.t 58), none, []⟩,
      ⟨(some 64), .fadr 1 (.t 63), none, []⟩,
      ⟨none, .store1 (.t 64) (.t 62), none, []⟩])))))))
    (.seq (.ops [⟨(some 6), .mv (.k (.lit .i64 0)), none, []⟩])
    (.ret))))
theorem fn23 : FnOk Try.prog 23 x23 65 [6] := FnOk.of Try.call23 Try.func23 (by kernel_rfl) Try.ntmps23 (by kernel_rfl)
/-- (*baler/balerref01.W).Put -/
def x24 : XC :=
  .seq (.ops [⟨(some 6), .mv (.k (.lit .i64 0)), none, []⟩])
    (.seq (.seq (.ops [⟨(some 8), .mv (.t 2), none, []⟩,
      ⟨(some 9), .cmp .lss (.t 8) (.k (.lit .i64 0)), none, []⟩,
      ⟨(some 10), .mv (.t 9), none, []⟩,
      ⟨(some 11), .mv (.t 2), some (10, false), []⟩,
      ⟨(some 12), .cmp .gtr (.t 11) (.k (.lit .i64 56)), some (10, false), []⟩,
      ⟨(some 13), .pick (.t 10) (.k (.bool true)) (.t 12), none, []⟩])
    (.cond (.t 13) (.seq (.ops [⟨(some 6), .mv (.k (.lit .i64 2)), none, []⟩])
    (.ret)) (.skip)))
    (.seq (.seq (.ops [⟨(some 7), .mv (.k (.lit .i64 0)), none, []⟩])
    (.block 0 (.loop (.seq (.seq (.ops [⟨(some 14), .mv (.t 7), none, []⟩,
      ⟨(some 15), .mv (.t 2), none, []⟩,
      ⟨(some 16), .cmp .lss (.t 14) (.t 15), none, []⟩])
    (.cond (.t 16) (.skip) (.exit 0)))
    (.seq (.block 1 (.ops [⟨(some 19), .mv (.t 0), none, []⟩,
      ⟨(some 20), .mv (.t 0), none, []⟩,
      ⟨(some 21), .nilchk (.t 20), none, []⟩,
      ⟨(some 22), .fadr 0 (.t 21), none, []⟩,
      ⟨(some 23), .load1 (.t 22), none, []⟩,
      ⟨(some 24), .mv (.t 1), none, []⟩,
      ⟨(some 25), .mv (.t 7), none, []⟩,
      ⟨(some 26), .conv .u64 (.t 25), none, []⟩,
      ⟨(some 27), .bin .shr .u64 (.t 24) (.t 26), none, []⟩,
      ⟨(some 28), .bin .and .u64 (.t 27) (.k (.lit .u64 1)), none, []⟩,
      ⟨(some 29), .conv .u8 (.t 28), none, []⟩,
      ⟨(some 30), .bsliceI 5 .u8 1 [⟨0, 1, (.t 29)⟩], none, []⟩,
      ⟨(some 31), .appI 5 .u8 1 (.t 23) (.t 30), none, []⟩,
      ⟨(some 32), .nilchk (.t 19), none, []⟩,
      ⟨(some 33), .fadr 0 (.t 32), none, []⟩,
      ⟨none, .store1 (.t 33) (.t 31), none, []⟩]))
    (.ops [⟨(some 17), .mv (.t 7), none, []⟩,
      ⟨(some 18), .bin .add .i64 (.t 17) (.k (.lit .i64 1)), none, []⟩,
      ⟨(some 7), .mv (.t 18), none, []⟩]))))))
    (.seq (.ops [⟨(some 6), .mv (.k (.lit .i64 0)), none, []⟩])
    (.ret))))
theorem fn24 : FnOk Try.prog 24 x24 34 [6] := FnOk.of Try.call24 Try.func24 (by kernel_rfl) Try.ntmps24 (by kernel_rfl)
/-- (*baler/bits.Writer).Bytes -/
def x25 : XC :=
  .seq (.ops [⟨(some 2), .mv (.k (.val (.slice none 0 0))), none, []⟩])
    (.seq (.seq (.ops [⟨(some 3), .mv (.t 0), none, []⟩,
      ⟨(some 4), .eqv false 2 (.t 3) (.k (.val (.pointer none))), none, []⟩])
    (.cond (.t 4) (.seq (.ops [⟨(some 2), .mv (.k (.val (.slice none 0 0))), none, []⟩])
    (.ret)) (.skip)))
    (.seq (.ops [⟨(some 5), .bsliceI 5 .u8 0 [], none, []⟩,
      ⟨(some 6), .mv (.t 0), none, []⟩,
      ⟨(some 7), .nilchk (.t 6), none, []⟩,
      ⟨(some 8), .fadr 0 (.t 7), none, []⟩,
      ⟨(some 9), .load1 (.t 8), none, []⟩,
      ⟨(some 10), .appI 5 .u8 1 (.t 5) (.t 9), none, []⟩,
      ⟨(some 2), .mv (.t 10), none, []⟩])
    (.ret)))
theorem fn25 : FnOk Try.prog 25 x25 11 [2] := FnOk.of Try.call25 Try.func25 (by kernel_rfl) Try.ntmps25 (by kernel_rfl)
/-- (*baler/balerref01.W).Bytes -/
def x26 : XC :=
  .seq (.ops [⟨(some 2), .mv (.k (.val (.slice none 0 0))), none, []⟩])
    (.seq (.ops [⟨(some 5), .mv (.t 0), none, []⟩,
      ⟨(some 6), .nilchk (.t 5), none, []⟩,
      ⟨(some 7), .fadr 0 (.t 6), none, []⟩,
      ⟨(some 8), .load1 (.t 7), none, []⟩,
      ⟨(some 9), .len (.t 8), none, []⟩,
      ⟨(some 10), .bin .add .i64 (.t 9) (.k (.lit .i64 7)), none, []⟩,
      ⟨(some 11), .bin .quo .i64 (.t 10) (.k (.lit .i64 8)), none, []⟩,
      ⟨(some 12), .mkslI 5 .u8 1 (.t 11) (.t 11), none, []⟩,
      ⟨(some 3), .mv (.t 12), none, []⟩])
    (.seq (.seq (.ops [⟨(some 4), .mv (.k (.lit .i64 0)), none, []⟩])
    (.block 0 (.loop (.seq (.seq (.ops [⟨(some 13), .mv (.t 4), none, []⟩,
      ⟨(some 14), .mv (.t 0), none, []⟩,
      ⟨(some 15), .nilchk (.t 14), none, []⟩,
      ⟨(some 16), .fadr 0 (.t 15), none, []⟩,
      ⟨(some 17), .load1 (.t 16), none, []⟩,
      ⟨(some 18), .len (.t 17), none, []⟩,
      ⟨(some 19), .cmp .lss (.t 13) (.t 18), none, []⟩])
    (.cond (.t 19) (.skip) (.exit 0)))
    (.seq (.block 1 (.ops [⟨(some 22), .mv (.t 3), none, []⟩,
      ⟨(some 23), .mv (.t 4), none, []⟩,
      ⟨(some 24), .bin .quo .i64 (.t 23) (.k (.lit .i64 8)), none, []⟩,
      ⟨(some 25), .iadr 1 (.t 22) (.t 24), none, []⟩,
      ⟨(some 26), .load1 (.t 25), none, []⟩,
      ⟨(some 27), .mv (.t 0), none, []⟩,
      ⟨(some 28), .nilchk (.t 27), none, []⟩,
      ⟨(some 29), .fadr 0 (.t 28), none, []⟩,
      ⟨(some 30), .load1 (.t 29), none, []⟩,
      ⟨(some 31), .mv (.t 4), none, []⟩,
      ⟨(some 32), .iadr 1 (.t 30) (.t 31), none, []⟩,
      ⟨(some 33), .load1 (.t 32), none, []⟩,
      ⟨(some 34), .mv (.t 4), none, []⟩,
      ⟨(some 35), .bin .rem .i64 (.t 34) (.k (.lit .i64 8)), none, []⟩,
      ⟨(some 36), .conv .u64 (.t 35), none, []⟩,
      ⟨(some 37), .bin .shl .u8 (.t 33) (.t 36), none, []⟩,
      ⟨(some 38), .bin .or .u8 (.t 26) (.t 37), none, []⟩,
      ⟨(some 39), .iadr 1 (.t 22) (.t 24), none, []⟩,
      ⟨none, .store1 (.t 39) (.t 38), none, []⟩]))
    (.ops [⟨(some 20), .mv (.t 4), none, []⟩,
      ⟨(some 21), .bin .add .i64 (.t 20) (.k (.lit .i64 1)), none, []⟩,
      ⟨(some 4), .mv (.t 21), none, []⟩]))))))
    (.seq (.ops [⟨(some 40), .mv (.t 3), none, []⟩,
      ⟨(some 2), .mv (.t 40), none, []⟩])
    (.ret))))
theorem fn26 : FnOk Try.prog 26 x26 41 [2] := FnOk.of Try.call26 Try.func26 (by kernel_rfl) Try.ntmps26 (by kernel_rfl)
/-- baler/balerlaw01.wakes -/
def x27 : XC :=
  .seq (.ops [⟨(some 0), .mv (.k (.bool false)), none, []⟩])
    (.seq (.ops [⟨(some 11), .bsliceI 5 .u8 2 [⟨0, 1, (.k (.lit .u8 180))⟩, ⟨1, 1, (.k (.lit .u8 1))⟩], none, []⟩,
      ⟨(some 12), .call (.k (.fn 28 [])) [(.t 11)], none, []⟩,
      ⟨(some 1), .mv (.t 12), none, []⟩])
    (.seq (.ops [⟨(some 14), .mv (.t 1), none, []⟩,
      ⟨(some 15), .call (.k (.fn 31 [])) [(.t 14), (.k (.lit .i64 3))], none, []⟩,
      ⟨(some 13), .mv (.t 15), none, []⟩,
      ⟨(some 16), .extract (.t 13) 0, none, []⟩,
      ⟨(some 17), .extract (.t 13) 1, none, []⟩,
      ⟨(some 2), .mv (.t 16), none, []⟩,
      ⟨(some 3), .mv (.t 17), none, []⟩])
    (.seq (.ops [⟨(some 19), .mv (.t 1), none, []⟩,
      ⟨(some 20), .call (.k (.fn 31 [])) [(.t 19), (.k (.lit .i64 6))], none, []⟩,
      ⟨(some 18), .mv (.t 20), none, []⟩,
      ⟨(some 21), .extract (.t 18) 0, none, []⟩,
      ⟨(some 22), .extract (.t 18) 1, none, []⟩,
      ⟨(some 4), .mv (.t 21), none, []⟩,
      ⟨(some 5), .mv (.t 22), none, []⟩])
    (.seq (.ops [⟨(some 24), .mv (.t 1), none, []⟩,
      ⟨(some 25), .call (.k (.fn 29 [])) [(.t 24)], none, []⟩,
      ⟨(some 23), .mv (.t 25), none, []⟩,
      ⟨(some 26), .extract (.t 23) 0, none, []⟩,
      ⟨(some 27), .extract (.t 23) 1, none, []⟩,
      ⟨(some 6), .mv (.t 26), none, []⟩,
      ⟨(some 7), .mv (.t 27), none, []⟩])
    (.seq (.ops [⟨(some 29), .mv (.t 1), none, []⟩,
      ⟨(some 30), .call (.k (.fn 31 [])) [(.t 29), (.k (.lit .i64 1))], none, []⟩,
      ⟨(some 28), .mv (.t 30), none, []⟩,
      ⟨(some 31), .extract (.t 28) 0, none, []⟩,
      ⟨(some 32), .extract (.t 28) 1, none, []⟩,
      ⟨(some 8), .mv (.t 31), none, []⟩,
      ⟨(some 9), .mv (.t 32), none, []⟩])
    (.seq (.ops [⟨(some 33), .build [(.val (.slice none 0 0)), (.lit .i64 0)] [], none, []⟩,
      ⟨(some 34), .box 56 none (.t 33), none, []⟩,
      ⟨(some 10), .mv (.t 34), none, []⟩])
    (.seq (.ops [⟨(some 35), .mv (.t 10), none, []⟩,
      ⟨(some 36), .call (.k (.fn 23 [])) [(.t 35), (.k (.lit .u64 5)), (.k (.lit .i64 3))], none, []⟩])
    (.seq (.ops [⟨(some 37), .mv (.t 10), none, []⟩,
      ⟨(some 38), .call (.k (.fn 23 [])) [(.t 37), (.k (.lit .u64 1)), (.k (.lit .i64 6))], none, []⟩])
    (.seq (.ops [⟨(some 39), .mv (.t 2), none, []⟩,
      ⟨(some 40), .cmp .eql (.t 39) (.k (.lit .u64 4)), none, []⟩,
      ⟨(some 41), .mv (.t 40), none, []⟩,
      ⟨(some 42), .mv (.t 3), some (41, true), []⟩,
      ⟨(some 43), .cmp .eql (.t 42) (.k (.lit .i64 0)), some (41, true), []⟩,
      ⟨(some 44), .pick (.t 41) (.t 43) (.k (.bool false)), none, []⟩,
      ⟨(some 45), .mv (.t 44), none, []⟩,
      ⟨(some 46), .mv (.t 4), some (45, true), []⟩,
      ⟨(some 47), .cmp .eql (.t 46) (.k (.lit .u64 54)), some (45, true), []⟩,
      ⟨(some 48), .pick (.t 45) (.t 47) (.k (.bool false)), none, []⟩,
      ⟨(some 49), .mv (.t 48), none, []⟩,
      ⟨(some 50), .mv (.t 5), some (49, true), []⟩,
      ⟨(some 51), .cmp .eql (.t 50) (.k (.lit .i64 0)), some (49, true), []⟩,
      ⟨(some 52), .pick (.t 49) (.t 51) (.k (.bool false)), none, []⟩,
      ⟨(some 53), .mv (.t 52), none, []⟩,
      ⟨(some 54), .mv (.t 6), some (53, true), []⟩,
      ⟨(some 55), .cmp .eql (.t 54) (.k (.lit .u64 0)), some (53, true), []⟩,
      ⟨(some 56), .pick (.t 53) (.t 55) (.k (.bool false)), none, []⟩,
      ⟨(some 57), .mv (.t 56), none, []⟩,
      ⟨(some 58), .mv (.t 7), some (57, true), []⟩,
      ⟨(some 59), .cmp .eql (.t 58) (.k (.lit .i64 0)), some (57, true), []⟩,
      ⟨(some 60), .pick (.t 57) (.t 59) (.k (.bool false)), none, []⟩,
      ⟨(some 61), .mv (.t 60), none, []⟩,
      ⟨(some 62), .mv (.t 9), some (61, true), []⟩,
      ⟨(some 63), .cmp .eql (.t 62) (.k (.lit .i64 10)), some (61, true), []⟩,
      ⟨(some 64), .pick (.t 61) (.t 63) (.k (.bool false)), none, []⟩,
      ⟨(some 65), .mv (.t 64), none, []⟩,
      ⟨(some 66), .mv (.t 10), some (65, true), []⟩,
      ⟨(some 67), .call (.k (.fn 25 [])) [(.t 66)], some (65, true), []⟩,
      ⟨(some 68), .bstr (.t 67), some (65, true), []⟩,
      ⟨(some 69), .eqv false 1 (.t 68) (.k (.str [13, 0])), some (65, true), []⟩,
      ⟨(some 70), .pick (.t 65) (.t 69) (.k (.bool false)), none, []⟩,
      ⟨(some 0), .mv (.t 70), none, []⟩])
    (.ret))))))))))
theorem fn27 : FnOk Try.prog 27 x27 71 [0] := FnOk.of Try.call27 Try.func27 (by kernel_rfl) Try.ntmps27 (by kernel_rfl)
/-- baler/bits.New -/
def x28 : XC :=
  .seq (.ops [⟨(some 2), .mv (.k (.val (.pointer none))), none, []⟩])
    (.seq (.ops [⟨(some 5), .bsliceI 5 .u8 0 [], none, []⟩,
      ⟨(some 6), .mv (.t 0), none, []⟩,
      ⟨(some 7), .appI 5 .u8 1 (.t 5) (.t 6), none, []⟩,
      ⟨(some 3), .newR 22 [(.val (.slice none 0 0))], none, []⟩,
      ⟨none, .store1 (.t 3) (.t 7), none, []⟩])
    (.seq (.ops [⟨(some 4), .newR 3 [(.lit .i64 0)], none, []⟩,
      ⟨none, .store1 (.t 4) (.k (.lit .i64 0)), none, []⟩])
    (.seq (.ops [⟨(some 8), .mkfn 38 [(.t 4), (.t 3)], none, []⟩,
      ⟨(some 9), .mkfn 39 [(.t 3), (.t 4)], none, []⟩,
      ⟨(some 10), .build [(.val .nilFunc), (.lit .u64 0), (.lit .i64 0), (.val .nilFunc)] [⟨0, 1, (.t 8)⟩, ⟨3, 1, (.t 9)⟩], none, []⟩,
      ⟨(some 11), .box 83 none (.t 10), none, []⟩,
      ⟨(some 2), .mv (.t 11), none, []⟩])
    (.ret))))
theorem fn28 : FnOk Try.prog 28 x28 12 [2] := FnOk.of Try.call28 Try.func28 (by kernel_rfl) Try.ntmps28 (by kernel_rfl)
/-- (*baler/bits.Reader).Align -/
def x29 : XC :=
  .seq (.ops [⟨(some 2), .mv (.k (.lit .u64 0)), none, []⟩,
      ⟨(some 3), .mv (.k (.lit .i64 0)), none, []⟩])
    (.seq (.seq (.ops [⟨(some 4), .mv (.t 0), none, []⟩,
      ⟨(some 5), .eqv false 2 (.t 4) (.k (.val (.pointer none))), none, []⟩])
    (.cond (.t 5) (.seq (.ops [⟨(some 2), .mv (.k (.lit .u64 0)), none, []⟩,
      ⟨(some 3), .mv (.k (.lit .i64 1)), none, []⟩])
    (.ret)) (.skip)))
    (.seq (.ops [⟨(some 6), .mv (.t 0), none, []⟩,
      ⟨(some 7), .mv (.t 0), none, []⟩,
      ⟨(some 8), .nilchk (.t 7), none, []⟩,
      ⟨(some 9), .fadr 2 (.t 8), none, []⟩,
      ⟨(some 10), .load1 (.t 9), none, []⟩,
      ⟨(some 11), .bin .rem .i64 (.t 10) (.k (.lit .i64 8)), none, []⟩,
      ⟨(some 12), .call (.k (.fn 31 [])) [(.t 6), (.t 11)], none, []⟩,
      ⟨(some 13), .extract (.t 12) 0, none, []⟩,
      ⟨(some 14), .extract (.t 12) 1, none, []⟩,
      ⟨(some 2), .mv (.t 13), none, []⟩,
      ⟨(some 3), .mv (.t 14), none, []⟩])
    (.ret)))
theorem fn29 : FnOk Try.prog 29 x29 15 [2, 3] := FnOk.of Try.call29 Try.func29 (by kernel_rfl) Try.ntmps29 (by kernel_rfl)
/-- (*baler/balerref01.R).Align -/
def x30 : XC :=
  .seq (.ops [⟨(some 2), .mv (.k (.lit .u64 0)), none, []⟩,
      ⟨(some 3), .mv (.k (.lit .i64 0)), none, []⟩])
    (.seq (.ops [⟨(some 4), .mv (.t 0), none, []⟩,
      ⟨(some 5), .mv (.t 0), none, []⟩,
      ⟨(some 6), .nilchk (.t 5), none, []⟩,
      ⟨(some 7), .fadr 1 (.t 6), none, []⟩,
      ⟨(some 8), .load1 (.t 7), none, []⟩,
      ⟨(some 9), .bin .rem .i64 (.t 8) (.k (.lit .i64 8)), none, []⟩,
      ⟨(some 10), .bin .sub .i64 (.k (.lit .i64 8)) (.t 9), none, []⟩,
      ⟨(some 11), .bin .rem .i64 (.t 10) (.k (.lit .i64 8)), none, []⟩,
      ⟨(some 12), .call (.k (.fn 32 [])) [(.t 4), (.t 11)], none, []⟩,
      ⟨(some 13), .extract (.t 12) 0, none, []⟩,
      ⟨(some 14), .extract (.t 12) 1, none, []⟩,
      ⟨(some 2), .mv (.t 13), none, []⟩,
      ⟨(some 3), .mv (.t 14), none, []⟩])
    (.ret))
theorem fn30 : FnOk Try.prog 30 x30 15 [2, 3] := FnOk.of Try.call30 Try.func30 (by kernel_rfl) Try.ntmps30 (by kernel_rfl)
/-- (*baler/bits.Reader).Bits -/
def x31 : XC :=
  .seq (.ops [⟨(some 4), .mv (.k (.lit .u64 0)), none, []⟩,
      ⟨(some 5), .mv (.k (.lit .i64 0)), none, []⟩])
    (.seq (.block 0 (.seq (.ops [⟨(some 8), .mv (.t 0), none, []⟩,
      ⟨(some 9), .eqv false 2 (.t 8) (.k (.val (.pointer none))), none, []⟩,
      ⟨(some 7), .mv (.t 9), none, []⟩])
    (.cond (.t 7) (.seq (.ops [⟨(some 4), .mv (.k (.lit .u64 0)), none, []⟩,
      ⟨(some 5), .mv (.k (.lit .i64 1)), none, []⟩])
    (.ret)) (.seq (.ops [⟨(some 11), .mv (.t 1), none, []⟩,
      ⟨(some 12), .cmp .lss (.t 11) (.k (.lit .i64 0)), none, []⟩,
      ⟨(some 13), .mv (.t 12), none, []⟩,
      ⟨(some 14), .mv (.t 1), some (13, false), []⟩,
      ⟨(some 15), .cmp .gtr (.t 14) (.k (.lit .i64 56)), some (13, false), []⟩,
      ⟨(some 16), .pick (.t 13) (.k (.bool true)) (.t 15), none, []⟩,
      ⟨(some 10), .mv (.t 16), none, []⟩])
    (.cond (.t 10) (.seq (.ops [⟨(some 4), .mv (.k (.lit .u64 0)), none, []⟩,
      ⟨(some 5), .mv (.k (.lit .i64 2)), none, []⟩])
    (.ret)) (.seq (.ops [⟨(some 18), .mv (.t 0), none, []⟩,
      ⟨(some 19), .mv (.t 1), none, []⟩,
      ⟨(some 20), .call (.k (.fn 40 [])) [(.t 18), (.t 19)], none, []⟩,
      ⟨(some 21), .not (.t 20), none, []⟩,
      ⟨(some 17), .mv (.t 21), none, []⟩])
    (.cond (.t 17) (.seq (.ops [⟨(some 4), .mv (.k (.lit .u64 0)), none, []⟩,
      ⟨(some 5), .mv (.k (.lit .i64 10)), none, []⟩])
    (.ret)) (.skip))))))))
    (.seq (.ops [⟨(some 22), .mv (.t 0), none, []⟩,
      ⟨(some 23), .nilchk (.t 22), none, []⟩,
      ⟨(some 24), .fadr 1 (.t 23), none, []⟩,
      ⟨(some 25), .load1 (.t 24), none, []⟩,
      ⟨(some 26), .mv (.t 1), none, []⟩,
      ⟨(some 27), .conv .u64 (.t 26), none, []⟩,
      ⟨(some 28), .bin .shl .u64 (.k (.lit .u64 1)) (.t 27), none, []⟩,
      ⟨(some 29), .bin .sub .u64 (.t 28) (.k (.lit .u64 1)), none, []⟩,
      ⟨(some 30), .bin .and .u64 (.t 25) (.t 29), none, []⟩,
      ⟨(some 6), .mv (.t 30), none, []⟩])
    (.seq (.ops [⟨(some 31), .mv (.t 0), none, []⟩,
      ⟨(some 32), .nilchk (.t 31), none, []⟩,
      ⟨(some 33), .fadr 1 (.t 32), none, []⟩,
      ⟨(some 34), .load1 (.t 33), none, []⟩,
      ⟨(some 35), .mv (.t 1), none, []⟩,
      ⟨(some 36), .conv .u64 (.t 35), none, []⟩,
      ⟨(some 37), .bin .shr .u64 (.t 34) (.t 36), none, []⟩,
      ⟨(some 38), .nilchk (.t 31), none, []⟩,
      ⟨(some 39), .fadr 1 (.t 38), none, []⟩,
      ⟨none, .store1 (.t 39) (.t 37), none, []⟩])
    (.seq (.ops [⟨(some 40), .mv (.t 0), none, []⟩,
      ⟨(some 41), .nilchk (.t 40), none, []⟩,
      ⟨(some 42), .fadr 2 (.t 41), none, []⟩,
      ⟨(some 43), .load1 (.t 42), none, []⟩,
      ⟨(some 44), .mv (.t 1), none, []⟩,
      ⟨(some 45), .bin .sub .i64 (.t 43) (.t 44), none, []⟩,
      ⟨(some 46), .nilchk (.t 40), none, []⟩,
      ⟨(some 47), .fadr 2 (.t 46), none, []⟩,
      ⟨none, .store1 (.t 47) (.t 45), none, []⟩])
    (.seq (.ops [⟨(some 48), .mv (.t 6), none, []⟩,
      ⟨(some 4), .mv (.t 48), none, []⟩,
      ⟨(some 5), .mv (.k (.lit .i64 0)), none, []⟩])
    (.ret))))))
theorem fn31 : FnOk Try.prog 31 x31 49 [4, 5] := FnOk.of Try.call31 Try.func31 (by kernel_rfl) Try.ntmps31 (by kernel_rfl)
/-- (*baler/balerref01.R).Bits -/
def x32 : XC :=
  .seq (.ops [⟨(some 4), .mv (.k (.lit .u64 0)), none, []⟩,
      ⟨(some 5), .mv (.k (.lit .i64 0)), none, []⟩])
    (.seq (.seq (.ops [⟨(some 8), .mv (.t 1), none, []⟩,
      ⟨(some 9), .cmp .lss (.t 8) (.k (.lit .i64 0)), none, []⟩,
      ⟨(some 10), .mv (.t 9), none, []⟩,
      ⟨(some 11), .mv (.t 1), some (10, false), []⟩,
      ⟨(some 12), .cmp .gtr (.t 11) (.k (.lit .i64 56)), some (10, false), []⟩,
      ⟨(some 13), .pick (.t 10) (.k (.bool true)) (.t 12), none, []⟩])
    (.cond (.t 13) (.seq (.ops [⟨(some 4), .mv (.k (.lit .u64 0)), none, []⟩,
      ⟨(some 5), .mv (.k (.lit .i64 2)), none, []⟩])
    (.ret)) (.skip)))
    (.seq (.seq (.ops [⟨(some 14), .mv (.t 0), none, []⟩,
      ⟨(some 15), .call (.k (.fn 34 [])) [(.t 14)], none, []⟩,
      ⟨(some 16), .mv (.t 1), none, []⟩,
      ⟨(some 17), .cmp .lss (.t 15) (.t 16), none, []⟩])
    (.cond (.t 17) (.seq (.ops [⟨(some 4), .mv (.k (.lit .u64 0)), none, []⟩,
      ⟨(some 5), .mv (.k (.lit .i64 10)), none, []⟩])
    (.ret)) (.skip)))
    (.seq (.ops [⟨(some 6), .mv (.k (.lit .u64 0)), none, []⟩])
    (.seq (.seq (.ops [⟨(some 7), .mv (.k (.lit .i64 0)), none, []⟩])
    (.block 0 (.loop (.seq (.seq (.ops [⟨(some 18), .mv (.t 7), none, []⟩,
      ⟨(some 19), .mv (.t 1), none, []⟩,
      ⟨(some 20), .cmp .lss (.t 18) (.t 19), none, []⟩])
    (.cond (.t 20) (.skip) (.exit 0)))
    (.seq (.block 1 (.ops [⟨(some 23), .mv (.t 6), none, []⟩,
      ⟨(some 24), .mv (.t 0), none, []⟩,
      ⟨(some 25), .mv (.t 0), none, []⟩,
      ⟨(some 26), .nilchk (.t 25), none, []⟩,
      ⟨(some 27), .fadr 1 (.t 26), none, []⟩,
      ⟨(some 28), .load1 (.t 27), none, []⟩,
      ⟨(some 29), .mv (.t 7), none, []⟩,
      ⟨(some 30), .bin .add .i64 (.t 28) (.t 29), none, []⟩,
      ⟨(some 31), .call (.k (.fn 41 [])) [(.t 24), (.t 30)], none, []⟩,
      ⟨(some 32), .mv (.t 7), none, []⟩,
      ⟨(some 33), .conv .u64 (.t 32), none, []⟩,
      ⟨(some 34), .bin .shl .u64 (.t 31) (.t 33), none, []⟩,
      ⟨(some 35), .bin .or .u64 (.t 23) (.t 34), none, []⟩,
      ⟨(some 6), .mv (.t 35), none, []⟩]))
    (.ops [⟨(some 21), .mv (.t 7), none, []⟩,
      ⟨(some 22), .bin .add .i64 (.t 21) (.k (.lit .i64 1)), none, []⟩,
      ⟨(some 7), .mv (.t 22), none, []⟩]))))))
    (.seq (.ops [⟨(some 36), .mv (.t 0), none, []⟩,
      ⟨(some 37), .nilchk (.t 36), none, []⟩,
      ⟨(some 38), .fadr 1 (.t 37), none, []⟩,
      ⟨(some 39), .load1 (.t 38), none, []⟩,
      ⟨(some 40), .mv (.t 1), none, []⟩,
      ⟨(some 41), .bin .add .i64 (.t 39) (.t 40), none, []⟩,
      ⟨(some 42), .nilchk (.t 36), none, []⟩,
      ⟨(some 43), .fadr 1 (.t 42), none, []⟩,
      ⟨none, .store1 (.t 43) (.t 41), none, []⟩])
    (.seq (.ops [⟨(some 44), .mv (.t 6), none, []⟩,
      ⟨(some 4), .mv (.t 44), none, []⟩,
      ⟨(some 5), .mv (.k (.lit .i64 0)), none, []⟩])
    (.ret)))))))
theorem fn32 : FnOk Try.prog 32 x32 45 [4, 5] := FnOk.of Try.call32 Try.func32 (by kernel_rfl) Try.ntmps32 (by kernel_rfl)
/-- (*baler/bits.Reader).Left -/
def x33 : XC :=
  .seq (.ops [⟨(some 2), .mv (.k (.lit .i64 0)), none, []⟩])
    (.seq (.seq (.ops [⟨(some 3), .mv (.t 0), none, []⟩,
      ⟨(some 4), .eqv false 2 (.t 3) (.k (.val (.pointer none))), none, []⟩])
    (.cond (.t 4) (.seq (.ops [⟨(some 2), .mv (.k (.lit .i64 0)), none, []⟩])
    (.ret)) (.skip)))
    (.seq (.ops [⟨(some 5), .mv (.t 0), none, []⟩,
      ⟨(some 6), .nilchk (.t 5), none, []⟩,
      ⟨(some 7), .fadr 2 (.t 6), none, []⟩,
      ⟨(some 8), .load1 (.t 7), none, []⟩,
      ⟨(some 9), .mv (.t 0), none, []⟩,
      ⟨(some 10), .nilchk (.t 9), none, []⟩,
      ⟨(some 11), .fadr 3 (.t 10), none, []⟩,
      ⟨(some 12), .load1 (.t 11), none, []⟩,
      ⟨(some 13), .call (.t 12) [], none, [(.load1 (.t 7), 8, none)]⟩,
      ⟨(some 14), .bin .add .i64 (.t 8) (.t 13), none, []⟩,
      ⟨(some 2), .mv (.t 14), none, []⟩])
    (.ret)))
theorem fn33 : FnOk Try.prog 33 x33 15 [2] := FnOk.of Try.call33 Try.func33 (by kernel_rfl) Try.ntmps33 (by kernel_rfl)
/-- (*baler/balerref01.R).Left -/
def x34 : XC :=
  .seq (.ops [⟨(some 2), .mv (.k (.lit .i64 0)), none, []⟩])
    (.seq (.ops [⟨(some 3), .mv (.t 0), none, []⟩,
      ⟨(some 4), .nilchk (.t 3), none, []⟩,
      ⟨(some 5), .fadr 0 (.t 4), none, []⟩,
      ⟨(some 6), .load1 (.t 5), none, []⟩,
      ⟨(some 7), .len (.t 6), none, []⟩,
      ⟨(some 8), .bin .mul .i64 (.k (.lit .i64 8)) (.t 7), none, []⟩,
      ⟨(some 9), .mv (.t 0), none, []⟩,
      ⟨(some 10), .nilchk (.t 9), none, []⟩,
      ⟨(some 11), .fadr 1 (.t 10), none, []⟩,
      ⟨(some 12), .load1 (.t 11), none, []⟩,
      ⟨(some 13), .bin .sub .i64 (.t 8) (.t 12), none, []⟩,
      ⟨(some 2), .mv (.t 13), none, []⟩])
    (.ret))
theorem fn34 : FnOk Try.prog 34 x34 14 [2] := FnOk.of Try.call34 Try.func34 (by kernel_rfl) Try.ntmps34 (by kernel_rfl)
/-- math/bits.Len8 -/
def x35 : XC :=
  .seq (.ops [⟨(some 2), .mv (.k (.lit .i64 0)), none, []⟩])
    (.seq (.ops [⟨(some 3), .mv (.t 0), none, []⟩,
      ⟨(some 4), .idxS (.k (.str [0, 1, 2, 2, 3, 3, 3, 3, 4, 4, 4, 4, 4, 4, 4, 4, 5, 5, 5, 5, 5, 5, 5, 5, 5, 5, 5, 5, 5, 5, 5, 5, 6, 6, 6, 6, 6, 6, 6, 6, 6, 6, 6, 6, 6, 6, 6, 6, 6, 6, 6, 6, 6, 6, 6, 6, 6, 6, 6, 6, 6, 6, 6, 6, 7, 7, 7, 7, 7, 7, 7, 7, 7, 7, 7, 7, 7, 7, 7, 7, 7, 7, 7, 7, 7, 7, 7, 7, 7, 7, 7, 7, 7, 7, 7, 7, 7, 7, 7, 7, 7, 7, 7, 7, 7, 7, 7, 7, 7, 7, 7, 7, 7, 7, 7, 7, 7, 7, 7, 7, 7, 7, 7, 7, 7, 7, 7, 7, 8, 8, 8, 8, 8, 8, 8, 8, 8, 8, 8, 8, 8, 8, 8, 8, 8, 8, 8, 8, 8, 8, 8, 8, 8, 8, 8, 8, 8, 8, 8, 8, 8, 8, 8, 8, 8, 8, 8, 8, 8, 8, 8, 8, 8, 8, 8, 8, 8, 8, 8, 8, 8, 8, 8, 8, 8, 8, 8, 8, 8, 8, 8, 8, 8, 8, 8, 8, 8, 8, 8, 8, 8, 8, 8, 8, 8, 8, 8, 8, 8, 8, 8, 8, 8, 8, 8, 8, 8, 8, 8, 8, 8, 8, 8, 8, 8, 8, 8, 8, 8, 8, 8, 8, 8, 8, 8, 8, 8, 8, 8, 8, 8, 8, 8, 8, 8, 8, 8, 8, 8, 8, 8, 8, 8, 8, 8, 8])) (.t 3), none, []⟩,
      ⟨(some 5), .conv .i64 (.t 4), none, []⟩,
      ⟨(some 2), .mv (.t 5), none, []⟩])
    (.ret))
theorem fn35 : FnOk Try.prog 35 x35 6 [2] := FnOk.of Try.call35 Try.func35 (by kernel_rfl) Try.ntmps35 (by kernel_rfl)
/-- baler/tail.each -/
def x36 : XC :=
  .seq (.ops [⟨(some 2), .box 32 none (.t 0), none, []⟩,
      ⟨(some 3), .box 3 none (.t 1), none, []⟩,
      ⟨(some 4), .mv (.k (.val .nilFunc)), none, []⟩])
    (.seq (.ops [⟨(some 5), .mkfn 42 [(.t 3), (.t 2)], none, []⟩,
      ⟨(some 4), .mv (.t 5), none, []⟩])
    (.ret))
theorem fn36 : FnOk Try.prog 36 x36 6 [4] := FnOk.of Try.call36 Try.func36 (by kernel_rfl) Try.ntmps36 (by kernel_rfl)
/-- baler/bits.each -/
def x37 : XC :=
  .seq (.ops [⟨(some 2), .box 32 none (.t 0), none, []⟩,
      ⟨(some 3), .box 3 none (.t 1), none, []⟩,
      ⟨(some 4), .mv (.k (.val .nilFunc)), none, []⟩])
    (.seq (.ops [⟨(some 5), .mkfn 43 [(.t 3), (.t 2)], none, []⟩,
      ⟨(some 4), .mv (.t 5), none, []⟩])
    (.ret))
theorem fn37 : FnOk Try.prog 37 x37 6 [4] := FnOk.of Try.call37 Try.func37 (by kernel_rfl) Try.ntmps37 (by kernel_rfl)
/-- baler/bits.New$1 -/
def x38 : XC :=
  .seq (.ops [⟨(some 2), .mv (.k (.lit .u8 0)), none, []⟩,
      ⟨(some 3), .mv (.k (.bool false)), none, []⟩])
    (.seq (.seq (.ops [⟨(some 4), .load1 (.t 0), none, []⟩,
      ⟨(some 5), .load1 (.t 1), none, []⟩,
      ⟨(some 6), .len (.t 5), none, []⟩,
      ⟨(some 7), .cmp .geq (.t 4) (.t 6), none, []⟩])
    (.cond (.t 7) (.seq (.ops [⟨(some 2), .mv (.k (.lit .u8 0)), none, []⟩,
      ⟨(some 3), .mv (.k (.bool false)), none, []⟩])
    (.ret)) (.skip)))
    (.seq (.ops [⟨(some 8), .load1 (.t 0), none, []⟩,
      ⟨(some 9), .bin .add .i64 (.t 8) (.k (.lit .i64 1)), none, []⟩,
      ⟨none, .store1 (.t 0) (.t 9), none, []⟩])
    (.seq (.ops [⟨(some 10), .load1 (.t 1), none, []⟩,
      ⟨(some 11), .load1 (.t 0), none, []⟩,
      ⟨(some 12), .bin .sub .i64 (.t 11) (.k (.lit .i64 1)), none, []⟩,
      ⟨(some 13), .iadr 1 (.t 10) (.t 12), none, []⟩,
      ⟨(some 14), .load1 (.t 13), none, []⟩,
      ⟨(some 2), .mv (.t 14), none, []⟩,
      ⟨(some 3), .mv (.k (.bool true)), none, []⟩])
    (.ret))))
theorem fn38 : FnOk Try.prog 38 x38 15 [2, 3] := FnOk.of Try.call38 Try.func38 (by kernel_rfl) Try.ntmps38 (by kernel_rfl)
/-- baler/bits.New$2 -/
def x39 : XC :=
  .seq (.ops [⟨(some 2), .mv (.k (.lit .i64 0)), none, []⟩])
    (.seq (.ops [⟨(some 3), .load1 (.t 0), none, []⟩,
      ⟨(some 4), .len (.t 3), none, []⟩,
      ⟨(some 5), .load1 (.t 1), none, []⟩,
      ⟨(some 6), .bin .sub .i64 (.t 4) (.t 5), none, []⟩,
      ⟨(some 7), .bin .mul .i64 (.k (.lit .i64 8)) (.t 6), none, []⟩,
      ⟨(some 2), .mv (.t 7), none, []⟩])
    (.ret))
theorem fn39 : FnOk Try.prog 39 x39 8 [2] := FnOk.of Try.call39 Try.func39 (by kernel_rfl) Try.ntmps39 (by kernel_rfl)
/-- (*baler/bits.Reader).fill -/
def x40 : XC :=
  .seq (.ops [⟨(some 4), .mv (.k (.bool false)), none, []⟩])
    (.seq (.block 0 (.loop (.seq (.seq (.ops [⟨(some 7), .mv (.t 0), none, []⟩,
      ⟨(some 8), .nilchk (.t 7), none, []⟩,
      ⟨(some 9), .fadr 2 (.t 8), none, []⟩,
      ⟨(some 10), .load1 (.t 9), none, []⟩,
      ⟨(some 11), .mv (.t 1), none, []⟩,
      ⟨(some 12), .cmp .lss (.t 10) (.t 11), none, []⟩])
    (.cond (.t 12) (.skip) (.exit 0)))
    (.block 1 (.seq (.ops [⟨(some 14), .mv (.t 0), none, []⟩,
      ⟨(some 15), .nilchk (.t 14), none, []⟩,
      ⟨(some 16), .fadr 0 (.t 15), none, []⟩,
      ⟨(some 17), .load1 (.t 16), none, []⟩,
      ⟨(some 18), .call (.t 17) [], none, []⟩,
      ⟨(some 13), .mv (.t 18), none, []⟩,
      ⟨(some 19), .extract (.t 13) 0, none, []⟩,
      ⟨(some 20), .extract (.t 13) 1, none, []⟩,
      ⟨(some 5), .mv (.t 19), none, []⟩,
      ⟨(some 6), .mv (.t 20), none, []⟩])
    (.seq (.seq (.ops [⟨(some 21), .mv (.t 6), none, []⟩,
      ⟨(some 22), .not (.t 21), none, []⟩])
    (.cond (.t 22) (.seq (.ops [⟨(some 4), .mv (.k (.bool false)), none, []⟩])
    (.ret)) (.skip)))
    (.seq (.ops [⟨(some 23), .mv (.t 0), none, []⟩,
      ⟨(some 24), .nilchk (.t 23), none, []⟩,
      ⟨(some 25), .fadr 1 (.t 24), none, []⟩,
      ⟨(some 26), .load1 (.t 25), none, []⟩,
      ⟨(some 27), .mv (.t 5), none, []⟩,
      ⟨(some 28), .conv .u64 (.t 27), none, []⟩,
      ⟨(some 29), .mv (.t 0), none, []⟩,
      ⟨(some 30), .nilchk (.t 29), none, []⟩,
      ⟨(some 31), .fadr 2 (.t 30), none, []⟩,
      ⟨(some 32), .load1 (.t 31), none, []⟩,
      ⟨(some 33), .conv .u64 (.t 32), none, []⟩,
      ⟨(some 34), .bin .shl .u64 (.t 28) (.t 33), none, []⟩,
      ⟨(some 35), .bin .or .u64 (.t 26) (.t 34), none, []⟩,
      ⟨(some 36), .nilchk (.t 23), none, []⟩,
      ⟨(some 37), .fadr 1 (.t 36), none, []⟩,
      ⟨none, .store1 (.t 37) (.t 35), none, []⟩])
    (.ops [⟨(some 38), .mv (.t 0), none, []⟩,
      ⟨(some 39), .nilchk (.t 38), none, []⟩,
      ⟨(some 40), .fadr 2 (.t 39), none, []⟩,
      ⟨(some 41), .load1 (.t 40), none, []⟩,
      ⟨(some 42), .bin .add .i64 (.t 41) (.k (.lit .i64 8)), none, []⟩,
      ⟨(some 43), .nilchk (.t 38), none, []⟩,
      ⟨(some 44), .fadr 2 (.t 43), none, []⟩,
      ⟨none, .store1 (.t 44) (.t 42), none, []⟩]))))))))
    (.seq (.ops [⟨(some 4), .mv (.k (.bool true)), none, []⟩])
    (.ret)))
theorem fn40 : FnOk Try.prog 40 x40 45 [4] := FnOk.of Try.call40 Try.func40 (by kernel_rfl) Try.ntmps40 (by kernel_rfl)
/-- (*baler/balerref01.R).bit -/
def x41 : XC :=
  .seq (.ops [⟨(some 4), .mv (.k (.lit .u64 0)), none, []⟩])
    (.seq (.ops [⟨(some 5), .mv (.t 0), none, []⟩,
      ⟨(some 6), .nilchk (.t 5), none, []⟩,
      ⟨(some 7), .fadr 0 (.t 6), none, []⟩,
      ⟨(some 8), .load1 (.t 7), none, []⟩,
      ⟨(some 9), .mv (.t 1), none, []⟩,
      ⟨(some 10), .bin .quo .i64 (.t 9) (.k (.lit .i64 8)), none, []⟩,
      ⟨(some 11), .iadr 1 (.t 8) (.t 10), none, []⟩,
      ⟨(some 12), .load1 (.t 11), none, []⟩,
      ⟨(some 13), .mv (.t 1), none, []⟩,
      ⟨(some 14), .bin .rem .i64 (.t 13) (.k (.lit .i64 8)), none, []⟩,
      ⟨(some 15), .conv .u64 (.t 14), none, []⟩,
      ⟨(some 16), .bin .shr .u8 (.t 12) (.t 15), none, []⟩,
      ⟨(some 17), .conv .u64 (.t 16), none, []⟩,
      ⟨(some 18), .bin .and .u64 (.t 17) (.k (.lit .u64 1)), none, []⟩,
      ⟨(some 4), .mv (.t 18), none, []⟩])
    (.ret))
theorem fn41 : FnOk Try.prog 41 x41 19 [4] := FnOk.of Try.call41 Try.func41 (by kernel_rfl) Try.ntmps41 (by kernel_rfl)
/-- baler/tail.each$1 -/
def x42 : XC :=
  .seq (.ops [⟨(some 5), .load1 (.t 1), none, []⟩,
      ⟨(some 6), .mv (.k (.lit .i64 0)), none, []⟩])
    (.block 0 (.loop (.seq (.ops [⟨(some 7), .cmp .lss (.t 6) (.t 5), none, []⟩])
    (.seq (.cond (.t 7) (.skip) (.exit 0))
    (.seq (.block 1 (.seq (.ops [⟨(some 8), .mv (.t 6), none, []⟩,
      ⟨(some 4), .mv (.t 8), none, []⟩])
    (.seq (.ops [⟨(some 9), .mv (.t 0), none, []⟩,
      ⟨(some 10), .mv (.t 4), none, []⟩,
      ⟨(some 11), .load1 (.t 2), none, []⟩,
      ⟨(some 12), .mv (.t 4), none, []⟩,
      ⟨(some 13), .conv .u64 (.t 12), none, []⟩,
      ⟨(some 14), .bin .shr .u64 (.t 11) (.t 13), none, []⟩,
      ⟨(some 15), .bin .and .u64 (.t 14) (.k (.lit .u64 1)), none, []⟩,
      ⟨(some 16), .conv .u8 (.t 15), none, []⟩,
      ⟨(some 17), .call (.t 9) [(.t 10), (.t 16)], none, []⟩,
      ⟨(some 18), .not (.t 17), none, []⟩])
    (.cond (.t 18) (.ret) (.skip)))))
    (.ops [⟨(some 19), .bin .add .i64 (.t 6) (.k (.lit .i64 1)), none, []⟩,
      ⟨(some 6), .mv (.t 19), none, []⟩]))))))
theorem fn42 : FnOk Try.prog 42 x42 20 [] := FnOk.of Try.call42 Try.func42 (by kernel_rfl) Try.ntmps42 (by kernel_rfl)
/-- baler/bits.each$1 -/
def x43 : XC :=
  .block 0 (.loop (.seq (.seq (.ops [⟨(some 4), .load1 (.t 1), none, []⟩,
      ⟨(some 5), .cmp .gtr (.t 4) (.k (.lit .i64 0)), none, []⟩])
    (.cond (.t 5) (.skip) (.exit 0)))
    (.seq (.block 1 (.seq (.seq (.ops [⟨(some 8), .mv (.t 0), none, []⟩,
      ⟨(some 9), .load1 (.t 2), none, []⟩,
      ⟨(some 10), .bin .and .u64 (.t 9) (.k (.lit .u64 1)), none, []⟩,
      ⟨(some 11), .conv .u8 (.t 10), none, []⟩,
      ⟨(some 12), .call (.t 8) [(.t 11)], none, []⟩,
      ⟨(some 13), .not (.t 12), none, []⟩])
    (.cond (.t 13) (.ret) (.skip)))
    (.ops [⟨(some 14), .load1 (.t 2), none, []⟩,
      ⟨(some 15), .bin .shr .u64 (.t 14) (.k (.lit .u64 1)), none, []⟩,
      ⟨none, .store1 (.t 2) (.t 15), none, []⟩])))
    (.ops [⟨(some 6), .load1 (.t 1), none, []⟩,
      ⟨(some 7), .bin .sub .i64 (.t 6) (.k (.lit .i64 1)), none, []⟩,
      ⟨none, .store1 (.t 1) (.t 7), none, []⟩]))))
theorem fn43 : FnOk Try.prog 43 x43 16 [] := FnOk.of Try.call43 Try.func43 (by kernel_rfl) Try.ntmps43 (by kernel_rfl)
end Go.Proofs.Ytgbnngjmjimhiaa
