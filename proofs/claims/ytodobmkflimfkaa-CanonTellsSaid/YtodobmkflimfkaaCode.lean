import Derived.Test.YtodobmkflimfkaaEB
import Derived.Test.YtodobmkflimfkaaRows
/-
  The compact codes of this seat's functions (printed by wip/dev/Pr.lean.tpl), checked.
-/
namespace Go.Proofs.Ytodobmkflimfkaa
open Go Go.Sx Go.Proofs
/-- baler/balerlaw07.StatesWrite -/
def x4 : XC :=
  .seq (.ops [⟨(some 4), .mv (.k (.bool false)), none, []⟩])
    (.seq (.ops [⟨(some 14), .mv (.t 0), none, []⟩,
      ⟨(some 15), .mv (.t 1), none, []⟩,
      ⟨(some 16), .call (.k (.fn 21 [])) [(.t 14), (.t 15)], none, []⟩,
      ⟨(some 13), .mv (.t 16), none, []⟩,
      ⟨(some 17), .extract (.t 13) 0, none, []⟩,
      ⟨(some 18), .extract (.t 13) 1, none, []⟩,
      ⟨(some 5), .mv (.t 17), none, []⟩,
      ⟨(some 6), .mv (.t 18), none, []⟩])
    (.seq (.ops [⟨(some 20), .mv (.t 0), none, []⟩,
      ⟨(some 21), .mv (.t 1), none, []⟩,
      ⟨(some 22), .call (.k (.fn 22 [])) [(.t 20), (.t 21)], none, []⟩,
      ⟨(some 19), .mv (.t 22), none, []⟩,
      ⟨(some 23), .extract (.t 19) 0, none, []⟩,
      ⟨(some 24), .extract (.t 19) 1, none, []⟩,
      ⟨(some 7), .mv (.t 23), none, []⟩,
      ⟨(some 8), .mv (.t 24), none, []⟩])
    (.seq (.ops [⟨(some 26), .mv (.t 0), none, []⟩,
      ⟨(some 27), .mv (.t 1), none, []⟩,
      ⟨(some 28), .call (.k (.fn 23 [])) [(.t 26), (.t 27)], none, []⟩,
      ⟨(some 25), .mv (.t 28), none, []⟩,
      ⟨(some 29), .extract (.t 25) 0, none, []⟩,
      ⟨(some 30), .extract (.t 25) 1, none, []⟩,
      ⟨(some 9), .mv (.t 29), none, []⟩,
      ⟨(some 10), .mv (.t 30), none, []⟩])
    (.seq (.ops [⟨(some 32), .mv (.t 0), none, []⟩,
      ⟨(some 33), .mv (.t 1), none, []⟩,
      ⟨(some 34), .call (.k (.fn 24 [])) [(.t 32), (.t 33)], none, []⟩,
      ⟨(some 31), .mv (.t 34), none, []⟩,
      ⟨(some 35), .extract (.t 31) 0, none, []⟩,
      ⟨(some 36), .extract (.t 31) 1, none, []⟩,
      ⟨(some 11), .mv (.t 35), none, []⟩,
      ⟨(some 12), .mv (.t 36), none, []⟩])
    (.seq (.ops [⟨(some 37), .mv (.t 6), none, []⟩,
      ⟨(some 38), .mv (.t 8), none, []⟩,
      ⟨(some 39), .cmp .eql (.t 37) (.t 38), none, []⟩,
      ⟨(some 40), .mv (.t 39), none, []⟩,
      ⟨(some 41), .mv (.t 5), some (40, true), []⟩,
      ⟨(some 42), .bstr (.t 41), some (40, true), []⟩,
      ⟨(some 43), .mv (.t 7), some (40, true), []⟩,
      ⟨(some 44), .bstr (.t 43), some (40, true), []⟩,
      ⟨(some 45), .eqv false 1 (.t 42) (.t 44), some (40, true), []⟩,
      ⟨(some 46), .pick (.t 40) (.t 45) (.k (.bool false)), none, []⟩,
      ⟨(some 47), .mv (.t 46), none, []⟩,
      ⟨(some 48), .mv (.t 10), some (47, true), []⟩,
      ⟨(some 49), .mv (.t 12), some (47, true), []⟩,
      ⟨(some 50), .cmp .eql (.t 48) (.t 49), some (47, true), []⟩,
      ⟨(some 51), .pick (.t 47) (.t 50) (.k (.bool false)), none, []⟩,
      ⟨(some 52), .mv (.t 51), none, []⟩,
      ⟨(some 53), .mv (.t 9), some (52, true), []⟩,
      ⟨(some 54), .mv (.t 11), some (52, true), []⟩,
      ⟨(some 55), .call (.k (.fn 25 [])) [(.t 53), (.t 54)], some (52, true), []⟩,
      ⟨(some 56), .pick (.t 52) (.t 55) (.k (.bool false)), none, []⟩,
      ⟨(some 57), .mv (.t 56), none, []⟩,
      ⟨(some 58), .call (.k (.fn 26 [])) [], some (57, true), []⟩,
      ⟨(some 59), .pick (.t 57) (.t 58) (.k (.bool false)), none, []⟩,
      ⟨(some 4), .mv (.t 59), none, []⟩])
    (.ret))))))
theorem fn4 : FnOk Try.prog 4 x4 60 [4] := FnOk.of Try.call4 Try.func4 (by kernel_rfl) Try.ntmps4 (by kernel_rfl)
/-- baler/balerlaw07.StatesBack -/
def x5 : XC :=
  .seq (.ops [⟨(some 6), .mv (.k (.bool false)), none, []⟩])
    (.seq (.ops [⟨(some 13), .mv (.t 0), none, []⟩,
      ⟨(some 14), .mv (.t 1), none, []⟩,
      ⟨(some 15), .call (.k (.fn 21 [])) [(.t 13), (.t 14)], none, []⟩,
      ⟨(some 12), .mv (.t 15), none, []⟩,
      ⟨(some 16), .extract (.t 12) 0, none, []⟩,
      ⟨(some 17), .extract (.t 12) 1, none, []⟩,
      ⟨(some 7), .mv (.t 16), none, []⟩,
      ⟨(some 8), .mv (.t 17), none, []⟩])
    (.seq (.seq (.ops [⟨(some 18), .mv (.t 8), none, []⟩,
      ⟨(some 19), .cmp .neq (.t 18) (.k (.lit .i64 0)), none, []⟩])
    (.cond (.t 19) (.seq (.ops [⟨(some 20), .mv (.t 7), none, []⟩,
      ⟨(some 21), .len (.t 20), none, []⟩,
      ⟨(some 22), .cmp .eql (.t 21) (.k (.lit .i64 0)), none, []⟩,
      ⟨(some 23), .mv (.t 22), none, []⟩,
      ⟨(some 24), .call (.k (.fn 26 [])) [], some (23, true), []⟩,
      ⟨(some 25), .pick (.t 23) (.t 24) (.k (.bool false)), none, []⟩,
      ⟨(some 6), .mv (.t 25), none, []⟩])
    (.ret)) (.skip)))
    (.seq (.ops [⟨(some 27), .bsliceI 5 .u8 0 [], none, []⟩,
      ⟨(some 28), .mv (.t 7), none, []⟩,
      ⟨(some 29), .appI 5 .u8 1 (.t 27) (.t 28), none, []⟩,
      ⟨(some 30), .mv (.t 2), none, []⟩,
      ⟨(some 31), .appI 5 .u8 1 (.t 29) (.t 30), none, []⟩,
      ⟨(some 32), .call (.k (.fn 27 [])) [(.t 31), (.k (.lit .i64 12)), (.k (.lit .i64 255))], none, []⟩,
      ⟨(some 26), .mv (.t 32), none, []⟩,
      ⟨(some 33), .extract (.t 26) 0, none, []⟩,
      ⟨(some 34), .extract (.t 26) 1, none, []⟩,
      ⟨(some 35), .extract (.t 26) 2, none, []⟩,
      ⟨(some 36), .extract (.t 26) 3, none, []⟩,
      ⟨(some 9), .mv (.t 33), none, []⟩,
      ⟨(some 10), .mv (.t 34), none, []⟩,
      ⟨(some 11), .mv (.t 35), none, []⟩,
      ⟨(some 8), .mv (.t 36), none, []⟩])
    (.seq (.ops [⟨(some 37), .mv (.t 8), none, []⟩,
      ⟨(some 38), .cmp .eql (.t 37) (.k (.lit .i64 0)), none, []⟩,
      ⟨(some 39), .mv (.t 38), none, []⟩,
      ⟨(some 40), .mv (.t 9), some (39, true), []⟩,
      ⟨(some 41), .mv (.t 0), some (39, true), []⟩,
      ⟨(some 42), .call (.k (.fn 28 [])) [(.t 40), (.t 41)], some (39, true), []⟩,
      ⟨(some 43), .pick (.t 39) (.t 42) (.k (.bool false)), none, []⟩,
      ⟨(some 44), .mv (.t 43), none, []⟩,
      ⟨(some 45), .mv (.t 10), some (44, true), []⟩,
      ⟨(some 46), .mv (.t 1), some (44, true), []⟩,
      ⟨(some 47), .cmp .eql (.t 45) (.t 46), some (44, true), []⟩,
      ⟨(some 48), .pick (.t 44) (.t 47) (.k (.bool false)), none, []⟩,
      ⟨(some 49), .mv (.t 48), none, []⟩,
      ⟨(some 50), .mv (.t 11), some (49, true), []⟩,
      ⟨(some 51), .mv (.t 7), some (49, true), []⟩,
      ⟨(some 52), .len (.t 51), some (49, true), []⟩,
      ⟨(some 53), .cmp .eql (.t 50) (.t 52), some (49, true), []⟩,
      ⟨(some 54), .pick (.t 49) (.t 53) (.k (.bool false)), none, []⟩,
      ⟨(some 55), .mv (.t 54), none, []⟩,
      ⟨(some 56), .call (.k (.fn 26 [])) [], some (55, true), []⟩,
      ⟨(some 57), .pick (.t 55) (.t 56) (.k (.bool false)), none, []⟩,
      ⟨(some 6), .mv (.t 57), none, []⟩])
    (.ret)))))
theorem fn5 : FnOk Try.prog 5 x5 58 [6] := FnOk.of Try.call5 Try.func5 (by kernel_rfl) Try.ntmps5 (by kernel_rfl)
/-- baler/balerlaw07.StatesFair -/
def x6 : XC :=
  .seq (.ops [⟨(some 4), .mv (.k (.bool false)), none, []⟩])
    (.seq (.ops [⟨(some 9), .mv (.t 0), none, []⟩,
      ⟨(some 10), .mv (.t 1), none, []⟩,
      ⟨(some 11), .call (.k (.fn 29 [])) [(.t 9), (.t 10)], none, []⟩,
      ⟨(some 8), .mv (.t 11), none, []⟩,
      ⟨(some 12), .extract (.t 8) 0, none, []⟩,
      ⟨(some 13), .extract (.t 8) 1, none, []⟩,
      ⟨(some 5), .mv (.t 12), none, []⟩,
      ⟨(some 6), .mv (.t 13), none, []⟩])
    (.seq (.seq (.ops [⟨(some 14), .mv (.t 0), none, []⟩,
      ⟨(some 15), .mv (.t 1), none, []⟩,
      ⟨(some 16), .call (.k (.fn 30 [])) [(.t 14), (.t 15)], none, []⟩,
      ⟨(some 17), .not (.t 16), none, []⟩])
    (.cond (.t 17) (.seq (.ops [⟨(some 18), .mv (.t 6), none, []⟩,
      ⟨(some 19), .cmp .eql (.t 18) (.k (.lit .i64 2)), none, []⟩,
      ⟨(some 20), .mv (.t 19), none, []⟩,
      ⟨(some 21), .mv (.t 5), some (20, true), []⟩,
      ⟨(some 22), .len (.t 21), some (20, true), []⟩,
      ⟨(some 23), .cmp .eql (.t 22) (.k (.lit .i64 0)), some (20, true), []⟩,
      ⟨(some 24), .pick (.t 20) (.t 23) (.k (.bool false)), none, []⟩,
      ⟨(some 25), .mv (.t 24), none, []⟩,
      ⟨(some 26), .call (.k (.fn 26 [])) [], some (25, true), []⟩,
      ⟨(some 27), .pick (.t 25) (.t 26) (.k (.bool false)), none, []⟩,
      ⟨(some 4), .mv (.t 27), none, []⟩])
    (.ret)) (.skip)))
    (.seq (.seq (.ops [⟨(some 28), .mv (.t 6), none, []⟩,
      ⟨(some 29), .cmp .neq (.t 28) (.k (.lit .i64 0)), none, []⟩,
      ⟨(some 30), .mv (.t 29), none, []⟩,
      ⟨(some 31), .mv (.t 5), some (30, false), []⟩,
      ⟨(some 32), .mv (.t 1), some (30, false), []⟩,
      ⟨(some 33), .call (.k (.fn 31 [])) [(.t 31), (.t 32)], some (30, false), []⟩,
      ⟨(some 34), .not (.t 33), some (30, false), []⟩,
      ⟨(some 35), .pick (.t 30) (.k (.bool true)) (.t 34), none, []⟩,
      ⟨(some 36), .mv (.t 35), none, []⟩,
      ⟨(some 37), .mv (.t 5), some (36, false), []⟩,
      ⟨(some 38), .len (.t 37), some (36, false), []⟩,
      ⟨(some 39), .mv (.t 0), some (36, false), []⟩,
      ⟨(some 40), .len (.t 39), some (36, false), []⟩,
      ⟨(some 41), .cmp .gtr (.t 38) (.t 40), some (36, false), []⟩,
      ⟨(some 42), .pick (.t 36) (.k (.bool true)) (.t 41), none, []⟩])
    (.cond (.t 42) (.seq (.ops [⟨(some 4), .mv (.k (.bool false)), none, []⟩])
    (.ret)) (.skip)))
    (.seq (.seq (.ops [⟨(some 43), .mv (.t 0), none, []⟩,
      ⟨(some 44), .len (.t 43), none, []⟩,
      ⟨(some 45), .mv (.k (.lit .i64 0)), none, []⟩])
    (.block 0 (.loop (.seq (.ops [⟨(some 46), .cmp .lss (.t 45) (.t 44), none, []⟩])
    (.seq (.cond (.t 46) (.skip) (.exit 0))
    (.seq (.block 1 (.seq (.ops [⟨(some 47), .mv (.t 45), none, []⟩,
      ⟨(some 7), .mv (.t 47), none, []⟩])
    (.seq (.ops [⟨(some 48), .mv (.t 0), none, []⟩,
      ⟨(some 49), .mv (.t 7), none, []⟩,
      ⟨(some 50), .iadr 1 (.t 48) (.t 49), none, []⟩,
      ⟨(some 51), .load1 (.t 50), none, []⟩,
      ⟨(some 52), .cmp .gtr (.t 51) (.k (.lit .u32 0)), none, []⟩,
      ⟨(some 53), .mv (.t 7), none, []⟩,
      ⟨(some 54), .mv (.t 5), none, []⟩,
      ⟨(some 55), .len (.t 54), none, []⟩,
      ⟨(some 56), .cmp .lss (.t 53) (.t 55), none, []⟩,
      ⟨(some 57), .mv (.t 56), none, []⟩,
      ⟨(some 58), .mv (.t 5), some (57, true), []⟩,
      ⟨(some 59), .mv (.t 7), some (57, true), []⟩,
      ⟨(some 60), .iadr 1 (.t 58) (.t 59), some (57, true), []⟩,
      ⟨(some 61), .load1 (.t 60), some (57, true), []⟩,
      ⟨(some 62), .cmp .neq (.t 61) (.k (.lit .i16 0)), some (57, true), []⟩,
      ⟨(some 63), .pick (.t 57) (.t 62) (.k (.bool false)), none, []⟩,
      ⟨(some 64), .eqv true 0 (.t 52) (.t 63), none, []⟩])
    (.cond (.t 64) (.seq (.ops [⟨(some 4), .mv (.k (.bool false)), none, []⟩])
    (.ret)) (.skip)))))
    (.ops [⟨(some 65), .bin .add .i64 (.t 45) (.k (.lit .i64 1)), none, []⟩,
      ⟨(some 45), .mv (.t 65), none, []⟩])))))))
    (.seq (.ops [⟨(some 66), .call (.k (.fn 26 [])) [], none, []⟩,
      ⟨(some 4), .mv (.t 66), none, []⟩])
    (.ret))))))
theorem fn6 : FnOk Try.prog 6 x6 67 [4] := FnOk.of Try.call6 Try.func6 (by kernel_rfl) Try.ntmps6 (by kernel_rfl)
/-- baler/balerlaw07.StatesCarry -/
def x8 : XC :=
  .seq (.ops [⟨(some 6), .mv (.k (.bool false)), none, []⟩])
    (.seq (.ops [⟨(some 21), .mv (.t 0), none, []⟩,
      ⟨(some 22), .mv (.t 1), none, []⟩,
      ⟨(some 23), .call (.k (.fn 23 [])) [(.t 21), (.t 22)], none, []⟩,
      ⟨(some 20), .mv (.t 23), none, []⟩,
      ⟨(some 24), .extract (.t 20) 0, none, []⟩,
      ⟨(some 25), .extract (.t 20) 1, none, []⟩,
      ⟨(some 7), .mv (.t 24), none, []⟩,
      ⟨(some 8), .mv (.t 25), none, []⟩])
    (.seq (.seq (.ops [⟨(some 26), .mv (.t 8), none, []⟩,
      ⟨(some 27), .cmp .neq (.t 26) (.k (.lit .i64 0)), none, []⟩])
    (.cond (.t 27) (.seq (.ops [⟨(some 28), .mv (.t 7), none, []⟩,
      ⟨(some 29), .len (.t 28), none, []⟩,
      ⟨(some 30), .cmp .eql (.t 29) (.k (.lit .i64 0)), none, []⟩,
      ⟨(some 31), .mv (.t 30), none, []⟩,
      ⟨(some 32), .call (.k (.fn 26 [])) [], some (31, true), []⟩,
      ⟨(some 33), .pick (.t 31) (.t 32) (.k (.bool false)), none, []⟩,
      ⟨(some 6), .mv (.t 33), none, []⟩])
    (.ret)) (.skip)))
    (.seq (.seq (.ops [⟨(some 34), .mv (.t 0), none, []⟩,
      ⟨(some 35), .len (.t 34), none, []⟩,
      ⟨(some 36), .cmp .eql (.t 35) (.k (.lit .i64 0)), none, []⟩])
    (.cond (.t 36) (.seq (.ops [⟨(some 6), .mv (.k (.bool false)), none, []⟩])
    (.ret)) (.skip)))
    (.seq (.ops [⟨(some 9), .mv (.k (.val (.slice none 0 0))), none, []⟩])
    (.seq (.seq (.ops [⟨(some 37), .mv (.t 2), none, []⟩,
      ⟨(some 38), .len (.t 37), none, []⟩,
      ⟨(some 39), .mv (.k (.lit .i64 0)), none, []⟩])
    (.block 0 (.loop (.seq (.ops [⟨(some 40), .cmp .lss (.t 39) (.t 38), none, []⟩])
    (.seq (.cond (.t 40) (.skip) (.exit 0))
    (.seq (.block 1 (.seq (.ops [⟨(some 41), .mv (.t 39), none, []⟩,
      ⟨(some 42), .iadr 1 (.t 37) (.t 39), none, []⟩,
      ⟨(some 43), .load1 (.t 42), none, []⟩,
      ⟨(some 10), .mv (.t 41), none, []⟩,
      ⟨(some 11), .mv (.t 43), none, []⟩])
    (.seq (.seq (.ops [⟨(some 44), .mv (.t 10), none, []⟩,
      ⟨(some 45), .cmp .geq (.t 44) (.k (.lit .i64 200)), none, []⟩])
    (.cond (.t 45) (.exit 0) (.skip)))
    (.seq (.ops [⟨(some 46), .mv (.t 11), none, []⟩,
      ⟨(some 47), .mv (.t 0), none, []⟩,
      ⟨(some 48), .len (.t 47), none, []⟩,
      ⟨(some 49), .min (.t 48) (.k (.lit .i64 255)), none, []⟩,
      ⟨(some 50), .conv .u8 (.t 49), none, []⟩,
      ⟨(some 51), .bin .rem .u8 (.t 46) (.t 50), none, []⟩,
      ⟨(some 11), .mv (.t 51), none, []⟩])
    (.seq (.ops [⟨(some 52), .mv (.t 0), none, []⟩,
      ⟨(some 53), .mv (.t 11), none, []⟩,
      ⟨(some 54), .iadr 1 (.t 52) (.t 53), none, []⟩,
      ⟨(some 55), .load1 (.t 54), none, []⟩,
      ⟨(some 56), .cmp .neq (.t 55) (.k (.lit .i16 0)), none, []⟩])
    (.cond (.t 56) (.ops [⟨(some 57), .mv (.t 9), none, []⟩,
      ⟨(some 58), .mv (.t 11), none, []⟩,
      ⟨(some 59), .bsliceI 5 .u8 1 [⟨0, 1, (.t 58)⟩], none, []⟩,
      ⟨(some 60), .appI 5 .u8 1 (.t 57) (.t 59), none, []⟩,
      ⟨(some 9), .mv (.t 60), none, []⟩]) (.skip)))))))
    (.ops [⟨(some 61), .bin .add .i64 (.t 39) (.k (.lit .i64 1)), none, []⟩,
      ⟨(some 39), .mv (.t 61), none, []⟩])))))))
    (.seq (.ops [⟨(some 62), .build [(.val (.slice none 0 0)), (.lit .i64 0)] [], none, []⟩,
      ⟨(some 63), .box 61 none (.t 62), none, []⟩,
      ⟨(some 12), .mv (.t 63), none, []⟩])
    (.seq (.ops [⟨(some 13), .mv (.k (.lit .i64 0)), none, []⟩])
    (.seq (.seq (.ops [⟨(some 64), .mv (.t 9), none, []⟩,
      ⟨(some 65), .len (.t 64), none, []⟩,
      ⟨(some 66), .bin .sub .i64 (.t 65) (.k (.lit .i64 1)), none, []⟩,
      ⟨(some 14), .mv (.t 66), none, []⟩])
    (.block 2 (.loop (.seq (.seq (.ops [⟨(some 67), .mv (.t 14), none, []⟩,
      ⟨(some 68), .cmp .geq (.t 67) (.k (.lit .i64 0)), none, []⟩])
    (.cond (.t 68) (.skip) (.exit 2)))
    (.seq (.block 3 (.seq (.ops [⟨(some 72), .mv (.t 7), none, []⟩,
      ⟨(some 73), .mv (.t 9), none, []⟩,
      ⟨(some 74), .mv (.t 14), none, []⟩,
      ⟨(some 75), .iadr 1 (.t 73) (.t 74), none, []⟩,
      ⟨(some 76), .load1 (.t 75), none, []⟩,
      ⟨(some 77), .mv (.t 13), none, []⟩,
      ⟨(some 78), .call (.k (.fn 36 [])) [(.t 72), (.t 76), (.t 77)], none, []⟩,
      ⟨(some 71), .mv (.t 78), none, []⟩,
      ⟨(some 79), .extract (.t 71) 0, none, []⟩,
      ⟨(some 80), .extract (.t 71) 1, none, []⟩,
      ⟨(some 15), .mv (.t 79), none, []⟩,
      ⟨(some 16), .mv (.t 80), none, []⟩])
    (.seq (.seq (.ops [⟨(some 81), .mv (.t 16), none, []⟩,
      ⟨(some 82), .not (.t 81), none, []⟩,
      ⟨(some 83), .mv (.t 82), none, []⟩,
      ⟨(some 84), .mv (.t 15), some (83, false), []⟩,
      ⟨(some 85), .cmp .lss (.t 84) (.k (.lit .i64 0)), some (83, false), []⟩,
      ⟨(some 86), .pick (.t 83) (.k (.bool true)) (.t 85), none, []⟩,
      ⟨(some 87), .mv (.t 86), none, []⟩,
      ⟨(some 88), .mv (.t 15), some (87, false), []⟩,
      ⟨(some 89), .mv (.t 7), some (87, false), []⟩,
      ⟨(some 90), .len (.t 89), some (87, false), []⟩,
      ⟨(some 91), .cmp .geq (.t 88) (.t 90), some (87, false), []⟩,
      ⟨(some 92), .pick (.t 87) (.k (.bool true)) (.t 91), none, []⟩,
      ⟨(some 93), .mv (.t 92), none, []⟩,
      ⟨(some 94), .mv (.t 7), some (93, false), []⟩,
      ⟨(some 95), .mv (.t 15), some (93, false), []⟩,
      ⟨(some 96), .iadr 3 (.t 94) (.t 95), some (93, false), []⟩,
      ⟨(some 97), .fadr 0 (.t 96), some (93, false), []⟩,
      ⟨(some 98), .load1 (.t 97), some (93, false), []⟩,
      ⟨(some 99), .mv (.t 9), some (93, false), []⟩,
      ⟨(some 100), .mv (.t 14), some (93, false), []⟩,
      ⟨(some 101), .iadr 1 (.t 99) (.t 100), some (93, false), []⟩,
      ⟨(some 102), .load1 (.t 101), some (93, false), []⟩,
      ⟨(some 103), .cmp .neq (.t 98) (.t 102), some (93, false), []⟩,
      ⟨(some 104), .pick (.t 93) (.k (.bool true)) (.t 103), none, []⟩])
    (.cond (.t 104) (.seq (.ops [⟨(some 6), .mv (.k (.bool false)), none, []⟩])
    (.ret)) (.skip)))
    (.seq (.ops [⟨(some 105), .mv (.t 12), none, []⟩,
      ⟨(some 106), .mv (.t 13), none, []⟩,
      ⟨(some 107), .mv (.t 7), none, []⟩,
      ⟨(some 108), .mv (.t 15), none, []⟩,
      ⟨(some 109), .iadr 3 (.t 107) (.t 108), none, []⟩,
      ⟨(some 110), .fadr 2 (.t 109), none, []⟩,
      ⟨(some 111), .load1 (.t 110), none, []⟩,
      ⟨(some 112), .conv .i64 (.t 111), none, []⟩,
      ⟨(some 113), .bin .sub .i64 (.t 106) (.t 112), none, []⟩,
      ⟨(some 114), .conv .u64 (.t 113), none, []⟩,
      ⟨(some 115), .mv (.t 7), none, []⟩,
      ⟨(some 116), .mv (.t 15), none, []⟩,
      ⟨(some 117), .iadr 3 (.t 115) (.t 116), none, []⟩,
      ⟨(some 118), .fadr 1 (.t 117), none, []⟩,
      ⟨(some 119), .load1 (.t 118), none, []⟩,
      ⟨(some 120), .conv .i64 (.t 119), none, []⟩,
      ⟨(some 121), .call (.k (.fn 37 [])) [(.t 105), (.t 114), (.t 120)], none, [(.load1 (.t 118), 119, none), (.load1 (.t 110), 111, none)]⟩])
    (.ops [⟨(some 122), .mv (.t 15), none, []⟩,
      ⟨(some 13), .mv (.t 122), none, []⟩])))))
    (.ops [⟨(some 69), .mv (.t 14), none, []⟩,
      ⟨(some 70), .bin .sub .i64 (.t 69) (.k (.lit .i64 1)), none, []⟩,
      ⟨(some 14), .mv (.t 70), none, []⟩]))))))
    (.seq (.ops [⟨(some 123), .mv (.t 12), none, []⟩,
      ⟨(some 124), .mv (.t 13), none, []⟩,
      ⟨(some 125), .conv .u64 (.t 124), none, []⟩,
      ⟨(some 126), .mv (.t 1), none, []⟩,
      ⟨(some 127), .call (.k (.fn 37 [])) [(.t 123), (.t 125), (.t 126)], none, []⟩])
    (.seq (.ops [⟨(some 129), .mv (.t 12), none, []⟩,
      ⟨(some 130), .call (.k (.fn 39 [])) [(.t 129)], none, []⟩,
      ⟨(some 131), .call (.k (.fn 38 [])) [(.t 130)], none, []⟩,
      ⟨(some 128), .mv (.t 131), none, []⟩,
      ⟨(some 132), .extract (.t 128) 0, none, []⟩,
      ⟨(some 133), .extract (.t 128) 1, none, []⟩,
      ⟨(some 17), .mv (.t 132), none, []⟩,
      ⟨(some 8), .mv (.t 133), none, []⟩])
    (.seq (.seq (.ops [⟨(some 134), .mv (.t 8), none, []⟩,
      ⟨(some 135), .cmp .neq (.t 134) (.k (.lit .i64 0)), none, []⟩])
    (.cond (.t 135) (.seq (.ops [⟨(some 6), .mv (.k (.bool false)), none, []⟩])
    (.ret)) (.skip)))
    (.seq (.ops [⟨(some 136), .mv (.t 17), none, []⟩,
      ⟨(some 137), .mv (.t 1), none, []⟩,
      ⟨(some 138), .call (.k (.fn 40 [])) [(.t 136), (.t 137)], none, []⟩,
      ⟨(some 139), .conv .i64 (.t 138), none, []⟩,
      ⟨(some 13), .mv (.t 139), none, []⟩])
    (.seq (.seq (.ops [⟨(some 140), .mv (.t 9), none, []⟩,
      ⟨(some 141), .len (.t 140), none, []⟩,
      ⟨(some 142), .mv (.k (.lit .i64 0)), none, []⟩])
    (.block 4 (.loop (.seq (.ops [⟨(some 143), .cmp .lss (.t 142) (.t 141), none, []⟩])
    (.seq (.cond (.t 143) (.skip) (.exit 4))
    (.seq (.block 5 (.seq (.ops [⟨(some 144), .iadr 1 (.t 140) (.t 142), none, []⟩,
      ⟨(some 145), .load1 (.t 144), none, []⟩,
      ⟨(some 19), .mv (.t 145), none, []⟩])
    (.seq (.seq (.ops [⟨(some 146), .mv (.t 13), none, []⟩,
      ⟨(some 147), .cmp .lss (.t 146) (.k (.lit .i64 0)), none, []⟩,
      ⟨(some 148), .mv (.t 147), none, []⟩,
      ⟨(some 149), .mv (.t 13), some (148, false), []⟩,
      ⟨(some 150), .mv (.t 7), some (148, false), []⟩,
      ⟨(some 151), .len (.t 150), some (148, false), []⟩,
      ⟨(some 152), .cmp .geq (.t 149) (.t 151), some (148, false), []⟩,
      ⟨(some 153), .pick (.t 148) (.k (.bool true)) (.t 152), none, []⟩,
      ⟨(some 154), .mv (.t 153), none, []⟩,
      ⟨(some 155), .mv (.t 7), some (154, false), []⟩,
      ⟨(some 156), .mv (.t 13), some (154, false), []⟩,
      ⟨(some 157), .iadr 3 (.t 155) (.t 156), some (154, false), []⟩,
      ⟨(some 158), .fadr 0 (.t 157), some (154, false), []⟩,
      ⟨(some 159), .load1 (.t 158), some (154, false), []⟩,
      ⟨(some 160), .mv (.t 19), some (154, false), []⟩,
      ⟨(some 161), .cmp .neq (.t 159) (.t 160), some (154, false), []⟩,
      ⟨(some 162), .pick (.t 154) (.k (.bool true)) (.t 161), none, []⟩])
    (.cond (.t 162) (.seq (.ops [⟨(some 6), .mv (.k (.bool false)), none, []⟩])
    (.ret)) (.skip)))
    (.ops [⟨(some 163), .mv (.t 7), none, []⟩,
      ⟨(some 164), .mv (.t 13), none, []⟩,
      ⟨(some 165), .iadr 3 (.t 163) (.t 164), none, []⟩,
      ⟨(some 166), .fadr 2 (.t 165), none, []⟩,
      ⟨(some 167), .load1 (.t 166), none, []⟩,
      ⟨(some 168), .conv .i64 (.t 167), none, []⟩,
      ⟨(some 169), .mv (.t 17), none, []⟩,
      ⟨(some 170), .mv (.t 7), none, []⟩,
      ⟨(some 171), .mv (.t 13), none, []⟩,
      ⟨(some 172), .iadr 3 (.t 170) (.t 171), none, []⟩,
      ⟨(some 173), .fadr 1 (.t 172), none, []⟩,
      ⟨(some 174), .load1 (.t 173), none, []⟩,
      ⟨(some 175), .conv .i64 (.t 174), none, []⟩,
      ⟨(some 176), .call (.k (.fn 40 [])) [(.t 169), (.t 175)], none, [(.load1 (.t 173), 174, none), (.load1 (.t 166), 167, none)]⟩,
      ⟨(some 177), .conv .i64 (.t 176), none, []⟩,
      ⟨(some 178), .bin .add .i64 (.t 168) (.t 177), none, []⟩,
      ⟨(some 13), .mv (.t 178), none, []⟩]))))
    (.ops [⟨(some 179), .bin .add .i64 (.t 142) (.k (.lit .i64 1)), none, []⟩,
      ⟨(some 142), .mv (.t 179), none, []⟩])))))))
    (.seq (.ops [⟨(some 180), .mv (.t 17), none, []⟩,
      ⟨(some 181), .call (.k (.fn 41 [])) [(.t 180)], none, []⟩,
      ⟨(some 182), .cmp .eql (.t 181) (.k (.lit .i64 0)), none, []⟩,
      ⟨(some 183), .mv (.t 182), none, []⟩,
      ⟨(some 184), .mv (.t 13), some (183, true), []⟩,
      ⟨(some 185), .cmp .eql (.t 184) (.k (.lit .i64 0)), some (183, true), []⟩,
      ⟨(some 186), .pick (.t 183) (.t 185) (.k (.bool false)), none, []⟩,
      ⟨(some 187), .mv (.t 186), none, []⟩,
      ⟨(some 188), .call (.k (.fn 26 [])) [], some (187, true), []⟩,
      ⟨(some 189), .pick (.t 187) (.t 188) (.k (.bool false)), none, []⟩,
      ⟨(some 6), .mv (.t 189), none, []⟩])
    (.ret)))))))))))))))
theorem fn8 : FnOk Try.prog 8 x8 190 [6] := FnOk.of Try.call8 Try.func8 (by kernel_rfl) Try.ntmps8 (by kernel_rfl)
/-- baler/states.Write -/
def x21 : XC :=
  .seq (.ops [⟨(some 4), .mv (.k (.val (.slice none 0 0))), none, []⟩,
      ⟨(some 5), .mv (.k (.lit .i64 0)), none, []⟩])
    (.seq (.seq (.ops [⟨(some 13), .mv (.t 0), none, []⟩,
      ⟨(some 14), .mv (.t 1), none, []⟩,
      ⟨(some 15), .call (.k (.fn 67 [])) [(.t 13), (.t 14)], none, []⟩,
      ⟨(some 16), .not (.t 15), none, []⟩])
    (.cond (.t 16) (.seq (.ops [⟨(some 4), .mv (.k (.val (.slice none 0 0))), none, []⟩,
      ⟨(some 5), .mv (.k (.lit .i64 70)), none, []⟩])
    (.ret)) (.skip)))
    (.seq (.ops [⟨(some 17), .build [(.val (.slice none 0 0)), (.lit .i64 0)] [], none, []⟩,
      ⟨(some 18), .box 92 none (.t 17), none, []⟩,
      ⟨(some 6), .mv (.t 18), none, []⟩])
    (.seq (.ops [⟨(some 19), .mv (.t 6), none, []⟩,
      ⟨(some 20), .mv (.t 1), none, []⟩,
      ⟨(some 21), .bin .sub .i64 (.t 20) (.k (.lit .i64 5)), none, []⟩,
      ⟨(some 22), .conv .u64 (.t 21), none, []⟩,
      ⟨(some 23), .call (.k (.fn 68 [])) [(.t 19), (.t 22), (.k (.lit .i64 4))], none, []⟩])
    (.seq (.ops [⟨(some 24), .mv (.t 1), none, []⟩,
      ⟨(some 25), .conv .u64 (.t 24), none, []⟩,
      ⟨(some 26), .bin .shl .i64 (.k (.lit .i64 1)) (.t 25), none, []⟩,
      ⟨(some 7), .mv (.t 26), none, []⟩])
    (.seq (.seq (.ops [⟨(some 8), .mv (.k (.lit .i64 0)), none, []⟩])
    (.block 0 (.loop (.seq (.seq (.ops [⟨(some 27), .mv (.t 7), none, []⟩,
      ⟨(some 28), .cmp .gtr (.t 27) (.k (.lit .i64 0)), none, []⟩])
    (.cond (.t 28) (.skip) (.exit 0)))
    (.block 1 (.seq (.ops [⟨(some 29), .mv (.t 7), none, []⟩,
      ⟨(some 30), .bin .add .i64 (.t 29) (.k (.lit .i64 1)), none, []⟩,
      ⟨(some 31), .conv .u64 (.t 30), none, []⟩,
      ⟨(some 32), .call (.k (.fn 69 [])) [(.t 31)], none, []⟩,
      ⟨(some 9), .mv (.t 32), none, []⟩])
    (.seq (.ops [⟨(some 33), .mv (.t 9), none, []⟩,
      ⟨(some 34), .conv .u64 (.t 33), none, []⟩,
      ⟨(some 35), .bin .shl .i64 (.k (.lit .i64 1)) (.t 34), none, []⟩,
      ⟨(some 36), .bin .sub .i64 (.t 35) (.k (.lit .i64 1)), none, []⟩,
      ⟨(some 37), .mv (.t 7), none, []⟩,
      ⟨(some 38), .bin .add .i64 (.t 37) (.k (.lit .i64 1)), none, []⟩,
      ⟨(some 39), .bin .sub .i64 (.t 36) (.t 38), none, []⟩,
      ⟨(some 10), .mv (.t 39), none, []⟩])
    (.seq (.ops [⟨(some 40), .mv (.t 0), none, []⟩,
      ⟨(some 41), .mv (.t 8), none, []⟩,
      ⟨(some 42), .iadr 1 (.t 40) (.t 41), none, []⟩,
      ⟨(some 43), .load1 (.t 42), none, []⟩,
      ⟨(some 44), .conv .i64 (.t 43), none, []⟩,
      ⟨(some 45), .bin .add .i64 (.t 44) (.k (.lit .i64 1)), none, []⟩,
      ⟨(some 11), .mv (.t 45), none, []⟩])
    (.seq (.block 2 (.seq (.ops [⟨(some 54), .mv (.t 11), none, []⟩,
      ⟨(some 55), .mv (.t 10), none, []⟩,
      ⟨(some 56), .cmp .lss (.t 54) (.t 55), none, []⟩,
      ⟨(some 53), .mv (.t 56), none, []⟩])
    (.cond (.t 53) (.ops [⟨(some 57), .mv (.t 6), none, []⟩,
      ⟨(some 58), .mv (.t 11), none, []⟩,
      ⟨(some 59), .conv .u64 (.t 58), none, []⟩,
      ⟨(some 60), .mv (.t 9), none, []⟩,
      ⟨(some 61), .bin .sub .i64 (.t 60) (.k (.lit .i64 1)), none, []⟩,
      ⟨(some 62), .call (.k (.fn 68 [])) [(.t 57), (.t 59), (.t 61)], none, []⟩]) (.seq (.ops [⟨(some 64), .mv (.t 11), none, []⟩,
      ⟨(some 65), .mv (.t 9), none, []⟩,
      ⟨(some 66), .bin .sub .i64 (.t 65) (.k (.lit .i64 1)), none, []⟩,
      ⟨(some 67), .conv .u64 (.t 66), none, []⟩,
      ⟨(some 68), .bin .shl .i64 (.k (.lit .i64 1)) (.t 67), none, []⟩,
      ⟨(some 69), .cmp .lss (.t 64) (.t 68), none, []⟩,
      ⟨(some 63), .mv (.t 69), none, []⟩])
    (.cond (.t 63) (.ops [⟨(some 70), .mv (.t 6), none, []⟩,
      ⟨(some 71), .mv (.t 11), none, []⟩,
      ⟨(some 72), .conv .u64 (.t 71), none, []⟩,
      ⟨(some 73), .mv (.t 9), none, []⟩,
      ⟨(some 74), .call (.k (.fn 68 [])) [(.t 70), (.t 72), (.t 73)], none, []⟩]) (.ops [⟨(some 46), .mv (.t 6), none, []⟩,
      ⟨(some 47), .mv (.t 11), none, []⟩,
      ⟨(some 48), .mv (.t 10), none, []⟩,
      ⟨(some 49), .bin .add .i64 (.t 47) (.t 48), none, []⟩,
      ⟨(some 50), .conv .u64 (.t 49), none, []⟩,
      ⟨(some 51), .mv (.t 9), none, []⟩,
      ⟨(some 52), .call (.k (.fn 68 [])) [(.t 46), (.t 50), (.t 51)], none, []⟩]))))))
    (.seq (.ops [⟨(some 75), .mv (.t 7), none, []⟩,
      ⟨(some 76), .mv (.t 0), none, []⟩,
      ⟨(some 77), .mv (.t 8), none, []⟩,
      ⟨(some 78), .iadr 1 (.t 76) (.t 77), none, []⟩,
      ⟨(some 79), .load1 (.t 78), none, []⟩,
      ⟨(some 80), .call (.k (.fn 70 [])) [(.t 79)], none, []⟩,
      ⟨(some 81), .bin .sub .i64 (.t 75) (.t 80), none, []⟩,
      ⟨(some 7), .mv (.t 81), none, []⟩])
    (.seq (.seq (.ops [⟨(some 82), .mv (.t 8), none, []⟩,
      ⟨(some 83), .bin .add .i64 (.t 82) (.k (.lit .i64 1)), none, []⟩,
      ⟨(some 8), .mv (.t 83), none, []⟩])
    (.seq (.ops [⟨(some 84), .mv (.t 0), none, []⟩,
      ⟨(some 85), .mv (.t 8), none, []⟩,
      ⟨(some 86), .bin .sub .i64 (.t 85) (.k (.lit .i64 1)), none, []⟩,
      ⟨(some 87), .iadr 1 (.t 84) (.t 86), none, []⟩,
      ⟨(some 88), .load1 (.t 87), none, []⟩,
      ⟨(some 89), .cmp .neq (.t 88) (.k (.lit .i16 0)), none, []⟩])
    (.cond (.t 89) (.exit 1) (.skip))))
    (.seq (.ops [⟨(some 12), .mv (.k (.lit .i64 3)), none, []⟩])
    (.block 3 (.loop (.seq (.seq (.ops [⟨(some 90), .mv (.t 12), none, []⟩,
      ⟨(some 91), .cmp .eql (.t 90) (.k (.lit .i64 3)), none, []⟩])
    (.cond (.t 91) (.skip) (.exit 3)))
    (.block 4 (.seq (.seq (.ops [⟨(some 12), .mv (.k (.lit .i64 0)), none, []⟩])
    (.block 5 (.loop (.seq (.seq (.ops [⟨(some 92), .mv (.t 12), none, []⟩,
      ⟨(some 93), .cmp .lss (.t 92) (.k (.lit .i64 3)), none, []⟩,
      ⟨(some 94), .mv (.t 93), none, []⟩,
      ⟨(some 95), .mv (.t 0), some (94, true), []⟩,
      ⟨(some 96), .mv (.t 8), some (94, true), []⟩,
      ⟨(some 97), .iadr 1 (.t 95) (.t 96), some (94, true), []⟩,
      ⟨(some 98), .load1 (.t 97), some (94, true), []⟩,
      ⟨(some 99), .cmp .eql (.t 98) (.k (.lit .i16 0)), some (94, true), []⟩,
      ⟨(some 100), .pick (.t 94) (.t 99) (.k (.bool false)), none, []⟩])
    (.cond (.t 100) (.skip) (.exit 5)))
    (.seq (.block 6 (.ops [⟨(some 103), .mv (.t 8), none, []⟩,
      ⟨(some 104), .bin .add .i64 (.t 103) (.k (.lit .i64 1)), none, []⟩,
      ⟨(some 8), .mv (.t 104), none, []⟩]))
    (.ops [⟨(some 101), .mv (.t 12), none, []⟩,
      ⟨(some 102), .bin .add .i64 (.t 101) (.k (.lit .i64 1)), none, []⟩,
      ⟨(some 12), .mv (.t 102), none, []⟩]))))))
    (.ops [⟨(some 105), .mv (.t 6), none, []⟩,
      ⟨(some 106), .mv (.t 12), none, []⟩,
      ⟨(some 107), .conv .u64 (.t 106), none, []⟩,
      ⟨(some 108), .call (.k (.fn 68 [])) [(.t 105), (.t 107), (.k (.lit .i64 2))], none, []⟩]))))))))))))))))))
    (.seq (.ops [⟨(some 109), .mv (.t 6), none, []⟩,
      ⟨(some 110), .call (.k (.fn 53 [])) [(.t 109)], none, []⟩,
      ⟨(some 4), .mv (.t 110), none, []⟩,
      ⟨(some 5), .mv (.k (.lit .i64 0)), none, []⟩])
    (.ret)))))))
theorem fn21 : FnOk Try.prog 21 x21 111 [4, 5] := FnOk.of Try.call21 Try.func21 (by kernel_rfl) Try.ntmps21 (by kernel_rfl)
/-- baler/balerref07.Write -/
def x22 : XC :=
  .seq (.ops [⟨(some 4), .mv (.k (.val (.slice none 0 0))), none, []⟩,
      ⟨(some 5), .mv (.k (.lit .i64 0)), none, []⟩])
    (.seq (.seq (.ops [⟨(some 11), .mv (.t 0), none, []⟩,
      ⟨(some 12), .mv (.t 1), none, []⟩,
      ⟨(some 13), .call (.k (.fn 31 [])) [(.t 11), (.t 12)], none, []⟩,
      ⟨(some 14), .not (.t 13), none, []⟩])
    (.cond (.t 14) (.seq (.ops [⟨(some 4), .mv (.k (.val (.slice none 0 0))), none, []⟩,
      ⟨(some 5), .mv (.k (.lit .i64 70)), none, []⟩])
    (.ret)) (.skip)))
    (.seq (.ops [⟨(some 15), .build [(.val (.slice none 0 0))] [], none, []⟩,
      ⟨(some 16), .box 95 none (.t 15), none, []⟩,
      ⟨(some 6), .mv (.t 16), none, []⟩])
    (.seq (.ops [⟨(some 17), .mv (.t 6), none, []⟩,
      ⟨(some 18), .mv (.t 1), none, []⟩,
      ⟨(some 19), .bin .sub .i64 (.t 18) (.k (.lit .i64 5)), none, []⟩,
      ⟨(some 20), .conv .u64 (.t 19), none, []⟩,
      ⟨(some 21), .call (.k (.fn 71 [])) [(.t 17), (.t 20), (.k (.lit .i64 4))], none, []⟩])
    (.seq (.ops [⟨(some 22), .mv (.t 1), none, []⟩,
      ⟨(some 23), .conv .u64 (.t 22), none, []⟩,
      ⟨(some 24), .bin .shl .i64 (.k (.lit .i64 1)) (.t 23), none, []⟩,
      ⟨(some 7), .mv (.t 24), none, []⟩])
    (.seq (.ops [⟨(some 8), .mv (.k (.lit .i64 0)), none, []⟩])
    (.seq (.block 0 (.loop (.seq (.seq (.ops [⟨(some 25), .mv (.t 7), none, []⟩,
      ⟨(some 26), .cmp .gtr (.t 25) (.k (.lit .i64 0)), none, []⟩])
    (.cond (.t 26) (.skip) (.exit 0)))
    (.block 1 (.seq (.ops [⟨(some 27), .mv (.t 0), none, []⟩,
      ⟨(some 28), .mv (.t 8), none, []⟩,
      ⟨(some 29), .iadr 1 (.t 27) (.t 28), none, []⟩,
      ⟨(some 30), .load1 (.t 29), none, []⟩,
      ⟨(some 9), .mv (.t 30), none, []⟩])
    (.seq (.ops [⟨(some 31), .mv (.t 8), none, []⟩,
      ⟨(some 32), .bin .add .i64 (.t 31) (.k (.lit .i64 1)), none, []⟩,
      ⟨(some 8), .mv (.t 32), none, []⟩])
    (.seq (.ops [⟨(some 33), .mv (.t 6), none, []⟩,
      ⟨(some 34), .mv (.t 9), none, []⟩,
      ⟨(some 35), .conv .i64 (.t 34), none, []⟩,
      ⟨(some 36), .bin .add .i64 (.t 35) (.k (.lit .i64 1)), none, []⟩,
      ⟨(some 37), .mv (.t 7), none, []⟩,
      ⟨(some 38), .bin .add .i64 (.t 37) (.k (.lit .i64 1)), none, []⟩,
      ⟨(some 39), .call (.k (.fn 72 [])) [(.t 33), (.t 36), (.t 38)], none, []⟩])
    (.seq (.ops [⟨(some 40), .mv (.t 7), none, []⟩,
      ⟨(some 41), .mv (.t 9), none, []⟩,
      ⟨(some 42), .call (.k (.fn 73 [])) [(.t 41)], none, []⟩,
      ⟨(some 43), .bin .sub .i64 (.t 40) (.t 42), none, []⟩,
      ⟨(some 7), .mv (.t 43), none, []⟩])
    (.seq (.seq (.ops [⟨(some 44), .mv (.t 9), none, []⟩,
      ⟨(some 45), .cmp .neq (.t 44) (.k (.lit .i16 0)), none, []⟩])
    (.cond (.t 45) (.exit 1) (.skip)))
    (.seq (.ops [⟨(some 10), .mv (.k (.lit .i64 0)), none, []⟩])
    (.seq (.block 2 (.loop (.seq (.seq (.ops [⟨(some 46), .mv (.t 0), none, []⟩,
      ⟨(some 47), .mv (.t 8), none, []⟩,
      ⟨(some 48), .mv (.t 10), none, []⟩,
      ⟨(some 49), .bin .add .i64 (.t 47) (.t 48), none, []⟩,
      ⟨(some 50), .iadr 1 (.t 46) (.t 49), none, []⟩,
      ⟨(some 51), .load1 (.t 50), none, []⟩,
      ⟨(some 52), .cmp .eql (.t 51) (.k (.lit .i16 0)), none, []⟩])
    (.cond (.t 52) (.skip) (.exit 2)))
    (.block 3 (.ops [⟨(some 53), .mv (.t 10), none, []⟩,
      ⟨(some 54), .bin .add .i64 (.t 53) (.k (.lit .i64 1)), none, []⟩,
      ⟨(some 10), .mv (.t 54), none, []⟩])))))
    (.seq (.ops [⟨(some 55), .mv (.t 8), none, []⟩,
      ⟨(some 56), .mv (.t 10), none, []⟩,
      ⟨(some 57), .bin .add .i64 (.t 55) (.t 56), none, []⟩,
      ⟨(some 8), .mv (.t 57), none, []⟩])
    (.seq (.block 4 (.loop (.seq (.seq (.ops [⟨(some 58), .mv (.t 10), none, []⟩,
      ⟨(some 59), .cmp .geq (.t 58) (.k (.lit .i64 3)), none, []⟩])
    (.cond (.t 59) (.skip) (.exit 4)))
    (.block 5 (.seq (.ops [⟨(some 60), .mv (.t 6), none, []⟩,
      ⟨(some 61), .call (.k (.fn 71 [])) [(.t 60), (.k (.lit .u64 3)), (.k (.lit .i64 2))], none, []⟩])
    (.ops [⟨(some 62), .mv (.t 10), none, []⟩,
      ⟨(some 63), .bin .sub .i64 (.t 62) (.k (.lit .i64 3)), none, []⟩,
      ⟨(some 10), .mv (.t 63), none, []⟩]))))))
    (.ops [⟨(some 64), .mv (.t 6), none, []⟩,
      ⟨(some 65), .mv (.t 10), none, []⟩,
      ⟨(some 66), .conv .u64 (.t 65), none, []⟩,
      ⟨(some 67), .call (.k (.fn 71 [])) [(.t 64), (.t 66), (.k (.lit .i64 2))], none, []⟩]))))))))))))))
    (.seq (.ops [⟨(some 68), .mv (.t 6), none, []⟩,
      ⟨(some 69), .call (.k (.fn 74 [])) [(.t 68)], none, []⟩])
    (.seq (.ops [⟨(some 70), .mv (.t 6), none, []⟩,
      ⟨(some 71), .call (.k (.fn 54 [])) [(.t 70)], none, []⟩,
      ⟨(some 4), .mv (.t 71), none, []⟩,
      ⟨(some 5), .mv (.k (.lit .i64 0)), none, []⟩])
    (.ret)))))))))
theorem fn22 : FnOk Try.prog 22 x22 72 [4, 5] := FnOk.of Try.call22 Try.func22 (by kernel_rfl) Try.ntmps22 (by kernel_rfl)
/-- baler/states.Table -/
def x23 : XC :=
  .seq (.ops [⟨(some 4), .mv (.k (.val (.slice none 0 0))), none, []⟩,
      ⟨(some 5), .mv (.k (.lit .i64 0)), none, []⟩])
    (.seq (.seq (.ops [⟨(some 18), .mv (.t 0), none, []⟩,
      ⟨(some 19), .mv (.t 1), none, []⟩,
      ⟨(some 20), .call (.k (.fn 67 [])) [(.t 18), (.t 19)], none, []⟩,
      ⟨(some 21), .not (.t 20), none, []⟩])
    (.cond (.t 21) (.seq (.ops [⟨(some 4), .mv (.k (.val (.slice none 0 0))), none, []⟩,
      ⟨(some 5), .mv (.k (.lit .i64 70)), none, []⟩])
    (.ret)) (.skip)))
    (.seq (.ops [⟨(some 22), .mv (.t 1), none, []⟩,
      ⟨(some 23), .conv .u64 (.t 22), none, []⟩,
      ⟨(some 24), .bin .shl .i64 (.k (.lit .i64 1)) (.t 23), none, []⟩,
      ⟨(some 6), .mv (.t 24), none, []⟩])
    (.seq (.ops [⟨(some 25), .mv (.t 6), none, []⟩,
      ⟨(some 26), .mkslR 65 3 4 [(.lit .u8 0), (.lit .u8 0), (.lit .u16 0)] (.t 25) (.t 25), none, []⟩,
      ⟨(some 7), .newR 36 [(.val (.slice none 0 0))], none, []⟩,
      ⟨none, .store1 (.t 7) (.t 26), none, []⟩])
    (.seq (.ops [⟨(some 27), .mv (.t 6), none, []⟩,
      ⟨(some 8), .mv (.t 27), none, []⟩])
    (.seq (.ops [⟨(some 9), .newR 23 [(.val (.slice none 0 0))], none, []⟩])
    (.seq (.ops [⟨(some 10), .newI 118 .i64 256, none, []⟩])
    (.seq (.seq (.ops [⟨(some 28), .mv (.t 0), none, []⟩,
      ⟨(some 29), .len (.t 28), none, []⟩,
      ⟨(some 30), .mv (.k (.lit .i64 0)), none, []⟩])
    (.block 0 (.loop (.seq (.ops [⟨(some 31), .cmp .lss (.t 30) (.t 29), none, []⟩])
    (.seq (.cond (.t 31) (.skip) (.exit 0))
    (.seq (.block 1 (.seq (.ops [⟨(some 32), .mv (.t 30), none, []⟩,
      ⟨(some 33), .iadr 1 (.t 28) (.t 30), none, []⟩,
      ⟨(some 34), .load1 (.t 33), none, []⟩,
      ⟨(some 11), .mv (.t 32), none, []⟩,
      ⟨(some 12), .mv (.t 34), none, []⟩])
    (.seq (.ops [⟨(some 35), .mv (.t 11), none, []⟩,
      ⟨(some 36), .mv (.t 12), none, []⟩,
      ⟨(some 37), .call (.k (.fn 70 [])) [(.t 36)], none, []⟩,
      ⟨(some 38), .iadrA 256 1 (.t 10) (.t 35), none, []⟩,
      ⟨none, .store1 (.t 38) (.t 37), none, []⟩])
    (.seq (.seq (.ops [⟨(some 39), .mv (.t 12), none, []⟩,
      ⟨(some 40), .cmp .lss (.t 39) (.k (.lit .i16 0)), none, []⟩])
    (.cond (.t 40) (.seq (.ops [⟨(some 41), .mv (.t 8), none, []⟩,
      ⟨(some 42), .bin .sub .i64 (.t 41) (.k (.lit .i64 1)), none, []⟩,
      ⟨(some 8), .mv (.t 42), none, []⟩])
    (.seq (.ops [⟨(some 43), .load1 (.t 7), none, []⟩,
      ⟨(some 44), .mv (.t 8), none, []⟩,
      ⟨(some 45), .mv (.t 11), none, []⟩,
      ⟨(some 46), .conv .u8 (.t 45), none, []⟩,
      ⟨(some 47), .iadr 3 (.t 43) (.t 44), none, []⟩,
      ⟨(some 48), .fadr 0 (.t 47), none, []⟩,
      ⟨none, .store1 (.t 48) (.t 46), none, []⟩])
    (.exit 1))) (.skip)))
    (.seq (.ops [⟨(some 49), .mv (.t 12), none, []⟩,
      ⟨(some 50), .mv (.k (.lit .i16 0)), none, []⟩])
    (.block 2 (.loop (.seq (.ops [⟨(some 51), .cmp .lss (.t 50) (.t 49), none, []⟩])
    (.seq (.cond (.t 51) (.skip) (.exit 2))
    (.seq (.block 3 (.ops [⟨(some 52), .load1 (.t 9), none, []⟩,
      ⟨(some 53), .mv (.t 11), none, []⟩,
      ⟨(some 54), .conv .u8 (.t 53), none, []⟩,
      ⟨(some 55), .bsliceI 5 .u8 1 [⟨0, 1, (.t 54)⟩], none, []⟩,
      ⟨(some 56), .appI 5 .u8 1 (.t 52) (.t 55), none, []⟩,
      ⟨none, .store1 (.t 9) (.t 56), none, []⟩]))
    (.ops [⟨(some 57), .bin .add .i16 (.t 50) (.k (.lit .i16 1)), none, []⟩,
      ⟨(some 50), .mv (.t 57), none, []⟩])))))))))))
    (.ops [⟨(some 58), .bin .add .i64 (.t 30) (.k (.lit .i64 1)), none, []⟩,
      ⟨(some 30), .mv (.t 58), none, []⟩])))))))
    (.seq (.ops [⟨(some 13), .newR 3 [(.lit .i64 0)], none, []⟩,
      ⟨none, .store1 (.t 13) (.k (.lit .i64 0)), none, []⟩])
    (.seq (.seq (.ops [⟨(some 59), .mv (.t 6), none, []⟩,
      ⟨(some 60), .mv (.t 8), none, []⟩,
      ⟨(some 61), .call (.k (.fn 75 [])) [(.t 59), (.t 60)], none, []⟩])
    (.block 4 (.range (.t 61) [62] (.ops [⟨(some 14), .mv (.t 62), none, []⟩]) (.block 5 (.seq (.ops [⟨(some 63), .load1 (.t 7), none, []⟩,
      ⟨(some 64), .mv (.t 14), none, []⟩,
      ⟨(some 65), .load1 (.t 9), none, []⟩,
      ⟨(some 66), .load1 (.t 13), none, []⟩,
      ⟨(some 67), .iadr 1 (.t 65) (.t 66), none, []⟩,
      ⟨(some 68), .load1 (.t 67), none, []⟩,
      ⟨(some 69), .iadr 3 (.t 63) (.t 64), none, []⟩,
      ⟨(some 70), .fadr 0 (.t 69), none, []⟩,
      ⟨none, .store1 (.t 70) (.t 68), none, []⟩])
    (.ops [⟨(some 71), .load1 (.t 13), none, []⟩,
      ⟨(some 72), .bin .add .i64 (.t 71) (.k (.lit .i64 1)), none, []⟩,
      ⟨none, .store1 (.t 13) (.t 72), none, []⟩]))))))
    (.seq (.seq (.ops [⟨(some 73), .load1 (.t 7), none, []⟩,
      ⟨(some 74), .len (.t 73), none, []⟩,
      ⟨(some 75), .mv (.k (.lit .i64 0)), none, []⟩])
    (.block 6 (.loop (.seq (.ops [⟨(some 76), .cmp .lss (.t 75) (.t 74), none, []⟩])
    (.seq (.cond (.t 76) (.skip) (.exit 6))
    (.seq (.block 7 (.seq (.ops [⟨(some 77), .mv (.t 75), none, []⟩,
      ⟨(some 15), .mv (.t 77), none, []⟩])
    (.seq (.ops [⟨(some 78), .load1 (.t 7), none, []⟩,
      ⟨(some 79), .mv (.t 15), none, []⟩,
      ⟨(some 80), .iadr 3 (.t 78) (.t 79), none, []⟩,
      ⟨(some 16), .mv (.t 80), none, []⟩])
    (.seq (.ops [⟨(some 81), .mv (.t 1), none, []⟩,
      ⟨(some 82), .bin .add .i64 (.t 81) (.k (.lit .i64 1)), none, []⟩,
      ⟨(some 83), .mv (.t 16), none, []⟩,
      ⟨(some 84), .nilchk (.t 83), none, []⟩,
      ⟨(some 85), .fadr 0 (.t 84), none, []⟩,
      ⟨(some 86), .load1 (.t 85), none, []⟩,
      ⟨(some 87), .iadrA 256 1 (.t 10) (.t 86), none, []⟩,
      ⟨(some 88), .load1 (.t 87), none, []⟩,
      ⟨(some 89), .conv .u64 (.t 88), none, []⟩,
      ⟨(some 90), .call (.k (.fn 69 [])) [(.t 89)], none, []⟩,
      ⟨(some 91), .bin .sub .i64 (.t 82) (.t 90), none, []⟩,
      ⟨(some 17), .mv (.t 91), none, []⟩])
    (.seq (.ops [⟨(some 92), .mv (.t 16), none, []⟩,
      ⟨(some 93), .mv (.t 16), none, []⟩,
      ⟨(some 94), .mv (.t 17), none, []⟩,
      ⟨(some 95), .conv .u8 (.t 94), none, []⟩,
      ⟨(some 96), .mv (.t 16), none, []⟩,
      ⟨(some 97), .nilchk (.t 96), none, []⟩,
      ⟨(some 98), .fadr 0 (.t 97), none, []⟩,
      ⟨(some 99), .load1 (.t 98), none, []⟩,
      ⟨(some 100), .iadrA 256 1 (.t 10) (.t 99), none, []⟩,
      ⟨(some 101), .load1 (.t 100), none, []⟩,
      ⟨(some 102), .mv (.t 17), none, []⟩,
      ⟨(some 103), .conv .u64 (.t 102), none, []⟩,
      ⟨(some 104), .bin .shl .i64 (.t 101) (.t 103), none, []⟩,
      ⟨(some 105), .mv (.t 6), none, []⟩,
      ⟨(some 106), .bin .sub .i64 (.t 104) (.t 105), none, []⟩,
      ⟨(some 107), .conv .u16 (.t 106), none, []⟩,
      ⟨(some 108), .nilchk (.t 92), none, []⟩,
      ⟨(some 109), .fadr 1 (.t 108), none, []⟩,
      ⟨none, .store1 (.t 109) (.t 95), none, [(.load1 (.t 100), 101, none)]⟩,
      ⟨(some 110), .nilchk (.t 93), none, []⟩,
      ⟨(some 111), .fadr 2 (.t 110), none, []⟩,
      ⟨none, .store1 (.t 111) (.t 107), none, []⟩])
    (.ops [⟨(some 112), .mv (.t 16), none, []⟩,
      ⟨(some 113), .nilchk (.t 112), none, []⟩,
      ⟨(some 114), .fadr 0 (.t 113), none, []⟩,
      ⟨(some 115), .load1 (.t 114), none, []⟩,
      ⟨(some 116), .iadrA 256 1 (.t 10) (.t 115), none, []⟩,
      ⟨(some 117), .load1 (.t 116), none, []⟩,
      ⟨(some 118), .bin .add .i64 (.t 117) (.k (.lit .i64 1)), none, []⟩,
      ⟨(some 119), .iadrA 256 1 (.t 10) (.t 115), none, []⟩,
      ⟨none, .store1 (.t 119) (.t 118), none, []⟩]))))))
    (.ops [⟨(some 120), .bin .add .i64 (.t 75) (.k (.lit .i64 1)), none, []⟩,
      ⟨(some 75), .mv (.t 120), none, []⟩])))))))
    (.seq (.ops [⟨(some 121), .load1 (.t 7), none, []⟩,
      ⟨(some 4), .mv (.t 121), none, []⟩,
      ⟨(some 5), .mv (.k (.lit .i64 0)), none, []⟩])
    (.ret))))))))))))
theorem fn23 : FnOk Try.prog 23 x23 122 [4, 5] := FnOk.of Try.call23 Try.func23 (by kernel_rfl) Try.ntmps23 (by kernel_rfl)
/-- baler/balerref07.Table -/
def x24 : XC :=
  .seq (.ops [⟨(some 4), .mv (.k (.val (.slice none 0 0))), none, []⟩,
      ⟨(some 5), .mv (.k (.lit .i64 0)), none, []⟩])
    (.seq (.seq (.ops [⟨(some 19), .mv (.t 0), none, []⟩,
      ⟨(some 20), .mv (.t 1), none, []⟩,
      ⟨(some 21), .call (.k (.fn 31 [])) [(.t 19), (.t 20)], none, []⟩,
      ⟨(some 22), .not (.t 21), none, []⟩])
    (.cond (.t 22) (.seq (.ops [⟨(some 4), .mv (.k (.val (.slice none 0 0))), none, []⟩,
      ⟨(some 5), .mv (.k (.lit .i64 70)), none, []⟩])
    (.ret)) (.skip)))
    (.seq (.ops [⟨(some 23), .mv (.t 1), none, []⟩,
      ⟨(some 24), .conv .u64 (.t 23), none, []⟩,
      ⟨(some 25), .bin .shl .i64 (.k (.lit .i64 1)) (.t 24), none, []⟩,
      ⟨(some 6), .mv (.t 25), none, []⟩])
    (.seq (.ops [⟨(some 26), .mv (.t 6), none, []⟩,
      ⟨(some 27), .mkslI 3 .i64 8 (.t 26) (.t 26), none, []⟩,
      ⟨(some 7), .mv (.t 27), none, []⟩])
    (.seq (.ops [⟨(some 28), .mv (.t 6), none, []⟩,
      ⟨(some 8), .mv (.t 28), none, []⟩])
    (.seq (.seq (.ops [⟨(some 9), .mv (.k (.lit .i64 0)), none, []⟩])
    (.block 0 (.loop (.seq (.seq (.ops [⟨(some 29), .mv (.t 9), none, []⟩,
      ⟨(some 30), .mv (.t 0), none, []⟩,
      ⟨(some 31), .len (.t 30), none, []⟩,
      ⟨(some 32), .cmp .lss (.t 29) (.t 31), none, []⟩])
    (.cond (.t 32) (.skip) (.exit 0)))
    (.seq (.block 1 (.seq (.ops [⟨(some 35), .mv (.t 0), none, []⟩,
      ⟨(some 36), .mv (.t 9), none, []⟩,
      ⟨(some 37), .iadr 1 (.t 35) (.t 36), none, []⟩,
      ⟨(some 38), .load1 (.t 37), none, []⟩,
      ⟨(some 39), .cmp .eql (.t 38) (.k (.lit .i16 (-1))), none, []⟩])
    (.cond (.t 39) (.seq (.ops [⟨(some 40), .mv (.t 8), none, []⟩,
      ⟨(some 41), .bin .sub .i64 (.t 40) (.k (.lit .i64 1)), none, []⟩,
      ⟨(some 8), .mv (.t 41), none, []⟩])
    (.ops [⟨(some 42), .mv (.t 7), none, []⟩,
      ⟨(some 43), .mv (.t 8), none, []⟩,
      ⟨(some 44), .mv (.t 9), none, []⟩,
      ⟨(some 45), .iadr 1 (.t 42) (.t 43), none, []⟩,
      ⟨none, .store1 (.t 45) (.t 44), none, []⟩])) (.skip))))
    (.ops [⟨(some 33), .mv (.t 9), none, []⟩,
      ⟨(some 34), .bin .add .i64 (.t 33) (.k (.lit .i64 1)), none, []⟩,
      ⟨(some 9), .mv (.t 34), none, []⟩]))))))
    (.seq (.ops [⟨(some 10), .mv (.k (.lit .i64 0)), none, []⟩])
    (.seq (.seq (.ops [⟨(some 11), .mv (.k (.lit .i64 0)), none, []⟩])
    (.block 2 (.loop (.seq (.seq (.ops [⟨(some 46), .mv (.t 11), none, []⟩,
      ⟨(some 47), .mv (.t 0), none, []⟩,
      ⟨(some 48), .len (.t 47), none, []⟩,
      ⟨(some 49), .cmp .lss (.t 46) (.t 48), none, []⟩])
    (.cond (.t 49) (.skip) (.exit 2)))
    (.seq (.block 3 (.seq (.ops [⟨(some 12), .mv (.k (.lit .i64 0)), none, []⟩])
    (.block 4 (.loop (.seq (.seq (.ops [⟨(some 52), .mv (.t 12), none, []⟩,
      ⟨(some 53), .mv (.t 0), none, []⟩,
      ⟨(some 54), .mv (.t 11), none, []⟩,
      ⟨(some 55), .iadr 1 (.t 53) (.t 54), none, []⟩,
      ⟨(some 56), .load1 (.t 55), none, []⟩,
      ⟨(some 57), .conv .i64 (.t 56), none, []⟩,
      ⟨(some 58), .cmp .lss (.t 52) (.t 57), none, []⟩])
    (.cond (.t 58) (.skip) (.exit 4)))
    (.seq (.block 5 (.seq (.ops [⟨(some 61), .mv (.t 7), none, []⟩,
      ⟨(some 62), .mv (.t 10), none, []⟩,
      ⟨(some 63), .mv (.t 11), none, []⟩,
      ⟨(some 64), .iadr 1 (.t 61) (.t 62), none, []⟩,
      ⟨none, .store1 (.t 64) (.t 63), none, []⟩])
    (.seq (.ops [⟨(some 65), .mv (.t 10), none, []⟩,
      ⟨(some 66), .mv (.t 6), none, []⟩,
      ⟨(some 67), .bin .quo .i64 (.t 66) (.k (.lit .i64 2)), none, []⟩,
      ⟨(some 68), .bin .add .i64 (.t 65) (.t 67), none, []⟩,
      ⟨(some 69), .mv (.t 6), none, []⟩,
      ⟨(some 70), .bin .quo .i64 (.t 69) (.k (.lit .i64 8)), none, []⟩,
      ⟨(some 71), .bin .add .i64 (.t 68) (.t 70), none, []⟩,
      ⟨(some 72), .bin .add .i64 (.t 71) (.k (.lit .i64 3)), none, []⟩,
      ⟨(some 73), .mv (.t 6), none, []⟩,
      ⟨(some 74), .bin .rem .i64 (.t 72) (.t 73), none, []⟩,
      ⟨(some 10), .mv (.t 74), none, []⟩])
    (.block 6 (.loop (.seq (.seq (.ops [⟨(some 75), .mv (.t 10), none, []⟩,
      ⟨(some 76), .mv (.t 8), none, []⟩,
      ⟨(some 77), .cmp .geq (.t 75) (.t 76), none, []⟩,
      ⟨(some 78), .mv (.t 77), none, []⟩,
      ⟨(some 79), .mv (.t 8), some (78, true), []⟩,
      ⟨(some 80), .cmp .gtr (.t 79) (.k (.lit .i64 0)), some (78, true), []⟩,
      ⟨(some 81), .pick (.t 78) (.t 80) (.k (.bool false)), none, []⟩])
    (.cond (.t 81) (.skip) (.exit 6)))
    (.block 7 (.ops [⟨(some 82), .mv (.t 10), none, []⟩,
      ⟨(some 83), .mv (.t 6), none, []⟩,
      ⟨(some 84), .bin .quo .i64 (.t 83) (.k (.lit .i64 2)), none, []⟩,
      ⟨(some 85), .bin .add .i64 (.t 82) (.t 84), none, []⟩,
      ⟨(some 86), .mv (.t 6), none, []⟩,
      ⟨(some 87), .bin .quo .i64 (.t 86) (.k (.lit .i64 8)), none, []⟩,
      ⟨(some 88), .bin .add .i64 (.t 85) (.t 87), none, []⟩,
      ⟨(some 89), .bin .add .i64 (.t 88) (.k (.lit .i64 3)), none, []⟩,
      ⟨(some 90), .mv (.t 6), none, []⟩,
      ⟨(some 91), .bin .rem .i64 (.t 89) (.t 90), none, []⟩,
      ⟨(some 10), .mv (.t 91), none, []⟩]))))))))
    (.ops [⟨(some 59), .mv (.t 12), none, []⟩,
      ⟨(some 60), .bin .add .i64 (.t 59) (.k (.lit .i64 1)), none, []⟩,
      ⟨(some 12), .mv (.t 60), none, []⟩])))))))
    (.ops [⟨(some 50), .mv (.t 11), none, []⟩,
      ⟨(some 51), .bin .add .i64 (.t 50) (.k (.lit .i64 1)), none, []⟩,
      ⟨(some 11), .mv (.t 51), none, []⟩]))))))
    (.seq (.ops [⟨(some 92), .mv (.t 6), none, []⟩,
      ⟨(some 93), .mkslR 65 3 4 [(.lit .u8 0), (.lit .u8 0), (.lit .u16 0)] (.t 92) (.t 92), none, []⟩,
      ⟨(some 13), .mv (.t 93), none, []⟩])
    (.seq (.ops [⟨(some 94), .mkslI 3 .i64 8 (.k (.lit .i64 256)) (.k (.lit .i64 256)), none, []⟩,
      ⟨(some 14), .mv (.t 94), none, []⟩])
    (.seq (.seq (.ops [⟨(some 15), .mv (.k (.lit .i64 0)), none, []⟩])
    (.block 8 (.loop (.seq (.seq (.ops [⟨(some 95), .mv (.t 15), none, []⟩,
      ⟨(some 96), .mv (.t 6), none, []⟩,
      ⟨(some 97), .cmp .lss (.t 95) (.t 96), none, []⟩])
    (.cond (.t 97) (.skip) (.exit 8)))
    (.seq (.block 9 (.seq (.ops [⟨(some 100), .mv (.t 7), none, []⟩,
      ⟨(some 101), .mv (.t 15), none, []⟩,
      ⟨(some 102), .iadr 1 (.t 100) (.t 101), none, []⟩,
      ⟨(some 103), .load1 (.t 102), none, []⟩,
      ⟨(some 16), .mv (.t 103), none, []⟩])
    (.seq (.ops [⟨(some 104), .mv (.t 0), none, []⟩,
      ⟨(some 105), .mv (.t 16), none, []⟩,
      ⟨(some 106), .iadr 1 (.t 104) (.t 105), none, []⟩,
      ⟨(some 107), .load1 (.t 106), none, []⟩,
      ⟨(some 109), .mv (.t 14), none, []⟩,
      ⟨(some 110), .mv (.t 16), none, []⟩,
      ⟨(some 111), .iadr 1 (.t 109) (.t 110), none, []⟩,
      ⟨(some 112), .load1 (.t 111), none, []⟩,
      ⟨(some 108), .call (.k (.fn 73 [])) [(.t 107)], none, [(.load1 (.t 111), 112, none)]⟩,
      ⟨(some 113), .bin .add .i64 (.t 108) (.t 112), none, []⟩,
      ⟨(some 17), .mv (.t 113), none, []⟩])
    (.seq (.ops [⟨(some 114), .mv (.t 14), none, []⟩,
      ⟨(some 115), .mv (.t 16), none, []⟩,
      ⟨(some 116), .iadr 1 (.t 114) (.t 115), none, []⟩,
      ⟨(some 117), .load1 (.t 116), none, []⟩,
      ⟨(some 118), .bin .add .i64 (.t 117) (.k (.lit .i64 1)), none, []⟩,
      ⟨(some 119), .iadr 1 (.t 114) (.t 115), none, []⟩,
      ⟨none, .store1 (.t 119) (.t 118), none, []⟩])
    (.seq (.ops [⟨(some 120), .mv (.t 1), none, []⟩,
      ⟨(some 121), .mv (.t 17), none, []⟩,
      ⟨(some 122), .call (.k (.fn 76 [])) [(.t 121)], none, []⟩,
      ⟨(some 123), .bin .sub .i64 (.t 122) (.k (.lit .i64 1)), none, []⟩,
      ⟨(some 124), .bin .sub .i64 (.t 120) (.t 123), none, []⟩,
      ⟨(some 18), .mv (.t 124), none, []⟩])
    (.ops [⟨(some 125), .mv (.t 13), none, []⟩,
      ⟨(some 126), .mv (.t 15), none, []⟩,
      ⟨(some 127), .mv (.t 16), none, []⟩,
      ⟨(some 128), .conv .u8 (.t 127), none, []⟩,
      ⟨(some 129), .mv (.t 18), none, []⟩,
      ⟨(some 130), .conv .u8 (.t 129), none, []⟩,
      ⟨(some 131), .mv (.t 17), none, []⟩,
      ⟨(some 132), .mv (.t 18), none, []⟩,
      ⟨(some 133), .conv .u64 (.t 132), none, []⟩,
      ⟨(some 134), .bin .shl .i64 (.t 131) (.t 133), none, []⟩,
      ⟨(some 135), .mv (.t 6), none, []⟩,
      ⟨(some 136), .bin .sub .i64 (.t 134) (.t 135), none, []⟩,
      ⟨(some 137), .conv .u16 (.t 136), none, []⟩,
      ⟨(some 138), .build [(.lit .u8 0), (.lit .u8 0), (.lit .u16 0)] [⟨0, 1, (.t 128)⟩, ⟨1, 1, (.t 130)⟩, ⟨2, 1, (.t 137)⟩], none, []⟩,
      ⟨(some 139), .iadr 3 (.t 125) (.t 126), none, []⟩,
      ⟨none, .storeA 3 (.t 139) (.t 138), none, []⟩]))))))
    (.ops [⟨(some 98), .mv (.t 15), none, []⟩,
      ⟨(some 99), .bin .add .i64 (.t 98) (.k (.lit .i64 1)), none, []⟩,
      ⟨(some 15), .mv (.t 99), none, []⟩]))))))
    (.seq (.ops [⟨(some 140), .mv (.t 13), none, []⟩,
      ⟨(some 4), .mv (.t 140), none, []⟩,
      ⟨(some 5), .mv (.k (.lit .i64 0)), none, []⟩])
    (.ret))))))))))))
theorem fn24 : FnOk Try.prog 24 x24 141 [4, 5] := FnOk.of Try.call24 Try.func24 (by kernel_rfl) Try.ntmps24 (by kernel_rfl)
/-- baler/balerlaw07.cells -/
def x25 : XC :=
  .seq (.ops [⟨(some 4), .mv (.k (.bool false)), none, []⟩])
    (.seq (.seq (.ops [⟨(some 6), .mv (.t 0), none, []⟩,
      ⟨(some 7), .len (.t 6), none, []⟩,
      ⟨(some 8), .mv (.t 1), none, []⟩,
      ⟨(some 9), .len (.t 8), none, []⟩,
      ⟨(some 10), .cmp .neq (.t 7) (.t 9), none, []⟩])
    (.cond (.t 10) (.seq (.ops [⟨(some 4), .mv (.k (.bool false)), none, []⟩])
    (.ret)) (.skip)))
    (.seq (.seq (.ops [⟨(some 11), .mv (.t 0), none, []⟩,
      ⟨(some 12), .len (.t 11), none, []⟩,
      ⟨(some 13), .mv (.k (.lit .i64 0)), none, []⟩])
    (.block 0 (.loop (.seq (.ops [⟨(some 14), .cmp .lss (.t 13) (.t 12), none, []⟩])
    (.seq (.cond (.t 14) (.skip) (.exit 0))
    (.seq (.block 1 (.seq (.ops [⟨(some 15), .mv (.t 13), none, []⟩,
      ⟨(some 5), .mv (.t 15), none, []⟩])
    (.seq (.ops [⟨(some 16), .mv (.t 0), none, []⟩,
      ⟨(some 17), .mv (.t 5), none, []⟩,
      ⟨(some 18), .iadr 3 (.t 16) (.t 17), none, []⟩,
      ⟨(some 19), .loadA 3 (.t 18), none, []⟩,
      ⟨(some 20), .mv (.t 1), none, []⟩,
      ⟨(some 21), .mv (.t 5), none, []⟩,
      ⟨(some 22), .iadr 3 (.t 20) (.t 21), none, []⟩,
      ⟨(some 23), .loadA 3 (.t 22), none, []⟩,
      ⟨(some 24), .eqR true 3 (.t 19) (.t 23), none, []⟩])
    (.cond (.t 24) (.seq (.ops [⟨(some 4), .mv (.k (.bool false)), none, []⟩])
    (.ret)) (.skip)))))
    (.ops [⟨(some 25), .bin .add .i64 (.t 13) (.k (.lit .i64 1)), none, []⟩,
      ⟨(some 13), .mv (.t 25), none, []⟩])))))))
    (.seq (.ops [⟨(some 4), .mv (.k (.bool true)), none, []⟩])
    (.ret))))
theorem fn25 : FnOk Try.prog 25 x25 26 [4] := FnOk.of Try.call25 Try.func25 (by kernel_rfl) Try.ntmps25 (by kernel_rfl)
/-- baler/balerlaw07.wakes -/
def x26 : XC :=
  .seq (.ops [⟨(some 0), .mv (.k (.bool false)), none, []⟩])
    (.seq (.ops [⟨(some 10), .bsliceI 47 .i16 1 [⟨0, 1, (.k (.lit .i16 32))⟩], none, []⟩,
      ⟨(some 11), .call (.k (.fn 21 [])) [(.t 10), (.k (.lit .i64 5))], none, []⟩,
      ⟨(some 9), .mv (.t 11), none, []⟩,
      ⟨(some 12), .extract (.t 9) 0, none, []⟩,
      ⟨(some 13), .extract (.t 9) 1, none, []⟩,
      ⟨(some 1), .mv (.t 12), none, []⟩,
      ⟨(some 2), .mv (.t 13), none, []⟩])
    (.seq (.ops [⟨(some 15), .mv (.t 1), none, []⟩,
      ⟨(some 16), .call (.k (.fn 27 [])) [(.t 15), (.k (.lit .i64 5)), (.k (.lit .i64 3))], none, []⟩,
      ⟨(some 14), .mv (.t 16), none, []⟩,
      ⟨(some 17), .extract (.t 14) 0, none, []⟩,
      ⟨(some 18), .extract (.t 14) 1, none, []⟩,
      ⟨(some 19), .extract (.t 14) 2, none, []⟩,
      ⟨(some 20), .extract (.t 14) 3, none, []⟩,
      ⟨(some 3), .mv (.t 17), none, []⟩,
      ⟨(some 4), .mv (.t 18), none, []⟩,
      ⟨(some 5), .mv (.t 19), none, []⟩,
      ⟨(some 6), .mv (.t 20), none, []⟩])
    (.seq (.ops [⟨(some 22), .bsliceI 47 .i16 4 [⟨0, 1, (.k (.lit .i16 16))⟩, ⟨1, 1, (.k (.lit .i16 8))⟩, ⟨2, 1, (.k (.lit .i16 4))⟩, ⟨3, 1, (.k (.lit .i16 4))⟩], none, []⟩,
      ⟨(some 23), .call (.k (.fn 23 [])) [(.t 22), (.k (.lit .i64 5))], none, []⟩,
      ⟨(some 21), .mv (.t 23), none, []⟩,
      ⟨(some 24), .extract (.t 21) 0, none, []⟩,
      ⟨(some 25), .extract (.t 21) 1, none, []⟩,
      ⟨(some 7), .mv (.t 24), none, []⟩,
      ⟨(some 8), .mv (.t 25), none, []⟩])
    (.seq (.ops [⟨(some 26), .mv (.t 2), none, []⟩,
      ⟨(some 27), .cmp .eql (.t 26) (.k (.lit .i64 0)), none, []⟩,
      ⟨(some 28), .mv (.t 27), none, []⟩,
      ⟨(some 29), .mv (.t 1), some (28, true), []⟩,
      ⟨(some 30), .bstr (.t 29), some (28, true), []⟩,
      ⟨(some 31), .eqv false 1 (.t 30) (.k (.str [240, 3])), some (28, true), []⟩,
      ⟨(some 32), .pick (.t 28) (.t 31) (.k (.bool false)), none, []⟩,
      ⟨(some 33), .mv (.t 32), none, []⟩,
      ⟨(some 34), .mv (.t 6), some (33, true), []⟩,
      ⟨(some 35), .cmp .eql (.t 34) (.k (.lit .i64 0)), some (33, true), []⟩,
      ⟨(some 36), .pick (.t 33) (.t 35) (.k (.bool false)), none, []⟩,
      ⟨(some 37), .mv (.t 36), none, []⟩,
      ⟨(some 38), .mv (.t 3), some (37, true), []⟩,
      ⟨(some 39), .bsliceI 47 .i16 1 [⟨0, 1, (.k (.lit .i16 32))⟩], some (37, true), []⟩,
      ⟨(some 40), .call (.k (.fn 28 [])) [(.t 38), (.t 39)], some (37, true), []⟩,
      ⟨(some 41), .pick (.t 37) (.t 40) (.k (.bool false)), none, []⟩,
      ⟨(some 42), .mv (.t 41), none, []⟩,
      ⟨(some 43), .mv (.t 4), some (42, true), []⟩,
      ⟨(some 44), .cmp .eql (.t 43) (.k (.lit .i64 5)), some (42, true), []⟩,
      ⟨(some 45), .pick (.t 42) (.t 44) (.k (.bool false)), none, []⟩,
      ⟨(some 46), .mv (.t 45), none, []⟩,
      ⟨(some 47), .mv (.t 5), some (46, true), []⟩,
      ⟨(some 48), .cmp .eql (.t 47) (.k (.lit .i64 2)), some (46, true), []⟩,
      ⟨(some 49), .pick (.t 46) (.t 48) (.k (.bool false)), none, []⟩,
      ⟨(some 50), .mv (.t 49), none, []⟩,
      ⟨(some 51), .mv (.t 8), some (50, true), []⟩,
      ⟨(some 52), .cmp .eql (.t 51) (.k (.lit .i64 0)), some (50, true), []⟩,
      ⟨(some 53), .pick (.t 50) (.t 52) (.k (.bool false)), none, []⟩,
      ⟨(some 54), .mv (.t 53), none, []⟩,
      ⟨(some 55), .mv (.t 7), some (54, true), []⟩,
      ⟨(some 56), .len (.t 55), some (54, true), []⟩,
      ⟨(some 57), .cmp .eql (.t 56) (.k (.lit .i64 32)), some (54, true), []⟩,
      ⟨(some 58), .pick (.t 54) (.t 57) (.k (.bool false)), none, []⟩,
      ⟨(some 59), .mv (.t 58), none, []⟩,
      ⟨(some 60), .mv (.t 7), some (59, true), []⟩,
      ⟨(some 61), .iadr 3 (.t 60) (.k (.lit .i64 0)), some (59, true), []⟩,
      ⟨(some 62), .loadA 3 (.t 61), some (59, true), []⟩,
      ⟨(some 63), .build [(.lit .u8 0), (.lit .u8 0), (.lit .u16 0)] [⟨1, 1, (.k (.lit .u8 1))⟩], some (59, true), []⟩,
      ⟨(some 64), .eqR false 3 (.t 62) (.t 63), some (59, true), []⟩,
      ⟨(some 65), .pick (.t 59) (.t 64) (.k (.bool false)), none, []⟩,
      ⟨(some 66), .mv (.t 65), none, []⟩,
      ⟨(some 67), .mv (.t 7), some (66, true), []⟩,
      ⟨(some 68), .iadr 3 (.t 67) (.k (.lit .i64 23)), some (66, true), []⟩,
      ⟨(some 69), .fadr 0 (.t 68), some (66, true), []⟩,
      ⟨(some 70), .load1 (.t 69), some (66, true), []⟩,
      ⟨(some 71), .cmp .eql (.t 70) (.k (.lit .u8 0)), some (66, true), []⟩,
      ⟨(some 72), .pick (.t 66) (.t 71) (.k (.bool false)), none, []⟩,
      ⟨(some 0), .mv (.t 72), none, []⟩])
    (.ret)))))
theorem fn26 : FnOk Try.prog 26 x26 73 [0] := FnOk.of Try.call26 Try.func26 (by kernel_rfl) Try.ntmps26 (by kernel_rfl)
/-- baler/states.Read -/
def x27 : XC :=
  .seq (.ops [⟨(some 6), .mv (.k (.val (.slice none 0 0))), none, []⟩,
      ⟨(some 7), .mv (.k (.lit .i64 0)), none, []⟩,
      ⟨(some 8), .mv (.k (.lit .i64 0)), none, []⟩,
      ⟨(some 9), .mv (.k (.lit .i64 0)), none, []⟩])
    (.scope (.seq (.seq (.ops [⟨(some 21), .mv (.t 1), none, []⟩,
      ⟨(some 22), .cmp .lss (.t 21) (.k (.lit .i64 5)), none, []⟩,
      ⟨(some 23), .mv (.t 22), none, []⟩,
      ⟨(some 24), .mv (.t 1), some (23, false), []⟩,
      ⟨(some 25), .cmp .gtr (.t 24) (.k (.lit .i64 12)), some (23, false), []⟩,
      ⟨(some 26), .pick (.t 23) (.k (.bool true)) (.t 25), none, []⟩,
      ⟨(some 27), .mv (.t 26), none, []⟩,
      ⟨(some 28), .mv (.t 2), some (27, false), []⟩,
      ⟨(some 29), .cmp .lss (.t 28) (.k (.lit .i64 0)), some (27, false), []⟩,
      ⟨(some 30), .pick (.t 27) (.k (.bool true)) (.t 29), none, []⟩,
      ⟨(some 31), .mv (.t 30), none, []⟩,
      ⟨(some 32), .mv (.t 2), some (31, false), []⟩,
      ⟨(some 33), .cmp .gtr (.t 32) (.k (.lit .i64 255)), some (31, false), []⟩,
      ⟨(some 34), .pick (.t 31) (.k (.bool true)) (.t 33), none, []⟩])
    (.cond (.t 34) (.seq (.ops [⟨(some 6), .mv (.k (.val (.slice none 0 0))), none, []⟩,
      ⟨(some 7), .mv (.k (.lit .i64 0)), none, []⟩,
      ⟨(some 8), .mv (.k (.lit .i64 0)), none, []⟩,
      ⟨(some 9), .mv (.k (.lit .i64 2)), none, []⟩])
    (.ret)) (.skip)))
    (.seq (.ops [⟨(some 35), .mv (.t 0), none, []⟩,
      ⟨(some 36), .call (.k (.fn 33 [])) [(.t 35)], none, []⟩,
      ⟨(some 10), .mv (.t 36), none, []⟩])
    (.seq (.ops [⟨(some 38), .mv (.t 10), none, []⟩,
      ⟨(some 39), .call (.k (.fn 77 [])) [(.t 38), (.k (.lit .i64 4))], none, []⟩,
      ⟨(some 37), .mv (.t 39), none, []⟩,
      ⟨(some 40), .extract (.t 37) 0, none, []⟩,
      ⟨(some 41), .extract (.t 37) 1, none, []⟩,
      ⟨(some 11), .mv (.t 40), none, []⟩,
      ⟨(some 9), .mv (.t 41), none, []⟩])
    (.seq (.seq (.ops [⟨(some 42), .mv (.t 9), none, []⟩,
      ⟨(some 43), .cmp .neq (.t 42) (.k (.lit .i64 0)), none, []⟩])
    (.cond (.t 43) (.seq (.ops [⟨(some 44), .mv (.t 9), none, []⟩,
      ⟨(some 6), .mv (.k (.val (.slice none 0 0))), none, []⟩,
      ⟨(some 7), .mv (.k (.lit .i64 0)), none, []⟩,
      ⟨(some 8), .mv (.k (.lit .i64 0)), none, []⟩,
      ⟨(some 9), .mv (.t 44), none, []⟩])
    (.ret)) (.skip)))
    (.seq (.seq (.ops [⟨(some 45), .mv (.t 11), none, []⟩,
      ⟨(some 46), .conv .i64 (.t 45), none, []⟩,
      ⟨(some 47), .bin .add .i64 (.t 46) (.k (.lit .i64 5)), none, []⟩,
      ⟨(some 7), .mv (.t 47), none, []⟩])
    (.seq (.ops [⟨(some 48), .mv (.t 7), none, []⟩,
      ⟨(some 49), .mv (.t 1), none, []⟩,
      ⟨(some 50), .cmp .gtr (.t 48) (.t 49), none, []⟩])
    (.cond (.t 50) (.seq (.ops [⟨(some 6), .mv (.k (.val (.slice none 0 0))), none, []⟩,
      ⟨(some 7), .mv (.k (.lit .i64 0)), none, []⟩,
      ⟨(some 8), .mv (.k (.lit .i64 0)), none, []⟩,
      ⟨(some 9), .mv (.k (.lit .i64 11)), none, []⟩])
    (.ret)) (.skip))))
    (.seq (.ops [⟨(some 51), .mv (.t 7), none, []⟩,
      ⟨(some 52), .conv .u64 (.t 51), none, []⟩,
      ⟨(some 53), .bin .shl .i64 (.k (.lit .i64 1)) (.t 52), none, []⟩,
      ⟨(some 12), .mv (.t 53), none, []⟩])
    (.seq (.skip)
    (.seq (.block 0 (.loop (.seq (.seq (.ops [⟨(some 54), .mv (.t 12), none, []⟩,
      ⟨(some 55), .cmp .gtr (.t 54) (.k (.lit .i64 0)), none, []⟩])
    (.cond (.t 55) (.skip) (.exit 0)))
    (.block 1 (.seq (.seq (.ops [⟨(some 56), .mv (.t 6), none, []⟩,
      ⟨(some 57), .len (.t 56), none, []⟩,
      ⟨(some 58), .mv (.t 2), none, []⟩,
      ⟨(some 59), .cmp .gtr (.t 57) (.t 58), none, []⟩])
    (.cond (.t 59) (.seq (.ops [⟨(some 6), .mv (.k (.val (.slice none 0 0))), none, []⟩,
      ⟨(some 7), .mv (.k (.lit .i64 0)), none, []⟩,
      ⟨(some 8), .mv (.k (.lit .i64 0)), none, []⟩,
      ⟨(some 9), .mv (.k (.lit .i64 11)), none, []⟩])
    (.ret)) (.skip)))
    (.seq (.ops [⟨(some 60), .mv (.t 12), none, []⟩,
      ⟨(some 61), .bin .add .i64 (.t 60) (.k (.lit .i64 1)), none, []⟩,
      ⟨(some 62), .conv .u64 (.t 61), none, []⟩,
      ⟨(some 63), .call (.k (.fn 69 [])) [(.t 62)], none, []⟩,
      ⟨(some 13), .mv (.t 63), none, []⟩])
    (.seq (.ops [⟨(some 64), .mv (.t 13), none, []⟩,
      ⟨(some 65), .conv .u64 (.t 64), none, []⟩,
      ⟨(some 66), .bin .shl .i64 (.k (.lit .i64 1)) (.t 65), none, []⟩,
      ⟨(some 67), .bin .sub .i64 (.t 66) (.k (.lit .i64 1)), none, []⟩,
      ⟨(some 68), .mv (.t 12), none, []⟩,
      ⟨(some 69), .bin .add .i64 (.t 68) (.k (.lit .i64 1)), none, []⟩,
      ⟨(some 70), .bin .sub .i64 (.t 67) (.t 69), none, []⟩,
      ⟨(some 71), .conv .u64 (.t 70), none, []⟩,
      ⟨(some 14), .mv (.t 71), none, []⟩])
    (.seq (.ops [⟨(some 73), .mv (.t 10), none, []⟩,
      ⟨(some 74), .mv (.t 13), none, []⟩,
      ⟨(some 75), .bin .sub .i64 (.t 74) (.k (.lit .i64 1)), none, []⟩,
      ⟨(some 76), .call (.k (.fn 77 [])) [(.t 73), (.t 75)], none, []⟩,
      ⟨(some 72), .mv (.t 76), none, []⟩,
      ⟨(some 77), .extract (.t 72) 0, none, []⟩,
      ⟨(some 78), .extract (.t 72) 1, none, []⟩,
      ⟨(some 15), .mv (.t 77), none, []⟩,
      ⟨(some 16), .mv (.t 78), none, []⟩])
    (.seq (.seq (.ops [⟨(some 79), .mv (.t 16), none, []⟩,
      ⟨(some 80), .cmp .neq (.t 79) (.k (.lit .i64 0)), none, []⟩])
    (.cond (.t 80) (.seq (.ops [⟨(some 81), .mv (.t 16), none, []⟩,
      ⟨(some 6), .mv (.k (.val (.slice none 0 0))), none, []⟩,
      ⟨(some 7), .mv (.k (.lit .i64 0)), none, []⟩,
      ⟨(some 8), .mv (.k (.lit .i64 0)), none, []⟩,
      ⟨(some 9), .mv (.t 81), none, []⟩])
    (.ret)) (.skip)))
    (.seq (.seq (.ops [⟨(some 82), .mv (.t 15), none, []⟩,
      ⟨(some 83), .mv (.t 14), none, []⟩,
      ⟨(some 84), .cmp .geq (.t 82) (.t 83), none, []⟩])
    (.cond (.t 84) (.seq (.ops [⟨(some 86), .mv (.t 10), none, []⟩,
      ⟨(some 87), .call (.k (.fn 77 [])) [(.t 86), (.k (.lit .i64 1))], none, []⟩,
      ⟨(some 85), .mv (.t 87), none, []⟩,
      ⟨(some 88), .extract (.t 85) 0, none, []⟩,
      ⟨(some 89), .extract (.t 85) 1, none, []⟩,
      ⟨(some 17), .mv (.t 88), none, []⟩,
      ⟨(some 18), .mv (.t 89), none, []⟩])
    (.seq (.seq (.ops [⟨(some 90), .mv (.t 18), none, []⟩,
      ⟨(some 91), .cmp .neq (.t 90) (.k (.lit .i64 0)), none, []⟩])
    (.cond (.t 91) (.seq (.ops [⟨(some 92), .mv (.t 18), none, []⟩,
      ⟨(some 6), .mv (.k (.val (.slice none 0 0))), none, []⟩,
      ⟨(some 7), .mv (.k (.lit .i64 0)), none, []⟩,
      ⟨(some 8), .mv (.k (.lit .i64 0)), none, []⟩,
      ⟨(some 9), .mv (.t 92), none, []⟩])
    (.ret)) (.skip)))
    (.seq (.ops [⟨(some 93), .mv (.t 17), none, []⟩,
      ⟨(some 94), .cmp .eql (.t 93) (.k (.lit .u64 1)), none, []⟩])
    (.cond (.t 94) (.ops [⟨(some 95), .mv (.t 15), none, []⟩,
      ⟨(some 96), .mv (.t 13), none, []⟩,
      ⟨(some 97), .bin .sub .i64 (.t 96) (.k (.lit .i64 1)), none, []⟩,
      ⟨(some 98), .conv .u64 (.t 97), none, []⟩,
      ⟨(some 99), .bin .shl .u64 (.k (.lit .u64 1)) (.t 98), none, []⟩,
      ⟨(some 100), .mv (.t 14), none, []⟩,
      ⟨(some 101), .bin .sub .u64 (.t 99) (.t 100), none, []⟩,
      ⟨(some 102), .bin .add .u64 (.t 95) (.t 101), none, []⟩,
      ⟨(some 15), .mv (.t 102), none, []⟩]) (.skip))))) (.skip)))
    (.seq (.ops [⟨(some 103), .mv (.t 15), none, []⟩,
      ⟨(some 104), .conv .i16 (.t 103), none, []⟩,
      ⟨(some 105), .bin .sub .i16 (.t 104) (.k (.lit .i16 1)), none, []⟩,
      ⟨(some 19), .mv (.t 105), none, []⟩])
    (.seq (.ops [⟨(some 106), .mv (.t 6), none, []⟩,
      ⟨(some 107), .mv (.t 19), none, []⟩,
      ⟨(some 108), .bsliceI 47 .i16 1 [⟨0, 1, (.t 107)⟩], none, []⟩,
      ⟨(some 109), .appI 47 .i16 2 (.t 106) (.t 108), none, []⟩,
      ⟨(some 6), .mv (.t 109), none, []⟩])
    (.seq (.ops [⟨(some 110), .mv (.t 12), none, []⟩,
      ⟨(some 111), .mv (.t 19), none, []⟩,
      ⟨(some 112), .call (.k (.fn 70 [])) [(.t 111)], none, []⟩,
      ⟨(some 113), .bin .sub .i64 (.t 110) (.t 112), none, []⟩,
      ⟨(some 12), .mv (.t 113), none, []⟩])
    (.seq (.seq (.ops [⟨(some 114), .mv (.t 19), none, []⟩,
      ⟨(some 115), .cmp .neq (.t 114) (.k (.lit .i16 0)), none, []⟩])
    (.cond (.t 115) (.exit 1) (.skip)))
    (.seq (.seq (.ops [⟨(some 116), .mv (.t 6), none, []⟩,
      ⟨(some 117), .len (.t 116), none, []⟩,
      ⟨(some 118), .mv (.t 2), none, []⟩,
      ⟨(some 119), .cmp .gtr (.t 117) (.t 118), none, []⟩])
    (.cond (.t 119) (.seq (.ops [⟨(some 6), .mv (.k (.val (.slice none 0 0))), none, []⟩,
      ⟨(some 7), .mv (.k (.lit .i64 0)), none, []⟩,
      ⟨(some 8), .mv (.k (.lit .i64 0)), none, []⟩,
      ⟨(some 9), .mv (.k (.lit .i64 11)), none, []⟩])
    (.ret)) (.skip)))
    (.seq (.ops [⟨(some 20), .mv (.k (.lit .u64 3)), none, []⟩])
    (.block 2 (.loop (.seq (.seq (.ops [⟨(some 120), .mv (.t 20), none, []⟩,
      ⟨(some 121), .cmp .eql (.t 120) (.k (.lit .u64 3)), none, []⟩])
    (.cond (.t 121) (.skip) (.exit 2)))
    (.block 3 (.seq (.seq (.ops [⟨(some 123), .mv (.t 10), none, []⟩,
      ⟨(some 124), .call (.k (.fn 77 [])) [(.t 123), (.k (.lit .i64 2))], none, []⟩,
      ⟨(some 122), .mv (.t 124), none, []⟩,
      ⟨(some 125), .extract (.t 122) 0, none, []⟩,
      ⟨(some 126), .extract (.t 122) 1, none, []⟩,
      ⟨(some 20), .mv (.t 125), none, []⟩,
      ⟨(some 16), .mv (.t 126), none, []⟩])
    (.seq (.ops [⟨(some 127), .mv (.t 16), none, []⟩,
      ⟨(some 128), .cmp .neq (.t 127) (.k (.lit .i64 0)), none, []⟩])
    (.cond (.t 128) (.seq (.ops [⟨(some 129), .mv (.t 16), none, []⟩,
      ⟨(some 6), .mv (.k (.val (.slice none 0 0))), none, []⟩,
      ⟨(some 7), .mv (.k (.lit .i64 0)), none, []⟩,
      ⟨(some 8), .mv (.k (.lit .i64 0)), none, []⟩,
      ⟨(some 9), .mv (.t 129), none, []⟩])
    (.ret)) (.skip))))
    (.seq (.ops [⟨(some 130), .mv (.t 6), none, []⟩,
      ⟨(some 131), .mv (.t 20), none, []⟩,
      ⟨(some 132), .appZ 47 .i16 2 (.t 130) (.t 131), none, []⟩,
      ⟨(some 6), .mv (.t 132), none, []⟩])
    (.seq (.ops [⟨(some 133), .mv (.t 6), none, []⟩,
      ⟨(some 134), .len (.t 133), none, []⟩,
      ⟨(some 135), .mv (.t 2), none, []⟩,
      ⟨(some 136), .cmp .gtr (.t 134) (.t 135), none, []⟩])
    (.cond (.t 136) (.seq (.ops [⟨(some 6), .mv (.k (.val (.slice none 0 0))), none, []⟩,
      ⟨(some 7), .mv (.k (.lit .i64 0)), none, []⟩,
      ⟨(some 8), .mv (.k (.lit .i64 0)), none, []⟩,
      ⟨(some 9), .mv (.k (.lit .i64 11)), none, []⟩])
    (.ret)) (.skip)))))))))))))))))))))))))
    (.seq (.ops [⟨(some 137), .mv (.t 6), none, []⟩,
      ⟨(some 138), .mv (.t 7), none, []⟩,
      ⟨(some 139), .mv (.t 0), none, []⟩,
      ⟨(some 140), .len (.t 139), none, []⟩,
      ⟨(some 141), .mv (.t 10), none, []⟩,
      ⟨(some 142), .call (.k (.fn 35 [])) [(.t 141)], none, []⟩,
      ⟨(some 143), .bin .quo .i64 (.t 142) (.k (.lit .i64 8)), none, []⟩,
      ⟨(some 144), .bin .sub .i64 (.t 140) (.t 143), none, []⟩,
      ⟨(some 6), .mv (.t 137), none, []⟩,
      ⟨(some 7), .mv (.t 138), none, []⟩,
      ⟨(some 8), .mv (.t 144), none, []⟩,
      ⟨(some 9), .mv (.k (.lit .i64 0)), none, []⟩])
    (.ret)))))))))))
theorem fn27 : FnOk Try.prog 27 x27 145 [6, 7, 8, 9] := FnOk.of Try.call27 Try.func27 (by kernel_rfl) Try.ntmps27 (by kernel_rfl)
/-- baler/balerlaw07.same -/
def x28 : XC :=
  .seq (.ops [⟨(some 4), .mv (.k (.bool false)), none, []⟩])
    (.seq (.seq (.ops [⟨(some 6), .mv (.t 0), none, []⟩,
      ⟨(some 7), .len (.t 6), none, []⟩,
      ⟨(some 8), .mv (.t 1), none, []⟩,
      ⟨(some 9), .len (.t 8), none, []⟩,
      ⟨(some 10), .cmp .neq (.t 7) (.t 9), none, []⟩])
    (.cond (.t 10) (.seq (.ops [⟨(some 4), .mv (.k (.bool false)), none, []⟩])
    (.ret)) (.skip)))
    (.seq (.seq (.ops [⟨(some 11), .mv (.t 0), none, []⟩,
      ⟨(some 12), .len (.t 11), none, []⟩,
      ⟨(some 13), .mv (.k (.lit .i64 0)), none, []⟩])
    (.block 0 (.loop (.seq (.ops [⟨(some 14), .cmp .lss (.t 13) (.t 12), none, []⟩])
    (.seq (.cond (.t 14) (.skip) (.exit 0))
    (.seq (.block 1 (.seq (.ops [⟨(some 15), .mv (.t 13), none, []⟩,
      ⟨(some 5), .mv (.t 15), none, []⟩])
    (.seq (.ops [⟨(some 16), .mv (.t 0), none, []⟩,
      ⟨(some 17), .mv (.t 5), none, []⟩,
      ⟨(some 18), .iadr 1 (.t 16) (.t 17), none, []⟩,
      ⟨(some 19), .load1 (.t 18), none, []⟩,
      ⟨(some 20), .mv (.t 1), none, []⟩,
      ⟨(some 21), .mv (.t 5), none, []⟩,
      ⟨(some 22), .iadr 1 (.t 20) (.t 21), none, []⟩,
      ⟨(some 23), .load1 (.t 22), none, []⟩,
      ⟨(some 24), .cmp .neq (.t 19) (.t 23), none, []⟩])
    (.cond (.t 24) (.seq (.ops [⟨(some 4), .mv (.k (.bool false)), none, []⟩])
    (.ret)) (.skip)))))
    (.ops [⟨(some 25), .bin .add .i64 (.t 13) (.k (.lit .i64 1)), none, []⟩,
      ⟨(some 13), .mv (.t 25), none, []⟩])))))))
    (.seq (.ops [⟨(some 4), .mv (.k (.bool true)), none, []⟩])
    (.ret))))
theorem fn28 : FnOk Try.prog 28 x28 26 [4] := FnOk.of Try.call28 Try.func28 (by kernel_rfl) Try.ntmps28 (by kernel_rfl)
/-- baler/states.Counts -/
def x29 : XC :=
  .seq (.ops [⟨(some 4), .mv (.k (.val (.slice none 0 0))), none, []⟩,
      ⟨(some 5), .mv (.k (.lit .i64 0)), none, []⟩])
    (.seq (.ops [⟨(some 6), .mv (.k (.lit .i64 0)), none, []⟩,
      ⟨(some 7), .mv (.k (.lit .u64 0)), none, []⟩,
      ⟨(some 8), .mv (.k (.lit .i64 0)), none, []⟩])
    (.seq (.seq (.ops [⟨(some 17), .mv (.t 0), none, []⟩,
      ⟨(some 18), .len (.t 17), none, []⟩,
      ⟨(some 19), .mv (.k (.lit .i64 0)), none, []⟩])
    (.block 0 (.loop (.seq (.ops [⟨(some 20), .cmp .lss (.t 19) (.t 18), none, []⟩])
    (.seq (.cond (.t 20) (.skip) (.exit 0))
    (.seq (.block 1 (.seq (.ops [⟨(some 21), .mv (.t 19), none, []⟩,
      ⟨(some 22), .iadr 1 (.t 17) (.t 19), none, []⟩,
      ⟨(some 23), .load1 (.t 22), none, []⟩,
      ⟨(some 9), .mv (.t 21), none, []⟩,
      ⟨(some 10), .mv (.t 23), none, []⟩])
    (.seq (.ops [⟨(some 24), .mv (.t 10), none, []⟩,
      ⟨(some 25), .cmp .gtr (.t 24) (.k (.lit .u32 0)), none, []⟩])
    (.cond (.t 25) (.ops [⟨(some 26), .mv (.t 6), none, []⟩,
      ⟨(some 27), .bin .add .i64 (.t 26) (.k (.lit .i64 1)), none, []⟩,
      ⟨(some 28), .mv (.t 7), none, []⟩,
      ⟨(some 29), .mv (.t 10), none, []⟩,
      ⟨(some 30), .conv .u64 (.t 29), none, []⟩,
      ⟨(some 31), .bin .add .u64 (.t 28) (.t 30), none, []⟩,
      ⟨(some 32), .mv (.t 9), none, []⟩,
      ⟨(some 6), .mv (.t 27), none, []⟩,
      ⟨(some 7), .mv (.t 31), none, []⟩,
      ⟨(some 8), .mv (.t 32), none, []⟩]) (.skip)))))
    (.ops [⟨(some 33), .bin .add .i64 (.t 19) (.k (.lit .i64 1)), none, []⟩,
      ⟨(some 19), .mv (.t 33), none, []⟩])))))))
    (.seq (.seq (.ops [⟨(some 34), .mv (.t 0), none, []⟩,
      ⟨(some 35), .len (.t 34), none, []⟩,
      ⟨(some 36), .cmp .gtr (.t 35) (.k (.lit .i64 256)), none, []⟩,
      ⟨(some 37), .mv (.t 36), none, []⟩,
      ⟨(some 38), .mv (.t 1), some (37, false), []⟩,
      ⟨(some 39), .cmp .lss (.t 38) (.k (.lit .i64 5)), some (37, false), []⟩,
      ⟨(some 40), .pick (.t 37) (.k (.bool true)) (.t 39), none, []⟩,
      ⟨(some 41), .mv (.t 40), none, []⟩,
      ⟨(some 42), .mv (.t 1), some (41, false), []⟩,
      ⟨(some 43), .cmp .gtr (.t 42) (.k (.lit .i64 12)), some (41, false), []⟩,
      ⟨(some 44), .pick (.t 41) (.k (.bool true)) (.t 43), none, []⟩,
      ⟨(some 45), .mv (.t 44), none, []⟩,
      ⟨(some 46), .mv (.t 6), some (45, false), []⟩,
      ⟨(some 47), .cmp .eql (.t 46) (.k (.lit .i64 0)), some (45, false), []⟩,
      ⟨(some 48), .pick (.t 45) (.k (.bool true)) (.t 47), none, []⟩,
      ⟨(some 49), .mv (.t 48), none, []⟩,
      ⟨(some 50), .mv (.t 6), some (49, false), []⟩,
      ⟨(some 51), .mv (.t 1), some (49, false), []⟩,
      ⟨(some 52), .conv .u64 (.t 51), some (49, false), []⟩,
      ⟨(some 53), .bin .shl .i64 (.k (.lit .i64 1)) (.t 52), some (49, false), []⟩,
      ⟨(some 54), .cmp .gtr (.t 50) (.t 53), some (49, false), []⟩,
      ⟨(some 55), .pick (.t 49) (.k (.bool true)) (.t 54), none, []⟩])
    (.cond (.t 55) (.seq (.ops [⟨(some 4), .mv (.k (.val (.slice none 0 0))), none, []⟩,
      ⟨(some 5), .mv (.k (.lit .i64 2)), none, []⟩])
    (.ret)) (.skip)))
    (.seq (.ops [⟨(some 56), .mv (.t 8), none, []⟩,
      ⟨(some 57), .bin .add .i64 (.t 56) (.k (.lit .i64 1)), none, []⟩,
      ⟨(some 58), .mkslI 47 .i16 2 (.t 57) (.t 57), none, []⟩,
      ⟨(some 11), .mv (.t 58), none, []⟩])
    (.seq (.ops [⟨(some 59), .mv (.t 1), none, []⟩,
      ⟨(some 60), .conv .u64 (.t 59), none, []⟩,
      ⟨(some 61), .bin .shl .i64 (.k (.lit .i64 1)) (.t 60), none, []⟩,
      ⟨(some 62), .mv (.t 6), none, []⟩,
      ⟨(some 63), .bin .sub .i64 (.t 61) (.t 62), none, []⟩,
      ⟨(some 12), .mv (.t 63), none, []⟩])
    (.seq (.ops [⟨(some 64), .mv (.t 12), none, []⟩,
      ⟨(some 65), .conv .u64 (.t 64), none, []⟩,
      ⟨(some 13), .mv (.t 65), none, []⟩])
    (.seq (.ops [⟨(some 66), .mv (.t 8), none, []⟩,
      ⟨(some 14), .mv (.t 66), none, []⟩])
    (.seq (.seq (.ops [⟨(some 67), .mv (.t 11), none, []⟩,
      ⟨(some 68), .len (.t 67), none, []⟩,
      ⟨(some 69), .mv (.k (.lit .i64 0)), none, []⟩])
    (.block 2 (.loop (.seq (.ops [⟨(some 70), .cmp .lss (.t 69) (.t 68), none, []⟩])
    (.seq (.cond (.t 70) (.skip) (.exit 2))
    (.seq (.block 3 (.seq (.ops [⟨(some 71), .mv (.t 69), none, []⟩,
      ⟨(some 15), .mv (.t 71), none, []⟩])
    (.seq (.seq (.ops [⟨(some 72), .mv (.t 0), none, []⟩,
      ⟨(some 73), .mv (.t 15), none, []⟩,
      ⟨(some 74), .iadr 1 (.t 72) (.t 73), none, []⟩,
      ⟨(some 75), .load1 (.t 74), none, []⟩,
      ⟨(some 76), .cmp .eql (.t 75) (.k (.lit .u32 0)), none, []⟩])
    (.cond (.t 76) (.exit 3) (.skip)))
    (.seq (.ops [⟨(some 77), .mv (.t 0), none, []⟩,
      ⟨(some 78), .mv (.t 15), none, []⟩,
      ⟨(some 79), .iadr 1 (.t 77) (.t 78), none, []⟩,
      ⟨(some 80), .load1 (.t 79), none, []⟩,
      ⟨(some 81), .conv .u64 (.t 80), none, []⟩,
      ⟨(some 82), .mv (.t 13), none, []⟩,
      ⟨(some 83), .bin .mul .u64 (.t 81) (.t 82), none, []⟩,
      ⟨(some 84), .mv (.t 7), none, []⟩,
      ⟨(some 85), .bin .quo .u64 (.t 83) (.t 84), none, []⟩,
      ⟨(some 86), .conv .i64 (.t 85), none, []⟩,
      ⟨(some 16), .mv (.t 86), none, []⟩])
    (.seq (.ops [⟨(some 87), .mv (.t 11), none, []⟩,
      ⟨(some 88), .mv (.t 15), none, []⟩,
      ⟨(some 89), .mv (.t 16), none, []⟩,
      ⟨(some 90), .bin .add .i64 (.k (.lit .i64 1)) (.t 89), none, []⟩,
      ⟨(some 91), .conv .i16 (.t 90), none, []⟩,
      ⟨(some 92), .iadr 1 (.t 87) (.t 88), none, []⟩,
      ⟨none, .store1 (.t 92) (.t 91), none, []⟩])
    (.seq (.ops [⟨(some 93), .mv (.t 12), none, []⟩,
      ⟨(some 94), .mv (.t 16), none, []⟩,
      ⟨(some 95), .bin .sub .i64 (.t 93) (.t 94), none, []⟩,
      ⟨(some 12), .mv (.t 95), none, []⟩])
    (.seq (.ops [⟨(some 96), .mv (.t 0), none, []⟩,
      ⟨(some 97), .mv (.t 15), none, []⟩,
      ⟨(some 98), .iadr 1 (.t 96) (.t 97), none, []⟩,
      ⟨(some 99), .load1 (.t 98), none, []⟩,
      ⟨(some 100), .mv (.t 0), none, []⟩,
      ⟨(some 101), .mv (.t 14), none, []⟩,
      ⟨(some 102), .iadr 1 (.t 100) (.t 101), none, []⟩,
      ⟨(some 103), .load1 (.t 102), none, []⟩,
      ⟨(some 104), .cmp .gtr (.t 99) (.t 103), none, []⟩])
    (.cond (.t 104) (.ops [⟨(some 105), .mv (.t 15), none, []⟩,
      ⟨(some 14), .mv (.t 105), none, []⟩]) (.skip)))))))))
    (.ops [⟨(some 106), .bin .add .i64 (.t 69) (.k (.lit .i64 1)), none, []⟩,
      ⟨(some 69), .mv (.t 106), none, []⟩])))))))
    (.seq (.ops [⟨(some 107), .mv (.t 11), none, []⟩,
      ⟨(some 108), .mv (.t 14), none, []⟩,
      ⟨(some 109), .iadr 1 (.t 107) (.t 108), none, []⟩,
      ⟨(some 110), .load1 (.t 109), none, []⟩,
      ⟨(some 111), .mv (.t 12), none, []⟩,
      ⟨(some 112), .conv .i16 (.t 111), none, []⟩,
      ⟨(some 113), .bin .add .i16 (.t 110) (.t 112), none, []⟩,
      ⟨(some 114), .iadr 1 (.t 107) (.t 108), none, []⟩,
      ⟨none, .store1 (.t 114) (.t 113), none, []⟩])
    (.seq (.ops [⟨(some 115), .mv (.t 11), none, []⟩,
      ⟨(some 4), .mv (.t 115), none, []⟩,
      ⟨(some 5), .mv (.k (.lit .i64 0)), none, []⟩])
    (.ret)))))))))))
theorem fn29 : FnOk Try.prog 29 x29 116 [4, 5] := FnOk.of Try.call29 Try.func29 (by kernel_rfl) Try.ntmps29 (by kernel_rfl)
/-- baler/balerref07.Able -/
def x30 : XC :=
  .seq (.ops [⟨(some 4), .mv (.k (.bool false)), none, []⟩])
    (.seq (.seq (.ops [⟨(some 7), .mv (.t 0), none, []⟩,
      ⟨(some 8), .len (.t 7), none, []⟩,
      ⟨(some 9), .cmp .gtr (.t 8) (.k (.lit .i64 256)), none, []⟩,
      ⟨(some 10), .mv (.t 9), none, []⟩,
      ⟨(some 11), .mv (.t 1), some (10, false), []⟩,
      ⟨(some 12), .cmp .lss (.t 11) (.k (.lit .i64 5)), some (10, false), []⟩,
      ⟨(some 13), .pick (.t 10) (.k (.bool true)) (.t 12), none, []⟩,
      ⟨(some 14), .mv (.t 13), none, []⟩,
      ⟨(some 15), .mv (.t 1), some (14, false), []⟩,
      ⟨(some 16), .cmp .gtr (.t 15) (.k (.lit .i64 12)), some (14, false), []⟩,
      ⟨(some 17), .pick (.t 14) (.k (.bool true)) (.t 16), none, []⟩])
    (.cond (.t 17) (.seq (.ops [⟨(some 4), .mv (.k (.bool false)), none, []⟩])
    (.ret)) (.skip)))
    (.seq (.ops [⟨(some 5), .mv (.k (.lit .i64 0)), none, []⟩])
    (.seq (.seq (.ops [⟨(some 6), .mv (.k (.lit .i64 0)), none, []⟩])
    (.block 0 (.loop (.seq (.seq (.ops [⟨(some 18), .mv (.t 6), none, []⟩,
      ⟨(some 19), .mv (.t 0), none, []⟩,
      ⟨(some 20), .len (.t 19), none, []⟩,
      ⟨(some 21), .cmp .lss (.t 18) (.t 20), none, []⟩])
    (.cond (.t 21) (.skip) (.exit 0)))
    (.seq (.block 1 (.seq (.ops [⟨(some 24), .mv (.t 0), none, []⟩,
      ⟨(some 25), .mv (.t 6), none, []⟩,
      ⟨(some 26), .iadr 1 (.t 24) (.t 25), none, []⟩,
      ⟨(some 27), .load1 (.t 26), none, []⟩,
      ⟨(some 28), .cmp .gtr (.t 27) (.k (.lit .u32 0)), none, []⟩])
    (.cond (.t 28) (.ops [⟨(some 29), .mv (.t 5), none, []⟩,
      ⟨(some 30), .bin .add .i64 (.t 29) (.k (.lit .i64 1)), none, []⟩,
      ⟨(some 5), .mv (.t 30), none, []⟩]) (.skip))))
    (.ops [⟨(some 22), .mv (.t 6), none, []⟩,
      ⟨(some 23), .bin .add .i64 (.t 22) (.k (.lit .i64 1)), none, []⟩,
      ⟨(some 6), .mv (.t 23), none, []⟩]))))))
    (.seq (.ops [⟨(some 31), .mv (.t 5), none, []⟩,
      ⟨(some 32), .cmp .geq (.t 31) (.k (.lit .i64 1)), none, []⟩,
      ⟨(some 33), .mv (.t 32), none, []⟩,
      ⟨(some 34), .mv (.t 5), some (33, true), []⟩,
      ⟨(some 35), .mv (.t 1), some (33, true), []⟩,
      ⟨(some 36), .conv .u64 (.t 35), some (33, true), []⟩,
      ⟨(some 37), .bin .shl .i64 (.k (.lit .i64 1)) (.t 36), some (33, true), []⟩,
      ⟨(some 38), .cmp .leq (.t 34) (.t 37), some (33, true), []⟩,
      ⟨(some 39), .pick (.t 33) (.t 38) (.k (.bool false)), none, []⟩,
      ⟨(some 4), .mv (.t 39), none, []⟩])
    (.ret)))))
theorem fn30 : FnOk Try.prog 30 x30 40 [4] := FnOk.of Try.call30 Try.func30 (by kernel_rfl) Try.ntmps30 (by kernel_rfl)
/-- baler/balerref07.Right -/
def x31 : XC :=
  .seq (.ops [⟨(some 4), .mv (.k (.bool false)), none, []⟩])
    (.seq (.seq (.ops [⟨(some 7), .mv (.t 1), none, []⟩,
      ⟨(some 8), .cmp .lss (.t 7) (.k (.lit .i64 5)), none, []⟩,
      ⟨(some 9), .mv (.t 8), none, []⟩,
      ⟨(some 10), .mv (.t 1), some (9, false), []⟩,
      ⟨(some 11), .cmp .gtr (.t 10) (.k (.lit .i64 12)), some (9, false), []⟩,
      ⟨(some 12), .pick (.t 9) (.k (.bool true)) (.t 11), none, []⟩,
      ⟨(some 13), .mv (.t 12), none, []⟩,
      ⟨(some 14), .mv (.t 0), some (13, false), []⟩,
      ⟨(some 15), .len (.t 14), some (13, false), []⟩,
      ⟨(some 16), .cmp .eql (.t 15) (.k (.lit .i64 0)), some (13, false), []⟩,
      ⟨(some 17), .pick (.t 13) (.k (.bool true)) (.t 16), none, []⟩,
      ⟨(some 18), .mv (.t 17), none, []⟩,
      ⟨(some 19), .mv (.t 0), some (18, false), []⟩,
      ⟨(some 20), .len (.t 19), some (18, false), []⟩,
      ⟨(some 21), .cmp .gtr (.t 20) (.k (.lit .i64 256)), some (18, false), []⟩,
      ⟨(some 22), .pick (.t 18) (.k (.bool true)) (.t 21), none, []⟩,
      ⟨(some 23), .mv (.t 22), none, []⟩,
      ⟨(some 24), .mv (.t 0), some (23, false), []⟩,
      ⟨(some 25), .mv (.t 0), some (23, false), []⟩,
      ⟨(some 26), .len (.t 25), some (23, false), []⟩,
      ⟨(some 27), .bin .sub .i64 (.t 26) (.k (.lit .i64 1)), some (23, false), []⟩,
      ⟨(some 28), .iadr 1 (.t 24) (.t 27), some (23, false), []⟩,
      ⟨(some 29), .load1 (.t 28), some (23, false), []⟩,
      ⟨(some 30), .cmp .eql (.t 29) (.k (.lit .i16 0)), some (23, false), []⟩,
      ⟨(some 31), .pick (.t 23) (.k (.bool true)) (.t 30), none, []⟩])
    (.cond (.t 31) (.seq (.ops [⟨(some 4), .mv (.k (.bool false)), none, []⟩])
    (.ret)) (.skip)))
    (.seq (.ops [⟨(some 5), .mv (.k (.lit .i64 0)), none, []⟩])
    (.seq (.seq (.ops [⟨(some 6), .mv (.k (.lit .i64 0)), none, []⟩])
    (.block 0 (.loop (.seq (.seq (.ops [⟨(some 32), .mv (.t 6), none, []⟩,
      ⟨(some 33), .mv (.t 0), none, []⟩,
      ⟨(some 34), .len (.t 33), none, []⟩,
      ⟨(some 35), .cmp .lss (.t 32) (.t 34), none, []⟩])
    (.cond (.t 35) (.skip) (.exit 0)))
    (.seq (.block 1 (.seq (.seq (.ops [⟨(some 38), .mv (.t 0), none, []⟩,
      ⟨(some 39), .mv (.t 6), none, []⟩,
      ⟨(some 40), .iadr 1 (.t 38) (.t 39), none, []⟩,
      ⟨(some 41), .load1 (.t 40), none, []⟩,
      ⟨(some 42), .cmp .lss (.t 41) (.k (.lit .i16 (-1))), none, []⟩])
    (.cond (.t 42) (.seq (.ops [⟨(some 4), .mv (.k (.bool false)), none, []⟩])
    (.ret)) (.skip)))
    (.ops [⟨(some 43), .mv (.t 5), none, []⟩,
      ⟨(some 44), .mv (.t 0), none, []⟩,
      ⟨(some 45), .mv (.t 6), none, []⟩,
      ⟨(some 46), .iadr 1 (.t 44) (.t 45), none, []⟩,
      ⟨(some 47), .load1 (.t 46), none, []⟩,
      ⟨(some 48), .call (.k (.fn 73 [])) [(.t 47)], none, []⟩,
      ⟨(some 49), .bin .add .i64 (.t 43) (.t 48), none, []⟩,
      ⟨(some 5), .mv (.t 49), none, []⟩])))
    (.ops [⟨(some 36), .mv (.t 6), none, []⟩,
      ⟨(some 37), .bin .add .i64 (.t 36) (.k (.lit .i64 1)), none, []⟩,
      ⟨(some 6), .mv (.t 37), none, []⟩]))))))
    (.seq (.ops [⟨(some 50), .mv (.t 5), none, []⟩,
      ⟨(some 51), .mv (.t 1), none, []⟩,
      ⟨(some 52), .conv .u64 (.t 51), none, []⟩,
      ⟨(some 53), .bin .shl .i64 (.k (.lit .i64 1)) (.t 52), none, []⟩,
      ⟨(some 54), .cmp .eql (.t 50) (.t 53), none, []⟩,
      ⟨(some 4), .mv (.t 54), none, []⟩])
    (.ret)))))
theorem fn31 : FnOk Try.prog 31 x31 55 [4] := FnOk.of Try.call31 Try.func31 (by kernel_rfl) Try.ntmps31 (by kernel_rfl)
/-- baler/bits.New -/
def x33 : XC :=
  .seq (.ops [⟨(some 2), .mv (.k (.val (.pointer none))), none, []⟩])
    (.seq (.ops [⟨(some 5), .bsliceI 5 .u8 0 [], none, []⟩,
      ⟨(some 6), .mv (.t 0), none, []⟩,
      ⟨(some 7), .appI 5 .u8 1 (.t 5) (.t 6), none, []⟩,
      ⟨(some 3), .newR 23 [(.val (.slice none 0 0))], none, []⟩,
      ⟨none, .store1 (.t 3) (.t 7), none, []⟩])
    (.seq (.ops [⟨(some 4), .newR 3 [(.lit .i64 0)], none, []⟩,
      ⟨none, .store1 (.t 4) (.k (.lit .i64 0)), none, []⟩])
    (.seq (.ops [⟨(some 8), .mkfn 80 [(.t 4), (.t 3)], none, []⟩,
      ⟨(some 9), .mkfn 81 [(.t 3), (.t 4)], none, []⟩,
      ⟨(some 10), .build [(.val .nilFunc), (.lit .u64 0), (.lit .i64 0), (.val .nilFunc)] [⟨0, 1, (.t 8)⟩, ⟨3, 1, (.t 9)⟩], none, []⟩,
      ⟨(some 11), .box 131 none (.t 10), none, []⟩,
      ⟨(some 2), .mv (.t 11), none, []⟩])
    (.ret))))
theorem fn33 : FnOk Try.prog 33 x33 12 [2] := FnOk.of Try.call33 Try.func33 (by kernel_rfl) Try.ntmps33 (by kernel_rfl)
/-- (*baler/bits.Reader).Left -/
def x35 : XC :=
  .seq (.ops [⟨(some 2), .mv (.k (.lit .i64 0)), none, []⟩])
    (.seq (.seq (.ops [⟨(some 3), .mv (.t 0), none, []⟩,
      ⟨(some 4), .eqv false 2 (.t 3) (.k (.val (.pointer none))), none, []⟩])
    (.cond (.t 4) (.seq (.ops [⟨(some 2), .mv (.k (.lit .i64 0)), none, []⟩])
    (.ret)) (.skip)))
    (.seq (.ops [⟨(some 5), .mv (.t 0), none, []⟩,
      ⟨(some 6), .nilchk (.t 5), none, []⟩,
      ⟨(some 7), .fadr 2 (.t 6), none, []⟩,
      ⟨(some 8), .load1 (.t 7), none, []⟩,
      ⟨(some 9), .mv (.t 0), none, []⟩,
      ⟨(some 10), .nilchk (.t 9), none, []⟩,
      ⟨(some 11), .fadr 3 (.t 10), none, []⟩,
      ⟨(some 12), .load1 (.t 11), none, []⟩,
      ⟨(some 13), .call (.t 12) [], none, [(.load1 (.t 7), 8, none)]⟩,
      ⟨(some 14), .bin .add .i64 (.t 8) (.t 13), none, []⟩,
      ⟨(some 2), .mv (.t 14), none, []⟩])
    (.ret)))
theorem fn35 : FnOk Try.prog 35 x35 15 [2] := FnOk.of Try.call35 Try.func35 (by kernel_rfl) Try.ntmps35 (by kernel_rfl)
/-- baler/states.Ahead -/
def x36 : XC :=
  .seq (.ops [⟨(some 6), .mv (.k (.lit .i64 0)), none, []⟩,
      ⟨(some 7), .mv (.k (.bool false)), none, []⟩])
    (.seq (.seq (.ops [⟨(some 10), .mv (.t 0), none, []⟩,
      ⟨(some 11), .len (.t 10), none, []⟩,
      ⟨(some 12), .mv (.k (.lit .i64 0)), none, []⟩])
    (.block 0 (.loop (.seq (.ops [⟨(some 13), .cmp .lss (.t 12) (.t 11), none, []⟩])
    (.seq (.cond (.t 13) (.skip) (.exit 0))
    (.seq (.block 1 (.seq (.ops [⟨(some 14), .mv (.t 12), none, []⟩,
      ⟨(some 15), .iadr 3 (.t 10) (.t 12), none, []⟩,
      ⟨(some 16), .loadA 3 (.t 15), none, []⟩,
      ⟨(some 9), .newR 65 [(.lit .u8 0), (.lit .u8 0), (.lit .u16 0)], none, []⟩,
      ⟨(some 8), .mv (.t 14), none, []⟩,
      ⟨none, .storeA 3 (.t 9) (.t 16), none, []⟩])
    (.seq (.ops [⟨(some 17), .fadr 0 (.t 9), none, []⟩,
      ⟨(some 18), .load1 (.t 17), none, []⟩,
      ⟨(some 19), .mv (.t 1), none, []⟩,
      ⟨(some 20), .cmp .eql (.t 18) (.t 19), none, []⟩,
      ⟨(some 21), .mv (.t 20), none, []⟩,
      ⟨(some 22), .fadr 2 (.t 9), some (21, true), []⟩,
      ⟨(some 23), .load1 (.t 22), some (21, true), []⟩,
      ⟨(some 24), .conv .i64 (.t 23), some (21, true), []⟩,
      ⟨(some 25), .mv (.t 2), some (21, true), []⟩,
      ⟨(some 26), .cmp .leq (.t 24) (.t 25), some (21, true), []⟩,
      ⟨(some 27), .pick (.t 21) (.t 26) (.k (.bool false)), none, []⟩,
      ⟨(some 28), .mv (.t 27), none, []⟩,
      ⟨(some 29), .fadr 1 (.t 9), some (28, true), []⟩,
      ⟨(some 30), .load1 (.t 29), some (28, true), []⟩,
      ⟨(some 31), .cmp .gtr (.t 30) (.k (.lit .u8 61)), some (28, true), []⟩,
      ⟨(some 32), .mv (.t 31), some (28, true), []⟩,
      ⟨(some 33), .mv (.t 2), some (32, false), []⟩,
      ⟨(some 34), .fadr 2 (.t 9), some (32, false), []⟩,
      ⟨(some 35), .load1 (.t 34), some (32, false), []⟩,
      ⟨(some 36), .conv .i64 (.t 35), some (32, false), []⟩,
      ⟨(some 37), .bin .sub .i64 (.t 33) (.t 36), some (32, false), []⟩,
      ⟨(some 38), .fadr 1 (.t 9), some (32, false), []⟩,
      ⟨(some 39), .load1 (.t 38), some (32, false), []⟩,
      ⟨(some 40), .conv .u64 (.t 39), some (32, false), []⟩,
      ⟨(some 41), .bin .shl .i64 (.k (.lit .i64 1)) (.t 40), some (32, false), []⟩,
      ⟨(some 42), .cmp .lss (.t 37) (.t 41), some (32, false), []⟩,
      ⟨(some 43), .pick (.t 32) (.k (.bool true)) (.t 42), some (28, true), []⟩,
      ⟨(some 44), .pick (.t 28) (.t 43) (.k (.bool false)), none, []⟩])
    (.cond (.t 44) (.seq (.ops [⟨(some 45), .mv (.t 8), none, []⟩,
      ⟨(some 6), .mv (.t 45), none, []⟩,
      ⟨(some 7), .mv (.k (.bool true)), none, []⟩])
    (.ret)) (.skip)))))
    (.ops [⟨(some 46), .bin .add .i64 (.t 12) (.k (.lit .i64 1)), none, []⟩,
      ⟨(some 12), .mv (.t 46), none, []⟩])))))))
    (.seq (.ops [⟨(some 6), .mv (.k (.lit .i64 0)), none, []⟩,
      ⟨(some 7), .mv (.k (.bool false)), none, []⟩])
    (.ret)))
theorem fn36 : FnOk Try.prog 36 x36 47 [6, 7] := FnOk.of Try.call36 Try.func36 (by kernel_rfl) Try.ntmps36 (by kernel_rfl)
/-- (*baler/tail.Writer).Put -/
def x37 : XC :=
  .seq (.ops [⟨(some 3), .box 59 none (.t 0), none, []⟩,
      ⟨(some 6), .mv (.k (.lit .i64 0)), none, []⟩])
    (.seq (.block 0 (.seq (.ops [⟨(some 10), .load1 (.t 3), none, []⟩,
      ⟨(some 11), .eqv false 2 (.t 10) (.k (.val (.pointer none))), none, []⟩,
      ⟨(some 9), .mv (.t 11), none, []⟩])
    (.cond (.t 9) (.seq (.ops [⟨(some 6), .mv (.k (.lit .i64 1)), none, []⟩])
    (.ret)) (.seq (.ops [⟨(some 13), .mv (.t 2), none, []⟩,
      ⟨(some 14), .cmp .lss (.t 13) (.k (.lit .i64 0)), none, []⟩,
      ⟨(some 15), .mv (.t 14), none, []⟩,
      ⟨(some 16), .mv (.t 2), some (15, false), []⟩,
      ⟨(some 17), .cmp .gtr (.t 16) (.k (.lit .i64 56)), some (15, false), []⟩,
      ⟨(some 18), .pick (.t 15) (.k (.bool true)) (.t 17), none, []⟩,
      ⟨(some 12), .mv (.t 18), none, []⟩])
    (.cond (.t 12) (.seq (.ops [⟨(some 6), .mv (.k (.lit .i64 2)), none, []⟩])
    (.ret)) (.skip))))))
    (.seq (.seq (.ops [⟨(some 19), .mv (.t 1), none, []⟩,
      ⟨(some 20), .mv (.t 2), none, []⟩,
      ⟨(some 21), .call (.k (.fn 83 [])) [(.t 19), (.t 20)], none, []⟩])
    (.block 1 (.range (.t 21) [22, 23] (.ops [⟨(some 8), .mv (.t 23), none, []⟩]) (.block 2 (.seq (.seq (.ops [⟨(some 24), .load1 (.t 3), none, []⟩,
      ⟨(some 25), .nilchk (.t 24), none, []⟩,
      ⟨(some 26), .fadr 1 (.t 25), none, []⟩,
      ⟨(some 27), .load1 (.t 26), none, []⟩,
      ⟨(some 28), .bin .rem .i64 (.t 27) (.k (.lit .i64 8)), none, []⟩,
      ⟨(some 29), .cmp .eql (.t 28) (.k (.lit .i64 0)), none, []⟩])
    (.cond (.t 29) (.ops [⟨(some 30), .load1 (.t 3), none, []⟩,
      ⟨(some 31), .load1 (.t 3), none, []⟩,
      ⟨(some 32), .nilchk (.t 31), none, []⟩,
      ⟨(some 33), .fadr 0 (.t 32), none, []⟩,
      ⟨(some 34), .load1 (.t 33), none, []⟩,
      ⟨(some 35), .bsliceI 5 .u8 1 [⟨0, 1, (.k (.lit .u8 0))⟩], none, [(.load1 (.t 33), 34, none), (.load1 (.t 3), 31, none), (.load1 (.t 3), 30, none)]⟩,
      ⟨(some 36), .appI 5 .u8 1 (.t 34) (.t 35), none, [(.load1 (.t 3), 31, none), (.load1 (.t 3), 30, none)]⟩,
      ⟨(some 37), .nilchk (.t 30), none, []⟩,
      ⟨(some 38), .fadr 0 (.t 37), none, []⟩,
      ⟨none, .store1 (.t 38) (.t 36), none, []⟩]) (.skip)))
    (.seq (.ops [⟨(some 39), .load1 (.t 3), none, []⟩,
      ⟨(some 40), .nilchk (.t 39), none, []⟩,
      ⟨(some 41), .fadr 0 (.t 40), none, []⟩,
      ⟨(some 42), .load1 (.t 41), none, []⟩,
      ⟨(some 43), .load1 (.t 3), none, []⟩,
      ⟨(some 44), .nilchk (.t 43), none, []⟩,
      ⟨(some 45), .fadr 1 (.t 44), none, []⟩,
      ⟨(some 46), .load1 (.t 45), none, []⟩,
      ⟨(some 47), .bin .quo .i64 (.t 46) (.k (.lit .i64 8)), none, []⟩,
      ⟨(some 48), .iadr 1 (.t 42) (.t 47), none, []⟩,
      ⟨(some 49), .load1 (.t 48), none, []⟩,
      ⟨(some 50), .mv (.t 8), none, []⟩,
      ⟨(some 51), .load1 (.t 3), none, []⟩,
      ⟨(some 52), .nilchk (.t 51), none, []⟩,
      ⟨(some 53), .fadr 1 (.t 52), none, []⟩,
      ⟨(some 54), .load1 (.t 53), none, []⟩,
      ⟨(some 55), .bin .rem .i64 (.t 54) (.k (.lit .i64 8)), none, []⟩,
      ⟨(some 56), .conv .u64 (.t 55), none, []⟩,
      ⟨(some 57), .bin .shl .u8 (.t 50) (.t 56), none, []⟩,
      ⟨(some 58), .bin .or .u8 (.t 49) (.t 57), none, []⟩,
      ⟨(some 59), .iadr 1 (.t 42) (.t 47), none, []⟩,
      ⟨none, .store1 (.t 59) (.t 58), none, []⟩])
    (.ops [⟨(some 60), .load1 (.t 3), none, []⟩,
      ⟨(some 61), .nilchk (.t 60), none, []⟩,
      ⟨(some 62), .fadr 1 (.t 61), none, []⟩,
      ⟨(some 63), .load1 (.t 62), none, []⟩,
      ⟨(some 64), .bin .add .i64 (.t 63) (.k (.lit .i64 1)), none, []⟩,
      ⟨(some 65), .nilchk (.t 60), none, []⟩,
      ⟨(some 66), .fadr 1 (.t 65), none, []⟩,
      ⟨none, .store1 (.t 66) (.t 64), none, []⟩])))))))
    (.seq (.ops [⟨(some 6), .mv (.k (.lit .i64 0)), none, []⟩])
    (.ret))))
theorem fn37 : FnOk Try.prog 37 x37 67 [6] := FnOk.of Try.call37 Try.func37 (by kernel_rfl) Try.ntmps37 (by kernel_rfl)
/-- baler/tail.New -/
def x38 : XC :=
  .seq (.ops [⟨(some 2), .mv (.k (.val (.pointer none))), none, []⟩,
      ⟨(some 3), .mv (.k (.lit .i64 0)), none, []⟩])
    (.seq (.seq (.ops [⟨(some 5), .mv (.t 0), none, []⟩,
      ⟨(some 6), .len (.t 5), none, []⟩,
      ⟨(some 7), .cmp .eql (.t 6) (.k (.lit .i64 0)), none, []⟩,
      ⟨(some 8), .mv (.t 7), none, []⟩,
      ⟨(some 9), .mv (.t 0), some (8, false), []⟩,
      ⟨(some 10), .mv (.t 0), some (8, false), []⟩,
      ⟨(some 11), .len (.t 10), some (8, false), []⟩,
      ⟨(some 12), .bin .sub .i64 (.t 11) (.k (.lit .i64 1)), some (8, false), []⟩,
      ⟨(some 13), .iadr 1 (.t 9) (.t 12), some (8, false), []⟩,
      ⟨(some 14), .load1 (.t 13), some (8, false), []⟩,
      ⟨(some 15), .cmp .eql (.t 14) (.k (.lit .u8 0)), some (8, false), []⟩,
      ⟨(some 16), .pick (.t 8) (.k (.bool true)) (.t 15), none, []⟩])
    (.cond (.t 16) (.seq (.ops [⟨(some 2), .mv (.k (.val (.pointer none))), none, []⟩,
      ⟨(some 3), .mv (.k (.lit .i64 11)), none, []⟩])
    (.ret)) (.skip)))
    (.seq (.ops [⟨(some 17), .mv (.t 0), none, []⟩,
      ⟨(some 18), .mv (.t 0), none, []⟩,
      ⟨(some 19), .len (.t 18), none, []⟩,
      ⟨(some 20), .bin .sub .i64 (.t 19) (.k (.lit .i64 1)), none, []⟩,
      ⟨(some 21), .iadr 1 (.t 17) (.t 20), none, []⟩,
      ⟨(some 22), .load1 (.t 21), none, []⟩,
      ⟨(some 23), .call (.k (.fn 84 [])) [(.t 22)], none, []⟩,
      ⟨(some 24), .bin .sub .i64 (.t 23) (.k (.lit .i64 1)), none, []⟩,
      ⟨(some 4), .mv (.t 24), none, []⟩])
    (.seq (.ops [⟨(some 25), .bsliceI 5 .u8 0 [], none, []⟩,
      ⟨(some 26), .mv (.t 0), none, []⟩,
      ⟨(some 27), .appI 5 .u8 1 (.t 25) (.t 26), none, []⟩,
      ⟨(some 28), .mv (.t 0), none, []⟩,
      ⟨(some 29), .len (.t 28), none, []⟩,
      ⟨(some 30), .bin .sub .i64 (.t 29) (.k (.lit .i64 1)), none, []⟩,
      ⟨(some 31), .bin .mul .i64 (.k (.lit .i64 8)) (.t 30), none, []⟩,
      ⟨(some 32), .mv (.t 4), none, []⟩,
      ⟨(some 33), .bin .add .i64 (.t 31) (.t 32), none, []⟩,
      ⟨(some 34), .build [(.lit .i64 0)] [⟨0, 1, (.t 33)⟩], none, []⟩,
      ⟨(some 35), .build [(.val (.slice none 0 0)), (.lit .i64 0)] [⟨0, 1, (.t 27)⟩, ⟨1, 1, (.t 34)⟩], none, []⟩,
      ⟨(some 36), .box 139 none (.t 35), none, []⟩,
      ⟨(some 2), .mv (.t 36), none, []⟩,
      ⟨(some 3), .mv (.k (.lit .i64 0)), none, []⟩])
    (.ret))))
theorem fn38 : FnOk Try.prog 38 x38 37 [2, 3] := FnOk.of Try.call38 Try.func38 (by kernel_rfl) Try.ntmps38 (by kernel_rfl)
/-- (*baler/tail.Writer).Close -/
def x39 : XC :=
  .seq (.ops [⟨(some 2), .mv (.k (.val (.slice none 0 0))), none, []⟩])
    (.seq (.seq (.ops [⟨(some 4), .mv (.t 0), none, []⟩,
      ⟨(some 5), .eqv false 2 (.t 4) (.k (.val (.pointer none))), none, []⟩])
    (.cond (.t 5) (.seq (.ops [⟨(some 2), .mv (.k (.val (.slice none 0 0))), none, []⟩])
    (.ret)) (.skip)))
    (.seq (.ops [⟨(some 6), .mv (.t 0), none, []⟩,
      ⟨(some 7), .call (.k (.fn 37 [])) [(.t 6), (.k (.lit .u64 1)), (.k (.lit .i64 1))], none, []⟩])
    (.seq (.ops [⟨(some 8), .mv (.t 0), none, []⟩,
      ⟨(some 9), .nilchk (.t 8), none, []⟩,
      ⟨(some 10), .fadr 0 (.t 9), none, []⟩,
      ⟨(some 11), .load1 (.t 10), none, []⟩,
      ⟨(some 3), .mv (.t 11), none, []⟩])
    (.seq (.ops [⟨(some 12), .mv (.t 0), none, []⟩,
      ⟨(some 13), .build [(.val (.slice none 0 0)), (.lit .i64 0)] [], none, []⟩,
      ⟨(some 14), .nilchk (.t 12), none, []⟩,
      ⟨none, .storeA 2 (.t 14) (.t 13), none, []⟩])
    (.seq (.ops [⟨(some 15), .mv (.t 3), none, []⟩,
      ⟨(some 2), .mv (.t 15), none, []⟩])
    (.ret))))))
theorem fn39 : FnOk Try.prog 39 x39 16 [2] := FnOk.of Try.call39 Try.func39 (by kernel_rfl) Try.ntmps39 (by kernel_rfl)
/-- (*baler/tail.Reader).Bits -/
def x40 : XC :=
  .seq (.ops [⟨(some 4), .mv (.k (.lit .u64 0)), none, []⟩])
    (.seq (.seq (.ops [⟨(some 8), .mv (.t 0), none, []⟩,
      ⟨(some 9), .eqv false 2 (.t 8) (.k (.val (.pointer none))), none, []⟩])
    (.cond (.t 9) (.seq (.ops [⟨(some 4), .mv (.k (.lit .u64 0)), none, []⟩])
    (.ret)) (.skip)))
    (.seq (.ops [⟨(some 10), .mv (.t 1), none, []⟩,
      ⟨(some 11), .max (.t 10) (.k (.lit .i64 0)), none, []⟩,
      ⟨(some 12), .min (.t 11) (.k (.lit .i64 56)), none, []⟩,
      ⟨(some 1), .mv (.t 12), none, []⟩])
    (.seq (.ops [⟨(some 5), .mv (.k (.lit .u64 0)), none, []⟩])
    (.seq (.seq (.ops [⟨(some 13), .mv (.t 1), none, []⟩,
      ⟨(some 14), .mv (.k (.lit .i64 0)), none, []⟩])
    (.block 0 (.loop (.seq (.ops [⟨(some 15), .cmp .lss (.t 14) (.t 13), none, []⟩])
    (.seq (.cond (.t 15) (.skip) (.exit 0))
    (.seq (.block 1 (.seq (.ops [⟨(some 16), .mv (.t 14), none, []⟩,
      ⟨(some 6), .mv (.t 16), none, []⟩])
    (.seq (.ops [⟨(some 17), .mv (.t 5), none, []⟩,
      ⟨(some 18), .bin .shl .u64 (.t 17) (.k (.lit .u64 1)), none, []⟩,
      ⟨(some 5), .mv (.t 18), none, []⟩])
    (.seq (.ops [⟨(some 19), .mv (.t 0), none, []⟩,
      ⟨(some 20), .nilchk (.t 19), none, []⟩,
      ⟨(some 21), .fadr 1 (.t 20), none, []⟩,
      ⟨(some 22), .fadr 0 (.t 21), none, []⟩,
      ⟨(some 23), .load1 (.t 22), none, []⟩,
      ⟨(some 24), .bin .sub .i64 (.t 23) (.k (.lit .i64 1)), none, []⟩,
      ⟨(some 25), .mv (.t 6), none, []⟩,
      ⟨(some 26), .bin .sub .i64 (.t 24) (.t 25), none, []⟩,
      ⟨(some 7), .mv (.t 26), none, []⟩])
    (.seq (.ops [⟨(some 27), .mv (.t 7), none, []⟩,
      ⟨(some 28), .cmp .geq (.t 27) (.k (.lit .i64 0)), none, []⟩])
    (.cond (.t 28) (.ops [⟨(some 29), .mv (.t 5), none, []⟩,
      ⟨(some 30), .mv (.t 0), none, []⟩,
      ⟨(some 31), .nilchk (.t 30), none, []⟩,
      ⟨(some 32), .fadr 0 (.t 31), none, []⟩,
      ⟨(some 33), .load1 (.t 32), none, []⟩,
      ⟨(some 34), .mv (.t 7), none, []⟩,
      ⟨(some 35), .bin .quo .i64 (.t 34) (.k (.lit .i64 8)), none, []⟩,
      ⟨(some 36), .iadr 1 (.t 33) (.t 35), none, []⟩,
      ⟨(some 37), .load1 (.t 36), none, []⟩,
      ⟨(some 38), .mv (.t 7), none, []⟩,
      ⟨(some 39), .bin .rem .i64 (.t 38) (.k (.lit .i64 8)), none, []⟩,
      ⟨(some 40), .conv .u64 (.t 39), none, []⟩,
      ⟨(some 41), .bin .shr .u8 (.t 37) (.t 40), none, []⟩,
      ⟨(some 42), .conv .u64 (.t 41), none, []⟩,
      ⟨(some 43), .bin .and .u64 (.t 42) (.k (.lit .u64 1)), none, []⟩,
      ⟨(some 44), .bin .or .u64 (.t 29) (.t 43), none, []⟩,
      ⟨(some 5), .mv (.t 44), none, []⟩]) (.skip)))))))
    (.ops [⟨(some 45), .bin .add .i64 (.t 14) (.k (.lit .i64 1)), none, []⟩,
      ⟨(some 14), .mv (.t 45), none, []⟩])))))))
    (.seq (.seq (.ops [⟨(some 46), .mv (.t 0), none, []⟩,
      ⟨(some 47), .mv (.t 0), none, []⟩,
      ⟨(some 48), .nilchk (.t 47), none, []⟩,
      ⟨(some 49), .fadr 1 (.t 48), none, []⟩,
      ⟨(some 50), .fadr 0 (.t 49), none, []⟩,
      ⟨(some 51), .load1 (.t 50), none, []⟩,
      ⟨(some 52), .mv (.t 1), none, []⟩,
      ⟨(some 53), .bin .sub .i64 (.t 51) (.t 52), none, []⟩,
      ⟨(some 54), .build [(.lit .i64 0)] [⟨0, 1, (.t 53)⟩], none, []⟩,
      ⟨(some 55), .nilchk (.t 46), none, []⟩,
      ⟨(some 56), .fadr 1 (.t 55), none, []⟩,
      ⟨none, .storeA 1 (.t 56) (.t 54), none, []⟩])
    (.seq (.ops [⟨(some 57), .mv (.t 0), none, []⟩,
      ⟨(some 58), .nilchk (.t 57), none, []⟩,
      ⟨(some 59), .fadr 1 (.t 58), none, []⟩,
      ⟨(some 60), .fadr 0 (.t 59), none, []⟩,
      ⟨(some 61), .load1 (.t 60), none, []⟩,
      ⟨(some 62), .cmp .lss (.t 61) (.k (.lit .i64 (-1099511627776))), none, []⟩])
    (.cond (.t 62) (.ops [⟨(some 63), .mv (.t 0), none, []⟩,
      ⟨(some 64), .build [(.lit .i64 0)] [⟨0, 1, (.k (.lit .i64 (-1099511627776)))⟩], none, []⟩,
      ⟨(some 65), .nilchk (.t 63), none, []⟩,
      ⟨(some 66), .fadr 1 (.t 65), none, []⟩,
      ⟨none, .storeA 1 (.t 66) (.t 64), none, []⟩]) (.skip))))
    (.seq (.ops [⟨(some 67), .mv (.t 5), none, []⟩,
      ⟨(some 4), .mv (.t 67), none, []⟩])
    (.ret)))))))
theorem fn40 : FnOk Try.prog 40 x40 68 [4] := FnOk.of Try.call40 Try.func40 (by kernel_rfl) Try.ntmps40 (by kernel_rfl)
/-- (*baler/tail.Reader).Left -/
def x41 : XC :=
  .seq (.ops [⟨(some 2), .mv (.k (.lit .i64 0)), none, []⟩])
    (.seq (.seq (.ops [⟨(some 3), .mv (.t 0), none, []⟩,
      ⟨(some 4), .eqv false 2 (.t 3) (.k (.val (.pointer none))), none, []⟩])
    (.cond (.t 4) (.seq (.ops [⟨(some 2), .mv (.k (.lit .i64 0)), none, []⟩])
    (.ret)) (.skip)))
    (.seq (.ops [⟨(some 5), .mv (.t 0), none, []⟩,
      ⟨(some 6), .nilchk (.t 5), none, []⟩,
      ⟨(some 7), .fadr 1 (.t 6), none, []⟩,
      ⟨(some 8), .fadr 0 (.t 7), none, []⟩,
      ⟨(some 9), .load1 (.t 8), none, []⟩,
      ⟨(some 2), .mv (.t 9), none, []⟩])
    (.ret)))
theorem fn41 : FnOk Try.prog 41 x41 10 [2] := FnOk.of Try.call41 Try.func41 (by kernel_rfl) Try.ntmps41 (by kernel_rfl)
/-- (*baler/bits.Writer).Bytes -/
def x53 : XC :=
  .seq (.ops [⟨(some 2), .mv (.k (.val (.slice none 0 0))), none, []⟩])
    (.seq (.seq (.ops [⟨(some 3), .mv (.t 0), none, []⟩,
      ⟨(some 4), .eqv false 2 (.t 3) (.k (.val (.pointer none))), none, []⟩])
    (.cond (.t 4) (.seq (.ops [⟨(some 2), .mv (.k (.val (.slice none 0 0))), none, []⟩])
    (.ret)) (.skip)))
    (.seq (.ops [⟨(some 5), .bsliceI 5 .u8 0 [], none, []⟩,
      ⟨(some 6), .mv (.t 0), none, []⟩,
      ⟨(some 7), .nilchk (.t 6), none, []⟩,
      ⟨(some 8), .fadr 0 (.t 7), none, []⟩,
      ⟨(some 9), .load1 (.t 8), none, []⟩,
      ⟨(some 10), .appI 5 .u8 1 (.t 5) (.t 9), none, []⟩,
      ⟨(some 2), .mv (.t 10), none, []⟩])
    (.ret)))
theorem fn53 : FnOk Try.prog 53 x53 11 [2] := FnOk.of Try.call53 Try.func53 (by kernel_rfl) Try.ntmps53 (by kernel_rfl)
/-- (*baler/balerref01.W).Bytes -/
def x54 : XC :=
  .seq (.ops [⟨(some 2), .mv (.k (.val (.slice none 0 0))), none, []⟩])
    (.seq (.ops [⟨(some 5), .mv (.t 0), none, []⟩,
      ⟨(some 6), .nilchk (.t 5), none, []⟩,
      ⟨(some 7), .fadr 0 (.t 6), none, []⟩,
      ⟨(some 8), .load1 (.t 7), none, []⟩,
      ⟨(some 9), .len (.t 8), none, []⟩,
      ⟨(some 10), .bin .add .i64 (.t 9) (.k (.lit .i64 7)), none, []⟩,
      ⟨(some 11), .bin .quo .i64 (.t 10) (.k (.lit .i64 8)), none, []⟩,
      ⟨(some 12), .mkslI 5 .u8 1 (.t 11) (.t 11), none, []⟩,
      ⟨(some 3), .mv (.t 12), none, []⟩])
    (.seq (.seq (.ops [⟨(some 4), .mv (.k (.lit .i64 0)), none, []⟩])
    (.block 0 (.loop (.seq (.seq (.ops [⟨(some 13), .mv (.t 4), none, []⟩,
      ⟨(some 14), .mv (.t 0), none, []⟩,
      ⟨(some 15), .nilchk (.t 14), none, []⟩,
      ⟨(some 16), .fadr 0 (.t 15), none, []⟩,
      ⟨(some 17), .load1 (.t 16), none, []⟩,
      ⟨(some 18), .len (.t 17), none, []⟩,
      ⟨(some 19), .cmp .lss (.t 13) (.t 18), none, []⟩])
    (.cond (.t 19) (.skip) (.exit 0)))
    (.seq (.block 1 (.ops [⟨(some 22), .mv (.t 3), none, []⟩,
      ⟨(some 23), .mv (.t 4), none, []⟩,
      ⟨(some 24), .bin .quo .i64 (.t 23) (.k (.lit .i64 8)), none, []⟩,
      ⟨(some 25), .iadr 1 (.t 22) (.t 24), none, []⟩,
      ⟨(some 26), .load1 (.t 25), none, []⟩,
      ⟨(some 27), .mv (.t 0), none, []⟩,
      ⟨(some 28), .nilchk (.t 27), none, []⟩,
      ⟨(some 29), .fadr 0 (.t 28), none, []⟩,
      ⟨(some 30), .load1 (.t 29), none, []⟩,
      ⟨(some 31), .mv (.t 4), none, []⟩,
      ⟨(some 32), .iadr 1 (.t 30) (.t 31), none, []⟩,
      ⟨(some 33), .load1 (.t 32), none, []⟩,
      ⟨(some 34), .mv (.t 4), none, []⟩,
      ⟨(some 35), .bin .rem .i64 (.t 34) (.k (.lit .i64 8)), none, []⟩,
      ⟨(some 36), .conv .u64 (.t 35), none, []⟩,
      ⟨(some 37), .bin .shl .u8 (.t 33) (.t 36), none, []⟩,
      ⟨(some 38), .bin .or .u8 (.t 26) (.t 37), none, []⟩,
      ⟨(some 39), .iadr 1 (.t 22) (.t 24), none, []⟩,
      ⟨none, .store1 (.t 39) (.t 38), none, []⟩]))
    (.ops [⟨(some 20), .mv (.t 4), none, []⟩,
      ⟨(some 21), .bin .add .i64 (.t 20) (.k (.lit .i64 1)), none, []⟩,
      ⟨(some 4), .mv (.t 21), none, []⟩]))))))
    (.seq (.ops [⟨(some 40), .mv (.t 3), none, []⟩,
      ⟨(some 2), .mv (.t 40), none, []⟩])
    (.ret))))
theorem fn54 : FnOk Try.prog 54 x54 41 [2] := FnOk.of Try.call54 Try.func54 (by kernel_rfl) Try.ntmps54 (by kernel_rfl)
/-- baler/states.right -/
def x67 : XC :=
  .seq (.ops [⟨(some 4), .mv (.k (.bool false)), none, []⟩])
    (.seq (.seq (.ops [⟨(some 8), .mv (.t 1), none, []⟩,
      ⟨(some 9), .cmp .lss (.t 8) (.k (.lit .i64 5)), none, []⟩,
      ⟨(some 10), .mv (.t 9), none, []⟩,
      ⟨(some 11), .mv (.t 1), some (10, false), []⟩,
      ⟨(some 12), .cmp .gtr (.t 11) (.k (.lit .i64 12)), some (10, false), []⟩,
      ⟨(some 13), .pick (.t 10) (.k (.bool true)) (.t 12), none, []⟩,
      ⟨(some 14), .mv (.t 13), none, []⟩,
      ⟨(some 15), .mv (.t 0), some (14, false), []⟩,
      ⟨(some 16), .len (.t 15), some (14, false), []⟩,
      ⟨(some 17), .cmp .eql (.t 16) (.k (.lit .i64 0)), some (14, false), []⟩,
      ⟨(some 18), .pick (.t 14) (.k (.bool true)) (.t 17), none, []⟩,
      ⟨(some 19), .mv (.t 18), none, []⟩,
      ⟨(some 20), .mv (.t 0), some (19, false), []⟩,
      ⟨(some 21), .len (.t 20), some (19, false), []⟩,
      ⟨(some 22), .cmp .gtr (.t 21) (.k (.lit .i64 256)), some (19, false), []⟩,
      ⟨(some 23), .pick (.t 19) (.k (.bool true)) (.t 22), none, []⟩,
      ⟨(some 24), .mv (.t 23), none, []⟩,
      ⟨(some 25), .mv (.t 0), some (24, false), []⟩,
      ⟨(some 26), .mv (.t 0), some (24, false), []⟩,
      ⟨(some 27), .len (.t 26), some (24, false), []⟩,
      ⟨(some 28), .bin .sub .i64 (.t 27) (.k (.lit .i64 1)), some (24, false), []⟩,
      ⟨(some 29), .iadr 1 (.t 25) (.t 28), some (24, false), []⟩,
      ⟨(some 30), .load1 (.t 29), some (24, false), []⟩,
      ⟨(some 31), .cmp .eql (.t 30) (.k (.lit .i16 0)), some (24, false), []⟩,
      ⟨(some 32), .pick (.t 24) (.k (.bool true)) (.t 31), none, []⟩])
    (.cond (.t 32) (.seq (.ops [⟨(some 4), .mv (.k (.bool false)), none, []⟩])
    (.ret)) (.skip)))
    (.seq (.ops [⟨(some 5), .mv (.k (.lit .i64 0)), none, []⟩])
    (.seq (.seq (.ops [⟨(some 33), .mv (.t 0), none, []⟩,
      ⟨(some 34), .len (.t 33), none, []⟩,
      ⟨(some 35), .mv (.k (.lit .i64 0)), none, []⟩])
    (.block 0 (.loop (.seq (.ops [⟨(some 36), .cmp .lss (.t 35) (.t 34), none, []⟩])
    (.seq (.cond (.t 36) (.skip) (.exit 0))
    (.seq (.block 1 (.seq (.ops [⟨(some 37), .iadr 1 (.t 33) (.t 35), none, []⟩,
      ⟨(some 38), .load1 (.t 37), none, []⟩,
      ⟨(some 7), .mv (.t 38), none, []⟩])
    (.seq (.seq (.ops [⟨(some 39), .mv (.t 7), none, []⟩,
      ⟨(some 40), .cmp .lss (.t 39) (.k (.lit .i16 (-1))), none, []⟩])
    (.cond (.t 40) (.seq (.ops [⟨(some 4), .mv (.k (.bool false)), none, []⟩])
    (.ret)) (.skip)))
    (.ops [⟨(some 41), .mv (.t 5), none, []⟩,
      ⟨(some 42), .mv (.t 7), none, []⟩,
      ⟨(some 43), .call (.k (.fn 70 [])) [(.t 42)], none, []⟩,
      ⟨(some 44), .bin .add .i64 (.t 41) (.t 43), none, []⟩,
      ⟨(some 5), .mv (.t 44), none, []⟩]))))
    (.ops [⟨(some 45), .bin .add .i64 (.t 35) (.k (.lit .i64 1)), none, []⟩,
      ⟨(some 35), .mv (.t 45), none, []⟩])))))))
    (.seq (.ops [⟨(some 46), .mv (.t 5), none, []⟩,
      ⟨(some 47), .mv (.t 1), none, []⟩,
      ⟨(some 48), .conv .u64 (.t 47), none, []⟩,
      ⟨(some 49), .bin .shl .i64 (.k (.lit .i64 1)) (.t 48), none, []⟩,
      ⟨(some 50), .cmp .eql (.t 46) (.t 49), none, []⟩,
      ⟨(some 4), .mv (.t 50), none, []⟩])
    (.ret)))))
theorem fn67 : FnOk Try.prog 67 x67 51 [4] := FnOk.of Try.call67 Try.func67 (by kernel_rfl) Try.ntmps67 (by kernel_rfl)
/-- (*baler/bits.Writer).Put -/
def x68 : XC :=
  .seq (.ops [⟨(some 3), .box 90 none (.t 0), none, []⟩,
      ⟨(some 6), .mv (.k (.lit .i64 0)), none, []⟩])
    (.seq (.block 0 (.seq (.ops [⟨(some 9), .load1 (.t 3), none, []⟩,
      ⟨(some 10), .eqv false 2 (.t 9) (.k (.val (.pointer none))), none, []⟩,
      ⟨(some 8), .mv (.t 10), none, []⟩])
    (.cond (.t 8) (.seq (.ops [⟨(some 6), .mv (.k (.lit .i64 1)), none, []⟩])
    (.ret)) (.seq (.ops [⟨(some 12), .mv (.t 2), none, []⟩,
      ⟨(some 13), .cmp .lss (.t 12) (.k (.lit .i64 0)), none, []⟩,
      ⟨(some 14), .mv (.t 13), none, []⟩,
      ⟨(some 15), .mv (.t 2), some (14, false), []⟩,
      ⟨(some 16), .cmp .gtr (.t 15) (.k (.lit .i64 56)), some (14, false), []⟩,
      ⟨(some 17), .pick (.t 14) (.k (.bool true)) (.t 16), none, []⟩,
      ⟨(some 11), .mv (.t 17), none, []⟩])
    (.cond (.t 11) (.seq (.ops [⟨(some 6), .mv (.k (.lit .i64 2)), none, []⟩])
    (.ret)) (.skip))))))
    (.seq (.seq (.ops [⟨(some 18), .mv (.t 1), none, []⟩,
      ⟨(some 19), .mv (.t 2), none, []⟩,
      ⟨(some 20), .call (.k (.fn 113 [])) [(.t 18), (.t 19)], none, []⟩])
    (.block 1 (.range (.t 20) [21] (.ops [⟨(some 7), .mv (.t 21), none, []⟩]) (.block 2 (.seq (.seq (.ops [⟨(some 22), .load1 (.t 3), none, []⟩,
      ⟨(some 23), .nilchk (.t 22), none, []⟩,
      ⟨(some 24), .fadr 1 (.t 23), none, []⟩,
      ⟨(some 25), .load1 (.t 24), none, []⟩,
      ⟨(some 26), .bin .rem .i64 (.t 25) (.k (.lit .i64 8)), none, []⟩,
      ⟨(some 27), .cmp .eql (.t 26) (.k (.lit .i64 0)), none, []⟩])
    (.cond (.t 27) (.ops [⟨(some 28), .load1 (.t 3), none, []⟩,
      ⟨(some 29), .load1 (.t 3), none, []⟩,
      ⟨(some 30), .nilchk (.t 29), none, []⟩,
      ⟨(some 31), .fadr 0 (.t 30), none, []⟩,
      ⟨(some 32), .load1 (.t 31), none, []⟩,
      ⟨(some 33), .bsliceI 5 .u8 1 [⟨0, 1, (.k (.lit .u8 0))⟩], none, [(.load1 (.t 31), 32, none), (.load1 (.t 3), 29, none), (.load1 (.t 3), 28, none)]⟩,
      ⟨(some 34), .appI 5 .u8 1 (.t 32) (.t 33), none, [(.load1 (.t 3), 29, none), (.load1 (.t 3), 28, none)]⟩,
      ⟨(some 35), .nilchk (.t 28), none, []⟩,
      ⟨(some 36), .fadr 0 (.t 35), none, []⟩,
      ⟨none, .store1 (.t 36) (.t 34), none, []⟩]) (.skip)))
    (.seq (.ops [⟨(some 37), .load1 (.t 3), none, []⟩,
      ⟨(some 38), .nilchk (.t 37), none, []⟩,
      ⟨(some 39), .fadr 0 (.t 38), none, []⟩,
      ⟨(some 40), .load1 (.t 39), none, []⟩,
      ⟨(some 41), .load1 (.t 3), none, []⟩,
      ⟨(some 42), .nilchk (.t 41), none, []⟩,
      ⟨(some 43), .fadr 1 (.t 42), none, []⟩,
      ⟨(some 44), .load1 (.t 43), none, []⟩,
      ⟨(some 45), .bin .quo .i64 (.t 44) (.k (.lit .i64 8)), none, []⟩,
      ⟨(some 46), .iadr 1 (.t 40) (.t 45), none, []⟩,
      ⟨(some 47), .load1 (.t 46), none, []⟩,
      ⟨(some 48), .mv (.t 7), none, []⟩,
      ⟨(some 49), .load1 (.t 3), none, []⟩,
      ⟨(some 50), .nilchk (.t 49), none, []⟩,
      ⟨(some 51), .fadr 1 (.t 50), none, []⟩,
      ⟨(some 52), .load1 (.t 51), none, []⟩,
      ⟨(some 53), .bin .rem .i64 (.t 52) (.k (.lit .i64 8)), none, []⟩,
      ⟨(some 54), .conv .u64 (.t 53), none, []⟩,
      ⟨(some 55), .bin .shl .u8 (.t 48) (.t 54), none, []⟩,
      ⟨(some 56), .bin .or .u8 (.t 47) (.t 55), none, []⟩,
      ⟨(some 57), .iadr 1 (.t 40) (.t 45), none, []⟩,
      ⟨none, .store1 (.t 57) (.t 56), none, []⟩])
    (.ops [⟨(some 58), .load1 (.t 3), none, []⟩,
      ⟨(some 59), .nilchk (.t 58), none, []⟩,
      ⟨(some 60), .fadr 1 (.t 59), none, []⟩,
      ⟨(some 61), .load1 (.t 60), none, []⟩,
      ⟨(some 62), .bin .add .i64 (.t 61) (.k (.lit .i64 1)), none, []⟩,
      ⟨(some 63), .nilchk (.t 58), none, []⟩,
      ⟨(some 64), .fadr 1 (.t 63), none, []⟩,
      ⟨none, .store1 (.t 64) (.t 62), none, []⟩])))))))
    (.seq (.ops [⟨(some 6), .mv (.k (.lit .i64 0)), none, []⟩])
    (.ret))))
theorem fn68 : FnOk Try.prog 68 x68 65 [6] := FnOk.of Try.call68 Try.func68 (by kernel_rfl) Try.ntmps68 (by kernel_rfl)
/-- math/bits.Len -/
def x69 : XC :=
  .seq (.ops [⟨(some 2), .mv (.k (.lit .i64 0)), none, []⟩])
    (.seq (.cond (.k (.bool false)) (.seq (.ops [⟨(some 3), .mv (.t 0), none, []⟩,
      ⟨(some 4), .conv .u32 (.t 3), none, []⟩,
      ⟨(some 5), .call (.k (.fn 114 [])) [(.t 4)], none, []⟩,
      ⟨(some 2), .mv (.t 5), none, []⟩])
    (.ret)) (.skip))
    (.seq (.ops [⟨(some 6), .mv (.t 0), none, []⟩,
      ⟨(some 7), .call (.k (.fn 115 [])) [(.t 6)], none, []⟩,
      ⟨(some 2), .mv (.t 7), none, []⟩])
    (.ret)))
theorem fn69 : FnOk Try.prog 69 x69 8 [2] := FnOk.of Try.call69 Try.func69 (by kernel_rfl) Try.ntmps69 (by kernel_rfl)
/-- baler/states.parts -/
def x70 : XC :=
  .seq (.ops [⟨(some 2), .mv (.k (.lit .i64 0)), none, []⟩])
    (.seq (.seq (.ops [⟨(some 3), .mv (.t 0), none, []⟩,
      ⟨(some 4), .cmp .lss (.t 3) (.k (.lit .i16 0)), none, []⟩])
    (.cond (.t 4) (.seq (.ops [⟨(some 2), .mv (.k (.lit .i64 1)), none, []⟩])
    (.ret)) (.skip)))
    (.seq (.ops [⟨(some 5), .mv (.t 0), none, []⟩,
      ⟨(some 6), .conv .i64 (.t 5), none, []⟩,
      ⟨(some 2), .mv (.t 6), none, []⟩])
    (.ret)))
theorem fn70 : FnOk Try.prog 70 x70 7 [2] := FnOk.of Try.call70 Try.func70 (by kernel_rfl) Try.ntmps70 (by kernel_rfl)
/-- (*baler/balerref01.W).Put -/
def x71 : XC :=
  .seq (.ops [⟨(some 6), .mv (.k (.lit .i64 0)), none, []⟩])
    (.seq (.seq (.ops [⟨(some 8), .mv (.t 2), none, []⟩,
      ⟨(some 9), .cmp .lss (.t 8) (.k (.lit .i64 0)), none, []⟩,
      ⟨(some 10), .mv (.t 9), none, []⟩,
      ⟨(some 11), .mv (.t 2), some (10, false), []⟩,
      ⟨(some 12), .cmp .gtr (.t 11) (.k (.lit .i64 56)), some (10, false), []⟩,
      ⟨(some 13), .pick (.t 10) (.k (.bool true)) (.t 12), none, []⟩])
    (.cond (.t 13) (.seq (.ops [⟨(some 6), .mv (.k (.lit .i64 2)), none, []⟩])
    (.ret)) (.skip)))
    (.seq (.seq (.ops [⟨(some 7), .mv (.k (.lit .i64 0)), none, []⟩])
    (.block 0 (.loop (.seq (.seq (.ops [⟨(some 14), .mv (.t 7), none, []⟩,
      ⟨(some 15), .mv (.t 2), none, []⟩,
      ⟨(some 16), .cmp .lss (.t 14) (.t 15), none, []⟩])
    (.cond (.t 16) (.skip) (.exit 0)))
    (.seq (.block 1 (.ops [⟨(some 19), .mv (.t 0), none, []⟩,
      ⟨(some 20), .mv (.t 0), none, []⟩,
      ⟨(some 21), .nilchk (.t 20), none, []⟩,
      ⟨(some 22), .fadr 0 (.t 21), none, []⟩,
      ⟨(some 23), .load1 (.t 22), none, []⟩,
      ⟨(some 24), .mv (.t 1), none, []⟩,
      ⟨(some 25), .mv (.t 7), none, []⟩,
      ⟨(some 26), .conv .u64 (.t 25), none, []⟩,
      ⟨(some 27), .bin .shr .u64 (.t 24) (.t 26), none, []⟩,
      ⟨(some 28), .bin .and .u64 (.t 27) (.k (.lit .u64 1)), none, []⟩,
      ⟨(some 29), .conv .u8 (.t 28), none, []⟩,
      ⟨(some 30), .bsliceI 5 .u8 1 [⟨0, 1, (.t 29)⟩], none, []⟩,
      ⟨(some 31), .appI 5 .u8 1 (.t 23) (.t 30), none, []⟩,
      ⟨(some 32), .nilchk (.t 19), none, []⟩,
      ⟨(some 33), .fadr 0 (.t 32), none, []⟩,
      ⟨none, .store1 (.t 33) (.t 31), none, []⟩]))
    (.ops [⟨(some 17), .mv (.t 7), none, []⟩,
      ⟨(some 18), .bin .add .i64 (.t 17) (.k (.lit .i64 1)), none, []⟩,
      ⟨(some 7), .mv (.t 18), none, []⟩]))))))
    (.seq (.ops [⟨(some 6), .mv (.k (.lit .i64 0)), none, []⟩])
    (.ret))))
theorem fn71 : FnOk Try.prog 71 x71 34 [6] := FnOk.of Try.call71 Try.func71 (by kernel_rfl) Try.ntmps71 (by kernel_rfl)
/-- baler/balerref07.put -/
def x72 : XC :=
  .seq (.ops [⟨(some 8), .mv (.t 2), none, []⟩,
      ⟨(some 9), .call (.k (.fn 76 [])) [(.t 8)], none, []⟩,
      ⟨(some 6), .mv (.t 9), none, []⟩])
    (.seq (.ops [⟨(some 10), .mv (.t 6), none, []⟩,
      ⟨(some 11), .conv .u64 (.t 10), none, []⟩,
      ⟨(some 12), .bin .shl .i64 (.k (.lit .i64 1)) (.t 11), none, []⟩,
      ⟨(some 13), .bin .sub .i64 (.t 12) (.k (.lit .i64 1)), none, []⟩,
      ⟨(some 14), .mv (.t 2), none, []⟩,
      ⟨(some 15), .bin .sub .i64 (.t 13) (.t 14), none, []⟩,
      ⟨(some 7), .mv (.t 15), none, []⟩])
    (.block 0 (.seq (.ops [⟨(some 24), .mv (.t 1), none, []⟩,
      ⟨(some 25), .mv (.t 7), none, []⟩,
      ⟨(some 26), .cmp .lss (.t 24) (.t 25), none, []⟩,
      ⟨(some 23), .mv (.t 26), none, []⟩])
    (.cond (.t 23) (.ops [⟨(some 27), .mv (.t 0), none, []⟩,
      ⟨(some 28), .mv (.t 1), none, []⟩,
      ⟨(some 29), .conv .u64 (.t 28), none, []⟩,
      ⟨(some 30), .mv (.t 6), none, []⟩,
      ⟨(some 31), .bin .sub .i64 (.t 30) (.k (.lit .i64 1)), none, []⟩,
      ⟨(some 32), .call (.k (.fn 71 [])) [(.t 27), (.t 29), (.t 31)], none, []⟩]) (.seq (.ops [⟨(some 34), .mv (.t 1), none, []⟩,
      ⟨(some 35), .mv (.t 6), none, []⟩,
      ⟨(some 36), .bin .sub .i64 (.t 35) (.k (.lit .i64 1)), none, []⟩,
      ⟨(some 37), .conv .u64 (.t 36), none, []⟩,
      ⟨(some 38), .bin .shl .i64 (.k (.lit .i64 1)) (.t 37), none, []⟩,
      ⟨(some 39), .cmp .lss (.t 34) (.t 38), none, []⟩,
      ⟨(some 33), .mv (.t 39), none, []⟩])
    (.cond (.t 33) (.ops [⟨(some 40), .mv (.t 0), none, []⟩,
      ⟨(some 41), .mv (.t 1), none, []⟩,
      ⟨(some 42), .conv .u64 (.t 41), none, []⟩,
      ⟨(some 43), .mv (.t 6), none, []⟩,
      ⟨(some 44), .call (.k (.fn 71 [])) [(.t 40), (.t 42), (.t 43)], none, []⟩]) (.ops [⟨(some 16), .mv (.t 0), none, []⟩,
      ⟨(some 17), .mv (.t 1), none, []⟩,
      ⟨(some 18), .mv (.t 7), none, []⟩,
      ⟨(some 19), .bin .add .i64 (.t 17) (.t 18), none, []⟩,
      ⟨(some 20), .conv .u64 (.t 19), none, []⟩,
      ⟨(some 21), .mv (.t 6), none, []⟩,
      ⟨(some 22), .call (.k (.fn 71 [])) [(.t 16), (.t 20), (.t 21)], none, []⟩])))))))
theorem fn72 : FnOk Try.prog 72 x72 45 [] := FnOk.of Try.call72 Try.func72 (by kernel_rfl) Try.ntmps72 (by kernel_rfl)
/-- baler/balerref07.parts -/
def x73 : XC :=
  .seq (.ops [⟨(some 2), .mv (.k (.lit .i64 0)), none, []⟩])
    (.seq (.seq (.ops [⟨(some 3), .mv (.t 0), none, []⟩,
      ⟨(some 4), .cmp .eql (.t 3) (.k (.lit .i16 (-1))), none, []⟩])
    (.cond (.t 4) (.seq (.ops [⟨(some 2), .mv (.k (.lit .i64 1)), none, []⟩])
    (.ret)) (.skip)))
    (.seq (.ops [⟨(some 5), .mv (.t 0), none, []⟩,
      ⟨(some 6), .conv .i64 (.t 5), none, []⟩,
      ⟨(some 2), .mv (.t 6), none, []⟩])
    (.ret)))
theorem fn73 : FnOk Try.prog 73 x73 7 [2] := FnOk.of Try.call73 Try.func73 (by kernel_rfl) Try.ntmps73 (by kernel_rfl)
/-- (*baler/balerref01.W).Align -/
def x74 : XC :=
  .block 0 (.loop (.seq (.seq (.ops [⟨(some 2), .mv (.t 0), none, []⟩,
      ⟨(some 3), .nilchk (.t 2), none, []⟩,
      ⟨(some 4), .fadr 0 (.t 3), none, []⟩,
      ⟨(some 5), .load1 (.t 4), none, []⟩,
      ⟨(some 6), .len (.t 5), none, []⟩,
      ⟨(some 7), .bin .rem .i64 (.t 6) (.k (.lit .i64 8)), none, []⟩,
      ⟨(some 8), .cmp .neq (.t 7) (.k (.lit .i64 0)), none, []⟩])
    (.cond (.t 8) (.skip) (.exit 0)))
    (.block 1 (.ops [⟨(some 9), .mv (.t 0), none, []⟩,
      ⟨(some 10), .mv (.t 0), none, []⟩,
      ⟨(some 11), .nilchk (.t 10), none, []⟩,
      ⟨(some 12), .fadr 0 (.t 11), none, []⟩,
      ⟨(some 13), .load1 (.t 12), none, []⟩,
      ⟨(some 14), .bsliceI 5 .u8 1 [⟨0, 1, (.k (.lit .u8 0))⟩], none, []⟩,
      ⟨(some 15), .appI 5 .u8 1 (.t 13) (.t 14), none, []⟩,
      ⟨(some 16), .nilchk (.t 9), none, []⟩,
      ⟨(some 17), .fadr 0 (.t 16), none, []⟩,
      ⟨none, .store1 (.t 17) (.t 15), none, []⟩]))))
theorem fn74 : FnOk Try.prog 74 x74 18 [] := FnOk.of Try.call74 Try.func74 (by kernel_rfl) Try.ntmps74 (by kernel_rfl)
/-- baler/states.places -/
def x75 : XC :=
  .seq (.ops [⟨(some 2), .box 3 none (.t 0), none, []⟩,
      ⟨(some 3), .box 3 none (.t 1), none, []⟩,
      ⟨(some 4), .mv (.k (.val .nilFunc)), none, []⟩])
    (.seq (.ops [⟨(some 5), .mkfn 116 [(.t 3), (.t 2)], none, []⟩,
      ⟨(some 4), .mv (.t 5), none, []⟩])
    (.ret))
theorem fn75 : FnOk Try.prog 75 x75 6 [4] := FnOk.of Try.call75 Try.func75 (by kernel_rfl) Try.ntmps75 (by kernel_rfl)
/-- baler/balerref07.width -/
def x76 : XC :=
  .seq (.ops [⟨(some 2), .mv (.k (.lit .i64 0)), none, []⟩])
    (.seq (.ops [⟨(some 3), .mv (.k (.lit .i64 0)), none, []⟩])
    (.seq (.block 0 (.loop (.seq (.seq (.ops [⟨(some 4), .mv (.t 0), none, []⟩,
      ⟨(some 5), .cmp .gtr (.t 4) (.k (.lit .i64 0)), none, []⟩])
    (.cond (.t 5) (.skip) (.exit 0)))
    (.block 1 (.seq (.ops [⟨(some 6), .mv (.t 0), none, []⟩,
      ⟨(some 7), .bin .quo .i64 (.t 6) (.k (.lit .i64 2)), none, []⟩,
      ⟨(some 0), .mv (.t 7), none, []⟩])
    (.ops [⟨(some 8), .mv (.t 3), none, []⟩,
      ⟨(some 9), .bin .add .i64 (.t 8) (.k (.lit .i64 1)), none, []⟩,
      ⟨(some 3), .mv (.t 9), none, []⟩]))))))
    (.seq (.ops [⟨(some 10), .mv (.t 3), none, []⟩,
      ⟨(some 2), .mv (.t 10), none, []⟩])
    (.ret))))
theorem fn76 : FnOk Try.prog 76 x76 11 [2] := FnOk.of Try.call76 Try.func76 (by kernel_rfl) Try.ntmps76 (by kernel_rfl)
/-- (*baler/bits.Reader).Bits -/
def x77 : XC :=
  .seq (.ops [⟨(some 4), .mv (.k (.lit .u64 0)), none, []⟩,
      ⟨(some 5), .mv (.k (.lit .i64 0)), none, []⟩])
    (.seq (.block 0 (.seq (.ops [⟨(some 8), .mv (.t 0), none, []⟩,
      ⟨(some 9), .eqv false 2 (.t 8) (.k (.val (.pointer none))), none, []⟩,
      ⟨(some 7), .mv (.t 9), none, []⟩])
    (.cond (.t 7) (.seq (.ops [⟨(some 4), .mv (.k (.lit .u64 0)), none, []⟩,
      ⟨(some 5), .mv (.k (.lit .i64 1)), none, []⟩])
    (.ret)) (.seq (.ops [⟨(some 11), .mv (.t 1), none, []⟩,
      ⟨(some 12), .cmp .lss (.t 11) (.k (.lit .i64 0)), none, []⟩,
      ⟨(some 13), .mv (.t 12), none, []⟩,
      ⟨(some 14), .mv (.t 1), some (13, false), []⟩,
      ⟨(some 15), .cmp .gtr (.t 14) (.k (.lit .i64 56)), some (13, false), []⟩,
      ⟨(some 16), .pick (.t 13) (.k (.bool true)) (.t 15), none, []⟩,
      ⟨(some 10), .mv (.t 16), none, []⟩])
    (.cond (.t 10) (.seq (.ops [⟨(some 4), .mv (.k (.lit .u64 0)), none, []⟩,
      ⟨(some 5), .mv (.k (.lit .i64 2)), none, []⟩])
    (.ret)) (.seq (.ops [⟨(some 18), .mv (.t 0), none, []⟩,
      ⟨(some 19), .mv (.t 1), none, []⟩,
      ⟨(some 20), .call (.k (.fn 117 [])) [(.t 18), (.t 19)], none, []⟩,
      ⟨(some 21), .not (.t 20), none, []⟩,
      ⟨(some 17), .mv (.t 21), none, []⟩])
    (.cond (.t 17) (.seq (.ops [⟨(some 4), .mv (.k (.lit .u64 0)), none, []⟩,
      ⟨(some 5), .mv (.k (.lit .i64 10)), none, []⟩])
    (.ret)) (.skip))))))))
    (.seq (.ops [⟨(some 22), .mv (.t 0), none, []⟩,
      ⟨(some 23), .nilchk (.t 22), none, []⟩,
      ⟨(some 24), .fadr 1 (.t 23), none, []⟩,
      ⟨(some 25), .load1 (.t 24), none, []⟩,
      ⟨(some 26), .mv (.t 1), none, []⟩,
      ⟨(some 27), .conv .u64 (.t 26), none, []⟩,
      ⟨(some 28), .bin .shl .u64 (.k (.lit .u64 1)) (.t 27), none, []⟩,
      ⟨(some 29), .bin .sub .u64 (.t 28) (.k (.lit .u64 1)), none, []⟩,
      ⟨(some 30), .bin .and .u64 (.t 25) (.t 29), none, []⟩,
      ⟨(some 6), .mv (.t 30), none, []⟩])
    (.seq (.ops [⟨(some 31), .mv (.t 0), none, []⟩,
      ⟨(some 32), .nilchk (.t 31), none, []⟩,
      ⟨(some 33), .fadr 1 (.t 32), none, []⟩,
      ⟨(some 34), .load1 (.t 33), none, []⟩,
      ⟨(some 35), .mv (.t 1), none, []⟩,
      ⟨(some 36), .conv .u64 (.t 35), none, []⟩,
      ⟨(some 37), .bin .shr .u64 (.t 34) (.t 36), none, []⟩,
      ⟨(some 38), .nilchk (.t 31), none, []⟩,
      ⟨(some 39), .fadr 1 (.t 38), none, []⟩,
      ⟨none, .store1 (.t 39) (.t 37), none, []⟩])
    (.seq (.ops [⟨(some 40), .mv (.t 0), none, []⟩,
      ⟨(some 41), .nilchk (.t 40), none, []⟩,
      ⟨(some 42), .fadr 2 (.t 41), none, []⟩,
      ⟨(some 43), .load1 (.t 42), none, []⟩,
      ⟨(some 44), .mv (.t 1), none, []⟩,
      ⟨(some 45), .bin .sub .i64 (.t 43) (.t 44), none, []⟩,
      ⟨(some 46), .nilchk (.t 40), none, []⟩,
      ⟨(some 47), .fadr 2 (.t 46), none, []⟩,
      ⟨none, .store1 (.t 47) (.t 45), none, []⟩])
    (.seq (.ops [⟨(some 48), .mv (.t 6), none, []⟩,
      ⟨(some 4), .mv (.t 48), none, []⟩,
      ⟨(some 5), .mv (.k (.lit .i64 0)), none, []⟩])
    (.ret))))))
theorem fn77 : FnOk Try.prog 77 x77 49 [4, 5] := FnOk.of Try.call77 Try.func77 (by kernel_rfl) Try.ntmps77 (by kernel_rfl)
/-- baler/bits.New$1 -/
def x80 : XC :=
  .seq (.ops [⟨(some 2), .mv (.k (.lit .u8 0)), none, []⟩,
      ⟨(some 3), .mv (.k (.bool false)), none, []⟩])
    (.seq (.seq (.ops [⟨(some 4), .load1 (.t 0), none, []⟩,
      ⟨(some 5), .load1 (.t 1), none, []⟩,
      ⟨(some 6), .len (.t 5), none, []⟩,
      ⟨(some 7), .cmp .geq (.t 4) (.t 6), none, []⟩])
    (.cond (.t 7) (.seq (.ops [⟨(some 2), .mv (.k (.lit .u8 0)), none, []⟩,
      ⟨(some 3), .mv (.k (.bool false)), none, []⟩])
    (.ret)) (.skip)))
    (.seq (.ops [⟨(some 8), .load1 (.t 0), none, []⟩,
      ⟨(some 9), .bin .add .i64 (.t 8) (.k (.lit .i64 1)), none, []⟩,
      ⟨none, .store1 (.t 0) (.t 9), none, []⟩])
    (.seq (.ops [⟨(some 10), .load1 (.t 1), none, []⟩,
      ⟨(some 11), .load1 (.t 0), none, []⟩,
      ⟨(some 12), .bin .sub .i64 (.t 11) (.k (.lit .i64 1)), none, []⟩,
      ⟨(some 13), .iadr 1 (.t 10) (.t 12), none, []⟩,
      ⟨(some 14), .load1 (.t 13), none, []⟩,
      ⟨(some 2), .mv (.t 14), none, []⟩,
      ⟨(some 3), .mv (.k (.bool true)), none, []⟩])
    (.ret))))
theorem fn80 : FnOk Try.prog 80 x80 15 [2, 3] := FnOk.of Try.call80 Try.func80 (by kernel_rfl) Try.ntmps80 (by kernel_rfl)
/-- baler/bits.New$2 -/
def x81 : XC :=
  .seq (.ops [⟨(some 2), .mv (.k (.lit .i64 0)), none, []⟩])
    (.seq (.ops [⟨(some 3), .load1 (.t 0), none, []⟩,
      ⟨(some 4), .len (.t 3), none, []⟩,
      ⟨(some 5), .load1 (.t 1), none, []⟩,
      ⟨(some 6), .bin .sub .i64 (.t 4) (.t 5), none, []⟩,
      ⟨(some 7), .bin .mul .i64 (.k (.lit .i64 8)) (.t 6), none, []⟩,
      ⟨(some 2), .mv (.t 7), none, []⟩])
    (.ret))
theorem fn81 : FnOk Try.prog 81 x81 8 [2] := FnOk.of Try.call81 Try.func81 (by kernel_rfl) Try.ntmps81 (by kernel_rfl)
/-- baler/tail.each -/
def x83 : XC :=
  .seq (.ops [⟨(some 2), .box 31 none (.t 0), none, []⟩,
      ⟨(some 3), .box 3 none (.t 1), none, []⟩,
      ⟨(some 4), .mv (.k (.val .nilFunc)), none, []⟩])
    (.seq (.ops [⟨(some 5), .mkfn 119 [(.t 3), (.t 2)], none, []⟩,
      ⟨(some 4), .mv (.t 5), none, []⟩])
    (.ret))
theorem fn83 : FnOk Try.prog 83 x83 6 [4] := FnOk.of Try.call83 Try.func83 (by kernel_rfl) Try.ntmps83 (by kernel_rfl)
/-- math/bits.Len8 -/
def x84 : XC :=
  .seq (.ops [⟨(some 2), .mv (.k (.lit .i64 0)), none, []⟩])
    (.seq (.ops [⟨(some 3), .mv (.t 0), none, []⟩,
      ⟨(some 4), .idxS (.k (.str [0, 1, 2, 2, 3, 3, 3, 3, 4, 4, 4, 4, 4, 4, 4, 4, 5, 5, 5, 5, 5, 5, 5, 5, 5, 5, 5, 5, 5, 5, 5, 5, 6, 6, 6, 6, 6, 6, 6, 6, 6, 6, 6, 6, 6, 6, 6, 6, 6, 6, 6, 6, 6, 6, 6, 6, 6, 6, 6, 6, 6, 6, 6, 6, 7, 7, 7, 7, 7, 7, 7, 7, 7, 7, 7, 7, 7, 7, 7, 7, 7, 7, 7, 7, 7, 7, 7, 7, 7, 7, 7, 7, 7, 7, 7, 7, 7, 7, 7, 7, 7, 7, 7, 7, 7, 7, 7, 7, 7, 7, 7, 7, 7, 7, 7, 7, 7, 7, 7, 7, 7, 7, 7, 7, 7, 7, 7, 7, 8, 8, 8, 8, 8, 8, 8, 8, 8, 8, 8, 8, 8, 8, 8, 8, 8, 8, 8, 8, 8, 8, 8, 8, 8, 8, 8, 8, 8, 8, 8, 8, 8, 8, 8, 8, 8, 8, 8, 8, 8, 8, 8, 8, 8, 8, 8, 8, 8, 8, 8, 8, 8, 8, 8, 8, 8, 8, 8, 8, 8, 8, 8, 8, 8, 8, 8, 8, 8, 8, 8, 8, 8, 8, 8, 8, 8, 8, 8, 8, 8, 8, 8, 8, 8, 8, 8, 8, 8, 8, 8, 8, 8, 8, 8, 8, 8, 8, 8, 8, 8, 8, 8, 8, 8, 8, 8, 8, 8, 8, 8, 8, 8, 8, 8, 8, 8, 8, 8, 8, 8, 8, 8, 8, 8, 8, 8, 8])) (.t 3), none, []⟩,
      ⟨(some 5), .conv .i64 (.t 4), none, []⟩,
      ⟨(some 2), .mv (.t 5), none, []⟩])
    (.ret))
theorem fn84 : FnOk Try.prog 84 x84 6 [2] := FnOk.of Try.call84 Try.func84 (by kernel_rfl) Try.ntmps84 (by kernel_rfl)
/-- baler/bits.each -/
def x113 : XC :=
  .seq (.ops [⟨(some 2), .box 31 none (.t 0), none, []⟩,
      ⟨(some 3), .box 3 none (.t 1), none, []⟩,
      ⟨(some 4), .mv (.k (.val .nilFunc)), none, []⟩])
    (.seq (.ops [⟨(some 5), .mkfn 139 [(.t 3), (.t 2)], none, []⟩,
      ⟨(some 4), .mv (.t 5), none, []⟩])
    (.ret))
theorem fn113 : FnOk Try.prog 113 x113 6 [4] := FnOk.of Try.call113 Try.func113 (by kernel_rfl) Try.ntmps113 (by kernel_rfl)
/-- math/bits.Len32 -/
def x114 : XC :=
  .seq (.ops [⟨(some 2), .mv (.k (.lit .i64 0)), none, []⟩])
    (.seq (.seq (.ops [⟨(some 3), .mv (.t 0), none, []⟩,
      ⟨(some 4), .cmp .geq (.t 3) (.k (.lit .u32 65536)), none, []⟩])
    (.cond (.t 4) (.seq (.ops [⟨(some 5), .mv (.t 0), none, []⟩,
      ⟨(some 6), .bin .shr .u32 (.t 5) (.k (.lit .u64 16)), none, []⟩,
      ⟨(some 0), .mv (.t 6), none, []⟩])
    (.ops [⟨(some 2), .mv (.k (.lit .i64 16)), none, []⟩])) (.skip)))
    (.seq (.seq (.ops [⟨(some 7), .mv (.t 0), none, []⟩,
      ⟨(some 8), .cmp .geq (.t 7) (.k (.lit .u32 256)), none, []⟩])
    (.cond (.t 8) (.seq (.ops [⟨(some 9), .mv (.t 0), none, []⟩,
      ⟨(some 10), .bin .shr .u32 (.t 9) (.k (.lit .u64 8)), none, []⟩,
      ⟨(some 0), .mv (.t 10), none, []⟩])
    (.ops [⟨(some 11), .mv (.t 2), none, []⟩,
      ⟨(some 12), .bin .add .i64 (.t 11) (.k (.lit .i64 8)), none, []⟩,
      ⟨(some 2), .mv (.t 12), none, []⟩])) (.skip)))
    (.seq (.ops [⟨(some 13), .mv (.t 2), none, []⟩,
      ⟨(some 14), .mv (.t 0), none, []⟩,
      ⟨(some 15), .conv .u8 (.t 14), none, []⟩,
      ⟨(some 16), .idxS (.k (.str [0, 1, 2, 2, 3, 3, 3, 3, 4, 4, 4, 4, 4, 4, 4, 4, 5, 5, 5, 5, 5, 5, 5, 5, 5, 5, 5, 5, 5, 5, 5, 5, 6, 6, 6, 6, 6, 6, 6, 6, 6, 6, 6, 6, 6, 6, 6, 6, 6, 6, 6, 6, 6, 6, 6, 6, 6, 6, 6, 6, 6, 6, 6, 6, 7, 7, 7, 7, 7, 7, 7, 7, 7, 7, 7, 7, 7, 7, 7, 7, 7, 7, 7, 7, 7, 7, 7, 7, 7, 7, 7, 7, 7, 7, 7, 7, 7, 7, 7, 7, 7, 7, 7, 7, 7, 7, 7, 7, 7, 7, 7, 7, 7, 7, 7, 7, 7, 7, 7, 7, 7, 7, 7, 7, 7, 7, 7, 7, 8, 8, 8, 8, 8, 8, 8, 8, 8, 8, 8, 8, 8, 8, 8, 8, 8, 8, 8, 8, 8, 8, 8, 8, 8, 8, 8, 8, 8, 8, 8, 8, 8, 8, 8, 8, 8, 8, 8, 8, 8, 8, 8, 8, 8, 8, 8, 8, 8, 8, 8, 8, 8, 8, 8, 8, 8, 8, 8, 8, 8, 8, 8, 8, 8, 8, 8, 8, 8, 8, 8, 8, 8, 8, 8, 8, 8, 8, 8, 8, 8, 8, 8, 8, 8, 8, 8, 8, 8, 8, 8, 8, 8, 8, 8, 8, 8, 8, 8, 8, 8, 8, 8, 8, 8, 8, 8, 8, 8, 8, 8, 8, 8, 8, 8, 8, 8, 8, 8, 8, 8, 8, 8, 8, 8, 8, 8, 8])) (.t 15), none, []⟩,
      ⟨(some 17), .conv .i64 (.t 16), none, []⟩,
      ⟨(some 18), .bin .add .i64 (.t 13) (.t 17), none, []⟩,
      ⟨(some 2), .mv (.t 18), none, []⟩])
    (.ret))))
theorem fn114 : FnOk Try.prog 114 x114 19 [2] := FnOk.of Try.call114 Try.func114 (by kernel_rfl) Try.ntmps114 (by kernel_rfl)
/-- math/bits.Len64 -/
def x115 : XC :=
  .seq (.ops [⟨(some 2), .mv (.k (.lit .i64 0)), none, []⟩])
    (.seq (.seq (.ops [⟨(some 3), .mv (.t 0), none, []⟩,
      ⟨(some 4), .cmp .geq (.t 3) (.k (.lit .u64 4294967296)), none, []⟩])
    (.cond (.t 4) (.seq (.ops [⟨(some 5), .mv (.t 0), none, []⟩,
      ⟨(some 6), .bin .shr .u64 (.t 5) (.k (.lit .u64 32)), none, []⟩,
      ⟨(some 0), .mv (.t 6), none, []⟩])
    (.ops [⟨(some 2), .mv (.k (.lit .i64 32)), none, []⟩])) (.skip)))
    (.seq (.seq (.ops [⟨(some 7), .mv (.t 0), none, []⟩,
      ⟨(some 8), .cmp .geq (.t 7) (.k (.lit .u64 65536)), none, []⟩])
    (.cond (.t 8) (.seq (.ops [⟨(some 9), .mv (.t 0), none, []⟩,
      ⟨(some 10), .bin .shr .u64 (.t 9) (.k (.lit .u64 16)), none, []⟩,
      ⟨(some 0), .mv (.t 10), none, []⟩])
    (.ops [⟨(some 11), .mv (.t 2), none, []⟩,
      ⟨(some 12), .bin .add .i64 (.t 11) (.k (.lit .i64 16)), none, []⟩,
      ⟨(some 2), .mv (.t 12), none, []⟩])) (.skip)))
    (.seq (.seq (.ops [⟨(some 13), .mv (.t 0), none, []⟩,
      ⟨(some 14), .cmp .geq (.t 13) (.k (.lit .u64 256)), none, []⟩])
    (.cond (.t 14) (.seq (.ops [⟨(some 15), .mv (.t 0), none, []⟩,
      ⟨(some 16), .bin .shr .u64 (.t 15) (.k (.lit .u64 8)), none, []⟩,
      ⟨(some 0), .mv (.t 16), none, []⟩])
    (.ops [⟨(some 17), .mv (.t 2), none, []⟩,
      ⟨(some 18), .bin .add .i64 (.t 17) (.k (.lit .i64 8)), none, []⟩,
      ⟨(some 2), .mv (.t 18), none, []⟩])) (.skip)))
    (.seq (.ops [⟨(some 19), .mv (.t 2), none, []⟩,
      ⟨(some 20), .mv (.t 0), none, []⟩,
      ⟨(some 21), .conv .u8 (.t 20), none, []⟩,
      ⟨(some 22), .idxS (.k (.str [0, 1, 2, 2, 3, 3, 3, 3, 4, 4, 4, 4, 4, 4, 4, 4, 5, 5, 5, 5, 5, 5, 5, 5, 5, 5, 5, 5, 5, 5, 5, 5, 6, 6, 6, 6, 6, 6, 6, 6, 6, 6, 6, 6, 6, 6, 6, 6, 6, 6, 6, 6, 6, 6, 6, 6, 6, 6, 6, 6, 6, 6, 6, 6, 7, 7, 7, 7, 7, 7, 7, 7, 7, 7, 7, 7, 7, 7, 7, 7, 7, 7, 7, 7, 7, 7, 7, 7, 7, 7, 7, 7, 7, 7, 7, 7, 7, 7, 7, 7, 7, 7, 7, 7, 7, 7, 7, 7, 7, 7, 7, 7, 7, 7, 7, 7, 7, 7, 7, 7, 7, 7, 7, 7, 7, 7, 7, 7, 8, 8, 8, 8, 8, 8, 8, 8, 8, 8, 8, 8, 8, 8, 8, 8, 8, 8, 8, 8, 8, 8, 8, 8, 8, 8, 8, 8, 8, 8, 8, 8, 8, 8, 8, 8, 8, 8, 8, 8, 8, 8, 8, 8, 8, 8, 8, 8, 8, 8, 8, 8, 8, 8, 8, 8, 8, 8, 8, 8, 8, 8, 8, 8, 8, 8, 8, 8, 8, 8, 8, 8, 8, 8, 8, 8, 8, 8, 8, 8, 8, 8, 8, 8, 8, 8, 8, 8, 8, 8, 8, 8, 8, 8, 8, 8, 8, 8, 8, 8, 8, 8, 8, 8, 8, 8, 8, 8, 8, 8, 8, 8, 8, 8, 8, 8, 8, 8, 8, 8, 8, 8, 8, 8, 8, 8, 8, 8])) (.t 21), none, []⟩,
      ⟨(some 23), .conv .i64 (.t 22), none, []⟩,
      ⟨(some 24), .bin .add .i64 (.t 19) (.t 23), none, []⟩,
      ⟨(some 2), .mv (.t 24), none, []⟩])
    (.ret)))))
theorem fn115 : FnOk Try.prog 115 x115 25 [2] := FnOk.of Try.call115 Try.func115 (by kernel_rfl) Try.ntmps115 (by kernel_rfl)
/-- baler/states.places$1 -/
def x116 : XC :=
  .seq (.ops [⟨(some 4), .mv (.k (.lit .i64 0)), none, []⟩])
    (.seq (.ops [⟨(some 5), .load1 (.t 1), none, []⟩,
      ⟨(some 6), .mv (.k (.lit .i64 0)), none, []⟩])
    (.block 0 (.loop (.seq (.ops [⟨(some 7), .cmp .lss (.t 6) (.t 5), none, []⟩])
    (.seq (.cond (.t 7) (.skip) (.exit 0))
    (.seq (.block 1 (.seq (.seq (.ops [⟨(some 8), .mv (.t 0), none, []⟩,
      ⟨(some 9), .mv (.t 4), none, []⟩,
      ⟨(some 10), .call (.t 8) [(.t 9)], none, []⟩,
      ⟨(some 11), .not (.t 10), none, []⟩])
    (.cond (.t 11) (.ret) (.skip)))
    (.seq (.ops [⟨(some 12), .mv (.t 4), none, []⟩,
      ⟨(some 13), .load1 (.t 2), none, []⟩,
      ⟨(some 14), .bin .quo .i64 (.t 13) (.k (.lit .i64 2)), none, []⟩,
      ⟨(some 15), .bin .add .i64 (.t 12) (.t 14), none, []⟩,
      ⟨(some 16), .load1 (.t 2), none, []⟩,
      ⟨(some 17), .bin .quo .i64 (.t 16) (.k (.lit .i64 8)), none, []⟩,
      ⟨(some 18), .bin .add .i64 (.t 15) (.t 17), none, []⟩,
      ⟨(some 19), .bin .add .i64 (.t 18) (.k (.lit .i64 3)), none, []⟩,
      ⟨(some 20), .load1 (.t 2), none, []⟩,
      ⟨(some 21), .bin .rem .i64 (.t 19) (.t 20), none, []⟩,
      ⟨(some 4), .mv (.t 21), none, []⟩])
    (.block 2 (.loop (.seq (.seq (.ops [⟨(some 22), .mv (.t 4), none, []⟩,
      ⟨(some 23), .load1 (.t 1), none, []⟩,
      ⟨(some 24), .cmp .geq (.t 22) (.t 23), none, []⟩])
    (.cond (.t 24) (.skip) (.exit 2)))
    (.seq (.block 3 (.seq (.ops [⟨(some 35), .load1 (.t 1), none, []⟩,
      ⟨(some 36), .cmp .eql (.t 35) (.k (.lit .i64 0)), none, []⟩])
    (.cond (.t 36) (.ret) (.skip))))
    (.ops [⟨(some 25), .mv (.t 4), none, []⟩,
      ⟨(some 26), .load1 (.t 2), none, []⟩,
      ⟨(some 27), .bin .quo .i64 (.t 26) (.k (.lit .i64 2)), none, []⟩,
      ⟨(some 28), .bin .add .i64 (.t 25) (.t 27), none, []⟩,
      ⟨(some 29), .load1 (.t 2), none, []⟩,
      ⟨(some 30), .bin .quo .i64 (.t 29) (.k (.lit .i64 8)), none, []⟩,
      ⟨(some 31), .bin .add .i64 (.t 28) (.t 30), none, []⟩,
      ⟨(some 32), .bin .add .i64 (.t 31) (.k (.lit .i64 3)), none, []⟩,
      ⟨(some 33), .load1 (.t 2), none, []⟩,
      ⟨(some 34), .bin .rem .i64 (.t 32) (.t 33), none, []⟩,
      ⟨(some 4), .mv (.t 34), none, []⟩]))))))))
    (.ops [⟨(some 37), .bin .add .i64 (.t 6) (.k (.lit .i64 1)), none, []⟩,
      ⟨(some 6), .mv (.t 37), none, []⟩])))))))
theorem fn116 : FnOk Try.prog 116 x116 38 [] := FnOk.of Try.call116 Try.func116 (by kernel_rfl) Try.ntmps116 (by kernel_rfl)
/-- (*baler/bits.Reader).fill -/
def x117 : XC :=
  .seq (.ops [⟨(some 4), .mv (.k (.bool false)), none, []⟩])
    (.seq (.block 0 (.loop (.seq (.seq (.ops [⟨(some 7), .mv (.t 0), none, []⟩,
      ⟨(some 8), .nilchk (.t 7), none, []⟩,
      ⟨(some 9), .fadr 2 (.t 8), none, []⟩,
      ⟨(some 10), .load1 (.t 9), none, []⟩,
      ⟨(some 11), .mv (.t 1), none, []⟩,
      ⟨(some 12), .cmp .lss (.t 10) (.t 11), none, []⟩])
    (.cond (.t 12) (.skip) (.exit 0)))
    (.block 1 (.seq (.ops [⟨(some 14), .mv (.t 0), none, []⟩,
      ⟨(some 15), .nilchk (.t 14), none, []⟩,
      ⟨(some 16), .fadr 0 (.t 15), none, []⟩,
      ⟨(some 17), .load1 (.t 16), none, []⟩,
      ⟨(some 18), .call (.t 17) [], none, []⟩,
      ⟨(some 13), .mv (.t 18), none, []⟩,
      ⟨(some 19), .extract (.t 13) 0, none, []⟩,
      ⟨(some 20), .extract (.t 13) 1, none, []⟩,
      ⟨(some 5), .mv (.t 19), none, []⟩,
      ⟨(some 6), .mv (.t 20), none, []⟩])
    (.seq (.seq (.ops [⟨(some 21), .mv (.t 6), none, []⟩,
      ⟨(some 22), .not (.t 21), none, []⟩])
    (.cond (.t 22) (.seq (.ops [⟨(some 4), .mv (.k (.bool false)), none, []⟩])
    (.ret)) (.skip)))
    (.seq (.ops [⟨(some 23), .mv (.t 0), none, []⟩,
      ⟨(some 24), .nilchk (.t 23), none, []⟩,
      ⟨(some 25), .fadr 1 (.t 24), none, []⟩,
      ⟨(some 26), .load1 (.t 25), none, []⟩,
      ⟨(some 27), .mv (.t 5), none, []⟩,
      ⟨(some 28), .conv .u64 (.t 27), none, []⟩,
      ⟨(some 29), .mv (.t 0), none, []⟩,
      ⟨(some 30), .nilchk (.t 29), none, []⟩,
      ⟨(some 31), .fadr 2 (.t 30), none, []⟩,
      ⟨(some 32), .load1 (.t 31), none, []⟩,
      ⟨(some 33), .conv .u64 (.t 32), none, []⟩,
      ⟨(some 34), .bin .shl .u64 (.t 28) (.t 33), none, []⟩,
      ⟨(some 35), .bin .or .u64 (.t 26) (.t 34), none, []⟩,
      ⟨(some 36), .nilchk (.t 23), none, []⟩,
      ⟨(some 37), .fadr 1 (.t 36), none, []⟩,
      ⟨none, .store1 (.t 37) (.t 35), none, []⟩])
    (.ops [⟨(some 38), .mv (.t 0), none, []⟩,
      ⟨(some 39), .nilchk (.t 38), none, []⟩,
      ⟨(some 40), .fadr 2 (.t 39), none, []⟩,
      ⟨(some 41), .load1 (.t 40), none, []⟩,
      ⟨(some 42), .bin .add .i64 (.t 41) (.k (.lit .i64 8)), none, []⟩,
      ⟨(some 43), .nilchk (.t 38), none, []⟩,
      ⟨(some 44), .fadr 2 (.t 43), none, []⟩,
      ⟨none, .store1 (.t 44) (.t 42), none, []⟩]))))))))
    (.seq (.ops [⟨(some 4), .mv (.k (.bool true)), none, []⟩])
    (.ret)))
theorem fn117 : FnOk Try.prog 117 x117 45 [4] := FnOk.of Try.call117 Try.func117 (by kernel_rfl) Try.ntmps117 (by kernel_rfl)
/-- baler/tail.each$1 -/
def x119 : XC :=
  .seq (.ops [⟨(some 5), .load1 (.t 1), none, []⟩,
      ⟨(some 6), .mv (.k (.lit .i64 0)), none, []⟩])
    (.block 0 (.loop (.seq (.ops [⟨(some 7), .cmp .lss (.t 6) (.t 5), none, []⟩])
    (.seq (.cond (.t 7) (.skip) (.exit 0))
    (.seq (.block 1 (.seq (.ops [⟨(some 8), .mv (.t 6), none, []⟩,
      ⟨(some 4), .mv (.t 8), none, []⟩])
    (.seq (.ops [⟨(some 9), .mv (.t 0), none, []⟩,
      ⟨(some 10), .mv (.t 4), none, []⟩,
      ⟨(some 11), .load1 (.t 2), none, []⟩,
      ⟨(some 12), .mv (.t 4), none, []⟩,
      ⟨(some 13), .conv .u64 (.t 12), none, []⟩,
      ⟨(some 14), .bin .shr .u64 (.t 11) (.t 13), none, []⟩,
      ⟨(some 15), .bin .and .u64 (.t 14) (.k (.lit .u64 1)), none, []⟩,
      ⟨(some 16), .conv .u8 (.t 15), none, []⟩,
      ⟨(some 17), .call (.t 9) [(.t 10), (.t 16)], none, []⟩,
      ⟨(some 18), .not (.t 17), none, []⟩])
    (.cond (.t 18) (.ret) (.skip)))))
    (.ops [⟨(some 19), .bin .add .i64 (.t 6) (.k (.lit .i64 1)), none, []⟩,
      ⟨(some 6), .mv (.t 19), none, []⟩]))))))
theorem fn119 : FnOk Try.prog 119 x119 20 [] := FnOk.of Try.call119 Try.func119 (by kernel_rfl) Try.ntmps119 (by kernel_rfl)
/-- baler/bits.each$1 -/
def x139 : XC :=
  .block 0 (.loop (.seq (.seq (.ops [⟨(some 4), .load1 (.t 1), none, []⟩,
      ⟨(some 5), .cmp .gtr (.t 4) (.k (.lit .i64 0)), none, []⟩])
    (.cond (.t 5) (.skip) (.exit 0)))
    (.seq (.block 1 (.seq (.seq (.ops [⟨(some 8), .mv (.t 0), none, []⟩,
      ⟨(some 9), .load1 (.t 2), none, []⟩,
      ⟨(some 10), .bin .and .u64 (.t 9) (.k (.lit .u64 1)), none, []⟩,
      ⟨(some 11), .conv .u8 (.t 10), none, []⟩,
      ⟨(some 12), .call (.t 8) [(.t 11)], none, []⟩,
      ⟨(some 13), .not (.t 12), none, []⟩])
    (.cond (.t 13) (.ret) (.skip)))
    (.ops [⟨(some 14), .load1 (.t 2), none, []⟩,
      ⟨(some 15), .bin .shr .u64 (.t 14) (.k (.lit .u64 1)), none, []⟩,
      ⟨none, .store1 (.t 2) (.t 15), none, []⟩])))
    (.ops [⟨(some 6), .load1 (.t 1), none, []⟩,
      ⟨(some 7), .bin .sub .i64 (.t 6) (.k (.lit .i64 1)), none, []⟩,
      ⟨none, .store1 (.t 1) (.t 7), none, []⟩]))))
theorem fn139 : FnOk Try.prog 139 x139 16 [] := FnOk.of Try.call139 Try.func139 (by kernel_rfl) Try.ntmps139 (by kernel_rfl)
end Go.Proofs.Ytodobmkflimfkaa
