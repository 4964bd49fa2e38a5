import Derived.Test.YtodobmkflimfkaaEB
import Derived.Test.YtodobmkflimfkaaRows
/-
  The compact codes of this seat's functions (printed by wip/dev/Pr.lean.tpl), checked.
-/
namespace Go.Proofs.Ytodobmkflimfkaa
open Go Go.Sx Go.Proofs
/-- baler/balerlaw05.CanonBest -/
def x3 : XC :=
  .seq (.ops [⟨(some 4), .mv (.k (.bool false)), none, []⟩])
    (.seq (.ops [⟨(some 9), .mv (.t 0), none, []⟩,
      ⟨(some 10), .mv (.t 1), none, []⟩,
      ⟨(some 11), .call (.k (.fn 15 [])) [(.t 9), (.t 10)], none, []⟩,
      ⟨(some 8), .mv (.t 11), none, []⟩,
      ⟨(some 12), .extract (.t 8) 0, none, []⟩,
      ⟨(some 13), .extract (.t 8) 1, none, []⟩,
      ⟨(some 5), .mv (.t 12), none, []⟩,
      ⟨(some 6), .mv (.t 13), none, []⟩])
    (.seq (.seq (.ops [⟨(some 14), .mv (.t 0), none, []⟩,
      ⟨(some 15), .mv (.t 1), none, []⟩,
      ⟨(some 16), .call (.k (.fn 16 [])) [(.t 14), (.t 15)], none, []⟩,
      ⟨(some 17), .not (.t 16), none, []⟩])
    (.cond (.t 17) (.seq (.ops [⟨(some 18), .mv (.t 6), none, []⟩,
      ⟨(some 19), .cmp .eql (.t 18) (.k (.lit .i64 2)), none, []⟩,
      ⟨(some 20), .mv (.t 19), none, []⟩,
      ⟨(some 21), .mv (.t 5), some (20, true), []⟩,
      ⟨(some 22), .len (.t 21), some (20, true), []⟩,
      ⟨(some 23), .cmp .eql (.t 22) (.k (.lit .i64 0)), some (20, true), []⟩,
      ⟨(some 24), .pick (.t 20) (.t 23) (.k (.bool false)), none, []⟩,
      ⟨(some 25), .mv (.t 24), none, []⟩,
      ⟨(some 26), .call (.k (.fn 17 [])) [], some (25, true), []⟩,
      ⟨(some 27), .pick (.t 25) (.t 26) (.k (.bool false)), none, []⟩,
      ⟨(some 4), .mv (.t 27), none, []⟩])
    (.ret)) (.skip)))
    (.seq (.seq (.ops [⟨(some 28), .mv (.t 6), none, []⟩,
      ⟨(some 29), .cmp .neq (.t 28) (.k (.lit .i64 0)), none, []⟩,
      ⟨(some 30), .mv (.t 29), none, []⟩,
      ⟨(some 31), .mv (.t 5), some (30, false), []⟩,
      ⟨(some 32), .len (.t 31), some (30, false), []⟩,
      ⟨(some 33), .mv (.t 0), some (30, false), []⟩,
      ⟨(some 34), .len (.t 33), some (30, false), []⟩,
      ⟨(some 35), .cmp .neq (.t 32) (.t 34), some (30, false), []⟩,
      ⟨(some 36), .pick (.t 30) (.k (.bool true)) (.t 35), none, []⟩,
      ⟨(some 37), .mv (.t 36), none, []⟩,
      ⟨(some 38), .mv (.t 5), some (37, false), []⟩,
      ⟨(some 39), .call (.k (.fn 18 [])) [(.t 38)], some (37, false), []⟩,
      ⟨(some 40), .not (.t 39), some (37, false), []⟩,
      ⟨(some 41), .pick (.t 37) (.k (.bool true)) (.t 40), none, []⟩])
    (.cond (.t 41) (.seq (.ops [⟨(some 4), .mv (.k (.bool false)), none, []⟩])
    (.ret)) (.skip)))
    (.seq (.seq (.ops [⟨(some 42), .mv (.t 5), none, []⟩,
      ⟨(some 43), .len (.t 42), none, []⟩,
      ⟨(some 44), .mv (.k (.lit .i64 0)), none, []⟩])
    (.block 0 (.loop (.seq (.ops [⟨(some 45), .cmp .lss (.t 44) (.t 43), none, []⟩])
    (.seq (.cond (.t 45) (.skip) (.exit 0))
    (.seq (.block 1 (.seq (.ops [⟨(some 46), .mv (.t 44), none, []⟩,
      ⟨(some 7), .mv (.t 46), none, []⟩])
    (.seq (.ops [⟨(some 47), .mv (.t 5), none, []⟩,
      ⟨(some 48), .mv (.t 7), none, []⟩,
      ⟨(some 49), .iadr 1 (.t 47) (.t 48), none, []⟩,
      ⟨(some 50), .load1 (.t 49), none, []⟩,
      ⟨(some 51), .conv .i64 (.t 50), none, []⟩,
      ⟨(some 52), .mv (.t 1), none, []⟩,
      ⟨(some 53), .cmp .gtr (.t 51) (.t 52), none, []⟩,
      ⟨(some 54), .mv (.t 53), none, []⟩,
      ⟨(some 55), .mv (.t 5), some (54, false), []⟩,
      ⟨(some 56), .mv (.t 7), some (54, false), []⟩,
      ⟨(some 57), .iadr 1 (.t 55) (.t 56), some (54, false), []⟩,
      ⟨(some 58), .load1 (.t 57), some (54, false), []⟩,
      ⟨(some 59), .cmp .eql (.t 58) (.k (.lit .u8 0)), some (54, false), []⟩,
      ⟨(some 60), .mv (.t 0), some (54, false), []⟩,
      ⟨(some 61), .mv (.t 7), some (54, false), []⟩,
      ⟨(some 62), .iadr 1 (.t 60) (.t 61), some (54, false), []⟩,
      ⟨(some 63), .load1 (.t 62), some (54, false), []⟩,
      ⟨(some 64), .cmp .eql (.t 63) (.k (.lit .u32 0)), some (54, false), []⟩,
      ⟨(some 65), .eqv true 0 (.t 59) (.t 64), some (54, false), []⟩,
      ⟨(some 66), .pick (.t 54) (.k (.bool true)) (.t 65), none, []⟩])
    (.cond (.t 66) (.seq (.ops [⟨(some 4), .mv (.k (.bool false)), none, []⟩])
    (.ret)) (.skip)))))
    (.ops [⟨(some 67), .bin .add .i64 (.t 44) (.k (.lit .i64 1)), none, []⟩,
      ⟨(some 44), .mv (.t 67), none, []⟩])))))))
    (.seq (.ops [⟨(some 68), .mv (.t 0), none, []⟩,
      ⟨(some 69), .mv (.t 5), none, []⟩,
      ⟨(some 70), .call (.k (.fn 19 [])) [(.t 68), (.t 69)], none, []⟩,
      ⟨(some 71), .mv (.t 0), none, []⟩,
      ⟨(some 72), .mv (.t 1), none, []⟩,
      ⟨(some 73), .call (.k (.fn 20 [])) [(.t 71), (.t 72)], none, []⟩,
      ⟨(some 74), .cmp .eql (.t 70) (.t 73), none, []⟩,
      ⟨(some 75), .mv (.t 74), none, []⟩,
      ⟨(some 76), .call (.k (.fn 17 [])) [], some (75, true), []⟩,
      ⟨(some 77), .pick (.t 75) (.t 76) (.k (.bool false)), none, []⟩,
      ⟨(some 4), .mv (.t 77), none, []⟩])
    (.ret))))))
theorem fn3 : FnOk Try.prog 3 x3 78 [4] := FnOk.of Try.call3 Try.func3 (by kernel_rfl) Try.ntmps3 (by kernel_rfl)
/-- baler/balerlaw05.CanonWhole -/
def x7 : XC :=
  .seq (.ops [⟨(some 4), .mv (.k (.bool false)), none, []⟩])
    (.seq (.ops [⟨(some 10), .mv (.t 0), none, []⟩,
      ⟨(some 11), .call (.k (.fn 32 [])) [(.t 10)], none, []⟩,
      ⟨(some 9), .mv (.t 11), none, []⟩,
      ⟨(some 12), .extract (.t 9) 0, none, []⟩,
      ⟨(some 13), .extract (.t 9) 1, none, []⟩,
      ⟨(some 5), .mv (.t 12), none, []⟩,
      ⟨(some 6), .mv (.t 13), none, []⟩])
    (.seq (.seq (.ops [⟨(some 14), .mv (.t 6), none, []⟩,
      ⟨(some 15), .cmp .neq (.t 14) (.k (.lit .i64 0)), none, []⟩])
    (.cond (.t 15) (.seq (.ops [⟨(some 16), .mv (.t 5), none, []⟩,
      ⟨(some 17), .len (.t 16), none, []⟩,
      ⟨(some 18), .cmp .eql (.t 17) (.k (.lit .i64 0)), none, []⟩,
      ⟨(some 19), .mv (.t 18), none, []⟩,
      ⟨(some 20), .call (.k (.fn 17 [])) [], some (19, true), []⟩,
      ⟨(some 21), .pick (.t 19) (.t 20) (.k (.bool false)), none, []⟩,
      ⟨(some 4), .mv (.t 21), none, []⟩])
    (.ret)) (.skip)))
    (.seq (.ops [⟨(some 22), .mv (.t 1), none, []⟩,
      ⟨(some 23), .conv .u8 (.t 22), none, []⟩,
      ⟨(some 24), .mv (.t 1), none, []⟩,
      ⟨(some 25), .bin .shr .u16 (.t 24) (.k (.lit .u64 8)), none, []⟩,
      ⟨(some 26), .conv .u8 (.t 25), none, []⟩,
      ⟨(some 27), .bsliceI 5 .u8 2 [⟨0, 1, (.t 23)⟩, ⟨1, 1, (.t 26)⟩], none, []⟩,
      ⟨(some 28), .call (.k (.fn 33 [])) [(.t 27)], none, []⟩,
      ⟨(some 7), .mv (.t 28), none, []⟩])
    (.seq (.ops [⟨(some 30), .mv (.t 7), none, []⟩,
      ⟨(some 31), .mv (.t 0), none, []⟩,
      ⟨(some 32), .call (.k (.fn 34 [])) [(.t 30), (.t 31)], none, []⟩,
      ⟨(some 29), .mv (.t 32), none, []⟩,
      ⟨(some 33), .extract (.t 29) 0, none, []⟩,
      ⟨(some 34), .extract (.t 29) 1, none, []⟩,
      ⟨(some 8), .mv (.t 33), none, []⟩,
      ⟨(some 6), .mv (.t 34), none, []⟩])
    (.seq (.ops [⟨(some 35), .mv (.t 6), none, []⟩,
      ⟨(some 36), .cmp .eql (.t 35) (.k (.lit .i64 0)), none, []⟩,
      ⟨(some 37), .mv (.t 36), none, []⟩,
      ⟨(some 38), .mv (.t 8), some (37, true), []⟩,
      ⟨(some 39), .cmp .geq (.t 38) (.k (.lit .i64 0)), some (37, true), []⟩,
      ⟨(some 40), .pick (.t 37) (.t 39) (.k (.bool false)), none, []⟩,
      ⟨(some 41), .mv (.t 40), none, []⟩,
      ⟨(some 42), .mv (.t 8), some (41, true), []⟩,
      ⟨(some 43), .mv (.t 0), some (41, true), []⟩,
      ⟨(some 44), .len (.t 43), some (41, true), []⟩,
      ⟨(some 45), .cmp .lss (.t 42) (.t 44), some (41, true), []⟩,
      ⟨(some 46), .pick (.t 41) (.t 45) (.k (.bool false)), none, []⟩,
      ⟨(some 47), .mv (.t 46), none, []⟩,
      ⟨(some 48), .mv (.t 0), some (47, true), []⟩,
      ⟨(some 49), .mv (.t 8), some (47, true), []⟩,
      ⟨(some 50), .iadr 1 (.t 48) (.t 49), some (47, true), []⟩,
      ⟨(some 51), .load1 (.t 50), some (47, true), []⟩,
      ⟨(some 52), .cmp .gtr (.t 51) (.k (.lit .u8 0)), some (47, true), []⟩,
      ⟨(some 53), .pick (.t 47) (.t 52) (.k (.bool false)), none, []⟩,
      ⟨(some 54), .mv (.t 53), none, []⟩,
      ⟨(some 55), .mv (.t 7), some (54, true), []⟩,
      ⟨(some 58), .mv (.t 0), some (54, true), []⟩,
      ⟨(some 59), .mv (.t 8), some (54, true), []⟩,
      ⟨(some 60), .iadr 1 (.t 58) (.t 59), some (54, true), []⟩,
      ⟨(some 61), .load1 (.t 60), some (54, true), []⟩,
      ⟨(some 62), .conv .i64 (.t 61), some (54, true), []⟩,
      ⟨(some 56), .call (.k (.fn 35 [])) [(.t 55)], some (54, true), [(.load1 (.t 60), 61, some (54, true)), (.load1 (.t 50), 51, some (47, true))]⟩,
      ⟨(some 57), .bin .sub .i64 (.k (.lit .i64 16)) (.t 56), some (54, true), []⟩,
      ⟨(some 63), .cmp .eql (.t 57) (.t 62), some (54, true), []⟩,
      ⟨(some 64), .pick (.t 54) (.t 63) (.k (.bool false)), none, []⟩,
      ⟨(some 65), .mv (.t 64), none, []⟩,
      ⟨(some 66), .call (.k (.fn 17 [])) [], some (65, true), [(.load1 (.t 60), 61, some (54, true)), (.load1 (.t 50), 51, some (47, true))]⟩,
      ⟨(some 67), .pick (.t 65) (.t 66) (.k (.bool false)), none, []⟩,
      ⟨(some 4), .mv (.t 67), none, []⟩])
    (.ret))))))
theorem fn7 : FnOk Try.prog 7 x7 68 [4] := FnOk.of Try.call7 Try.func7 (by kernel_rfl) Try.ntmps7 (by kernel_rfl)
/-- baler/balerlaw05.CanonNil -/
def x9 : XC :=
  .seq (.ops [⟨(some 4), .mv (.k (.bool false)), none, []⟩])
    (.seq (.ops [⟨(some 8), .mv (.t 0), none, []⟩,
      ⟨(some 9), .call (.k (.fn 34 [])) [(.k (.val (.pointer none))), (.t 8)], none, []⟩,
      ⟨(some 7), .mv (.t 9), none, []⟩,
      ⟨(some 10), .extract (.t 7) 0, none, []⟩,
      ⟨(some 11), .extract (.t 7) 1, none, []⟩,
      ⟨(some 5), .mv (.t 10), none, []⟩,
      ⟨(some 6), .mv (.t 11), none, []⟩])
    (.seq (.ops [⟨(some 12), .mv (.t 5), none, []⟩,
      ⟨(some 13), .cmp .eql (.t 12) (.k (.lit .i64 0)), none, []⟩,
      ⟨(some 14), .mv (.t 13), none, []⟩,
      ⟨(some 15), .mv (.t 6), some (14, true), []⟩,
      ⟨(some 16), .cmp .eql (.t 15) (.k (.lit .i64 1)), some (14, true), []⟩,
      ⟨(some 17), .pick (.t 14) (.t 16) (.k (.bool false)), none, []⟩,
      ⟨(some 18), .mv (.t 17), none, []⟩,
      ⟨(some 19), .mv (.t 0), some (18, true), []⟩,
      ⟨(some 20), .mv (.t 1), some (18, true), []⟩,
      ⟨(some 21), .call (.k (.fn 42 [])) [(.k (.val (.pointer none))), (.t 19), (.t 20)], some (18, true), []⟩,
      ⟨(some 22), .cmp .eql (.t 21) (.k (.lit .i64 1)), some (18, true), []⟩,
      ⟨(some 23), .pick (.t 18) (.t 22) (.k (.bool false)), none, []⟩,
      ⟨(some 24), .mv (.t 23), none, []⟩,
      ⟨(some 25), .call (.k (.fn 17 [])) [], some (24, true), []⟩,
      ⟨(some 26), .pick (.t 24) (.t 25) (.k (.bool false)), none, []⟩,
      ⟨(some 4), .mv (.t 26), none, []⟩])
    (.ret)))
theorem fn9 : FnOk Try.prog 9 x9 27 [4] := FnOk.of Try.call9 Try.func9 (by kernel_rfl) Try.ntmps9 (by kernel_rfl)
/-- baler/balerlaw05.CanonTells -/
def x11 : XC :=
  .seq (.ops [⟨(some 6), .mv (.k (.bool false)), none, []⟩])
    (.seq (.ops [⟨(some 22), .mv (.t 0), none, []⟩,
      ⟨(some 23), .call (.k (.fn 32 [])) [(.t 22)], none, []⟩,
      ⟨(some 21), .mv (.t 23), none, []⟩,
      ⟨(some 24), .extract (.t 21) 0, none, []⟩,
      ⟨(some 25), .extract (.t 21) 1, none, []⟩,
      ⟨(some 7), .mv (.t 24), none, []⟩,
      ⟨(some 8), .mv (.t 25), none, []⟩])
    (.seq (.ops [⟨(some 27), .mv (.t 0), none, []⟩,
      ⟨(some 28), .call (.k (.fn 50 [])) [(.t 27)], none, []⟩,
      ⟨(some 26), .mv (.t 28), none, []⟩,
      ⟨(some 29), .extract (.t 26) 0, none, []⟩,
      ⟨(some 30), .extract (.t 26) 1, none, []⟩,
      ⟨(some 9), .mv (.t 29), none, []⟩,
      ⟨(some 10), .mv (.t 30), none, []⟩])
    (.seq (.seq (.ops [⟨(some 31), .mv (.t 8), none, []⟩,
      ⟨(some 32), .mv (.t 10), none, []⟩,
      ⟨(some 33), .cmp .neq (.t 31) (.t 32), none, []⟩,
      ⟨(some 34), .mv (.t 33), none, []⟩,
      ⟨(some 35), .mv (.t 7), some (34, false), []⟩,
      ⟨(some 36), .mv (.t 9), some (34, false), []⟩,
      ⟨(some 37), .call (.k (.fn 51 [])) [(.t 35), (.t 36)], some (34, false), []⟩,
      ⟨(some 38), .not (.t 37), some (34, false), []⟩,
      ⟨(some 39), .pick (.t 34) (.k (.bool true)) (.t 38), none, []⟩])
    (.cond (.t 39) (.seq (.ops [⟨(some 6), .mv (.k (.bool false)), none, []⟩])
    (.ret)) (.skip)))
    (.seq (.ops [⟨(some 40), .build [(.val (.slice none 0 0)), (.lit .i64 0)] [], none, []⟩,
      ⟨(some 41), .box 92 none (.t 40), none, []⟩,
      ⟨(some 42), .build [(.val (.slice none 0 0))] [], none, []⟩,
      ⟨(some 43), .box 95 none (.t 42), none, []⟩,
      ⟨(some 11), .mv (.t 41), none, []⟩,
      ⟨(some 12), .mv (.t 43), none, []⟩])
    (.seq (.seq (.ops [⟨(some 44), .mv (.t 1), none, []⟩,
      ⟨(some 45), .len (.t 44), none, []⟩,
      ⟨(some 46), .mv (.k (.lit .i64 0)), none, []⟩])
    (.block 0 (.loop (.seq (.ops [⟨(some 47), .cmp .lss (.t 46) (.t 45), none, []⟩])
    (.seq (.cond (.t 47) (.skip) (.exit 0))
    (.seq (.block 1 (.seq (.ops [⟨(some 48), .mv (.t 46), none, []⟩,
      ⟨(some 49), .iadr 1 (.t 44) (.t 46), none, []⟩,
      ⟨(some 50), .load1 (.t 49), none, []⟩,
      ⟨(some 13), .mv (.t 48), none, []⟩,
      ⟨(some 14), .mv (.t 50), none, []⟩])
    (.seq (.seq (.ops [⟨(some 51), .mv (.t 13), none, []⟩,
      ⟨(some 52), .cmp .geq (.t 51) (.k (.lit .i64 60)), none, []⟩])
    (.cond (.t 52) (.exit 0) (.skip)))
    (.seq (.ops [⟨(some 53), .mv (.t 11), none, []⟩,
      ⟨(some 54), .mv (.t 0), none, []⟩,
      ⟨(some 55), .mv (.t 14), none, []⟩,
      ⟨(some 56), .call (.k (.fn 42 [])) [(.t 53), (.t 54), (.t 55)], none, []⟩,
      ⟨(some 57), .mv (.t 12), none, []⟩,
      ⟨(some 58), .mv (.t 0), none, []⟩,
      ⟨(some 59), .mv (.t 14), none, []⟩,
      ⟨(some 60), .call (.k (.fn 52 [])) [(.t 57), (.t 58), (.t 59)], none, []⟩,
      ⟨(some 61), .cmp .neq (.t 56) (.t 60), none, []⟩])
    (.cond (.t 61) (.seq (.ops [⟨(some 6), .mv (.k (.bool false)), none, []⟩])
    (.ret)) (.skip))))))
    (.ops [⟨(some 62), .bin .add .i64 (.t 46) (.k (.lit .i64 1)), none, []⟩,
      ⟨(some 46), .mv (.t 62), none, []⟩])))))))
    (.seq (.seq (.ops [⟨(some 63), .mv (.t 11), none, []⟩,
      ⟨(some 66), .mv (.t 12), none, []⟩,
      ⟨(some 64), .call (.k (.fn 53 [])) [(.t 63)], none, []⟩,
      ⟨(some 65), .bstr (.t 64), none, []⟩,
      ⟨(some 67), .call (.k (.fn 54 [])) [(.t 66)], none, [(.bstr (.t 64), 65, none)]⟩,
      ⟨(some 68), .bstr (.t 67), none, []⟩,
      ⟨(some 69), .eqv true 1 (.t 65) (.t 68), none, []⟩])
    (.cond (.t 69) (.seq (.ops [⟨(some 6), .mv (.k (.bool false)), none, []⟩])
    (.ret)) (.skip)))
    (.seq (.ops [⟨(some 70), .mv (.t 2), none, []⟩,
      ⟨(some 71), .call (.k (.fn 33 [])) [(.t 70)], none, []⟩,
      ⟨(some 72), .mv (.t 2), none, []⟩,
      ⟨(some 73), .build [(.val (.slice none 0 0)), (.lit .i64 0)] [⟨0, 1, (.t 72)⟩], none, []⟩,
      ⟨(some 74), .box 76 none (.t 73), none, []⟩,
      ⟨(some 15), .mv (.t 71), none, []⟩,
      ⟨(some 16), .mv (.t 74), none, []⟩])
    (.seq (.seq (.ops [⟨(some 75), .mv (.k (.lit .i64 0)), none, []⟩])
    (.block 2 (.loop (.seq (.ops [⟨(some 76), .cmp .lss (.t 75) (.k (.lit .i64 60)), none, []⟩])
    (.seq (.cond (.t 76) (.skip) (.exit 2))
    (.seq (.block 3 (.seq (.ops [⟨(some 78), .mv (.t 15), none, []⟩,
      ⟨(some 79), .mv (.t 0), none, []⟩,
      ⟨(some 80), .call (.k (.fn 34 [])) [(.t 78), (.t 79)], none, []⟩,
      ⟨(some 77), .mv (.t 80), none, []⟩,
      ⟨(some 81), .extract (.t 77) 0, none, []⟩,
      ⟨(some 82), .extract (.t 77) 1, none, []⟩,
      ⟨(some 17), .mv (.t 81), none, []⟩,
      ⟨(some 18), .mv (.t 82), none, []⟩])
    (.seq (.ops [⟨(some 84), .mv (.t 16), none, []⟩,
      ⟨(some 85), .mv (.t 0), none, []⟩,
      ⟨(some 86), .call (.k (.fn 55 [])) [(.t 84), (.t 85)], none, []⟩,
      ⟨(some 83), .mv (.t 86), none, []⟩,
      ⟨(some 87), .extract (.t 83) 0, none, []⟩,
      ⟨(some 88), .extract (.t 83) 1, none, []⟩,
      ⟨(some 19), .mv (.t 87), none, []⟩,
      ⟨(some 20), .mv (.t 88), none, []⟩])
    (.seq (.seq (.ops [⟨(some 89), .mv (.t 17), none, []⟩,
      ⟨(some 90), .mv (.t 19), none, []⟩,
      ⟨(some 91), .cmp .neq (.t 89) (.t 90), none, []⟩,
      ⟨(some 92), .mv (.t 91), none, []⟩,
      ⟨(some 93), .mv (.t 18), some (92, false), []⟩,
      ⟨(some 94), .mv (.t 20), some (92, false), []⟩,
      ⟨(some 95), .cmp .neq (.t 93) (.t 94), some (92, false), []⟩,
      ⟨(some 96), .pick (.t 92) (.k (.bool true)) (.t 95), none, []⟩,
      ⟨(some 97), .mv (.t 96), none, []⟩,
      ⟨(some 98), .mv (.t 18), some (97, false), []⟩,
      ⟨(some 99), .cmp .eql (.t 98) (.k (.lit .i64 0)), some (97, false), []⟩,
      ⟨(some 100), .mv (.t 99), some (97, false), []⟩,
      ⟨(some 101), .mv (.t 15), some (100, true), []⟩,
      ⟨(some 102), .call (.k (.fn 35 [])) [(.t 101)], some (100, true), []⟩,
      ⟨(some 103), .mv (.t 16), some (100, true), []⟩,
      ⟨(some 104), .call (.k (.fn 49 [])) [(.t 103)], some (100, true), []⟩,
      ⟨(some 105), .cmp .neq (.t 102) (.t 104), some (100, true), []⟩,
      ⟨(some 106), .pick (.t 100) (.t 105) (.k (.bool false)), some (97, false), []⟩,
      ⟨(some 107), .pick (.t 97) (.k (.bool true)) (.t 106), none, []⟩])
    (.cond (.t 107) (.seq (.ops [⟨(some 6), .mv (.k (.bool false)), none, []⟩])
    (.ret)) (.skip)))
    (.seq (.ops [⟨(some 108), .mv (.t 18), none, []⟩,
      ⟨(some 109), .cmp .neq (.t 108) (.k (.lit .i64 0)), none, []⟩])
    (.cond (.t 109) (.exit 2) (.skip)))))))
    (.ops [⟨(some 110), .bin .add .i64 (.t 75) (.k (.lit .i64 1)), none, []⟩,
      ⟨(some 75), .mv (.t 110), none, []⟩])))))))
    (.seq (.ops [⟨(some 111), .call (.k (.fn 17 [])) [], none, []⟩,
      ⟨(some 6), .mv (.t 111), none, []⟩])
    (.ret))))))))))
theorem fn11 : FnOk Try.prog 11 x11 112 [6] := FnOk.of Try.call11 Try.func11 (by kernel_rfl) Try.ntmps11 (by kernel_rfl)
/-- baler/balerlaw05.CanonBack -/
def x12 : XC :=
  .seq (.ops [⟨(some 4), .mv (.k (.bool false)), none, []⟩])
    (.seq (.seq (.ops [⟨(some 17), .mv (.t 0), none, []⟩,
      ⟨(some 18), .call (.k (.fn 32 [])) [(.t 17)], none, []⟩,
      ⟨(some 16), .mv (.t 18), none, []⟩,
      ⟨(some 19), .extract (.t 16) 0, none, []⟩,
      ⟨(some 20), .extract (.t 16) 1, none, []⟩,
      ⟨(some 5), .mv (.t 19), none, []⟩,
      ⟨(some 6), .mv (.t 20), none, []⟩])
    (.seq (.ops [⟨(some 21), .mv (.t 6), none, []⟩,
      ⟨(some 22), .cmp .neq (.t 21) (.k (.lit .i64 0)), none, []⟩])
    (.cond (.t 22) (.seq (.ops [⟨(some 23), .call (.k (.fn 17 [])) [], none, []⟩,
      ⟨(some 4), .mv (.t 23), none, []⟩])
    (.ret)) (.skip))))
    (.seq (.seq (.ops [⟨(some 24), .mv (.t 0), none, []⟩,
      ⟨(some 25), .len (.t 24), none, []⟩,
      ⟨(some 26), .cmp .eql (.t 25) (.k (.lit .i64 0)), none, []⟩])
    (.cond (.t 26) (.seq (.ops [⟨(some 4), .mv (.k (.bool false)), none, []⟩])
    (.ret)) (.skip)))
    (.seq (.ops [⟨(some 27), .build [(.val (.slice none 0 0)), (.lit .i64 0)] [], none, []⟩,
      ⟨(some 28), .box 92 none (.t 27), none, []⟩,
      ⟨(some 7), .mv (.t 28), none, []⟩])
    (.seq (.ops [⟨(some 8), .mv (.k (.val (.slice none 0 0))), none, []⟩])
    (.seq (.seq (.ops [⟨(some 29), .mv (.t 1), none, []⟩,
      ⟨(some 30), .len (.t 29), none, []⟩,
      ⟨(some 31), .mv (.k (.lit .i64 0)), none, []⟩])
    (.block 0 (.loop (.seq (.ops [⟨(some 32), .cmp .lss (.t 31) (.t 30), none, []⟩])
    (.seq (.cond (.t 32) (.skip) (.exit 0))
    (.seq (.block 1 (.seq (.ops [⟨(some 33), .mv (.t 31), none, []⟩,
      ⟨(some 34), .iadr 1 (.t 29) (.t 31), none, []⟩,
      ⟨(some 35), .load1 (.t 34), none, []⟩,
      ⟨(some 9), .mv (.t 33), none, []⟩,
      ⟨(some 10), .mv (.t 35), none, []⟩])
    (.seq (.seq (.ops [⟨(some 36), .mv (.t 9), none, []⟩,
      ⟨(some 37), .cmp .geq (.t 36) (.k (.lit .i64 60)), none, []⟩])
    (.cond (.t 37) (.exit 0) (.skip)))
    (.seq (.ops [⟨(some 38), .mv (.t 10), none, []⟩,
      ⟨(some 39), .mv (.t 0), none, []⟩,
      ⟨(some 40), .len (.t 39), none, []⟩,
      ⟨(some 41), .bin .rem .i64 (.t 38) (.t 40), none, []⟩,
      ⟨(some 42), .mv (.t 0), none, []⟩,
      ⟨(some 43), .len (.t 42), none, []⟩,
      ⟨(some 44), .bin .add .i64 (.t 41) (.t 43), none, []⟩,
      ⟨(some 45), .mv (.t 0), none, []⟩,
      ⟨(some 46), .len (.t 45), none, []⟩,
      ⟨(some 47), .bin .rem .i64 (.t 44) (.t 46), none, []⟩,
      ⟨(some 10), .mv (.t 47), none, []⟩])
    (.seq (.ops [⟨(some 48), .mv (.t 7), none, []⟩,
      ⟨(some 49), .mv (.t 0), none, []⟩,
      ⟨(some 50), .mv (.t 10), none, []⟩,
      ⟨(some 51), .call (.k (.fn 42 [])) [(.t 48), (.t 49), (.t 50)], none, []⟩,
      ⟨(some 52), .cmp .eql (.t 51) (.k (.lit .i64 0)), none, []⟩])
    (.cond (.t 52) (.ops [⟨(some 53), .mv (.t 8), none, []⟩,
      ⟨(some 54), .mv (.t 10), none, []⟩,
      ⟨(some 55), .bsliceI 3 .i64 1 [⟨0, 1, (.t 54)⟩], none, []⟩,
      ⟨(some 56), .appI 3 .i64 8 (.t 53) (.t 55), none, []⟩,
      ⟨(some 8), .mv (.t 56), none, []⟩]) (.seq (.ops [⟨(some 57), .mv (.t 0), none, []⟩,
      ⟨(some 58), .mv (.t 10), none, []⟩,
      ⟨(some 59), .iadr 1 (.t 57) (.t 58), none, []⟩,
      ⟨(some 60), .load1 (.t 59), none, []⟩,
      ⟨(some 61), .cmp .neq (.t 60) (.k (.lit .u8 0)), none, []⟩])
    (.cond (.t 61) (.seq (.ops [⟨(some 4), .mv (.k (.bool false)), none, []⟩])
    (.ret)) (.skip)))))))))
    (.ops [⟨(some 62), .bin .add .i64 (.t 31) (.k (.lit .i64 1)), none, []⟩,
      ⟨(some 31), .mv (.t 62), none, []⟩])))))))
    (.seq (.ops [⟨(some 63), .mv (.t 7), none, []⟩,
      ⟨(some 64), .call (.k (.fn 53 [])) [(.t 63)], none, []⟩,
      ⟨(some 65), .call (.k (.fn 33 [])) [(.t 64)], none, []⟩,
      ⟨(some 11), .mv (.t 65), none, []⟩])
    (.seq (.seq (.ops [⟨(some 66), .mv (.t 8), none, []⟩,
      ⟨(some 67), .len (.t 66), none, []⟩,
      ⟨(some 68), .mv (.k (.lit .i64 0)), none, []⟩])
    (.block 2 (.loop (.seq (.ops [⟨(some 69), .cmp .lss (.t 68) (.t 67), none, []⟩])
    (.seq (.cond (.t 69) (.skip) (.exit 2))
    (.seq (.block 3 (.seq (.ops [⟨(some 70), .iadr 1 (.t 66) (.t 68), none, []⟩,
      ⟨(some 71), .load1 (.t 70), none, []⟩,
      ⟨(some 13), .mv (.t 71), none, []⟩])
    (.seq (.ops [⟨(some 73), .mv (.t 11), none, []⟩,
      ⟨(some 74), .mv (.t 0), none, []⟩,
      ⟨(some 75), .call (.k (.fn 34 [])) [(.t 73), (.t 74)], none, []⟩,
      ⟨(some 72), .mv (.t 75), none, []⟩,
      ⟨(some 76), .extract (.t 72) 0, none, []⟩,
      ⟨(some 77), .extract (.t 72) 1, none, []⟩,
      ⟨(some 14), .mv (.t 76), none, []⟩,
      ⟨(some 15), .mv (.t 77), none, []⟩])
    (.seq (.ops [⟨(some 78), .mv (.t 14), none, []⟩,
      ⟨(some 79), .mv (.t 13), none, []⟩,
      ⟨(some 80), .cmp .neq (.t 78) (.t 79), none, []⟩,
      ⟨(some 81), .mv (.t 80), none, []⟩,
      ⟨(some 82), .mv (.t 15), some (81, false), []⟩,
      ⟨(some 83), .cmp .neq (.t 82) (.k (.lit .i64 0)), some (81, false), []⟩,
      ⟨(some 84), .pick (.t 81) (.k (.bool true)) (.t 83), none, []⟩])
    (.cond (.t 84) (.seq (.ops [⟨(some 4), .mv (.k (.bool false)), none, []⟩])
    (.ret)) (.skip))))))
    (.ops [⟨(some 85), .bin .add .i64 (.t 68) (.k (.lit .i64 1)), none, []⟩,
      ⟨(some 68), .mv (.t 85), none, []⟩])))))))
    (.seq (.ops [⟨(some 86), .mv (.t 11), none, []⟩,
      ⟨(some 87), .call (.k (.fn 35 [])) [(.t 86)], none, []⟩,
      ⟨(some 88), .cmp .lss (.t 87) (.k (.lit .i64 8)), none, []⟩,
      ⟨(some 89), .mv (.t 88), none, []⟩,
      ⟨(some 90), .call (.k (.fn 17 [])) [], some (89, true), []⟩,
      ⟨(some 91), .pick (.t 89) (.t 90) (.k (.bool false)), none, []⟩,
      ⟨(some 4), .mv (.t 91), none, []⟩])
    (.ret)))))))))
theorem fn12 : FnOk Try.prog 12 x12 92 [4] := FnOk.of Try.call12 Try.func12 (by kernel_rfl) Try.ntmps12 (by kernel_rfl)
/-- baler/canon.Limit -/
def x15 : XC :=
  .seq (.ops [⟨(some 4), .mv (.k (.val (.slice none 0 0))), none, []⟩,
      ⟨(some 5), .mv (.k (.lit .i64 0)), none, []⟩])
    (.seq (.ops [⟨(some 6), .mv (.k (.val (.slice none 0 0))), none, []⟩])
    (.seq (.seq (.ops [⟨(some 18), .mv (.t 0), none, []⟩,
      ⟨(some 19), .len (.t 18), none, []⟩,
      ⟨(some 20), .mv (.k (.lit .i64 0)), none, []⟩])
    (.block 0 (.loop (.seq (.ops [⟨(some 21), .cmp .lss (.t 20) (.t 19), none, []⟩])
    (.seq (.cond (.t 21) (.skip) (.exit 0))
    (.seq (.block 1 (.seq (.ops [⟨(some 22), .mv (.t 20), none, []⟩,
      ⟨(some 23), .iadr 1 (.t 18) (.t 20), none, []⟩,
      ⟨(some 24), .load1 (.t 23), none, []⟩,
      ⟨(some 7), .mv (.t 22), none, []⟩,
      ⟨(some 8), .mv (.t 24), none, []⟩])
    (.seq (.ops [⟨(some 25), .mv (.t 8), none, []⟩,
      ⟨(some 26), .cmp .gtr (.t 25) (.k (.lit .u32 0)), none, []⟩])
    (.cond (.t 26) (.ops [⟨(some 27), .mv (.t 6), none, []⟩,
      ⟨(some 28), .mv (.t 8), none, []⟩,
      ⟨(some 29), .conv .u64 (.t 28), none, []⟩,
      ⟨(some 30), .mv (.t 7), none, []⟩,
      ⟨(some 31), .bsliceI 3 .i64 1 [⟨0, 1, (.t 30)⟩], none, []⟩,
      ⟨(some 32), .build [(.lit .u64 0), (.val (.slice none 0 0))] [⟨0, 1, (.t 29)⟩, ⟨1, 1, (.t 31)⟩], none, []⟩,
      ⟨(some 33), .bsliceR 109 2 1 [(.lit .u64 0), (.val (.slice none 0 0))] [⟨0, 2, (.t 32)⟩], none, []⟩,
      ⟨(some 34), .appR 109 2 32 (.t 27) (.t 33), none, []⟩,
      ⟨(some 6), .mv (.t 34), none, []⟩]) (.skip)))))
    (.ops [⟨(some 35), .bin .add .i64 (.t 20) (.k (.lit .i64 1)), none, []⟩,
      ⟨(some 20), .mv (.t 35), none, []⟩])))))))
    (.seq (.seq (.ops [⟨(some 36), .mv (.t 0), none, []⟩,
      ⟨(some 37), .len (.t 36), none, []⟩,
      ⟨(some 38), .cmp .gtr (.t 37) (.k (.lit .i64 1024)), none, []⟩,
      ⟨(some 39), .mv (.t 38), none, []⟩,
      ⟨(some 40), .mv (.t 1), some (39, false), []⟩,
      ⟨(some 41), .cmp .lss (.t 40) (.k (.lit .i64 1)), some (39, false), []⟩,
      ⟨(some 42), .pick (.t 39) (.k (.bool true)) (.t 41), none, []⟩,
      ⟨(some 43), .mv (.t 42), none, []⟩,
      ⟨(some 44), .mv (.t 1), some (43, false), []⟩,
      ⟨(some 45), .cmp .gtr (.t 44) (.k (.lit .i64 15)), some (43, false), []⟩,
      ⟨(some 46), .pick (.t 43) (.k (.bool true)) (.t 45), none, []⟩,
      ⟨(some 47), .mv (.t 46), none, []⟩,
      ⟨(some 48), .mv (.t 6), some (47, false), []⟩,
      ⟨(some 49), .len (.t 48), some (47, false), []⟩,
      ⟨(some 50), .cmp .lss (.t 49) (.k (.lit .i64 2)), some (47, false), []⟩,
      ⟨(some 51), .pick (.t 47) (.k (.bool true)) (.t 50), none, []⟩,
      ⟨(some 52), .mv (.t 51), none, []⟩,
      ⟨(some 53), .mv (.t 6), some (52, false), []⟩,
      ⟨(some 54), .len (.t 53), some (52, false), []⟩,
      ⟨(some 55), .mv (.t 1), some (52, false), []⟩,
      ⟨(some 56), .conv .u64 (.t 55), some (52, false), []⟩,
      ⟨(some 57), .bin .shl .i64 (.k (.lit .i64 1)) (.t 56), some (52, false), []⟩,
      ⟨(some 58), .cmp .gtr (.t 54) (.t 57), some (52, false), []⟩,
      ⟨(some 59), .pick (.t 52) (.k (.bool true)) (.t 58), none, []⟩])
    (.cond (.t 59) (.seq (.ops [⟨(some 4), .mv (.k (.val (.slice none 0 0))), none, []⟩,
      ⟨(some 5), .mv (.k (.lit .i64 2)), none, []⟩])
    (.ret)) (.skip)))
    (.seq (.ops [⟨(some 9), .mv (.k (.fn 63 [])), none, []⟩])
    (.seq (.ops [⟨(some 60), .mv (.t 6), none, []⟩,
      ⟨(some 61), .mv (.t 9), none, []⟩,
      ⟨(some 62), .call (.k (.fn 64 [])) [(.t 60), (.t 61)], none, []⟩])
    (.seq (.ops [⟨(some 63), .mv (.t 6), none, []⟩,
      ⟨(some 10), .mv (.t 63), none, []⟩])
    (.seq (.seq (.ops [⟨(some 64), .mv (.t 1), none, []⟩,
      ⟨(some 65), .bin .sub .i64 (.t 64) (.k (.lit .i64 1)), none, []⟩,
      ⟨(some 66), .mv (.k (.lit .i64 0)), none, []⟩])
    (.block 2 (.loop (.seq (.ops [⟨(some 67), .cmp .lss (.t 66) (.t 65), none, []⟩])
    (.seq (.cond (.t 67) (.skip) (.exit 2))
    (.seq (.block 3 (.seq (.ops [⟨(some 68), .bsliceR 109 2 0 [(.lit .u64 0), (.val (.slice none 0 0))] [], none, []⟩,
      ⟨(some 69), .mv (.t 6), none, []⟩,
      ⟨(some 70), .appR 109 2 32 (.t 68) (.t 69), none, []⟩,
      ⟨(some 11), .mv (.t 70), none, []⟩])
    (.seq (.seq (.ops [⟨(some 12), .mv (.k (.lit .i64 0)), none, []⟩])
    (.block 4 (.loop (.seq (.seq (.ops [⟨(some 71), .mv (.t 12), none, []⟩,
      ⟨(some 72), .bin .add .i64 (.t 71) (.k (.lit .i64 1)), none, []⟩,
      ⟨(some 73), .mv (.t 10), none, []⟩,
      ⟨(some 74), .len (.t 73), none, []⟩,
      ⟨(some 75), .cmp .lss (.t 72) (.t 74), none, []⟩])
    (.cond (.t 75) (.skip) (.exit 4)))
    (.seq (.block 5 (.ops [⟨(some 78), .mv (.t 11), none, []⟩,
      ⟨(some 79), .mv (.t 10), none, []⟩,
      ⟨(some 80), .mv (.t 12), none, []⟩,
      ⟨(some 81), .iadr 2 (.t 79) (.t 80), none, []⟩,
      ⟨(some 82), .fadr 0 (.t 81), none, []⟩,
      ⟨(some 83), .load1 (.t 82), none, []⟩,
      ⟨(some 84), .mv (.t 10), none, []⟩,
      ⟨(some 85), .mv (.t 12), none, []⟩,
      ⟨(some 86), .bin .add .i64 (.t 85) (.k (.lit .i64 1)), none, []⟩,
      ⟨(some 87), .iadr 2 (.t 84) (.t 86), none, []⟩,
      ⟨(some 88), .fadr 0 (.t 87), none, []⟩,
      ⟨(some 89), .load1 (.t 88), none, []⟩,
      ⟨(some 90), .bin .add .u64 (.t 83) (.t 89), none, []⟩,
      ⟨(some 92), .mv (.t 10), none, []⟩,
      ⟨(some 93), .mv (.t 12), none, []⟩,
      ⟨(some 94), .iadr 2 (.t 92) (.t 93), none, []⟩,
      ⟨(some 95), .fadr 1 (.t 94), none, []⟩,
      ⟨(some 96), .load1 (.t 95), none, []⟩,
      ⟨(some 98), .mv (.t 10), none, []⟩,
      ⟨(some 99), .mv (.t 12), none, []⟩,
      ⟨(some 100), .bin .add .i64 (.t 99) (.k (.lit .i64 1)), none, []⟩,
      ⟨(some 101), .iadr 2 (.t 98) (.t 100), none, []⟩,
      ⟨(some 102), .fadr 1 (.t 101), none, []⟩,
      ⟨(some 103), .load1 (.t 102), none, []⟩,
      ⟨(some 91), .bsliceI 3 .i64 0 [], none, [(.load1 (.t 102), 103, none), (.load1 (.t 95), 96, none), (.load1 (.t 88), 89, none), (.load1 (.t 82), 83, none)]⟩,
      ⟨(some 97), .appI 3 .i64 8 (.t 91) (.t 96), none, [(.load1 (.t 102), 103, none), (.load1 (.t 88), 89, none), (.load1 (.t 82), 83, none)]⟩,
      ⟨(some 104), .appI 3 .i64 8 (.t 97) (.t 103), none, [(.load1 (.t 88), 89, none), (.load1 (.t 82), 83, none)]⟩,
      ⟨(some 105), .build [(.lit .u64 0), (.val (.slice none 0 0))] [⟨0, 1, (.t 90)⟩, ⟨1, 1, (.t 104)⟩], none, []⟩,
      ⟨(some 106), .bsliceR 109 2 1 [(.lit .u64 0), (.val (.slice none 0 0))] [⟨0, 2, (.t 105)⟩], none, [(.load1 (.t 88), 89, none), (.load1 (.t 82), 83, none)]⟩,
      ⟨(some 107), .appR 109 2 32 (.t 78) (.t 106), none, [(.load1 (.t 88), 89, none), (.load1 (.t 82), 83, none)]⟩,
      ⟨(some 11), .mv (.t 107), none, []⟩]))
    (.ops [⟨(some 76), .mv (.t 12), none, []⟩,
      ⟨(some 77), .bin .add .i64 (.t 76) (.k (.lit .i64 2)), none, []⟩,
      ⟨(some 12), .mv (.t 77), none, []⟩]))))))
    (.ops [⟨(some 108), .mv (.t 11), none, []⟩,
      ⟨(some 109), .mv (.t 9), none, []⟩,
      ⟨(some 110), .call (.k (.fn 64 [])) [(.t 108), (.t 109)], none, []⟩,
      ⟨(some 10), .mv (.t 110), none, []⟩]))))
    (.ops [⟨(some 111), .bin .add .i64 (.t 66) (.k (.lit .i64 1)), none, []⟩,
      ⟨(some 66), .mv (.t 111), none, []⟩])))))))
    (.seq (.ops [⟨(some 112), .mv (.t 0), none, []⟩,
      ⟨(some 113), .len (.t 112), none, []⟩,
      ⟨(some 114), .mkslI 5 .u8 1 (.t 113) (.t 113), none, []⟩,
      ⟨(some 13), .mv (.t 114), none, []⟩])
    (.seq (.seq (.ops [⟨(some 115), .mv (.t 10), none, []⟩,
      ⟨(some 116), .mv (.t 6), none, []⟩,
      ⟨(some 117), .len (.t 116), none, []⟩,
      ⟨(some 118), .bin .sub .i64 (.t 117) (.k (.lit .i64 1)), none, []⟩,
      ⟨(some 119), .bin .mul .i64 (.k (.lit .i64 2)) (.t 118), none, []⟩,
      ⟨(some 120), .slc 2 (.t 115) none (some (.t 119)) none, none, []⟩,
      ⟨(some 121), .len (.t 120), none, []⟩,
      ⟨(some 122), .mv (.k (.lit .i64 0)), none, []⟩])
    (.block 6 (.loop (.seq (.ops [⟨(some 123), .cmp .lss (.t 122) (.t 121), none, []⟩])
    (.seq (.cond (.t 123) (.skip) (.exit 6))
    (.seq (.block 7 (.seq (.ops [⟨(some 124), .iadr 2 (.t 120) (.t 122), none, []⟩,
      ⟨(some 125), .loadA 2 (.t 124), none, []⟩,
      ⟨(some 15), .newR 109 [(.lit .u64 0), (.val (.slice none 0 0))], none, []⟩,
      ⟨none, .storeA 2 (.t 15) (.t 125), none, []⟩])
    (.seq (.ops [⟨(some 126), .fadr 1 (.t 15), none, []⟩,
      ⟨(some 127), .load1 (.t 126), none, []⟩,
      ⟨(some 128), .len (.t 127), none, []⟩,
      ⟨(some 129), .mv (.k (.lit .i64 0)), none, []⟩])
    (.block 8 (.loop (.seq (.ops [⟨(some 130), .cmp .lss (.t 129) (.t 128), none, []⟩])
    (.seq (.cond (.t 130) (.skip) (.exit 8))
    (.seq (.block 9 (.seq (.ops [⟨(some 131), .iadr 1 (.t 127) (.t 129), none, []⟩,
      ⟨(some 132), .load1 (.t 131), none, []⟩,
      ⟨(some 17), .mv (.t 132), none, []⟩])
    (.ops [⟨(some 133), .mv (.t 13), none, []⟩,
      ⟨(some 134), .mv (.t 17), none, []⟩,
      ⟨(some 135), .iadr 1 (.t 133) (.t 134), none, []⟩,
      ⟨(some 136), .load1 (.t 135), none, []⟩,
      ⟨(some 137), .bin .add .u8 (.t 136) (.k (.lit .u8 1)), none, []⟩,
      ⟨(some 138), .iadr 1 (.t 133) (.t 134), none, []⟩,
      ⟨none, .store1 (.t 138) (.t 137), none, []⟩])))
    (.ops [⟨(some 139), .bin .add .i64 (.t 129) (.k (.lit .i64 1)), none, []⟩,
      ⟨(some 129), .mv (.t 139), none, []⟩])))))))))
    (.ops [⟨(some 140), .bin .add .i64 (.t 122) (.k (.lit .i64 1)), none, []⟩,
      ⟨(some 122), .mv (.t 140), none, []⟩])))))))
    (.seq (.ops [⟨(some 141), .mv (.t 13), none, []⟩,
      ⟨(some 4), .mv (.t 141), none, []⟩,
      ⟨(some 5), .mv (.k (.lit .i64 0)), none, []⟩])
    (.ret)))))))))))
theorem fn15 : FnOk Try.prog 15 x15 142 [4, 5] := FnOk.of Try.call15 Try.func15 (by kernel_rfl) Try.ntmps15 (by kernel_rfl)
/-- baler/balerref05.Able -/
def x16 : XC :=
  .seq (.ops [⟨(some 4), .mv (.k (.bool false)), none, []⟩])
    (.seq (.seq (.ops [⟨(some 7), .mv (.t 0), none, []⟩,
      ⟨(some 8), .len (.t 7), none, []⟩,
      ⟨(some 9), .cmp .gtr (.t 8) (.k (.lit .i64 1024)), none, []⟩,
      ⟨(some 10), .mv (.t 9), none, []⟩,
      ⟨(some 11), .mv (.t 1), some (10, false), []⟩,
      ⟨(some 12), .cmp .lss (.t 11) (.k (.lit .i64 1)), some (10, false), []⟩,
      ⟨(some 13), .pick (.t 10) (.k (.bool true)) (.t 12), none, []⟩,
      ⟨(some 14), .mv (.t 13), none, []⟩,
      ⟨(some 15), .mv (.t 1), some (14, false), []⟩,
      ⟨(some 16), .cmp .gtr (.t 15) (.k (.lit .i64 15)), some (14, false), []⟩,
      ⟨(some 17), .pick (.t 14) (.k (.bool true)) (.t 16), none, []⟩])
    (.cond (.t 17) (.seq (.ops [⟨(some 4), .mv (.k (.bool false)), none, []⟩])
    (.ret)) (.skip)))
    (.seq (.ops [⟨(some 5), .mv (.k (.lit .i64 0)), none, []⟩])
    (.seq (.seq (.ops [⟨(some 6), .mv (.k (.lit .i64 0)), none, []⟩])
    (.block 0 (.loop (.seq (.seq (.ops [⟨(some 18), .mv (.t 6), none, []⟩,
      ⟨(some 19), .mv (.t 0), none, []⟩,
      ⟨(some 20), .len (.t 19), none, []⟩,
      ⟨(some 21), .cmp .lss (.t 18) (.t 20), none, []⟩])
    (.cond (.t 21) (.skip) (.exit 0)))
    (.seq (.block 1 (.seq (.ops [⟨(some 24), .mv (.t 0), none, []⟩,
      ⟨(some 25), .mv (.t 6), none, []⟩,
      ⟨(some 26), .iadr 1 (.t 24) (.t 25), none, []⟩,
      ⟨(some 27), .load1 (.t 26), none, []⟩,
      ⟨(some 28), .cmp .gtr (.t 27) (.k (.lit .u32 0)), none, []⟩])
    (.cond (.t 28) (.ops [⟨(some 29), .mv (.t 5), none, []⟩,
      ⟨(some 30), .bin .add .i64 (.t 29) (.k (.lit .i64 1)), none, []⟩,
      ⟨(some 5), .mv (.t 30), none, []⟩]) (.skip))))
    (.ops [⟨(some 22), .mv (.t 6), none, []⟩,
      ⟨(some 23), .bin .add .i64 (.t 22) (.k (.lit .i64 1)), none, []⟩,
      ⟨(some 6), .mv (.t 23), none, []⟩]))))))
    (.seq (.ops [⟨(some 31), .mv (.t 5), none, []⟩,
      ⟨(some 32), .cmp .geq (.t 31) (.k (.lit .i64 2)), none, []⟩,
      ⟨(some 33), .mv (.t 32), none, []⟩,
      ⟨(some 34), .mv (.t 5), some (33, true), []⟩,
      ⟨(some 35), .mv (.t 1), some (33, true), []⟩,
      ⟨(some 36), .conv .u64 (.t 35), some (33, true), []⟩,
      ⟨(some 37), .bin .shl .i64 (.k (.lit .i64 1)) (.t 36), some (33, true), []⟩,
      ⟨(some 38), .cmp .leq (.t 34) (.t 37), some (33, true), []⟩,
      ⟨(some 39), .pick (.t 33) (.t 38) (.k (.bool false)), none, []⟩,
      ⟨(some 4), .mv (.t 39), none, []⟩])
    (.ret)))))
theorem fn16 : FnOk Try.prog 16 x16 40 [4] := FnOk.of Try.call16 Try.func16 (by kernel_rfl) Try.ntmps16 (by kernel_rfl)
/-- baler/balerlaw05.wakes -/
def x17 : XC :=
  .seq (.ops [⟨(some 0), .mv (.k (.bool false)), none, []⟩])
    (.seq (.ops [⟨(some 8), .bsliceI 5 .u8 4 [⟨0, 1, (.k (.lit .u8 2))⟩, ⟨1, 1, (.k (.lit .u8 1))⟩, ⟨2, 1, (.k (.lit .u8 3))⟩, ⟨3, 1, (.k (.lit .u8 3))⟩], none, []⟩,
      ⟨(some 9), .call (.k (.fn 32 [])) [(.t 8)], none, []⟩,
      ⟨(some 7), .mv (.t 9), none, []⟩,
      ⟨(some 10), .extract (.t 7) 0, none, []⟩,
      ⟨(some 11), .extract (.t 7) 1, none, []⟩,
      ⟨(some 1), .mv (.t 10), none, []⟩,
      ⟨(some 2), .mv (.t 11), none, []⟩])
    (.seq (.ops [⟨(some 13), .bsliceI 5 .u8 3 [⟨0, 1, (.k (.lit .u8 1))⟩, ⟨1, 1, (.k (.lit .u8 1))⟩, ⟨2, 1, (.k (.lit .u8 1))⟩], none, []⟩,
      ⟨(some 14), .call (.k (.fn 32 [])) [(.t 13)], none, []⟩,
      ⟨(some 12), .mv (.t 14), none, []⟩,
      ⟨(some 15), .extract (.t 12) 0, none, []⟩,
      ⟨(some 16), .extract (.t 12) 1, none, []⟩,
      ⟨(some 3), .mv (.t 15), none, []⟩,
      ⟨(some 4), .mv (.t 16), none, []⟩])
    (.seq (.ops [⟨(some 18), .bsliceI 30 .u32 5 [⟨0, 1, (.k (.lit .u32 8))⟩, ⟨1, 1, (.k (.lit .u32 4))⟩, ⟨2, 1, (.k (.lit .u32 2))⟩, ⟨3, 1, (.k (.lit .u32 1))⟩, ⟨4, 1, (.k (.lit .u32 1))⟩], none, []⟩,
      ⟨(some 19), .call (.k (.fn 15 [])) [(.t 18), (.k (.lit .i64 3))], none, []⟩,
      ⟨(some 17), .mv (.t 19), none, []⟩,
      ⟨(some 20), .extract (.t 17) 0, none, []⟩,
      ⟨(some 21), .extract (.t 17) 1, none, []⟩,
      ⟨(some 5), .mv (.t 20), none, []⟩,
      ⟨(some 6), .mv (.t 21), none, []⟩])
    (.seq (.ops [⟨(some 22), .mv (.t 2), none, []⟩,
      ⟨(some 23), .cmp .eql (.t 22) (.k (.lit .i64 0)), none, []⟩,
      ⟨(some 24), .mv (.t 23), none, []⟩,
      ⟨(some 25), .mv (.t 1), some (24, true), []⟩,
      ⟨(some 26), .bsliceI 48 .u16 4 [⟨0, 1, (.k (.lit .u16 2))⟩, ⟨1, 1, (.k (.lit .u16 0))⟩, ⟨2, 1, (.k (.lit .u16 6))⟩, ⟨3, 1, (.k (.lit .u16 7))⟩], some (24, true), []⟩,
      ⟨(some 27), .call (.k (.fn 51 [])) [(.t 25), (.t 26)], some (24, true), []⟩,
      ⟨(some 28), .pick (.t 24) (.t 27) (.k (.bool false)), none, []⟩,
      ⟨(some 29), .mv (.t 28), none, []⟩,
      ⟨(some 30), .mv (.t 4), some (29, true), []⟩,
      ⟨(some 31), .cmp .eql (.t 30) (.k (.lit .i64 50)), some (29, true), []⟩,
      ⟨(some 32), .pick (.t 29) (.t 31) (.k (.bool false)), none, []⟩,
      ⟨(some 33), .mv (.t 32), none, []⟩,
      ⟨(some 34), .mv (.t 6), some (33, true), []⟩,
      ⟨(some 35), .cmp .eql (.t 34) (.k (.lit .i64 0)), some (33, true), []⟩,
      ⟨(some 36), .pick (.t 33) (.t 35) (.k (.bool false)), none, []⟩,
      ⟨(some 37), .mv (.t 36), none, []⟩,
      ⟨(some 38), .bsliceI 30 .u32 5 [⟨0, 1, (.k (.lit .u32 8))⟩, ⟨1, 1, (.k (.lit .u32 4))⟩, ⟨2, 1, (.k (.lit .u32 2))⟩, ⟨3, 1, (.k (.lit .u32 1))⟩, ⟨4, 1, (.k (.lit .u32 1))⟩], some (37, true), []⟩,
      ⟨(some 39), .mv (.t 5), some (37, true), []⟩,
      ⟨(some 40), .call (.k (.fn 19 [])) [(.t 38), (.t 39)], some (37, true), []⟩,
      ⟨(some 41), .cmp .eql (.t 40) (.k (.lit .u64 32)), some (37, true), []⟩,
      ⟨(some 42), .pick (.t 37) (.t 41) (.k (.bool false)), none, []⟩,
      ⟨(some 0), .mv (.t 42), none, []⟩])
    (.ret)))))
theorem fn17 : FnOk Try.prog 17 x17 43 [0] := FnOk.of Try.call17 Try.func17 (by kernel_rfl) Try.ntmps17 (by kernel_rfl)
/-- baler/balerref05.Right -/
def x18 : XC :=
  .seq (.ops [⟨(some 2), .mv (.k (.bool false)), none, []⟩])
    (.seq (.seq (.ops [⟨(some 6), .mv (.t 0), none, []⟩,
      ⟨(some 7), .len (.t 6), none, []⟩,
      ⟨(some 8), .cmp .gtr (.t 7) (.k (.lit .i64 1024)), none, []⟩])
    (.cond (.t 8) (.seq (.ops [⟨(some 2), .mv (.k (.bool false)), none, []⟩])
    (.ret)) (.skip)))
    (.seq (.ops [⟨(some 3), .mv (.k (.lit .i64 0)), none, []⟩,
      ⟨(some 4), .mv (.k (.lit .i64 0)), none, []⟩])
    (.seq (.seq (.ops [⟨(some 5), .mv (.k (.lit .i64 0)), none, []⟩])
    (.block 0 (.loop (.seq (.seq (.ops [⟨(some 9), .mv (.t 5), none, []⟩,
      ⟨(some 10), .mv (.t 0), none, []⟩,
      ⟨(some 11), .len (.t 10), none, []⟩,
      ⟨(some 12), .cmp .lss (.t 9) (.t 11), none, []⟩])
    (.cond (.t 12) (.skip) (.exit 0)))
    (.seq (.block 1 (.seq (.seq (.ops [⟨(some 15), .mv (.t 0), none, []⟩,
      ⟨(some 16), .mv (.t 5), none, []⟩,
      ⟨(some 17), .iadr 1 (.t 15) (.t 16), none, []⟩,
      ⟨(some 18), .load1 (.t 17), none, []⟩,
      ⟨(some 19), .cmp .gtr (.t 18) (.k (.lit .u8 15)), none, []⟩])
    (.cond (.t 19) (.seq (.ops [⟨(some 2), .mv (.k (.bool false)), none, []⟩])
    (.ret)) (.skip)))
    (.seq (.ops [⟨(some 20), .mv (.t 0), none, []⟩,
      ⟨(some 21), .mv (.t 5), none, []⟩,
      ⟨(some 22), .iadr 1 (.t 20) (.t 21), none, []⟩,
      ⟨(some 23), .load1 (.t 22), none, []⟩,
      ⟨(some 24), .cmp .gtr (.t 23) (.k (.lit .u8 0)), none, []⟩])
    (.cond (.t 24) (.seq (.ops [⟨(some 25), .mv (.t 3), none, []⟩,
      ⟨(some 26), .bin .add .i64 (.t 25) (.k (.lit .i64 1)), none, []⟩,
      ⟨(some 3), .mv (.t 26), none, []⟩])
    (.ops [⟨(some 27), .mv (.t 4), none, []⟩,
      ⟨(some 28), .mv (.t 0), none, []⟩,
      ⟨(some 29), .mv (.t 5), none, []⟩,
      ⟨(some 30), .iadr 1 (.t 28) (.t 29), none, []⟩,
      ⟨(some 31), .load1 (.t 30), none, []⟩,
      ⟨(some 32), .bin .sub .u8 (.k (.lit .u8 15)) (.t 31), none, []⟩,
      ⟨(some 33), .conv .u64 (.t 32), none, []⟩,
      ⟨(some 34), .bin .shl .i64 (.k (.lit .i64 1)) (.t 33), none, []⟩,
      ⟨(some 35), .bin .add .i64 (.t 27) (.t 34), none, []⟩,
      ⟨(some 4), .mv (.t 35), none, []⟩])) (.skip)))))
    (.ops [⟨(some 13), .mv (.t 5), none, []⟩,
      ⟨(some 14), .bin .add .i64 (.t 13) (.k (.lit .i64 1)), none, []⟩,
      ⟨(some 5), .mv (.t 14), none, []⟩]))))))
    (.seq (.ops [⟨(some 36), .mv (.t 3), none, []⟩,
      ⟨(some 37), .cmp .geq (.t 36) (.k (.lit .i64 2)), none, []⟩,
      ⟨(some 38), .mv (.t 37), none, []⟩,
      ⟨(some 39), .mv (.t 4), some (38, true), []⟩,
      ⟨(some 40), .cmp .eql (.t 39) (.k (.lit .i64 32768)), some (38, true), []⟩,
      ⟨(some 41), .pick (.t 38) (.t 40) (.k (.bool false)), none, []⟩,
      ⟨(some 2), .mv (.t 41), none, []⟩])
    (.ret)))))
theorem fn18 : FnOk Try.prog 18 x18 42 [2] := FnOk.of Try.call18 Try.func18 (by kernel_rfl) Try.ntmps18 (by kernel_rfl)
/-- baler/balerlaw05.sum -/
def x19 : XC :=
  .seq (.ops [⟨(some 4), .mv (.k (.lit .u64 0)), none, []⟩])
    (.seq (.ops [⟨(some 5), .mv (.k (.lit .u64 0)), none, []⟩])
    (.seq (.seq (.ops [⟨(some 7), .mv (.t 1), none, []⟩,
      ⟨(some 8), .len (.t 7), none, []⟩,
      ⟨(some 9), .mv (.t 0), none, []⟩,
      ⟨(some 10), .len (.t 9), none, []⟩,
      ⟨(some 11), .cmp .neq (.t 8) (.t 10), none, []⟩])
    (.cond (.t 11) (.seq (.ops [⟨(some 12), .mv (.t 5), none, []⟩,
      ⟨(some 4), .mv (.t 12), none, []⟩])
    (.ret)) (.skip)))
    (.seq (.seq (.ops [⟨(some 13), .mv (.t 1), none, []⟩,
      ⟨(some 14), .len (.t 13), none, []⟩,
      ⟨(some 15), .mv (.k (.lit .i64 0)), none, []⟩])
    (.block 0 (.loop (.seq (.ops [⟨(some 16), .cmp .lss (.t 15) (.t 14), none, []⟩])
    (.seq (.cond (.t 16) (.skip) (.exit 0))
    (.seq (.block 1 (.seq (.ops [⟨(some 17), .mv (.t 15), none, []⟩,
      ⟨(some 6), .mv (.t 17), none, []⟩])
    (.ops [⟨(some 18), .mv (.t 5), none, []⟩,
      ⟨(some 19), .mv (.t 0), none, []⟩,
      ⟨(some 20), .mv (.t 6), none, []⟩,
      ⟨(some 21), .iadr 1 (.t 19) (.t 20), none, []⟩,
      ⟨(some 22), .load1 (.t 21), none, []⟩,
      ⟨(some 23), .conv .u64 (.t 22), none, []⟩,
      ⟨(some 24), .mv (.t 1), none, []⟩,
      ⟨(some 25), .mv (.t 6), none, []⟩,
      ⟨(some 26), .iadr 1 (.t 24) (.t 25), none, []⟩,
      ⟨(some 27), .load1 (.t 26), none, []⟩,
      ⟨(some 28), .conv .u64 (.t 27), none, []⟩,
      ⟨(some 29), .bin .mul .u64 (.t 23) (.t 28), none, []⟩,
      ⟨(some 30), .bin .add .u64 (.t 18) (.t 29), none, []⟩,
      ⟨(some 5), .mv (.t 30), none, []⟩])))
    (.ops [⟨(some 31), .bin .add .i64 (.t 15) (.k (.lit .i64 1)), none, []⟩,
      ⟨(some 15), .mv (.t 31), none, []⟩])))))))
    (.seq (.ops [⟨(some 32), .mv (.t 5), none, []⟩,
      ⟨(some 4), .mv (.t 32), none, []⟩])
    (.ret)))))
theorem fn19 : FnOk Try.prog 19 x19 33 [4] := FnOk.of Try.call19 Try.func19 (by kernel_rfl) Try.ntmps19 (by kernel_rfl)
/-- baler/balerref05.Least -/
def x20 : XC :=
  .seq (.ops [⟨(some 4), .mv (.k (.lit .u64 0)), none, []⟩])
    (.seq (.ops [⟨(some 12), .mv (.t 0), none, []⟩,
      ⟨(some 13), .call (.k (.fn 65 [])) [(.t 12)], none, []⟩,
      ⟨(some 5), .mv (.t 13), none, []⟩])
    (.seq (.ops [⟨(some 14), .mv (.t 5), none, []⟩,
      ⟨(some 6), .mv (.t 14), none, []⟩])
    (.seq (.seq (.ops [⟨(some 7), .mv (.k (.lit .i64 1)), none, []⟩])
    (.block 0 (.loop (.seq (.seq (.ops [⟨(some 15), .mv (.t 7), none, []⟩,
      ⟨(some 16), .mv (.t 1), none, []⟩,
      ⟨(some 17), .cmp .lss (.t 15) (.t 16), none, []⟩])
    (.cond (.t 17) (.skip) (.exit 0)))
    (.seq (.block 1 (.seq (.ops [⟨(some 8), .mv (.k (.val (.slice none 0 0))), none, []⟩])
    (.seq (.seq (.ops [⟨(some 9), .mv (.k (.lit .i64 0)), none, []⟩])
    (.block 2 (.loop (.seq (.seq (.ops [⟨(some 20), .mv (.t 9), none, []⟩,
      ⟨(some 21), .bin .add .i64 (.t 20) (.k (.lit .i64 1)), none, []⟩,
      ⟨(some 22), .mv (.t 6), none, []⟩,
      ⟨(some 23), .len (.t 22), none, []⟩,
      ⟨(some 24), .cmp .lss (.t 21) (.t 23), none, []⟩])
    (.cond (.t 24) (.skip) (.exit 2)))
    (.seq (.block 3 (.ops [⟨(some 27), .mv (.t 8), none, []⟩,
      ⟨(some 28), .mv (.t 6), none, []⟩,
      ⟨(some 29), .mv (.t 9), none, []⟩,
      ⟨(some 30), .iadr 1 (.t 28) (.t 29), none, []⟩,
      ⟨(some 31), .load1 (.t 30), none, []⟩,
      ⟨(some 32), .mv (.t 6), none, []⟩,
      ⟨(some 33), .mv (.t 9), none, []⟩,
      ⟨(some 34), .bin .add .i64 (.t 33) (.k (.lit .i64 1)), none, []⟩,
      ⟨(some 35), .iadr 1 (.t 32) (.t 34), none, []⟩,
      ⟨(some 36), .load1 (.t 35), none, []⟩,
      ⟨(some 37), .bin .add .u64 (.t 31) (.t 36), none, []⟩,
      ⟨(some 38), .bsliceI 31 .u64 1 [⟨0, 1, (.t 37)⟩], none, [(.load1 (.t 35), 36, none), (.load1 (.t 30), 31, none)]⟩,
      ⟨(some 39), .appI 31 .u64 8 (.t 27) (.t 38), none, [(.load1 (.t 35), 36, none), (.load1 (.t 30), 31, none)]⟩,
      ⟨(some 8), .mv (.t 39), none, []⟩]))
    (.ops [⟨(some 25), .mv (.t 9), none, []⟩,
      ⟨(some 26), .bin .add .i64 (.t 25) (.k (.lit .i64 2)), none, []⟩,
      ⟨(some 9), .mv (.t 26), none, []⟩]))))))
    (.ops [⟨(some 40), .mv (.t 5), none, []⟩,
      ⟨(some 41), .mv (.t 8), none, []⟩,
      ⟨(some 42), .call (.k (.fn 66 [])) [(.t 40), (.t 41)], none, []⟩,
      ⟨(some 6), .mv (.t 42), none, []⟩]))))
    (.ops [⟨(some 18), .mv (.t 7), none, []⟩,
      ⟨(some 19), .bin .add .i64 (.t 18) (.k (.lit .i64 1)), none, []⟩,
      ⟨(some 7), .mv (.t 19), none, []⟩]))))))
    (.seq (.ops [⟨(some 10), .mv (.k (.lit .u64 0)), none, []⟩])
    (.seq (.seq (.ops [⟨(some 11), .mv (.k (.lit .i64 0)), none, []⟩])
    (.block 4 (.loop (.seq (.seq (.ops [⟨(some 43), .mv (.t 11), none, []⟩,
      ⟨(some 44), .mv (.t 5), none, []⟩,
      ⟨(some 45), .len (.t 44), none, []⟩,
      ⟨(some 46), .bin .sub .i64 (.t 45) (.k (.lit .i64 1)), none, []⟩,
      ⟨(some 47), .bin .mul .i64 (.k (.lit .i64 2)) (.t 46), none, []⟩,
      ⟨(some 48), .cmp .lss (.t 43) (.t 47), none, []⟩])
    (.cond (.t 48) (.skip) (.exit 4)))
    (.seq (.block 5 (.ops [⟨(some 51), .mv (.t 10), none, []⟩,
      ⟨(some 52), .mv (.t 6), none, []⟩,
      ⟨(some 53), .mv (.t 11), none, []⟩,
      ⟨(some 54), .iadr 1 (.t 52) (.t 53), none, []⟩,
      ⟨(some 55), .load1 (.t 54), none, []⟩,
      ⟨(some 56), .bin .add .u64 (.t 51) (.t 55), none, []⟩,
      ⟨(some 10), .mv (.t 56), none, []⟩]))
    (.ops [⟨(some 49), .mv (.t 11), none, []⟩,
      ⟨(some 50), .bin .add .i64 (.t 49) (.k (.lit .i64 1)), none, []⟩,
      ⟨(some 11), .mv (.t 50), none, []⟩]))))))
    (.seq (.ops [⟨(some 57), .mv (.t 10), none, []⟩,
      ⟨(some 4), .mv (.t 57), none, []⟩])
    (.ret)))))))
theorem fn20 : FnOk Try.prog 20 x20 58 [4] := FnOk.of Try.call20 Try.func20 (by kernel_rfl) Try.ntmps20 (by kernel_rfl)
/-- baler/canon.Codes -/
def x32 : XC :=
  .seq (.ops [⟨(some 2), .mv (.k (.val (.slice none 0 0))), none, []⟩,
      ⟨(some 3), .mv (.k (.lit .i64 0)), none, []⟩])
    (.seq (.seq (.ops [⟨(some 7), .mv (.t 0), none, []⟩,
      ⟨(some 8), .call (.k (.fn 78 [])) [(.t 7)], none, []⟩,
      ⟨(some 9), .not (.t 8), none, []⟩])
    (.cond (.t 9) (.seq (.ops [⟨(some 2), .mv (.k (.val (.slice none 0 0))), none, []⟩,
      ⟨(some 3), .mv (.k (.lit .i64 50)), none, []⟩])
    (.ret)) (.skip)))
    (.seq (.ops [⟨(some 10), .mv (.t 0), none, []⟩,
      ⟨(some 11), .len (.t 10), none, []⟩,
      ⟨(some 12), .mkslI 48 .u16 2 (.t 11) (.t 11), none, []⟩,
      ⟨(some 4), .newR 49 [(.val (.slice none 0 0))], none, []⟩,
      ⟨none, .store1 (.t 4) (.t 12), none, []⟩])
    (.seq (.seq (.ops [⟨(some 13), .mv (.t 0), none, []⟩,
      ⟨(some 14), .call (.k (.fn 79 [])) [(.t 13)], none, []⟩])
    (.block 0 (.range (.t 14) [15, 16] (.seq (.ops [⟨(some 5), .mv (.t 15), none, []⟩])
    (.ops [⟨(some 6), .mv (.t 16), none, []⟩])) (.block 1 (.ops [⟨(some 17), .load1 (.t 4), none, []⟩,
      ⟨(some 18), .mv (.t 5), none, []⟩,
      ⟨(some 19), .mv (.t 6), none, []⟩,
      ⟨(some 20), .iadr 1 (.t 17) (.t 18), none, []⟩,
      ⟨none, .store1 (.t 20) (.t 19), none, []⟩])))))
    (.seq (.ops [⟨(some 21), .load1 (.t 4), none, []⟩,
      ⟨(some 2), .mv (.t 21), none, []⟩,
      ⟨(some 3), .mv (.k (.lit .i64 0)), none, []⟩])
    (.ret)))))
theorem fn32 : FnOk Try.prog 32 x32 22 [2, 3] := FnOk.of Try.call32 Try.func32 (by kernel_rfl) Try.ntmps32 (by kernel_rfl)
/-- baler/canon.Read -/
def x34 : XC :=
  .seq (.ops [⟨(some 4), .mv (.k (.lit .i64 0)), none, []⟩,
      ⟨(some 5), .mv (.k (.lit .i64 0)), none, []⟩])
    (.seq (.seq (.ops [⟨(some 6), .mv (.t 0), none, []⟩,
      ⟨(some 7), .eqv false 2 (.t 6) (.k (.val (.pointer none))), none, []⟩])
    (.cond (.t 7) (.seq (.ops [⟨(some 4), .mv (.k (.lit .i64 0)), none, []⟩,
      ⟨(some 5), .mv (.k (.lit .i64 1)), none, []⟩])
    (.ret)) (.skip)))
    (.seq (.seq (.ops [⟨(some 8), .mv (.t 1), none, []⟩,
      ⟨(some 9), .call (.k (.fn 78 [])) [(.t 8)], none, []⟩,
      ⟨(some 10), .not (.t 9), none, []⟩])
    (.cond (.t 10) (.seq (.ops [⟨(some 4), .mv (.k (.lit .i64 0)), none, []⟩,
      ⟨(some 5), .mv (.k (.lit .i64 50)), none, []⟩])
    (.ret)) (.skip)))
    (.seq (.ops [⟨(some 11), .mv (.t 0), none, []⟩,
      ⟨(some 12), .mv (.t 1), none, []⟩,
      ⟨(some 13), .call (.k (.fn 82 [])) [(.t 11), (.t 12)], none, []⟩,
      ⟨(some 14), .extract (.t 13) 0, none, []⟩,
      ⟨(some 15), .extract (.t 13) 1, none, []⟩,
      ⟨(some 4), .mv (.t 14), none, []⟩,
      ⟨(some 5), .mv (.t 15), none, []⟩])
    (.ret))))
theorem fn34 : FnOk Try.prog 34 x34 16 [4, 5] := FnOk.of Try.call34 Try.func34 (by kernel_rfl) Try.ntmps34 (by kernel_rfl)
/-- baler/canon.Write -/
def x42 : XC :=
  .seq (.ops [⟨(some 3), .box 90 none (.t 0), none, []⟩,
      ⟨(some 4), .box 23 none (.t 1), none, []⟩,
      ⟨(some 5), .box 3 none (.t 2), none, []⟩,
      ⟨(some 6), .mv (.k (.lit .i64 0)), none, []⟩])
    (.seq (.seq (.ops [⟨(some 10), .load1 (.t 3), none, []⟩,
      ⟨(some 11), .eqv false 2 (.t 10) (.k (.val (.pointer none))), none, []⟩])
    (.cond (.t 11) (.seq (.ops [⟨(some 6), .mv (.k (.lit .i64 1)), none, []⟩])
    (.ret)) (.skip)))
    (.seq (.seq (.ops [⟨(some 12), .load1 (.t 4), none, []⟩,
      ⟨(some 13), .call (.k (.fn 78 [])) [(.t 12)], none, []⟩,
      ⟨(some 14), .not (.t 13), none, []⟩])
    (.cond (.t 14) (.seq (.ops [⟨(some 6), .mv (.k (.lit .i64 50)), none, []⟩])
    (.ret)) (.skip)))
    (.seq (.seq (.ops [⟨(some 15), .load1 (.t 5), none, []⟩,
      ⟨(some 16), .cmp .lss (.t 15) (.k (.lit .i64 0)), none, []⟩,
      ⟨(some 17), .mv (.t 16), none, []⟩,
      ⟨(some 18), .load1 (.t 5), some (17, false), []⟩,
      ⟨(some 19), .load1 (.t 4), some (17, false), []⟩,
      ⟨(some 20), .len (.t 19), some (17, false), []⟩,
      ⟨(some 21), .cmp .geq (.t 18) (.t 20), some (17, false), []⟩,
      ⟨(some 22), .pick (.t 17) (.k (.bool true)) (.t 21), none, []⟩,
      ⟨(some 23), .mv (.t 22), none, []⟩,
      ⟨(some 24), .load1 (.t 4), some (23, false), []⟩,
      ⟨(some 25), .load1 (.t 5), some (23, false), []⟩,
      ⟨(some 26), .iadr 1 (.t 24) (.t 25), some (23, false), []⟩,
      ⟨(some 27), .load1 (.t 26), some (23, false), []⟩,
      ⟨(some 28), .cmp .eql (.t 27) (.k (.lit .u8 0)), some (23, false), []⟩,
      ⟨(some 29), .pick (.t 23) (.k (.bool true)) (.t 28), none, []⟩])
    (.cond (.t 29) (.seq (.ops [⟨(some 6), .mv (.k (.lit .i64 2)), none, []⟩])
    (.ret)) (.skip)))
    (.seq (.seq (.ops [⟨(some 30), .load1 (.t 4), none, []⟩,
      ⟨(some 31), .call (.k (.fn 79 [])) [(.t 30)], none, []⟩])
    (.block 0 (.range (.t 31) [32, 33] (.seq (.ops [⟨(some 7), .mv (.t 32), none, []⟩])
    (.ops [⟨(some 8), .mv (.t 33), none, []⟩])) (.block 1 (.seq (.seq (.ops [⟨(some 34), .mv (.t 7), none, []⟩,
      ⟨(some 35), .load1 (.t 5), none, []⟩,
      ⟨(some 36), .cmp .neq (.t 34) (.t 35), none, []⟩])
    (.cond (.t 36) (.exit 1) (.skip)))
    (.seq (.seq (.ops [⟨(some 37), .load1 (.t 4), none, []⟩,
      ⟨(some 38), .mv (.t 7), none, []⟩,
      ⟨(some 39), .iadr 1 (.t 37) (.t 38), none, []⟩,
      ⟨(some 40), .load1 (.t 39), none, []⟩,
      ⟨(some 41), .conv .i64 (.t 40), none, []⟩,
      ⟨(some 42), .bin .sub .i64 (.t 41) (.k (.lit .i64 1)), none, []⟩,
      ⟨(some 9), .mv (.t 42), none, []⟩])
    (.block 2 (.loop (.seq (.seq (.ops [⟨(some 43), .mv (.t 9), none, []⟩,
      ⟨(some 44), .cmp .geq (.t 43) (.k (.lit .i64 0)), none, []⟩])
    (.cond (.t 44) (.skip) (.exit 2)))
    (.seq (.block 3 (.ops [⟨(some 47), .load1 (.t 3), none, []⟩,
      ⟨(some 48), .mv (.t 8), none, []⟩,
      ⟨(some 49), .mv (.t 9), none, []⟩,
      ⟨(some 50), .conv .u64 (.t 49), none, []⟩,
      ⟨(some 51), .bin .shr .u16 (.t 48) (.t 50), none, []⟩,
      ⟨(some 52), .conv .u64 (.t 51), none, []⟩,
      ⟨(some 53), .call (.k (.fn 68 [])) [(.t 47), (.t 52), (.k (.lit .i64 1))], none, []⟩]))
    (.ops [⟨(some 45), .mv (.t 9), none, []⟩,
      ⟨(some 46), .bin .sub .i64 (.t 45) (.k (.lit .i64 1)), none, []⟩,
      ⟨(some 9), .mv (.t 46), none, []⟩]))))))
    (.exit 0)))))))
    (.seq (.ops [⟨(some 6), .mv (.k (.lit .i64 0)), none, []⟩])
    (.ret))))))
theorem fn42 : FnOk Try.prog 42 x42 54 [6] := FnOk.of Try.call42 Try.func42 (by kernel_rfl) Try.ntmps42 (by kernel_rfl)
/-- baler/balerref05.Codes -/
def x50 : XC :=
  .seq (.ops [⟨(some 2), .mv (.k (.val (.slice none 0 0))), none, []⟩,
      ⟨(some 3), .mv (.k (.lit .i64 0)), none, []⟩])
    (.seq (.seq (.ops [⟨(some 4), .mv (.t 0), none, []⟩,
      ⟨(some 5), .call (.k (.fn 18 [])) [(.t 4)], none, []⟩,
      ⟨(some 6), .not (.t 5), none, []⟩])
    (.cond (.t 6) (.seq (.ops [⟨(some 2), .mv (.k (.val (.slice none 0 0))), none, []⟩,
      ⟨(some 3), .mv (.k (.lit .i64 50)), none, []⟩])
    (.ret)) (.skip)))
    (.seq (.ops [⟨(some 7), .mv (.t 0), none, []⟩,
      ⟨(some 8), .call (.k (.fn 97 [])) [(.t 7)], none, []⟩,
      ⟨(some 2), .mv (.t 8), none, []⟩,
      ⟨(some 3), .mv (.k (.lit .i64 0)), none, []⟩])
    (.ret)))
theorem fn50 : FnOk Try.prog 50 x50 9 [2, 3] := FnOk.of Try.call50 Try.func50 (by kernel_rfl) Try.ntmps50 (by kernel_rfl)
/-- baler/balerlaw05.same -/
def x51 : XC :=
  .seq (.ops [⟨(some 4), .mv (.k (.bool false)), none, []⟩])
    (.seq (.seq (.ops [⟨(some 6), .mv (.t 0), none, []⟩,
      ⟨(some 7), .len (.t 6), none, []⟩,
      ⟨(some 8), .mv (.t 1), none, []⟩,
      ⟨(some 9), .len (.t 8), none, []⟩,
      ⟨(some 10), .cmp .neq (.t 7) (.t 9), none, []⟩])
    (.cond (.t 10) (.seq (.ops [⟨(some 4), .mv (.k (.bool false)), none, []⟩])
    (.ret)) (.skip)))
    (.seq (.seq (.ops [⟨(some 11), .mv (.t 0), none, []⟩,
      ⟨(some 12), .len (.t 11), none, []⟩,
      ⟨(some 13), .mv (.k (.lit .i64 0)), none, []⟩])
    (.block 0 (.loop (.seq (.ops [⟨(some 14), .cmp .lss (.t 13) (.t 12), none, []⟩])
    (.seq (.cond (.t 14) (.skip) (.exit 0))
    (.seq (.block 1 (.seq (.ops [⟨(some 15), .mv (.t 13), none, []⟩,
      ⟨(some 5), .mv (.t 15), none, []⟩])
    (.seq (.ops [⟨(some 16), .mv (.t 0), none, []⟩,
      ⟨(some 17), .mv (.t 5), none, []⟩,
      ⟨(some 18), .iadr 1 (.t 16) (.t 17), none, []⟩,
      ⟨(some 19), .load1 (.t 18), none, []⟩,
      ⟨(some 20), .mv (.t 1), none, []⟩,
      ⟨(some 21), .mv (.t 5), none, []⟩,
      ⟨(some 22), .iadr 1 (.t 20) (.t 21), none, []⟩,
      ⟨(some 23), .load1 (.t 22), none, []⟩,
      ⟨(some 24), .cmp .neq (.t 19) (.t 23), none, []⟩])
    (.cond (.t 24) (.seq (.ops [⟨(some 4), .mv (.k (.bool false)), none, []⟩])
    (.ret)) (.skip)))))
    (.ops [⟨(some 25), .bin .add .i64 (.t 13) (.k (.lit .i64 1)), none, []⟩,
      ⟨(some 13), .mv (.t 25), none, []⟩])))))))
    (.seq (.ops [⟨(some 4), .mv (.k (.bool true)), none, []⟩])
    (.ret))))
theorem fn51 : FnOk Try.prog 51 x51 26 [4] := FnOk.of Try.call51 Try.func51 (by kernel_rfl) Try.ntmps51 (by kernel_rfl)
/-- baler/balerref05.Write -/
def x52 : XC :=
  .seq (.ops [⟨(some 6), .mv (.k (.lit .i64 0)), none, []⟩])
    (.seq (.seq (.ops [⟨(some 9), .mv (.t 1), none, []⟩,
      ⟨(some 10), .call (.k (.fn 18 [])) [(.t 9)], none, []⟩,
      ⟨(some 11), .not (.t 10), none, []⟩])
    (.cond (.t 11) (.seq (.ops [⟨(some 6), .mv (.k (.lit .i64 50)), none, []⟩])
    (.ret)) (.skip)))
    (.seq (.seq (.ops [⟨(some 12), .mv (.t 2), none, []⟩,
      ⟨(some 13), .cmp .lss (.t 12) (.k (.lit .i64 0)), none, []⟩,
      ⟨(some 14), .mv (.t 13), none, []⟩,
      ⟨(some 15), .mv (.t 2), some (14, false), []⟩,
      ⟨(some 16), .mv (.t 1), some (14, false), []⟩,
      ⟨(some 17), .len (.t 16), some (14, false), []⟩,
      ⟨(some 18), .cmp .geq (.t 15) (.t 17), some (14, false), []⟩,
      ⟨(some 19), .pick (.t 14) (.k (.bool true)) (.t 18), none, []⟩,
      ⟨(some 20), .mv (.t 19), none, []⟩,
      ⟨(some 21), .mv (.t 1), some (20, false), []⟩,
      ⟨(some 22), .mv (.t 2), some (20, false), []⟩,
      ⟨(some 23), .iadr 1 (.t 21) (.t 22), some (20, false), []⟩,
      ⟨(some 24), .load1 (.t 23), some (20, false), []⟩,
      ⟨(some 25), .cmp .eql (.t 24) (.k (.lit .u8 0)), some (20, false), []⟩,
      ⟨(some 26), .pick (.t 20) (.k (.bool true)) (.t 25), none, []⟩])
    (.cond (.t 26) (.seq (.ops [⟨(some 6), .mv (.k (.lit .i64 2)), none, []⟩])
    (.ret)) (.skip)))
    (.seq (.ops [⟨(some 27), .mv (.t 1), none, []⟩,
      ⟨(some 28), .call (.k (.fn 97 [])) [(.t 27)], none, []⟩,
      ⟨(some 29), .mv (.t 2), none, []⟩,
      ⟨(some 30), .iadr 1 (.t 28) (.t 29), none, []⟩,
      ⟨(some 31), .load1 (.t 30), none, []⟩,
      ⟨(some 7), .mv (.t 31), none, []⟩])
    (.seq (.seq (.ops [⟨(some 32), .mv (.t 1), none, []⟩,
      ⟨(some 33), .mv (.t 2), none, []⟩,
      ⟨(some 34), .iadr 1 (.t 32) (.t 33), none, []⟩,
      ⟨(some 35), .load1 (.t 34), none, []⟩,
      ⟨(some 36), .conv .i64 (.t 35), none, []⟩,
      ⟨(some 37), .bin .sub .i64 (.t 36) (.k (.lit .i64 1)), none, []⟩,
      ⟨(some 8), .mv (.t 37), none, []⟩])
    (.block 0 (.loop (.seq (.seq (.ops [⟨(some 38), .mv (.t 8), none, []⟩,
      ⟨(some 39), .cmp .geq (.t 38) (.k (.lit .i64 0)), none, []⟩])
    (.cond (.t 39) (.skip) (.exit 0)))
    (.seq (.block 1 (.ops [⟨(some 42), .mv (.t 0), none, []⟩,
      ⟨(some 43), .mv (.t 7), none, []⟩,
      ⟨(some 44), .mv (.t 8), none, []⟩,
      ⟨(some 45), .conv .u64 (.t 44), none, []⟩,
      ⟨(some 46), .bin .shr .u16 (.t 43) (.t 45), none, []⟩,
      ⟨(some 47), .conv .u64 (.t 46), none, []⟩,
      ⟨(some 48), .call (.k (.fn 71 [])) [(.t 42), (.t 47), (.k (.lit .i64 1))], none, []⟩]))
    (.ops [⟨(some 40), .mv (.t 8), none, []⟩,
      ⟨(some 41), .bin .sub .i64 (.t 40) (.k (.lit .i64 1)), none, []⟩,
      ⟨(some 8), .mv (.t 41), none, []⟩]))))))
    (.seq (.ops [⟨(some 6), .mv (.k (.lit .i64 0)), none, []⟩])
    (.ret))))))
theorem fn52 : FnOk Try.prog 52 x52 49 [6] := FnOk.of Try.call52 Try.func52 (by kernel_rfl) Try.ntmps52 (by kernel_rfl)
/-- baler/balerref05.Read -/
def x55 : XC :=
  .seq (.ops [⟨(some 4), .mv (.k (.lit .i64 0)), none, []⟩,
      ⟨(some 5), .mv (.k (.lit .i64 0)), none, []⟩])
    (.seq (.seq (.ops [⟨(some 7), .mv (.t 1), none, []⟩,
      ⟨(some 8), .call (.k (.fn 18 [])) [(.t 7)], none, []⟩,
      ⟨(some 9), .not (.t 8), none, []⟩])
    (.cond (.t 9) (.seq (.ops [⟨(some 4), .mv (.k (.lit .i64 0)), none, []⟩,
      ⟨(some 5), .mv (.k (.lit .i64 50)), none, []⟩])
    (.ret)) (.skip)))
    (.seq (.ops [⟨(some 10), .mv (.t 1), none, []⟩,
      ⟨(some 11), .call (.k (.fn 97 [])) [(.t 10)], none, []⟩,
      ⟨(some 6), .mv (.t 11), none, []⟩])
    (.seq (.ops [⟨(some 12), .mv (.t 0), none, []⟩,
      ⟨(some 13), .mv (.t 1), none, []⟩,
      ⟨(some 14), .mv (.t 6), none, []⟩,
      ⟨(some 15), .call (.k (.fn 96 [])) [(.t 12), (.t 13), (.t 14)], none, []⟩,
      ⟨(some 16), .extract (.t 15) 0, none, []⟩,
      ⟨(some 17), .extract (.t 15) 1, none, []⟩,
      ⟨(some 4), .mv (.t 16), none, []⟩,
      ⟨(some 5), .mv (.t 17), none, []⟩])
    (.ret))))
theorem fn55 : FnOk Try.prog 55 x55 18 [4, 5] := FnOk.of Try.call55 Try.func55 (by kernel_rfl) Try.ntmps55 (by kernel_rfl)
/-- baler/canon.Limit$1 -/
def x63 : XC :=
  .seq (.ops [⟨(some 1), .box 109 none (.t 0), none, []⟩,
      ⟨(some 2), .mv (.k (.lit .u64 0)), none, []⟩])
    (.seq (.ops [⟨(some 3), .fadr 0 (.t 1), none, []⟩,
      ⟨(some 4), .load1 (.t 3), none, []⟩,
      ⟨(some 2), .mv (.t 4), none, []⟩])
    (.ret))
theorem fn63 : FnOk Try.prog 63 x63 5 [2] := FnOk.of Try.call63 Try.func63 (by kernel_rfl) Try.ntmps63 (by kernel_rfl)
/-- baler/canon.rising[baler/canon.coin] -/
def x64 : XC :=
  .seq (.ops [⟨(some 3), .box 110 none (.t 1), none, []⟩,
      ⟨(some 4), .mv (.k (.val (.slice none 0 0))), none, []⟩])
    (.seq (.ops [⟨(some 5), .mv (.t 0), none, []⟩,
      ⟨(some 6), .mkfn 111 [(.t 3)], none, []⟩,
      ⟨(some 7), .call (.k (.fn 110 [])) [(.t 5), (.t 6)], none, []⟩])
    (.seq (.ops [⟨(some 8), .mv (.t 0), none, []⟩,
      ⟨(some 4), .mv (.t 8), none, []⟩])
    (.ret)))
theorem fn64 : FnOk Try.prog 64 x64 9 [4] := FnOk.of Try.call64 Try.func64 (by kernel_rfl) Try.ntmps64 (by kernel_rfl)
/-- baler/balerref05.sorted -/
def x65 : XC :=
  .seq (.ops [⟨(some 2), .mv (.k (.val (.slice none 0 0))), none, []⟩])
    (.seq (.ops [⟨(some 3), .mv (.k (.val (.slice none 0 0))), none, []⟩])
    (.seq (.seq (.ops [⟨(some 4), .mv (.k (.lit .i64 0)), none, []⟩])
    (.block 0 (.loop (.seq (.seq (.ops [⟨(some 7), .mv (.t 4), none, []⟩,
      ⟨(some 8), .mv (.t 0), none, []⟩,
      ⟨(some 9), .len (.t 8), none, []⟩,
      ⟨(some 10), .cmp .lss (.t 7) (.t 9), none, []⟩])
    (.cond (.t 10) (.skip) (.exit 0)))
    (.seq (.block 1 (.seq (.seq (.ops [⟨(some 13), .mv (.t 0), none, []⟩,
      ⟨(some 14), .mv (.t 4), none, []⟩,
      ⟨(some 15), .iadr 1 (.t 13) (.t 14), none, []⟩,
      ⟨(some 16), .load1 (.t 15), none, []⟩,
      ⟨(some 17), .cmp .eql (.t 16) (.k (.lit .u32 0)), none, []⟩])
    (.cond (.t 17) (.exit 1) (.skip)))
    (.seq (.ops [⟨(some 18), .mv (.t 3), none, []⟩,
      ⟨(some 19), .mv (.t 0), none, []⟩,
      ⟨(some 20), .mv (.t 4), none, []⟩,
      ⟨(some 21), .iadr 1 (.t 19) (.t 20), none, []⟩,
      ⟨(some 22), .load1 (.t 21), none, []⟩,
      ⟨(some 23), .conv .u64 (.t 22), none, []⟩,
      ⟨(some 24), .bsliceI 31 .u64 1 [⟨0, 1, (.t 23)⟩], none, []⟩,
      ⟨(some 25), .appI 31 .u64 8 (.t 18) (.t 24), none, []⟩,
      ⟨(some 3), .mv (.t 25), none, []⟩])
    (.seq (.ops [⟨(some 26), .mv (.t 3), none, []⟩,
      ⟨(some 27), .len (.t 26), none, []⟩,
      ⟨(some 28), .bin .sub .i64 (.t 27) (.k (.lit .i64 1)), none, []⟩,
      ⟨(some 5), .mv (.t 28), none, []⟩])
    (.block 2 (.loop (.seq (.seq (.ops [⟨(some 29), .mv (.t 5), none, []⟩,
      ⟨(some 30), .cmp .gtr (.t 29) (.k (.lit .i64 0)), none, []⟩,
      ⟨(some 31), .mv (.t 30), none, []⟩,
      ⟨(some 32), .mv (.t 3), some (31, true), []⟩,
      ⟨(some 33), .mv (.t 5), some (31, true), []⟩,
      ⟨(some 34), .iadr 1 (.t 32) (.t 33), some (31, true), []⟩,
      ⟨(some 35), .load1 (.t 34), some (31, true), []⟩,
      ⟨(some 36), .mv (.t 3), some (31, true), []⟩,
      ⟨(some 37), .mv (.t 5), some (31, true), []⟩,
      ⟨(some 38), .bin .sub .i64 (.t 37) (.k (.lit .i64 1)), some (31, true), []⟩,
      ⟨(some 39), .iadr 1 (.t 36) (.t 38), some (31, true), []⟩,
      ⟨(some 40), .load1 (.t 39), some (31, true), []⟩,
      ⟨(some 41), .cmp .lss (.t 35) (.t 40), some (31, true), []⟩,
      ⟨(some 42), .pick (.t 31) (.t 41) (.k (.bool false)), none, []⟩])
    (.cond (.t 42) (.skip) (.exit 2)))
    (.seq (.block 3 (.seq (.ops [⟨(some 45), .mv (.t 3), none, []⟩,
      ⟨(some 46), .mv (.t 5), none, []⟩,
      ⟨(some 47), .iadr 1 (.t 45) (.t 46), none, []⟩,
      ⟨(some 48), .load1 (.t 47), none, []⟩,
      ⟨(some 6), .mv (.t 48), none, []⟩])
    (.seq (.ops [⟨(some 49), .mv (.t 3), none, []⟩,
      ⟨(some 50), .mv (.t 5), none, []⟩,
      ⟨(some 51), .mv (.t 3), none, []⟩,
      ⟨(some 52), .mv (.t 5), none, []⟩,
      ⟨(some 53), .bin .sub .i64 (.t 52) (.k (.lit .i64 1)), none, []⟩,
      ⟨(some 54), .iadr 1 (.t 51) (.t 53), none, []⟩,
      ⟨(some 55), .load1 (.t 54), none, []⟩,
      ⟨(some 56), .iadr 1 (.t 49) (.t 50), none, []⟩,
      ⟨none, .store1 (.t 56) (.t 55), none, []⟩])
    (.ops [⟨(some 57), .mv (.t 3), none, []⟩,
      ⟨(some 58), .mv (.t 5), none, []⟩,
      ⟨(some 59), .bin .sub .i64 (.t 58) (.k (.lit .i64 1)), none, []⟩,
      ⟨(some 60), .mv (.t 6), none, []⟩,
      ⟨(some 61), .iadr 1 (.t 57) (.t 59), none, []⟩,
      ⟨none, .store1 (.t 61) (.t 60), none, []⟩]))))
    (.ops [⟨(some 43), .mv (.t 5), none, []⟩,
      ⟨(some 44), .bin .sub .i64 (.t 43) (.k (.lit .i64 1)), none, []⟩,
      ⟨(some 5), .mv (.t 44), none, []⟩])))))))))
    (.ops [⟨(some 11), .mv (.t 4), none, []⟩,
      ⟨(some 12), .bin .add .i64 (.t 11) (.k (.lit .i64 1)), none, []⟩,
      ⟨(some 4), .mv (.t 12), none, []⟩]))))))
    (.seq (.ops [⟨(some 62), .mv (.t 3), none, []⟩,
      ⟨(some 2), .mv (.t 62), none, []⟩])
    (.ret))))
theorem fn65 : FnOk Try.prog 65 x65 63 [2] := FnOk.of Try.call65 Try.func65 (by kernel_rfl) Try.ntmps65 (by kernel_rfl)
/-- baler/balerref05.merged -/
def x66 : XC :=
  .seq (.ops [⟨(some 4), .mv (.k (.val (.slice none 0 0))), none, []⟩])
    (.seq (.ops [⟨(some 5), .mv (.k (.val (.slice none 0 0))), none, []⟩])
    (.seq (.ops [⟨(some 6), .mv (.k (.lit .i64 0)), none, []⟩,
      ⟨(some 7), .mv (.k (.lit .i64 0)), none, []⟩])
    (.seq (.block 0 (.loop (.seq (.seq (.ops [⟨(some 8), .mv (.t 6), none, []⟩,
      ⟨(some 9), .mv (.t 0), none, []⟩,
      ⟨(some 10), .len (.t 9), none, []⟩,
      ⟨(some 11), .cmp .lss (.t 8) (.t 10), none, []⟩,
      ⟨(some 12), .mv (.t 11), none, []⟩,
      ⟨(some 13), .mv (.t 7), some (12, false), []⟩,
      ⟨(some 14), .mv (.t 1), some (12, false), []⟩,
      ⟨(some 15), .len (.t 14), some (12, false), []⟩,
      ⟨(some 16), .cmp .lss (.t 13) (.t 15), some (12, false), []⟩,
      ⟨(some 17), .pick (.t 12) (.k (.bool true)) (.t 16), none, []⟩])
    (.cond (.t 17) (.skip) (.exit 0)))
    (.block 1 (.seq (.ops [⟨(some 18), .mv (.t 7), none, []⟩,
      ⟨(some 19), .mv (.t 1), none, []⟩,
      ⟨(some 20), .len (.t 19), none, []⟩,
      ⟨(some 21), .cmp .geq (.t 18) (.t 20), none, []⟩,
      ⟨(some 22), .mv (.t 21), none, []⟩,
      ⟨(some 23), .mv (.t 6), some (22, false), []⟩,
      ⟨(some 24), .mv (.t 0), some (22, false), []⟩,
      ⟨(some 25), .len (.t 24), some (22, false), []⟩,
      ⟨(some 26), .cmp .lss (.t 23) (.t 25), some (22, false), []⟩,
      ⟨(some 27), .mv (.t 26), some (22, false), []⟩,
      ⟨(some 28), .mv (.t 0), some (27, true), []⟩,
      ⟨(some 29), .mv (.t 6), some (27, true), []⟩,
      ⟨(some 30), .iadr 1 (.t 28) (.t 29), some (27, true), []⟩,
      ⟨(some 31), .load1 (.t 30), some (27, true), []⟩,
      ⟨(some 32), .mv (.t 1), some (27, true), []⟩,
      ⟨(some 33), .mv (.t 7), some (27, true), []⟩,
      ⟨(some 34), .iadr 1 (.t 32) (.t 33), some (27, true), []⟩,
      ⟨(some 35), .load1 (.t 34), some (27, true), []⟩,
      ⟨(some 36), .cmp .leq (.t 31) (.t 35), some (27, true), []⟩,
      ⟨(some 37), .pick (.t 27) (.t 36) (.k (.bool false)), some (22, false), []⟩,
      ⟨(some 38), .pick (.t 22) (.k (.bool true)) (.t 37), none, []⟩])
    (.cond (.t 38) (.seq (.ops [⟨(some 39), .mv (.t 5), none, []⟩,
      ⟨(some 40), .mv (.t 0), none, []⟩,
      ⟨(some 41), .mv (.t 6), none, []⟩,
      ⟨(some 42), .iadr 1 (.t 40) (.t 41), none, []⟩,
      ⟨(some 43), .load1 (.t 42), none, []⟩,
      ⟨(some 44), .bsliceI 31 .u64 1 [⟨0, 1, (.t 43)⟩], none, []⟩,
      ⟨(some 45), .appI 31 .u64 8 (.t 39) (.t 44), none, []⟩,
      ⟨(some 5), .mv (.t 45), none, []⟩])
    (.ops [⟨(some 46), .mv (.t 6), none, []⟩,
      ⟨(some 47), .bin .add .i64 (.t 46) (.k (.lit .i64 1)), none, []⟩,
      ⟨(some 6), .mv (.t 47), none, []⟩])) (.seq (.ops [⟨(some 48), .mv (.t 5), none, []⟩,
      ⟨(some 49), .mv (.t 1), none, []⟩,
      ⟨(some 50), .mv (.t 7), none, []⟩,
      ⟨(some 51), .iadr 1 (.t 49) (.t 50), none, []⟩,
      ⟨(some 52), .load1 (.t 51), none, []⟩,
      ⟨(some 53), .bsliceI 31 .u64 1 [⟨0, 1, (.t 52)⟩], none, []⟩,
      ⟨(some 54), .appI 31 .u64 8 (.t 48) (.t 53), none, []⟩,
      ⟨(some 5), .mv (.t 54), none, []⟩])
    (.ops [⟨(some 55), .mv (.t 7), none, []⟩,
      ⟨(some 56), .bin .add .i64 (.t 55) (.k (.lit .i64 1)), none, []⟩,
      ⟨(some 7), .mv (.t 56), none, []⟩]))))))))
    (.seq (.ops [⟨(some 57), .mv (.t 5), none, []⟩,
      ⟨(some 4), .mv (.t 57), none, []⟩])
    (.ret)))))
theorem fn66 : FnOk Try.prog 66 x66 58 [4] := FnOk.of Try.call66 Try.func66 (by kernel_rfl) Try.ntmps66 (by kernel_rfl)
/-- baler/canon.right -/
def x78 : XC :=
  .seq (.ops [⟨(some 2), .mv (.k (.bool false)), none, []⟩])
    (.seq (.ops [⟨(some 3), .mv (.k (.lit .i64 0)), none, []⟩,
      ⟨(some 4), .mv (.k (.lit .i64 0)), none, []⟩])
    (.seq (.seq (.ops [⟨(some 7), .mv (.t 0), none, []⟩,
      ⟨(some 8), .len (.t 7), none, []⟩,
      ⟨(some 9), .mv (.k (.lit .i64 0)), none, []⟩])
    (.block 0 (.loop (.seq (.ops [⟨(some 10), .cmp .lss (.t 9) (.t 8), none, []⟩])
    (.seq (.cond (.t 10) (.skip) (.exit 0))
    (.seq (.block 1 (.seq (.ops [⟨(some 11), .iadr 1 (.t 7) (.t 9), none, []⟩,
      ⟨(some 12), .load1 (.t 11), none, []⟩,
      ⟨(some 6), .mv (.t 12), none, []⟩])
    (.seq (.seq (.ops [⟨(some 13), .mv (.t 6), none, []⟩,
      ⟨(some 14), .cmp .gtr (.t 13) (.k (.lit .u8 15)), none, []⟩])
    (.cond (.t 14) (.seq (.ops [⟨(some 2), .mv (.k (.bool false)), none, []⟩])
    (.ret)) (.skip)))
    (.seq (.ops [⟨(some 15), .mv (.t 6), none, []⟩,
      ⟨(some 16), .cmp .gtr (.t 15) (.k (.lit .u8 0)), none, []⟩])
    (.cond (.t 16) (.ops [⟨(some 17), .mv (.t 3), none, []⟩,
      ⟨(some 18), .bin .add .i64 (.t 17) (.k (.lit .i64 1)), none, []⟩,
      ⟨(some 19), .mv (.t 4), none, []⟩,
      ⟨(some 20), .mv (.t 6), none, []⟩,
      ⟨(some 21), .bin .sub .u8 (.k (.lit .u8 15)) (.t 20), none, []⟩,
      ⟨(some 22), .conv .u64 (.t 21), none, []⟩,
      ⟨(some 23), .bin .shl .i64 (.k (.lit .i64 1)) (.t 22), none, []⟩,
      ⟨(some 24), .bin .add .i64 (.t 19) (.t 23), none, []⟩,
      ⟨(some 3), .mv (.t 18), none, []⟩,
      ⟨(some 4), .mv (.t 24), none, []⟩]) (.skip))))))
    (.ops [⟨(some 25), .bin .add .i64 (.t 9) (.k (.lit .i64 1)), none, []⟩,
      ⟨(some 9), .mv (.t 25), none, []⟩])))))))
    (.seq (.ops [⟨(some 26), .mv (.t 0), none, []⟩,
      ⟨(some 27), .len (.t 26), none, []⟩,
      ⟨(some 28), .cmp .leq (.t 27) (.k (.lit .i64 1024)), none, []⟩,
      ⟨(some 29), .mv (.t 28), none, []⟩,
      ⟨(some 30), .mv (.t 3), some (29, true), []⟩,
      ⟨(some 31), .cmp .geq (.t 30) (.k (.lit .i64 2)), some (29, true), []⟩,
      ⟨(some 32), .pick (.t 29) (.t 31) (.k (.bool false)), none, []⟩,
      ⟨(some 33), .mv (.t 32), none, []⟩,
      ⟨(some 34), .mv (.t 4), some (33, true), []⟩,
      ⟨(some 35), .cmp .eql (.t 34) (.k (.lit .i64 32768)), some (33, true), []⟩,
      ⟨(some 36), .pick (.t 33) (.t 35) (.k (.bool false)), none, []⟩,
      ⟨(some 2), .mv (.t 36), none, []⟩])
    (.ret))))
theorem fn78 : FnOk Try.prog 78 x78 37 [2] := FnOk.of Try.call78 Try.func78 (by kernel_rfl) Try.ntmps78 (by kernel_rfl)
/-- baler/canon.words -/
def x79 : XC :=
  .seq (.ops [⟨(some 1), .box 23 none (.t 0), none, []⟩,
      ⟨(some 2), .mv (.k (.val .nilFunc)), none, []⟩])
    (.seq (.ops [⟨(some 3), .mkfn 118 [(.t 1)], none, []⟩,
      ⟨(some 2), .mv (.t 3), none, []⟩])
    (.ret))
theorem fn79 : FnOk Try.prog 79 x79 4 [2] := FnOk.of Try.call79 Try.func79 (by kernel_rfl) Try.ntmps79 (by kernel_rfl)
/-- baler/canon.Word -/
def x82 : XC :=
  .seq (.ops [⟨(some 4), .mv (.k (.lit .i64 0)), none, []⟩,
      ⟨(some 5), .mv (.k (.lit .i64 0)), none, []⟩])
    (.scope (.seq (.ops [⟨(some 6), .newI 171 .i64 16, none, []⟩])
    (.seq (.seq (.ops [⟨(some 17), .mv (.t 1), none, []⟩,
      ⟨(some 18), .len (.t 17), none, []⟩,
      ⟨(some 19), .mv (.k (.lit .i64 0)), none, []⟩])
    (.block 0 (.loop (.seq (.ops [⟨(some 20), .cmp .lss (.t 19) (.t 18), none, []⟩])
    (.seq (.cond (.t 20) (.skip) (.exit 0))
    (.seq (.block 1 (.seq (.ops [⟨(some 21), .iadr 1 (.t 17) (.t 19), none, []⟩,
      ⟨(some 22), .load1 (.t 21), none, []⟩,
      ⟨(some 8), .mv (.t 22), none, []⟩])
    (.ops [⟨(some 23), .mv (.t 8), none, []⟩,
      ⟨(some 24), .iadrA 16 1 (.t 6) (.t 23), none, []⟩,
      ⟨(some 25), .load1 (.t 24), none, []⟩,
      ⟨(some 26), .bin .add .i64 (.t 25) (.k (.lit .i64 1)), none, []⟩,
      ⟨(some 27), .iadrA 16 1 (.t 6) (.t 23), none, []⟩,
      ⟨none, .store1 (.t 27) (.t 26), none, []⟩])))
    (.ops [⟨(some 28), .bin .add .i64 (.t 19) (.k (.lit .i64 1)), none, []⟩,
      ⟨(some 19), .mv (.t 28), none, []⟩])))))))
    (.seq (.ops [⟨(some 9), .mv (.k (.lit .i64 0)), none, []⟩,
      ⟨(some 10), .mv (.k (.lit .i64 0)), none, []⟩])
    (.seq (.skip)
    (.seq (.seq (.ops [⟨(some 11), .mv (.k (.lit .i64 1)), none, []⟩])
    (.block 2 (.loop (.seq (.seq (.ops [⟨(some 29), .mv (.t 11), none, []⟩,
      ⟨(some 30), .cmp .leq (.t 29) (.k (.lit .i64 15)), none, []⟩])
    (.cond (.t 30) (.skip) (.exit 2)))
    (.seq (.block 3 (.seq (.ops [⟨(some 34), .mv (.t 0), none, []⟩,
      ⟨(some 35), .call (.k (.fn 77 [])) [(.t 34), (.k (.lit .i64 1))], none, []⟩,
      ⟨(some 33), .mv (.t 35), none, []⟩,
      ⟨(some 36), .extract (.t 33) 0, none, []⟩,
      ⟨(some 37), .extract (.t 33) 1, none, []⟩,
      ⟨(some 12), .mv (.t 36), none, []⟩,
      ⟨(some 13), .mv (.t 37), none, []⟩])
    (.seq (.seq (.ops [⟨(some 38), .mv (.t 13), none, []⟩,
      ⟨(some 39), .cmp .neq (.t 38) (.k (.lit .i64 0)), none, []⟩])
    (.cond (.t 39) (.seq (.ops [⟨(some 40), .mv (.t 13), none, []⟩,
      ⟨(some 4), .mv (.k (.lit .i64 0)), none, []⟩,
      ⟨(some 5), .mv (.t 40), none, []⟩])
    (.ret)) (.skip)))
    (.seq (.ops [⟨(some 41), .mv (.t 9), none, []⟩,
      ⟨(some 42), .bin .mul .i64 (.k (.lit .i64 2)) (.t 41), none, []⟩,
      ⟨(some 43), .mv (.t 12), none, []⟩,
      ⟨(some 44), .conv .i64 (.t 43), none, []⟩,
      ⟨(some 45), .bin .add .i64 (.t 42) (.t 44), none, []⟩,
      ⟨(some 46), .mv (.t 10), none, []⟩,
      ⟨(some 47), .bin .mul .i64 (.k (.lit .i64 2)) (.t 46), none, []⟩,
      ⟨(some 9), .mv (.t 45), none, []⟩,
      ⟨(some 10), .mv (.t 47), none, []⟩])
    (.seq (.seq (.ops [⟨(some 48), .mv (.t 9), none, []⟩,
      ⟨(some 49), .mv (.t 10), none, []⟩,
      ⟨(some 50), .bin .sub .i64 (.t 48) (.t 49), none, []⟩,
      ⟨(some 51), .mv (.t 11), none, []⟩,
      ⟨(some 52), .iadrA 16 1 (.t 6) (.t 51), none, []⟩,
      ⟨(some 53), .load1 (.t 52), none, []⟩,
      ⟨(some 54), .cmp .geq (.t 50) (.t 53), none, []⟩])
    (.cond (.t 54) (.seq (.ops [⟨(some 55), .mv (.t 10), none, []⟩,
      ⟨(some 56), .mv (.t 11), none, []⟩,
      ⟨(some 57), .iadrA 16 1 (.t 6) (.t 56), none, []⟩,
      ⟨(some 58), .load1 (.t 57), none, []⟩,
      ⟨(some 59), .bin .add .i64 (.t 55) (.t 58), none, []⟩,
      ⟨(some 10), .mv (.t 59), none, []⟩])
    (.exit 3)) (.skip)))
    (.seq (.ops [⟨(some 60), .mv (.t 9), none, []⟩,
      ⟨(some 61), .mv (.t 10), none, []⟩,
      ⟨(some 62), .bin .sub .i64 (.t 60) (.t 61), none, []⟩,
      ⟨(some 14), .mv (.t 62), none, []⟩])
    (.seq (.ops [⟨(some 63), .mv (.t 1), none, []⟩,
      ⟨(some 64), .len (.t 63), none, []⟩,
      ⟨(some 65), .mv (.k (.lit .i64 0)), none, []⟩])
    (.block 4 (.loop (.seq (.ops [⟨(some 66), .cmp .lss (.t 65) (.t 64), none, []⟩])
    (.seq (.cond (.t 66) (.skip) (.exit 4))
    (.seq (.block 5 (.seq (.ops [⟨(some 67), .mv (.t 65), none, []⟩,
      ⟨(some 68), .iadr 1 (.t 63) (.t 65), none, []⟩,
      ⟨(some 69), .load1 (.t 68), none, []⟩,
      ⟨(some 15), .mv (.t 67), none, []⟩,
      ⟨(some 16), .mv (.t 69), none, []⟩])
    (.seq (.seq (.ops [⟨(some 70), .mv (.t 16), none, []⟩,
      ⟨(some 71), .conv .i64 (.t 70), none, []⟩,
      ⟨(some 72), .mv (.t 11), none, []⟩,
      ⟨(some 73), .cmp .neq (.t 71) (.t 72), none, []⟩])
    (.cond (.t 73) (.exit 5) (.skip)))
    (.seq (.seq (.ops [⟨(some 74), .mv (.t 14), none, []⟩,
      ⟨(some 75), .cmp .eql (.t 74) (.k (.lit .i64 0)), none, []⟩])
    (.cond (.t 75) (.seq (.ops [⟨(some 76), .mv (.t 15), none, []⟩,
      ⟨(some 4), .mv (.t 76), none, []⟩,
      ⟨(some 5), .mv (.k (.lit .i64 0)), none, []⟩])
    (.ret)) (.skip)))
    (.ops [⟨(some 77), .mv (.t 14), none, []⟩,
      ⟨(some 78), .bin .sub .i64 (.t 77) (.k (.lit .i64 1)), none, []⟩,
      ⟨(some 14), .mv (.t 78), none, []⟩])))))
    (.ops [⟨(some 79), .bin .add .i64 (.t 65) (.k (.lit .i64 1)), none, []⟩,
      ⟨(some 65), .mv (.t 79), none, []⟩])))))))))))))
    (.ops [⟨(some 31), .mv (.t 11), none, []⟩,
      ⟨(some 32), .bin .add .i64 (.t 31) (.k (.lit .i64 1)), none, []⟩,
      ⟨(some 11), .mv (.t 32), none, []⟩]))))))
    (.seq (.ops [⟨(some 4), .mv (.k (.lit .i64 0)), none, []⟩,
      ⟨(some 5), .mv (.k (.lit .i64 11)), none, []⟩])
    (.ret))))))))
theorem fn82 : FnOk Try.prog 82 x82 80 [4, 5] := FnOk.of Try.call82 Try.func82 (by kernel_rfl) Try.ntmps82 (by kernel_rfl)
/-- baler/balerref05.ReadWord -/
def x96 : XC :=
  .seq (.ops [⟨(some 6), .mv (.k (.lit .i64 0)), none, []⟩,
      ⟨(some 7), .mv (.k (.lit .i64 0)), none, []⟩])
    (.seq (.ops [⟨(some 8), .mv (.k (.lit .i64 0)), none, []⟩])
    (.seq (.seq (.ops [⟨(some 9), .mv (.k (.lit .i64 1)), none, []⟩])
    (.block 0 (.loop (.seq (.seq (.ops [⟨(some 13), .mv (.t 9), none, []⟩,
      ⟨(some 14), .cmp .leq (.t 13) (.k (.lit .i64 15)), none, []⟩])
    (.cond (.t 14) (.skip) (.exit 0)))
    (.seq (.block 1 (.seq (.ops [⟨(some 18), .mv (.t 0), none, []⟩,
      ⟨(some 19), .call (.k (.fn 92 [])) [(.t 18), (.k (.lit .i64 1))], none, []⟩,
      ⟨(some 17), .mv (.t 19), none, []⟩,
      ⟨(some 20), .extract (.t 17) 0, none, []⟩,
      ⟨(some 21), .extract (.t 17) 1, none, []⟩,
      ⟨(some 10), .mv (.t 20), none, []⟩,
      ⟨(some 11), .mv (.t 21), none, []⟩])
    (.seq (.seq (.ops [⟨(some 22), .mv (.t 11), none, []⟩,
      ⟨(some 23), .cmp .neq (.t 22) (.k (.lit .i64 0)), none, []⟩])
    (.cond (.t 23) (.seq (.ops [⟨(some 24), .mv (.t 11), none, []⟩,
      ⟨(some 6), .mv (.k (.lit .i64 0)), none, []⟩,
      ⟨(some 7), .mv (.t 24), none, []⟩])
    (.ret)) (.skip)))
    (.seq (.ops [⟨(some 25), .mv (.t 8), none, []⟩,
      ⟨(some 26), .bin .mul .i64 (.k (.lit .i64 2)) (.t 25), none, []⟩,
      ⟨(some 27), .mv (.t 10), none, []⟩,
      ⟨(some 28), .conv .i64 (.t 27), none, []⟩,
      ⟨(some 29), .bin .add .i64 (.t 26) (.t 28), none, []⟩,
      ⟨(some 8), .mv (.t 29), none, []⟩])
    (.seq (.ops [⟨(some 12), .mv (.k (.lit .i64 0)), none, []⟩])
    (.block 2 (.loop (.seq (.seq (.ops [⟨(some 30), .mv (.t 12), none, []⟩,
      ⟨(some 31), .mv (.t 1), none, []⟩,
      ⟨(some 32), .len (.t 31), none, []⟩,
      ⟨(some 33), .cmp .lss (.t 30) (.t 32), none, []⟩])
    (.cond (.t 33) (.skip) (.exit 2)))
    (.seq (.block 3 (.seq (.ops [⟨(some 36), .mv (.t 1), none, []⟩,
      ⟨(some 37), .mv (.t 12), none, []⟩,
      ⟨(some 38), .iadr 1 (.t 36) (.t 37), none, []⟩,
      ⟨(some 39), .load1 (.t 38), none, []⟩,
      ⟨(some 40), .conv .i64 (.t 39), none, []⟩,
      ⟨(some 41), .mv (.t 9), none, []⟩,
      ⟨(some 42), .cmp .eql (.t 40) (.t 41), none, []⟩,
      ⟨(some 43), .mv (.t 42), none, []⟩,
      ⟨(some 44), .mv (.t 2), some (43, true), []⟩,
      ⟨(some 45), .mv (.t 12), some (43, true), []⟩,
      ⟨(some 46), .iadr 1 (.t 44) (.t 45), some (43, true), []⟩,
      ⟨(some 47), .load1 (.t 46), some (43, true), []⟩,
      ⟨(some 48), .conv .i64 (.t 47), some (43, true), []⟩,
      ⟨(some 49), .mv (.t 8), some (43, true), []⟩,
      ⟨(some 50), .cmp .eql (.t 48) (.t 49), some (43, true), []⟩,
      ⟨(some 51), .pick (.t 43) (.t 50) (.k (.bool false)), none, []⟩])
    (.cond (.t 51) (.seq (.ops [⟨(some 52), .mv (.t 12), none, []⟩,
      ⟨(some 6), .mv (.t 52), none, []⟩,
      ⟨(some 7), .mv (.k (.lit .i64 0)), none, []⟩])
    (.ret)) (.skip))))
    (.ops [⟨(some 34), .mv (.t 12), none, []⟩,
      ⟨(some 35), .bin .add .i64 (.t 34) (.k (.lit .i64 1)), none, []⟩,
      ⟨(some 12), .mv (.t 35), none, []⟩]))))))))))
    (.ops [⟨(some 15), .mv (.t 9), none, []⟩,
      ⟨(some 16), .bin .add .i64 (.t 15) (.k (.lit .i64 1)), none, []⟩,
      ⟨(some 9), .mv (.t 16), none, []⟩]))))))
    (.seq (.ops [⟨(some 6), .mv (.k (.lit .i64 0)), none, []⟩,
      ⟨(some 7), .mv (.k (.lit .i64 11)), none, []⟩])
    (.ret))))
theorem fn96 : FnOk Try.prog 96 x96 53 [6, 7] := FnOk.of Try.call96 Try.func96 (by kernel_rfl) Try.ntmps96 (by kernel_rfl)
/-- baler/balerref05.words -/
def x97 : XC :=
  .seq (.ops [⟨(some 2), .mv (.k (.val (.slice none 0 0))), none, []⟩])
    (.seq (.ops [⟨(some 7), .mv (.t 0), none, []⟩,
      ⟨(some 8), .len (.t 7), none, []⟩,
      ⟨(some 9), .mkslI 48 .u16 2 (.t 8) (.t 8), none, []⟩,
      ⟨(some 3), .mv (.t 9), none, []⟩])
    (.seq (.ops [⟨(some 4), .mv (.k (.lit .i64 0)), none, []⟩])
    (.seq (.seq (.ops [⟨(some 5), .mv (.k (.lit .i64 1)), none, []⟩])
    (.block 0 (.loop (.seq (.seq (.ops [⟨(some 10), .mv (.t 5), none, []⟩,
      ⟨(some 11), .cmp .leq (.t 10) (.k (.lit .i64 15)), none, []⟩])
    (.cond (.t 11) (.skip) (.exit 0)))
    (.seq (.block 1 (.seq (.ops [⟨(some 14), .mv (.t 4), none, []⟩,
      ⟨(some 15), .bin .mul .i64 (.t 14) (.k (.lit .i64 2)), none, []⟩,
      ⟨(some 4), .mv (.t 15), none, []⟩])
    (.seq (.ops [⟨(some 6), .mv (.k (.lit .i64 0)), none, []⟩])
    (.block 2 (.loop (.seq (.seq (.ops [⟨(some 16), .mv (.t 6), none, []⟩,
      ⟨(some 17), .mv (.t 0), none, []⟩,
      ⟨(some 18), .len (.t 17), none, []⟩,
      ⟨(some 19), .cmp .lss (.t 16) (.t 18), none, []⟩])
    (.cond (.t 19) (.skip) (.exit 2)))
    (.seq (.block 3 (.seq (.ops [⟨(some 22), .mv (.t 0), none, []⟩,
      ⟨(some 23), .mv (.t 6), none, []⟩,
      ⟨(some 24), .iadr 1 (.t 22) (.t 23), none, []⟩,
      ⟨(some 25), .load1 (.t 24), none, []⟩,
      ⟨(some 26), .conv .i64 (.t 25), none, []⟩,
      ⟨(some 27), .mv (.t 5), none, []⟩,
      ⟨(some 28), .cmp .eql (.t 26) (.t 27), none, []⟩])
    (.cond (.t 28) (.seq (.ops [⟨(some 29), .mv (.t 3), none, []⟩,
      ⟨(some 30), .mv (.t 6), none, []⟩,
      ⟨(some 31), .mv (.t 4), none, []⟩,
      ⟨(some 32), .conv .u16 (.t 31), none, []⟩,
      ⟨(some 33), .iadr 1 (.t 29) (.t 30), none, []⟩,
      ⟨none, .store1 (.t 33) (.t 32), none, []⟩])
    (.ops [⟨(some 34), .mv (.t 4), none, []⟩,
      ⟨(some 35), .bin .add .i64 (.t 34) (.k (.lit .i64 1)), none, []⟩,
      ⟨(some 4), .mv (.t 35), none, []⟩])) (.skip))))
    (.ops [⟨(some 20), .mv (.t 6), none, []⟩,
      ⟨(some 21), .bin .add .i64 (.t 20) (.k (.lit .i64 1)), none, []⟩,
      ⟨(some 6), .mv (.t 21), none, []⟩]))))))))
    (.ops [⟨(some 12), .mv (.t 5), none, []⟩,
      ⟨(some 13), .bin .add .i64 (.t 12) (.k (.lit .i64 1)), none, []⟩,
      ⟨(some 5), .mv (.t 13), none, []⟩]))))))
    (.seq (.ops [⟨(some 36), .mv (.t 3), none, []⟩,
      ⟨(some 2), .mv (.t 36), none, []⟩])
    (.ret)))))
theorem fn97 : FnOk Try.prog 97 x97 37 [2] := FnOk.of Try.call97 Try.func97 (by kernel_rfl) Try.ntmps97 (by kernel_rfl)
/-- slices.SortStableFunc[[]baler/canon.coin,baler/canon.coin] -/
def x110 : XC :=
  .ops [⟨(some 4), .mv (.t 0), none, []⟩,
      ⟨(some 5), .mv (.t 0), none, []⟩,
      ⟨(some 6), .len (.t 5), none, []⟩,
      ⟨(some 7), .mv (.t 1), none, []⟩,
      ⟨(some 8), .call (.k (.fn 137 [])) [(.t 4), (.t 6), (.t 7)], none, []⟩]
theorem fn110 : FnOk Try.prog 110 x110 9 [] := FnOk.of Try.call110 Try.func110 (by kernel_rfl) Try.ntmps110 (by kernel_rfl)
/-- baler/canon.rising[baler/canon.coin]$1 -/
def x111 : XC :=
  .seq (.ops [⟨(some 3), .box 109 none (.t 0), none, []⟩,
      ⟨(some 4), .box 109 none (.t 1), none, []⟩,
      ⟨(some 5), .mv (.k (.lit .i64 0)), none, []⟩])
    (.seq (.ops [⟨(some 6), .load1 (.t 2), none, []⟩,
      ⟨(some 7), .loadA 2 (.t 3), none, []⟩,
      ⟨(some 9), .load1 (.t 2), none, []⟩,
      ⟨(some 10), .loadA 2 (.t 4), none, []⟩,
      ⟨(some 8), .call (.t 6) [(.t 7)], none, [(.loadA 2 (.t 4), 10, none), (.load1 (.t 2), 9, none)]⟩,
      ⟨(some 11), .call (.t 9) [(.t 10)], none, []⟩,
      ⟨(some 12), .call (.k (.fn 112 [])) [(.t 8), (.t 11)], none, []⟩,
      ⟨(some 5), .mv (.t 12), none, []⟩])
    (.ret))
theorem fn111 : FnOk Try.prog 111 x111 13 [5] := FnOk.of Try.call111 Try.func111 (by kernel_rfl) Try.ntmps111 (by kernel_rfl)
/-- cmp.Compare[uint64] -/
def x112 : XC :=
  .seq (.ops [⟨(some 4), .mv (.k (.lit .i64 0)), none, []⟩])
    (.seq (.ops [⟨(some 7), .mv (.t 0), none, []⟩,
      ⟨(some 8), .call (.k (.fn 138 [])) [(.t 7)], none, []⟩,
      ⟨(some 5), .mv (.t 8), none, []⟩])
    (.seq (.ops [⟨(some 9), .mv (.t 1), none, []⟩,
      ⟨(some 10), .call (.k (.fn 138 [])) [(.t 9)], none, []⟩,
      ⟨(some 6), .mv (.t 10), none, []⟩])
    (.seq (.seq (.ops [⟨(some 11), .mv (.t 5), none, []⟩])
    (.cond (.t 11) (.seq (.seq (.ops [⟨(some 12), .mv (.t 6), none, []⟩])
    (.cond (.t 12) (.seq (.ops [⟨(some 4), .mv (.k (.lit .i64 0)), none, []⟩])
    (.ret)) (.skip)))
    (.seq (.ops [⟨(some 4), .mv (.k (.lit .i64 (-1))), none, []⟩])
    (.ret))) (.skip)))
    (.seq (.seq (.ops [⟨(some 13), .mv (.t 6), none, []⟩])
    (.cond (.t 13) (.seq (.ops [⟨(some 4), .mv (.k (.lit .i64 1)), none, []⟩])
    (.ret)) (.skip)))
    (.seq (.seq (.ops [⟨(some 14), .mv (.t 0), none, []⟩,
      ⟨(some 15), .mv (.t 1), none, []⟩,
      ⟨(some 16), .cmp .lss (.t 14) (.t 15), none, []⟩])
    (.cond (.t 16) (.seq (.ops [⟨(some 4), .mv (.k (.lit .i64 (-1))), none, []⟩])
    (.ret)) (.skip)))
    (.seq (.seq (.ops [⟨(some 17), .mv (.t 0), none, []⟩,
      ⟨(some 18), .mv (.t 1), none, []⟩,
      ⟨(some 19), .cmp .gtr (.t 17) (.t 18), none, []⟩])
    (.cond (.t 19) (.seq (.ops [⟨(some 4), .mv (.k (.lit .i64 1)), none, []⟩])
    (.ret)) (.skip)))
    (.seq (.ops [⟨(some 4), .mv (.k (.lit .i64 0)), none, []⟩])
    (.ret))))))))
theorem fn112 : FnOk Try.prog 112 x112 20 [4] := FnOk.of Try.call112 Try.func112 (by kernel_rfl) Try.ntmps112 (by kernel_rfl)
/-- baler/canon.words$1 -/
def x118 : XC :=
  .seq (.ops [⟨(some 3), .mv (.k (.lit .i64 0)), none, []⟩])
    (.seq (.ops [⟨(some 4), .mv (.k (.lit .i64 1)), none, []⟩])
    (.block 0 (.loop (.seq (.seq (.ops [⟨(some 7), .mv (.t 4), none, []⟩,
      ⟨(some 8), .cmp .leq (.t 7) (.k (.lit .i64 15)), none, []⟩])
    (.cond (.t 8) (.skip) (.exit 0)))
    (.seq (.block 1 (.seq (.ops [⟨(some 11), .mv (.t 3), none, []⟩,
      ⟨(some 12), .bin .mul .i64 (.t 11) (.k (.lit .i64 2)), none, []⟩,
      ⟨(some 3), .mv (.t 12), none, []⟩])
    (.seq (.ops [⟨(some 13), .load1 (.t 1), none, []⟩,
      ⟨(some 14), .len (.t 13), none, []⟩,
      ⟨(some 15), .mv (.k (.lit .i64 0)), none, []⟩])
    (.block 2 (.loop (.seq (.ops [⟨(some 16), .cmp .lss (.t 15) (.t 14), none, []⟩])
    (.seq (.cond (.t 16) (.skip) (.exit 2))
    (.seq (.block 3 (.seq (.ops [⟨(some 17), .mv (.t 15), none, []⟩,
      ⟨(some 18), .iadr 1 (.t 13) (.t 15), none, []⟩,
      ⟨(some 19), .load1 (.t 18), none, []⟩,
      ⟨(some 5), .mv (.t 17), none, []⟩,
      ⟨(some 6), .mv (.t 19), none, []⟩])
    (.seq (.seq (.ops [⟨(some 20), .mv (.t 6), none, []⟩,
      ⟨(some 21), .conv .i64 (.t 20), none, []⟩,
      ⟨(some 22), .mv (.t 4), none, []⟩,
      ⟨(some 23), .cmp .neq (.t 21) (.t 22), none, []⟩])
    (.cond (.t 23) (.exit 3) (.skip)))
    (.seq (.seq (.ops [⟨(some 24), .mv (.t 0), none, []⟩,
      ⟨(some 25), .mv (.t 5), none, []⟩,
      ⟨(some 26), .mv (.t 3), none, []⟩,
      ⟨(some 27), .conv .u16 (.t 26), none, []⟩,
      ⟨(some 28), .call (.t 24) [(.t 25), (.t 27)], none, []⟩,
      ⟨(some 29), .not (.t 28), none, []⟩])
    (.cond (.t 29) (.ret) (.skip)))
    (.ops [⟨(some 30), .mv (.t 3), none, []⟩,
      ⟨(some 31), .bin .add .i64 (.t 30) (.k (.lit .i64 1)), none, []⟩,
      ⟨(some 3), .mv (.t 31), none, []⟩])))))
    (.ops [⟨(some 32), .bin .add .i64 (.t 15) (.k (.lit .i64 1)), none, []⟩,
      ⟨(some 15), .mv (.t 32), none, []⟩])))))))))
    (.ops [⟨(some 9), .mv (.t 4), none, []⟩,
      ⟨(some 10), .bin .add .i64 (.t 9) (.k (.lit .i64 1)), none, []⟩,
      ⟨(some 4), .mv (.t 10), none, []⟩]))))))
theorem fn118 : FnOk Try.prog 118 x118 33 [] := FnOk.of Try.call118 Try.func118 (by kernel_rfl) Try.ntmps118 (by kernel_rfl)
/-- slices.stableCmpFunc[baler/canon.coin] -/
def x137 : XC :=
  .seq (.ops [⟨(some 6), .mv (.k (.lit .i64 20)), none, []⟩])
    (.seq (.ops [⟨(some 10), .mv (.t 6), none, []⟩,
      ⟨(some 7), .mv (.k (.lit .i64 0)), none, []⟩,
      ⟨(some 8), .mv (.t 10), none, []⟩])
    (.seq (.block 0 (.loop (.seq (.seq (.ops [⟨(some 11), .mv (.t 8), none, []⟩,
      ⟨(some 12), .mv (.t 1), none, []⟩,
      ⟨(some 13), .cmp .leq (.t 11) (.t 12), none, []⟩])
    (.cond (.t 13) (.skip) (.exit 0)))
    (.block 1 (.seq (.ops [⟨(some 14), .mv (.t 0), none, []⟩,
      ⟨(some 15), .mv (.t 7), none, []⟩,
      ⟨(some 16), .mv (.t 8), none, []⟩,
      ⟨(some 17), .mv (.t 2), none, []⟩,
      ⟨(some 18), .call (.k (.fn 143 [])) [(.t 14), (.t 15), (.t 16), (.t 17)], none, []⟩])
    (.seq (.ops [⟨(some 19), .mv (.t 8), none, []⟩,
      ⟨(some 7), .mv (.t 19), none, []⟩])
    (.ops [⟨(some 20), .mv (.t 8), none, []⟩,
      ⟨(some 21), .mv (.t 6), none, []⟩,
      ⟨(some 22), .bin .add .i64 (.t 20) (.t 21), none, []⟩,
      ⟨(some 8), .mv (.t 22), none, []⟩])))))))
    (.seq (.ops [⟨(some 23), .mv (.t 0), none, []⟩,
      ⟨(some 24), .mv (.t 7), none, []⟩,
      ⟨(some 25), .mv (.t 1), none, []⟩,
      ⟨(some 26), .mv (.t 2), none, []⟩,
      ⟨(some 27), .call (.k (.fn 143 [])) [(.t 23), (.t 24), (.t 25), (.t 26)], none, []⟩])
    (.block 2 (.loop (.seq (.seq (.ops [⟨(some 28), .mv (.t 6), none, []⟩,
      ⟨(some 29), .mv (.t 1), none, []⟩,
      ⟨(some 30), .cmp .lss (.t 28) (.t 29), none, []⟩])
    (.cond (.t 30) (.skip) (.exit 2)))
    (.block 3 (.seq (.ops [⟨(some 31), .mv (.t 6), none, []⟩,
      ⟨(some 32), .bin .mul .i64 (.k (.lit .i64 2)) (.t 31), none, []⟩,
      ⟨(some 7), .mv (.k (.lit .i64 0)), none, []⟩,
      ⟨(some 8), .mv (.t 32), none, []⟩])
    (.seq (.block 4 (.loop (.seq (.seq (.ops [⟨(some 33), .mv (.t 8), none, []⟩,
      ⟨(some 34), .mv (.t 1), none, []⟩,
      ⟨(some 35), .cmp .leq (.t 33) (.t 34), none, []⟩])
    (.cond (.t 35) (.skip) (.exit 4)))
    (.block 5 (.seq (.ops [⟨(some 36), .mv (.t 0), none, []⟩,
      ⟨(some 37), .mv (.t 7), none, []⟩,
      ⟨(some 38), .mv (.t 7), none, []⟩,
      ⟨(some 39), .mv (.t 6), none, []⟩,
      ⟨(some 40), .bin .add .i64 (.t 38) (.t 39), none, []⟩,
      ⟨(some 41), .mv (.t 8), none, []⟩,
      ⟨(some 42), .mv (.t 2), none, []⟩,
      ⟨(some 43), .call (.k (.fn 144 [])) [(.t 36), (.t 37), (.t 40), (.t 41), (.t 42)], none, []⟩])
    (.seq (.ops [⟨(some 44), .mv (.t 8), none, []⟩,
      ⟨(some 7), .mv (.t 44), none, []⟩])
    (.ops [⟨(some 45), .mv (.t 8), none, []⟩,
      ⟨(some 46), .mv (.t 6), none, []⟩,
      ⟨(some 47), .bin .mul .i64 (.k (.lit .i64 2)) (.t 46), none, []⟩,
      ⟨(some 48), .bin .add .i64 (.t 45) (.t 47), none, []⟩,
      ⟨(some 8), .mv (.t 48), none, []⟩])))))))
    (.seq (.seq (.ops [⟨(some 49), .mv (.t 7), none, []⟩,
      ⟨(some 50), .mv (.t 6), none, []⟩,
      ⟨(some 51), .bin .add .i64 (.t 49) (.t 50), none, []⟩,
      ⟨(some 9), .mv (.t 51), none, []⟩])
    (.seq (.ops [⟨(some 52), .mv (.t 9), none, []⟩,
      ⟨(some 53), .mv (.t 1), none, []⟩,
      ⟨(some 54), .cmp .lss (.t 52) (.t 53), none, []⟩])
    (.cond (.t 54) (.ops [⟨(some 55), .mv (.t 0), none, []⟩,
      ⟨(some 56), .mv (.t 7), none, []⟩,
      ⟨(some 57), .mv (.t 9), none, []⟩,
      ⟨(some 58), .mv (.t 1), none, []⟩,
      ⟨(some 59), .mv (.t 2), none, []⟩,
      ⟨(some 60), .call (.k (.fn 144 [])) [(.t 55), (.t 56), (.t 57), (.t 58), (.t 59)], none, []⟩]) (.skip))))
    (.ops [⟨(some 61), .mv (.t 6), none, []⟩,
      ⟨(some 62), .bin .mul .i64 (.t 61) (.k (.lit .i64 2)), none, []⟩,
      ⟨(some 6), .mv (.t 62), none, []⟩])))))))))))
theorem fn137 : FnOk Try.prog 137 x137 63 [] := FnOk.of Try.call137 Try.func137 (by kernel_rfl) Try.ntmps137 (by kernel_rfl)
/-- cmp.isNaN[uint64] -/
def x138 : XC :=
  .seq (.ops [⟨(some 2), .mv (.k (.bool false)), none, []⟩])
    (.seq (.ops [⟨(some 3), .mv (.t 0), none, []⟩,
      ⟨(some 4), .mv (.t 0), none, []⟩,
      ⟨(some 5), .cmp .neq (.t 3) (.t 4), none, []⟩,
      ⟨(some 2), .mv (.t 5), none, []⟩])
    (.ret))
theorem fn138 : FnOk Try.prog 138 x138 6 [2] := FnOk.of Try.call138 Try.func138 (by kernel_rfl) Try.ntmps138 (by kernel_rfl)
/-- slices.insertionSortCmpFunc[baler/canon.coin] -/
def x143 : XC :=
  .seq (.ops [⟨(some 10), .mv (.t 1), none, []⟩,
      ⟨(some 11), .bin .add .i64 (.t 10) (.k (.lit .i64 1)), none, []⟩,
      ⟨(some 8), .mv (.t 11), none, []⟩])
    (.block 0 (.loop (.seq (.seq (.ops [⟨(some 12), .mv (.t 8), none, []⟩,
      ⟨(some 13), .mv (.t 2), none, []⟩,
      ⟨(some 14), .cmp .lss (.t 12) (.t 13), none, []⟩])
    (.cond (.t 14) (.skip) (.exit 0)))
    (.seq (.block 1 (.seq (.ops [⟨(some 17), .mv (.t 8), none, []⟩,
      ⟨(some 9), .mv (.t 17), none, []⟩])
    (.block 2 (.loop (.seq (.seq (.ops [⟨(some 18), .mv (.t 9), none, []⟩,
      ⟨(some 19), .mv (.t 1), none, []⟩,
      ⟨(some 20), .cmp .gtr (.t 18) (.t 19), none, []⟩,
      ⟨(some 21), .mv (.t 20), none, []⟩,
      ⟨(some 22), .mv (.t 3), some (21, true), []⟩,
      ⟨(some 23), .mv (.t 0), some (21, true), []⟩,
      ⟨(some 24), .mv (.t 9), some (21, true), []⟩,
      ⟨(some 25), .iadr 2 (.t 23) (.t 24), some (21, true), []⟩,
      ⟨(some 26), .loadA 2 (.t 25), some (21, true), []⟩,
      ⟨(some 27), .mv (.t 0), some (21, true), []⟩,
      ⟨(some 28), .mv (.t 9), some (21, true), []⟩,
      ⟨(some 29), .bin .sub .i64 (.t 28) (.k (.lit .i64 1)), some (21, true), []⟩,
      ⟨(some 30), .iadr 2 (.t 27) (.t 29), some (21, true), []⟩,
      ⟨(some 31), .loadA 2 (.t 30), some (21, true), []⟩,
      ⟨(some 32), .call (.t 22) [(.t 26), (.t 31)], some (21, true), []⟩,
      ⟨(some 33), .cmp .lss (.t 32) (.k (.lit .i64 0)), some (21, true), []⟩,
      ⟨(some 34), .pick (.t 21) (.t 33) (.k (.bool false)), none, []⟩])
    (.cond (.t 34) (.skip) (.exit 2)))
    (.seq (.block 3 (.ops [⟨(some 37), .mv (.t 0), none, []⟩,
      ⟨(some 38), .mv (.t 9), none, []⟩,
      ⟨(some 39), .mv (.t 0), none, []⟩,
      ⟨(some 40), .mv (.t 9), none, []⟩,
      ⟨(some 41), .bin .sub .i64 (.t 40) (.k (.lit .i64 1)), none, []⟩,
      ⟨(some 42), .mv (.t 0), none, []⟩,
      ⟨(some 43), .mv (.t 9), none, []⟩,
      ⟨(some 44), .bin .sub .i64 (.t 43) (.k (.lit .i64 1)), none, []⟩,
      ⟨(some 45), .iadr 2 (.t 42) (.t 44), none, []⟩,
      ⟨(some 46), .loadA 2 (.t 45), none, []⟩,
      ⟨(some 47), .mv (.t 0), none, []⟩,
      ⟨(some 48), .mv (.t 9), none, []⟩,
      ⟨(some 49), .iadr 2 (.t 47) (.t 48), none, []⟩,
      ⟨(some 50), .loadA 2 (.t 49), none, []⟩,
      ⟨(some 51), .iadr 2 (.t 37) (.t 38), none, []⟩,
      ⟨none, .storeA 2 (.t 51) (.t 46), none, []⟩,
      ⟨(some 52), .iadr 2 (.t 39) (.t 41), none, []⟩,
      ⟨none, .storeA 2 (.t 52) (.t 50), none, []⟩]))
    (.ops [⟨(some 35), .mv (.t 9), none, []⟩,
      ⟨(some 36), .bin .sub .i64 (.t 35) (.k (.lit .i64 1)), none, []⟩,
      ⟨(some 9), .mv (.t 36), none, []⟩])))))))
    (.ops [⟨(some 15), .mv (.t 8), none, []⟩,
      ⟨(some 16), .bin .add .i64 (.t 15) (.k (.lit .i64 1)), none, []⟩,
      ⟨(some 8), .mv (.t 16), none, []⟩])))))
theorem fn143 : FnOk Try.prog 143 x143 53 [] := FnOk.of Try.call143 Try.func143 (by kernel_rfl) Try.ntmps143 (by kernel_rfl)
end Go.Proofs.Ytodobmkflimfkaa
