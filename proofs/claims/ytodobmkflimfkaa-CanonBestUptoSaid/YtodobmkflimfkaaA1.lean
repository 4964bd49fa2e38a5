import Derived.Test.YtodobmkflimfkaaEB
import Derived.Test.YtodobmkflimfkaaRows
import Derived.Test.YtodobmkflimfkaaEC
import Derived.Test.YtodobmkflimfkaaEX
import Derived.Test.YtodobmkflimfkaaED
set_option linter.unusedVariables false
set_option linter.unusedSimpArgs false
/-
  The compact codes of this seat's functions (printed by wip/dev/Pr.lean.tpl), checked.
-/
namespace Go.Proofs.Ytodobmkflimfkaa
open Go Go.Sx Go.Proofs
/-- baler/balerlaw05.CanonBest -/
def x3 : XC :=
  .seq (.ops [⟨(some 4), .mv (.k (.bool false)), none, []⟩])
    (.seq (.ops [⟨(some 9), .mv (.t 0), none, []⟩,
      ⟨(some 10), .mv (.t 1), none, []⟩,
      ⟨(some 11), .call (.k (.fn 15 [])) [(.t 9), (.t 10)], none, []⟩,
      ⟨(some 8), .mv (.t 11), none, []⟩,
      ⟨(some 12), .extract (.t 8) 0, none, []⟩,
      ⟨(some 13), .extract (.t 8) 1, none, []⟩,
      ⟨(some 5), .mv (.t 12), none, []⟩,
      ⟨(some 6), .mv (.t 13), none, []⟩])
    (.seq (.seq (.ops [⟨(some 14), .mv (.t 0), none, []⟩,
      ⟨(some 15), .mv (.t 1), none, []⟩,
      ⟨(some 16), .call (.k (.fn 16 [])) [(.t 14), (.t 15)], none, []⟩,
      ⟨(some 17), .not (.t 16), none, []⟩])
    (.cond (.t 17) (.seq (.ops [⟨(some 18), .mv (.t 6), none, []⟩,
      ⟨(some 19), .cmp .eql (.t 18) (.k (.lit .i64 2)), none, []⟩,
      ⟨(some 20), .mv (.t 19), none, []⟩,
      ⟨(some 21), .mv (.t 5), some (20, true), []⟩,
      ⟨(some 22), .len (.t 21), some (20, true), []⟩,
      ⟨(some 23), .cmp .eql (.t 22) (.k (.lit .i64 0)), some (20, true), []⟩,
      ⟨(some 24), .pick (.t 20) (.t 23) (.k (.bool false)), none, []⟩,
      ⟨(some 25), .mv (.t 24), none, []⟩,
      ⟨(some 26), .call (.k (.fn 17 [])) [], some (25, true), []⟩,
      ⟨(some 27), .pick (.t 25) (.t 26) (.k (.bool false)), none, []⟩,
      ⟨(some 4), .mv (.t 27), none, []⟩])
    (.ret)) (.skip)))
    (.seq (.seq (.ops [⟨(some 28), .mv (.t 6), none, []⟩,
      ⟨(some 29), .cmp .neq (.t 28) (.k (.lit .i64 0)), none, []⟩,
      ⟨(some 30), .mv (.t 29), none, []⟩,
      ⟨(some 31), .mv (.t 5), some (30, false), []⟩,
      ⟨(some 32), .len (.t 31), some (30, false), []⟩,
      ⟨(some 33), .mv (.t 0), some (30, false), []⟩,
      ⟨(some 34), .len (.t 33), some (30, false), []⟩,
      ⟨(some 35), .cmp .neq (.t 32) (.t 34), some (30, false), []⟩,
      ⟨(some 36), .pick (.t 30) (.k (.bool true)) (.t 35), none, []⟩,
      ⟨(some 37), .mv (.t 36), none, []⟩,
      ⟨(some 38), .mv (.t 5), some (37, false), []⟩,
      ⟨(some 39), .call (.k (.fn 18 [])) [(.t 38)], some (37, false), []⟩,
      ⟨(some 40), .not (.t 39), some (37, false), []⟩,
      ⟨(some 41), .pick (.t 37) (.k (.bool true)) (.t 40), none, []⟩])
    (.cond (.t 41) (.seq (.ops [⟨(some 4), .mv (.k (.bool false)), none, []⟩])
    (.ret)) (.skip)))
    (.seq (.seq (.ops [⟨(some 42), .mv (.t 5), none, []⟩,
      ⟨(some 43), .len (.t 42), none, []⟩,
      ⟨(some 44), .mv (.k (.lit .i64 0)), none, []⟩])
    (.block 0 (.loop (.seq (.ops [⟨(some 45), .cmp .lss (.t 44) (.t 43), none, []⟩])
    (.seq (.cond (.t 45) (.skip) (.exit 0))
    (.seq (.block 1 (.seq (.ops [⟨(some 46), .mv (.t 44), none, []⟩,
      ⟨(some 7), .mv (.t 46), none, []⟩])
    (.seq (.ops [⟨(some 47), .mv (.t 5), none, []⟩,
      ⟨(some 48), .mv (.t 7), none, []⟩,
      ⟨(some 49), .iadr 1 (.t 47) (.t 48), none, []⟩,
      ⟨(some 50), .load1 (.t 49), none, []⟩,
      ⟨(some 51), .conv .i64 (.t 50), none, []⟩,
      ⟨(some 52), .mv (.t 1), none, []⟩,
      ⟨(some 53), .cmp .gtr (.t 51) (.t 52), none, []⟩,
      ⟨(some 54), .mv (.t 53), none, []⟩,
      ⟨(some 55), .mv (.t 5), some (54, false), []⟩,
      ⟨(some 56), .mv (.t 7), some (54, false), []⟩,
      ⟨(some 57), .iadr 1 (.t 55) (.t 56), some (54, false), []⟩,
      ⟨(some 58), .load1 (.t 57), some (54, false), []⟩,
      ⟨(some 59), .cmp .eql (.t 58) (.k (.lit .u8 0)), some (54, false), []⟩,
      ⟨(some 60), .mv (.t 0), some (54, false), []⟩,
      ⟨(some 61), .mv (.t 7), some (54, false), []⟩,
      ⟨(some 62), .iadr 1 (.t 60) (.t 61), some (54, false), []⟩,
      ⟨(some 63), .load1 (.t 62), some (54, false), []⟩,
      ⟨(some 64), .cmp .eql (.t 63) (.k (.lit .u32 0)), some (54, false), []⟩,
      ⟨(some 65), .eqv true 0 (.t 59) (.t 64), some (54, false), []⟩,
      ⟨(some 66), .pick (.t 54) (.k (.bool true)) (.t 65), none, []⟩])
    (.cond (.t 66) (.seq (.ops [⟨(some 4), .mv (.k (.bool false)), none, []⟩])
    (.ret)) (.skip)))))
    (.ops [⟨(some 67), .bin .add .i64 (.t 44) (.k (.lit .i64 1)), none, []⟩,
      ⟨(some 44), .mv (.t 67), none, []⟩])))))))
    (.seq (.ops [⟨(some 68), .mv (.t 0), none, []⟩,
      ⟨(some 69), .mv (.t 5), none, []⟩,
      ⟨(some 70), .call (.k (.fn 19 [])) [(.t 68), (.t 69)], none, []⟩,
      ⟨(some 71), .mv (.t 0), none, []⟩,
      ⟨(some 72), .mv (.t 1), none, []⟩,
      ⟨(some 73), .call (.k (.fn 20 [])) [(.t 71), (.t 72)], none, []⟩,
      ⟨(some 74), .cmp .eql (.t 70) (.t 73), none, []⟩,
      ⟨(some 75), .mv (.t 74), none, []⟩,
      ⟨(some 76), .call (.k (.fn 17 [])) [], some (75, true), []⟩,
      ⟨(some 77), .pick (.t 75) (.t 76) (.k (.bool false)), none, []⟩,
      ⟨(some 4), .mv (.t 77), none, []⟩])
    (.ret))))))
theorem fn3 : FnOk Try.prog 3 x3 78 [4] := FnOk.of Try.call3 Try.func3 (by kernel_rfl) Try.ntmps3 (by kernel_rfl)
/-- baler/canon.Limit -/
def x15 : XC :=
  .seq (.ops [⟨(some 4), .mv (.k (.val (.slice none 0 0))), none, []⟩,
      ⟨(some 5), .mv (.k (.lit .i64 0)), none, []⟩])
    (.seq (.ops [⟨(some 6), .mv (.k (.val (.slice none 0 0))), none, []⟩])
    (.seq (.seq (.ops [⟨(some 18), .mv (.t 0), none, []⟩,
      ⟨(some 19), .len (.t 18), none, []⟩,
      ⟨(some 20), .mv (.k (.lit .i64 0)), none, []⟩])
    (.block 0 (.loop (.seq (.ops [⟨(some 21), .cmp .lss (.t 20) (.t 19), none, []⟩])
    (.seq (.cond (.t 21) (.skip) (.exit 0))
    (.seq (.block 1 (.seq (.ops [⟨(some 22), .mv (.t 20), none, []⟩,
      ⟨(some 23), .iadr 1 (.t 18) (.t 20), none, []⟩,
      ⟨(some 24), .load1 (.t 23), none, []⟩,
      ⟨(some 7), .mv (.t 22), none, []⟩,
      ⟨(some 8), .mv (.t 24), none, []⟩])
    (.seq (.ops [⟨(some 25), .mv (.t 8), none, []⟩,
      ⟨(some 26), .cmp .gtr (.t 25) (.k (.lit .u32 0)), none, []⟩])
    (.cond (.t 26) (.ops [⟨(some 27), .mv (.t 6), none, []⟩,
      ⟨(some 28), .mv (.t 8), none, []⟩,
      ⟨(some 29), .conv .u64 (.t 28), none, []⟩,
      ⟨(some 30), .mv (.t 7), none, []⟩,
      ⟨(some 31), .bsliceI 3 .i64 1 [⟨0, 1, (.t 30)⟩], none, []⟩,
      ⟨(some 32), .build [(.lit .u64 0), (.val (.slice none 0 0))] [⟨0, 1, (.t 29)⟩, ⟨1, 1, (.t 31)⟩], none, []⟩,
      ⟨(some 33), .bsliceR 109 2 1 [(.lit .u64 0), (.val (.slice none 0 0))] [⟨0, 2, (.t 32)⟩], none, []⟩,
      ⟨(some 34), .appR 109 2 32 (.t 27) (.t 33), none, []⟩,
      ⟨(some 6), .mv (.t 34), none, []⟩]) (.skip)))))
    (.ops [⟨(some 35), .bin .add .i64 (.t 20) (.k (.lit .i64 1)), none, []⟩,
      ⟨(some 20), .mv (.t 35), none, []⟩])))))))
    (.seq (.seq (.ops [⟨(some 36), .mv (.t 0), none, []⟩,
      ⟨(some 37), .len (.t 36), none, []⟩,
      ⟨(some 38), .cmp .gtr (.t 37) (.k (.lit .i64 1024)), none, []⟩,
      ⟨(some 39), .mv (.t 38), none, []⟩,
      ⟨(some 40), .mv (.t 1), some (39, false), []⟩,
      ⟨(some 41), .cmp .lss (.t 40) (.k (.lit .i64 1)), some (39, false), []⟩,
      ⟨(some 42), .pick (.t 39) (.k (.bool true)) (.t 41), none, []⟩,
      ⟨(some 43), .mv (.t 42), none, []⟩,
      ⟨(some 44), .mv (.t 1), some (43, false), []⟩,
      ⟨(some 45), .cmp .gtr (.t 44) (.k (.lit .i64 15)), some (43, false), []⟩,
      ⟨(some 46), .pick (.t 43) (.k (.bool true)) (.t 45), none, []⟩,
      ⟨(some 47), .mv (.t 46), none, []⟩,
      ⟨(some 48), .mv (.t 6), some (47, false), []⟩,
      ⟨(some 49), .len (.t 48), some (47, false), []⟩,
      ⟨(some 50), .cmp .lss (.t 49) (.k (.lit .i64 2)), some (47, false), []⟩,
      ⟨(some 51), .pick (.t 47) (.k (.bool true)) (.t 50), none, []⟩,
      ⟨(some 52), .mv (.t 51), none, []⟩,
      ⟨(some 53), .mv (.t 6), some (52, false), []⟩,
      ⟨(some 54), .len (.t 53), some (52, false), []⟩,
      ⟨(some 55), .mv (.t 1), some (52, false), []⟩,
      ⟨(some 56), .conv .u64 (.t 55), some (52, false), []⟩,
      ⟨(some 57), .bin .shl .i64 (.k (.lit .i64 1)) (.t 56), some (52, false), []⟩,
      ⟨(some 58), .cmp .gtr (.t 54) (.t 57), some (52, false), []⟩,
      ⟨(some 59), .pick (.t 52) (.k (.bool true)) (.t 58), none, []⟩])
    (.cond (.t 59) (.seq (.ops [⟨(some 4), .mv (.k (.val (.slice none 0 0))), none, []⟩,
      ⟨(some 5), .mv (.k (.lit .i64 2)), none, []⟩])
    (.ret)) (.skip)))
    (.seq (.ops [⟨(some 9), .mv (.k (.fn 63 [])), none, []⟩])
    (.seq (.ops [⟨(some 60), .mv (.t 6), none, []⟩,
      ⟨(some 61), .mv (.t 9), none, []⟩,
      ⟨(some 62), .call (.k (.fn 64 [])) [(.t 60), (.t 61)], none, []⟩])
    (.seq (.ops [⟨(some 63), .mv (.t 6), none, []⟩,
      ⟨(some 10), .mv (.t 63), none, []⟩])
    (.seq (.seq (.ops [⟨(some 64), .mv (.t 1), none, []⟩,
      ⟨(some 65), .bin .sub .i64 (.t 64) (.k (.lit .i64 1)), none, []⟩,
      ⟨(some 66), .mv (.k (.lit .i64 0)), none, []⟩])
    (.block 2 (.loop (.seq (.ops [⟨(some 67), .cmp .lss (.t 66) (.t 65), none, []⟩])
    (.seq (.cond (.t 67) (.skip) (.exit 2))
    (.seq (.block 3 (.seq (.ops [⟨(some 68), .bsliceR 109 2 0 [(.lit .u64 0), (.val (.slice none 0 0))] [], none, []⟩,
      ⟨(some 69), .mv (.t 6), none, []⟩,
      ⟨(some 70), .appR 109 2 32 (.t 68) (.t 69), none, []⟩,
      ⟨(some 11), .mv (.t 70), none, []⟩])
    (.seq (.seq (.ops [⟨(some 12), .mv (.k (.lit .i64 0)), none, []⟩])
    (.block 4 (.loop (.seq (.seq (.ops [⟨(some 71), .mv (.t 12), none, []⟩,
      ⟨(some 72), .bin .add .i64 (.t 71) (.k (.lit .i64 1)), none, []⟩,
      ⟨(some 73), .mv (.t 10), none, []⟩,
      ⟨(some 74), .len (.t 73), none, []⟩,
      ⟨(some 75), .cmp .lss (.t 72) (.t 74), none, []⟩])
    (.cond (.t 75) (.skip) (.exit 4)))
    (.seq (.block 5 (.ops [⟨(some 78), .mv (.t 11), none, []⟩,
      ⟨(some 79), .mv (.t 10), none, []⟩,
      ⟨(some 80), .mv (.t 12), none, []⟩,
      ⟨(some 81), .iadr 2 (.t 79) (.t 80), none, []⟩,
      ⟨(some 82), .fadr 0 (.t 81), none, []⟩,
      ⟨(some 83), .load1 (.t 82), none, []⟩,
      ⟨(some 84), .mv (.t 10), none, []⟩,
      ⟨(some 85), .mv (.t 12), none, []⟩,
      ⟨(some 86), .bin .add .i64 (.t 85) (.k (.lit .i64 1)), none, []⟩,
      ⟨(some 87), .iadr 2 (.t 84) (.t 86), none, []⟩,
      ⟨(some 88), .fadr 0 (.t 87), none, []⟩,
      ⟨(some 89), .load1 (.t 88), none, []⟩,
      ⟨(some 90), .bin .add .u64 (.t 83) (.t 89), none, []⟩,
      ⟨(some 92), .mv (.t 10), none, []⟩,
      ⟨(some 93), .mv (.t 12), none, []⟩,
      ⟨(some 94), .iadr 2 (.t 92) (.t 93), none, []⟩,
      ⟨(some 95), .fadr 1 (.t 94), none, []⟩,
      ⟨(some 96), .load1 (.t 95), none, []⟩,
      ⟨(some 98), .mv (.t 10), none, []⟩,
      ⟨(some 99), .mv (.t 12), none, []⟩,
      ⟨(some 100), .bin .add .i64 (.t 99) (.k (.lit .i64 1)), none, []⟩,
      ⟨(some 101), .iadr 2 (.t 98) (.t 100), none, []⟩,
      ⟨(some 102), .fadr 1 (.t 101), none, []⟩,
      ⟨(some 103), .load1 (.t 102), none, []⟩,
      ⟨(some 91), .bsliceI 3 .i64 0 [], none, [(.load1 (.t 102), 103, none), (.load1 (.t 95), 96, none), (.load1 (.t 88), 89, none), (.load1 (.t 82), 83, none)]⟩,
      ⟨(some 97), .appI 3 .i64 8 (.t 91) (.t 96), none, [(.load1 (.t 102), 103, none), (.load1 (.t 88), 89, none), (.load1 (.t 82), 83, none)]⟩,
      ⟨(some 104), .appI 3 .i64 8 (.t 97) (.t 103), none, [(.load1 (.t 88), 89, none), (.load1 (.t 82), 83, none)]⟩,
      ⟨(some 105), .build [(.lit .u64 0), (.val (.slice none 0 0))] [⟨0, 1, (.t 90)⟩, ⟨1, 1, (.t 104)⟩], none, []⟩,
      ⟨(some 106), .bsliceR 109 2 1 [(.lit .u64 0), (.val (.slice none 0 0))] [⟨0, 2, (.t 105)⟩], none, [(.load1 (.t 88), 89, none), (.load1 (.t 82), 83, none)]⟩,
      ⟨(some 107), .appR 109 2 32 (.t 78) (.t 106), none, [(.load1 (.t 88), 89, none), (.load1 (.t 82), 83, none)]⟩,
      ⟨(some 11), .mv (.t 107), none, []⟩]))
    (.ops [⟨(some 76), .mv (.t 12), none, []⟩,
      ⟨(some 77), .bin .add .i64 (.t 76) (.k (.lit .i64 2)), none, []⟩,
      ⟨(some 12), .mv (.t 77), none, []⟩]))))))
    (.ops [⟨(some 108), .mv (.t 11), none, []⟩,
      ⟨(some 109), .mv (.t 9), none, []⟩,
      ⟨(some 110), .call (.k (.fn 64 [])) [(.t 108), (.t 109)], none, []⟩,
      ⟨(some 10), .mv (.t 110), none, []⟩]))))
    (.ops [⟨(some 111), .bin .add .i64 (.t 66) (.k (.lit .i64 1)), none, []⟩,
      ⟨(some 66), .mv (.t 111), none, []⟩])))))))
    (.seq (.ops [⟨(some 112), .mv (.t 0), none, []⟩,
      ⟨(some 113), .len (.t 112), none, []⟩,
      ⟨(some 114), .mkslI 5 .u8 1 (.t 113) (.t 113), none, []⟩,
      ⟨(some 13), .mv (.t 114), none, []⟩])
    (.seq (.seq (.ops [⟨(some 115), .mv (.t 10), none, []⟩,
      ⟨(some 116), .mv (.t 6), none, []⟩,
      ⟨(some 117), .len (.t 116), none, []⟩,
      ⟨(some 118), .bin .sub .i64 (.t 117) (.k (.lit .i64 1)), none, []⟩,
      ⟨(some 119), .bin .mul .i64 (.k (.lit .i64 2)) (.t 118), none, []⟩,
      ⟨(some 120), .slc 2 (.t 115) none (some (.t 119)) none, none, []⟩,
      ⟨(some 121), .len (.t 120), none, []⟩,
      ⟨(some 122), .mv (.k (.lit .i64 0)), none, []⟩])
    (.block 6 (.loop (.seq (.ops [⟨(some 123), .cmp .lss (.t 122) (.t 121), none, []⟩])
    (.seq (.cond (.t 123) (.skip) (.exit 6))
    (.seq (.block 7 (.seq (.ops [⟨(some 124), .iadr 2 (.t 120) (.t 122), none, []⟩,
      ⟨(some 125), .loadA 2 (.t 124), none, []⟩,
      ⟨(some 15), .newR 109 [(.lit .u64 0), (.val (.slice none 0 0))], none, []⟩,
      ⟨none, .storeA 2 (.t 15) (.t 125), none, []⟩])
    (.seq (.ops [⟨(some 126), .fadr 1 (.t 15), none, []⟩,
      ⟨(some 127), .load1 (.t 126), none, []⟩,
      ⟨(some 128), .len (.t 127), none, []⟩,
      ⟨(some 129), .mv (.k (.lit .i64 0)), none, []⟩])
    (.block 8 (.loop (.seq (.ops [⟨(some 130), .cmp .lss (.t 129) (.t 128), none, []⟩])
    (.seq (.cond (.t 130) (.skip) (.exit 8))
    (.seq (.block 9 (.seq (.ops [⟨(some 131), .iadr 1 (.t 127) (.t 129), none, []⟩,
      ⟨(some 132), .load1 (.t 131), none, []⟩,
      ⟨(some 17), .mv (.t 132), none, []⟩])
    (.ops [⟨(some 133), .mv (.t 13), none, []⟩,
      ⟨(some 134), .mv (.t 17), none, []⟩,
      ⟨(some 135), .iadr 1 (.t 133) (.t 134), none, []⟩,
      ⟨(some 136), .load1 (.t 135), none, []⟩,
      ⟨(some 137), .bin .add .u8 (.t 136) (.k (.lit .u8 1)), none, []⟩,
      ⟨(some 138), .iadr 1 (.t 133) (.t 134), none, []⟩,
      ⟨none, .store1 (.t 138) (.t 137), none, []⟩])))
    (.ops [⟨(some 139), .bin .add .i64 (.t 129) (.k (.lit .i64 1)), none, []⟩,
      ⟨(some 129), .mv (.t 139), none, []⟩])))))))))
    (.ops [⟨(some 140), .bin .add .i64 (.t 122) (.k (.lit .i64 1)), none, []⟩,
      ⟨(some 122), .mv (.t 140), none, []⟩])))))))
    (.seq (.ops [⟨(some 141), .mv (.t 13), none, []⟩,
      ⟨(some 4), .mv (.t 141), none, []⟩,
      ⟨(some 5), .mv (.k (.lit .i64 0)), none, []⟩])
    (.ret)))))))))))
theorem fn15 : FnOk Try.prog 15 x15 142 [4, 5] := FnOk.of Try.call15 Try.func15 (by kernel_rfl) Try.ntmps15 (by kernel_rfl)
/-- baler/balerref05.Able -/
def x16 : XC :=
  .seq (.ops [⟨(some 4), .mv (.k (.bool false)), none, []⟩])
    (.seq (.seq (.ops [⟨(some 7), .mv (.t 0), none, []⟩,
      ⟨(some 8), .len (.t 7), none, []⟩,
      ⟨(some 9), .cmp .gtr (.t 8) (.k (.lit .i64 1024)), none, []⟩,
      ⟨(some 10), .mv (.t 9), none, []⟩,
      ⟨(some 11), .mv (.t 1), some (10, false), []⟩,
      ⟨(some 12), .cmp .lss (.t 11) (.k (.lit .i64 1)), some (10, false), []⟩,
      ⟨(some 13), .pick (.t 10) (.k (.bool true)) (.t 12), none, []⟩,
      ⟨(some 14), .mv (.t 13), none, []⟩,
      ⟨(some 15), .mv (.t 1), some (14, false), []⟩,
      ⟨(some 16), .cmp .gtr (.t 15) (.k (.lit .i64 15)), some (14, false), []⟩,
      ⟨(some 17), .pick (.t 14) (.k (.bool true)) (.t 16), none, []⟩])
    (.cond (.t 17) (.seq (.ops [⟨(some 4), .mv (.k (.bool false)), none, []⟩])
    (.ret)) (.skip)))
    (.seq (.ops [⟨(some 5), .mv (.k (.lit .i64 0)), none, []⟩])
    (.seq (.seq (.ops [⟨(some 6), .mv (.k (.lit .i64 0)), none, []⟩])
    (.block 0 (.loop (.seq (.seq (.ops [⟨(some 18), .mv (.t 6), none, []⟩,
      ⟨(some 19), .mv (.t 0), none, []⟩,
      ⟨(some 20), .len (.t 19), none, []⟩,
      ⟨(some 21), .cmp .lss (.t 18) (.t 20), none, []⟩])
    (.cond (.t 21) (.skip) (.exit 0)))
    (.seq (.block 1 (.seq (.ops [⟨(some 24), .mv (.t 0), none, []⟩,
      ⟨(some 25), .mv (.t 6), none, []⟩,
      ⟨(some 26), .iadr 1 (.t 24) (.t 25), none, []⟩,
      ⟨(some 27), .load1 (.t 26), none, []⟩,
      ⟨(some 28), .cmp .gtr (.t 27) (.k (.lit .u32 0)), none, []⟩])
    (.cond (.t 28) (.ops [⟨(some 29), .mv (.t 5), none, []⟩,
      ⟨(some 30), .bin .add .i64 (.t 29) (.k (.lit .i64 1)), none, []⟩,
      ⟨(some 5), .mv (.t 30), none, []⟩]) (.skip))))
    (.ops [⟨(some 22), .mv (.t 6), none, []⟩,
      ⟨(some 23), .bin .add .i64 (.t 22) (.k (.lit .i64 1)), none, []⟩,
      ⟨(some 6), .mv (.t 23), none, []⟩]))))))
    (.seq (.ops [⟨(some 31), .mv (.t 5), none, []⟩,
      ⟨(some 32), .cmp .geq (.t 31) (.k (.lit .i64 2)), none, []⟩,
      ⟨(some 33), .mv (.t 32), none, []⟩,
      ⟨(some 34), .mv (.t 5), some (33, true), []⟩,
      ⟨(some 35), .mv (.t 1), some (33, true), []⟩,
      ⟨(some 36), .conv .u64 (.t 35), some (33, true), []⟩,
      ⟨(some 37), .bin .shl .i64 (.k (.lit .i64 1)) (.t 36), some (33, true), []⟩,
      ⟨(some 38), .cmp .leq (.t 34) (.t 37), some (33, true), []⟩,
      ⟨(some 39), .pick (.t 33) (.t 38) (.k (.bool false)), none, []⟩,
      ⟨(some 4), .mv (.t 39), none, []⟩])
    (.ret)))))
theorem fn16 : FnOk Try.prog 16 x16 40 [4] := FnOk.of Try.call16 Try.func16 (by kernel_rfl) Try.ntmps16 (by kernel_rfl)
/-- baler/balerlaw05.wakes -/
def x17 : XC :=
  .seq (.ops [⟨(some 0), .mv (.k (.bool false)), none, []⟩])
    (.seq (.ops [⟨(some 8), .bsliceI 5 .u8 4 [⟨0, 1, (.k (.lit .u8 2))⟩, ⟨1, 1, (.k (.lit .u8 1))⟩, ⟨2, 1, (.k (.lit .u8 3))⟩, ⟨3, 1, (.k (.lit .u8 3))⟩], none, []⟩,
      ⟨(some 9), .call (.k (.fn 32 [])) [(.t 8)], none, []⟩,
      ⟨(some 7), .mv (.t 9), none, []⟩,
      ⟨(some 10), .extract (.t 7) 0, none, []⟩,
      ⟨(some 11), .extract (.t 7) 1, none, []⟩,
      ⟨(some 1), .mv (.t 10), none, []⟩,
      ⟨(some 2), .mv (.t 11), none, []⟩])
    (.seq (.ops [⟨(some 13), .bsliceI 5 .u8 3 [⟨0, 1, (.k (.lit .u8 1))⟩, ⟨1, 1, (.k (.lit .u8 1))⟩, ⟨2, 1, (.k (.lit .u8 1))⟩], none, []⟩,
      ⟨(some 14), .call (.k (.fn 32 [])) [(.t 13)], none, []⟩,
      ⟨(some 12), .mv (.t 14), none, []⟩,
      ⟨(some 15), .extract (.t 12) 0, none, []⟩,
      ⟨(some 16), .extract (.t 12) 1, none, []⟩,
      ⟨(some 3), .mv (.t 15), none, []⟩,
      ⟨(some 4), .mv (.t 16), none, []⟩])
    (.seq (.ops [⟨(some 18), .bsliceI 30 .u32 5 [⟨0, 1, (.k (.lit .u32 8))⟩, ⟨1, 1, (.k (.lit .u32 4))⟩, ⟨2, 1, (.k (.lit .u32 2))⟩, ⟨3, 1, (.k (.lit .u32 1))⟩, ⟨4, 1, (.k (.lit .u32 1))⟩], none, []⟩,
      ⟨(some 19), .call (.k (.fn 15 [])) [(.t 18), (.k (.lit .i64 3))], none, []⟩,
      ⟨(some 17), .mv (.t 19), none, []⟩,
      ⟨(some 20), .extract (.t 17) 0, none, []⟩,
      ⟨(some 21), .extract (.t 17) 1, none, []⟩,
      ⟨(some 5), .mv (.t 20), none, []⟩,
      ⟨(some 6), .mv (.t 21), none, []⟩])
    (.seq (.ops [⟨(some 22), .mv (.t 2), none, []⟩,
      ⟨(some 23), .cmp .eql (.t 22) (.k (.lit .i64 0)), none, []⟩,
      ⟨(some 24), .mv (.t 23), none, []⟩,
      ⟨(some 25), .mv (.t 1), some (24, true), []⟩,
      ⟨(some 26), .bsliceI 48 .u16 4 [⟨0, 1, (.k (.lit .u16 2))⟩, ⟨1, 1, (.k (.lit .u16 0))⟩, ⟨2, 1, (.k (.lit .u16 6))⟩, ⟨3, 1, (.k (.lit .u16 7))⟩], some (24, true), []⟩,
      ⟨(some 27), .call (.k (.fn 51 [])) [(.t 25), (.t 26)], some (24, true), []⟩,
      ⟨(some 28), .pick (.t 24) (.t 27) (.k (.bool false)), none, []⟩,
      ⟨(some 29), .mv (.t 28), none, []⟩,
      ⟨(some 30), .mv (.t 4), some (29, true), []⟩,
      ⟨(some 31), .cmp .eql (.t 30) (.k (.lit .i64 50)), some (29, true), []⟩,
      ⟨(some 32), .pick (.t 29) (.t 31) (.k (.bool false)), none, []⟩,
      ⟨(some 33), .mv (.t 32), none, []⟩,
      ⟨(some 34), .mv (.t 6), some (33, true), []⟩,
      ⟨(some 35), .cmp .eql (.t 34) (.k (.lit .i64 0)), some (33, true), []⟩,
      ⟨(some 36), .pick (.t 33) (.t 35) (.k (.bool false)), none, []⟩,
      ⟨(some 37), .mv (.t 36), none, []⟩,
      ⟨(some 38), .bsliceI 30 .u32 5 [⟨0, 1, (.k (.lit .u32 8))⟩, ⟨1, 1, (.k (.lit .u32 4))⟩, ⟨2, 1, (.k (.lit .u32 2))⟩, ⟨3, 1, (.k (.lit .u32 1))⟩, ⟨4, 1, (.k (.lit .u32 1))⟩], some (37, true), []⟩,
      ⟨(some 39), .mv (.t 5), some (37, true), []⟩,
      ⟨(some 40), .call (.k (.fn 19 [])) [(.t 38), (.t 39)], some (37, true), []⟩,
      ⟨(some 41), .cmp .eql (.t 40) (.k (.lit .u64 32)), some (37, true), []⟩,
      ⟨(some 42), .pick (.t 37) (.t 41) (.k (.bool false)), none, []⟩,
      ⟨(some 0), .mv (.t 42), none, []⟩])
    (.ret)))))
theorem fn17 : FnOk Try.prog 17 x17 43 [0] := FnOk.of Try.call17 Try.func17 (by kernel_rfl) Try.ntmps17 (by kernel_rfl)
/-- baler/balerref05.Right -/
def x18 : XC :=
  .seq (.ops [⟨(some 2), .mv (.k (.bool false)), none, []⟩])
    (.seq (.seq (.ops [⟨(some 6), .mv (.t 0), none, []⟩,
      ⟨(some 7), .len (.t 6), none, []⟩,
      ⟨(some 8), .cmp .gtr (.t 7) (.k (.lit .i64 1024)), none, []⟩])
    (.cond (.t 8) (.seq (.ops [⟨(some 2), .mv (.k (.bool false)), none, []⟩])
    (.ret)) (.skip)))
    (.seq (.ops [⟨(some 3), .mv (.k (.lit .i64 0)), none, []⟩,
      ⟨(some 4), .mv (.k (.lit .i64 0)), none, []⟩])
    (.seq (.seq (.ops [⟨(some 5), .mv (.k (.lit .i64 0)), none, []⟩])
    (.block 0 (.loop (.seq (.seq (.ops [⟨(some 9), .mv (.t 5), none, []⟩,
      ⟨(some 10), .mv (.t 0), none, []⟩,
      ⟨(some 11), .len (.t 10), none, []⟩,
      ⟨(some 12), .cmp .lss (.t 9) (.t 11), none, []⟩])
    (.cond (.t 12) (.skip) (.exit 0)))
    (.seq (.block 1 (.seq (.seq (.ops [⟨(some 15), .mv (.t 0), none, []⟩,
      ⟨(some 16), .mv (.t 5), none, []⟩,
      ⟨(some 17), .iadr 1 (.t 15) (.t 16), none, []⟩,
      ⟨(some 18), .load1 (.t 17), none, []⟩,
      ⟨(some 19), .cmp .gtr (.t 18) (.k (.lit .u8 15)), none, []⟩])
    (.cond (.t 19) (.seq (.ops [⟨(some 2), .mv (.k (.bool false)), none, []⟩])
    (.ret)) (.skip)))
    (.seq (.ops [⟨(some 20), .mv (.t 0), none, []⟩,
      ⟨(some 21), .mv (.t 5), none, []⟩,
      ⟨(some 22), .iadr 1 (.t 20) (.t 21), none, []⟩,
      ⟨(some 23), .load1 (.t 22), none, []⟩,
      ⟨(some 24), .cmp .gtr (.t 23) (.k (.lit .u8 0)), none, []⟩])
    (.cond (.t 24) (.seq (.ops [⟨(some 25), .mv (.t 3), none, []⟩,
      ⟨(some 26), .bin .add .i64 (.t 25) (.k (.lit .i64 1)), none, []⟩,
      ⟨(some 3), .mv (.t 26), none, []⟩])
    (.ops [⟨(some 27), .mv (.t 4), none, []⟩,
      ⟨(some 28), .mv (.t 0), none, []⟩,
      ⟨(some 29), .mv (.t 5), none, []⟩,
      ⟨(some 30), .iadr 1 (.t 28) (.t 29), none, []⟩,
      ⟨(some 31), .load1 (.t 30), none, []⟩,
      ⟨(some 32), .bin .sub .u8 (.k (.lit .u8 15)) (.t 31), none, []⟩,
      ⟨(some 33), .conv .u64 (.t 32), none, []⟩,
      ⟨(some 34), .bin .shl .i64 (.k (.lit .i64 1)) (.t 33), none, []⟩,
      ⟨(some 35), .bin .add .i64 (.t 27) (.t 34), none, []⟩,
      ⟨(some 4), .mv (.t 35), none, []⟩])) (.skip)))))
    (.ops [⟨(some 13), .mv (.t 5), none, []⟩,
      ⟨(some 14), .bin .add .i64 (.t 13) (.k (.lit .i64 1)), none, []⟩,
      ⟨(some 5), .mv (.t 14), none, []⟩]))))))
    (.seq (.ops [⟨(some 36), .mv (.t 3), none, []⟩,
      ⟨(some 37), .cmp .geq (.t 36) (.k (.lit .i64 2)), none, []⟩,
      ⟨(some 38), .mv (.t 37), none, []⟩,
      ⟨(some 39), .mv (.t 4), some (38, true), []⟩,
      ⟨(some 40), .cmp .eql (.t 39) (.k (.lit .i64 32768)), some (38, true), []⟩,
      ⟨(some 41), .pick (.t 38) (.t 40) (.k (.bool false)), none, []⟩,
      ⟨(some 2), .mv (.t 41), none, []⟩])
    (.ret)))))
theorem fn18 : FnOk Try.prog 18 x18 42 [2] := FnOk.of Try.call18 Try.func18 (by kernel_rfl) Try.ntmps18 (by kernel_rfl)
/-- baler/balerlaw05.sum -/
def x19 : XC :=
  .seq (.ops [⟨(some 4), .mv (.k (.lit .u64 0)), none, []⟩])
    (.seq (.ops [⟨(some 5), .mv (.k (.lit .u64 0)), none, []⟩])
    (.seq (.seq (.ops [⟨(some 7), .mv (.t 1), none, []⟩,
      ⟨(some 8), .len (.t 7), none, []⟩,
      ⟨(some 9), .mv (.t 0), none, []⟩,
      ⟨(some 10), .len (.t 9), none, []⟩,
      ⟨(some 11), .cmp .neq (.t 8) (.t 10), none, []⟩])
    (.cond (.t 11) (.seq (.ops [⟨(some 12), .mv (.t 5), none, []⟩,
      ⟨(some 4), .mv (.t 12), none, []⟩])
    (.ret)) (.skip)))
    (.seq (.seq (.ops [⟨(some 13), .mv (.t 1), none, []⟩,
      ⟨(some 14), .len (.t 13), none, []⟩,
      ⟨(some 15), .mv (.k (.lit .i64 0)), none, []⟩])
    (.block 0 (.loop (.seq (.ops [⟨(some 16), .cmp .lss (.t 15) (.t 14), none, []⟩])
    (.seq (.cond (.t 16) (.skip) (.exit 0))
    (.seq (.block 1 (.seq (.ops [⟨(some 17), .mv (.t 15), none, []⟩,
      ⟨(some 6), .mv (.t 17), none, []⟩])
    (.ops [⟨(some 18), .mv (.t 5), none, []⟩,
      ⟨(some 19), .mv (.t 0), none, []⟩,
      ⟨(some 20), .mv (.t 6), none, []⟩,
      ⟨(some 21), .iadr 1 (.t 19) (.t 20), none, []⟩,
      ⟨(some 22), .load1 (.t 21), none, []⟩,
      ⟨(some 23), .conv .u64 (.t 22), none, []⟩,
      ⟨(some 24), .mv (.t 1), none, []⟩,
      ⟨(some 25), .mv (.t 6), none, []⟩,
      ⟨(some 26), .iadr 1 (.t 24) (.t 25), none, []⟩,
      ⟨(some 27), .load1 (.t 26), none, []⟩,
      ⟨(some 28), .conv .u64 (.t 27), none, []⟩,
      ⟨(some 29), .bin .mul .u64 (.t 23) (.t 28), none, []⟩,
      ⟨(some 30), .bin .add .u64 (.t 18) (.t 29), none, []⟩,
      ⟨(some 5), .mv (.t 30), none, []⟩])))
    (.ops [⟨(some 31), .bin .add .i64 (.t 15) (.k (.lit .i64 1)), none, []⟩,
      ⟨(some 15), .mv (.t 31), none, []⟩])))))))
    (.seq (.ops [⟨(some 32), .mv (.t 5), none, []⟩,
      ⟨(some 4), .mv (.t 32), none, []⟩])
    (.ret)))))
theorem fn19 : FnOk Try.prog 19 x19 33 [4] := FnOk.of Try.call19 Try.func19 (by kernel_rfl) Try.ntmps19 (by kernel_rfl)
/-- baler/balerref05.Least -/
def x20 : XC :=
  .seq (.ops [⟨(some 4), .mv (.k (.lit .u64 0)), none, []⟩])
    (.seq (.ops [⟨(some 12), .mv (.t 0), none, []⟩,
      ⟨(some 13), .call (.k (.fn 65 [])) [(.t 12)], none, []⟩,
      ⟨(some 5), .mv (.t 13), none, []⟩])
    (.seq (.ops [⟨(some 14), .mv (.t 5), none, []⟩,
      ⟨(some 6), .mv (.t 14), none, []⟩])
    (.seq (.seq (.ops [⟨(some 7), .mv (.k (.lit .i64 1)), none, []⟩])
    (.block 0 (.loop (.seq (.seq (.ops [⟨(some 15), .mv (.t 7), none, []⟩,
      ⟨(some 16), .mv (.t 1), none, []⟩,
      ⟨(some 17), .cmp .lss (.t 15) (.t 16), none, []⟩])
    (.cond (.t 17) (.skip) (.exit 0)))
    (.seq (.block 1 (.seq (.ops [⟨(some 8), .mv (.k (.val (.slice none 0 0))), none, []⟩])
    (.seq (.seq (.ops [⟨(some 9), .mv (.k (.lit .i64 0)), none, []⟩])
    (.block 2 (.loop (.seq (.seq (.ops [⟨(some 20), .mv (.t 9), none, []⟩,
      ⟨(some 21), .bin .add .i64 (.t 20) (.k (.lit .i64 1)), none, []⟩,
      ⟨(some 22), .mv (.t 6), none, []⟩,
      ⟨(some 23), .len (.t 22), none, []⟩,
      ⟨(some 24), .cmp .lss (.t 21) (.t 23), none, []⟩])
    (.cond (.t 24) (.skip) (.exit 2)))
    (.seq (.block 3 (.ops [⟨(some 27), .mv (.t 8), none, []⟩,
      ⟨(some 28), .mv (.t 6), none, []⟩,
      ⟨(some 29), .mv (.t 9), none, []⟩,
      ⟨(some 30), .iadr 1 (.t 28) (.t 29), none, []⟩,
      ⟨(some 31), .load1 (.t 30), none, []⟩,
      ⟨(some 32), .mv (.t 6), none, []⟩,
      ⟨(some 33), .mv (.t 9), none, []⟩,
      ⟨(some 34), .bin .add .i64 (.t 33) (.k (.lit .i64 1)), none, []⟩,
      ⟨(some 35), .iadr 1 (.t 32) (.t 34), none, []⟩,
      ⟨(some 36), .load1 (.t 35), none, []⟩,
      ⟨(some 37), .bin .add .u64 (.t 31) (.t 36), none, []⟩,
      ⟨(some 38), .bsliceI 31 .u64 1 [⟨0, 1, (.t 37)⟩], none, [(.load1 (.t 35), 36, none), (.load1 (.t 30), 31, none)]⟩,
      ⟨(some 39), .appI 31 .u64 8 (.t 27) (.t 38), none, [(.load1 (.t 35), 36, none), (.load1 (.t 30), 31, none)]⟩,
      ⟨(some 8), .mv (.t 39), none, []⟩]))
    (.ops [⟨(some 25), .mv (.t 9), none, []⟩,
      ⟨(some 26), .bin .add .i64 (.t 25) (.k (.lit .i64 2)), none, []⟩,
      ⟨(some 9), .mv (.t 26), none, []⟩]))))))
    (.ops [⟨(some 40), .mv (.t 5), none, []⟩,
      ⟨(some 41), .mv (.t 8), none, []⟩,
      ⟨(some 42), .call (.k (.fn 66 [])) [(.t 40), (.t 41)], none, []⟩,
      ⟨(some 6), .mv (.t 42), none, []⟩]))))
    (.ops [⟨(some 18), .mv (.t 7), none, []⟩,
      ⟨(some 19), .bin .add .i64 (.t 18) (.k (.lit .i64 1)), none, []⟩,
      ⟨(some 7), .mv (.t 19), none, []⟩]))))))
    (.seq (.ops [⟨(some 10), .mv (.k (.lit .u64 0)), none, []⟩])
    (.seq (.seq (.ops [⟨(some 11), .mv (.k (.lit .i64 0)), none, []⟩])
    (.block 4 (.loop (.seq (.seq (.ops [⟨(some 43), .mv (.t 11), none, []⟩,
      ⟨(some 44), .mv (.t 5), none, []⟩,
      ⟨(some 45), .len (.t 44), none, []⟩,
      ⟨(some 46), .bin .sub .i64 (.t 45) (.k (.lit .i64 1)), none, []⟩,
      ⟨(some 47), .bin .mul .i64 (.k (.lit .i64 2)) (.t 46), none, []⟩,
      ⟨(some 48), .cmp .lss (.t 43) (.t 47), none, []⟩])
    (.cond (.t 48) (.skip) (.exit 4)))
    (.seq (.block 5 (.ops [⟨(some 51), .mv (.t 10), none, []⟩,
      ⟨(some 52), .mv (.t 6), none, []⟩,
      ⟨(some 53), .mv (.t 11), none, []⟩,
      ⟨(some 54), .iadr 1 (.t 52) (.t 53), none, []⟩,
      ⟨(some 55), .load1 (.t 54), none, []⟩,
      ⟨(some 56), .bin .add .u64 (.t 51) (.t 55), none, []⟩,
      ⟨(some 10), .mv (.t 56), none, []⟩]))
    (.ops [⟨(some 49), .mv (.t 11), none, []⟩,
      ⟨(some 50), .bin .add .i64 (.t 49) (.k (.lit .i64 1)), none, []⟩,
      ⟨(some 11), .mv (.t 50), none, []⟩]))))))
    (.seq (.ops [⟨(some 57), .mv (.t 10), none, []⟩,
      ⟨(some 4), .mv (.t 57), none, []⟩])
    (.ret)))))))
theorem fn20 : FnOk Try.prog 20 x20 58 [4] := FnOk.of Try.call20 Try.func20 (by kernel_rfl) Try.ntmps20 (by kernel_rfl)
/-- baler/canon.Codes -/
def x32 : XC :=
  .seq (.ops [⟨(some 2), .mv (.k (.val (.slice none 0 0))), none, []⟩,
      ⟨(some 3), .mv (.k (.lit .i64 0)), none, []⟩])
    (.seq (.seq (.ops [⟨(some 7), .mv (.t 0), none, []⟩,
      ⟨(some 8), .call (.k (.fn 78 [])) [(.t 7)], none, []⟩,
      ⟨(some 9), .not (.t 8), none, []⟩])
    (.cond (.t 9) (.seq (.ops [⟨(some 2), .mv (.k (.val (.slice none 0 0))), none, []⟩,
      ⟨(some 3), .mv (.k (.lit .i64 50)), none, []⟩])
    (.ret)) (.skip)))
    (.seq (.ops [⟨(some 10), .mv (.t 0), none, []⟩,
      ⟨(some 11), .len (.t 10), none, []⟩,
      ⟨(some 12), .mkslI 48 .u16 2 (.t 11) (.t 11), none, []⟩,
      ⟨(some 4), .newR 49 [(.val (.slice none 0 0))], none, []⟩,
      ⟨none, .store1 (.t 4) (.t 12), none, []⟩])
    (.seq (.seq (.ops [⟨(some 13), .mv (.t 0), none, []⟩,
      ⟨(some 14), .call (.k (.fn 79 [])) [(.t 13)], none, []⟩])
    (.block 0 (.range (.t 14) [15, 16] (.seq (.ops [⟨(some 5), .mv (.t 15), none, []⟩])
    (.ops [⟨(some 6), .mv (.t 16), none, []⟩])) (.block 1 (.ops [⟨(some 17), .load1 (.t 4), none, []⟩,
      ⟨(some 18), .mv (.t 5), none, []⟩,
      ⟨(some 19), .mv (.t 6), none, []⟩,
      ⟨(some 20), .iadr 1 (.t 17) (.t 18), none, []⟩,
      ⟨none, .store1 (.t 20) (.t 19), none, []⟩])))))
    (.seq (.ops [⟨(some 21), .load1 (.t 4), none, []⟩,
      ⟨(some 2), .mv (.t 21), none, []⟩,
      ⟨(some 3), .mv (.k (.lit .i64 0)), none, []⟩])
    (.ret)))))
theorem fn32 : FnOk Try.prog 32 x32 22 [2, 3] := FnOk.of Try.call32 Try.func32 (by kernel_rfl) Try.ntmps32 (by kernel_rfl)
/-- baler/balerlaw05.same -/
def x51 : XC :=
  .seq (.ops [⟨(some 4), .mv (.k (.bool false)), none, []⟩])
    (.seq (.seq (.ops [⟨(some 6), .mv (.t 0), none, []⟩,
      ⟨(some 7), .len (.t 6), none, []⟩,
      ⟨(some 8), .mv (.t 1), none, []⟩,
      ⟨(some 9), .len (.t 8), none, []⟩,
      ⟨(some 10), .cmp .neq (.t 7) (.t 9), none, []⟩])
    (.cond (.t 10) (.seq (.ops [⟨(some 4), .mv (.k (.bool false)), none, []⟩])
    (.ret)) (.skip)))
    (.seq (.seq (.ops [⟨(some 11), .mv (.t 0), none, []⟩,
      ⟨(some 12), .len (.t 11), none, []⟩,
      ⟨(some 13), .mv (.k (.lit .i64 0)), none, []⟩])
    (.block 0 (.loop (.seq (.ops [⟨(some 14), .cmp .lss (.t 13) (.t 12), none, []⟩])
    (.seq (.cond (.t 14) (.skip) (.exit 0))
    (.seq (.block 1 (.seq (.ops [⟨(some 15), .mv (.t 13), none, []⟩,
      ⟨(some 5), .mv (.t 15), none, []⟩])
    (.seq (.ops [⟨(some 16), .mv (.t 0), none, []⟩,
      ⟨(some 17), .mv (.t 5), none, []⟩,
      ⟨(some 18), .iadr 1 (.t 16) (.t 17), none, []⟩,
      ⟨(some 19), .load1 (.t 18), none, []⟩,
      ⟨(some 20), .mv (.t 1), none, []⟩,
      ⟨(some 21), .mv (.t 5), none, []⟩,
      ⟨(some 22), .iadr 1 (.t 20) (.t 21), none, []⟩,
      ⟨(some 23), .load1 (.t 22), none, []⟩,
      ⟨(some 24), .cmp .neq (.t 19) (.t 23), none, []⟩])
    (.cond (.t 24) (.seq (.ops [⟨(some 4), .mv (.k (.bool false)), none, []⟩])
    (.ret)) (.skip)))))
    (.ops [⟨(some 25), .bin .add .i64 (.t 13) (.k (.lit .i64 1)), none, []⟩,
      ⟨(some 13), .mv (.t 25), none, []⟩])))))))
    (.seq (.ops [⟨(some 4), .mv (.k (.bool true)), none, []⟩])
    (.ret))))
theorem fn51 : FnOk Try.prog 51 x51 26 [4] := FnOk.of Try.call51 Try.func51 (by kernel_rfl) Try.ntmps51 (by kernel_rfl)
/-- baler/canon.Limit$1 -/
def x63 : XC :=
  .seq (.ops [⟨(some 1), .box 109 none (.t 0), none, []⟩,
      ⟨(some 2), .mv (.k (.lit .u64 0)), none, []⟩])
    (.seq (.ops [⟨(some 3), .fadr 0 (.t 1), none, []⟩,
      ⟨(some 4), .load1 (.t 3), none, []⟩,
      ⟨(some 2), .mv (.t 4), none, []⟩])
    (.ret))
theorem fn63 : FnOk Try.prog 63 x63 5 [2] := FnOk.of Try.call63 Try.func63 (by kernel_rfl) Try.ntmps63 (by kernel_rfl)
/-- baler/canon.rising[baler/canon.coin] -/
def x64 : XC :=
  .seq (.ops [⟨(some 3), .box 110 none (.t 1), none, []⟩,
      ⟨(some 4), .mv (.k (.val (.slice none 0 0))), none, []⟩])
    (.seq (.ops [⟨(some 5), .mv (.t 0), none, []⟩,
      ⟨(some 6), .mkfn 111 [(.t 3)], none, []⟩,
      ⟨(some 7), .call (.k (.fn 110 [])) [(.t 5), (.t 6)], none, []⟩])
    (.seq (.ops [⟨(some 8), .mv (.t 0), none, []⟩,
      ⟨(some 4), .mv (.t 8), none, []⟩])
    (.ret)))
theorem fn64 : FnOk Try.prog 64 x64 9 [4] := FnOk.of Try.call64 Try.func64 (by kernel_rfl) Try.ntmps64 (by kernel_rfl)
/-- baler/balerref05.sorted -/
def x65 : XC :=
  .seq (.ops [⟨(some 2), .mv (.k (.val (.slice none 0 0))), none, []⟩])
    (.seq (.ops [⟨(some 3), .mv (.k (.val (.slice none 0 0))), none, []⟩])
    (.seq (.seq (.ops [⟨(some 4), .mv (.k (.lit .i64 0)), none, []⟩])
    (.block 0 (.loop (.seq (.seq (.ops [⟨(some 7), .mv (.t 4), none, []⟩,
      ⟨(some 8), .mv (.t 0), none, []⟩,
      ⟨(some 9), .len (.t 8), none, []⟩,
      ⟨(some 10), .cmp .lss (.t 7) (.t 9), none, []⟩])
    (.cond (.t 10) (.skip) (.exit 0)))
    (.seq (.block 1 (.seq (.seq (.ops [⟨(some 13), .mv (.t 0), none, []⟩,
      ⟨(some 14), .mv (.t 4), none, []⟩,
      ⟨(some 15), .iadr 1 (.t 13) (.t 14), none, []⟩,
      ⟨(some 16), .load1 (.t 15), none, []⟩,
      ⟨(some 17), .cmp .eql (.t 16) (.k (.lit .u32 0)), none, []⟩])
    (.cond (.t 17) (.exit 1) (.skip)))
    (.seq (.ops [⟨(some 18), .mv (.t 3), none, []⟩,
      ⟨(some 19), .mv (.t 0), none, []⟩,
      ⟨(some 20), .mv (.t 4), none, []⟩,
      ⟨(some 21), .iadr 1 (.t 19) (.t 20), none, []⟩,
      ⟨(some 22), .load1 (.t 21), none, []⟩,
      ⟨(some 23), .conv .u64 (.t 22), none, []⟩,
      ⟨(some 24), .bsliceI 31 .u64 1 [⟨0, 1, (.t 23)⟩], none, []⟩,
      ⟨(some 25), .appI 31 .u64 8 (.t 18) (.t 24), none, []⟩,
      ⟨(some 3), .mv (.t 25), none, []⟩])
    (.seq (.ops [⟨(some 26), .mv (.t 3), none, []⟩,
      ⟨(some 27), .len (.t 26), none, []⟩,
      ⟨(some 28), .bin .sub .i64 (.t 27) (.k (.lit .i64 1)), none, []⟩,
      ⟨(some 5), .mv (.t 28), none, []⟩])
    (.block 2 (.loop (.seq (.seq (.ops [⟨(some 29), .mv (.t 5), none, []⟩,
      ⟨(some 30), .cmp .gtr (.t 29) (.k (.lit .i64 0)), none, []⟩,
      ⟨(some 31), .mv (.t 30), none, []⟩,
      ⟨(some 32), .mv (.t 3), some (31, true), []⟩,
      ⟨(some 33), .mv (.t 5), some (31, true), []⟩,
      ⟨(some 34), .iadr 1 (.t 32) (.t 33), some (31, true), []⟩,
      ⟨(some 35), .load1 (.t 34), some (31, true), []⟩,
      ⟨(some 36), .mv (.t 3), some (31, true), []⟩,
      ⟨(some 37), .mv (.t 5), some (31, true), []⟩,
      ⟨(some 38), .bin .sub .i64 (.t 37) (.k (.lit .i64 1)), some (31, true), []⟩,
      ⟨(some 39), .iadr 1 (.t 36) (.t 38), some (31, true), []⟩,
      ⟨(some 40), .load1 (.t 39), some (31, true), []⟩,
      ⟨(some 41), .cmp .lss (.t 35) (.t 40), some (31, true), []⟩,
      ⟨(some 42), .pick (.t 31) (.t 41) (.k (.bool false)), none, []⟩])
    (.cond (.t 42) (.skip) (.exit 2)))
    (.seq (.block 3 (.seq (.ops [⟨(some 45), .mv (.t 3), none, []⟩,
      ⟨(some 46), .mv (.t 5), none, []⟩,
      ⟨(some 47), .iadr 1 (.t 45) (.t 46), none, []⟩,
      ⟨(some 48), .load1 (.t 47), none, []⟩,
      ⟨(some 6), .mv (.t 48), none, []⟩])
    (.seq (.ops [⟨(some 49), .mv (.t 3), none, []⟩,
      ⟨(some 50), .mv (.t 5), none, []⟩,
      ⟨(some 51), .mv (.t 3), none, []⟩,
      ⟨(some 52), .mv (.t 5), none, []⟩,
      ⟨(some 53), .bin .sub .i64 (.t 52) (.k (.lit .i64 1)), none, []⟩,
      ⟨(some 54), .iadr 1 (.t 51) (.t 53), none, []⟩,
      ⟨(some 55), .load1 (.t 54), none, []⟩,
      ⟨(some 56), .iadr 1 (.t 49) (.t 50), none, []⟩,
      ⟨none, .store1 (.t 56) (.t 55), none, []⟩])
    (.ops [⟨(some 57), .mv (.t 3), none, []⟩,
      ⟨(some 58), .mv (.t 5), none, []⟩,
      ⟨(some 59), .bin .sub .i64 (.t 58) (.k (.lit .i64 1)), none, []⟩,
      ⟨(some 60), .mv (.t 6), none, []⟩,
      ⟨(some 61), .iadr 1 (.t 57) (.t 59), none, []⟩,
      ⟨none, .store1 (.t 61) (.t 60), none, []⟩]))))
    (.ops [⟨(some 43), .mv (.t 5), none, []⟩,
      ⟨(some 44), .bin .sub .i64 (.t 43) (.k (.lit .i64 1)), none, []⟩,
      ⟨(some 5), .mv (.t 44), none, []⟩])))))))))
    (.ops [⟨(some 11), .mv (.t 4), none, []⟩,
      ⟨(some 12), .bin .add .i64 (.t 11) (.k (.lit .i64 1)), none, []⟩,
      ⟨(some 4), .mv (.t 12), none, []⟩]))))))
    (.seq (.ops [⟨(some 62), .mv (.t 3), none, []⟩,
      ⟨(some 2), .mv (.t 62), none, []⟩])
    (.ret))))
theorem fn65 : FnOk Try.prog 65 x65 63 [2] := FnOk.of Try.call65 Try.func65 (by kernel_rfl) Try.ntmps65 (by kernel_rfl)
/-- baler/balerref05.merged -/
def x66 : XC :=
  .seq (.ops [⟨(some 4), .mv (.k (.val (.slice none 0 0))), none, []⟩])
    (.seq (.ops [⟨(some 5), .mv (.k (.val (.slice none 0 0))), none, []⟩])
    (.seq (.ops [⟨(some 6), .mv (.k (.lit .i64 0)), none, []⟩,
      ⟨(some 7), .mv (.k (.lit .i64 0)), none, []⟩])
    (.seq (.block 0 (.loop (.seq (.seq (.ops [⟨(some 8), .mv (.t 6), none, []⟩,
      ⟨(some 9), .mv (.t 0), none, []⟩,
      ⟨(some 10), .len (.t 9), none, []⟩,
      ⟨(some 11), .cmp .lss (.t 8) (.t 10), none, []⟩,
      ⟨(some 12), .mv (.t 11), none, []⟩,
      ⟨(some 13), .mv (.t 7), some (12, false), []⟩,
      ⟨(some 14), .mv (.t 1), some (12, false), []⟩,
      ⟨(some 15), .len (.t 14), some (12, false), []⟩,
      ⟨(some 16), .cmp .lss (.t 13) (.t 15), some (12, false), []⟩,
      ⟨(some 17), .pick (.t 12) (.k (.bool true)) (.t 16), none, []⟩])
    (.cond (.t 17) (.skip) (.exit 0)))
    (.block 1 (.seq (.ops [⟨(some 18), .mv (.t 7), none, []⟩,
      ⟨(some 19), .mv (.t 1), none, []⟩,
      ⟨(some 20), .len (.t 19), none, []⟩,
      ⟨(some 21), .cmp .geq (.t 18) (.t 20), none, []⟩,
      ⟨(some 22), .mv (.t 21), none, []⟩,
      ⟨(some 23), .mv (.t 6), some (22, false), []⟩,
      ⟨(some 24), .mv (.t 0), some (22, false), []⟩,
      ⟨(some 25), .len (.t 24), some (22, false), []⟩,
      ⟨(some 26), .cmp .lss (.t 23) (.t 25), some (22, false), []⟩,
      ⟨(some 27), .mv (.t 26), some (22, false), []⟩,
      ⟨(some 28), .mv (.t 0), some (27, true), []⟩,
      ⟨(some 29), .mv (.t 6), some (27, true), []⟩,
      ⟨(some 30), .iadr 1 (.t 28) (.t 29), some (27, true), []⟩,
      ⟨(some 31), .load1 (.t 30), some (27, true), []⟩,
      ⟨(some 32), .mv (.t 1), some (27, true), []⟩,
      ⟨(some 33), .mv (.t 7), some (27, true), []⟩,
      ⟨(some 34), .iadr 1 (.t 32) (.t 33), some (27, true), []⟩,
      ⟨(some 35), .load1 (.t 34), some (27, true), []⟩,
      ⟨(some 36), .cmp .leq (.t 31) (.t 35), some (27, true), []⟩,
      ⟨(some 37), .pick (.t 27) (.t 36) (.k (.bool false)), some (22, false), []⟩,
      ⟨(some 38), .pick (.t 22) (.k (.bool true)) (.t 37), none, []⟩])
    (.cond (.t 38) (.seq (.ops [⟨(some 39), .mv (.t 5), none, []⟩,
      ⟨(some 40), .mv (.t 0), none, []⟩,
      ⟨(some 41), .mv (.t 6), none, []⟩,
      ⟨(some 42), .iadr 1 (.t 40) (.t 41), none, []⟩,
      ⟨(some 43), .load1 (.t 42), none, []⟩,
      ⟨(some 44), .bsliceI 31 .u64 1 [⟨0, 1, (.t 43)⟩], none, []⟩,
      ⟨(some 45), .appI 31 .u64 8 (.t 39) (.t 44), none, []⟩,
      ⟨(some 5), .mv (.t 45), none, []⟩])
    (.ops [⟨(some 46), .mv (.t 6), none, []⟩,
      ⟨(some 47), .bin .add .i64 (.t 46) (.k (.lit .i64 1)), none, []⟩,
      ⟨(some 6), .mv (.t 47), none, []⟩])) (.seq (.ops [⟨(some 48), .mv (.t 5), none, []⟩,
      ⟨(some 49), .mv (.t 1), none, []⟩,
      ⟨(some 50), .mv (.t 7), none, []⟩,
      ⟨(some 51), .iadr 1 (.t 49) (.t 50), none, []⟩,
      ⟨(some 52), .load1 (.t 51), none, []⟩,
      ⟨(some 53), .bsliceI 31 .u64 1 [⟨0, 1, (.t 52)⟩], none, []⟩,
      ⟨(some 54), .appI 31 .u64 8 (.t 48) (.t 53), none, []⟩,
      ⟨(some 5), .mv (.t 54), none, []⟩])
    (.ops [⟨(some 55), .mv (.t 7), none, []⟩,
      ⟨(some 56), .bin .add .i64 (.t 55) (.k (.lit .i64 1)), none, []⟩,
      ⟨(some 7), .mv (.t 56), none, []⟩]))))))))
    (.seq (.ops [⟨(some 57), .mv (.t 5), none, []⟩,
      ⟨(some 4), .mv (.t 57), none, []⟩])
    (.ret)))))
theorem fn66 : FnOk Try.prog 66 x66 58 [4] := FnOk.of Try.call66 Try.func66 (by kernel_rfl) Try.ntmps66 (by kernel_rfl)
/-- baler/canon.right -/
def x78 : XC :=
  .seq (.ops [⟨(some 2), .mv (.k (.bool false)), none, []⟩])
    (.seq (.ops [⟨(some 3), .mv (.k (.lit .i64 0)), none, []⟩,
      ⟨(some 4), .mv (.k (.lit .i64 0)), none, []⟩])
    (.seq (.seq (.ops [⟨(some 7), .mv (.t 0), none, []⟩,
      ⟨(some 8), .len (.t 7), none, []⟩,
      ⟨(some 9), .mv (.k (.lit .i64 0)), none, []⟩])
    (.block 0 (.loop (.seq (.ops [⟨(some 10), .cmp .lss (.t 9) (.t 8), none, []⟩])
    (.seq (.cond (.t 10) (.skip) (.exit 0))
    (.seq (.block 1 (.seq (.ops [⟨(some 11), .iadr 1 (.t 7) (.t 9), none, []⟩,
      ⟨(some 12), .load1 (.t 11), none, []⟩,
      ⟨(some 6), .mv (.t 12), none, []⟩])
    (.seq (.seq (.ops [⟨(some 13), .mv (.t 6), none, []⟩,
      ⟨(some 14), .cmp .gtr (.t 13) (.k (.lit .u8 15)), none, []⟩])
    (.cond (.t 14) (.seq (.ops [⟨(some 2), .mv (.k (.bool false)), none, []⟩])
    (.ret)) (.skip)))
    (.seq (.ops [⟨(some 15), .mv (.t 6), none, []⟩,
      ⟨(some 16), .cmp .gtr (.t 15) (.k (.lit .u8 0)), none, []⟩])
    (.cond (.t 16) (.ops [⟨(some 17), .mv (.t 3), none, []⟩,
      ⟨(some 18), .bin .add .i64 (.t 17) (.k (.lit .i64 1)), none, []⟩,
      ⟨(some 19), .mv (.t 4), none, []⟩,
      ⟨(some 20), .mv (.t 6), none, []⟩,
      ⟨(some 21), .bin .sub .u8 (.k (.lit .u8 15)) (.t 20), none, []⟩,
      ⟨(some 22), .conv .u64 (.t 21), none, []⟩,
      ⟨(some 23), .bin .shl .i64 (.k (.lit .i64 1)) (.t 22), none, []⟩,
      ⟨(some 24), .bin .add .i64 (.t 19) (.t 23), none, []⟩,
      ⟨(some 3), .mv (.t 18), none, []⟩,
      ⟨(some 4), .mv (.t 24), none, []⟩]) (.skip))))))
    (.ops [⟨(some 25), .bin .add .i64 (.t 9) (.k (.lit .i64 1)), none, []⟩,
      ⟨(some 9), .mv (.t 25), none, []⟩])))))))
    (.seq (.ops [⟨(some 26), .mv (.t 0), none, []⟩,
      ⟨(some 27), .len (.t 26), none, []⟩,
      ⟨(some 28), .cmp .leq (.t 27) (.k (.lit .i64 1024)), none, []⟩,
      ⟨(some 29), .mv (.t 28), none, []⟩,
      ⟨(some 30), .mv (.t 3), some (29, true), []⟩,
      ⟨(some 31), .cmp .geq (.t 30) (.k (.lit .i64 2)), some (29, true), []⟩,
      ⟨(some 32), .pick (.t 29) (.t 31) (.k (.bool false)), none, []⟩,
      ⟨(some 33), .mv (.t 32), none, []⟩,
      ⟨(some 34), .mv (.t 4), some (33, true), []⟩,
      ⟨(some 35), .cmp .eql (.t 34) (.k (.lit .i64 32768)), some (33, true), []⟩,
      ⟨(some 36), .pick (.t 33) (.t 35) (.k (.bool false)), none, []⟩,
      ⟨(some 2), .mv (.t 36), none, []⟩])
    (.ret))))
theorem fn78 : FnOk Try.prog 78 x78 37 [2] := FnOk.of Try.call78 Try.func78 (by kernel_rfl) Try.ntmps78 (by kernel_rfl)
/-- baler/canon.words -/
def x79 : XC :=
  .seq (.ops [⟨(some 1), .box 23 none (.t 0), none, []⟩,
      ⟨(some 2), .mv (.k (.val .nilFunc)), none, []⟩])
    (.seq (.ops [⟨(some 3), .mkfn 118 [(.t 1)], none, []⟩,
      ⟨(some 2), .mv (.t 3), none, []⟩])
    (.ret))
theorem fn79 : FnOk Try.prog 79 x79 4 [2] := FnOk.of Try.call79 Try.func79 (by kernel_rfl) Try.ntmps79 (by kernel_rfl)
/-- slices.SortStableFunc[[]baler/canon.coin,baler/canon.coin] -/
def x110 : XC :=
  .ops [⟨(some 4), .mv (.t 0), none, []⟩,
      ⟨(some 5), .mv (.t 0), none, []⟩,
      ⟨(some 6), .len (.t 5), none, []⟩,
      ⟨(some 7), .mv (.t 1), none, []⟩,
      ⟨(some 8), .call (.k (.fn 137 [])) [(.t 4), (.t 6), (.t 7)], none, []⟩]
theorem fn110 : FnOk Try.prog 110 x110 9 [] := FnOk.of Try.call110 Try.func110 (by kernel_rfl) Try.ntmps110 (by kernel_rfl)
/-- baler/canon.rising[baler/canon.coin]$1 -/
def x111 : XC :=
  .seq (.ops [⟨(some 3), .box 109 none (.t 0), none, []⟩,
      ⟨(some 4), .box 109 none (.t 1), none, []⟩,
      ⟨(some 5), .mv (.k (.lit .i64 0)), none, []⟩])
    (.seq (.ops [⟨(some 6), .load1 (.t 2), none, []⟩,
      ⟨(some 7), .loadA 2 (.t 3), none, []⟩,
      ⟨(some 9), .load1 (.t 2), none, []⟩,
      ⟨(some 10), .loadA 2 (.t 4), none, []⟩,
      ⟨(some 8), .call (.t 6) [(.t 7)], none, [(.loadA 2 (.t 4), 10, none), (.load1 (.t 2), 9, none)]⟩,
      ⟨(some 11), .call (.t 9) [(.t 10)], none, []⟩,
      ⟨(some 12), .call (.k (.fn 112 [])) [(.t 8), (.t 11)], none, []⟩,
      ⟨(some 5), .mv (.t 12), none, []⟩])
    (.ret))
theorem fn111 : FnOk Try.prog 111 x111 13 [5] := FnOk.of Try.call111 Try.func111 (by kernel_rfl) Try.ntmps111 (by kernel_rfl)
/-- cmp.Compare[uint64] -/
def x112 : XC :=
  .seq (.ops [⟨(some 4), .mv (.k (.lit .i64 0)), none, []⟩])
    (.seq (.ops [⟨(some 7), .mv (.t 0), none, []⟩,
      ⟨(some 8), .call (.k (.fn 138 [])) [(.t 7)], none, []⟩,
      ⟨(some 5), .mv (.t 8), none, []⟩])
    (.seq (.ops [⟨(some 9), .mv (.t 1), none, []⟩,
      ⟨(some 10), .call (.k (.fn 138 [])) [(.t 9)], none, []⟩,
      ⟨(some 6), .mv (.t 10), none, []⟩])
    (.seq (.seq (.ops [⟨(some 11), .mv (.t 5), none, []⟩])
    (.cond (.t 11) (.seq (.seq (.ops [⟨(some 12), .mv (.t 6), none, []⟩])
    (.cond (.t 12) (.seq (.ops [⟨(some 4), .mv (.k (.lit .i64 0)), none, []⟩])
    (.ret)) (.skip)))
    (.seq (.ops [⟨(some 4), .mv (.k (.lit .i64 (-1))), none, []⟩])
    (.ret))) (.skip)))
    (.seq (.seq (.ops [⟨(some 13), .mv (.t 6), none, []⟩])
    (.cond (.t 13) (.seq (.ops [⟨(some 4), .mv (.k (.lit .i64 1)), none, []⟩])
    (.ret)) (.skip)))
    (.seq (.seq (.ops [⟨(some 14), .mv (.t 0), none, []⟩,
      ⟨(some 15), .mv (.t 1), none, []⟩,
      ⟨(some 16), .cmp .lss (.t 14) (.t 15), none, []⟩])
    (.cond (.t 16) (.seq (.ops [⟨(some 4), .mv (.k (.lit .i64 (-1))), none, []⟩])
    (.ret)) (.skip)))
    (.seq (.seq (.ops [⟨(some 17), .mv (.t 0), none, []⟩,
      ⟨(some 18), .mv (.t 1), none, []⟩,
      ⟨(some 19), .cmp .gtr (.t 17) (.t 18), none, []⟩])
    (.cond (.t 19) (.seq (.ops [⟨(some 4), .mv (.k (.lit .i64 1)), none, []⟩])
    (.ret)) (.skip)))
    (.seq (.ops [⟨(some 4), .mv (.k (.lit .i64 0)), none, []⟩])
    (.ret))))))))
theorem fn112 : FnOk Try.prog 112 x112 20 [4] := FnOk.of Try.call112 Try.func112 (by kernel_rfl) Try.ntmps112 (by kernel_rfl)
/-- baler/canon.words$1 -/
def x118 : XC :=
  .seq (.ops [⟨(some 3), .mv (.k (.lit .i64 0)), none, []⟩])
    (.seq (.ops [⟨(some 4), .mv (.k (.lit .i64 1)), none, []⟩])
    (.block 0 (.loop (.seq (.seq (.ops [⟨(some 7), .mv (.t 4), none, []⟩,
      ⟨(some 8), .cmp .leq (.t 7) (.k (.lit .i64 15)), none, []⟩])
    (.cond (.t 8) (.skip) (.exit 0)))
    (.seq (.block 1 (.seq (.ops [⟨(some 11), .mv (.t 3), none, []⟩,
      ⟨(some 12), .bin .mul .i64 (.t 11) (.k (.lit .i64 2)), none, []⟩,
      ⟨(some 3), .mv (.t 12), none, []⟩])
    (.seq (.ops [⟨(some 13), .load1 (.t 1), none, []⟩,
      ⟨(some 14), .len (.t 13), none, []⟩,
      ⟨(some 15), .mv (.k (.lit .i64 0)), none, []⟩])
    (.block 2 (.loop (.seq (.ops [⟨(some 16), .cmp .lss (.t 15) (.t 14), none, []⟩])
    (.seq (.cond (.t 16) (.skip) (.exit 2))
    (.seq (.block 3 (.seq (.ops [⟨(some 17), .mv (.t 15), none, []⟩,
      ⟨(some 18), .iadr 1 (.t 13) (.t 15), none, []⟩,
      ⟨(some 19), .load1 (.t 18), none, []⟩,
      ⟨(some 5), .mv (.t 17), none, []⟩,
      ⟨(some 6), .mv (.t 19), none, []⟩])
    (.seq (.seq (.ops [⟨(some 20), .mv (.t 6), none, []⟩,
      ⟨(some 21), .conv .i64 (.t 20), none, []⟩,
      ⟨(some 22), .mv (.t 4), none, []⟩,
      ⟨(some 23), .cmp .neq (.t 21) (.t 22), none, []⟩])
    (.cond (.t 23) (.exit 3) (.skip)))
    (.seq (.seq (.ops [⟨(some 24), .mv (.t 0), none, []⟩,
      ⟨(some 25), .mv (.t 5), none, []⟩,
      ⟨(some 26), .mv (.t 3), none, []⟩,
      ⟨(some 27), .conv .u16 (.t 26), none, []⟩,
      ⟨(some 28), .call (.t 24) [(.t 25), (.t 27)], none, []⟩,
      ⟨(some 29), .not (.t 28), none, []⟩])
    (.cond (.t 29) (.ret) (.skip)))
    (.ops [⟨(some 30), .mv (.t 3), none, []⟩,
      ⟨(some 31), .bin .add .i64 (.t 30) (.k (.lit .i64 1)), none, []⟩,
      ⟨(some 3), .mv (.t 31), none, []⟩])))))
    (.ops [⟨(some 32), .bin .add .i64 (.t 15) (.k (.lit .i64 1)), none, []⟩,
      ⟨(some 15), .mv (.t 32), none, []⟩])))))))))
    (.ops [⟨(some 9), .mv (.t 4), none, []⟩,
      ⟨(some 10), .bin .add .i64 (.t 9) (.k (.lit .i64 1)), none, []⟩,
      ⟨(some 4), .mv (.t 10), none, []⟩]))))))
theorem fn118 : FnOk Try.prog 118 x118 33 [] := FnOk.of Try.call118 Try.func118 (by kernel_rfl) Try.ntmps118 (by kernel_rfl)
/-- slices.stableCmpFunc[baler/canon.coin] -/
def x137 : XC :=
  .seq (.ops [⟨(some 6), .mv (.k (.lit .i64 20)), none, []⟩])
    (.seq (.ops [⟨(some 10), .mv (.t 6), none, []⟩,
      ⟨(some 7), .mv (.k (.lit .i64 0)), none, []⟩,
      ⟨(some 8), .mv (.t 10), none, []⟩])
    (.seq (.block 0 (.loop (.seq (.seq (.ops [⟨(some 11), .mv (.t 8), none, []⟩,
      ⟨(some 12), .mv (.t 1), none, []⟩,
      ⟨(some 13), .cmp .leq (.t 11) (.t 12), none, []⟩])
    (.cond (.t 13) (.skip) (.exit 0)))
    (.block 1 (.seq (.ops [⟨(some 14), .mv (.t 0), none, []⟩,
      ⟨(some 15), .mv (.t 7), none, []⟩,
      ⟨(some 16), .mv (.t 8), none, []⟩,
      ⟨(some 17), .mv (.t 2), none, []⟩,
      ⟨(some 18), .call (.k (.fn 143 [])) [(.t 14), (.t 15), (.t 16), (.t 17)], none, []⟩])
    (.seq (.ops [⟨(some 19), .mv (.t 8), none, []⟩,
      ⟨(some 7), .mv (.t 19), none, []⟩])
    (.ops [⟨(some 20), .mv (.t 8), none, []⟩,
      ⟨(some 21), .mv (.t 6), none, []⟩,
      ⟨(some 22), .bin .add .i64 (.t 20) (.t 21), none, []⟩,
      ⟨(some 8), .mv (.t 22), none, []⟩])))))))
    (.seq (.ops [⟨(some 23), .mv (.t 0), none, []⟩,
      ⟨(some 24), .mv (.t 7), none, []⟩,
      ⟨(some 25), .mv (.t 1), none, []⟩,
      ⟨(some 26), .mv (.t 2), none, []⟩,
      ⟨(some 27), .call (.k (.fn 143 [])) [(.t 23), (.t 24), (.t 25), (.t 26)], none, []⟩])
    (.block 2 (.loop (.seq (.seq (.ops [⟨(some 28), .mv (.t 6), none, []⟩,
      ⟨(some 29), .mv (.t 1), none, []⟩,
      ⟨(some 30), .cmp .lss (.t 28) (.t 29), none, []⟩])
    (.cond (.t 30) (.skip) (.exit 2)))
    (.block 3 (.seq (.ops [⟨(some 31), .mv (.t 6), none, []⟩,
      ⟨(some 32), .bin .mul .i64 (.k (.lit .i64 2)) (.t 31), none, []⟩,
      ⟨(some 7), .mv (.k (.lit .i64 0)), none, []⟩,
      ⟨(some 8), .mv (.t 32), none, []⟩])
    (.seq (.block 4 (.loop (.seq (.seq (.ops [⟨(some 33), .mv (.t 8), none, []⟩,
      ⟨(some 34), .mv (.t 1), none, []⟩,
      ⟨(some 35), .cmp .leq (.t 33) (.t 34), none, []⟩])
    (.cond (.t 35) (.skip) (.exit 4)))
    (.block 5 (.seq (.ops [⟨(some 36), .mv (.t 0), none, []⟩,
      ⟨(some 37), .mv (.t 7), none, []⟩,
      ⟨(some 38), .mv (.t 7), none, []⟩,
      ⟨(some 39), .mv (.t 6), none, []⟩,
      ⟨(some 40), .bin .add .i64 (.t 38) (.t 39), none, []⟩,
      ⟨(some 41), .mv (.t 8), none, []⟩,
      ⟨(some 42), .mv (.t 2), none, []⟩,
      ⟨(some 43), .call (.k (.fn 144 [])) [(.t 36), (.t 37), (.t 40), (.t 41), (.t 42)], none, []⟩])
    (.seq (.ops [⟨(some 44), .mv (.t 8), none, []⟩,
      ⟨(some 7), .mv (.t 44), none, []⟩])
    (.ops [⟨(some 45), .mv (.t 8), none, []⟩,
      ⟨(some 46), .mv (.t 6), none, []⟩,
      ⟨(some 47), .bin .mul .i64 (.k (.lit .i64 2)) (.t 46), none, []⟩,
      ⟨(some 48), .bin .add .i64 (.t 45) (.t 47), none, []⟩,
      ⟨(some 8), .mv (.t 48), none, []⟩])))))))
    (.seq (.seq (.ops [⟨(some 49), .mv (.t 7), none, []⟩,
      ⟨(some 50), .mv (.t 6), none, []⟩,
      ⟨(some 51), .bin .add .i64 (.t 49) (.t 50), none, []⟩,
      ⟨(some 9), .mv (.t 51), none, []⟩])
    (.seq (.ops [⟨(some 52), .mv (.t 9), none, []⟩,
      ⟨(some 53), .mv (.t 1), none, []⟩,
      ⟨(some 54), .cmp .lss (.t 52) (.t 53), none, []⟩])
    (.cond (.t 54) (.ops [⟨(some 55), .mv (.t 0), none, []⟩,
      ⟨(some 56), .mv (.t 7), none, []⟩,
      ⟨(some 57), .mv (.t 9), none, []⟩,
      ⟨(some 58), .mv (.t 1), none, []⟩,
      ⟨(some 59), .mv (.t 2), none, []⟩,
      ⟨(some 60), .call (.k (.fn 144 [])) [(.t 55), (.t 56), (.t 57), (.t 58), (.t 59)], none, []⟩]) (.skip))))
    (.ops [⟨(some 61), .mv (.t 6), none, []⟩,
      ⟨(some 62), .bin .mul .i64 (.t 61) (.k (.lit .i64 2)), none, []⟩,
      ⟨(some 6), .mv (.t 62), none, []⟩])))))))))))
theorem fn137 : FnOk Try.prog 137 x137 63 [] := FnOk.of Try.call137 Try.func137 (by kernel_rfl) Try.ntmps137 (by kernel_rfl)
/-- cmp.isNaN[uint64] -/
def x138 : XC :=
  .seq (.ops [⟨(some 2), .mv (.k (.bool false)), none, []⟩])
    (.seq (.ops [⟨(some 3), .mv (.t 0), none, []⟩,
      ⟨(some 4), .mv (.t 0), none, []⟩,
      ⟨(some 5), .cmp .neq (.t 3) (.t 4), none, []⟩,
      ⟨(some 2), .mv (.t 5), none, []⟩])
    (.ret))
theorem fn138 : FnOk Try.prog 138 x138 6 [2] := FnOk.of Try.call138 Try.func138 (by kernel_rfl) Try.ntmps138 (by kernel_rfl)
/-- slices.insertionSortCmpFunc[baler/canon.coin] -/
def x143 : XC :=
  .seq (.ops [⟨(some 10), .mv (.t 1), none, []⟩,
      ⟨(some 11), .bin .add .i64 (.t 10) (.k (.lit .i64 1)), none, []⟩,
      ⟨(some 8), .mv (.t 11), none, []⟩])
    (.block 0 (.loop (.seq (.seq (.ops [⟨(some 12), .mv (.t 8), none, []⟩,
      ⟨(some 13), .mv (.t 2), none, []⟩,
      ⟨(some 14), .cmp .lss (.t 12) (.t 13), none, []⟩])
    (.cond (.t 14) (.skip) (.exit 0)))
    (.seq (.block 1 (.seq (.ops [⟨(some 17), .mv (.t 8), none, []⟩,
      ⟨(some 9), .mv (.t 17), none, []⟩])
    (.block 2 (.loop (.seq (.seq (.ops [⟨(some 18), .mv (.t 9), none, []⟩,
      ⟨(some 19), .mv (.t 1), none, []⟩,
      ⟨(some 20), .cmp .gtr (.t 18) (.t 19), none, []⟩,
      ⟨(some 21), .mv (.t 20), none, []⟩,
      ⟨(some 22), .mv (.t 3), some (21, true), []⟩,
      ⟨(some 23), .mv (.t 0), some (21, true), []⟩,
      ⟨(some 24), .mv (.t 9), some (21, true), []⟩,
      ⟨(some 25), .iadr 2 (.t 23) (.t 24), some (21, true), []⟩,
      ⟨(some 26), .loadA 2 (.t 25), some (21, true), []⟩,
      ⟨(some 27), .mv (.t 0), some (21, true), []⟩,
      ⟨(some 28), .mv (.t 9), some (21, true), []⟩,
      ⟨(some 29), .bin .sub .i64 (.t 28) (.k (.lit .i64 1)), some (21, true), []⟩,
      ⟨(some 30), .iadr 2 (.t 27) (.t 29), some (21, true), []⟩,
      ⟨(some 31), .loadA 2 (.t 30), some (21, true), []⟩,
      ⟨(some 32), .call (.t 22) [(.t 26), (.t 31)], some (21, true), []⟩,
      ⟨(some 33), .cmp .lss (.t 32) (.k (.lit .i64 0)), some (21, true), []⟩,
      ⟨(some 34), .pick (.t 21) (.t 33) (.k (.bool false)), none, []⟩])
    (.cond (.t 34) (.skip) (.exit 2)))
    (.seq (.block 3 (.ops [⟨(some 37), .mv (.t 0), none, []⟩,
      ⟨(some 38), .mv (.t 9), none, []⟩,
      ⟨(some 39), .mv (.t 0), none, []⟩,
      ⟨(some 40), .mv (.t 9), none, []⟩,
      ⟨(some 41), .bin .sub .i64 (.t 40) (.k (.lit .i64 1)), none, []⟩,
      ⟨(some 42), .mv (.t 0), none, []⟩,
      ⟨(some 43), .mv (.t 9), none, []⟩,
      ⟨(some 44), .bin .sub .i64 (.t 43) (.k (.lit .i64 1)), none, []⟩,
      ⟨(some 45), .iadr 2 (.t 42) (.t 44), none, []⟩,
      ⟨(some 46), .loadA 2 (.t 45), none, []⟩,
      ⟨(some 47), .mv (.t 0), none, []⟩,
      ⟨(some 48), .mv (.t 9), none, []⟩,
      ⟨(some 49), .iadr 2 (.t 47) (.t 48), none, []⟩,
      ⟨(some 50), .loadA 2 (.t 49), none, []⟩,
      ⟨(some 51), .iadr 2 (.t 37) (.t 38), none, []⟩,
      ⟨none, .storeA 2 (.t 51) (.t 46), none, []⟩,
      ⟨(some 52), .iadr 2 (.t 39) (.t 41), none, []⟩,
      ⟨none, .storeA 2 (.t 52) (.t 50), none, []⟩]))
    (.ops [⟨(some 35), .mv (.t 9), none, []⟩,
      ⟨(some 36), .bin .sub .i64 (.t 35) (.k (.lit .i64 1)), none, []⟩,
      ⟨(some 9), .mv (.t 36), none, []⟩])))))))
    (.ops [⟨(some 15), .mv (.t 8), none, []⟩,
      ⟨(some 16), .bin .add .i64 (.t 15) (.k (.lit .i64 1)), none, []⟩,
      ⟨(some 8), .mv (.t 16), none, []⟩])))))
theorem fn143 : FnOk Try.prog 143 x143 53 [] := FnOk.of Try.call143 Try.func143 (by kernel_rfl) Try.ntmps143 (by kernel_rfl)
/-- slices.symMergeCmpFunc[baler/canon.coin] -/
def x144 : XC :=
  .seq (.seq (.ops [⟨(some 25), .mv (.t 2), none, []⟩,
      ⟨(some 26), .mv (.t 1), none, []⟩,
      ⟨(some 27), .bin .sub .i64 (.t 25) (.t 26), none, []⟩,
      ⟨(some 28), .cmp .eql (.t 27) (.k (.lit .i64 1)), none, []⟩])
    (.cond (.t 28) (.seq (.ops [⟨(some 29), .mv (.t 2), none, []⟩,
      ⟨(some 10), .mv (.t 29), none, []⟩])
    (.seq (.ops [⟨(some 30), .mv (.t 3), none, []⟩,
      ⟨(some 11), .mv (.t 30), none, []⟩])
    (.seq (.block 0 (.loop (.seq (.seq (.ops [⟨(some 31), .mv (.t 10), none, []⟩,
      ⟨(some 32), .mv (.t 11), none, []⟩,
      ⟨(some 33), .cmp .lss (.t 31) (.t 32), none, []⟩])
    (.cond (.t 33) (.skip) (.exit 0)))
    (.block 1 (.seq (.ops [⟨(some 34), .mv (.t 10), none, []⟩,
      ⟨(some 35), .mv (.t 11), none, []⟩,
      ⟨(some 36), .bin .add .i64 (.t 34) (.t 35), none, []⟩,
      ⟨(some 37), .conv .u64 (.t 36), none, []⟩,
      ⟨(some 38), .bin .shr .u64 (.t 37) (.k (.lit .u64 1)), none, []⟩,
      ⟨(some 39), .conv .i64 (.t 38), none, []⟩,
      ⟨(some 12), .mv (.t 39), none, []⟩])
    (.seq (.ops [⟨(some 40), .mv (.t 4), none, []⟩,
      ⟨(some 41), .mv (.t 0), none, []⟩,
      ⟨(some 42), .mv (.t 12), none, []⟩,
      ⟨(some 43), .iadr 2 (.t 41) (.t 42), none, []⟩,
      ⟨(some 44), .loadA 2 (.t 43), none, []⟩,
      ⟨(some 45), .mv (.t 0), none, []⟩,
      ⟨(some 46), .mv (.t 1), none, []⟩,
      ⟨(some 47), .iadr 2 (.t 45) (.t 46), none, []⟩,
      ⟨(some 48), .loadA 2 (.t 47), none, []⟩,
      ⟨(some 49), .call (.t 40) [(.t 44), (.t 48)], none, []⟩,
      ⟨(some 50), .cmp .lss (.t 49) (.k (.lit .i64 0)), none, []⟩])
    (.cond (.t 50) (.ops [⟨(some 51), .mv (.t 12), none, []⟩,
      ⟨(some 52), .bin .add .i64 (.t 51) (.k (.lit .i64 1)), none, []⟩,
      ⟨(some 10), .mv (.t 52), none, []⟩]) (.ops [⟨(some 53), .mv (.t 12), none, []⟩,
      ⟨(some 11), .mv (.t 53), none, []⟩]))))))))
    (.seq (.seq (.ops [⟨(some 54), .mv (.t 1), none, []⟩,
      ⟨(some 13), .mv (.t 54), none, []⟩])
    (.block 2 (.loop (.seq (.seq (.ops [⟨(some 55), .mv (.t 13), none, []⟩,
      ⟨(some 56), .mv (.t 10), none, []⟩,
      ⟨(some 57), .bin .sub .i64 (.t 56) (.k (.lit .i64 1)), none, []⟩,
      ⟨(some 58), .cmp .lss (.t 55) (.t 57), none, []⟩])
    (.cond (.t 58) (.skip) (.exit 2)))
    (.seq (.block 3 (.ops [⟨(some 61), .mv (.t 0), none, []⟩,
      ⟨(some 62), .mv (.t 13), none, []⟩,
      ⟨(some 63), .mv (.t 0), none, []⟩,
      ⟨(some 64), .mv (.t 13), none, []⟩,
      ⟨(some 65), .bin .add .i64 (.t 64) (.k (.lit .i64 1)), none, []⟩,
      ⟨(some 66), .mv (.t 0), none, []⟩,
      ⟨(some 67), .mv (.t 13), none, []⟩,
      ⟨(some 68), .bin .add .i64 (.t 67) (.k (.lit .i64 1)), none, []⟩,
      ⟨(some 69), .iadr 2 (.t 66) (.t 68), none, []⟩,
      ⟨(some 70), .loadA 2 (.t 69), none, []⟩,
      ⟨(some 71), .mv (.t 0), none, []⟩,
      ⟨(some 72), .mv (.t 13), none, []⟩,
      ⟨(some 73), .iadr 2 (.t 71) (.t 72), none, []⟩,
      ⟨(some 74), .loadA 2 (.t 73), none, []⟩,
      ⟨(some 75), .iadr 2 (.t 61) (.t 62), none, []⟩,
      ⟨none, .storeA 2 (.t 75) (.t 70), none, []⟩,
      ⟨(some 76), .iadr 2 (.t 63) (.t 65), none, []⟩,
      ⟨none, .storeA 2 (.t 76) (.t 74), none, []⟩]))
    (.ops [⟨(some 59), .mv (.t 13), none, []⟩,
      ⟨(some 60), .bin .add .i64 (.t 59) (.k (.lit .i64 1)), none, []⟩,
      ⟨(some 13), .mv (.t 60), none, []⟩]))))))
    (.ret))))) (.skip)))
    (.seq (.seq (.ops [⟨(some 77), .mv (.t 3), none, []⟩,
      ⟨(some 78), .mv (.t 2), none, []⟩,
      ⟨(some 79), .bin .sub .i64 (.t 77) (.t 78), none, []⟩,
      ⟨(some 80), .cmp .eql (.t 79) (.k (.lit .i64 1)), none, []⟩])
    (.cond (.t 80) (.seq (.ops [⟨(some 81), .mv (.t 1), none, []⟩,
      ⟨(some 14), .mv (.t 81), none, []⟩])
    (.seq (.ops [⟨(some 82), .mv (.t 2), none, []⟩,
      ⟨(some 15), .mv (.t 82), none, []⟩])
    (.seq (.block 4 (.loop (.seq (.seq (.ops [⟨(some 83), .mv (.t 14), none, []⟩,
      ⟨(some 84), .mv (.t 15), none, []⟩,
      ⟨(some 85), .cmp .lss (.t 83) (.t 84), none, []⟩])
    (.cond (.t 85) (.skip) (.exit 4)))
    (.block 5 (.seq (.ops [⟨(some 86), .mv (.t 14), none, []⟩,
      ⟨(some 87), .mv (.t 15), none, []⟩,
      ⟨(some 88), .bin .add .i64 (.t 86) (.t 87), none, []⟩,
      ⟨(some 89), .conv .u64 (.t 88), none, []⟩,
      ⟨(some 90), .bin .shr .u64 (.t 89) (.k (.lit .u64 1)), none, []⟩,
      ⟨(some 91), .conv .i64 (.t 90), none, []⟩,
      ⟨(some 16), .mv (.t 91), none, []⟩])
    (.seq (.ops [⟨(some 92), .mv (.t 4), none, []⟩,
      ⟨(some 93), .mv (.t 0), none, []⟩,
      ⟨(some 94), .mv (.t 2), none, []⟩,
      ⟨(some 95), .iadr 2 (.t 93) (.t 94), none, []⟩,
      ⟨(some 96), .loadA 2 (.t 95), none, []⟩,
      ⟨(some 97), .mv (.t 0), none, []⟩,
      ⟨(some 98), .mv (.t 16), none, []⟩,
      ⟨(some 99), .iadr 2 (.t 97) (.t 98), none, []⟩,
      ⟨(some 100), .loadA 2 (.t 99), none, []⟩,
      ⟨(some 101), .call (.t 92) [(.t 96), (.t 100)], none, []⟩,
      ⟨(some 102), .cmp .lss (.t 101) (.k (.lit .i64 0)), none, []⟩,
      ⟨(some 103), .not (.t 102), none, []⟩])
    (.cond (.t 103) (.ops [⟨(some 104), .mv (.t 16), none, []⟩,
      ⟨(some 105), .bin .add .i64 (.t 104) (.k (.lit .i64 1)), none, []⟩,
      ⟨(some 14), .mv (.t 105), none, []⟩]) (.ops [⟨(some 106), .mv (.t 16), none, []⟩,
      ⟨(some 15), .mv (.t 106), none, []⟩]))))))))
    (.seq (.seq (.ops [⟨(some 107), .mv (.t 2), none, []⟩,
      ⟨(some 17), .mv (.t 107), none, []⟩])
    (.block 6 (.loop (.seq (.seq (.ops [⟨(some 108), .mv (.t 17), none, []⟩,
      ⟨(some 109), .mv (.t 14), none, []⟩,
      ⟨(some 110), .cmp .gtr (.t 108) (.t 109), none, []⟩])
    (.cond (.t 110) (.skip) (.exit 6)))
    (.seq (.block 7 (.ops [⟨(some 113), .mv (.t 0), none, []⟩,
      ⟨(some 114), .mv (.t 17), none, []⟩,
      ⟨(some 115), .mv (.t 0), none, []⟩,
      ⟨(some 116), .mv (.t 17), none, []⟩,
      ⟨(some 117), .bin .sub .i64 (.t 116) (.k (.lit .i64 1)), none, []⟩,
      ⟨(some 118), .mv (.t 0), none, []⟩,
      ⟨(some 119), .mv (.t 17), none, []⟩,
      ⟨(some 120), .bin .sub .i64 (.t 119) (.k (.lit .i64 1)), none, []⟩,
      ⟨(some 121), .iadr 2 (.t 118) (.t 120), none, []⟩,
      ⟨(some 122), .loadA 2 (.t 121), none, []⟩,
      ⟨(some 123), .mv (.t 0), none, []⟩,
      ⟨(some 124), .mv (.t 17), none, []⟩,
      ⟨(some 125), .iadr 2 (.t 123) (.t 124), none, []⟩,
      ⟨(some 126), .loadA 2 (.t 125), none, []⟩,
      ⟨(some 127), .iadr 2 (.t 113) (.t 114), none, []⟩,
      ⟨none, .storeA 2 (.t 127) (.t 122), none, []⟩,
      ⟨(some 128), .iadr 2 (.t 115) (.t 117), none, []⟩,
      ⟨none, .storeA 2 (.t 128) (.t 126), none, []⟩]))
    (.ops [⟨(some 111), .mv (.t 17), none, []⟩,
      ⟨(some 112), .bin .sub .i64 (.t 111) (.k (.lit .i64 1)), none, []⟩,
      ⟨(some 17), .mv (.t 112), none, []⟩]))))))
    (.ret))))) (.skip)))
    (.seq (.ops [⟨(some 129), .mv (.t 1), none, []⟩,
      ⟨(some 130), .mv (.t 3), none, []⟩,
      ⟨(some 131), .bin .add .i64 (.t 129) (.t 130), none, []⟩,
      ⟨(some 132), .conv .u64 (.t 131), none, []⟩,
      ⟨(some 133), .bin .shr .u64 (.t 132) (.k (.lit .u64 1)), none, []⟩,
      ⟨(some 134), .conv .i64 (.t 133), none, []⟩,
      ⟨(some 18), .mv (.t 134), none, []⟩])
    (.seq (.ops [⟨(some 135), .mv (.t 18), none, []⟩,
      ⟨(some 136), .mv (.t 2), none, []⟩,
      ⟨(some 137), .bin .add .i64 (.t 135) (.t 136), none, []⟩,
      ⟨(some 19), .mv (.t 137), none, []⟩])
    (.seq (.ops [⟨(some 20), .mv (.k (.lit .i64 0)), none, []⟩,
      ⟨(some 21), .mv (.k (.lit .i64 0)), none, []⟩])
    (.seq (.seq (.ops [⟨(some 138), .mv (.t 2), none, []⟩,
      ⟨(some 139), .mv (.t 18), none, []⟩,
      ⟨(some 140), .cmp .gtr (.t 138) (.t 139), none, []⟩])
    (.cond (.t 140) (.seq (.ops [⟨(some 141), .mv (.t 19), none, []⟩,
      ⟨(some 142), .mv (.t 3), none, []⟩,
      ⟨(some 143), .bin .sub .i64 (.t 141) (.t 142), none, []⟩,
      ⟨(some 20), .mv (.t 143), none, []⟩])
    (.ops [⟨(some 144), .mv (.t 18), none, []⟩,
      ⟨(some 21), .mv (.t 144), none, []⟩])) (.seq (.ops [⟨(some 145), .mv (.t 1), none, []⟩,
      ⟨(some 20), .mv (.t 145), none, []⟩])
    (.ops [⟨(some 146), .mv (.t 2), none, []⟩,
      ⟨(some 21), .mv (.t 146), none, []⟩]))))
    (.seq (.ops [⟨(some 147), .mv (.t 19), none, []⟩,
      ⟨(some 148), .bin .sub .i64 (.t 147) (.k (.lit .i64 1)), none, []⟩,
      ⟨(some 22), .mv (.t 148), none, []⟩])
    (.seq (.block 8 (.loop (.seq (.seq (.ops [⟨(some 149), .mv (.t 20), none, []⟩,
      ⟨(some 150), .mv (.t 21), none, []⟩,
      ⟨(some 151), .cmp .lss (.t 149) (.t 150), none, []⟩])
    (.cond (.t 151) (.skip) (.exit 8)))
    (.block 9 (.seq (.ops [⟨(some 152), .mv (.t 20), none, []⟩,
      ⟨(some 153), .mv (.t 21), none, []⟩,
      ⟨(some 154), .bin .add .i64 (.t 152) (.t 153), none, []⟩,
      ⟨(some 155), .conv .u64 (.t 154), none, []⟩,
      ⟨(some 156), .bin .shr .u64 (.t 155) (.k (.lit .u64 1)), none, []⟩,
      ⟨(some 157), .conv .i64 (.t 156), none, []⟩,
      ⟨(some 23), .mv (.t 157), none, []⟩])
    (.seq (.ops [⟨(some 158), .mv (.t 4), none, []⟩,
      ⟨(some 159), .mv (.t 0), none, []⟩,
      ⟨(some 160), .mv (.t 22), none, []⟩,
      ⟨(some 161), .mv (.t 23), none, []⟩,
      ⟨(some 162), .bin .sub .i64 (.t 160) (.t 161), none, []⟩,
      ⟨(some 163), .iadr 2 (.t 159) (.t 162), none, []⟩,
      ⟨(some 164), .loadA 2 (.t 163), none, []⟩,
      ⟨(some 165), .mv (.t 0), none, []⟩,
      ⟨(some 166), .mv (.t 23), none, []⟩,
      ⟨(some 167), .iadr 2 (.t 165) (.t 166), none, []⟩,
      ⟨(some 168), .loadA 2 (.t 167), none, []⟩,
      ⟨(some 169), .call (.t 158) [(.t 164), (.t 168)], none, []⟩,
      ⟨(some 170), .cmp .lss (.t 169) (.k (.lit .i64 0)), none, []⟩,
      ⟨(some 171), .not (.t 170), none, []⟩])
    (.cond (.t 171) (.ops [⟨(some 172), .mv (.t 23), none, []⟩,
      ⟨(some 173), .bin .add .i64 (.t 172) (.k (.lit .i64 1)), none, []⟩,
      ⟨(some 20), .mv (.t 173), none, []⟩]) (.ops [⟨(some 174), .mv (.t 23), none, []⟩,
      ⟨(some 21), .mv (.t 174), none, []⟩]))))))))
    (.seq (.ops [⟨(some 175), .mv (.t 19), none, []⟩,
      ⟨(some 176), .mv (.t 20), none, []⟩,
      ⟨(some 177), .bin .sub .i64 (.t 175) (.t 176), none, []⟩,
      ⟨(some 24), .mv (.t 177), none, []⟩])
    (.seq (.seq (.ops [⟨(some 178), .mv (.t 20), none, []⟩,
      ⟨(some 179), .mv (.t 2), none, []⟩,
      ⟨(some 180), .cmp .lss (.t 178) (.t 179), none, []⟩,
      ⟨(some 181), .mv (.t 180), none, []⟩,
      ⟨(some 182), .mv (.t 2), some (181, true), []⟩,
      ⟨(some 183), .mv (.t 24), some (181, true), []⟩,
      ⟨(some 184), .cmp .lss (.t 182) (.t 183), some (181, true), []⟩,
      ⟨(some 185), .pick (.t 181) (.t 184) (.k (.bool false)), none, []⟩])
    (.cond (.t 185) (.ops [⟨(some 186), .mv (.t 0), none, []⟩,
      ⟨(some 187), .mv (.t 20), none, []⟩,
      ⟨(some 188), .mv (.t 2), none, []⟩,
      ⟨(some 189), .mv (.t 24), none, []⟩,
      ⟨(some 190), .mv (.t 4), none, []⟩,
      ⟨(some 191), .call (.k (.fn 145 [])) [(.t 186), (.t 187), (.t 188), (.t 189), (.t 190)], none, []⟩]) (.skip)))
    (.seq (.seq (.ops [⟨(some 192), .mv (.t 1), none, []⟩,
      ⟨(some 193), .mv (.t 20), none, []⟩,
      ⟨(some 194), .cmp .lss (.t 192) (.t 193), none, []⟩,
      ⟨(some 195), .mv (.t 194), none, []⟩,
      ⟨(some 196), .mv (.t 20), some (195, true), []⟩,
      ⟨(some 197), .mv (.t 18), some (195, true), []⟩,
      ⟨(some 198), .cmp .lss (.t 196) (.t 197), some (195, true), []⟩,
      ⟨(some 199), .pick (.t 195) (.t 198) (.k (.bool false)), none, []⟩])
    (.cond (.t 199) (.ops [⟨(some 200), .mv (.t 0), none, []⟩,
      ⟨(some 201), .mv (.t 1), none, []⟩,
      ⟨(some 202), .mv (.t 20), none, []⟩,
      ⟨(some 203), .mv (.t 18), none, []⟩,
      ⟨(some 204), .mv (.t 4), none, []⟩,
      ⟨(some 205), .call (.k (.fn 144 [])) [(.t 200), (.t 201), (.t 202), (.t 203), (.t 204)], none, []⟩]) (.skip)))
    (.seq (.ops [⟨(some 206), .mv (.t 18), none, []⟩,
      ⟨(some 207), .mv (.t 24), none, []⟩,
      ⟨(some 208), .cmp .lss (.t 206) (.t 207), none, []⟩,
      ⟨(some 209), .mv (.t 208), none, []⟩,
      ⟨(some 210), .mv (.t 24), some (209, true), []⟩,
      ⟨(some 211), .mv (.t 3), some (209, true), []⟩,
      ⟨(some 212), .cmp .lss (.t 210) (.t 211), some (209, true), []⟩,
      ⟨(some 213), .pick (.t 209) (.t 212) (.k (.bool false)), none, []⟩])
    (.cond (.t 213) (.ops [⟨(some 214), .mv (.t 0), none, []⟩,
      ⟨(some 215), .mv (.t 18), none, []⟩,
      ⟨(some 216), .mv (.t 24), none, []⟩,
      ⟨(some 217), .mv (.t 3), none, []⟩,
      ⟨(some 218), .mv (.t 4), none, []⟩,
      ⟨(some 219), .call (.k (.fn 144 [])) [(.t 214), (.t 215), (.t 216), (.t 217), (.t 218)], none, []⟩]) (.skip)))))))))))))
theorem fn144 : FnOk Try.prog 144 x144 220 [] := FnOk.of Try.call144 Try.func144 (by kernel_rfl) Try.ntmps144 (by kernel_rfl)
/-- slices.rotateCmpFunc[baler/canon.coin] -/
def x145 : XC :=
  .seq (.ops [⟨(some 12), .mv (.t 2), none, []⟩,
      ⟨(some 13), .mv (.t 1), none, []⟩,
      ⟨(some 14), .bin .sub .i64 (.t 12) (.t 13), none, []⟩,
      ⟨(some 10), .mv (.t 14), none, []⟩])
    (.seq (.ops [⟨(some 15), .mv (.t 3), none, []⟩,
      ⟨(some 16), .mv (.t 2), none, []⟩,
      ⟨(some 17), .bin .sub .i64 (.t 15) (.t 16), none, []⟩,
      ⟨(some 11), .mv (.t 17), none, []⟩])
    (.seq (.block 0 (.loop (.seq (.seq (.ops [⟨(some 18), .mv (.t 10), none, []⟩,
      ⟨(some 19), .mv (.t 11), none, []⟩,
      ⟨(some 20), .cmp .neq (.t 18) (.t 19), none, []⟩])
    (.cond (.t 20) (.skip) (.exit 0)))
    (.block 1 (.seq (.ops [⟨(some 21), .mv (.t 10), none, []⟩,
      ⟨(some 22), .mv (.t 11), none, []⟩,
      ⟨(some 23), .cmp .gtr (.t 21) (.t 22), none, []⟩])
    (.cond (.t 23) (.seq (.ops [⟨(some 24), .mv (.t 0), none, []⟩,
      ⟨(some 25), .mv (.t 2), none, []⟩,
      ⟨(some 26), .mv (.t 10), none, []⟩,
      ⟨(some 27), .bin .sub .i64 (.t 25) (.t 26), none, []⟩,
      ⟨(some 28), .mv (.t 2), none, []⟩,
      ⟨(some 29), .mv (.t 11), none, []⟩,
      ⟨(some 30), .mv (.t 4), none, []⟩,
      ⟨(some 31), .call (.k (.fn 146 [])) [(.t 24), (.t 27), (.t 28), (.t 29), (.t 30)], none, []⟩])
    (.ops [⟨(some 32), .mv (.t 10), none, []⟩,
      ⟨(some 33), .mv (.t 11), none, []⟩,
      ⟨(some 34), .bin .sub .i64 (.t 32) (.t 33), none, []⟩,
      ⟨(some 10), .mv (.t 34), none, []⟩])) (.seq (.ops [⟨(some 35), .mv (.t 0), none, []⟩,
      ⟨(some 36), .mv (.t 2), none, []⟩,
      ⟨(some 37), .mv (.t 10), none, []⟩,
      ⟨(some 38), .bin .sub .i64 (.t 36) (.t 37), none, []⟩,
      ⟨(some 39), .mv (.t 2), none, []⟩,
      ⟨(some 40), .mv (.t 11), none, []⟩,
      ⟨(some 41), .bin .add .i64 (.t 39) (.t 40), none, []⟩,
      ⟨(some 42), .mv (.t 10), none, []⟩,
      ⟨(some 43), .bin .sub .i64 (.t 41) (.t 42), none, []⟩,
      ⟨(some 44), .mv (.t 10), none, []⟩,
      ⟨(some 45), .mv (.t 4), none, []⟩,
      ⟨(some 46), .call (.k (.fn 146 [])) [(.t 35), (.t 38), (.t 43), (.t 44), (.t 45)], none, []⟩])
    (.ops [⟨(some 47), .mv (.t 11), none, []⟩,
      ⟨(some 48), .mv (.t 10), none, []⟩,
      ⟨(some 49), .bin .sub .i64 (.t 47) (.t 48), none, []⟩,
      ⟨(some 11), .mv (.t 49), none, []⟩]))))))))
    (.ops [⟨(some 50), .mv (.t 0), none, []⟩,
      ⟨(some 51), .mv (.t 2), none, []⟩,
      ⟨(some 52), .mv (.t 10), none, []⟩,
      ⟨(some 53), .bin .sub .i64 (.t 51) (.t 52), none, []⟩,
      ⟨(some 54), .mv (.t 2), none, []⟩,
      ⟨(some 55), .mv (.t 10), none, []⟩,
      ⟨(some 56), .mv (.t 4), none, []⟩,
      ⟨(some 57), .call (.k (.fn 146 [])) [(.t 50), (.t 53), (.t 54), (.t 55), (.t 56)], none, []⟩])))
theorem fn145 : FnOk Try.prog 145 x145 58 [] := FnOk.of Try.call145 Try.func145 (by kernel_rfl) Try.ntmps145 (by kernel_rfl)
/-- slices.swapRangeCmpFunc[baler/canon.coin] -/
def x146 : XC :=
  .seq (.ops [⟨(some 10), .mv (.k (.lit .i64 0)), none, []⟩])
    (.block 0 (.loop (.seq (.seq (.ops [⟨(some 11), .mv (.t 10), none, []⟩,
      ⟨(some 12), .mv (.t 3), none, []⟩,
      ⟨(some 13), .cmp .lss (.t 11) (.t 12), none, []⟩])
    (.cond (.t 13) (.skip) (.exit 0)))
    (.seq (.block 1 (.ops [⟨(some 16), .mv (.t 0), none, []⟩,
      ⟨(some 17), .mv (.t 1), none, []⟩,
      ⟨(some 18), .mv (.t 10), none, []⟩,
      ⟨(some 19), .bin .add .i64 (.t 17) (.t 18), none, []⟩,
      ⟨(some 20), .mv (.t 0), none, []⟩,
      ⟨(some 21), .mv (.t 2), none, []⟩,
      ⟨(some 22), .mv (.t 10), none, []⟩,
      ⟨(some 23), .bin .add .i64 (.t 21) (.t 22), none, []⟩,
      ⟨(some 24), .mv (.t 0), none, []⟩,
      ⟨(some 25), .mv (.t 2), none, []⟩,
      ⟨(some 26), .mv (.t 10), none, []⟩,
      ⟨(some 27), .bin .add .i64 (.t 25) (.t 26), none, []⟩,
      ⟨(some 28), .iadr 2 (.t 24) (.t 27), none, []⟩,
      ⟨(some 29), .loadA 2 (.t 28), none, []⟩,
      ⟨(some 30), .mv (.t 0), none, []⟩,
      ⟨(some 31), .mv (.t 1), none, []⟩,
      ⟨(some 32), .mv (.t 10), none, []⟩,
      ⟨(some 33), .bin .add .i64 (.t 31) (.t 32), none, []⟩,
      ⟨(some 34), .iadr 2 (.t 30) (.t 33), none, []⟩,
      ⟨(some 35), .loadA 2 (.t 34), none, []⟩,
      ⟨(some 36), .iadr 2 (.t 16) (.t 19), none, []⟩,
      ⟨none, .storeA 2 (.t 36) (.t 29), none, []⟩,
      ⟨(some 37), .iadr 2 (.t 20) (.t 23), none, []⟩,
      ⟨none, .storeA 2 (.t 37) (.t 35), none, []⟩]))
    (.ops [⟨(some 14), .mv (.t 10), none, []⟩,
      ⟨(some 15), .bin .add .i64 (.t 14) (.k (.lit .i64 1)), none, []⟩,
      ⟨(some 10), .mv (.t 15), none, []⟩])))))
theorem fn146 : FnOk Try.prog 146 x146 38 [] := FnOk.of Try.call146 Try.func146 (by kernel_rfl) Try.ntmps146 (by kernel_rfl)
end Go.Proofs.Ytodobmkflimfkaa
/-
  Contracts of seat 1's functions, part 1: no reader, no writer.
-/
namespace Go.Proofs.Ytodobmkflimfkaa
open Go Go.Sx Go.Proofs
theorem hmix : Try.prog.follows .mixedOrders = true := by kernel_rfl
end Go.Proofs.Ytodobmkflimfkaa
/-
  Sorting in place, plainly: an arrangement of the places, stable and by a key.
-/
namespace Go.Proofs.Ytodobmkflimfkaa
/-- p' is p, rearranged within the places from a to b. -/
structure PermOn (p p' : Nat → Nat) (a b : Nat) : Prop where
  out : ∀ m, m < a ∨ b ≤ m → p' m = p m
  sub : ∀ m, a ≤ m → m < b → ∃ m', a ≤ m' ∧ m' < b ∧ p' m = p m'
  inj : (∀ i j, p i = p j → i = j) → ∀ i j, p' i = p' j → i = j
/-- What is alike stands in its old order. -/
def St (k : Nat → Int) (p : Nat → Nat) : Prop := ∀ i j, i < j → k (p i) = k (p j) → p i < p j
def Srt (k : Nat → Int) (p : Nat → Nat) (a b : Nat) : Prop := ∀ i j, a ≤ i → i < j → j < b → k (p i) ≤ k (p j)
theorem PermOn.refl (p : Nat → Nat) (a b : Nat) : PermOn p p a b := ⟨fun _ _ => rfl, fun m h1 h2 => ⟨m, h1, h2, rfl⟩, fun h => h⟩
theorem PermOn.trans {p q r : Nat → Nat} {a b : Nat} (h : PermOn p q a b) (g : PermOn q r a b) : PermOn p r a b := by
  refine ⟨fun m hm => (g.out m hm).trans (h.out m hm), fun m h1 h2 => ?_, fun hi => g.inj (h.inj hi)⟩
  obtain ⟨m', h3, h4, e⟩ := g.sub m h1 h2
  obtain ⟨m'', h5, h6, e'⟩ := h.sub m' h3 h4
  exact ⟨m'', h5, h6, e.trans e'⟩
theorem PermOn.wide {p q : Nat → Nat} {a b a' b' : Nat} (h : PermOn p q a b) (ha : a' ≤ a) (hb : b ≤ b') : PermOn p q a' b' := by
  refine ⟨fun m hm => h.out m (by omega), fun m h1 h2 => ?_, h.inj⟩
  by_cases hm : a ≤ m ∧ m < b
  · obtain ⟨m', h3, h4, e⟩ := h.sub m hm.1 hm.2
    exact ⟨m', by omega, by omega, e⟩
  · exact ⟨m, h1, h2, h.out m (by omega)⟩
/-- Stable, if it is within. -/
theorem PermOn.st {k : Nat → Int} {p q : Nat → Nat} {a b : Nat} (h : PermOn p q a b) (hs : St k p) (hin : ∀ i j, a ≤ i → i < j → j < b → k (q i) = k (q j) → q i < q j) : St k q := by
  intro i j hij hk
  by_cases hi : a ≤ i ∧ i < b
  · by_cases hj : a ≤ j ∧ j < b
    · exact hin i j hi.1 hij hj.2 hk
    · obtain ⟨i', h1, h2, e⟩ := h.sub i hi.1 hi.2
      have ej := h.out j (by omega)
      rw [e, ej] at hk ⊢
      exact hs i' j (by omega) hk
  · have ei := h.out i (by omega)
    by_cases hj : a ≤ j ∧ j < b
    · obtain ⟨j', h1, h2, e⟩ := h.sub j hj.1 hj.2
      rw [e, ei] at hk ⊢
      exact hs i j' (by omega) hk
    · have ej := h.out j (by omega)
      rw [ei, ej] at hk ⊢
      exact hs i j hij hk
/-- Two places changed for each other. -/
@[irreducible] def swp (p : Nat → Nat) (i j : Nat) : Nat → Nat := fun m => if m = i then p j else if m = j then p i else p m
theorem swp_eq (p : Nat → Nat) (i j m : Nat) : swp p i j m = if m = i then p j else if m = j then p i else p m := by unfold swp; rfl
theorem swp_l (p : Nat → Nat) (i j : Nat) : swp p i j i = p j := by rw [swp_eq, if_pos rfl]
theorem swp_r (p : Nat → Nat) (i j : Nat) : swp p i j j = p i := by rw [swp_eq]; split <;> simp_all
theorem swp_o (p : Nat → Nat) (i j m : Nat) (h1 : m ≠ i) (h2 : m ≠ j) : swp p i j m = p m := by rw [swp_eq, if_neg h1, if_neg h2]
theorem swp_perm {p : Nat → Nat} {a b i j : Nat} (hi : a ≤ i ∧ i < b) (hj : a ≤ j ∧ j < b) : PermOn p (swp p i j) a b := by
  refine ⟨fun m hm => swp_o p i j m (by omega) (by omega), fun m h1 h2 => ?_, fun hinj x y hxy => ?_⟩
  · by_cases h : m = i
    · subst h; exact ⟨j, hj.1, hj.2, swp_l p m j⟩
    · by_cases h' : m = j
      · subst h'; exact ⟨i, hi.1, hi.2, swp_r p i m⟩
      · exact ⟨m, h1, h2, swp_o p i j m h h'⟩
  · rw [swp_eq, swp_eq] at hxy
    have hI := hinj
    repeat' split at hxy
    all_goals have := hinj _ _ hxy
    all_goals omega
/-- Two neighbours, not alike, changed for each other. -/
theorem swp_st {k : Nat → Int} {p : Nat → Nat} {i : Nat} (hs : St k p) (hk : k (p i) ≠ k (p (i + 1))) : St k (swp p i (i + 1)) := by
  refine (swp_perm (a := i) (b := i + 2) ⟨by omega, by omega⟩ ⟨by omega, by omega⟩).st hs (fun x y h1 h2 h3 hxy => ?_)
  obtain rfl : x = i := by omega
  obtain rfl : y = x + 1 := by omega
  rw [swp_l, swp_r] at hxy
  exact absurd hxy.symm hk
theorem swp_comm (p : Nat → Nat) (i j : Nat) : swp p i j = swp p j i := by
  funext m; rw [swp_eq, swp_eq]; by_cases h1 : m = i <;> by_cases h2 : m = j <;> simp_all

/-! ### A sort by insertion -/
/-- Between a and i all is in order, but that what stands at j may have to go further down. -/
def Ins (k : Nat → Int) (q : Nat → Nat) (a j i : Nat) : Prop := ∀ x y, a ≤ x → x < y → y ≤ i → y ≠ j → k (q x) ≤ k (q y)
theorem Ins.start {k : Nat → Int} {q : Nat → Nat} {a i : Nat} (h : Srt k q a i) : Ins k q a i i := fun x y h1 h2 h3 h4 => h x y h1 h2 (by omega)
theorem Ins.next {k : Nat → Int} {q : Nat → Nat} {a j i : Nat} (h : Ins k q a (j + 1) i) (hj : a ≤ j) (hji : j + 1 ≤ i) (hk : k (q (j + 1)) < k (q j)) : Ins k (swp q j (j + 1)) a j i := by
  intro x y h1 h2 h3 h4
  rw [swp_eq, swp_eq]
  have e1 := h x y h1 h2 h3
  have e2 := h j y hj
  have e3 := h (j + 1) y (by omega)
  have e4 := h x j h1
  repeat' split
  all_goals first | omega | skip
  all_goals simp_all
  all_goals first | omega | (rcases Nat.lt_trichotomy y (j + 1) with h | h | h <;> first | omega | (simp_all; omega))
theorem Ins.done {k : Nat → Int} {q : Nat → Nat} {a j i : Nat} (h : Ins k q a j i) (hj : j = a ∨ (a < j ∧ k (q (j - 1)) ≤ k (q j))) : Srt k q a (i + 1) := by
  intro x y h1 h2 h3
  by_cases hy : y = j
  · subst hy
    rcases hj with hj | ⟨hj, hk⟩
    · omega
    · by_cases hx : x = y - 1
      · subst hx; exact hk
      · exact Int.le_trans (h x (y - 1) h1 (by omega) (by omega) (by omega)) hk
  · exact h x y h1 h2 (by omega) hy

/-! ### One into a sorted row -/
/-- What stands at c goes up: the others are in order; up to i they are less. -/
structure Up (k : Nat → Int) (q : Nat → Nat) (a c i b : Nat) : Prop where
  oth : ∀ x y, a ≤ x → x < y → y < b → x ≠ c → y ≠ c → k (q x) ≤ k (q y)
  lo : ∀ x, a ≤ x → x < c → k (q x) ≤ k (q c)
  mid : ∀ y, c < y → y < i → k (q y) < k (q c)
  hi : ∀ y, i ≤ y → y < b → c < y → k (q c) ≤ k (q y)
theorem Up.next {k : Nat → Int} {q : Nat → Nat} {a c i b : Nat} (h : Up k q a c i b) (ha : a ≤ c) (hc : c + 1 < i) (hi : i ≤ b) : Up k (swp q c (c + 1)) a (c + 1) i b := by
  have hm := h.mid (c + 1) (by omega) hc
  refine ⟨fun x y h1 h2 h3 h4 h5 => ?_, fun x h1 h2 => ?_, fun y h1 h2 => ?_, fun y h1 h2 h3 => ?_⟩
  · by_cases hx : x = c
    · subst hx; rw [swp_l, swp_o _ _ _ y (by omega) (by omega)]; exact h.oth (x + 1) y (by omega) (by omega) h3 (by omega) (by omega)
    · by_cases hy : y = c
      · subst hy; rw [swp_l, swp_o _ _ _ x (by omega) (by omega)]; exact h.oth x (y + 1) h1 (by omega) (by omega) (by omega) (by omega)
      · rw [swp_o _ _ _ x hx h4, swp_o _ _ _ y hy h5]; exact h.oth x y h1 h2 h3 hx hy
  · rw [swp_r]
    by_cases hx : x = c
    · subst hx; rw [swp_l]; exact Int.le_of_lt hm
    · rw [swp_o _ _ _ x hx (by omega)]; exact h.lo x h1 (by omega)
  · rw [swp_r, swp_o _ _ _ y (by omega) (by omega)]; exact h.mid y (by omega) h2
  · rw [swp_r, swp_o _ _ _ y (by omega) (by omega)]; exact h.hi y h1 h2 (by omega)
theorem Up.done {k : Nat → Int} {q : Nat → Nat} {a c i b : Nat} (h : Up k q a c i b) (hc : i ≤ c + 1) : Srt k q a b := by
  intro x y h1 h2 h3
  by_cases hx : x = c
  · subst hx; exact h.hi y (by omega) h3 h2
  · by_cases hy : y = c
    · subst hy; exact h.lo x h1 h2
    · exact h.oth x y h1 h2 h3 hx hy
/-- What stands at c goes down: the others are in order; from i on they are greater. -/
structure Dn (k : Nat → Int) (q : Nat → Nat) (a i c b : Nat) : Prop where
  oth : ∀ x y, a ≤ x → x < y → y < b → x ≠ c → y ≠ c → k (q x) ≤ k (q y)
  hi : ∀ y, c < y → y < b → k (q c) ≤ k (q y)
  mid : ∀ x, i ≤ x → x < c → k (q c) < k (q x)
  lo : ∀ x, a ≤ x → x < i → x < c → k (q x) ≤ k (q c)
theorem Dn.next {k : Nat → Int} {q : Nat → Nat} {a i c b : Nat} (h : Dn k q a i (c + 1) b) (hi : i ≤ c) (ha : a ≤ i) (hc : c + 1 < b) : Dn k (swp q c (c + 1)) a i c b := by
  have hm := h.mid c hi (by omega)
  refine ⟨fun x y h1 h2 h3 h4 h5 => ?_, fun y h1 h2 => ?_, fun x h1 h2 => ?_, fun x h1 h2 h3 => ?_⟩
  · by_cases hx : x = c + 1
    · subst hx; rw [swp_r, swp_o _ _ _ y (by omega) (by omega)]; exact h.oth c y (by omega) (by omega) h3 (by omega) (by omega)
    · by_cases hy : y = c + 1
      · subst hy; rw [swp_r, swp_o _ _ _ x (by omega) (by omega)]; exact h.oth x c h1 (by omega) (by omega) (by omega) (by omega)
      · rw [swp_o _ _ _ x h4 hx, swp_o _ _ _ y h5 hy]; exact h.oth x y h1 h2 h3 hx hy
  · rw [swp_l]
    by_cases hy : y = c + 1
    · subst hy; rw [swp_r]; exact Int.le_of_lt hm
    · rw [swp_o _ _ _ y (by omega) hy]; exact h.hi y (by omega) h2
  · rw [swp_l, swp_o _ _ _ x (by omega) (by omega)]; exact h.mid x h1 (by omega)
  · rw [swp_l, swp_o _ _ _ x (by omega) (by omega)]; exact h.lo x h1 h2 (by omega)
theorem Dn.done {k : Nat → Int} {q : Nat → Nat} {a i c b : Nat} (h : Dn k q a i c b) (hc : c ≤ i) : Srt k q a b := by
  intro x y h1 h2 h3
  by_cases hx : x = c
  · subst hx; exact h.hi y h2 h3
  · by_cases hy : y = c
    · subst hy; exact h.lo x h1 (by omega) h2
    · exact h.oth x y h1 h2 h3 hx hy

/-! ### Blocks changed for each other; a rotation -/
@[irreducible] def swpR (p : Nat → Nat) (a b n : Nat) : Nat → Nat := fun x => if a ≤ x ∧ x < a + n then p (b + (x - a)) else if b ≤ x ∧ x < b + n then p (a + (x - b)) else p x
theorem swpR_eq (p : Nat → Nat) (a b n x : Nat) : swpR p a b n x = if a ≤ x ∧ x < a + n then p (b + (x - a)) else if b ≤ x ∧ x < b + n then p (a + (x - b)) else p x := by unfold swpR; rfl
theorem swpR_0 (p : Nat → Nat) (a b : Nat) : swpR p a b 0 = p := by
  funext x; rw [swpR_eq, if_neg (by omega), if_neg (by omega)]
theorem swpR_succ (p : Nat → Nat) (a b n : Nat) (h : a + n < b) : swp (swpR p a b n) (a + n) (b + n) = swpR p a b (n + 1) := by
  funext x
  rw [swp_eq]
  simp only [swpR_eq]
  repeat' split
  all_goals first | omega | (congr 1; omega) | rfl
/-- The places from a to m, and those from m to b, change. -/
@[irreducible] def rotF (p : Nat → Nat) (a m b : Nat) : Nat → Nat := fun x => if a ≤ x ∧ x < a + (b - m) then p (m + (x - a)) else if a + (b - m) ≤ x ∧ x < b then p (a + (x - (a + (b - m)))) else p x
theorem rotF_eq (p : Nat → Nat) (a m b x : Nat) : rotF p a m b x = if a ≤ x ∧ x < a + (b - m) then p (m + (x - a)) else if a + (b - m) ≤ x ∧ x < b then p (a + (x - (a + (b - m)))) else p x := by unfold rotF; rfl
theorem rot_l (p : Nat → Nat) (m i j : Nat) (hj : 0 < j) (hi : j < i) (hm : i ≤ m) : rotF (swpR p (m - i) m j) (m - (i - j)) m (m + j) = rotF p (m - i) m (m + j) := by
  funext x
  rw [rotF_eq, rotF_eq]
  simp only [swpR_eq]
  repeat' split
  all_goals first | omega | (congr 1; omega) | rfl
theorem rot_r (p : Nat → Nat) (m i j : Nat) (hi : 0 < i) (hj : i < j) (hm : i ≤ m) : rotF (swpR p (m - i) (m + j - i) i) (m - i) m (m + (j - i)) = rotF p (m - i) m (m + j) := by
  funext x
  rw [rotF_eq, rotF_eq]
  simp only [swpR_eq]
  repeat' split
  all_goals first | omega | (congr 1; omega) | rfl
theorem rot_e (p : Nat → Nat) (m i : Nat) (hm : i ≤ m) : swpR p (m - i) m i = rotF p (m - i) m (m + i) := by
  funext x
  rw [rotF_eq, swpR_eq]
  repeat' split
  all_goals first | omega | (congr 1; omega) | rfl
theorem rotF_perm {p : Nat → Nat} {a m b : Nat} (h1 : a ≤ m) (h2 : m ≤ b) : PermOn p (rotF p a m b) a b := by
  refine ⟨fun x hx => by rw [rotF_eq, if_neg (by omega), if_neg (by omega)], fun x h3 h4 => ?_, fun hinj x y hxy => ?_⟩
  · rw [rotF_eq]
    split
    · exact ⟨_, by omega, by omega, rfl⟩
    · rw [if_pos (by omega)]; exact ⟨_, by omega, by omega, rfl⟩
  · rw [rotF_eq, rotF_eq] at hxy
    repeat' split at hxy
    all_goals have := hinj _ _ hxy
    all_goals omega

/-! ### Two sorted rows become one -/
/-- Where the two rows are cut: what is ahead of the cuts is at most what is behind them. -/
structure CutAt (k : Nat → Int) (q : Nat → Nat) (a s m e b : Nat) : Prop where
  le1 : a ≤ s
  le2 : s ≤ m
  le3 : m ≤ e
  le4 : e ≤ b
  ll : ∀ x y, a ≤ x → x < s → e ≤ y → y < b → k (q x) ≤ k (q y)
  rl : ∀ x y, s ≤ x → x < m → m ≤ y → y < e → k (q y) < k (q x)
theorem CutAt.rot {k : Nat → Int} {q : Nat → Nat} {a s m e b : Nat} (h : CutAt k q a s m e b) (hl : Srt k q a m) (hr : Srt k q m b) (hst : St k q) :
    PermOn q (rotF q s m e) a b ∧ St k (rotF q s m e) ∧ Srt k (rotF q s m e) a s ∧ Srt k (rotF q s m e) s (s + (e - m)) ∧ Srt k (rotF q s m e) (s + (e - m)) e ∧ Srt k (rotF q s m e) e b ∧
    (∀ x y, a ≤ x → x < s + (e - m) → s + (e - m) ≤ y → y < b → k (rotF q s m e x) ≤ k (rotF q s m e y)) := by
  have h1 := h.le1; have h2 := h.le2; have h3 := h.le3; have h4 := h.le4
  have hp : PermOn q (rotF q s m e) s e := rotF_perm h2 h3
  refine ⟨hp.wide h1 h4, hp.st hst (fun i j hi hij hj hk => ?_), fun i j hi hij hj => ?_, fun i j hi hij hj => ?_, fun i j hi hij hj => ?_, fun i j hi hij hj => ?_, fun x y hx1 hx2 hy1 hy2 => ?_⟩
  · rw [rotF_eq, rotF_eq] at hk ⊢
    repeat' split at hk
    all_goals first | omega | skip
    · rw [if_pos (by omega), if_pos (by omega)]; exact hst _ _ (by omega) hk
    · have := h.rl (s + (j - (s + (e - m)))) (m + (i - s)) (by omega) (by omega) (by omega) (by omega); omega
    · rw [if_neg (by omega), if_pos (by omega), if_neg (by omega), if_pos (by omega)]; exact hst _ _ (by omega) hk
  · rw [hp.out i (by omega), hp.out j (by omega)]; exact hl i j hi hij (by omega)
  · rw [rotF_eq, if_pos (by omega), rotF_eq, if_pos (by omega)]; exact hr _ _ (by omega) (by omega) (by omega)
  · rw [rotF_eq, if_neg (by omega), if_pos (by omega), rotF_eq, if_neg (by omega), if_pos (by omega)]; exact hl _ _ (by omega) (by omega) (by omega)
  · rw [hp.out i (by omega), hp.out j (by omega)]; exact hr i j (by omega) hij hj
  · by_cases c1 : x < s
    · rw [hp.out x (by omega)]
      by_cases c2 : y < e
      · rw [rotF_eq, if_neg (by omega), if_pos (by omega)]; exact hl _ _ hx1 (by omega) (by omega)
      · rw [hp.out y (by omega)]; exact h.ll x y hx1 c1 (by omega) hy2
    · rw [rotF_eq, if_pos (by omega)]
      by_cases c2 : y < e
      · rw [rotF_eq, if_neg (by omega), if_pos (by omega)]; exact Int.le_of_lt (h.rl _ _ (by omega) (by omega) (by omega) (by omega))
      · rw [hp.out y (by omega)]; exact hr _ _ (by omega) (by omega) hy2
/-- Two parts, each rearranged, in order between them. -/
theorem Srt.join {k : Nat → Int} {q r : Nat → Nat} {a m b : Nat} (h : ∀ x y, a ≤ x → x < m → m ≤ y → y < b → k (q x) ≤ k (q y)) (h1 : Srt k r a m) (h2 : Srt k r m b)
    (hl : ∀ x, a ≤ x → x < m → ∃ x', a ≤ x' ∧ x' < m ∧ r x = q x') (hr : ∀ y, m ≤ y → y < b → ∃ y', m ≤ y' ∧ y' < b ∧ r y = q y') : Srt k r a b := by
  intro x y hx hxy hy
  by_cases c1 : y < m
  · exact h1 x y hx hxy c1
  · by_cases c2 : m ≤ x
    · exact h2 x y c2 hxy hy
    · obtain ⟨x', a1, a2, e1⟩ := hl x hx (by omega)
      obtain ⟨y', b1, b2, e2⟩ := hr y (by omega) hy
      rw [e1, e2]; exact h x' y' a1 a2 b1 b2
end Go.Proofs.Ytodobmkflimfkaa
namespace Go.Proofs.Ytodobmkflimfkaa
open Go Go.Sx Go.Proofs
/-! The order of coins whose symbols lie where nothing writes: amount (63), the comparison of two coins (111); blocks changed for each other (146). -/
set_option maxRecDepth 100000 in
theorem amountV_con (a : Int) (x l c : Nat) : Con Try.prog 63 [.agg [.int .u64 a, .val (.slice (some ⟨x, 0, none⟩) l c)]] [] (fun v H R => v = .int .u64 a ∧ H = [] ∧ R = []) := by
  refine con_gen (con_cut 0 (by simp) (con_red [] (con_walk hmix fn63 ?_)))
  intro vb vc vw vtoN vofN vaddN vsubN vmaxI vminI vcutN vgd vst vln vrep vsub vonto vsplice vstrEq vbyteV vnotB veqB hw qb qc qw qtoN qofN qaddN qsubN qmaxI qminI qcutN qgd qst qln qrep qsub qonto qsplice qstrEq qbyteV qnotB qeqB
  have hm := hmix; generalize Try.prog = P at *
  cbv
theorem isNaNV_con (a : Int) : Con Try.prog 138 [.int .u64 a] [] (fun v H R => v = .bool false ∧ H = [] ∧ R = []) := by
  refine con_gen (con_cut 0 (by simp) (con_red [] (con_walk hmix fn138 ?_)))
  intro vb vc vw vtoN vofN vaddN vsubN vmaxI vminI vcutN vgd vst vln vrep vsub vonto vsplice vstrEq vbyteV vnotB veqB hw qb qc qw qtoN qofN qaddN qsubN qmaxI qminI qcutN qgd qst qln qrep qsub qonto qsplice qstrEq qbyteV qnotB qeqB
  have hm := hmix; generalize Try.prog = P at *
  cbv
  refine ⟨?_, trivial⟩
  rw [qc]; simp [cV]
def sgnV (a b : Int) : Int := if a < b then -1 else if a > b then 1 else 0
theorem sgnV_lt {a b : Int} : sgnV a b < 0 ↔ a < b := by unfold sgnV; split <;> (try split) <;> omega
theorem lss_nat {x y : Int} {i j : Nat} (h1 : x = i) (h2 : y = j) : cV .lss x y = decide (i < j) := by rw [lss_eq, decide_eq_decide]; omega
theorem gtr_nat {x y : Int} {i j : Nat} (h1 : x = i) (h2 : y = j) : cV .gtr x y = decide (j < i) := by rw [gtr_eq, decide_eq_decide]; omega
theorem half_eq {x : Nat} (h : x < 1000000) : IntKind.i64.wrap (bV .shr .u64 (IntKind.u64.wrap (x : Int)) 1) = ((x / 2 : Nat) : Int) := by
  rw [wrap_u64 (by omega) (by omega)]
  have e : bV .shr .u64 (x : Int) 1 = ((x / 2 : Nat) : Int) := by
    simp [bV, Int.fdiv_eq_ediv, IntKind.bits]
  rw [e, wrap_i64 (by omega) (by omega)]
set_option maxRecDepth 100000 in
theorem compareV_con (a b : Int) : Con Try.prog 112 [.int .u64 a, .int .u64 b] [] (fun v H R => v = .int .i64 (sgnV a b) ∧ H = [] ∧ R = []) := by
  have h138 := isNaNV_con
  refine con_gen (con_cut 0 (by simp) (con_red [] (con_walk hmix fn112 ?_)))
  intro vb vc vw vtoN vofN vaddN vsubN vmaxI vminI vcutN vgd vst vln vrep vsub vonto vsplice vstrEq vbyteV vnotB veqB hw qb qc qw qtoN qofN qaddN qsubN qmaxI qminI qcutN qgd qst qln qrep qsub qonto qsplice qstrEq qbyteV qnotB qeqB
  have hm := hmix; generalize Try.prog = P at *
  generalize hs : sgnV a b = g at *
  cbv
  refine call_con (ρ := []) (h138 a) ⟨by rfl, by rfl, by rfl, by cbv⟩ ?_
  rintro v H R js ⟨rfl, rfl, rfl⟩
  cbv
  refine call_con (ρ := []) (h138 b) ⟨by rfl, by rfl, by rfl, by cbv⟩ ?_
  rintro v H R js ⟨rfl, rfl, rfl⟩
  cbv
  unfold sgnV at hs
  by_cases h1 : a < b
  · have e : vc .lss a b = true := by rw [qc]; simp [cV, h1]
    rw [e]; cbv
    rw [if_pos h1] at hs
    subst hs; exact ⟨rfl, trivial⟩
  · have e : vc .lss a b = false := by rw [qc]; simp [cV]; omega
    rw [e]; cbv
    by_cases h2 : a > b
    · have e : vc .gtr a b = true := by rw [qc]; simp [cV]; omega
      rw [e]; cbv
      rw [if_neg h1, if_pos h2] at hs
      subst hs; exact ⟨rfl, trivial⟩
    · have e : vc .gtr a b = false := by rw [qc]; simp [cV]; omega
      rw [e]; cbv
      rw [if_neg h1, if_neg h2] at hs
      subst hs; exact ⟨rfl, trivial⟩
set_option maxRecDepth 100000 in
theorem cmpV_con (a b : Int) (x l c x' l' c' : Nat) : Con Try.prog 111 [.agg [.int .u64 a, .val (.slice (some ⟨x, 0, none⟩) l c)], .agg [.int .u64 b, .val (.slice (some ⟨x', 0, none⟩) l' c')], .ptr 0 .z 1 0] [.one 110 [.fn 63 []]]
    (fun v H R => v = .int .i64 (sgnV a b) ∧ H = [.one 110 [.fn 63 []]] ∧ R = []) := by
  have h63 := amountV_con
  have h112 := compareV_con
  refine con_gen (con_cut 1 (by simp) (con_red [] (con_walk hmix fn111 ?_)))
  intro vb vc vw vtoN vofN vaddN vsubN vmaxI vminI vcutN vgd vst vln vrep vsub vonto vsplice vstrEq vbyteV vnotB veqB hw qb qc qw qtoN qofN qaddN qsubN qmaxI qminI qcutN qgd qst qln qrep qsub qonto qsplice qstrEq qbyteV qnotB qeqB
  have hm := hmix; generalize Try.prog = P at *
  generalize hs : sgnV a b = g at *
  cbv
  refine call_con (ρ := []) (h63 a x l c) ⟨by rfl, by rfl, by rfl, by cbv⟩ ?_
  rintro v H R js ⟨rfl, rfl, rfl⟩
  cbv
  refine call_con (ρ := []) (h63 b x' l' c') ⟨by rfl, by rfl, by rfl, by cbv⟩ ?_
  rintro v H R js ⟨rfl, rfl, rfl⟩
  cbv
  refine call_con (ρ := []) (h112 a b) ⟨by rfl, by rfl, by rfl, by cbv⟩ ?_
  rintro v H R js ⟨rfl, rfl, rfl⟩
  rw [hs]
  cbv
/-- Two rows changed for each other. -/
theorem swp_rows (k : Nat → Int) (x l c p : Nat → Nat) (i j : Nat) :
    updF (updF (updF (updF (fun m => [.int .u64 (k (p m)), .val (.slice (some ⟨x (p m), 0, none⟩) (l (p m)) (c (p m)))]) i 0 (.int .u64 (k (p j)))) i 1 (.val (.slice (some ⟨x (p j), 0, none⟩) (l (p j)) (c (p j))))) j 0 (.int .u64 (k (p i)))) j 1 (.val (.slice (some ⟨x (p i), 0, none⟩) (l (p i)) (c (p i)))) =
    fun m => [.int .u64 (k (swp p i j m)), .val (.slice (some ⟨x (swp p i j m), 0, none⟩) (l (swp p i j m)) (c (swp p i j m)))] := by
  funext m
  rw [updF_eq, updF_eq, updF_eq, updF_eq, swp_eq]
  by_cases h1 : m = i <;> by_cases h2 : m = j <;> simp_all
/-- A row of coins, arranged by p. -/
def coinB (k : Nat → Int) (x l c : Nat → Nat) (N C : Nat) (p : Nat → Nat) : SB := .bufA 109 2 N (fun m => [.int .u64 (k (p m)), .val (.slice (some ⟨x (p m), 0, none⟩) (l (p m)) (c (p m)))]) C
theorem ren_coin (k : Nat → Int) (x l c p : Nat → Nat) (ρ : List (Nat × Ix)) (n : Nat) : (fun m => renL ρ n [.int .u64 (k (p m)), .val (.slice (some ⟨x (p m), 0, none⟩) (l (p m)) (c (p m)))]) = fun m => [.int .u64 (k (p m)), .val (.slice (some ⟨x (p m), 0, none⟩) (l (p m)) (c (p m)))] := by
  funext m; simp [renL, ren]
set_option maxRecDepth 100000 in
theorem swapR_con (k : Nat → Int) (x l c p : Nat → Nat) (N C cap a b n : Nat) (hN : N ≤ 100000) (h1 : a + n ≤ b) (h2 : b + n ≤ N) :
    Con Try.prog 146 [.slice 0 .z 2 N cap, .int .i64 a, .int .i64 b, .int .i64 n, .fn 111 [.ptr 1 .z 1 0]] [coinB k x l c N C p, .one 110 [.fn 63 []]]
    (fun v H R => v = .tup [] ∧ R = [] ∧ H = [coinB k x l c N C (swpR p a b n), .one 110 [.fn 63 []]]) := by
  refine con_gen (con_cut 2 (by simp) (con_drop (con_walk hmix fn146 ?_)))
  intro vb vc vw vtoN vofN vaddN vsubN vmaxI vminI vcutN vgd vst vln vrep vsub vonto vsplice vstrEq vbyteV vnotB veqB hw qb qc qw qtoN qofN qaddN qsubN qmaxI qminI qcutN qgd qst qln qrep qsub qonto qsplice qstrEq qbyteV qnotB qeqB
  have hm := hmix; generalize Try.prog = P at *
  have hadd0 : ∀ i, vaddN 0 i = i := fun i => by simp only [qaddN, Nat.zero_add]
  have hadd : ∀ (x y : Int) (i j : Nat), x = i → y = j → i + j < 1000000 → vb .add .i64 x y = ((i + j : Nat) : Int) := fun x y i j h1 h2 h => by rw [qb, add_i64 (by omega) (by omega)]; omega
  have hsw := swp_rows k x l c
  have hsR0 := swpR_0 p a b
  have hsRs := swpR_succ p a b
  generalize hSR : swpR p a b = SR at *
  generalize haI : (a : Int) = aI at *
  generalize hbI : (b : Int) = bI at *
  generalize hnI : (n : Int) = nI at *
  cbv
  refine loop_fam (α := Int × Nat) [11, 12, 13, 14, 15, 16, 17, 18, 19, 20, 21, 22, 23, 24, 25, 26, 27, 28, 29, 30, 31, 32, 33, 34, 35, 36, 37] []
    (fun (i, q) => [(10, .int .i64 i)])
    (fun (i, q) => [(0, .bufA 109 2 N (fun m => [.int .u64 (k (SR q m)), .val (.slice (some ⟨x (SR q m), 0, none⟩) (l (SR q m)) (c (SR q m)))]) C)])
    (fun (i, q) => i = q ∧ q ≤ n)
    (fun (i, q) => n - q) hw hm ?_ ?_
  · refine Cv.genAt [10] [] (Cv.rowsEq 0 (fun m => [.int .u64 (k (SR 0 m)), .val (.slice (some ⟨x (SR 0 m), 0, none⟩) (l (SR 0 m)) (c (SR 0 m)))]) (by rfl) (by intro m _; rw [hsR0]) (Cv.fold [11, 12, 13, 14, 15, 16, 17, 18, 19, 20, 21, 22, 23, 24, 25, 26, 27, 28, 29, 30, 31, 32, 33, 34, 35, 36, 37] 2 [] (by exact Nat.le_refl _) (by exact Nat.le_of_ble_eq_true rfl) (by rfl) (by cbv) ?_))
    intro js
    refine ⟨(_, 0), ?_, js, rfl⟩
    exact ⟨rfl, Nat.zero_le _⟩
  · rintro ⟨i, q⟩ js ⟨hi, hq⟩
    cbv
    split
    rotate_left
    · rename_i hlt
      have hin : q = n := by rw [qc, lss_false] at hlt; simp only [nc] at *; omega
      subst hin
      cbv
    · rename_i hlt
      have hqn : q < n := by rw [qc, lss_true] at hlt; simp only [nc] at *; omega
      cbv
      obtain ⟨u, hu⟩ : ∃ u, u = vb .add .i64 aI i := ⟨_, rfl⟩
      obtain ⟨v, hv⟩ : ∃ u, u = vb .add .i64 bI i := ⟨_, rfl⟩
      have hu' : u = ((a + q : Nat) : Int) := hu.trans (hadd aI i a q haI.symm hi (by omega))
      have hv' : v = ((b + q : Nat) : Int) := hv.trans (hadd bI i b q hbI.symm hi (by omega))
      obtain ⟨A, hA⟩ : ∃ A, A = a + q := ⟨_, rfl⟩
      obtain ⟨B, hB⟩ : ∃ A, A = b + q := ⟨_, rfl⟩
      obtain ⟨w, hw1⟩ : ∃ u, u = vb .add .i64 i 1 := ⟨_, rfl⟩
      have hw' : w = ((q + 1 : Nat) : Int) := hw1.trans (hadd i 1 q 1 hi rfl (by omega))
      have htu : vtoN u = A := by rw [qtoN, hu', hA]; rfl
      have htv : vtoN v = B := by rw [qtoN, hv', hB]; rfl
      have hru : InR u N := ⟨by omega⟩
      have hrv : InR v N := ⟨by omega⟩
      have hne := hsRs q (by omega)
      rw [← hA, ← hB] at hne
      have hfin : (w = ((q + 1 : Nat) : Int) ∧ q + 1 ≤ n) ∧ n - (q + 1) < n - q := ⟨⟨hw', by omega⟩, by omega⟩
      have hlA : A < N := by omega
      have hlB : B < N := by omega
      have hl0 : 0 < N := by omega
      rw [← hu, ← hv, htu, htv, hadd0, hadd0]
      cbv
      repeat (refine And.intro (by first | exact hru | exact hrv | exact ⟨hlA⟩ | exact ⟨hlB⟩ | exact ⟨hl0⟩) ?_)
      rw [hsw (SR q) A B, hne, ← hw1]
      refine Cv.fold [11, 12, 13, 14, 15, 16, 17, 18, 19, 20, 21, 22, 23, 24, 25, 26, 27, 28, 29, 30, 31, 32, 33, 34, 35, 36, 37] 2 [] (by exact Nat.le_refl _) (by exact Nat.le_of_ble_eq_true rfl) (by rfl) (by cbv) ?_
      intro js2
      exact ⟨(_, q + 1), hfin, js2, rfl⟩
end Go.Proofs.Ytodobmkflimfkaa
namespace Go.Proofs.Ytodobmkflimfkaa
open Go Go.Sx Go.Proofs
/-! A rotation (145). -/
set_option maxRecDepth 100000 in
theorem rot_con (k : Nat → Int) (x l c p : Nat → Nat) (N C cap a m b : Nat) (hN : N ≤ 100000) (h1 : a < m) (h2 : m < b) (h3 : b ≤ N) :
    Con Try.prog 145 [.slice 0 .z 2 N cap, .int .i64 a, .int .i64 m, .int .i64 b, .fn 111 [.ptr 1 .z 1 0]] [coinB k x l c N C p, .one 110 [.fn 63 []]]
    (fun v H R => v = .tup [] ∧ R = [] ∧ H = [coinB k x l c N C (rotF p a m b), .one 110 [.fn 63 []]]) := by
  have hswap : ∀ (q : Nat → Nat) (aI bI nI : Int) (a b n : Nat), aI = a → bI = b → nI = n → a + n ≤ b → b + n ≤ N → Con Try.prog 146 [.slice 0 .z 2 N cap, .int .i64 aI, .int .i64 bI, .int .i64 nI, .fn 111 [.ptr 1 .z 1 0]] [coinB k x l c N C q, .one 110 [.fn 63 []]]
      (fun v H R => v = .tup [] ∧ R = [] ∧ H = [coinB k x l c N C (swpR q a b n), .one 110 [.fn 63 []]]) := fun q aI bI nI a b n e1 e2 e3 g1 g2 => by
    subst e1 e2 e3; exact swapR_con k x l c q N C cap a b n hN g1 g2
  have hl := fun q => rot_l q m
  have hr := fun q => rot_r q m
  have he := fun q => rot_e q m
  refine con_gen (con_cut 2 (by simp) (con_drop (con_walk hmix fn145 ?_)))
  intro vb vc vw vtoN vofN vaddN vsubN vmaxI vminI vcutN vgd vst vln vrep vsub vonto vsplice vstrEq vbyteV vnotB veqB hw qb qc qw qtoN qofN qaddN qsubN qmaxI qminI qcutN qgd qst qln qrep qsub qonto qsplice qstrEq qbyteV qnotB qeqB
  have hm := hmix; generalize Try.prog = P at *
  have hsub : ∀ (x y : Int) (i j : Nat), x = i → y = j → j ≤ i → i < 1000000 → vb .sub .i64 x y = ((i - j : Nat) : Int) := fun x y i j h1 h2 h h' => by rw [qb, sub_i64 (by omega) (by omega)]; omega
  have hadd : ∀ (x y : Int) (i j : Nat), x = i → y = j → i + j < 1000000 → vb .add .i64 x y = ((i + j : Nat) : Int) := fun x y i j h1 h2 h => by rw [qb, add_i64 (by omega) (by omega)]; omega
  generalize hswp : @swpR = SW at *
  generalize hrot : @rotF = RO at *
  generalize haI : (a : Int) = aI at *
  generalize hbI : (b : Int) = bI at *
  generalize hmI : (m : Int) = mI at *
  obtain ⟨i0, hi0⟩ : ∃ u, u = vb .sub .i64 mI aI := ⟨_, rfl⟩
  obtain ⟨j0, hj0⟩ : ∃ u, u = vb .sub .i64 bI mI := ⟨_, rfl⟩
  have hi0' : i0 = ((m - a : Nat) : Int) := hi0.trans (hsub mI aI m a hmI.symm haI.symm (by omega) (by omega))
  have hj0' : j0 = ((b - m : Nat) : Int) := hj0.trans (hsub bI mI b m hbI.symm hmI.symm (by omega) (by omega))
  generalize hF : RO p a m b = F
  have hF0 : RO p (m - (m - a)) m (m + (b - m)) = F := by rw [← hF]; congr 1 <;> omega
  have hinv0 : i0 = ((m - a : Nat) : Int) ∧ j0 = ((b - m : Nat) : Int) ∧ 0 < m - a ∧ 0 < b - m ∧ m - a ≤ m ∧ m + (b - m) ≤ N ∧ RO p (m - (m - a)) m (m + (b - m)) = F := ⟨hi0', hj0', by omega, by omega, by omega, by omega, hF0⟩
  cbv
  rw [← hi0, ← hj0]
  refine loop_fam (α := Int × Int × Nat × Nat × (Nat → Nat)) [18, 19, 20, 21, 22, 23, 24, 25, 26, 27, 28, 29, 30, 31, 32, 33, 34, 35, 36, 37, 38, 39, 40, 41, 42, 43, 44, 45, 46, 47, 48, 49] []
    (fun (iI, jI, i, j, q) => [(10, .int .i64 iI), (11, .int .i64 jI)])
    (fun (iI, jI, i, j, q) => [(0, coinB k x l c N C q)])
    (fun (iI, jI, i, j, q) => iI = i ∧ jI = j ∧ 0 < i ∧ 0 < j ∧ i ≤ m ∧ m + j ≤ N ∧ RO q (m - i) m (m + j) = F)
    (fun (iI, jI, i, j, q) => i + j) hw hm ?_ ?_
  · refine Cv.fold [18, 19, 20, 21, 22, 23, 24, 25, 26, 27, 28, 29, 30, 31, 32, 33, 34, 35, 36, 37, 38, 39, 40, 41, 42, 43, 44, 45, 46, 47, 48, 49] 2 [] (by exact Nat.le_refl _) (by exact Nat.le_of_ble_eq_true rfl) (by rfl) (by cbv) ?_
    intro js
    exact ⟨(_, _, _, _, _), hinv0, js, rfl⟩
  · rintro ⟨iI, jI, i, j, q⟩ js ⟨g1, g2, g3, g4, g5, g6, g7⟩
    clear hinv0 hi0' hj0' hF0
    cbv
    split
    rotate_left
    · rename_i hlt
      have hij : i = j := by rw [qc, neq_false] at hlt; simp only [nc] at *; omega
      have hfin : SW q (m - i) m i = F := by rw [he q i g5, ← g7, hij]
      have hu0 : ∀ u : Int, u = vb .sub .i64 mI iI → u = ((m - i : Nat) : Int) := fun u hu => hu.trans (hsub mI iI m i hmI.symm g1 g5 (by omega))
      obtain ⟨D, hD⟩ : ∃ D, D = m - i := ⟨_, rfl⟩
      have hsw := fun (u : Int) (hu : u = (D : Int)) => hswap q u mI iI D m i hu hmI.symm g1 (by omega) (by omega)
      rw [← hD] at hfin hu0
      rw [hfin] at hsw
      clear hswap hl hr he
      cbv
      obtain ⟨u, hu⟩ : ∃ u, u = vb .sub .i64 mI iI := ⟨_, rfl⟩
      rw [← hu]
      refine call_con (ρ := [(0, .z), (1, .z)]) (hsw u (hu0 u hu)) ⟨by rfl, by rfl, by rfl, by cbv; rw [ren_coin]; ((repeat' first | (refine And.intro ?_ ?_) | exact trivial | exact ⟨Nat.le_refl _⟩ | exact view_refl _ | exact fun _ => rfl | (simp only [renL3]; done) | (show SB.roA _ _ _ = SB.roA _ _ _; rfl) | exact funext fun _ => rfl) <;> rfl)⟩ ?_
      rintro v H R js ⟨rfl, rfl, rfl⟩
      cbv
      (repeat refine And.intro (fun _ => rfl) ?_)
      rw [ren_coin]
    · rename_i hlt
      have hij : i ≠ j := by rw [qc, neq_true] at hlt; simp only [nc] at *; omega
      cbv
      split
      · rename_i hgt
        have hji : j < i := by rw [qc, gtr_true] at hgt; simp only [nc] at *; omega
        have hu0 : ∀ u : Int, u = vb .sub .i64 mI iI → u = ((m - i : Nat) : Int) := fun u hu => hu.trans (hsub mI iI m i hmI.symm g1 g5 (by omega))
        have hv0 : ∀ u : Int, u = vb .sub .i64 iI jI → u = ((i - j : Nat) : Int) := fun u hu => hu.trans (hsub iI jI i j g1 g2 (by omega) (by omega))
        have hnext := hl q i j g4 hji g5
        rw [g7] at hnext
        obtain ⟨D, hD⟩ : ∃ D, D = m - i := ⟨_, rfl⟩
        have hsw := fun (u : Int) (hu : u = (D : Int)) => hswap q u mI jI D m j hu hmI.symm g2 (by omega) (by omega)
        obtain ⟨E, hE⟩ : ∃ E, E = i - j := ⟨_, rfl⟩
        have hinv : ∀ u : Int, u = (E : Int) → (u = E ∧ jI = j ∧ 0 < E ∧ 0 < j ∧ E ≤ m ∧ m + j ≤ N ∧ RO (SW q D m j) (m - E) m (m + j) = F) ∧ E + j < i + j := fun u hu => ⟨⟨hu, g2, by omega, g4, by omega, g6, by rw [hD, hE]; exact hnext⟩, by omega⟩
        rw [← hD] at hu0
        rw [← hE] at hv0
        clear hswap hl hr he hnext
        cbv
        obtain ⟨u, hu⟩ : ∃ u, u = vb .sub .i64 mI iI := ⟨_, rfl⟩
        obtain ⟨v, hv⟩ : ∃ u, u = vb .sub .i64 iI jI := ⟨_, rfl⟩
        rw [← hu]
        refine call_con (ρ := [(0, .z), (1, .z)]) (hsw u (hu0 u hu)) ⟨by rfl, by rfl, by rfl, by cbv; rw [ren_coin]; ((repeat' first | (refine And.intro ?_ ?_) | exact trivial | exact ⟨Nat.le_refl _⟩ | exact view_refl _ | exact fun _ => rfl | (simp only [renL3]; done) | (show SB.roA _ _ _ = SB.roA _ _ _; rfl) | exact funext fun _ => rfl) <;> rfl)⟩ ?_
        rintro v0 H R js2 ⟨rfl, rfl, rfl⟩
        cbv
        (repeat refine And.intro (fun _ => rfl) ?_)
        rw [ren_coin]
        cbv
        rw [← hv]
        refine Cv.fold [18, 19, 20, 21, 22, 23, 24, 25, 26, 27, 28, 29, 30, 31, 32, 33, 34, 35, 36, 37, 38, 39, 40, 41, 42, 43, 44, 45, 46, 47, 48, 49] 2 [] (by exact Nat.le_refl _) (by exact Nat.le_of_ble_eq_true rfl) (by rfl) (by cbv) ?_
        intro js3
        exact ⟨(_, _, E, _, _), hinv v (hv0 v hv), js3, rfl⟩
      · rename_i hgt
        have hji : i < j := by rw [qc, gtr_false] at hgt; simp only [nc] at *; omega
        have hu0 : ∀ u : Int, u = vb .sub .i64 mI iI → u = ((m - i : Nat) : Int) := fun u hu => hu.trans (hsub mI iI m i hmI.symm g1 g5 (by omega))
        have hv0 : ∀ u : Int, u = vb .sub .i64 jI iI → u = ((j - i : Nat) : Int) := fun u hu => hu.trans (hsub jI iI j i g2 g1 (by omega) (by omega))
        have hx0 : ∀ x0 : Int, x0 = vb .sub .i64 (vb .add .i64 mI jI) iI → x0 = ((m + j - i : Nat) : Int) := fun x0 hx => hx.trans (hsub _ iI (m + j) i (hadd mI jI m j hmI.symm g2 (by omega)) g1 (by omega) (by omega))
        have hnext := hr q i j g3 hji g5
        rw [g7] at hnext
        obtain ⟨D, hD⟩ : ∃ D, D = m - i := ⟨_, rfl⟩
        obtain ⟨G, hG⟩ : ∃ G, G = m + j - i := ⟨_, rfl⟩
        have hsw := fun (u x0 : Int) (hu : u = (D : Int)) (hx : x0 = (G : Int)) => hswap q u x0 iI D G i hu hx g1 (by omega) (by omega)
        obtain ⟨E, hE⟩ : ∃ E, E = j - i := ⟨_, rfl⟩
        have hinv : ∀ u : Int, u = (E : Int) → (iI = i ∧ u = E ∧ 0 < i ∧ 0 < E ∧ i ≤ m ∧ m + E ≤ N ∧ RO (SW q D G i) (m - i) m (m + E) = F) ∧ i + E < i + j := fun u hu => ⟨⟨g1, hu, g3, by omega, g5, by omega, by rw [hD, hE, hG]; exact hnext⟩, by omega⟩
        rw [← hD] at hu0
        rw [← hE] at hv0
        rw [← hG] at hx0
        clear hswap hl hr he hnext
        cbv
        obtain ⟨u, hu⟩ : ∃ u, u = vb .sub .i64 mI iI := ⟨_, rfl⟩
        obtain ⟨v, hv⟩ : ∃ u, u = vb .sub .i64 jI iI := ⟨_, rfl⟩
        obtain ⟨x0, hx⟩ : ∃ u, u = vb .sub .i64 (vb .add .i64 mI jI) iI := ⟨_, rfl⟩
        rw [← hu, ← hx]
        refine call_con (ρ := [(0, .z), (1, .z)]) (hsw u x0 (hu0 u hu) (hx0 x0 hx)) ⟨by rfl, by rfl, by rfl, by cbv; rw [ren_coin]; ((repeat' first | (refine And.intro ?_ ?_) | exact trivial | exact ⟨Nat.le_refl _⟩ | exact view_refl _ | exact fun _ => rfl | (simp only [renL3]; done) | (show SB.roA _ _ _ = SB.roA _ _ _; rfl) | exact funext fun _ => rfl) <;> rfl)⟩ ?_
        rintro v0 H R js2 ⟨rfl, rfl, rfl⟩
        cbv
        (repeat refine And.intro (fun _ => rfl) ?_)
        rw [ren_coin]
        cbv
        rw [← hv]
        refine Cv.fold [18, 19, 20, 21, 22, 23, 24, 25, 26, 27, 28, 29, 30, 31, 32, 33, 34, 35, 36, 37, 38, 39, 40, 41, 42, 43, 44, 45, 46, 47, 48, 49] 2 [] (by exact Nat.le_refl _) (by exact Nat.le_of_ble_eq_true rfl) (by rfl) (by cbv) ?_
        intro js3
        exact ⟨(_, _, _, E, _), hinv v (hv0 v hv), js3, rfl⟩
end Go.Proofs.Ytodobmkflimfkaa
namespace Go.Proofs.Ytodobmkflimfkaa
open Go Go.Sx Go.Proofs
/-! A sort by insertion (143). -/
set_option maxRecDepth 100000 in
set_option maxHeartbeats 4000000 in
theorem ins_con (k : Nat → Int) (x l c p : Nat → Nat) (N C cap a b : Nat) (hN : N ≤ 100000) (h1 : a ≤ b) (h2 : b ≤ N) (hst : St k p) :
    Con Try.prog 143 [.slice 0 .z 2 N cap, .int .i64 a, .int .i64 b, .fn 111 [.ptr 1 .z 1 0]] [coinB k x l c N C p, .one 110 [.fn 63 []]]
    (fun v H R => v = .tup [] ∧ R = [] ∧ ∃ q, (PermOn p q a b ∧ St k q ∧ Srt k q a b) ∧ H = [coinB k x l c N C q, .one 110 [.fn 63 []]]) := by
  have hcmp := cmpV_con
  have hsw := swp_rows k x l c
  refine con_gen (con_cut 2 (by simp) (con_drop (con_walk hmix fn143 ?_)))
  intro vb vc vw vtoN vofN vaddN vsubN vmaxI vminI vcutN vgd vst vln vrep vsub vonto vsplice vstrEq vbyteV vnotB veqB hw qb qc qw qtoN qofN qaddN qsubN qmaxI qminI qcutN qgd qst qln qrep qsub qonto qsplice qstrEq qbyteV qnotB qeqB
  have hm := hmix; generalize Try.prog = P at *
  have hadd : ∀ (x y : Int) (i j : Nat), x = i → y = j → i + j < 1000000 → vb .add .i64 x y = ((i + j : Nat) : Int) := fun x y i j h1 h2 h => by rw [qb, add_i64 (by omega) (by omega)]; omega
  have hsub : ∀ (x y : Int) (i j : Nat), x = i → y = j → j ≤ i → i < 1000000 → vb .sub .i64 x y = ((i - j : Nat) : Int) := fun x y i j h1 h2 h h' => by rw [qb, sub_i64 (by omega) (by omega)]; omega
  have hadd0 : ∀ i, vaddN 0 i = i := fun i => by simp only [qaddN, Nat.zero_add]
  have hsg : ∀ a b, vc .lss (sgnV a b) 0 = decide (a < b) := fun a b => by
    rw [qc]; simp only [cV]; rw [decide_eq_decide]; exact sgnV_lt
  have hswp := @swp_perm
  have hswst := @swp_st
  generalize hSg : sgnV = SG at *
  generalize haI : (a : Int) = aI at *
  generalize hbI : (b : Int) = bI at *
  obtain ⟨i0, hi0⟩ : ∃ u, u = vb .add .i64 aI 1 := ⟨_, rfl⟩
  have hi0' : i0 = ((a + 1 : Nat) : Int) := hi0.trans (hadd aI 1 a 1 haI.symm rfl (by omega))
  have hinv0 : i0 = ((a + 1 : Nat) : Int) ∧ a + 1 ≤ a + 1 ∧ (a + 1 ≤ b ∨ a + 1 = a + 1) ∧ PermOn p p a b ∧ St k p ∧ Srt k p a (a + 1) := ⟨hi0', by omega, by omega, PermOn.refl _ _ _, hst, fun i j h1 h2 h3 => by omega⟩
  cbv
  rw [← hi0]
  refine loop_fam (α := Int × Nat × (Nat → Nat)) ([9] ++ [12, 13, 14, 15, 16, 17, 18, 19, 20, 21, 22, 23, 24, 25, 26, 27, 28, 29, 30, 31, 32, 33, 34, 35, 36, 37, 38, 39, 40, 41, 42, 43, 44, 45, 46, 47, 48, 49, 50, 51, 52]) []
    (fun (iI, i, q) => [(8, .int .i64 iI)])
    (fun (iI, i, q) => [(0, coinB k x l c N C q)])
    (fun (iI, i, q) => iI = i ∧ a + 1 ≤ i ∧ (i ≤ b ∨ i = a + 1) ∧ PermOn p q a b ∧ St k q ∧ Srt k q a i)
    (fun (iI, i, q) => b + 1 - i) hw hm ?_ ?_
  · refine Cv.fold ([9] ++ [12, 13, 14, 15, 16, 17, 18, 19, 20, 21, 22, 23, 24, 25, 26, 27, 28, 29, 30, 31, 32, 33, 34, 35, 36, 37, 38, 39, 40, 41, 42, 43, 44, 45, 46, 47, 48, 49, 50, 51, 52]) 2 [] (by exact Nat.le_refl _) (by exact Nat.le_of_ble_eq_true rfl) (by rfl) (by cbv) ?_
    intro js
    exact ⟨(_, _, _), hinv0, js, rfl⟩
  · rintro ⟨iI, i, q⟩ js ⟨g1, g2, g3, g4, g5, g6⟩
    clear hinv0 hi0' hi0
    cbv
    split
    rotate_left
    · rename_i hlt
      have hib : ¬ i < b := by rw [qc, lss_false] at hlt; simp only [nc] at *; omega
      have hfin : PermOn p q a b ∧ St k q ∧ Srt k q a b := ⟨g4, g5, fun x y e1 e2 e3 => g6 x y e1 e2 (by omega)⟩
      clear g4 g5 g6
      cbv
      exact ⟨q, hfin, rfl⟩
    · rename_i hlt
      have hib : i < b := by rw [qc, lss_true] at hlt; simp only [nc] at *; omega
      have hinv1 : iI = i ∧ a ≤ i ∧ i ≤ i ∧ PermOn p q a b ∧ St k q ∧ Ins k q a i i := ⟨g1, by omega, by omega, g4, g5, Ins.start g6⟩
      clear g4 g5 g6
      cbv
      refine loop_fam (α := Int × Nat × (Nat → Nat)) [15, 16, 17, 18, 19, 20, 21, 22, 23, 24, 25, 26, 27, 28, 29, 30, 31, 32, 33, 34, 35, 36, 37, 38, 39, 40, 41, 42, 43, 44, 45, 46, 47, 48, 49, 50, 51, 52] []
        (fun (jI, j, q) => [(9, .int .i64 jI)])
        (fun (jI, j, q) => [(0, coinB k x l c N C q)])
        (fun (jI, j, q) => jI = j ∧ a ≤ j ∧ j ≤ i ∧ PermOn p q a b ∧ St k q ∧ Ins k q a j i)
        (fun (jI, j, q) => j) hw hm ?_ ?_
      · refine Cv.fold [15, 16, 17, 18, 19, 20, 21, 22, 23, 24, 25, 26, 27, 28, 29, 30, 31, 32, 33, 34, 35, 36, 37, 38, 39, 40, 41, 42, 43, 44, 45, 46, 47, 48, 49, 50, 51, 52] 2 [] (by exact Nat.le_refl _) (by exact Nat.le_of_ble_eq_true rfl) (by rfl) (by cbv) ?_
        intro js2
        exact ⟨(_, _, _), hinv1, js2, rfl⟩
      · rintro ⟨jI, j, q⟩ js2 ⟨f1, f2, f3, f4, f5, f6⟩
        clear hinv1
        have hdone : (j = a ∨ (a < j ∧ k (q (j - 1)) ≤ k (q j))) → Srt k q a (i + 1) := fun h => f6.done h
        have hw0 : ∀ u : Int, u = vb .add .i64 iI 1 → (u = ((i + 1 : Nat) : Int) ∧ a + 1 ≤ i + 1 ∧ (i + 1 ≤ b ∨ i + 1 = a + 1)) ∧ b + 1 - (i + 1) < b + 1 - i := fun u hu => ⟨⟨hu.trans (hadd iI 1 i 1 g1 rfl (by omega)), by omega, by omega⟩, by omega⟩
        have hja : vc .gtr jI aI = decide (a < j) := by
          rw [qc]; simp only [cV]; rw [decide_eq_decide, ← haI, f1]; simp only [nc]; omega
        by_cases hj : a < j
        · obtain ⟨j', hj'⟩ : ∃ j', j = j' + 1 := ⟨j - 1, by omega⟩
          subst hj'
          have hja2 : vc .gtr jI aI = true := by rw [hja]; simpa using hj
          have hpred : ∀ u : Int, u = vb .sub .i64 jI 1 → u = ((j' : Nat) : Int) ∧ vtoN u = j' ∧ InR u N := fun u hu => by
            have e : u = ((j' : Nat) : Int) := hu.trans (by rw [hsub jI 1 (j' + 1) 1 f1 rfl (by omega) (by omega)]; rfl)
            exact ⟨e, by rw [qtoN, e]; rfl, ⟨by omega⟩⟩
          have hnext : k (q (j' + 1)) < k (q j') → PermOn p (swp q (j' + 1) j') a b ∧ St k (swp q (j' + 1) j') ∧ Ins k (swp q (j' + 1) j') a j' i := fun h => by
            rw [swp_comm]
            exact ⟨f4.trans (hswp ⟨by omega, by omega⟩ ⟨by omega, by omega⟩), hswst f5 (by omega), f6.next (by omega) (by omega) h⟩
          have hstop : ¬ k (q (j' + 1)) < k (q j') → PermOn p q a b ∧ St k q ∧ Srt k q a (i + 1) := fun h => ⟨f4, f5, hdone (.inr ⟨hj, by simp only [Nat.add_sub_cancel]; omega⟩)⟩
          have hlb : j' + 1 < N := by omega
          have hlb' : j' < N := by omega
          have hl0 : 0 < N := by omega
          have hmu : j' < j' + 1 := by omega
          have haj : a ≤ j' := by omega
          have hji : j' ≤ i := by omega
          obtain ⟨J, hJ⟩ : ∃ J, J = j' + 1 := ⟨_, rfl⟩
          have htJ : vtoN jI = J := by rw [qtoN, f1, hJ]; rfl
          have hrJ : InR jI N := ⟨by omega⟩
          rw [← hJ] at hnext hstop hlb f1
          clear hdone f4 f5 f6 hja hj hlt
          generalize @PermOn = PO at *
          generalize @St = ST at *
          generalize @Srt = SR at *
          generalize @Ins = IN at *
          generalize hSW : @swp = SW at *
          cbv
          rw [hja2]
          cbv
          obtain ⟨u, hu⟩ : ∃ u, u = vb .sub .i64 jI 1 := ⟨_, rfl⟩
          obtain ⟨hu', htu, hru⟩ := hpred u hu
          rw [← hu, htJ, htu, hadd0, hadd0]
          cbv
          repeat (refine And.intro (by first | exact hru | exact hrJ | exact ⟨hlb⟩ | exact ⟨hlb'⟩) ?_)
          refine call_con (ρ := [(1, .z)]) (hcmp _ _ _ _ _ _ _ _) ⟨by rfl, by rfl, by rfl, by cbv; exact ⟨fun _ => rfl, trivial⟩⟩ ?_
          rintro v H R js3 ⟨rfl, rfl, rfl⟩
          cbv
          (repeat refine And.intro (fun _ => rfl) ?_)
          rw [hsg]
          by_cases hk : k (q J) < k (q j')
          · obtain ⟨k1, k2, k3⟩ := hnext hk
            rw [decide_eq_true hk]
            cbv
            (repeat refine And.intro (fun _ => rfl) ?_)
            rw [← hu, htJ, htu, hadd0, hadd0]
            cbv
            repeat (refine And.intro (by first | exact hru | exact hrJ | exact ⟨hlb⟩ | exact ⟨hlb'⟩ | exact ⟨hl0⟩) ?_)
            rw [hsw q J j']
            refine Cv.fold [15, 16, 17, 18, 19, 20, 21, 22, 23, 24, 25, 26, 27, 28, 29, 30, 31, 32, 33, 34, 35, 36, 37, 38, 39, 40, 41, 42, 43, 44, 45, 46, 47, 48, 49, 50, 51, 52] 2 [] (by exact Nat.le_refl _) (by exact Nat.le_of_ble_eq_true rfl) (by rfl) (by cbv) ?_
            intro js4
            exact ⟨(_, j', _), ⟨⟨hu', haj, hji, k1, k2, k3⟩, hmu⟩, js4, rfl⟩
          · obtain ⟨k1, k2, k3⟩ := hstop hk
            rw [decide_eq_false hk]
            clear hnext hstop
            cbv
            obtain ⟨u2, hu2⟩ : ∃ u, u = vb .add .i64 iI 1 := ⟨_, rfl⟩
            obtain ⟨k4, k5⟩ := hw0 u2 hu2
            rw [← hu2]
            refine Cv.fold ([9] ++ [12, 13, 14, 15, 16, 17, 18, 19, 20, 21, 22, 23, 24, 25, 26, 27, 28, 29, 30, 31, 32, 33, 34, 35, 36, 37, 38, 39, 40, 41, 42, 43, 44, 45, 46, 47, 48, 49, 50, 51, 52]) 2 [] (by exact Nat.le_refl _) (by exact Nat.le_of_ble_eq_true rfl) (by rfl) (by cbv) ?_
            intro js4
            exact ⟨(_, _, _), ⟨⟨k4.1, k4.2.1, k4.2.2, k1, k2, k3⟩, k5⟩, js4, rfl⟩
        · have hja2 : vc .gtr jI aI = false := by rw [hja]; simpa using hj
          have k3 := hdone (.inl (by omega))
          clear hdone f6
          generalize @PermOn = PO at *
          generalize @St = ST at *
          generalize @Srt = SR at *
          cbv
          rw [hja2]
          cbv
          obtain ⟨u2, hu2⟩ : ∃ u, u = vb .add .i64 iI 1 := ⟨_, rfl⟩
          obtain ⟨k4, k5⟩ := hw0 u2 hu2
          rw [← hu2]
          refine Cv.fold ([9] ++ [12, 13, 14, 15, 16, 17, 18, 19, 20, 21, 22, 23, 24, 25, 26, 27, 28, 29, 30, 31, 32, 33, 34, 35, 36, 37, 38, 39, 40, 41, 42, 43, 44, 45, 46, 47, 48, 49, 50, 51, 52]) 2 [] (by exact Nat.le_refl _) (by exact Nat.le_of_ble_eq_true rfl) (by rfl) (by cbv) ?_
          intro js4
          exact ⟨(_, _, _), ⟨⟨k4.1, k4.2.1, k4.2.2, f4, f5, k3⟩, k5⟩, js4, rfl⟩
end Go.Proofs.Ytodobmkflimfkaa
