import Derived.Test.YtlclleihoampdaaEB
import Derived.Test.YtlclleihoampdaaRows
set_option linter.unusedVariables false
set_option linter.unusedSimpArgs false
namespace Go.Proofs.Ytlclleihoampdaa
open Go Go.Sx Go.Proofs
abbrev zO (d : Nat) (o : XOp) : XStep := ⟨some d, o, none, []⟩
abbrev zM (d k : Nat) : XStep := ⟨some d, .mv (.t k), none, []⟩
abbrev zG (d : Nat) (o : XOp) (g : Nat) : XStep := ⟨some d, o, some (g, true), []⟩
abbrev zN (d k g : Nat) : XStep := ⟨some d, .mv (.t k), some (g, true), []⟩
def x3 : XC :=
 .seq (.ops [zO 2 (.mv (.k (.bool false)))])
 (.seq (.seq (.ops [zM 11 0,
 zO 12 (.len (.t 11)),
 zO 13 (.cmp .gtr (.t 12) (.k (.lit .i64 3000))),
 zM 14 13,
 zN 15 0 14,
 zG 16 (.len (.t 15)) 14,
 zG 17 (.cmp .leq (.t 16) (.k (.lit .i64 65535))) 14,
 zO 18 (.pick (.t 14) (.t 17) (.k (.bool false)))])
 (.cond (.t 18) (.ops [zM 19 0,
 zO 20 (.slc 3 (.t 19) none (some (.k (.lit .i64 3000))) none),
 zM 0 20]) (.skip)))
 (.seq (.ops [zO 3 (.mv (.k (.bool true)))])
 (.seq (.seq (.ops [zM 21 0,
 zO 22 (.len (.t 21)),
 zO 23 (.mv (.k (.lit .i64 0)))])
 (.block 0 (.loop (.seq (.ops [zO 24 (.cmp .lss (.t 23) (.t 22))])
 (.seq (.cond (.t 24) (.skip) (.exit 0))
 (.seq (.block 1 (.seq (.ops [zO 25 (.iadr 3 (.t 21) (.t 23)),
 zO 26 (.loadA 3 (.t 25)),
 zO 5 (.newR 24 [(.lit .i64 0), (.lit .i64 0), (.lit .i64 0)]),
 ⟨none, .storeA 3 (.t 5) (.t 26), none, []⟩])
 (.ops [zM 27 3,
 zM 28 27,
 zG 29 (.fadr 0 (.t 5)) 28,
 zG 30 (.load1 (.t 29)) 28,
 zG 31 (.cmp .geq (.t 30) (.k (.lit .i64 0))) 28,
 zO 32 (.pick (.t 28) (.t 31) (.k (.bool false))),
 zM 33 32,
 zG 34 (.fadr 0 (.t 5)) 33,
 zG 35 (.load1 (.t 34)) 33,
 zG 36 (.cmp .leq (.t 35) (.k (.lit .i64 131071))) 33,
 zO 37 (.pick (.t 33) (.t 36) (.k (.bool false))),
 zM 38 37,
 zG 39 (.fadr 1 (.t 5)) 38,
 zG 40 (.load1 (.t 39)) 38,
 zG 41 (.cmp .geq (.t 40) (.k (.lit .i64 3))) 38,
 zO 42 (.pick (.t 38) (.t 41) (.k (.bool false))),
 zM 43 42,
 zG 44 (.fadr 1 (.t 5)) 43,
 zG 45 (.load1 (.t 44)) 43,
 zG 46 (.cmp .leq (.t 45) (.k (.lit .i64 131074))) 43,
 zO 47 (.pick (.t 43) (.t 46) (.k (.bool false))),
 zM 48 47,
 zG 49 (.fadr 2 (.t 5)) 48,
 zG 50 (.load1 (.t 49)) 48,
 zG 51 (.cmp .geq (.t 50) (.k (.lit .i64 1))) 48,
 zO 52 (.pick (.t 48) (.t 51) (.k (.bool false))),
 zM 53 52,
 zG 54 (.fadr 2 (.t 5)) 53,
 zG 55 (.load1 (.t 54)) 53,
 zG 56 (.cmp .leq (.t 55) (.k (.lit .i64 268435456))) 53,
 zO 57 (.pick (.t 53) (.t 56) (.k (.bool false))),
 zM 3 57])))
 (.ops [zO 58 (.bin .add .i64 (.t 23) (.k (.lit .i64 1))),
 zM 23 58])))))))
 (.seq (.ops [zM 60 0,
 zO 61 (.call (.k (.fn 10 [])) [(.t 60)]),
 zM 59 61,
 zO 62 (.extract (.t 59) 0),
 zO 63 (.extract (.t 59) 1),
 zM 6 62,
 zM 7 63])
 (.seq (.seq (.ops [zM 64 3,
 zO 65 (.not (.t 64))])
 (.cond (.t 65) (.seq (.ops [zM 66 7,
 zO 67 (.cmp .eql (.t 66) (.k (.lit .i64 2))),
 zM 68 67,
 zN 69 6 68,
 zG 70 (.len (.t 69)) 68,
 zG 71 (.cmp .eql (.t 70) (.k (.lit .i64 0))) 68,
 zO 72 (.pick (.t 68) (.t 71) (.k (.bool false))),
 zM 73 72,
 zG 74 (.call (.k (.fn 11 [])) []) 73,
 zO 75 (.pick (.t 73) (.t 74) (.k (.bool false))),
 zM 2 75])
 (.ret)) (.skip)))
 (.seq (.seq (.ops [zM 76 0,
 zO 77 (.len (.t 76)),
 zO 78 (.cmp .gtr (.t 77) (.k (.lit .i64 65535)))])
 (.cond (.t 78) (.seq (.ops [zM 79 7,
 zO 80 (.cmp .eql (.t 79) (.k (.lit .i64 3))),
 zM 81 80,
 zN 82 6 81,
 zG 83 (.len (.t 82)) 81,
 zG 84 (.cmp .eql (.t 83) (.k (.lit .i64 0))) 81,
 zO 85 (.pick (.t 81) (.t 84) (.k (.bool false))),
 zM 86 85,
 zG 87 (.call (.k (.fn 11 [])) []) 86,
 zO 88 (.pick (.t 86) (.t 87) (.k (.bool false))),
 zM 2 88])
 (.ret)) (.skip)))
 (.seq (.seq (.ops [zM 89 7,
 zO 90 (.cmp .neq (.t 89) (.k (.lit .i64 0)))])
 (.cond (.t 90) (.seq (.ops [zO 2 (.mv (.k (.bool false)))])
 (.ret)) (.skip)))
 (.seq (.seq (.ops [zM 91 6,
 zO 92 (.len (.t 91)),
 zO 93 (.cmp .gtr (.t 92) (.k (.lit .i64 131072)))])
 (.cond (.t 93) (.seq (.ops [zO 94 (.call (.k (.fn 11 [])) []),
 zM 2 94])
 (.ret)) (.skip)))
 (.seq (.ops [zM 96 6,
 zO 97 (.build [(.val (.slice none 0 0)), (.val (.slice none 0 0)), (.val (.slice none 0 0))] []),
 zO 98 (.call (.k (.fn 12 [])) [(.t 96), (.t 97)]),
 zM 95 98,
 zO 99 (.extract (.t 95) 0),
 zO 100 (.extract (.t 95) 1),
 zO 101 (.extract (.t 95) 2),
 zO 9 (.newR 32 [(.val (.slice none 0 0)), (.val (.slice none 0 0)), (.val (.slice none 0 0))]),
 zM 8 99,
 ⟨none, .storeA 3 (.t 9) (.t 100), none, []⟩,
 zM 10 101])
 (.seq (.ops [zM 102 10,
 zO 103 (.cmp .eql (.t 102) (.k (.lit .i64 0))),
 zM 104 103,
 zN 105 0 104,
 zN 106 8 104,
 zG 107 (.call (.k (.fn 13 [])) [(.t 105), (.t 106)]) 104,
 zO 108 (.pick (.t 104) (.t 107) (.k (.bool false))),
 zM 109 108,
 zG 110 (.call (.k (.fn 11 [])) []) 109,
 zO 111 (.pick (.t 109) (.t 110) (.k (.bool false))),
 zM 2 111])
 (.ret)))))))))))
theorem fn3 : FnOk Try.prog 3 x3 112 [2] := FnOk.of Try.call3 Try.func3 (by kernel_rfl) Try.ntmps3 (by kernel_rfl)
def x10 : XC :=
 .seq (.ops [zO 1 (.box 22 none (.t 0)),
 zO 2 (.mv (.k (.val (.slice none 0 0)))),
 zO 3 (.mv (.k (.lit .i64 0)))])
 (.seq (.seq (.ops [zO 32 (.load1 (.t 1)),
 zO 33 (.len (.t 32)),
 zO 34 (.mv (.k (.lit .i64 0)))])
 (.block 0 (.loop (.seq (.ops [zO 35 (.cmp .lss (.t 34) (.t 33))])
 (.seq (.cond (.t 35) (.skip) (.exit 0))
 (.seq (.block 1 (.seq (.ops [zO 36 (.iadr 3 (.t 32) (.t 34)),
 zO 37 (.loadA 3 (.t 36)),
 zO 5 (.newR 24 [(.lit .i64 0), (.lit .i64 0), (.lit .i64 0)]),
 ⟨none, .storeA 3 (.t 5) (.t 37), none, []⟩])
 (.seq (.ops [zO 38 (.fadr 0 (.t 5)),
 zO 39 (.load1 (.t 38)),
 zO 40 (.cmp .lss (.t 39) (.k (.lit .i64 0))),
 zM 41 40,
 ⟨some 42, .fadr 0 (.t 5), some (41, false), []⟩,
 ⟨some 43, .load1 (.t 42), some (41, false), []⟩,
 ⟨some 44, .cmp .gtr (.t 43) (.k (.lit .i64 131071)), some (41, false), []⟩,
 zO 45 (.pick (.t 41) (.k (.bool true)) (.t 44)),
 zM 46 45,
 ⟨some 47, .fadr 1 (.t 5), some (46, false), []⟩,
 ⟨some 48, .load1 (.t 47), some (46, false), []⟩,
 ⟨some 49, .cmp .lss (.t 48) (.k (.lit .i64 3)), some (46, false), []⟩,
 zO 50 (.pick (.t 46) (.k (.bool true)) (.t 49)),
 zM 51 50,
 ⟨some 52, .fadr 1 (.t 5), some (51, false), []⟩,
 ⟨some 53, .load1 (.t 52), some (51, false), []⟩,
 ⟨some 54, .cmp .gtr (.t 53) (.k (.lit .i64 131074)), some (51, false), []⟩,
 zO 55 (.pick (.t 51) (.k (.bool true)) (.t 54)),
 zM 56 55,
 ⟨some 57, .fadr 2 (.t 5), some (56, false), []⟩,
 ⟨some 58, .load1 (.t 57), some (56, false), []⟩,
 ⟨some 59, .cmp .lss (.t 58) (.k (.lit .i64 1)), some (56, false), []⟩,
 zO 60 (.pick (.t 56) (.k (.bool true)) (.t 59)),
 zM 61 60,
 ⟨some 62, .fadr 2 (.t 5), some (61, false), []⟩,
 ⟨some 63, .load1 (.t 62), some (61, false), []⟩,
 ⟨some 64, .cmp .gtr (.t 63) (.k (.lit .i64 268435456)), some (61, false), []⟩,
 zO 65 (.pick (.t 61) (.k (.bool true)) (.t 64))])
 (.cond (.t 65) (.seq (.ops [zO 2 (.mv (.k (.val (.slice none 0 0)))),
 zO 3 (.mv (.k (.lit .i64 2)))])
 (.ret)) (.skip)))))
 (.ops [zO 66 (.bin .add .i64 (.t 34) (.k (.lit .i64 1))),
 zM 34 66])))))))
 (.seq (.ops [zO 67 (.load1 (.t 1)),
 zO 68 (.len (.t 67)),
 zM 6 68])
 (.seq (.ops [zO 7 (.mv (.k (.val (.slice none 0 0))))])
 (.seq (.block 2 (.seq (.ops [zM 78 6,
 zO 79 (.cmp .gtr (.t 78) (.k (.lit .i64 65535))),
 zM 77 79])
 (.cond (.t 77) (.seq (.ops [zO 2 (.mv (.k (.val (.slice none 0 0)))),
 zO 3 (.mv (.k (.lit .i64 3)))])
 (.ret)) (.seq (.ops [zM 81 6,
 zO 82 (.cmp .eql (.t 81) (.k (.lit .i64 0))),
 zM 80 82])
 (.cond (.t 80) (.seq (.ops [zO 83 (.bsliceI 5 .u8 1 [⟨0, 1, (.k (.lit .u8 0))⟩]),
 zM 2 83,
 zO 3 (.mv (.k (.lit .i64 0)))])
 (.ret)) (.seq (.ops [zM 85 6,
 zO 86 (.cmp .lss (.t 85) (.k (.lit .i64 128))),
 zM 84 86])
 (.cond (.t 84) (.ops [zM 87 6,
 zO 88 (.conv .u8 (.t 87)),
 zO 89 (.bsliceI 5 .u8 1 [⟨0, 1, (.t 88)⟩]),
 zM 7 89]) (.seq (.ops [zM 91 6,
 zO 92 (.cmp .lss (.t 91) (.k (.lit .i64 32512))),
 zM 90 92])
 (.cond (.t 90) (.ops [zM 93 6,
 zO 94 (.bin .shr .i64 (.t 93) (.k (.lit .u64 8))),
 zO 95 (.bin .add .i64 (.t 94) (.k (.lit .i64 128))),
 zO 96 (.conv .u8 (.t 95)),
 zM 97 6,
 zO 98 (.conv .u8 (.t 97)),
 zO 99 (.bsliceI 5 .u8 2 [⟨0, 1, (.t 96)⟩, ⟨1, 1, (.t 98)⟩]),
 zM 7 99]) (.ops [zM 69 6,
 zO 70 (.bin .sub .i64 (.t 69) (.k (.lit .i64 32512))),
 zO 71 (.conv .u8 (.t 70)),
 zM 72 6,
 zO 73 (.bin .sub .i64 (.t 72) (.k (.lit .i64 32512))),
 zO 74 (.bin .shr .i64 (.t 73) (.k (.lit .u64 8))),
 zO 75 (.conv .u8 (.t 74)),
 zO 76 (.bsliceI 5 .u8 3 [⟨0, 1, (.k (.lit .u8 255))⟩, ⟨1, 1, (.t 71)⟩, ⟨2, 1, (.t 75)⟩]),
 zM 7 76]))))))))))
 (.seq (.ops [zO 100 (.call (.k (.fn 24 [])) []),
 zO 8 (.newR 59 [(.lit .i64 0), (.lit .i64 0), (.lit .i64 0), (.val (.slice none 0 0)), (.val .nilFunc), (.val .nilFunc), (.val .nilFunc), (.lit .i64 0), (.lit .i64 0), (.lit .i64 0), (.val (.slice none 0 0)), (.val .nilFunc), (.val .nilFunc), (.val .nilFunc), (.lit .i64 0), (.lit .i64 0), (.lit .i64 0), (.val (.slice none 0 0)), (.val .nilFunc), (.val .nilFunc), (.val .nilFunc)]),
 ⟨none, .storeA 21 (.t 8) (.t 100), none, []⟩])
 (.seq (.ops [zO 101 (.mkfn 25 [(.t 1)]),
 zM 9 101])
 (.seq (.ops [zO 10 (.newR 64 [(.val (.slice none 0 0)), (.val (.slice none 0 0)), (.val (.slice none 0 0))])])
 (.seq (.seq (.ops [zO 102 (.load1 (.t 1)),
 zO 103 (.len (.t 102)),
 zO 104 (.mv (.k (.lit .i64 0)))])
 (.block 3 (.loop (.seq (.ops [zO 105 (.cmp .lss (.t 104) (.t 103))])
 (.seq (.cond (.t 105) (.skip) (.exit 3))
 (.seq (.block 4 (.seq (.ops [zM 106 104,
 zM 11 106])
 (.seq (.ops [zM 107 9,
 zM 108 11,
 zO 109 (.call (.t 107) [(.t 108)]),
 zO 110 (.mv (.k (.lit .i64 0)))])
 (.block 5 (.loop (.seq (.ops [zO 111 (.cmp .lss (.t 110) (.k (.lit .i64 3)))])
 (.seq (.cond (.t 111) (.skip) (.exit 5))
 (.seq (.block 6 (.seq (.ops [zM 112 110,
 zO 113 (.idxA 3 1 false (.t 109) (.t 110)),
 zM 12 112,
 zM 13 113])
 (.ops [zM 114 12,
 zM 115 12,
 zO 116 (.iadrA 3 1 (.t 10) (.t 115)),
 zO 117 (.load1 (.t 116)),
 zM 118 12,
 zO 119 (.iadrA 3 7 (.t 8) (.t 118)),
 zO 120 (.fadr 5 (.t 119)),
 zO 121 (.load1 (.t 120)),
 zM 122 13,
 ⟨some 123, .call (.t 121) [(.t 122)], none, [(.load1 (.t 116), 117, none)]⟩,
 ⟨some 124, .bsliceI 3 .i64 1 [⟨0, 1, (.t 123)⟩], none, [(.load1 (.t 116), 117, none)]⟩,
 zO 125 (.appI 3 .i64 8 (.t 117) (.t 124)),
 zO 126 (.iadrA 3 1 (.t 10) (.t 114)),
 ⟨none, .store1 (.t 126) (.t 125), none, []⟩])))
 (.ops [zO 127 (.bin .add .i64 (.t 110) (.k (.lit .i64 1))),
 zM 110 127])))))))))
 (.ops [zO 128 (.bin .add .i64 (.t 104) (.k (.lit .i64 1))),
 zM 104 128])))))))
 (.seq (.ops [zO 14 (.newR 67 [(.lit .u8 0), (.val (.slice none 0 0)), (.val (.slice none 0 0)), (.lit .u8 0), (.val (.slice none 0 0)), (.val (.slice none 0 0)), (.lit .u8 0), (.val (.slice none 0 0)), (.val (.slice none 0 0))])])
 (.seq (.ops [zO 15 (.mv (.k (.lit .u8 0)))])
 (.seq (.seq (.ops [zO 129 (.mv (.k (.lit .i64 0)))])
 (.block 7 (.loop (.seq (.ops [zO 130 (.cmp .lss (.t 129) (.k (.lit .i64 3)))])
 (.seq (.cond (.t 130) (.skip) (.exit 7))
 (.seq (.block 8 (.seq (.ops [zM 131 129,
 zM 16 131])
 (.seq (.ops [zM 132 16,
 zM 133 16,
 zO 134 (.iadrA 3 7 (.t 8) (.t 133)),
 zM 135 16,
 zO 136 (.iadrA 3 1 (.t 10) (.t 135)),
 zO 137 (.load1 (.t 136)),
 zO 138 (.call (.k (.fn 26 [])) [(.t 134), (.t 137)]),
 zO 139 (.iadrA 3 3 (.t 14) (.t 132)),
 ⟨none, .storeA 3 (.t 139) (.t 138), none, []⟩])
 (.ops [zM 140 15,
 zM 141 16,
 zO 142 (.iadrA 3 3 (.t 14) (.t 141)),
 zO 143 (.fadr 0 (.t 142)),
 zO 144 (.load1 (.t 143)),
 zM 145 16,
 zO 146 (.bin .mul .i64 (.k (.lit .i64 2)) (.t 145)),
 zO 147 (.bin .sub .i64 (.k (.lit .i64 6)) (.t 146)),
 zO 148 (.conv .u64 (.t 147)),
 zO 149 (.bin .shl .u8 (.t 144) (.t 148)),
 zO 150 (.bin .or .u8 (.t 140) (.t 149)),
 zM 15 150]))))
 (.ops [zO 151 (.bin .add .i64 (.t 129) (.k (.lit .i64 1))),
 zM 129 151])))))))
 (.seq (.ops [zM 152 7,
 zM 153 15,
 zO 154 (.bsliceI 5 .u8 1 [⟨0, 1, (.t 153)⟩]),
 zO 155 (.appI 5 .u8 1 (.t 152) (.t 154)),
 zM 7 155])
 (.seq (.seq (.ops [zO 156 (.mv (.k (.lit .i64 0)))])
 (.block 9 (.loop (.seq (.ops [zO 157 (.cmp .lss (.t 156) (.k (.lit .i64 3)))])
 (.seq (.cond (.t 157) (.skip) (.exit 9))
 (.seq (.block 10 (.seq (.ops [zM 158 156,
 zM 17 158])
 (.ops [zM 159 7,
 zM 160 17,
 zO 161 (.iadrA 3 3 (.t 14) (.t 160)),
 zO 162 (.fadr 1 (.t 161)),
 zO 163 (.load1 (.t 162)),
 zO 164 (.appI 5 .u8 1 (.t 159) (.t 163)),
 zM 7 164])))
 (.ops [zO 165 (.bin .add .i64 (.t 156) (.k (.lit .i64 1))),
 zM 156 165])))))))
 (.seq (.ops [zO 166 (.build [(.val (.slice none 0 0)), (.lit .i64 0)] []),
 zO 167 (.box 71 none (.t 166)),
 zM 18 167])
 (.seq (.ops [zO 19 (.newI 61 .i64 3)])
 (.seq (.seq (.ops [zM 168 6,
 zO 169 (.bin .sub .i64 (.t 168) (.k (.lit .i64 1))),
 zM 20 169])
 (.block 11 (.loop (.seq (.seq (.ops [zM 170 20,
 zO 171 (.cmp .geq (.t 170) (.k (.lit .i64 0)))])
 (.cond (.t 171) (.skip) (.exit 11)))
 (.seq (.block 12 (.seq (.seq (.ops [zO 174 (.build [(.lit .i64 0), (.lit .i64 0), (.lit .i64 0)] [⟨0, 1, (.k (.lit .i64 1))⟩, ⟨1, 1, (.k (.lit .i64 2))⟩, ⟨2, 1, (.k (.lit .i64 0))⟩]),
 zO 175 (.mv (.k (.lit .i64 0)))])
 (.block 13 (.loop (.seq (.ops [zO 176 (.cmp .lss (.t 175) (.k (.lit .i64 3)))])
 (.seq (.cond (.t 176) (.skip) (.exit 13))
 (.seq (.block 14 (.seq (.ops [zO 177 (.idxA 3 1 false (.t 174) (.t 175)),
 zM 22 177])
 (.seq (.ops [zO 23 (.mv (.k (.lit .i64 0))),
 zO 24 (.mv (.k (.bool true)))])
 (.seq (.seq (.ops [zM 178 20,
 zM 179 6,
 zO 180 (.bin .sub .i64 (.t 179) (.k (.lit .i64 1))),
 zO 181 (.cmp .eql (.t 178) (.t 180))])
 (.cond (.t 181) (.ops [zM 183 22,
 zO 184 (.iadrA 3 3 (.t 14) (.t 183)),
 zO 185 (.fadr 2 (.t 184)),
 zO 186 (.load1 (.t 185)),
 zM 187 22,
 zO 188 (.iadrA 3 1 (.t 10) (.t 187)),
 zO 189 (.load1 (.t 188)),
 zM 190 20,
 zO 191 (.iadr 1 (.t 189) (.t 190)),
 zO 192 (.load1 (.t 191)),
 ⟨some 193, .call (.k (.fn 27 [])) [(.t 186), (.t 192)], none, [(.load1 (.t 188), 189, none)]⟩,
 zM 182 193,
 zO 194 (.extract (.t 182) 0),
 zO 195 (.extract (.t 182) 1),
 zM 23 194,
 zM 24 195]) (.ops [zM 197 22,
 zO 198 (.iadrA 3 3 (.t 14) (.t 197)),
 zO 199 (.fadr 2 (.t 198)),
 zO 200 (.load1 (.t 199)),
 zM 201 22,
 zO 202 (.iadrA 3 1 (.t 10) (.t 201)),
 zO 203 (.load1 (.t 202)),
 zM 204 20,
 zO 205 (.iadr 1 (.t 203) (.t 204)),
 zO 206 (.load1 (.t 205)),
 zO 207 (.conv .u8 (.t 206)),
 zM 208 22,
 zO 209 (.iadrA 3 1 (.t 19) (.t 208)),
 zO 210 (.load1 (.t 209)),
 ⟨some 211, .call (.k (.fn 28 [])) [(.t 200), (.t 207), (.t 210)], none, [(.load1 (.t 205), 206, none), (.load1 (.t 202), 203, none)]⟩,
 zM 196 211,
 zO 212 (.extract (.t 196) 0),
 zO 213 (.extract (.t 196) 1),
 zM 23 212,
 zM 24 213])))
 (.seq (.seq (.ops [zM 214 24,
 zO 215 (.not (.t 214))])
 (.cond (.t 215) (.seq (.ops [zO 2 (.mv (.k (.val (.slice none 0 0)))),
 zO 3 (.mv (.k (.lit .i64 2)))])
 (.ret)) (.skip)))
 (.seq (.seq (.ops [zM 216 20,
 zM 217 6,
 zO 218 (.bin .sub .i64 (.t 217) (.k (.lit .i64 1))),
 zO 219 (.cmp .lss (.t 216) (.t 218))])
 (.cond (.t 219) (.ops [zM 220 18,
 zM 221 22,
 zO 222 (.iadrA 3 1 (.t 19) (.t 221)),
 zO 223 (.load1 (.t 222)),
 zM 224 22,
 zO 225 (.iadrA 3 3 (.t 14) (.t 224)),
 zO 226 (.fadr 2 (.t 225)),
 zO 227 (.load1 (.t 226)),
 zM 228 23,
 zO 229 (.iadr 3 (.t 227) (.t 228)),
 zO 230 (.fadr 2 (.t 229)),
 zO 231 (.load1 (.t 230)),
 zO 232 (.conv .i64 (.t 231)),
 zO 233 (.bin .sub .i64 (.t 223) (.t 232)),
 zO 234 (.conv .u64 (.t 233)),
 zM 235 22,
 zO 236 (.iadrA 3 3 (.t 14) (.t 235)),
 zO 237 (.fadr 2 (.t 236)),
 zO 238 (.load1 (.t 237)),
 zM 239 23,
 zO 240 (.iadr 3 (.t 238) (.t 239)),
 zO 241 (.fadr 1 (.t 240)),
 zO 242 (.load1 (.t 241)),
 zO 243 (.conv .i64 (.t 242)),
 ⟨some 244, .call (.k (.fn 29 [])) [(.t 220), (.t 234), (.t 243)], none, [(.load1 (.t 241), 242, none), (.load1 (.t 237), 238, none), (.load1 (.t 230), 231, none), (.load1 (.t 226), 227, none), (.load1 (.t 222), 223, none)]⟩]) (.skip)))
 (.ops [zM 245 22,
 zM 246 23,
 zO 247 (.iadrA 3 1 (.t 19) (.t 245)),
 ⟨none, .store1 (.t 247) (.t 246), none, []⟩])))))))
 (.ops [zO 248 (.bin .add .i64 (.t 175) (.k (.lit .i64 1))),
 zM 175 248])))))))
 (.seq (.ops [zO 249 (.build [(.lit .i64 0), (.lit .i64 0), (.lit .i64 0)] [⟨0, 1, (.k (.lit .i64 0))⟩, ⟨1, 1, (.k (.lit .i64 2))⟩, ⟨2, 1, (.k (.lit .i64 1))⟩]),
 zO 250 (.mv (.k (.lit .i64 0)))])
 (.block 15 (.loop (.seq (.ops [zO 251 (.cmp .lss (.t 250) (.k (.lit .i64 3)))])
 (.seq (.cond (.t 251) (.skip) (.exit 15))
 (.seq (.block 16 (.seq (.ops [zO 252 (.idxA 3 1 false (.t 249) (.t 250)),
 zM 26 252])
 (.seq (.ops [zM 253 9,
 zM 254 20,
 zO 255 (.call (.t 253) [(.t 254)]),
 zM 256 26,
 zO 257 (.idxA 3 1 false (.t 255) (.t 256)),
 zM 27 257])
 (.seq (.ops [zM 259 26,
 zO 260 (.iadrA 3 7 (.t 8) (.t 259)),
 zO 261 (.fadr 4 (.t 260)),
 zO 262 (.load1 (.t 261)),
 zM 263 26,
 zO 264 (.iadrA 3 1 (.t 10) (.t 263)),
 zO 265 (.load1 (.t 264)),
 zM 266 20,
 zO 267 (.iadr 1 (.t 265) (.t 266)),
 zO 268 (.load1 (.t 267)),
 ⟨some 269, .call (.t 262) [(.t 268)], none, [(.load1 (.t 264), 265, none)]⟩,
 zM 258 269,
 zO 270 (.extract (.t 258) 0),
 zO 271 (.extract (.t 258) 1),
 zM 28 270,
 zM 29 271])
 (.ops [zM 272 18,
 zM 273 27,
 zM 274 28,
 zO 275 (.bin .sub .i64 (.t 273) (.t 274)),
 zO 276 (.conv .u64 (.t 275)),
 zM 277 29,
 zO 278 (.call (.k (.fn 29 [])) [(.t 272), (.t 276), (.t 277)])])))))
 (.ops [zO 279 (.bin .add .i64 (.t 250) (.k (.lit .i64 1))),
 zM 250 279])))))))))
 (.ops [zM 172 20,
 zO 173 (.bin .sub .i64 (.t 172) (.k (.lit .i64 1))),
 zM 20 173]))))))
 (.seq (.seq (.ops [zO 280 (.build [(.lit .i64 0), (.lit .i64 0), (.lit .i64 0)] [⟨0, 1, (.k (.lit .i64 2))⟩, ⟨1, 1, (.k (.lit .i64 1))⟩, ⟨2, 1, (.k (.lit .i64 0))⟩]),
 zO 281 (.mv (.k (.lit .i64 0)))])
 (.block 17 (.loop (.seq (.ops [zO 282 (.cmp .lss (.t 281) (.k (.lit .i64 3)))])
 (.seq (.cond (.t 282) (.skip) (.exit 17))
 (.seq (.block 18 (.seq (.ops [zO 283 (.idxA 3 1 false (.t 280) (.t 281)),
 zM 31 283])
 (.ops [zM 284 18,
 zM 285 31,
 zO 286 (.iadrA 3 1 (.t 19) (.t 285)),
 zO 287 (.load1 (.t 286)),
 zO 288 (.conv .u64 (.t 287)),
 zM 289 31,
 zO 290 (.iadrA 3 3 (.t 14) (.t 289)),
 zO 291 (.fadr 2 (.t 290)),
 zO 292 (.load1 (.t 291)),
 ⟨some 293, .call (.k (.fn 30 [])) [(.t 292)], none, [(.load1 (.t 286), 287, none)]⟩,
 ⟨some 294, .call (.k (.fn 29 [])) [(.t 284), (.t 288), (.t 293)], none, [(.load1 (.t 286), 287, none)]⟩])))
 (.ops [zO 295 (.bin .add .i64 (.t 281) (.k (.lit .i64 1))),
 zM 281 295])))))))
 (.seq (.ops [zM 296 7,
 zM 297 18,
 zO 298 (.call (.k (.fn 31 [])) [(.t 297)]),
 zO 299 (.appI 5 .u8 1 (.t 296) (.t 298)),
 zM 2 299,
 zO 3 (.mv (.k (.lit .i64 0)))])
 (.ret)))))))))))))))))))
theorem fn10 : FnOk Try.prog 10 x10 300 [2, 3] := FnOk.of Try.call10 Try.func10 (by kernel_rfl) Try.ntmps10 (by kernel_rfl)
def x11 : XC :=
 .seq (.ops [zO 0 (.mv (.k (.bool false)))])
 (.seq (.ops [zO 11 (.bsliceI 5 .u8 1 [⟨0, 1, (.k (.lit .u8 0))⟩]),
 zO 12 (.build [(.val (.slice none 0 0)), (.val (.slice none 0 0)), (.val (.slice none 0 0))] []),
 zO 13 (.call (.k (.fn 12 [])) [(.t 11), (.t 12)]),
 zM 10 13,
 zO 14 (.extract (.t 10) 0),
 zO 15 (.extract (.t 10) 1),
 zO 16 (.extract (.t 10) 2),
 zO 2 (.newR 32 [(.val (.slice none 0 0)), (.val (.slice none 0 0)), (.val (.slice none 0 0))]),
 zM 1 14,
 ⟨none, .storeA 3 (.t 2) (.t 15), none, []⟩,
 zM 3 16])
 (.seq (.ops [zO 18 (.bsliceI 5 .u8 2 [⟨0, 1, (.k (.lit .u8 0))⟩, ⟨1, 1, (.k (.lit .u8 0))⟩]),
 zO 19 (.build [(.val (.slice none 0 0)), (.val (.slice none 0 0)), (.val (.slice none 0 0))] []),
 zO 20 (.call (.k (.fn 12 [])) [(.t 18), (.t 19)]),
 zM 17 20,
 zO 21 (.extract (.t 17) 0),
 zO 22 (.extract (.t 17) 1),
 zO 23 (.extract (.t 17) 2),
 zO 5 (.newR 32 [(.val (.slice none 0 0)), (.val (.slice none 0 0)), (.val (.slice none 0 0))]),
 zM 4 21,
 ⟨none, .storeA 3 (.t 5) (.t 22), none, []⟩,
 zM 6 23])
 (.seq (.ops [zO 24 (.build [(.lit .i64 0), (.lit .i64 0), (.lit .i64 0)] [⟨0, 1, (.k (.lit .i64 1))⟩, ⟨1, 1, (.k (.lit .i64 4))⟩, ⟨2, 1, (.k (.lit .i64 8))⟩]),
 zO 7 (.newI 61 .i64 3),
 ⟨none, .storeA 3 (.t 7) (.t 24), none, []⟩])
 (.seq (.ops [zO 26 (.call (.k (.fn 32 [])) [(.t 7), (.k (.lit .i64 5)), (.k (.lit .i64 2))]),
 zM 25 26,
 zO 27 (.extract (.t 25) 0),
 zO 28 (.extract (.t 25) 1),
 zM 8 27,
 zM 9 28])
 (.seq (.ops [zM 29 3,
 zO 30 (.cmp .eql (.t 29) (.k (.lit .i64 0))),
 zM 31 30,
 zN 32 1 31,
 zG 33 (.len (.t 32)) 31,
 zG 34 (.cmp .eql (.t 33) (.k (.lit .i64 0))) 31,
 zO 35 (.pick (.t 31) (.t 34) (.k (.bool false))),
 zM 36 35,
 zN 37 6 36,
 zG 38 (.cmp .eql (.t 37) (.k (.lit .i64 11))) 36,
 zO 39 (.pick (.t 36) (.t 38) (.k (.bool false))),
 zM 40 39,
 zN 41 8 40,
 zG 42 (.cmp .eql (.t 41) (.k (.lit .i64 4))) 40,
 zO 43 (.pick (.t 40) (.t 42) (.k (.bool false))),
 zM 44 43,
 zN 45 9 44,
 zG 46 (.cmp .eql (.t 45) (.k (.lit .i64 0))) 44,
 zO 47 (.pick (.t 44) (.t 46) (.k (.bool false))),
 zM 48 47,
 zG 49 (.loadA 3 (.t 7)) 48,
 zG 50 (.build [(.lit .i64 0), (.lit .i64 0), (.lit .i64 0)] [⟨0, 1, (.k (.lit .i64 4))⟩, ⟨1, 1, (.k (.lit .i64 1))⟩, ⟨2, 1, (.k (.lit .i64 8))⟩]) 48,
 zG 51 (.eqR false 3 (.t 49) (.t 50)) 48,
 zO 52 (.pick (.t 48) (.t 51) (.k (.bool false))),
 zM 53 52,
 zG 54 (.call (.k (.fn 33 [])) [(.t 7), (.k (.lit .i64 5)), (.k (.lit .i64 100))]) 53,
 zG 55 (.cmp .eql (.t 54) (.k (.lit .i64 103))) 53,
 zO 56 (.pick (.t 53) (.t 55) (.k (.bool false))),
 zM 0 56])
 (.ret))))))
theorem fn11 : FnOk Try.prog 11 x11 57 [0] := FnOk.of Try.call11 Try.func11 (by kernel_rfl) Try.ntmps11 (by kernel_rfl)
def x12 : XC :=
 .seq (.ops [zO 3 (.box 32 none (.t 1)),
 zO 4 (.mv (.k (.val (.slice none 0 0)))),
 zO 5 (.newR 32 [(.val (.slice none 0 0)), (.val (.slice none 0 0)), (.val (.slice none 0 0))]),
 zO 6 (.mv (.k (.lit .i64 0)))])
 (.scope (.seq (.seq (.ops [zM 27 0,
 zO 28 (.len (.t 27)),
 zO 29 (.cmp .gtr (.t 28) (.k (.lit .i64 131072)))])
 (.cond (.t 29) (.seq (.ops [zO 30 (.build [(.val (.slice none 0 0)), (.val (.slice none 0 0)), (.val (.slice none 0 0))] []),
 zO 4 (.mv (.k (.val (.slice none 0 0)))),
 ⟨none, .storeA 3 (.t 5) (.t 30), none, []⟩,
 zO 6 (.mv (.k (.lit .i64 3)))])
 (.ret)) (.skip)))
 (.seq (.seq (.ops [zM 31 0,
 zO 32 (.len (.t 31)),
 zO 33 (.cmp .eql (.t 32) (.k (.lit .i64 0)))])
 (.cond (.t 33) (.seq (.ops [zO 34 (.build [(.val (.slice none 0 0)), (.val (.slice none 0 0)), (.val (.slice none 0 0))] []),
 zO 4 (.mv (.k (.val (.slice none 0 0)))),
 ⟨none, .storeA 3 (.t 5) (.t 34), none, []⟩,
 zO 6 (.mv (.k (.lit .i64 10)))])
 (.ret)) (.skip)))
 (.seq (.ops [zM 35 0,
 zO 36 (.iadr 1 (.t 35) (.k (.lit .i64 0))),
 zO 37 (.load1 (.t 36)),
 zO 38 (.conv .i64 (.t 37)),
 zM 7 38,
 zO 8 (.mv (.k (.lit .i64 1)))])
 (.seq (.block 0 (.seq (.ops [zM 40 7,
 zO 41 (.cmp .eql (.t 40) (.k (.lit .i64 255))),
 zM 39 41])
 (.cond (.t 39) (.ops [zO 8 (.mv (.k (.lit .i64 3)))]) (.seq (.ops [zM 43 7,
 zO 44 (.cmp .geq (.t 43) (.k (.lit .i64 128))),
 zM 42 44])
 (.cond (.t 42) (.ops [zO 8 (.mv (.k (.lit .i64 2)))]) (.skip))))))
 (.seq (.seq (.ops [zM 45 0,
 zO 46 (.len (.t 45)),
 zM 47 8,
 zO 48 (.cmp .lss (.t 46) (.t 47))])
 (.cond (.t 48) (.seq (.ops [zO 49 (.build [(.val (.slice none 0 0)), (.val (.slice none 0 0)), (.val (.slice none 0 0))] []),
 zO 4 (.mv (.k (.val (.slice none 0 0)))),
 ⟨none, .storeA 3 (.t 5) (.t 49), none, []⟩,
 zO 6 (.mv (.k (.lit .i64 10)))])
 (.ret)) (.skip)))
 (.seq (.seq (.ops [zM 50 8])
 (.block 1 (.seq (.ops [zO 52 (.cmp .eql (.t 50) (.k (.lit .i64 2))),
 zM 51 52])
 (.cond (.t 51) (.ops [zM 53 7,
 zO 54 (.bin .sub .i64 (.t 53) (.k (.lit .i64 128))),
 zO 55 (.bin .shl .i64 (.t 54) (.k (.lit .u64 8))),
 zM 56 0,
 zO 57 (.iadr 1 (.t 56) (.k (.lit .i64 1))),
 zO 58 (.load1 (.t 57)),
 zO 59 (.conv .i64 (.t 58)),
 zO 60 (.bin .add .i64 (.t 55) (.t 59)),
 zM 7 60]) (.seq (.ops [zO 62 (.cmp .eql (.t 50) (.k (.lit .i64 3))),
 zM 61 62])
 (.cond (.t 61) (.ops [zM 63 0,
 zO 64 (.iadr 1 (.t 63) (.k (.lit .i64 1))),
 zO 65 (.load1 (.t 64)),
 zO 66 (.conv .i64 (.t 65)),
 zM 67 0,
 zO 68 (.iadr 1 (.t 67) (.k (.lit .i64 2))),
 zO 69 (.load1 (.t 68)),
 zO 70 (.conv .i64 (.t 69)),
 zO 71 (.bin .shl .i64 (.t 70) (.k (.lit .u64 8))),
 zO 72 (.bin .add .i64 (.t 66) (.t 71)),
 zO 73 (.bin .add .i64 (.t 72) (.k (.lit .i64 32512))),
 zM 7 73]) (.skip)))))))
 (.seq (.seq (.ops [zM 74 7,
 zO 75 (.cmp .eql (.t 74) (.k (.lit .i64 0)))])
 (.cond (.t 75) (.seq (.seq (.ops [zM 76 0,
 zO 77 (.len (.t 76)),
 zM 78 8,
 zO 79 (.cmp .gtr (.t 77) (.t 78))])
 (.cond (.t 79) (.seq (.ops [zO 80 (.build [(.val (.slice none 0 0)), (.val (.slice none 0 0)), (.val (.slice none 0 0))] []),
 zO 4 (.mv (.k (.val (.slice none 0 0)))),
 ⟨none, .storeA 3 (.t 5) (.t 80), none, []⟩,
 zO 6 (.mv (.k (.lit .i64 11)))])
 (.ret)) (.skip)))
 (.seq (.ops [zO 81 (.loadA 3 (.t 3)),
 zO 4 (.mv (.k (.val (.slice none 0 0)))),
 ⟨none, .storeA 3 (.t 5) (.t 81), none, []⟩,
 zO 6 (.mv (.k (.lit .i64 0)))])
 (.ret))) (.skip)))
 (.seq (.seq (.ops [zM 82 0,
 zO 83 (.len (.t 82)),
 zM 84 8,
 zO 85 (.cmp .eql (.t 83) (.t 84))])
 (.cond (.t 85) (.seq (.ops [zO 86 (.build [(.val (.slice none 0 0)), (.val (.slice none 0 0)), (.val (.slice none 0 0))] []),
 zO 4 (.mv (.k (.val (.slice none 0 0)))),
 ⟨none, .storeA 3 (.t 5) (.t 86), none, []⟩,
 zO 6 (.mv (.k (.lit .i64 10)))])
 (.ret)) (.skip)))
 (.seq (.ops [zM 87 0,
 zM 88 8,
 zO 89 (.iadr 1 (.t 87) (.t 88)),
 zO 90 (.load1 (.t 89)),
 zM 9 90])
 (.seq (.ops [zM 91 8,
 zO 92 (.bin .add .i64 (.t 91) (.k (.lit .i64 1))),
 zM 8 92])
 (.seq (.seq (.ops [zM 93 9,
 zO 94 (.bin .and .u8 (.t 93) (.k (.lit .u8 3))),
 zO 95 (.cmp .neq (.t 94) (.k (.lit .u8 0)))])
 (.cond (.t 95) (.seq (.ops [zO 96 (.build [(.val (.slice none 0 0)), (.val (.slice none 0 0)), (.val (.slice none 0 0))] []),
 zO 4 (.mv (.k (.val (.slice none 0 0)))),
 ⟨none, .storeA 3 (.t 5) (.t 96), none, []⟩,
 zO 6 (.mv (.k (.lit .i64 11)))])
 (.ret)) (.skip)))
 (.seq (.ops [zO 97 (.call (.k (.fn 24 [])) []),
 zO 10 (.newR 59 [(.lit .i64 0), (.lit .i64 0), (.lit .i64 0), (.val (.slice none 0 0)), (.val .nilFunc), (.val .nilFunc), (.val .nilFunc), (.lit .i64 0), (.lit .i64 0), (.lit .i64 0), (.val (.slice none 0 0)), (.val .nilFunc), (.val .nilFunc), (.val .nilFunc), (.lit .i64 0), (.lit .i64 0), (.lit .i64 0), (.val (.slice none 0 0)), (.val .nilFunc), (.val .nilFunc), (.val .nilFunc)]),
 ⟨none, .storeA 21 (.t 10) (.t 97), none, []⟩])
 (.seq (.seq (.ops [zO 98 (.mv (.k (.lit .i64 0)))])
 (.block 2 (.loop (.seq (.ops [zO 99 (.cmp .lss (.t 98) (.k (.lit .i64 3)))])
 (.seq (.cond (.t 99) (.skip) (.exit 2))
 (.seq (.block 3 (.seq (.ops [zM 100 98,
 zM 11 100])
 (.seq (.ops [zM 101 11,
 zO 102 (.iadrA 3 7 (.t 10) (.t 101)),
 zM 12 102])
 (.seq (.ops [zM 104 12,
 zM 105 9,
 zM 106 11,
 zO 107 (.bin .mul .i64 (.k (.lit .i64 2)) (.t 106)),
 zO 108 (.bin .sub .i64 (.k (.lit .i64 6)) (.t 107)),
 zO 109 (.conv .u64 (.t 108)),
 zO 110 (.bin .shr .u8 (.t 105) (.t 109)),
 zO 111 (.bin .and .u8 (.t 110) (.k (.lit .u8 3))),
 zM 112 0,
 zM 113 8,
 zO 114 (.slc 1 (.t 112) (some (.t 113)) none none),
 zM 115 12,
 zO 116 (.nilchk (.t 115)),
 zO 117 (.fadr 6 (.t 116)),
 zO 118 (.load1 (.t 117)),
 zO 119 (.call (.t 118) [(.t 3)]),
 zO 120 (.nilchk (.t 119)),
 zO 121 (.load1 (.t 120)),
 zO 122 (.call (.k (.fn 34 [])) [(.t 104), (.t 111), (.t 114), (.t 121)]),
 zM 103 122,
 zO 123 (.extract (.t 103) 0),
 zO 124 (.extract (.t 103) 1),
 zO 125 (.extract (.t 103) 2),
 zM 13 123,
 zM 14 124,
 zM 15 125])
 (.seq (.seq (.ops [zM 126 15,
 zO 127 (.cmp .neq (.t 126) (.k (.lit .i64 0)))])
 (.cond (.t 127) (.seq (.ops [zO 128 (.build [(.val (.slice none 0 0)), (.val (.slice none 0 0)), (.val (.slice none 0 0))] []),
 zM 129 15,
 zO 4 (.mv (.k (.val (.slice none 0 0)))),
 ⟨none, .storeA 3 (.t 5) (.t 128), none, []⟩,
 zM 6 129])
 (.ret)) (.skip)))
 (.seq (.ops [zM 130 12,
 zO 131 (.nilchk (.t 130)),
 zO 132 (.fadr 6 (.t 131)),
 zO 133 (.load1 (.t 132)),
 zO 134 (.call (.t 133) [(.t 3)]),
 zM 135 13,
 zO 136 (.nilchk (.t 134)),
 ⟨none, .store1 (.t 136) (.t 135), none, []⟩])
 (.ops [zM 137 8,
 zM 138 14,
 zO 139 (.bin .add .i64 (.t 137) (.t 138)),
 zM 8 139])))))))
 (.ops [zO 140 (.bin .add .i64 (.t 98) (.k (.lit .i64 1))),
 zM 98 140])))))))
 (.seq (.ops [zM 142 0,
 zM 143 8,
 zO 144 (.slc 1 (.t 142) (some (.t 143)) none none),
 zO 145 (.call (.k (.fn 35 [])) [(.t 144)]),
 zM 141 145,
 zO 146 (.extract (.t 141) 0),
 zO 147 (.extract (.t 141) 1),
 zM 16 146,
 zM 6 147])
 (.seq (.seq (.ops [zM 148 6,
 zO 149 (.cmp .neq (.t 148) (.k (.lit .i64 0)))])
 (.cond (.t 149) (.seq (.ops [zO 150 (.build [(.val (.slice none 0 0)), (.val (.slice none 0 0)), (.val (.slice none 0 0))] []),
 zM 151 6,
 zO 4 (.mv (.k (.val (.slice none 0 0)))),
 ⟨none, .storeA 3 (.t 5) (.t 150), none, []⟩,
 zM 6 151])
 (.ret)) (.skip)))
 (.seq (.ops [zO 17 (.newI 61 .i64 3)])
 (.seq (.seq (.ops [zO 152 (.mv (.k (.lit .i64 0)))])
 (.block 4 (.loop (.seq (.ops [zO 153 (.cmp .lss (.t 152) (.k (.lit .i64 3)))])
 (.seq (.cond (.t 153) (.skip) (.exit 4))
 (.seq (.block 5 (.seq (.ops [zM 154 152,
 zM 18 154])
 (.ops [zM 155 18,
 zM 156 16,
 zM 157 18,
 zO 158 (.iadrA 3 7 (.t 10) (.t 157)),
 zO 159 (.fadr 6 (.t 158)),
 zO 160 (.load1 (.t 159)),
 zO 161 (.call (.t 160) [(.t 3)]),
 zO 162 (.nilchk (.t 161)),
 zO 163 (.load1 (.t 162)),
 zO 164 (.call (.k (.fn 30 [])) [(.t 163)]),
 zO 165 (.call (.k (.fn 36 [])) [(.t 156), (.t 164)]),
 zO 166 (.conv .i64 (.t 165)),
 zO 167 (.iadrA 3 1 (.t 17) (.t 155)),
 ⟨none, .store1 (.t 167) (.t 166), none, []⟩])))
 (.ops [zO 168 (.bin .add .i64 (.t 152) (.k (.lit .i64 1))),
 zM 152 168])))))))
 (.seq (.skip)
 (.seq (.block 6 (.loop (.block 7 (.seq (.ops [zO 19 (.newI 61 .i64 3)])
 (.seq (.seq (.ops [zO 169 (.build [(.lit .i64 0), (.lit .i64 0), (.lit .i64 0)] [⟨0, 1, (.k (.lit .i64 1))⟩, ⟨1, 1, (.k (.lit .i64 2))⟩, ⟨2, 1, (.k (.lit .i64 0))⟩]),
 zO 170 (.mv (.k (.lit .i64 0)))])
 (.block 8 (.loop (.seq (.ops [zO 171 (.cmp .lss (.t 170) (.k (.lit .i64 3)))])
 (.seq (.cond (.t 171) (.skip) (.exit 8))
 (.seq (.block 9 (.seq (.ops [zO 172 (.idxA 3 1 false (.t 169) (.t 170)),
 zM 21 172])
 (.seq (.ops [zM 174 21,
 zO 175 (.iadrA 3 7 (.t 10) (.t 174)),
 zO 176 (.fadr 4 (.t 175)),
 zO 177 (.load1 (.t 176)),
 zM 178 21,
 zO 179 (.iadrA 3 7 (.t 10) (.t 178)),
 zO 180 (.fadr 6 (.t 179)),
 zO 181 (.load1 (.t 180)),
 zM 185 21,
 zO 186 (.iadrA 3 1 (.t 17) (.t 185)),
 zO 187 (.load1 (.t 186)),
 ⟨some 182, .call (.t 181) [(.t 3)], none, [(.load1 (.t 186), 187, none), (.load1 (.t 176), 177, none)]⟩,
 zO 183 (.nilchk (.t 182)),
 zO 184 (.load1 (.t 183)),
 zO 188 (.iadr 3 (.t 184) (.t 187)),
 zO 189 (.fadr 0 (.t 188)),
 zO 190 (.load1 (.t 189)),
 zO 191 (.conv .i64 (.t 190)),
 ⟨some 192, .call (.t 177) [(.t 191)], none, [(.load1 (.t 189), 190, none), (.load1 (.t 183), 184, none), (.load1 (.t 186), 187, none)]⟩,
 zM 173 192,
 zO 193 (.extract (.t 173) 0),
 zO 194 (.extract (.t 173) 1),
 zM 22 193,
 zM 23 194])
 (.ops [zM 195 21,
 zM 196 22,
 zM 197 16,
 zM 198 23,
 zO 199 (.call (.k (.fn 36 [])) [(.t 197), (.t 198)]),
 zO 200 (.conv .i64 (.t 199)),
 zO 201 (.bin .add .i64 (.t 196) (.t 200)),
 zO 202 (.iadrA 3 1 (.t 19) (.t 195)),
 ⟨none, .store1 (.t 202) (.t 201), none, []⟩]))))
 (.ops [zO 203 (.bin .add .i64 (.t 170) (.k (.lit .i64 1))),
 zM 170 203])))))))
 (.seq (.ops [zM 204 4,
 zO 205 (.iadrA 3 1 (.t 19) (.k (.lit .i64 0))),
 zO 206 (.load1 (.t 205)),
 zO 207 (.iadrA 3 1 (.t 19) (.k (.lit .i64 2))),
 zO 208 (.load1 (.t 207)),
 zO 209 (.iadrA 3 1 (.t 19) (.k (.lit .i64 1))),
 zO 210 (.load1 (.t 209)),
 zO 211 (.build [(.lit .i64 0), (.lit .i64 0), (.lit .i64 0)] [⟨0, 1, (.t 206)⟩, ⟨1, 1, (.t 208)⟩, ⟨2, 1, (.t 210)⟩]),
 zO 212 (.bsliceR 24 3 1 [(.lit .i64 0), (.lit .i64 0), (.lit .i64 0)] [⟨0, 3, (.t 211)⟩]),
 zO 213 (.appR 24 3 24 (.t 204) (.t 212)),
 zM 4 213])
 (.seq (.seq (.ops [zM 214 7,
 zO 215 (.bin .sub .i64 (.t 214) (.k (.lit .i64 1))),
 zM 7 215])
 (.seq (.ops [zM 216 7,
 zO 217 (.cmp .eql (.t 216) (.k (.lit .i64 0)))])
 (.cond (.t 217) (.exit 6) (.skip))))
 (.seq (.ops [zO 218 (.build [(.lit .i64 0), (.lit .i64 0), (.lit .i64 0)] [⟨0, 1, (.k (.lit .i64 0))⟩, ⟨1, 1, (.k (.lit .i64 2))⟩, ⟨2, 1, (.k (.lit .i64 1))⟩]),
 zO 219 (.mv (.k (.lit .i64 0)))])
 (.block 10 (.loop (.seq (.ops [zO 220 (.cmp .lss (.t 219) (.k (.lit .i64 3)))])
 (.seq (.cond (.t 220) (.skip) (.exit 10))
 (.seq (.block 11 (.seq (.ops [zO 221 (.idxA 3 1 false (.t 218) (.t 219)),
 zM 25 221])
 (.seq (.tree (.step ⟨(some 222), .mv (.t 25), none, []⟩
 (.step ⟨(some 223), .iadrA 3 7 (.t 10) (.t 222), none, []⟩
 (.step ⟨(some 224), .fadr 6 (.t 223), none, []⟩
 (.step ⟨(some 225), .load1 (.t 224), none, []⟩
 (.step ⟨(some 229), .mv (.t 25), none, []⟩
 (.step ⟨(some 230), .iadrA 3 1 (.t 17) (.t 229), none, []⟩
 (.step ⟨(some 231), .load1 (.t 230), none, []⟩
 (.both
 (.step ⟨(some 226), .call (.t 225) [(.t 3)], none, [(.load1 (.t 230), 231, none)]⟩
 (.step ⟨(some 227), .nilchk (.t 226), none, []⟩
 (.step ⟨(some 228), .load1 (.t 227), none, []⟩
 (.step ⟨(some 232), .iadr 3 (.t 228) (.t 231), none, []⟩
 (.step ⟨(some 233), .loadA 3 (.t 232), none, []⟩
 (.step ⟨(some 26), .newR 79 [(.lit .u8 0), (.lit .u8 0), (.lit .u16 0)], none, [(.loadA 3 (.t 232), 233, none), (.load1 (.t 227), 228, none), (.load1 (.t 230), 231, none)]⟩
 (.step ⟨none, .storeA 3 (.t 26) (.t 233), none, []⟩
 (.fin))))))))
 (.step ⟨(some 26), .newR 79 [(.lit .u8 0), (.lit .u8 0), (.lit .u16 0)], none, [(.load1 (.t 230), 231, none), (.load1 (.t 224), 225, none)]⟩
 (.step ⟨(some 226), .call (.t 225) [(.t 3)], none, [(.load1 (.t 230), 231, none)]⟩
 (.step ⟨(some 227), .nilchk (.t 226), none, []⟩
 (.step ⟨(some 228), .load1 (.t 227), none, []⟩
 (.step ⟨(some 232), .iadr 3 (.t 228) (.t 231), none, []⟩
 (.step ⟨(some 233), .loadA 3 (.t 232), none, []⟩
 (.step ⟨none, .storeA 3 (.t 26) (.t 233), none, []⟩
 (.fin)))))))))))))))))
 (.ops [zM 234 25,
 zO 235 (.fadr 2 (.t 26)),
 zO 236 (.load1 (.t 235)),
 zO 237 (.conv .i64 (.t 236)),
 zM 238 16,
 zO 239 (.fadr 1 (.t 26)),
 zO 240 (.load1 (.t 239)),
 zO 241 (.conv .i64 (.t 240)),
 ⟨some 242, .call (.k (.fn 36 [])) [(.t 238), (.t 241)], none, [(.load1 (.t 239), 240, none), (.load1 (.t 235), 236, none)]⟩,
 zO 243 (.conv .i64 (.t 242)),
 zO 244 (.bin .add .i64 (.t 237) (.t 243)),
 zO 245 (.iadrA 3 1 (.t 17) (.t 234)),
 ⟨none, .store1 (.t 245) (.t 244), none, []⟩]))))
 (.ops [zO 246 (.bin .add .i64 (.t 219) (.k (.lit .i64 1))),
 zM 219 246]))))))))))))))
 (.seq (.seq (.ops [zM 247 16,
 zO 248 (.call (.k (.fn 37 [])) [(.t 247)]),
 zO 249 (.cmp .neq (.t 248) (.k (.lit .i64 0)))])
 (.cond (.t 249) (.seq (.ops [zO 250 (.build [(.val (.slice none 0 0)), (.val (.slice none 0 0)), (.val (.slice none 0 0))] []),
 zO 4 (.mv (.k (.val (.slice none 0 0)))),
 ⟨none, .storeA 3 (.t 5) (.t 250), none, []⟩,
 zO 6 (.mv (.k (.lit .i64 11)))])
 (.ret)) (.skip)))
 (.seq (.ops [zM 251 4,
 zO 252 (.loadA 3 (.t 3)),
 zM 4 251,
 ⟨none, .storeA 3 (.t 5) (.t 252), none, []⟩,
 zO 6 (.mv (.k (.lit .i64 0)))])
 (.ret)))))))))))))))))))))))
theorem fn12 : FnOk Try.prog 12 x12 253 [4, 8000005, 6] := FnOk.of Try.call12 Try.func12 (by kernel_rfl) Try.ntmps12 (by kernel_rfl)
def x13 : XC :=
 .seq (.ops [zO 4 (.mv (.k (.bool false)))])
 (.seq (.seq (.ops [zM 6 0,
 zO 7 (.len (.t 6)),
 zM 8 1,
 zO 9 (.len (.t 8)),
 zO 10 (.cmp .neq (.t 7) (.t 9))])
 (.cond (.t 10) (.seq (.ops [zO 4 (.mv (.k (.bool false)))])
 (.ret)) (.skip)))
 (.seq (.seq (.ops [zM 11 0,
 zO 12 (.len (.t 11)),
 zO 13 (.mv (.k (.lit .i64 0)))])
 (.block 0 (.loop (.seq (.ops [zO 14 (.cmp .lss (.t 13) (.t 12))])
 (.seq (.cond (.t 14) (.skip) (.exit 0))
 (.seq (.block 1 (.seq (.ops [zM 15 13,
 zM 5 15])
 (.seq (.ops [zM 16 0,
 zM 17 5,
 zO 18 (.iadr 3 (.t 16) (.t 17)),
 zO 19 (.loadA 3 (.t 18)),
 zM 20 1,
 zM 21 5,
 zO 22 (.iadr 3 (.t 20) (.t 21)),
 zO 23 (.loadA 3 (.t 22)),
 zO 24 (.eqR true 3 (.t 19) (.t 23))])
 (.cond (.t 24) (.seq (.ops [zO 4 (.mv (.k (.bool false)))])
 (.ret)) (.skip)))))
 (.ops [zO 25 (.bin .add .i64 (.t 13) (.k (.lit .i64 1))),
 zM 13 25])))))))
 (.seq (.ops [zO 4 (.mv (.k (.bool true)))])
 (.ret))))
theorem fn13 : FnOk Try.prog 13 x13 26 [4] := FnOk.of Try.call13 Try.func13 (by kernel_rfl) Try.ntmps13 (by kernel_rfl)
def x24 : XC :=
 .seq (.ops [zO 0 (.newR 59 [(.lit .i64 0), (.lit .i64 0), (.lit .i64 0), (.val (.slice none 0 0)), (.val .nilFunc), (.val .nilFunc), (.val .nilFunc), (.lit .i64 0), (.lit .i64 0), (.lit .i64 0), (.val (.slice none 0 0)), (.val .nilFunc), (.val .nilFunc), (.val .nilFunc), (.lit .i64 0), (.lit .i64 0), (.lit .i64 0), (.val (.slice none 0 0)), (.val .nilFunc), (.val .nilFunc), (.val .nilFunc)])])
 (.seq (.ops [zO 5 (.bsliceI 124 .i16 36 [⟨0, 1, (.k (.lit .i16 4))⟩, ⟨1, 1, (.k (.lit .i16 3))⟩, ⟨2, 1, (.k (.lit .i16 2))⟩, ⟨3, 1, (.k (.lit .i16 2))⟩, ⟨4, 1, (.k (.lit .i16 2))⟩, ⟨5, 1, (.k (.lit .i16 2))⟩, ⟨6, 1, (.k (.lit .i16 2))⟩, ⟨7, 1, (.k (.lit .i16 2))⟩, ⟨8, 1, (.k (.lit .i16 2))⟩, ⟨9, 1, (.k (.lit .i16 2))⟩, ⟨10, 1, (.k (.lit .i16 2))⟩, ⟨11, 1, (.k (.lit .i16 2))⟩, ⟨12, 1, (.k (.lit .i16 2))⟩, ⟨13, 1, (.k (.lit .i16 1))⟩, ⟨14, 1, (.k (.lit .i16 1))⟩, ⟨15, 1, (.k (.lit .i16 1))⟩, ⟨16, 1, (.k (.lit .i16 2))⟩, ⟨17, 1, (.k (.lit .i16 2))⟩, ⟨18, 1, (.k (.lit .i16 2))⟩, ⟨19, 1, (.k (.lit .i16 2))⟩, ⟨20, 1, (.k (.lit .i16 2))⟩, ⟨21, 1, (.k (.lit .i16 2))⟩, ⟨22, 1, (.k (.lit .i16 2))⟩, ⟨23, 1, (.k (.lit .i16 2))⟩, ⟨24, 1, (.k (.lit .i16 2))⟩, ⟨25, 1, (.k (.lit .i16 3))⟩, ⟨26, 1, (.k (.lit .i16 2))⟩, ⟨27, 1, (.k (.lit .i16 1))⟩, ⟨28, 1, (.k (.lit .i16 1))⟩, ⟨29, 1, (.k (.lit .i16 1))⟩, ⟨30, 1, (.k (.lit .i16 1))⟩, ⟨31, 1, (.k (.lit .i16 1))⟩, ⟨32, 1, (.k (.lit .i16 (-1)))⟩, ⟨33, 1, (.k (.lit .i16 (-1)))⟩, ⟨34, 1, (.k (.lit .i16 (-1)))⟩, ⟨35, 1, (.k (.lit .i16 (-1)))⟩]),
 zO 6 (.build [(.lit .i64 0), (.lit .i64 0), (.lit .i64 0), (.val (.slice none 0 0)), (.val .nilFunc), (.val .nilFunc), (.val .nilFunc)] [⟨0, 1, (.k (.lit .i64 9))⟩, ⟨1, 1, (.k (.lit .i64 35))⟩, ⟨2, 1, (.k (.lit .i64 6))⟩, ⟨3, 1, (.t 5)⟩, ⟨6, 1, (.k (.fn 60 []))⟩]),
 zO 1 (.newR 58 [(.lit .i64 0), (.lit .i64 0), (.lit .i64 0), (.val (.slice none 0 0)), (.val .nilFunc), (.val .nilFunc), (.val .nilFunc)]),
 ⟨none, .storeA 7 (.t 1) (.t 6), none, []⟩])
 (.seq (.ops [zO 8 (.bsliceI 3 .i64 20 [⟨0, 1, (.k (.lit .i64 1))⟩, ⟨1, 1, (.k (.lit .i64 1))⟩, ⟨2, 1, (.k (.lit .i64 1))⟩, ⟨3, 1, (.k (.lit .i64 1))⟩, ⟨4, 1, (.k (.lit .i64 2))⟩, ⟨5, 1, (.k (.lit .i64 2))⟩, ⟨6, 1, (.k (.lit .i64 3))⟩, ⟨7, 1, (.k (.lit .i64 3))⟩, ⟨8, 1, (.k (.lit .i64 4))⟩, ⟨9, 1, (.k (.lit .i64 6))⟩, ⟨10, 1, (.k (.lit .i64 7))⟩, ⟨11, 1, (.k (.lit .i64 8))⟩, ⟨12, 1, (.k (.lit .i64 9))⟩, ⟨13, 1, (.k (.lit .i64 10))⟩, ⟨14, 1, (.k (.lit .i64 11))⟩, ⟨15, 1, (.k (.lit .i64 12))⟩, ⟨16, 1, (.k (.lit .i64 13))⟩, ⟨17, 1, (.k (.lit .i64 14))⟩, ⟨18, 1, (.k (.lit .i64 15))⟩, ⟨19, 1, (.k (.lit .i64 16))⟩]),
 zO 9 (.call (.k (.fn 61 [])) [(.k (.lit .i64 16)), (.k (.lit .i64 16)), (.t 8)]),
 zM 7 9,
 zO 10 (.extract (.t 7) 0),
 zO 11 (.extract (.t 7) 1),
 zO 12 (.fadr 4 (.t 1)),
 ⟨none, .store1 (.t 12) (.t 10), none, []⟩,
 zO 13 (.fadr 5 (.t 1)),
 ⟨none, .store1 (.t 13) (.t 11), none, []⟩])
 (.seq (.ops [zO 14 (.build [(.lit .i64 0), (.lit .i64 0), (.lit .i64 0), (.val (.slice none 0 0)), (.val .nilFunc), (.val .nilFunc), (.val .nilFunc)] [⟨0, 1, (.k (.lit .i64 9))⟩, ⟨1, 1, (.k (.lit .i64 52))⟩, ⟨2, 1, (.k (.lit .i64 6))⟩, ⟨6, 1, (.k (.fn 62 []))⟩]),
 zO 2 (.newR 58 [(.lit .i64 0), (.lit .i64 0), (.lit .i64 0), (.val (.slice none 0 0)), (.val .nilFunc), (.val .nilFunc), (.val .nilFunc)]),
 ⟨none, .storeA 7 (.t 2) (.t 14), none, []⟩])
 (.seq (.ops [zO 16 (.bsliceI 3 .i64 21 [⟨0, 1, (.k (.lit .i64 1))⟩, ⟨1, 1, (.k (.lit .i64 1))⟩, ⟨2, 1, (.k (.lit .i64 1))⟩, ⟨3, 1, (.k (.lit .i64 1))⟩, ⟨4, 1, (.k (.lit .i64 2))⟩, ⟨5, 1, (.k (.lit .i64 2))⟩, ⟨6, 1, (.k (.lit .i64 3))⟩, ⟨7, 1, (.k (.lit .i64 3))⟩, ⟨8, 1, (.k (.lit .i64 4))⟩, ⟨9, 1, (.k (.lit .i64 4))⟩, ⟨10, 1, (.k (.lit .i64 5))⟩, ⟨11, 1, (.k (.lit .i64 7))⟩, ⟨12, 1, (.k (.lit .i64 8))⟩, ⟨13, 1, (.k (.lit .i64 9))⟩, ⟨14, 1, (.k (.lit .i64 10))⟩, ⟨15, 1, (.k (.lit .i64 11))⟩, ⟨16, 1, (.k (.lit .i64 12))⟩, ⟨17, 1, (.k (.lit .i64 13))⟩, ⟨18, 1, (.k (.lit .i64 14))⟩, ⟨19, 1, (.k (.lit .i64 15))⟩, ⟨20, 1, (.k (.lit .i64 16))⟩]),
 zO 17 (.call (.k (.fn 61 [])) [(.k (.lit .i64 32)), (.k (.lit .i64 35)), (.t 16)]),
 zM 15 17,
 zO 18 (.extract (.t 15) 0),
 zO 19 (.extract (.t 15) 1),
 zO 20 (.fadr 4 (.t 2)),
 ⟨none, .store1 (.t 20) (.t 18), none, []⟩,
 zO 21 (.fadr 5 (.t 2)),
 ⟨none, .store1 (.t 21) (.t 19), none, []⟩])
 (.seq (.ops [zO 22 (.bsliceI 124 .i16 9 [⟨0, 1, (.k (.lit .i16 1))⟩, ⟨1, 1, (.k (.lit .i16 4))⟩, ⟨2, 1, (.k (.lit .i16 3))⟩, ⟨3, 1, (.k (.lit .i16 2))⟩, ⟨4, 1, (.k (.lit .i16 2))⟩, ⟨5, 1, (.k (.lit .i16 2))⟩, ⟨6, 1, (.k (.lit .i16 2))⟩, ⟨7, 1, (.k (.lit .i16 2))⟩, ⟨8, 1, (.k (.lit .i16 2))⟩]),
 zO 23 (.fadr 3 (.t 2)),
 ⟨none, .store1 (.t 23) (.t 22), none, []⟩])
 (.seq (.block 0 (.loop (.seq (.seq (.ops [zO 24 (.fadr 3 (.t 2)),
 zO 25 (.load1 (.t 24)),
 zO 26 (.len (.t 25)),
 zO 27 (.cmp .lss (.t 26) (.k (.lit .i64 53)))])
 (.cond (.t 27) (.skip) (.exit 0)))
 (.block 1 (.seq (.ops [zO 3 (.mv (.k (.lit .i16 1)))])
 (.seq (.seq (.ops [zO 28 (.fadr 3 (.t 2)),
 zO 29 (.load1 (.t 28)),
 zO 30 (.len (.t 29)),
 zO 31 (.cmp .gtr (.t 30) (.k (.lit .i64 45)))])
 (.cond (.t 31) (.ops [zO 3 (.mv (.k (.lit .i16 (-1))))]) (.skip)))
 (.ops [zO 32 (.fadr 3 (.t 2)),
 zO 33 (.load1 (.t 32)),
 zM 34 3,
 zO 35 (.bsliceI 124 .i16 1 [⟨0, 1, (.t 34)⟩]),
 zO 36 (.appI 124 .i16 2 (.t 33) (.t 35)),
 zO 37 (.fadr 3 (.t 2)),
 ⟨none, .store1 (.t 37) (.t 36), none, []⟩])))))))
 (.seq (.ops [zO 38 (.bsliceI 124 .i16 29 [⟨0, 1, (.k (.lit .i16 1))⟩, ⟨1, 1, (.k (.lit .i16 1))⟩, ⟨2, 1, (.k (.lit .i16 1))⟩, ⟨3, 1, (.k (.lit .i16 1))⟩, ⟨4, 1, (.k (.lit .i16 1))⟩, ⟨5, 1, (.k (.lit .i16 1))⟩, ⟨6, 1, (.k (.lit .i16 2))⟩, ⟨7, 1, (.k (.lit .i16 2))⟩, ⟨8, 1, (.k (.lit .i16 2))⟩, ⟨9, 1, (.k (.lit .i16 1))⟩, ⟨10, 1, (.k (.lit .i16 1))⟩, ⟨11, 1, (.k (.lit .i16 1))⟩, ⟨12, 1, (.k (.lit .i16 1))⟩, ⟨13, 1, (.k (.lit .i16 1))⟩, ⟨14, 1, (.k (.lit .i16 1))⟩, ⟨15, 1, (.k (.lit .i16 1))⟩, ⟨16, 1, (.k (.lit .i16 1))⟩, ⟨17, 1, (.k (.lit .i16 1))⟩, ⟨18, 1, (.k (.lit .i16 1))⟩, ⟨19, 1, (.k (.lit .i16 1))⟩, ⟨20, 1, (.k (.lit .i16 1))⟩, ⟨21, 1, (.k (.lit .i16 1))⟩, ⟨22, 1, (.k (.lit .i16 1))⟩, ⟨23, 1, (.k (.lit .i16 1))⟩, ⟨24, 1, (.k (.lit .i16 (-1)))⟩, ⟨25, 1, (.k (.lit .i16 (-1)))⟩, ⟨26, 1, (.k (.lit .i16 (-1)))⟩, ⟨27, 1, (.k (.lit .i16 (-1)))⟩, ⟨28, 1, (.k (.lit .i16 (-1)))⟩]),
 zO 39 (.build [(.lit .i64 0), (.lit .i64 0), (.lit .i64 0), (.val (.slice none 0 0)), (.val .nilFunc), (.val .nilFunc), (.val .nilFunc)] [⟨0, 1, (.k (.lit .i64 8))⟩, ⟨1, 1, (.k (.lit .i64 31))⟩, ⟨2, 1, (.k (.lit .i64 5))⟩, ⟨3, 1, (.t 38)⟩, ⟨6, 1, (.k (.fn 63 []))⟩]),
 zO 4 (.newR 58 [(.lit .i64 0), (.lit .i64 0), (.lit .i64 0), (.val (.slice none 0 0)), (.val .nilFunc), (.val .nilFunc), (.val .nilFunc)]),
 ⟨none, .storeA 7 (.t 4) (.t 39), none, []⟩])
 (.seq (.ops [zO 40 (.fadr 4 (.t 4)),
 ⟨none, .store1 (.t 40) (.k (.fn 64 [])), none, []⟩])
 (.seq (.ops [zO 41 (.fadr 5 (.t 4)),
 ⟨none, .store1 (.t 41) (.k (.fn 65 [])), none, []⟩])
 (.seq (.ops [zO 42 (.loadA 7 (.t 1)),
 zO 43 (.loadA 7 (.t 4)),
 zO 44 (.loadA 7 (.t 2)),
 zO 45 (.build [(.lit .i64 0), (.lit .i64 0), (.lit .i64 0), (.val (.slice none 0 0)), (.val .nilFunc), (.val .nilFunc), (.val .nilFunc), (.lit .i64 0), (.lit .i64 0), (.lit .i64 0), (.val (.slice none 0 0)), (.val .nilFunc), (.val .nilFunc), (.val .nilFunc), (.lit .i64 0), (.lit .i64 0), (.lit .i64 0), (.val (.slice none 0 0)), (.val .nilFunc), (.val .nilFunc), (.val .nilFunc)] [⟨0, 7, (.t 42)⟩, ⟨7, 7, (.t 43)⟩, ⟨14, 7, (.t 44)⟩]),
 ⟨none, .storeA 21 (.t 0) (.t 45), none, []⟩])
 (.ret)))))))))))
theorem fn24 : FnOk Try.prog 24 x24 46 [44000000] := FnOk.of Try.call24 Try.func24 (by kernel_rfl) Try.ntmps24 (by kernel_rfl)
def x25 : XC :=
 .seq (.ops [zO 3 (.newI 61 .i64 3)])
 (.seq (.ops [zO 4 (.load1 (.t 1)),
 zM 5 0,
 zO 6 (.iadr 3 (.t 4) (.t 5)),
 zO 7 (.fadr 0 (.t 6)),
 zO 8 (.load1 (.t 7)),
 zO 9 (.load1 (.t 1)),
 zM 10 0,
 zO 11 (.iadr 3 (.t 9) (.t 10)),
 zO 12 (.fadr 2 (.t 11)),
 zO 13 (.load1 (.t 12)),
 zO 14 (.load1 (.t 1)),
 zM 15 0,
 zO 16 (.iadr 3 (.t 14) (.t 15)),
 zO 17 (.fadr 1 (.t 16)),
 zO 18 (.load1 (.t 17)),
 zO 19 (.build [(.lit .i64 0), (.lit .i64 0), (.lit .i64 0)] [⟨0, 1, (.t 8)⟩, ⟨1, 1, (.t 13)⟩, ⟨2, 1, (.t 18)⟩]),
 ⟨none, .storeA 3 (.t 3) (.t 19), none, []⟩])
 (.ret))
theorem fn25 : FnOk Try.prog 25 x25 20 [8000003] := FnOk.of Try.call25 Try.func25 (by kernel_rfl) Try.ntmps25 (by kernel_rfl)
def x26 : XC :=
 .seq (.ops [zO 4 (.newR 66 [(.lit .u8 0), (.val (.slice none 0 0)), (.val (.slice none 0 0))])])
 (.seq (.ops [zM 21 0,
 zO 22 (.nilchk (.t 21)),
 zO 23 (.fadr 1 (.t 22)),
 zO 24 (.load1 (.t 23)),
 zO 25 (.bin .add .i64 (.t 24) (.k (.lit .i64 1))),
 zO 26 (.mkslI 128 .u32 4 (.t 25) (.t 25)),
 zM 5 26])
 (.seq (.ops [zO 6 (.mv (.k (.lit .i64 0)))])
 (.seq (.seq (.ops [zM 27 1,
 zO 28 (.len (.t 27)),
 zO 29 (.mv (.k (.lit .i64 0)))])
 (.block 0 (.loop (.seq (.ops [zO 30 (.cmp .lss (.t 29) (.t 28))])
 (.seq (.cond (.t 30) (.skip) (.exit 0))
 (.seq (.block 1 (.seq (.ops [zO 31 (.iadr 1 (.t 27) (.t 29)),
 zO 32 (.load1 (.t 31)),
 zM 8 32])
 (.seq (.seq (.ops [zM 33 5,
 zM 34 8,
 zO 35 (.iadr 1 (.t 33) (.t 34)),
 zO 36 (.load1 (.t 35)),
 zO 37 (.cmp .eql (.t 36) (.k (.lit .u32 0)))])
 (.cond (.t 37) (.ops [zM 38 6,
 zO 39 (.bin .add .i64 (.t 38) (.k (.lit .i64 1))),
 zM 6 39]) (.skip)))
 (.ops [zM 40 5,
 zM 41 8,
 zO 42 (.iadr 1 (.t 40) (.t 41)),
 zO 43 (.load1 (.t 42)),
 zO 44 (.bin .add .u32 (.t 43) (.k (.lit .u32 1))),
 zO 45 (.iadr 1 (.t 40) (.t 41)),
 ⟨none, .store1 (.t 45) (.t 44), none, []⟩]))))
 (.ops [zO 46 (.bin .add .i64 (.t 29) (.k (.lit .i64 1))),
 zM 29 46])))))))
 (.seq (.seq (.ops [zM 47 6,
 zO 48 (.cmp .eql (.t 47) (.k (.lit .i64 1)))])
 (.cond (.t 48) (.seq (.tree (.step ⟨(some 49), .mv (.t 1), none, []⟩
 (.step ⟨(some 50), .iadr 1 (.t 49) (.k (.lit .i64 0)), none, []⟩
 (.step ⟨(some 51), .load1 (.t 50), none, []⟩
 (.step ⟨(some 52), .conv .u8 (.t 51), none, []⟩
 (.step ⟨(some 54), .mv (.t 1), none, []⟩
 (.step ⟨(some 55), .iadr 1 (.t 54) (.k (.lit .i64 0)), none, []⟩
 (.step ⟨(some 56), .load1 (.t 55), none, []⟩
 (.step ⟨(some 57), .conv .u8 (.t 56), none, []⟩
 (.step ⟨(some 58), .build [(.lit .u8 0), (.lit .u8 0), (.lit .u16 0)] [⟨0, 1, (.t 57)⟩], none, []⟩
 (.both
 (.step ⟨(some 53), .bsliceI 5 .u8 1 [⟨0, 1, (.t 52)⟩], none, [(.load1 (.t 55), 56, none), (.load1 (.t 50), 51, none)]⟩
 (.step ⟨(some 59), .bsliceR 79 3 1 [(.lit .u8 0), (.lit .u8 0), (.lit .u16 0)] [⟨0, 3, (.t 58)⟩], none, [(.load1 (.t 55), 56, none), (.load1 (.t 50), 51, none)]⟩
 (.step ⟨(some 60), .build [(.lit .u8 0), (.val (.slice none 0 0)), (.val (.slice none 0 0))] [⟨0, 1, (.k (.lit .u8 1))⟩, ⟨1, 1, (.t 53)⟩, ⟨2, 1, (.t 59)⟩], none, []⟩
 (.step ⟨none, .storeA 3 (.t 4) (.t 60), none, []⟩
 (.fin)))))
 (.step ⟨(some 59), .bsliceR 79 3 1 [(.lit .u8 0), (.lit .u8 0), (.lit .u16 0)] [⟨0, 3, (.t 58)⟩], none, [(.load1 (.t 55), 56, none), (.load1 (.t 50), 51, none)]⟩
 (.step ⟨(some 53), .bsliceI 5 .u8 1 [⟨0, 1, (.t 52)⟩], none, [(.load1 (.t 55), 56, none), (.load1 (.t 50), 51, none)]⟩
 (.step ⟨(some 60), .build [(.lit .u8 0), (.val (.slice none 0 0)), (.val (.slice none 0 0))] [⟨0, 1, (.k (.lit .u8 1))⟩, ⟨1, 1, (.t 53)⟩, ⟨2, 1, (.t 59)⟩], none, []⟩
 (.step ⟨none, .storeA 3 (.t 4) (.t 60), none, []⟩
 (.fin))))))))))))))))
 (.ret)) (.skip)))
 (.seq (.ops [zO 9 (.mv (.k (.bool true)))])
 (.seq (.seq (.ops [zM 61 5,
 zO 62 (.len (.t 61)),
 zO 63 (.mv (.k (.lit .i64 0)))])
 (.block 2 (.loop (.seq (.ops [zO 64 (.cmp .lss (.t 63) (.t 62))])
 (.seq (.cond (.t 64) (.skip) (.exit 2))
 (.seq (.block 3 (.seq (.ops [zM 65 63,
 zO 66 (.iadr 1 (.t 61) (.t 63)),
 zO 67 (.load1 (.t 66)),
 zM 10 65,
 zM 11 67])
 (.ops [zM 68 9,
 zM 69 68,
 zN 70 11 69,
 zG 71 (.cmp .eql (.t 70) (.k (.lit .u32 0))) 69,
 zN 72 71 69,
 ⟨some 73, .mv (.t 10), some (72, false), []⟩,
 ⟨some 74, .mv (.t 0), some (72, false), []⟩,
 ⟨some 75, .nilchk (.t 74), some (72, false), []⟩,
 ⟨some 76, .fadr 3 (.t 75), some (72, false), []⟩,
 ⟨some 77, .load1 (.t 76), some (72, false), []⟩,
 ⟨some 78, .len (.t 77), some (72, false), []⟩,
 ⟨some 79, .cmp .lss (.t 73) (.t 78), some (72, false), []⟩,
 ⟨some 80, .mv (.t 79), some (72, false), []⟩,
 zN 81 0 80,
 zG 82 (.nilchk (.t 81)) 80,
 zG 83 (.fadr 3 (.t 82)) 80,
 zG 84 (.load1 (.t 83)) 80,
 zN 85 10 80,
 zG 86 (.iadr 1 (.t 84) (.t 85)) 80,
 zG 87 (.load1 (.t 86)) 80,
 zG 88 (.cmp .neq (.t 87) (.k (.lit .i16 0))) 80,
 ⟨some 89, .pick (.t 80) (.t 88) (.k (.bool false)), some (72, false), []⟩,
 zG 90 (.pick (.t 72) (.k (.bool true)) (.t 89)) 69,
 zO 91 (.pick (.t 69) (.t 90) (.k (.bool false))),
 zM 9 91])))
 (.ops [zO 92 (.bin .add .i64 (.t 63) (.k (.lit .i64 1))),
 zM 63 92])))))))
 (.seq (.ops [zO 12 (.mv (.k (.lit .i64 6)))])
 (.seq (.block 4 (.loop (.seq (.seq (.ops [zM 93 12,
 zM 94 0,
 zO 95 (.nilchk (.t 94)),
 zO 96 (.fadr 0 (.t 95)),
 zO 97 (.load1 (.t 96)),
 zO 98 (.cmp .lss (.t 93) (.t 97)),
 zM 99 98,
 zN 100 12 99,
 zG 101 (.conv .u64 (.t 100)) 99,
 zG 102 (.bin .shl .i64 (.k (.lit .i64 1)) (.t 101)) 99,
 zN 103 1 99,
 zG 104 (.len (.t 103)) 99,
 zG 105 (.cmp .lss (.t 102) (.t 104)) 99,
 zO 106 (.pick (.t 99) (.t 105) (.k (.bool false)))])
 (.cond (.t 106) (.skip) (.exit 4)))
 (.block 5 (.ops [zM 107 12,
 zO 108 (.bin .add .i64 (.t 107) (.k (.lit .i64 1))),
 zM 12 108])))))
 (.seq (.seq (.ops [zM 109 1,
 zO 110 (.len (.t 109)),
 zO 111 (.cmp .lss (.t 110) (.k (.lit .i64 40))),
 zM 112 111,
 zN 113 9 112,
 zO 114 (.pick (.t 112) (.t 113) (.k (.bool false)))])
 (.cond (.t 114) (.seq (.ops [zM 116 0,
 zO 117 (.nilchk (.t 116)),
 zO 118 (.fadr 3 (.t 117)),
 zO 119 (.load1 (.t 118)),
 zM 120 0,
 zO 121 (.nilchk (.t 120)),
 zO 122 (.fadr 2 (.t 121)),
 zO 123 (.load1 (.t 122)),
 zO 124 (.call (.k (.fn 66 [])) [(.t 119), (.t 123)]),
 zM 115 124,
 zO 125 (.extract (.t 115) 0),
 zO 126 (.extract (.t 115) 1),
 zM 13 125,
 zM 14 126])
 (.seq (.ops [zM 127 13,
 zO 128 (.build [(.lit .u8 0), (.val (.slice none 0 0)), (.val (.slice none 0 0))] [⟨0, 1, (.k (.lit .u8 0))⟩, ⟨1, 1, (.k (.val (.slice none 0 0)))⟩, ⟨2, 1, (.t 127)⟩]),
 ⟨none, .storeA 3 (.t 4) (.t 128), none, []⟩])
 (.ret))) (.skip)))
 (.seq (.ops [zM 130 5,
 zM 131 12,
 zO 132 (.call (.k (.fn 67 [])) [(.t 130), (.t 131)]),
 zM 129 132,
 zO 133 (.extract (.t 129) 0),
 zO 134 (.extract (.t 129) 1),
 zM 15 133,
 zM 16 134])
 (.seq (.ops [zM 136 15,
 zM 137 12,
 zO 138 (.call (.k (.fn 68 [])) [(.t 136), (.t 137)]),
 zM 135 138,
 zO 139 (.extract (.t 135) 0),
 zO 140 (.extract (.t 135) 1),
 zM 17 139,
 zM 18 140])
 (.seq (.ops [zM 142 15,
 zM 143 12,
 zO 144 (.call (.k (.fn 66 [])) [(.t 142), (.t 143)]),
 zM 141 144,
 zO 145 (.extract (.t 141) 0),
 zO 146 (.extract (.t 141) 1),
 zM 19 145,
 zM 20 146])
 (.seq (.ops [zM 147 17,
 zM 148 19,
 zO 149 (.build [(.lit .u8 0), (.val (.slice none 0 0)), (.val (.slice none 0 0))] [⟨0, 1, (.k (.lit .u8 2))⟩, ⟨1, 1, (.t 147)⟩, ⟨2, 1, (.t 148)⟩]),
 ⟨none, .storeA 3 (.t 4) (.t 149), none, []⟩])
 (.ret))))))))))))))
theorem fn26 : FnOk Try.prog 26 x26 150 [8000004] := FnOk.of Try.call26 Try.func26 (by kernel_rfl) Try.ntmps26 (by kernel_rfl)
def x27 : XC :=
 .seq (.ops [zO 4 (.mv (.k (.lit .i64 0))),
 zO 5 (.mv (.k (.bool false)))])
 (.seq (.seq (.ops [zM 8 0,
 zO 9 (.len (.t 8)),
 zO 10 (.mv (.k (.lit .i64 0)))])
 (.block 0 (.loop (.seq (.ops [zO 11 (.cmp .lss (.t 10) (.t 9))])
 (.seq (.cond (.t 11) (.skip) (.exit 0))
 (.seq (.block 1 (.seq (.ops [zM 12 10,
 zO 13 (.iadr 3 (.t 8) (.t 10)),
 zO 14 (.loadA 3 (.t 13)),
 zO 7 (.newR 79 [(.lit .u8 0), (.lit .u8 0), (.lit .u16 0)]),
 zM 6 12,
 ⟨none, .storeA 3 (.t 7) (.t 14), none, []⟩])
 (.seq (.ops [zO 15 (.fadr 0 (.t 7)),
 zO 16 (.load1 (.t 15)),
 zO 17 (.conv .i64 (.t 16)),
 zM 18 1,
 zO 19 (.cmp .eql (.t 17) (.t 18))])
 (.cond (.t 19) (.seq (.ops [zM 20 6,
 zM 4 20,
 zO 5 (.mv (.k (.bool true)))])
 (.ret)) (.skip)))))
 (.ops [zO 21 (.bin .add .i64 (.t 10) (.k (.lit .i64 1))),
 zM 10 21])))))))
 (.seq (.ops [zO 4 (.mv (.k (.lit .i64 0))),
 zO 5 (.mv (.k (.bool false)))])
 (.ret)))
theorem fn27 : FnOk Try.prog 27 x27 22 [4, 5] := FnOk.of Try.call27 Try.func27 (by kernel_rfl) Try.ntmps27 (by kernel_rfl)
def x28 : XC :=
 .seq (.ops [zO 6 (.mv (.k (.lit .i64 0))),
 zO 7 (.mv (.k (.bool false)))])
 (.seq (.seq (.ops [zM 10 0,
 zO 11 (.len (.t 10)),
 zO 12 (.mv (.k (.lit .i64 0)))])
 (.block 0 (.loop (.seq (.ops [zO 13 (.cmp .lss (.t 12) (.t 11))])
 (.seq (.cond (.t 13) (.skip) (.exit 0))
 (.seq (.block 1 (.seq (.ops [zM 14 12,
 zO 15 (.iadr 3 (.t 10) (.t 12)),
 zO 16 (.loadA 3 (.t 15)),
 zO 9 (.newR 79 [(.lit .u8 0), (.lit .u8 0), (.lit .u16 0)]),
 zM 8 14,
 ⟨none, .storeA 3 (.t 9) (.t 16), none, []⟩])
 (.seq (.ops [zO 17 (.fadr 0 (.t 9)),
 zO 18 (.load1 (.t 17)),
 zM 19 1,
 zO 20 (.cmp .eql (.t 18) (.t 19)),
 zM 21 20,
 zG 22 (.fadr 2 (.t 9)) 21,
 zG 23 (.load1 (.t 22)) 21,
 zG 24 (.conv .i64 (.t 23)) 21,
 zN 25 2 21,
 zG 26 (.cmp .leq (.t 24) (.t 25)) 21,
 zO 27 (.pick (.t 21) (.t 26) (.k (.bool false))),
 zM 28 27,
 zG 29 (.fadr 1 (.t 9)) 28,
 zG 30 (.load1 (.t 29)) 28,
 zG 31 (.cmp .gtr (.t 30) (.k (.lit .u8 61))) 28,
 zN 32 31 28,
 ⟨some 33, .mv (.t 2), some (32, false), []⟩,
 ⟨some 34, .fadr 2 (.t 9), some (32, false), []⟩,
 ⟨some 35, .load1 (.t 34), some (32, false), []⟩,
 ⟨some 36, .conv .i64 (.t 35), some (32, false), []⟩,
 ⟨some 37, .bin .sub .i64 (.t 33) (.t 36), some (32, false), []⟩,
 ⟨some 38, .fadr 1 (.t 9), some (32, false), []⟩,
 ⟨some 39, .load1 (.t 38), some (32, false), []⟩,
 ⟨some 40, .conv .u64 (.t 39), some (32, false), []⟩,
 ⟨some 41, .bin .shl .i64 (.k (.lit .i64 1)) (.t 40), some (32, false), []⟩,
 ⟨some 42, .cmp .lss (.t 37) (.t 41), some (32, false), []⟩,
 zG 43 (.pick (.t 32) (.k (.bool true)) (.t 42)) 28,
 zO 44 (.pick (.t 28) (.t 43) (.k (.bool false)))])
 (.cond (.t 44) (.seq (.ops [zM 45 8,
 zM 6 45,
 zO 7 (.mv (.k (.bool true)))])
 (.ret)) (.skip)))))
 (.ops [zO 46 (.bin .add .i64 (.t 12) (.k (.lit .i64 1))),
 zM 12 46])))))))
 (.seq (.ops [zO 6 (.mv (.k (.lit .i64 0))),
 zO 7 (.mv (.k (.bool false)))])
 (.ret)))
theorem fn28 : FnOk Try.prog 28 x28 47 [6, 7] := FnOk.of Try.call28 Try.func28 (by kernel_rfl) Try.ntmps28 (by kernel_rfl)
def x29 : XC :=
 .seq (.ops [zO 3 (.box 69 none (.t 0)),
 zO 6 (.mv (.k (.lit .i64 0)))])
 (.seq (.block 0 (.seq (.ops [zO 10 (.load1 (.t 3)),
 zO 11 (.eqv false 2 (.t 10) (.k (.val (.pointer none)))),
 zM 9 11])
 (.cond (.t 9) (.seq (.ops [zO 6 (.mv (.k (.lit .i64 1)))])
 (.ret)) (.seq (.ops [zM 13 2,
 zO 14 (.cmp .lss (.t 13) (.k (.lit .i64 0))),
 zM 15 14,
 ⟨some 16, .mv (.t 2), some (15, false), []⟩,
 ⟨some 17, .cmp .gtr (.t 16) (.k (.lit .i64 56)), some (15, false), []⟩,
 zO 18 (.pick (.t 15) (.k (.bool true)) (.t 17)),
 zM 12 18])
 (.cond (.t 12) (.seq (.ops [zO 6 (.mv (.k (.lit .i64 2)))])
 (.ret)) (.skip))))))
 (.seq (.seq (.ops [zM 19 1,
 zM 20 2,
 zO 21 (.call (.k (.fn 69 [])) [(.t 19), (.t 20)])])
 (.block 1 (.range (.t 21) [22, 23] (.ops [zM 8 23]) (.block 2 (.seq (.seq (.ops [zO 24 (.load1 (.t 3)),
 zO 25 (.nilchk (.t 24)),
 zO 26 (.fadr 1 (.t 25)),
 zO 27 (.load1 (.t 26)),
 zO 28 (.bin .rem .i64 (.t 27) (.k (.lit .i64 8))),
 zO 29 (.cmp .eql (.t 28) (.k (.lit .i64 0)))])
 (.cond (.t 29) (.ops [zO 30 (.load1 (.t 3)),
 zO 31 (.load1 (.t 3)),
 zO 32 (.nilchk (.t 31)),
 zO 33 (.fadr 0 (.t 32)),
 zO 34 (.load1 (.t 33)),
 ⟨some 35, .bsliceI 5 .u8 1 [⟨0, 1, (.k (.lit .u8 0))⟩], none, [(.load1 (.t 33), 34, none), (.load1 (.t 3), 31, none), (.load1 (.t 3), 30, none)]⟩,
 ⟨some 36, .appI 5 .u8 1 (.t 34) (.t 35), none, [(.load1 (.t 3), 31, none), (.load1 (.t 3), 30, none)]⟩,
 zO 37 (.nilchk (.t 30)),
 zO 38 (.fadr 0 (.t 37)),
 ⟨none, .store1 (.t 38) (.t 36), none, []⟩]) (.skip)))
 (.seq (.ops [zO 39 (.load1 (.t 3)),
 zO 40 (.nilchk (.t 39)),
 zO 41 (.fadr 0 (.t 40)),
 zO 42 (.load1 (.t 41)),
 zO 43 (.load1 (.t 3)),
 zO 44 (.nilchk (.t 43)),
 zO 45 (.fadr 1 (.t 44)),
 zO 46 (.load1 (.t 45)),
 zO 47 (.bin .quo .i64 (.t 46) (.k (.lit .i64 8))),
 zO 48 (.iadr 1 (.t 42) (.t 47)),
 zO 49 (.load1 (.t 48)),
 zM 50 8,
 zO 51 (.load1 (.t 3)),
 zO 52 (.nilchk (.t 51)),
 zO 53 (.fadr 1 (.t 52)),
 zO 54 (.load1 (.t 53)),
 zO 55 (.bin .rem .i64 (.t 54) (.k (.lit .i64 8))),
 zO 56 (.conv .u64 (.t 55)),
 zO 57 (.bin .shl .u8 (.t 50) (.t 56)),
 zO 58 (.bin .or .u8 (.t 49) (.t 57)),
 zO 59 (.iadr 1 (.t 42) (.t 47)),
 ⟨none, .store1 (.t 59) (.t 58), none, []⟩])
 (.ops [zO 60 (.load1 (.t 3)),
 zO 61 (.nilchk (.t 60)),
 zO 62 (.fadr 1 (.t 61)),
 zO 63 (.load1 (.t 62)),
 zO 64 (.bin .add .i64 (.t 63) (.k (.lit .i64 1))),
 zO 65 (.nilchk (.t 60)),
 zO 66 (.fadr 1 (.t 65)),
 ⟨none, .store1 (.t 66) (.t 64), none, []⟩])))))))
 (.seq (.ops [zO 6 (.mv (.k (.lit .i64 0)))])
 (.ret))))
theorem fn29 : FnOk Try.prog 29 x29 67 [6] := FnOk.of Try.call29 Try.func29 (by kernel_rfl) Try.ntmps29 (by kernel_rfl)
def x30 : XC :=
 .seq (.ops [zO 2 (.mv (.k (.lit .i64 0)))])
 (.seq (.ops [zO 3 (.mv (.k (.lit .i64 0)))])
 (.seq (.block 0 (.loop (.seq (.seq (.ops [zM 4 3,
 zO 5 (.conv .u64 (.t 4)),
 zO 6 (.bin .shl .i64 (.k (.lit .i64 1)) (.t 5)),
 zM 7 0,
 zO 8 (.len (.t 7)),
 zO 9 (.cmp .lss (.t 6) (.t 8))])
 (.cond (.t 9) (.skip) (.exit 0)))
 (.block 1 (.ops [zM 10 3,
 zO 11 (.bin .add .i64 (.t 10) (.k (.lit .i64 1))),
 zM 3 11])))))
 (.seq (.ops [zM 12 3,
 zM 2 12])
 (.ret))))
theorem fn30 : FnOk Try.prog 30 x30 13 [2] := FnOk.of Try.call30 Try.func30 (by kernel_rfl) Try.ntmps30 (by kernel_rfl)
def x31 : XC :=
 .seq (.ops [zO 2 (.mv (.k (.val (.slice none 0 0))))])
 (.seq (.seq (.ops [zM 4 0,
 zO 5 (.eqv false 2 (.t 4) (.k (.val (.pointer none))))])
 (.cond (.t 5) (.seq (.ops [zO 2 (.mv (.k (.val (.slice none 0 0))))])
 (.ret)) (.skip)))
 (.seq (.ops [zM 6 0,
 zO 7 (.call (.k (.fn 29 [])) [(.t 6), (.k (.lit .u64 1)), (.k (.lit .i64 1))])])
 (.seq (.ops [zM 8 0,
 zO 9 (.nilchk (.t 8)),
 zO 10 (.fadr 0 (.t 9)),
 zO 11 (.load1 (.t 10)),
 zM 3 11])
 (.seq (.ops [zM 12 0,
 zO 13 (.build [(.val (.slice none 0 0)), (.lit .i64 0)] []),
 zO 14 (.nilchk (.t 12)),
 ⟨none, .storeA 2 (.t 14) (.t 13), none, []⟩])
 (.seq (.ops [zM 15 3,
 zM 2 15])
 (.ret))))))
theorem fn31 : FnOk Try.prog 31 x31 16 [2] := FnOk.of Try.call31 Try.func31 (by kernel_rfl) Try.ntmps31 (by kernel_rfl)
def x32 : XC :=
 .seq (.ops [zO 6 (.mv (.k (.lit .i64 0))),
 zO 7 (.mv (.k (.lit .i64 0)))])
 (.seq (.block 0 (.seq (.ops [zM 12 0,
 zO 13 (.eqv false 2 (.t 12) (.k (.val (.pointer none)))),
 zM 11 13])
 (.cond (.t 11) (.seq (.ops [zO 6 (.mv (.k (.lit .i64 0))),
 zO 7 (.mv (.k (.lit .i64 1)))])
 (.ret)) (.seq (.ops [zM 15 2,
 zO 16 (.cmp .lss (.t 15) (.k (.lit .i64 1))),
 zM 14 16])
 (.cond (.t 14) (.seq (.ops [zO 6 (.mv (.k (.lit .i64 0))),
 zO 7 (.mv (.k (.lit .i64 2)))])
 (.ret)) (.seq (.ops [zM 18 2,
 zO 19 (.cmp .gtr (.t 18) (.k (.lit .i64 3))),
 zM 17 19])
 (.cond (.t 17) (.seq (.ops [zM 20 0,
 zM 21 2,
 zO 22 (.bin .sub .i64 (.t 21) (.k (.lit .i64 3))),
 zM 23 0,
 zO 24 (.nilchk (.t 23)),
 zO 25 (.iadrA 3 1 (.t 24) (.k (.lit .i64 0))),
 zO 26 (.load1 (.t 25)),
 zM 27 0,
 zO 28 (.nilchk (.t 27)),
 zO 29 (.iadrA 3 1 (.t 28) (.k (.lit .i64 1))),
 zO 30 (.load1 (.t 29)),
 zO 31 (.build [(.lit .i64 0), (.lit .i64 0), (.lit .i64 0)] [⟨0, 1, (.t 22)⟩, ⟨1, 1, (.t 26)⟩, ⟨2, 1, (.t 30)⟩]),
 zO 32 (.nilchk (.t 20)),
 ⟨none, .storeA 3 (.t 32) (.t 31), none, []⟩])
 (.seq (.ops [zM 33 0,
 zO 34 (.nilchk (.t 33)),
 zO 35 (.iadrA 3 1 (.t 34) (.k (.lit .i64 0))),
 zO 36 (.load1 (.t 35)),
 zM 6 36,
 zO 7 (.mv (.k (.lit .i64 0)))])
 (.ret))) (.skip))))))))
 (.seq (.ops [zM 37 2,
 zO 38 (.bin .sub .i64 (.t 37) (.k (.lit .i64 1))),
 zM 8 38])
 (.seq (.seq (.ops [zM 39 1,
 zO 40 (.cmp .eql (.t 39) (.k (.lit .i64 0)))])
 (.cond (.t 40) (.ops [zM 41 8,
 zO 42 (.bin .add .i64 (.t 41) (.k (.lit .i64 1))),
 zM 8 42]) (.skip)))
 (.seq (.ops [zM 43 0,
 zO 44 (.nilchk (.t 43)),
 zO 45 (.iadrA 3 1 (.t 44) (.k (.lit .i64 0))),
 zO 46 (.load1 (.t 45)),
 zO 47 (.bin .sub .i64 (.t 46) (.k (.lit .i64 1))),
 zM 9 47])
 (.seq (.seq (.ops [zM 48 8,
 zO 49 (.cmp .lss (.t 48) (.k (.lit .i64 3)))])
 (.cond (.t 49) (.ops [zM 50 0,
 zM 51 8,
 zO 52 (.nilchk (.t 50)),
 zO 53 (.iadrA 3 1 (.t 52) (.t 51)),
 zO 54 (.load1 (.t 53)),
 zM 9 54]) (.skip)))
 (.seq (.seq (.ops [zM 55 9,
 zO 56 (.cmp .lss (.t 55) (.k (.lit .i64 1)))])
 (.cond (.t 56) (.seq (.ops [zO 6 (.mv (.k (.lit .i64 0))),
 zO 7 (.mv (.k (.lit .i64 11)))])
 (.ret)) (.skip)))
 (.seq (.seq (.ops [zM 57 8,
 zO 58 (.min (.t 57) (.k (.lit .i64 2))),
 zM 10 58])
 (.block 1 (.loop (.seq (.seq (.ops [zM 59 10,
 zO 60 (.cmp .gtr (.t 59) (.k (.lit .i64 0)))])
 (.cond (.t 60) (.skip) (.exit 1)))
 (.seq (.block 2 (.ops [zM 63 0,
 zM 64 10,
 zM 65 0,
 zM 66 10,
 zO 67 (.bin .sub .i64 (.t 66) (.k (.lit .i64 1))),
 zO 68 (.nilchk (.t 65)),
 zO 69 (.iadrA 3 1 (.t 68) (.t 67)),
 zO 70 (.load1 (.t 69)),
 zO 71 (.nilchk (.t 63)),
 zO 72 (.iadrA 3 1 (.t 71) (.t 64)),
 ⟨none, .store1 (.t 72) (.t 70), none, []⟩]))
 (.ops [zM 61 10,
 zO 62 (.bin .sub .i64 (.t 61) (.k (.lit .i64 1))),
 zM 10 62]))))))
 (.seq (.ops [zM 73 0,
 zM 74 9,
 zO 75 (.nilchk (.t 73)),
 zO 76 (.iadrA 3 1 (.t 75) (.k (.lit .i64 0))),
 ⟨none, .store1 (.t 76) (.t 74), none, []⟩])
 (.seq (.ops [zM 77 9,
 zM 6 77,
 zO 7 (.mv (.k (.lit .i64 0)))])
 (.ret))))))))))
theorem fn32 : FnOk Try.prog 32 x32 78 [6, 7] := FnOk.of Try.call32 Try.func32 (by kernel_rfl) Try.ntmps32 (by kernel_rfl)
def x33 : XC :=
 .seq (.ops [zO 6 (.mv (.k (.lit .i64 0)))])
 (.seq (.seq (.ops [zM 11 0,
 zO 12 (.eqv false 2 (.t 11) (.k (.val (.pointer none)))),
 zM 13 12,
 ⟨some 14, .mv (.t 2), some (13, false), []⟩,
 ⟨some 15, .cmp .lss (.t 14) (.k (.lit .i64 1)), some (13, false), []⟩,
 zO 16 (.pick (.t 13) (.k (.bool true)) (.t 15))])
 (.cond (.t 16) (.seq (.ops [zO 6 (.mv (.k (.lit .i64 0)))])
 (.ret)) (.skip)))
 (.seq (.seq (.ops [zO 7 (.mv (.k (.lit .i64 1)))])
 (.block 0 (.loop (.seq (.seq (.ops [zM 17 7,
 zO 18 (.cmp .lss (.t 17) (.k (.lit .i64 4)))])
 (.cond (.t 18) (.skip) (.exit 0)))
 (.seq (.block 1 (.seq (.ops [zM 21 0,
 zO 22 (.nilchk (.t 21)),
 zO 23 (.loadA 3 (.t 22)),
 zO 8 (.newI 61 .i64 3),
 ⟨none, .storeA 3 (.t 8) (.t 23), none, []⟩])
 (.seq (.ops [zM 25 1,
 zM 26 7,
 zO 27 (.call (.k (.fn 32 [])) [(.t 8), (.t 25), (.t 26)]),
 zM 24 27,
 zO 28 (.extract (.t 24) 0),
 zO 29 (.extract (.t 24) 1),
 zM 9 28,
 zM 10 29])
 (.seq (.ops [zM 30 10,
 zO 31 (.cmp .eql (.t 30) (.k (.lit .i64 0))),
 zM 32 31,
 zN 33 9 32,
 zN 34 2 32,
 zG 35 (.cmp .eql (.t 33) (.t 34)) 32,
 zO 36 (.pick (.t 32) (.t 35) (.k (.bool false)))])
 (.cond (.t 36) (.seq (.ops [zM 37 7,
 zM 6 37])
 (.ret)) (.skip))))))
 (.ops [zM 19 7,
 zO 20 (.bin .add .i64 (.t 19) (.k (.lit .i64 1))),
 zM 7 20]))))))
 (.seq (.ops [zM 38 2,
 zO 39 (.bin .add .i64 (.t 38) (.k (.lit .i64 3))),
 zM 6 39])
 (.ret))))
theorem fn33 : FnOk Try.prog 33 x33 40 [6] := FnOk.of Try.call33 Try.func33 (by kernel_rfl) Try.ntmps33 (by kernel_rfl)
def x34 : XC :=
 .seq (.ops [zO 8 (.mv (.k (.val (.slice none 0 0)))),
 zO 9 (.mv (.k (.lit .i64 0))),
 zO 10 (.mv (.k (.lit .i64 0)))])
 (.seq (.seq (.ops [zM 15 1])
 (.block 0 (.seq (.ops [zO 17 (.cmp .eql (.t 15) (.k (.lit .u8 0))),
 zM 16 17])
 (.cond (.t 16) (.seq (.ops [zM 19 0,
 zO 20 (.nilchk (.t 19)),
 zO 21 (.fadr 3 (.t 20)),
 zO 22 (.load1 (.t 21)),
 zM 23 0,
 zO 24 (.nilchk (.t 23)),
 zO 25 (.fadr 2 (.t 24)),
 zO 26 (.load1 (.t 25)),
 zO 27 (.call (.k (.fn 66 [])) [(.t 22), (.t 26)]),
 zM 18 27,
 zO 28 (.extract (.t 18) 0),
 zO 29 (.extract (.t 18) 1),
 zM 8 28,
 zM 10 29])
 (.seq (.ops [zM 30 8,
 zM 31 10,
 zM 8 30,
 zO 9 (.mv (.k (.lit .i64 0))),
 zM 10 31])
 (.ret))) (.seq (.ops [zO 33 (.cmp .eql (.t 15) (.k (.lit .u8 1))),
 zM 32 33])
 (.cond (.t 32) (.seq (.block 1 (.seq (.ops [zM 35 2,
 zO 36 (.len (.t 35)),
 zO 37 (.cmp .eql (.t 36) (.k (.lit .i64 0))),
 zM 34 37])
 (.cond (.t 34) (.seq (.ops [zO 8 (.mv (.k (.val (.slice none 0 0)))),
 zO 9 (.mv (.k (.lit .i64 0))),
 zO 10 (.mv (.k (.lit .i64 10)))])
 (.ret)) (.seq (.ops [zM 39 2,
 zO 40 (.iadr 1 (.t 39) (.k (.lit .i64 0))),
 zO 41 (.load1 (.t 40)),
 zO 42 (.conv .i64 (.t 41)),
 zM 43 0,
 zO 44 (.nilchk (.t 43)),
 zO 45 (.fadr 1 (.t 44)),
 zO 46 (.load1 (.t 45)),
 zO 47 (.cmp .gtr (.t 42) (.t 46)),
 zM 38 47])
 (.cond (.t 38) (.seq (.ops [zO 8 (.mv (.k (.val (.slice none 0 0)))),
 zO 9 (.mv (.k (.lit .i64 0))),
 zO 10 (.mv (.k (.lit .i64 11)))])
 (.ret)) (.skip))))))
 (.seq (.ops [zM 48 2,
 zO 49 (.iadr 1 (.t 48) (.k (.lit .i64 0))),
 zO 50 (.load1 (.t 49)),
 zO 51 (.build [(.lit .u8 0), (.lit .u8 0), (.lit .u16 0)] [⟨0, 1, (.t 50)⟩]),
 zO 52 (.bsliceR 79 3 1 [(.lit .u8 0), (.lit .u8 0), (.lit .u16 0)] [⟨0, 3, (.t 51)⟩]),
 zM 8 52,
 zO 9 (.mv (.k (.lit .i64 1))),
 zO 10 (.mv (.k (.lit .i64 0)))])
 (.ret))) (.seq (.ops [zO 54 (.cmp .eql (.t 15) (.k (.lit .u8 2))),
 zM 53 54])
 (.cond (.t 53) (.seq (.ops [zM 56 2,
 zM 57 0,
 zO 58 (.nilchk (.t 57)),
 zO 59 (.fadr 0 (.t 58)),
 zO 60 (.load1 (.t 59)),
 zM 61 0,
 zO 62 (.nilchk (.t 61)),
 zO 63 (.fadr 1 (.t 62)),
 zO 64 (.load1 (.t 63)),
 zO 65 (.call (.k (.fn 70 [])) [(.t 56), (.t 60), (.t 64)]),
 zM 55 65,
 zO 66 (.extract (.t 55) 0),
 zO 67 (.extract (.t 55) 1),
 zO 68 (.extract (.t 55) 2),
 zO 69 (.extract (.t 55) 3),
 zM 11 66,
 zM 12 67,
 zM 13 68,
 zM 14 69])
 (.seq (.seq (.ops [zM 70 14,
 zO 71 (.cmp .eql (.t 70) (.k (.lit .i64 0)))])
 (.cond (.t 71) (.ops [zM 73 11,
 zM 74 12,
 zO 75 (.call (.k (.fn 66 [])) [(.t 73), (.t 74)]),
 zM 72 75,
 zO 76 (.extract (.t 72) 0),
 zO 77 (.extract (.t 72) 1),
 zM 8 76,
 zM 14 77]) (.skip)))
 (.seq (.seq (.ops [zM 78 14,
 zO 79 (.cmp .neq (.t 78) (.k (.lit .i64 0))),
 zM 80 79,
 zN 81 14 80,
 zG 82 (.cmp .neq (.t 81) (.k (.lit .i64 10))) 80,
 zO 83 (.pick (.t 80) (.t 82) (.k (.bool false)))])
 (.cond (.t 83) (.ops [zO 14 (.mv (.k (.lit .i64 11)))]) (.skip)))
 (.seq (.ops [zM 84 8,
 zM 85 13,
 zM 86 14,
 zM 8 84,
 zM 9 85,
 zM 10 86])
 (.ret))))) (.skip)))))))))
 (.seq (.seq (.ops [zM 87 3,
 zO 88 (.len (.t 87)),
 zO 89 (.cmp .eql (.t 88) (.k (.lit .i64 0)))])
 (.cond (.t 89) (.seq (.ops [zO 8 (.mv (.k (.val (.slice none 0 0)))),
 zO 9 (.mv (.k (.lit .i64 0))),
 zO 10 (.mv (.k (.lit .i64 11)))])
 (.ret)) (.skip)))
 (.seq (.ops [zM 90 3,
 zM 8 90,
 zO 9 (.mv (.k (.lit .i64 0))),
 zO 10 (.mv (.k (.lit .i64 0)))])
 (.ret))))
theorem fn34 : FnOk Try.prog 34 x34 91 [8, 9, 10] := FnOk.of Try.call34 Try.func34 (by kernel_rfl) Try.ntmps34 (by kernel_rfl)
def x35 : XC :=
 .seq (.ops [zO 2 (.mv (.k (.val (.pointer none)))),
 zO 3 (.mv (.k (.lit .i64 0)))])
 (.seq (.seq (.ops [zM 5 0,
 zO 6 (.len (.t 5)),
 zO 7 (.cmp .eql (.t 6) (.k (.lit .i64 0))),
 zM 8 7,
 ⟨some 9, .mv (.t 0), some (8, false), []⟩,
 ⟨some 10, .mv (.t 0), some (8, false), []⟩,
 ⟨some 11, .len (.t 10), some (8, false), []⟩,
 ⟨some 12, .bin .sub .i64 (.t 11) (.k (.lit .i64 1)), some (8, false), []⟩,
 ⟨some 13, .iadr 1 (.t 9) (.t 12), some (8, false), []⟩,
 ⟨some 14, .load1 (.t 13), some (8, false), []⟩,
 ⟨some 15, .cmp .eql (.t 14) (.k (.lit .u8 0)), some (8, false), []⟩,
 zO 16 (.pick (.t 8) (.k (.bool true)) (.t 15))])
 (.cond (.t 16) (.seq (.ops [zO 2 (.mv (.k (.val (.pointer none)))),
 zO 3 (.mv (.k (.lit .i64 11)))])
 (.ret)) (.skip)))
 (.seq (.ops [zM 17 0,
 zM 18 0,
 zO 19 (.len (.t 18)),
 zO 20 (.bin .sub .i64 (.t 19) (.k (.lit .i64 1))),
 zO 21 (.iadr 1 (.t 17) (.t 20)),
 zO 22 (.load1 (.t 21)),
 zO 23 (.call (.k (.fn 71 [])) [(.t 22)]),
 zO 24 (.bin .sub .i64 (.t 23) (.k (.lit .i64 1))),
 zM 4 24])
 (.seq (.ops [zO 25 (.bsliceI 5 .u8 0 []),
 zM 26 0,
 zO 27 (.appI 5 .u8 1 (.t 25) (.t 26)),
 zM 28 0,
 zO 29 (.len (.t 28)),
 zO 30 (.bin .sub .i64 (.t 29) (.k (.lit .i64 1))),
 zO 31 (.bin .mul .i64 (.k (.lit .i64 8)) (.t 30)),
 zM 32 4,
 zO 33 (.bin .add .i64 (.t 31) (.t 32)),
 zO 34 (.build [(.lit .i64 0)] [⟨0, 1, (.t 33)⟩]),
 zO 35 (.build [(.val (.slice none 0 0)), (.lit .i64 0)] [⟨0, 1, (.t 27)⟩, ⟨1, 1, (.t 34)⟩]),
 zO 36 (.box 143 none (.t 35)),
 zM 2 36,
 zO 3 (.mv (.k (.lit .i64 0)))])
 (.ret))))
theorem fn35 : FnOk Try.prog 35 x35 37 [2, 3] := FnOk.of Try.call35 Try.func35 (by kernel_rfl) Try.ntmps35 (by kernel_rfl)
def x36 : XC :=
 .seq (.ops [zO 4 (.mv (.k (.lit .u64 0)))])
 (.seq (.seq (.ops [zM 8 0,
 zO 9 (.eqv false 2 (.t 8) (.k (.val (.pointer none))))])
 (.cond (.t 9) (.seq (.ops [zO 4 (.mv (.k (.lit .u64 0)))])
 (.ret)) (.skip)))
 (.seq (.ops [zM 10 1,
 zO 11 (.max (.t 10) (.k (.lit .i64 0))),
 zO 12 (.min (.t 11) (.k (.lit .i64 56))),
 zM 1 12])
 (.seq (.ops [zO 5 (.mv (.k (.lit .u64 0)))])
 (.seq (.seq (.ops [zM 13 1,
 zO 14 (.mv (.k (.lit .i64 0)))])
 (.block 0 (.loop (.seq (.ops [zO 15 (.cmp .lss (.t 14) (.t 13))])
 (.seq (.cond (.t 15) (.skip) (.exit 0))
 (.seq (.block 1 (.seq (.ops [zM 16 14,
 zM 6 16])
 (.seq (.ops [zM 17 5,
 zO 18 (.bin .shl .u64 (.t 17) (.k (.lit .u64 1))),
 zM 5 18])
 (.seq (.ops [zM 19 0,
 zO 20 (.nilchk (.t 19)),
 zO 21 (.fadr 1 (.t 20)),
 zO 22 (.fadr 0 (.t 21)),
 zO 23 (.load1 (.t 22)),
 zO 24 (.bin .sub .i64 (.t 23) (.k (.lit .i64 1))),
 zM 25 6,
 zO 26 (.bin .sub .i64 (.t 24) (.t 25)),
 zM 7 26])
 (.seq (.ops [zM 27 7,
 zO 28 (.cmp .geq (.t 27) (.k (.lit .i64 0)))])
 (.cond (.t 28) (.ops [zM 29 5,
 zM 30 0,
 zO 31 (.nilchk (.t 30)),
 zO 32 (.fadr 0 (.t 31)),
 zO 33 (.load1 (.t 32)),
 zM 34 7,
 zO 35 (.bin .quo .i64 (.t 34) (.k (.lit .i64 8))),
 zO 36 (.iadr 1 (.t 33) (.t 35)),
 zO 37 (.load1 (.t 36)),
 zM 38 7,
 zO 39 (.bin .rem .i64 (.t 38) (.k (.lit .i64 8))),
 zO 40 (.conv .u64 (.t 39)),
 zO 41 (.bin .shr .u8 (.t 37) (.t 40)),
 zO 42 (.conv .u64 (.t 41)),
 zO 43 (.bin .and .u64 (.t 42) (.k (.lit .u64 1))),
 zO 44 (.bin .or .u64 (.t 29) (.t 43)),
 zM 5 44]) (.skip)))))))
 (.ops [zO 45 (.bin .add .i64 (.t 14) (.k (.lit .i64 1))),
 zM 14 45])))))))
 (.seq (.seq (.ops [zM 46 0,
 zM 47 0,
 zO 48 (.nilchk (.t 47)),
 zO 49 (.fadr 1 (.t 48)),
 zO 50 (.fadr 0 (.t 49)),
 zO 51 (.load1 (.t 50)),
 zM 52 1,
 zO 53 (.bin .sub .i64 (.t 51) (.t 52)),
 zO 54 (.build [(.lit .i64 0)] [⟨0, 1, (.t 53)⟩]),
 zO 55 (.nilchk (.t 46)),
 zO 56 (.fadr 1 (.t 55)),
 ⟨none, .storeA 1 (.t 56) (.t 54), none, []⟩])
 (.seq (.ops [zM 57 0,
 zO 58 (.nilchk (.t 57)),
 zO 59 (.fadr 1 (.t 58)),
 zO 60 (.fadr 0 (.t 59)),
 zO 61 (.load1 (.t 60)),
 zO 62 (.cmp .lss (.t 61) (.k (.lit .i64 (-1099511627776))))])
 (.cond (.t 62) (.ops [zM 63 0,
 zO 64 (.build [(.lit .i64 0)] [⟨0, 1, (.k (.lit .i64 (-1099511627776)))⟩]),
 zO 65 (.nilchk (.t 63)),
 zO 66 (.fadr 1 (.t 65)),
 ⟨none, .storeA 1 (.t 66) (.t 64), none, []⟩]) (.skip))))
 (.seq (.ops [zM 67 5,
 zM 4 67])
 (.ret)))))))
theorem fn36 : FnOk Try.prog 36 x36 68 [4] := FnOk.of Try.call36 Try.func36 (by kernel_rfl) Try.ntmps36 (by kernel_rfl)
def x37 : XC :=
 .seq (.ops [zO 2 (.mv (.k (.lit .i64 0)))])
 (.seq (.seq (.ops [zM 3 0,
 zO 4 (.eqv false 2 (.t 3) (.k (.val (.pointer none))))])
 (.cond (.t 4) (.seq (.ops [zO 2 (.mv (.k (.lit .i64 0)))])
 (.ret)) (.skip)))
 (.seq (.ops [zM 5 0,
 zO 6 (.nilchk (.t 5)),
 zO 7 (.fadr 1 (.t 6)),
 zO 8 (.fadr 0 (.t 7)),
 zO 9 (.load1 (.t 8)),
 zM 2 9])
 (.ret)))
theorem fn37 : FnOk Try.prog 37 x37 10 [2] := FnOk.of Try.call37 Try.func37 (by kernel_rfl) Try.ntmps37 (by kernel_rfl)
def x60 : XC :=
 .seq (.ops [zO 2 (.mv (.k (.val (.pointer none))))])
 (.seq (.ops [zM 3 0,
 zO 4 (.nilchk (.t 3)),
 zO 5 (.fadr 0 (.t 4)),
 zM 2 5])
 (.ret))
theorem fn60 : FnOk Try.prog 60 x60 6 [2] := FnOk.of Try.call60 Try.func60 (by kernel_rfl) Try.ntmps60 (by kernel_rfl)
def x61 : XC :=
 .seq (.ops [zO 3 (.box 3 none (.t 0)),
 zO 5 (.box 63 none (.t 2)),
 zO 6 (.mv (.k (.val .nilFunc))),
 zO 7 (.mv (.k (.val .nilFunc)))])
 (.seq (.ops [zO 8 (.newI 173 .i64 32)])
 (.seq (.seq (.ops [zO 12 (.load1 (.t 5)),
 zO 13 (.len (.t 12)),
 zO 14 (.mv (.k (.lit .i64 0)))])
 (.block 0 (.loop (.seq (.ops [zO 15 (.cmp .lss (.t 14) (.t 13))])
 (.seq (.cond (.t 15) (.skip) (.exit 0))
 (.seq (.block 1 (.seq (.ops [zM 16 14,
 zO 17 (.iadr 1 (.t 12) (.t 14)),
 zO 18 (.load1 (.t 17)),
 zM 9 16,
 zM 10 18])
 (.seq (.ops [zM 19 9,
 zM 20 1,
 zO 21 (.iadrA 32 1 (.t 8) (.t 19)),
 ⟨none, .store1 (.t 21) (.t 20), none, []⟩])
 (.ops [zM 22 1,
 zM 23 10,
 zO 24 (.conv .u64 (.t 23)),
 zO 25 (.bin .shl .i64 (.k (.lit .i64 1)) (.t 24)),
 zO 26 (.bin .add .i64 (.t 22) (.t 25)),
 zM 1 26]))))
 (.ops [zO 27 (.bin .add .i64 (.t 14) (.k (.lit .i64 1))),
 zM 14 27])))))))
 (.seq (.ops [zO 28 (.iadrA 32 1 (.t 8) (.k (.lit .i64 0))),
 zO 29 (.load1 (.t 28)),
 zO 30 (.load1 (.t 3)),
 zO 31 (.bin .sub .i64 (.t 29) (.t 30)),
 zO 11 (.newR 3 [(.lit .i64 0)]),
 ⟨none, .store1 (.t 11) (.t 31), none, []⟩])
 (.seq (.ops [zO 32 (.mkfn 90 [(.t 3), (.t 11), (.t 8), (.t 5)]),
 zO 33 (.mkfn 91 [(.t 8), (.t 11), (.t 3), (.t 5)]),
 zM 6 32,
 zM 7 33])
 (.ret)))))
theorem fn61 : FnOk Try.prog 61 x61 34 [6, 7] := FnOk.of Try.call61 Try.func61 (by kernel_rfl) Try.ntmps61 (by kernel_rfl)
def x62 : XC :=
 .seq (.ops [zO 2 (.mv (.k (.val (.pointer none))))])
 (.seq (.ops [zM 3 0,
 zO 4 (.nilchk (.t 3)),
 zO 5 (.fadr 2 (.t 4)),
 zM 2 5])
 (.ret))
theorem fn62 : FnOk Try.prog 62 x62 6 [2] := FnOk.of Try.call62 Try.func62 (by kernel_rfl) Try.ntmps62 (by kernel_rfl)
def x63 : XC :=
 .seq (.ops [zO 2 (.mv (.k (.val (.pointer none))))])
 (.seq (.ops [zM 3 0,
 zO 4 (.nilchk (.t 3)),
 zO 5 (.fadr 1 (.t 4)),
 zM 2 5])
 (.ret))
theorem fn63 : FnOk Try.prog 63 x63 6 [2] := FnOk.of Try.call63 Try.func63 (by kernel_rfl) Try.ntmps63 (by kernel_rfl)
def x64 : XC :=
 .seq (.ops [zO 2 (.mv (.k (.lit .i64 0))),
 zO 3 (.mv (.k (.lit .i64 0)))])
 (.seq (.ops [zM 4 0,
 zO 5 (.conv .u64 (.t 4)),
 zO 6 (.bin .shl .i64 (.k (.lit .i64 1)) (.t 5)),
 zM 7 0,
 zM 2 6,
 zM 3 7])
 (.ret))
theorem fn64 : FnOk Try.prog 64 x64 8 [2, 3] := FnOk.of Try.call64 Try.func64 (by kernel_rfl) Try.ntmps64 (by kernel_rfl)
def x65 : XC :=
 .seq (.ops [zO 2 (.mv (.k (.lit .i64 0)))])
 (.seq (.ops [zO 3 (.mv (.k (.lit .i64 0)))])
 (.seq (.block 0 (.loop (.seq (.seq (.ops [zM 4 0,
 zO 5 (.cmp .gtr (.t 4) (.k (.lit .i64 1)))])
 (.cond (.t 5) (.skip) (.exit 0)))
 (.block 1 (.ops [zM 6 0,
 zO 7 (.bin .quo .i64 (.t 6) (.k (.lit .i64 2))),
 zM 8 3,
 zO 9 (.bin .add .i64 (.t 8) (.k (.lit .i64 1))),
 zM 0 7,
 zM 3 9])))))
 (.seq (.ops [zM 10 3,
 zM 2 10])
 (.ret))))
theorem fn65 : FnOk Try.prog 65 x65 11 [2] := FnOk.of Try.call65 Try.func65 (by kernel_rfl) Try.ntmps65 (by kernel_rfl)
def x66 : XC :=
 .seq (.ops [zO 4 (.mv (.k (.val (.slice none 0 0)))),
 zO 5 (.mv (.k (.lit .i64 0)))])
 (.seq (.seq (.ops [zM 18 0,
 zM 19 1,
 zO 20 (.call (.k (.fn 93 [])) [(.t 18), (.t 19)]),
 zO 21 (.not (.t 20))])
 (.cond (.t 21) (.seq (.ops [zO 4 (.mv (.k (.val (.slice none 0 0)))),
 zO 5 (.mv (.k (.lit .i64 70)))])
 (.ret)) (.skip)))
 (.seq (.ops [zM 22 1,
 zO 23 (.conv .u64 (.t 22)),
 zO 24 (.bin .shl .i64 (.k (.lit .i64 1)) (.t 23)),
 zM 6 24])
 (.seq (.ops [zM 25 6,
 zO 26 (.mkslR 79 3 4 [(.lit .u8 0), (.lit .u8 0), (.lit .u16 0)] (.t 25) (.t 25)),
 zO 7 (.newR 30 [(.val (.slice none 0 0))]),
 ⟨none, .store1 (.t 7) (.t 26), none, []⟩])
 (.seq (.ops [zM 27 6,
 zM 8 27])
 (.seq (.ops [zO 9 (.newR 25 [(.val (.slice none 0 0))])])
 (.seq (.ops [zO 10 (.newI 176 .i64 256)])
 (.seq (.seq (.ops [zM 28 0,
 zO 29 (.len (.t 28)),
 zO 30 (.mv (.k (.lit .i64 0)))])
 (.block 0 (.loop (.seq (.ops [zO 31 (.cmp .lss (.t 30) (.t 29))])
 (.seq (.cond (.t 31) (.skip) (.exit 0))
 (.seq (.block 1 (.seq (.ops [zM 32 30,
 zO 33 (.iadr 1 (.t 28) (.t 30)),
 zO 34 (.load1 (.t 33)),
 zM 11 32,
 zM 12 34])
 (.seq (.ops [zM 35 11,
 zM 36 12,
 zO 37 (.call (.k (.fn 94 [])) [(.t 36)]),
 zO 38 (.iadrA 256 1 (.t 10) (.t 35)),
 ⟨none, .store1 (.t 38) (.t 37), none, []⟩])
 (.seq (.seq (.ops [zM 39 12,
 zO 40 (.cmp .lss (.t 39) (.k (.lit .i16 0)))])
 (.cond (.t 40) (.seq (.ops [zM 41 8,
 zO 42 (.bin .sub .i64 (.t 41) (.k (.lit .i64 1))),
 zM 8 42])
 (.seq (.ops [zO 43 (.load1 (.t 7)),
 zM 44 8,
 zM 45 11,
 zO 46 (.conv .u8 (.t 45)),
 zO 47 (.iadr 3 (.t 43) (.t 44)),
 zO 48 (.fadr 0 (.t 47)),
 ⟨none, .store1 (.t 48) (.t 46), none, []⟩])
 (.exit 1))) (.skip)))
 (.seq (.ops [zM 49 12,
 zO 50 (.mv (.k (.lit .i16 0)))])
 (.block 2 (.loop (.seq (.ops [zO 51 (.cmp .lss (.t 50) (.t 49))])
 (.seq (.cond (.t 51) (.skip) (.exit 2))
 (.seq (.block 3 (.ops [zO 52 (.load1 (.t 9)),
 zM 53 11,
 zO 54 (.conv .u8 (.t 53)),
 zO 55 (.bsliceI 5 .u8 1 [⟨0, 1, (.t 54)⟩]),
 zO 56 (.appI 5 .u8 1 (.t 52) (.t 55)),
 ⟨none, .store1 (.t 9) (.t 56), none, []⟩]))
 (.ops [zO 57 (.bin .add .i16 (.t 50) (.k (.lit .i16 1))),
 zM 50 57])))))))))))
 (.ops [zO 58 (.bin .add .i64 (.t 30) (.k (.lit .i64 1))),
 zM 30 58])))))))
 (.seq (.ops [zO 13 (.newR 3 [(.lit .i64 0)]),
 ⟨none, .store1 (.t 13) (.k (.lit .i64 0)), none, []⟩])
 (.seq (.seq (.ops [zM 59 6,
 zM 60 8,
 zO 61 (.call (.k (.fn 95 [])) [(.t 59), (.t 60)])])
 (.block 4 (.range (.t 61) [62] (.ops [zM 14 62]) (.block 5 (.seq (.ops [zO 63 (.load1 (.t 7)),
 zM 64 14,
 zO 65 (.load1 (.t 9)),
 zO 66 (.load1 (.t 13)),
 zO 67 (.iadr 1 (.t 65) (.t 66)),
 zO 68 (.load1 (.t 67)),
 zO 69 (.iadr 3 (.t 63) (.t 64)),
 zO 70 (.fadr 0 (.t 69)),
 ⟨none, .store1 (.t 70) (.t 68), none, []⟩])
 (.ops [zO 71 (.load1 (.t 13)),
 zO 72 (.bin .add .i64 (.t 71) (.k (.lit .i64 1))),
 ⟨none, .store1 (.t 13) (.t 72), none, []⟩]))))))
 (.seq (.seq (.ops [zO 73 (.load1 (.t 7)),
 zO 74 (.len (.t 73)),
 zO 75 (.mv (.k (.lit .i64 0)))])
 (.block 6 (.loop (.seq (.ops [zO 76 (.cmp .lss (.t 75) (.t 74))])
 (.seq (.cond (.t 76) (.skip) (.exit 6))
 (.seq (.block 7 (.seq (.ops [zM 77 75,
 zM 15 77])
 (.seq (.ops [zO 78 (.load1 (.t 7)),
 zM 79 15,
 zO 80 (.iadr 3 (.t 78) (.t 79)),
 zM 16 80])
 (.seq (.ops [zM 81 1,
 zO 82 (.bin .add .i64 (.t 81) (.k (.lit .i64 1))),
 zM 83 16,
 zO 84 (.nilchk (.t 83)),
 zO 85 (.fadr 0 (.t 84)),
 zO 86 (.load1 (.t 85)),
 zO 87 (.iadrA 256 1 (.t 10) (.t 86)),
 zO 88 (.load1 (.t 87)),
 zO 89 (.conv .u64 (.t 88)),
 zO 90 (.call (.k (.fn 78 [])) [(.t 89)]),
 zO 91 (.bin .sub .i64 (.t 82) (.t 90)),
 zM 17 91])
 (.seq (.ops [zM 92 16,
 zM 93 16,
 zM 94 17,
 zO 95 (.conv .u8 (.t 94)),
 zM 96 16,
 zO 97 (.nilchk (.t 96)),
 zO 98 (.fadr 0 (.t 97)),
 zO 99 (.load1 (.t 98)),
 zO 100 (.iadrA 256 1 (.t 10) (.t 99)),
 zO 101 (.load1 (.t 100)),
 zM 102 17,
 zO 103 (.conv .u64 (.t 102)),
 zO 104 (.bin .shl .i64 (.t 101) (.t 103)),
 zM 105 6,
 zO 106 (.bin .sub .i64 (.t 104) (.t 105)),
 zO 107 (.conv .u16 (.t 106)),
 zO 108 (.nilchk (.t 92)),
 zO 109 (.fadr 1 (.t 108)),
 ⟨none, .store1 (.t 109) (.t 95), none, [(.load1 (.t 100), 101, none)]⟩,
 zO 110 (.nilchk (.t 93)),
 zO 111 (.fadr 2 (.t 110)),
 ⟨none, .store1 (.t 111) (.t 107), none, []⟩])
 (.ops [zM 112 16,
 zO 113 (.nilchk (.t 112)),
 zO 114 (.fadr 0 (.t 113)),
 zO 115 (.load1 (.t 114)),
 zO 116 (.iadrA 256 1 (.t 10) (.t 115)),
 zO 117 (.load1 (.t 116)),
 zO 118 (.bin .add .i64 (.t 117) (.k (.lit .i64 1))),
 zO 119 (.iadrA 256 1 (.t 10) (.t 115)),
 ⟨none, .store1 (.t 119) (.t 118), none, []⟩]))))))
 (.ops [zO 120 (.bin .add .i64 (.t 75) (.k (.lit .i64 1))),
 zM 75 120])))))))
 (.seq (.ops [zO 121 (.load1 (.t 7)),
 zM 4 121,
 zO 5 (.mv (.k (.lit .i64 0)))])
 (.ret))))))))))))
theorem fn66 : FnOk Try.prog 66 x66 122 [4, 5] := FnOk.of Try.call66 Try.func66 (by kernel_rfl) Try.ntmps66 (by kernel_rfl)
def x67 : XC :=
 .seq (.ops [zO 4 (.mv (.k (.val (.slice none 0 0)))),
 zO 5 (.mv (.k (.lit .i64 0)))])
 (.seq (.ops [zO 6 (.mv (.k (.lit .i64 0))),
 zO 7 (.mv (.k (.lit .u64 0))),
 zO 8 (.mv (.k (.lit .i64 0)))])
 (.seq (.seq (.ops [zM 17 0,
 zO 18 (.len (.t 17)),
 zO 19 (.mv (.k (.lit .i64 0)))])
 (.block 0 (.loop (.seq (.ops [zO 20 (.cmp .lss (.t 19) (.t 18))])
 (.seq (.cond (.t 20) (.skip) (.exit 0))
 (.seq (.block 1 (.seq (.ops [zM 21 19,
 zO 22 (.iadr 1 (.t 17) (.t 19)),
 zO 23 (.load1 (.t 22)),
 zM 9 21,
 zM 10 23])
 (.seq (.ops [zM 24 10,
 zO 25 (.cmp .gtr (.t 24) (.k (.lit .u32 0)))])
 (.cond (.t 25) (.ops [zM 26 6,
 zO 27 (.bin .add .i64 (.t 26) (.k (.lit .i64 1))),
 zM 28 7,
 zM 29 10,
 zO 30 (.conv .u64 (.t 29)),
 zO 31 (.bin .add .u64 (.t 28) (.t 30)),
 zM 32 9,
 zM 6 27,
 zM 7 31,
 zM 8 32]) (.skip)))))
 (.ops [zO 33 (.bin .add .i64 (.t 19) (.k (.lit .i64 1))),
 zM 19 33])))))))
 (.seq (.seq (.ops [zM 34 0,
 zO 35 (.len (.t 34)),
 zO 36 (.cmp .gtr (.t 35) (.k (.lit .i64 256))),
 zM 37 36,
 ⟨some 38, .mv (.t 1), some (37, false), []⟩,
 ⟨some 39, .cmp .lss (.t 38) (.k (.lit .i64 5)), some (37, false), []⟩,
 zO 40 (.pick (.t 37) (.k (.bool true)) (.t 39)),
 zM 41 40,
 ⟨some 42, .mv (.t 1), some (41, false), []⟩,
 ⟨some 43, .cmp .gtr (.t 42) (.k (.lit .i64 12)), some (41, false), []⟩,
 zO 44 (.pick (.t 41) (.k (.bool true)) (.t 43)),
 zM 45 44,
 ⟨some 46, .mv (.t 6), some (45, false), []⟩,
 ⟨some 47, .cmp .eql (.t 46) (.k (.lit .i64 0)), some (45, false), []⟩,
 zO 48 (.pick (.t 45) (.k (.bool true)) (.t 47)),
 zM 49 48,
 ⟨some 50, .mv (.t 6), some (49, false), []⟩,
 ⟨some 51, .mv (.t 1), some (49, false), []⟩,
 ⟨some 52, .conv .u64 (.t 51), some (49, false), []⟩,
 ⟨some 53, .bin .shl .i64 (.k (.lit .i64 1)) (.t 52), some (49, false), []⟩,
 ⟨some 54, .cmp .gtr (.t 50) (.t 53), some (49, false), []⟩,
 zO 55 (.pick (.t 49) (.k (.bool true)) (.t 54))])
 (.cond (.t 55) (.seq (.ops [zO 4 (.mv (.k (.val (.slice none 0 0)))),
 zO 5 (.mv (.k (.lit .i64 2)))])
 (.ret)) (.skip)))
 (.seq (.ops [zM 56 8,
 zO 57 (.bin .add .i64 (.t 56) (.k (.lit .i64 1))),
 zO 58 (.mkslI 124 .i16 2 (.t 57) (.t 57)),
 zM 11 58])
 (.seq (.ops [zM 59 1,
 zO 60 (.conv .u64 (.t 59)),
 zO 61 (.bin .shl .i64 (.k (.lit .i64 1)) (.t 60)),
 zM 62 6,
 zO 63 (.bin .sub .i64 (.t 61) (.t 62)),
 zM 12 63])
 (.seq (.ops [zM 64 12,
 zO 65 (.conv .u64 (.t 64)),
 zM 13 65])
 (.seq (.ops [zM 66 8,
 zM 14 66])
 (.seq (.seq (.ops [zM 67 11,
 zO 68 (.len (.t 67)),
 zO 69 (.mv (.k (.lit .i64 0)))])
 (.block 2 (.loop (.seq (.ops [zO 70 (.cmp .lss (.t 69) (.t 68))])
 (.seq (.cond (.t 70) (.skip) (.exit 2))
 (.seq (.block 3 (.seq (.ops [zM 71 69,
 zM 15 71])
 (.seq (.seq (.ops [zM 72 0,
 zM 73 15,
 zO 74 (.iadr 1 (.t 72) (.t 73)),
 zO 75 (.load1 (.t 74)),
 zO 76 (.cmp .eql (.t 75) (.k (.lit .u32 0)))])
 (.cond (.t 76) (.exit 3) (.skip)))
 (.seq (.ops [zM 77 0,
 zM 78 15,
 zO 79 (.iadr 1 (.t 77) (.t 78)),
 zO 80 (.load1 (.t 79)),
 zO 81 (.conv .u64 (.t 80)),
 zM 82 13,
 zO 83 (.bin .mul .u64 (.t 81) (.t 82)),
 zM 84 7,
 zO 85 (.bin .quo .u64 (.t 83) (.t 84)),
 zO 86 (.conv .i64 (.t 85)),
 zM 16 86])
 (.seq (.ops [zM 87 11,
 zM 88 15,
 zM 89 16,
 zO 90 (.bin .add .i64 (.k (.lit .i64 1)) (.t 89)),
 zO 91 (.conv .i16 (.t 90)),
 zO 92 (.iadr 1 (.t 87) (.t 88)),
 ⟨none, .store1 (.t 92) (.t 91), none, []⟩])
 (.seq (.ops [zM 93 12,
 zM 94 16,
 zO 95 (.bin .sub .i64 (.t 93) (.t 94)),
 zM 12 95])
 (.seq (.ops [zM 96 0,
 zM 97 15,
 zO 98 (.iadr 1 (.t 96) (.t 97)),
 zO 99 (.load1 (.t 98)),
 zM 100 0,
 zM 101 14,
 zO 102 (.iadr 1 (.t 100) (.t 101)),
 zO 103 (.load1 (.t 102)),
 zO 104 (.cmp .gtr (.t 99) (.t 103))])
 (.cond (.t 104) (.ops [zM 105 15,
 zM 14 105]) (.skip)))))))))
 (.ops [zO 106 (.bin .add .i64 (.t 69) (.k (.lit .i64 1))),
 zM 69 106])))))))
 (.seq (.ops [zM 107 11,
 zM 108 14,
 zO 109 (.iadr 1 (.t 107) (.t 108)),
 zO 110 (.load1 (.t 109)),
 zM 111 12,
 zO 112 (.conv .i16 (.t 111)),
 zO 113 (.bin .add .i16 (.t 110) (.t 112)),
 zO 114 (.iadr 1 (.t 107) (.t 108)),
 ⟨none, .store1 (.t 114) (.t 113), none, []⟩])
 (.seq (.ops [zM 115 11,
 zM 4 115,
 zO 5 (.mv (.k (.lit .i64 0)))])
 (.ret)))))))))))
theorem fn67 : FnOk Try.prog 67 x67 116 [4, 5] := FnOk.of Try.call67 Try.func67 (by kernel_rfl) Try.ntmps67 (by kernel_rfl)
def x68 : XC :=
 .seq (.ops [zO 4 (.mv (.k (.val (.slice none 0 0)))),
 zO 5 (.mv (.k (.lit .i64 0)))])
 (.seq (.seq (.ops [zM 13 0,
 zM 14 1,
 zO 15 (.call (.k (.fn 93 [])) [(.t 13), (.t 14)]),
 zO 16 (.not (.t 15))])
 (.cond (.t 16) (.seq (.ops [zO 4 (.mv (.k (.val (.slice none 0 0)))),
 zO 5 (.mv (.k (.lit .i64 70)))])
 (.ret)) (.skip)))
 (.seq (.ops [zO 17 (.build [(.val (.slice none 0 0)), (.lit .i64 0)] []),
 zO 18 (.box 184 none (.t 17)),
 zM 6 18])
 (.seq (.ops [zM 19 6,
 zM 20 1,
 zO 21 (.bin .sub .i64 (.t 20) (.k (.lit .i64 5))),
 zO 22 (.conv .u64 (.t 21)),
 zO 23 (.call (.k (.fn 96 [])) [(.t 19), (.t 22), (.k (.lit .i64 4))])])
 (.seq (.ops [zM 24 1,
 zO 25 (.conv .u64 (.t 24)),
 zO 26 (.bin .shl .i64 (.k (.lit .i64 1)) (.t 25)),
 zM 7 26])
 (.seq (.seq (.ops [zO 8 (.mv (.k (.lit .i64 0)))])
 (.block 0 (.loop (.seq (.seq (.ops [zM 27 7,
 zO 28 (.cmp .gtr (.t 27) (.k (.lit .i64 0)))])
 (.cond (.t 28) (.skip) (.exit 0)))
 (.block 1 (.seq (.ops [zM 29 7,
 zO 30 (.bin .add .i64 (.t 29) (.k (.lit .i64 1))),
 zO 31 (.conv .u64 (.t 30)),
 zO 32 (.call (.k (.fn 78 [])) [(.t 31)]),
 zM 9 32])
 (.seq (.ops [zM 33 9,
 zO 34 (.conv .u64 (.t 33)),
 zO 35 (.bin .shl .i64 (.k (.lit .i64 1)) (.t 34)),
 zO 36 (.bin .sub .i64 (.t 35) (.k (.lit .i64 1))),
 zM 37 7,
 zO 38 (.bin .add .i64 (.t 37) (.k (.lit .i64 1))),
 zO 39 (.bin .sub .i64 (.t 36) (.t 38)),
 zM 10 39])
 (.seq (.ops [zM 40 0,
 zM 41 8,
 zO 42 (.iadr 1 (.t 40) (.t 41)),
 zO 43 (.load1 (.t 42)),
 zO 44 (.conv .i64 (.t 43)),
 zO 45 (.bin .add .i64 (.t 44) (.k (.lit .i64 1))),
 zM 11 45])
 (.seq (.block 2 (.seq (.ops [zM 54 11,
 zM 55 10,
 zO 56 (.cmp .lss (.t 54) (.t 55)),
 zM 53 56])
 (.cond (.t 53) (.ops [zM 57 6,
 zM 58 11,
 zO 59 (.conv .u64 (.t 58)),
 zM 60 9,
 zO 61 (.bin .sub .i64 (.t 60) (.k (.lit .i64 1))),
 zO 62 (.call (.k (.fn 96 [])) [(.t 57), (.t 59), (.t 61)])]) (.seq (.ops [zM 64 11,
 zM 65 9,
 zO 66 (.bin .sub .i64 (.t 65) (.k (.lit .i64 1))),
 zO 67 (.conv .u64 (.t 66)),
 zO 68 (.bin .shl .i64 (.k (.lit .i64 1)) (.t 67)),
 zO 69 (.cmp .lss (.t 64) (.t 68)),
 zM 63 69])
 (.cond (.t 63) (.ops [zM 70 6,
 zM 71 11,
 zO 72 (.conv .u64 (.t 71)),
 zM 73 9,
 zO 74 (.call (.k (.fn 96 [])) [(.t 70), (.t 72), (.t 73)])]) (.ops [zM 46 6,
 zM 47 11,
 zM 48 10,
 zO 49 (.bin .add .i64 (.t 47) (.t 48)),
 zO 50 (.conv .u64 (.t 49)),
 zM 51 9,
 zO 52 (.call (.k (.fn 96 [])) [(.t 46), (.t 50), (.t 51)])]))))))
 (.seq (.ops [zM 75 7,
 zM 76 0,
 zM 77 8,
 zO 78 (.iadr 1 (.t 76) (.t 77)),
 zO 79 (.load1 (.t 78)),
 zO 80 (.call (.k (.fn 94 [])) [(.t 79)]),
 zO 81 (.bin .sub .i64 (.t 75) (.t 80)),
 zM 7 81])
 (.seq (.seq (.ops [zM 82 8,
 zO 83 (.bin .add .i64 (.t 82) (.k (.lit .i64 1))),
 zM 8 83])
 (.seq (.ops [zM 84 0,
 zM 85 8,
 zO 86 (.bin .sub .i64 (.t 85) (.k (.lit .i64 1))),
 zO 87 (.iadr 1 (.t 84) (.t 86)),
 zO 88 (.load1 (.t 87)),
 zO 89 (.cmp .neq (.t 88) (.k (.lit .i16 0)))])
 (.cond (.t 89) (.exit 1) (.skip))))
 (.seq (.ops [zO 12 (.mv (.k (.lit .i64 3)))])
 (.block 3 (.loop (.seq (.seq (.ops [zM 90 12,
 zO 91 (.cmp .eql (.t 90) (.k (.lit .i64 3)))])
 (.cond (.t 91) (.skip) (.exit 3)))
 (.block 4 (.seq (.seq (.ops [zO 12 (.mv (.k (.lit .i64 0)))])
 (.block 5 (.loop (.seq (.seq (.ops [zM 92 12,
 zO 93 (.cmp .lss (.t 92) (.k (.lit .i64 3))),
 zM 94 93,
 zN 95 0 94,
 zN 96 8 94,
 zG 97 (.iadr 1 (.t 95) (.t 96)) 94,
 zG 98 (.load1 (.t 97)) 94,
 zG 99 (.cmp .eql (.t 98) (.k (.lit .i16 0))) 94,
 zO 100 (.pick (.t 94) (.t 99) (.k (.bool false)))])
 (.cond (.t 100) (.skip) (.exit 5)))
 (.seq (.block 6 (.ops [zM 103 8,
 zO 104 (.bin .add .i64 (.t 103) (.k (.lit .i64 1))),
 zM 8 104]))
 (.ops [zM 101 12,
 zO 102 (.bin .add .i64 (.t 101) (.k (.lit .i64 1))),
 zM 12 102]))))))
 (.ops [zM 105 6,
 zM 106 12,
 zO 107 (.conv .u64 (.t 106)),
 zO 108 (.call (.k (.fn 96 [])) [(.t 105), (.t 107), (.k (.lit .i64 2))])]))))))))))))))))))
 (.seq (.ops [zM 109 6,
 zO 110 (.call (.k (.fn 97 [])) [(.t 109)]),
 zM 4 110,
 zO 5 (.mv (.k (.lit .i64 0)))])
 (.ret)))))))
theorem fn68 : FnOk Try.prog 68 x68 111 [4, 5] := FnOk.of Try.call68 Try.func68 (by kernel_rfl) Try.ntmps68 (by kernel_rfl)
def x69 : XC :=
 .seq (.ops [zO 2 (.box 76 none (.t 0)),
 zO 3 (.box 3 none (.t 1)),
 zO 4 (.mv (.k (.val .nilFunc)))])
 (.seq (.ops [zO 5 (.mkfn 98 [(.t 3), (.t 2)]),
 zM 4 5])
 (.ret))
theorem fn69 : FnOk Try.prog 69 x69 6 [4] := FnOk.of Try.call69 Try.func69 (by kernel_rfl) Try.ntmps69 (by kernel_rfl)
def x70 : XC :=
 .seq (.ops [zO 6 (.mv (.k (.val (.slice none 0 0)))),
 zO 7 (.mv (.k (.lit .i64 0))),
 zO 8 (.mv (.k (.lit .i64 0))),
 zO 9 (.mv (.k (.lit .i64 0)))])
 (.scope (.seq (.seq (.ops [zM 21 1,
 zO 22 (.cmp .lss (.t 21) (.k (.lit .i64 5))),
 zM 23 22,
 ⟨some 24, .mv (.t 1), some (23, false), []⟩,
 ⟨some 25, .cmp .gtr (.t 24) (.k (.lit .i64 12)), some (23, false), []⟩,
 zO 26 (.pick (.t 23) (.k (.bool true)) (.t 25)),
 zM 27 26,
 ⟨some 28, .mv (.t 2), some (27, false), []⟩,
 ⟨some 29, .cmp .lss (.t 28) (.k (.lit .i64 0)), some (27, false), []⟩,
 zO 30 (.pick (.t 27) (.k (.bool true)) (.t 29)),
 zM 31 30,
 ⟨some 32, .mv (.t 2), some (31, false), []⟩,
 ⟨some 33, .cmp .gtr (.t 32) (.k (.lit .i64 255)), some (31, false), []⟩,
 zO 34 (.pick (.t 31) (.k (.bool true)) (.t 33))])
 (.cond (.t 34) (.seq (.ops [zO 6 (.mv (.k (.val (.slice none 0 0)))),
 zO 7 (.mv (.k (.lit .i64 0))),
 zO 8 (.mv (.k (.lit .i64 0))),
 zO 9 (.mv (.k (.lit .i64 2)))])
 (.ret)) (.skip)))
 (.seq (.ops [zM 35 0,
 zO 36 (.call (.k (.fn 99 [])) [(.t 35)]),
 zM 10 36])
 (.seq (.ops [zM 38 10,
 zO 39 (.call (.k (.fn 100 [])) [(.t 38), (.k (.lit .i64 4))]),
 zM 37 39,
 zO 40 (.extract (.t 37) 0),
 zO 41 (.extract (.t 37) 1),
 zM 11 40,
 zM 9 41])
 (.seq (.seq (.ops [zM 42 9,
 zO 43 (.cmp .neq (.t 42) (.k (.lit .i64 0)))])
 (.cond (.t 43) (.seq (.ops [zM 44 9,
 zO 6 (.mv (.k (.val (.slice none 0 0)))),
 zO 7 (.mv (.k (.lit .i64 0))),
 zO 8 (.mv (.k (.lit .i64 0))),
 zM 9 44])
 (.ret)) (.skip)))
 (.seq (.seq (.ops [zM 45 11,
 zO 46 (.conv .i64 (.t 45)),
 zO 47 (.bin .add .i64 (.t 46) (.k (.lit .i64 5))),
 zM 7 47])
 (.seq (.ops [zM 48 7,
 zM 49 1,
 zO 50 (.cmp .gtr (.t 48) (.t 49))])
 (.cond (.t 50) (.seq (.ops [zO 6 (.mv (.k (.val (.slice none 0 0)))),
 zO 7 (.mv (.k (.lit .i64 0))),
 zO 8 (.mv (.k (.lit .i64 0))),
 zO 9 (.mv (.k (.lit .i64 11)))])
 (.ret)) (.skip))))
 (.seq (.ops [zM 51 7,
 zO 52 (.conv .u64 (.t 51)),
 zO 53 (.bin .shl .i64 (.k (.lit .i64 1)) (.t 52)),
 zM 12 53])
 (.seq (.skip)
 (.seq (.block 0 (.loop (.seq (.seq (.ops [zM 54 12,
 zO 55 (.cmp .gtr (.t 54) (.k (.lit .i64 0)))])
 (.cond (.t 55) (.skip) (.exit 0)))
 (.block 1 (.seq (.seq (.ops [zM 56 6,
 zO 57 (.len (.t 56)),
 zM 58 2,
 zO 59 (.cmp .gtr (.t 57) (.t 58))])
 (.cond (.t 59) (.seq (.ops [zO 6 (.mv (.k (.val (.slice none 0 0)))),
 zO 7 (.mv (.k (.lit .i64 0))),
 zO 8 (.mv (.k (.lit .i64 0))),
 zO 9 (.mv (.k (.lit .i64 11)))])
 (.ret)) (.skip)))
 (.seq (.ops [zM 60 12,
 zO 61 (.bin .add .i64 (.t 60) (.k (.lit .i64 1))),
 zO 62 (.conv .u64 (.t 61)),
 zO 63 (.call (.k (.fn 78 [])) [(.t 62)]),
 zM 13 63])
 (.seq (.ops [zM 64 13,
 zO 65 (.conv .u64 (.t 64)),
 zO 66 (.bin .shl .i64 (.k (.lit .i64 1)) (.t 65)),
 zO 67 (.bin .sub .i64 (.t 66) (.k (.lit .i64 1))),
 zM 68 12,
 zO 69 (.bin .add .i64 (.t 68) (.k (.lit .i64 1))),
 zO 70 (.bin .sub .i64 (.t 67) (.t 69)),
 zO 71 (.conv .u64 (.t 70)),
 zM 14 71])
 (.seq (.ops [zM 73 10,
 zM 74 13,
 zO 75 (.bin .sub .i64 (.t 74) (.k (.lit .i64 1))),
 zO 76 (.call (.k (.fn 100 [])) [(.t 73), (.t 75)]),
 zM 72 76,
 zO 77 (.extract (.t 72) 0),
 zO 78 (.extract (.t 72) 1),
 zM 15 77,
 zM 16 78])
 (.seq (.seq (.ops [zM 79 16,
 zO 80 (.cmp .neq (.t 79) (.k (.lit .i64 0)))])
 (.cond (.t 80) (.seq (.ops [zM 81 16,
 zO 6 (.mv (.k (.val (.slice none 0 0)))),
 zO 7 (.mv (.k (.lit .i64 0))),
 zO 8 (.mv (.k (.lit .i64 0))),
 zM 9 81])
 (.ret)) (.skip)))
 (.seq (.seq (.ops [zM 82 15,
 zM 83 14,
 zO 84 (.cmp .geq (.t 82) (.t 83))])
 (.cond (.t 84) (.seq (.ops [zM 86 10,
 zO 87 (.call (.k (.fn 100 [])) [(.t 86), (.k (.lit .i64 1))]),
 zM 85 87,
 zO 88 (.extract (.t 85) 0),
 zO 89 (.extract (.t 85) 1),
 zM 17 88,
 zM 18 89])
 (.seq (.seq (.ops [zM 90 18,
 zO 91 (.cmp .neq (.t 90) (.k (.lit .i64 0)))])
 (.cond (.t 91) (.seq (.ops [zM 92 18,
 zO 6 (.mv (.k (.val (.slice none 0 0)))),
 zO 7 (.mv (.k (.lit .i64 0))),
 zO 8 (.mv (.k (.lit .i64 0))),
 zM 9 92])
 (.ret)) (.skip)))
 (.seq (.ops [zM 93 17,
 zO 94 (.cmp .eql (.t 93) (.k (.lit .u64 1)))])
 (.cond (.t 94) (.ops [zM 95 15,
 zM 96 13,
 zO 97 (.bin .sub .i64 (.t 96) (.k (.lit .i64 1))),
 zO 98 (.conv .u64 (.t 97)),
 zO 99 (.bin .shl .u64 (.k (.lit .u64 1)) (.t 98)),
 zM 100 14,
 zO 101 (.bin .sub .u64 (.t 99) (.t 100)),
 zO 102 (.bin .add .u64 (.t 95) (.t 101)),
 zM 15 102]) (.skip))))) (.skip)))
 (.seq (.ops [zM 103 15,
 zO 104 (.conv .i16 (.t 103)),
 zO 105 (.bin .sub .i16 (.t 104) (.k (.lit .i16 1))),
 zM 19 105])
 (.seq (.ops [zM 106 6,
 zM 107 19,
 zO 108 (.bsliceI 124 .i16 1 [⟨0, 1, (.t 107)⟩]),
 zO 109 (.appI 124 .i16 2 (.t 106) (.t 108)),
 zM 6 109])
 (.seq (.ops [zM 110 12,
 zM 111 19,
 zO 112 (.call (.k (.fn 94 [])) [(.t 111)]),
 zO 113 (.bin .sub .i64 (.t 110) (.t 112)),
 zM 12 113])
 (.seq (.seq (.ops [zM 114 19,
 zO 115 (.cmp .neq (.t 114) (.k (.lit .i16 0)))])
 (.cond (.t 115) (.exit 1) (.skip)))
 (.seq (.seq (.ops [zM 116 6,
 zO 117 (.len (.t 116)),
 zM 118 2,
 zO 119 (.cmp .gtr (.t 117) (.t 118))])
 (.cond (.t 119) (.seq (.ops [zO 6 (.mv (.k (.val (.slice none 0 0)))),
 zO 7 (.mv (.k (.lit .i64 0))),
 zO 8 (.mv (.k (.lit .i64 0))),
 zO 9 (.mv (.k (.lit .i64 11)))])
 (.ret)) (.skip)))
 (.seq (.ops [zO 20 (.mv (.k (.lit .u64 3)))])
 (.block 2 (.loop (.seq (.seq (.ops [zM 120 20,
 zO 121 (.cmp .eql (.t 120) (.k (.lit .u64 3)))])
 (.cond (.t 121) (.skip) (.exit 2)))
 (.block 3 (.seq (.seq (.ops [zM 123 10,
 zO 124 (.call (.k (.fn 100 [])) [(.t 123), (.k (.lit .i64 2))]),
 zM 122 124,
 zO 125 (.extract (.t 122) 0),
 zO 126 (.extract (.t 122) 1),
 zM 20 125,
 zM 16 126])
 (.seq (.ops [zM 127 16,
 zO 128 (.cmp .neq (.t 127) (.k (.lit .i64 0)))])
 (.cond (.t 128) (.seq (.ops [zM 129 16,
 zO 6 (.mv (.k (.val (.slice none 0 0)))),
 zO 7 (.mv (.k (.lit .i64 0))),
 zO 8 (.mv (.k (.lit .i64 0))),
 zM 9 129])
 (.ret)) (.skip))))
 (.seq (.ops [zM 130 6,
 zM 131 20,
 zO 132 (.appZ 124 .i16 2 (.t 130) (.t 131)),
 zM 6 132])
 (.seq (.ops [zM 133 6,
 zO 134 (.len (.t 133)),
 zM 135 2,
 zO 136 (.cmp .gtr (.t 134) (.t 135))])
 (.cond (.t 136) (.seq (.ops [zO 6 (.mv (.k (.val (.slice none 0 0)))),
 zO 7 (.mv (.k (.lit .i64 0))),
 zO 8 (.mv (.k (.lit .i64 0))),
 zO 9 (.mv (.k (.lit .i64 11)))])
 (.ret)) (.skip)))))))))))))))))))))))))
 (.seq (.ops [zM 137 6,
 zM 138 7,
 zM 139 0,
 zO 140 (.len (.t 139)),
 zM 141 10,
 zO 142 (.call (.k (.fn 101 [])) [(.t 141)]),
 zO 143 (.bin .quo .i64 (.t 142) (.k (.lit .i64 8))),
 zO 144 (.bin .sub .i64 (.t 140) (.t 143)),
 zM 6 137,
 zM 7 138,
 zM 8 144,
 zO 9 (.mv (.k (.lit .i64 0)))])
 (.ret)))))))))))
theorem fn70 : FnOk Try.prog 70 x70 145 [6, 7, 8, 9] := FnOk.of Try.call70 Try.func70 (by kernel_rfl) Try.ntmps70 (by kernel_rfl)
def x71 : XC :=
 .seq (.ops [zO 2 (.mv (.k (.lit .i64 0)))])
 (.seq (.ops [zM 3 0,
 zO 4 (.idxS (.k (.str [0, 1, 2, 2, 3, 3, 3, 3, 4, 4, 4, 4, 4, 4, 4, 4, 5, 5, 5, 5, 5, 5, 5, 5, 5, 5, 5, 5, 5, 5, 5, 5, 6, 6, 6, 6, 6, 6, 6, 6, 6, 6, 6, 6, 6, 6, 6, 6, 6, 6, 6, 6, 6, 6, 6, 6, 6, 6, 6, 6, 6, 6, 6, 6, 7, 7, 7, 7, 7, 7, 7, 7, 7, 7, 7, 7, 7, 7, 7, 7, 7, 7, 7, 7, 7, 7, 7, 7, 7, 7, 7, 7, 7, 7, 7, 7, 7, 7, 7, 7, 7, 7, 7, 7, 7, 7, 7, 7, 7, 7, 7, 7, 7, 7, 7, 7, 7, 7, 7, 7, 7, 7, 7, 7, 7, 7, 7, 7, 8, 8, 8, 8, 8, 8, 8, 8, 8, 8, 8, 8, 8, 8, 8, 8, 8, 8, 8, 8, 8, 8, 8, 8, 8, 8, 8, 8, 8, 8, 8, 8, 8, 8, 8, 8, 8, 8, 8, 8, 8, 8, 8, 8, 8, 8, 8, 8, 8, 8, 8, 8, 8, 8, 8, 8, 8, 8, 8, 8, 8, 8, 8, 8, 8, 8, 8, 8, 8, 8, 8, 8, 8, 8, 8, 8, 8, 8, 8, 8, 8, 8, 8, 8, 8, 8, 8, 8, 8, 8, 8, 8, 8, 8, 8, 8, 8, 8, 8, 8, 8, 8, 8, 8, 8, 8, 8, 8, 8, 8, 8, 8, 8, 8, 8, 8, 8, 8, 8, 8, 8, 8, 8, 8, 8, 8, 8, 8])) (.t 3)),
 zO 5 (.conv .i64 (.t 4)),
 zM 2 5])
 (.ret))
theorem fn71 : FnOk Try.prog 71 x71 6 [2] := FnOk.of Try.call71 Try.func71 (by kernel_rfl) Try.ntmps71 (by kernel_rfl)
def x78 : XC :=
 .seq (.ops [zO 2 (.mv (.k (.lit .i64 0)))])
 (.seq (.cond (.k (.bool false)) (.seq (.ops [zM 3 0,
 zO 4 (.conv .u32 (.t 3)),
 zO 5 (.call (.k (.fn 105 [])) [(.t 4)]),
 zM 2 5])
 (.ret)) (.skip))
 (.seq (.ops [zM 6 0,
 zO 7 (.call (.k (.fn 106 [])) [(.t 6)]),
 zM 2 7])
 (.ret)))
theorem fn78 : FnOk Try.prog 78 x78 8 [2] := FnOk.of Try.call78 Try.func78 (by kernel_rfl) Try.ntmps78 (by kernel_rfl)
def x90 : XC :=
 .seq (.ops [zO 6 (.mv (.k (.lit .i64 0))),
 zO 7 (.mv (.k (.lit .i64 0)))])
 (.seq (.seq (.ops [zM 8 0,
 zO 9 (.load1 (.t 1)),
 zO 10 (.cmp .lss (.t 8) (.t 9))])
 (.cond (.t 10) (.seq (.ops [zM 11 0,
 zO 12 (.load1 (.t 2)),
 zO 13 (.bin .add .i64 (.t 11) (.t 12)),
 zM 6 13,
 zO 7 (.mv (.k (.lit .i64 0)))])
 (.ret)) (.skip)))
 (.seq (.ops [zM 14 0,
 zO 15 (.load1 (.t 1)),
 zO 16 (.bin .sub .i64 (.t 14) (.t 15)),
 zO 17 (.iadrA 32 1 (.t 3) (.t 16)),
 zO 18 (.load1 (.t 17)),
 zO 19 (.load1 (.t 4)),
 zM 20 0,
 zO 21 (.load1 (.t 1)),
 zO 22 (.bin .sub .i64 (.t 20) (.t 21)),
 zO 23 (.iadr 1 (.t 19) (.t 22)),
 zO 24 (.load1 (.t 23)),
 zM 6 18,
 zM 7 24])
 (.ret)))
theorem fn90 : FnOk Try.prog 90 x90 25 [6, 7] := FnOk.of Try.call90 Try.func90 (by kernel_rfl) Try.ntmps90 (by kernel_rfl)
def x91 : XC :=
 .seq (.ops [zO 6 (.mv (.k (.lit .i64 0)))])
 (.seq (.seq (.ops [zM 7 0,
 zO 8 (.iadrA 32 1 (.t 1) (.k (.lit .i64 0))),
 zO 9 (.load1 (.t 8)),
 zO 10 (.cmp .lss (.t 7) (.t 9))])
 (.cond (.t 10) (.seq (.ops [zM 11 0,
 zO 12 (.load1 (.t 2)),
 zO 13 (.bin .sub .i64 (.t 11) (.t 12)),
 zM 6 13])
 (.ret)) (.skip)))
 (.seq (.ops [zO 14 (.load1 (.t 3)),
 zO 15 (.load1 (.t 4)),
 zO 16 (.len (.t 15)),
 zO 17 (.slcA 32 1 (.t 1) none (some (.t 16)) none),
 zM 18 0,
 ⟨some 19, .call (.k (.fn 92 [])) [(.t 17), (.t 18)], none, [(.load1 (.t 4), 15, none), (.load1 (.t 3), 14, none)]⟩,
 zO 20 (.bin .add .i64 (.t 14) (.t 19)),
 zM 6 20])
 (.ret)))
theorem fn91 : FnOk Try.prog 91 x91 21 [6] := FnOk.of Try.call91 Try.func91 (by kernel_rfl) Try.ntmps91 (by kernel_rfl)
def x92 : XC :=
 .seq (.ops [zO 4 (.mv (.k (.lit .i64 0)))])
 (.seq (.ops [zM 8 0,
 zO 9 (.len (.t 8)),
 zO 5 (.mv (.k (.lit .i64 0))),
 zM 6 9])
 (.seq (.block 0 (.loop (.seq (.seq (.ops [zM 10 6,
 zM 11 5,
 zO 12 (.bin .sub .i64 (.t 10) (.t 11)),
 zO 13 (.cmp .gtr (.t 12) (.k (.lit .i64 1)))])
 (.cond (.t 13) (.skip) (.exit 0)))
 (.block 1 (.seq (.ops [zM 14 5,
 zM 15 6,
 zO 16 (.bin .add .i64 (.t 14) (.t 15)),
 zO 17 (.bin .quo .i64 (.t 16) (.k (.lit .i64 2))),
 zM 7 17])
 (.seq (.ops [zM 18 0,
 zM 19 7,
 zO 20 (.iadr 1 (.t 18) (.t 19)),
 zO 21 (.load1 (.t 20)),
 zM 22 1,
 zO 23 (.cmp .leq (.t 21) (.t 22))])
 (.cond (.t 23) (.ops [zM 24 7,
 zM 5 24]) (.ops [zM 25 7,
 zM 6 25]))))))))
 (.seq (.ops [zM 26 5,
 zM 4 26])
 (.ret))))
theorem fn92 : FnOk Try.prog 92 x92 27 [4] := FnOk.of Try.call92 Try.func92 (by kernel_rfl) Try.ntmps92 (by kernel_rfl)
def x93 : XC :=
 .seq (.ops [zO 4 (.mv (.k (.bool false)))])
 (.seq (.seq (.ops [zM 8 1,
 zO 9 (.cmp .lss (.t 8) (.k (.lit .i64 5))),
 zM 10 9,
 ⟨some 11, .mv (.t 1), some (10, false), []⟩,
 ⟨some 12, .cmp .gtr (.t 11) (.k (.lit .i64 12)), some (10, false), []⟩,
 zO 13 (.pick (.t 10) (.k (.bool true)) (.t 12)),
 zM 14 13,
 ⟨some 15, .mv (.t 0), some (14, false), []⟩,
 ⟨some 16, .len (.t 15), some (14, false), []⟩,
 ⟨some 17, .cmp .eql (.t 16) (.k (.lit .i64 0)), some (14, false), []⟩,
 zO 18 (.pick (.t 14) (.k (.bool true)) (.t 17)),
 zM 19 18,
 ⟨some 20, .mv (.t 0), some (19, false), []⟩,
 ⟨some 21, .len (.t 20), some (19, false), []⟩,
 ⟨some 22, .cmp .gtr (.t 21) (.k (.lit .i64 256)), some (19, false), []⟩,
 zO 23 (.pick (.t 19) (.k (.bool true)) (.t 22)),
 zM 24 23,
 ⟨some 25, .mv (.t 0), some (24, false), []⟩,
 ⟨some 26, .mv (.t 0), some (24, false), []⟩,
 ⟨some 27, .len (.t 26), some (24, false), []⟩,
 ⟨some 28, .bin .sub .i64 (.t 27) (.k (.lit .i64 1)), some (24, false), []⟩,
 ⟨some 29, .iadr 1 (.t 25) (.t 28), some (24, false), []⟩,
 ⟨some 30, .load1 (.t 29), some (24, false), []⟩,
 ⟨some 31, .cmp .eql (.t 30) (.k (.lit .i16 0)), some (24, false), []⟩,
 zO 32 (.pick (.t 24) (.k (.bool true)) (.t 31))])
 (.cond (.t 32) (.seq (.ops [zO 4 (.mv (.k (.bool false)))])
 (.ret)) (.skip)))
 (.seq (.ops [zO 5 (.mv (.k (.lit .i64 0)))])
 (.seq (.seq (.ops [zM 33 0,
 zO 34 (.len (.t 33)),
 zO 35 (.mv (.k (.lit .i64 0)))])
 (.block 0 (.loop (.seq (.ops [zO 36 (.cmp .lss (.t 35) (.t 34))])
 (.seq (.cond (.t 36) (.skip) (.exit 0))
 (.seq (.block 1 (.seq (.ops [zO 37 (.iadr 1 (.t 33) (.t 35)),
 zO 38 (.load1 (.t 37)),
 zM 7 38])
 (.seq (.seq (.ops [zM 39 7,
 zO 40 (.cmp .lss (.t 39) (.k (.lit .i16 (-1))))])
 (.cond (.t 40) (.seq (.ops [zO 4 (.mv (.k (.bool false)))])
 (.ret)) (.skip)))
 (.ops [zM 41 5,
 zM 42 7,
 zO 43 (.call (.k (.fn 94 [])) [(.t 42)]),
 zO 44 (.bin .add .i64 (.t 41) (.t 43)),
 zM 5 44]))))
 (.ops [zO 45 (.bin .add .i64 (.t 35) (.k (.lit .i64 1))),
 zM 35 45])))))))
 (.seq (.ops [zM 46 5,
 zM 47 1,
 zO 48 (.conv .u64 (.t 47)),
 zO 49 (.bin .shl .i64 (.k (.lit .i64 1)) (.t 48)),
 zO 50 (.cmp .eql (.t 46) (.t 49)),
 zM 4 50])
 (.ret)))))
theorem fn93 : FnOk Try.prog 93 x93 51 [4] := FnOk.of Try.call93 Try.func93 (by kernel_rfl) Try.ntmps93 (by kernel_rfl)
def x94 : XC :=
 .seq (.ops [zO 2 (.mv (.k (.lit .i64 0)))])
 (.seq (.seq (.ops [zM 3 0,
 zO 4 (.cmp .lss (.t 3) (.k (.lit .i16 0)))])
 (.cond (.t 4) (.seq (.ops [zO 2 (.mv (.k (.lit .i64 1)))])
 (.ret)) (.skip)))
 (.seq (.ops [zM 5 0,
 zO 6 (.conv .i64 (.t 5)),
 zM 2 6])
 (.ret)))
theorem fn94 : FnOk Try.prog 94 x94 7 [2] := FnOk.of Try.call94 Try.func94 (by kernel_rfl) Try.ntmps94 (by kernel_rfl)
def x95 : XC :=
 .seq (.ops [zO 2 (.box 3 none (.t 0)),
 zO 3 (.box 3 none (.t 1)),
 zO 4 (.mv (.k (.val .nilFunc)))])
 (.seq (.ops [zO 5 (.mkfn 119 [(.t 3), (.t 2)]),
 zM 4 5])
 (.ret))
theorem fn95 : FnOk Try.prog 95 x95 6 [4] := FnOk.of Try.call95 Try.func95 (by kernel_rfl) Try.ntmps95 (by kernel_rfl)
def x96 : XC :=
 .seq (.ops [zO 3 (.box 182 none (.t 0)),
 zO 6 (.mv (.k (.lit .i64 0)))])
 (.seq (.block 0 (.seq (.ops [zO 9 (.load1 (.t 3)),
 zO 10 (.eqv false 2 (.t 9) (.k (.val (.pointer none)))),
 zM 8 10])
 (.cond (.t 8) (.seq (.ops [zO 6 (.mv (.k (.lit .i64 1)))])
 (.ret)) (.seq (.ops [zM 12 2,
 zO 13 (.cmp .lss (.t 12) (.k (.lit .i64 0))),
 zM 14 13,
 ⟨some 15, .mv (.t 2), some (14, false), []⟩,
 ⟨some 16, .cmp .gtr (.t 15) (.k (.lit .i64 56)), some (14, false), []⟩,
 zO 17 (.pick (.t 14) (.k (.bool true)) (.t 16)),
 zM 11 17])
 (.cond (.t 11) (.seq (.ops [zO 6 (.mv (.k (.lit .i64 2)))])
 (.ret)) (.skip))))))
 (.seq (.seq (.ops [zM 18 1,
 zM 19 2,
 zO 20 (.call (.k (.fn 120 [])) [(.t 18), (.t 19)])])
 (.block 1 (.range (.t 20) [21] (.ops [zM 7 21]) (.block 2 (.seq (.seq (.ops [zO 22 (.load1 (.t 3)),
 zO 23 (.nilchk (.t 22)),
 zO 24 (.fadr 1 (.t 23)),
 zO 25 (.load1 (.t 24)),
 zO 26 (.bin .rem .i64 (.t 25) (.k (.lit .i64 8))),
 zO 27 (.cmp .eql (.t 26) (.k (.lit .i64 0)))])
 (.cond (.t 27) (.ops [zO 28 (.load1 (.t 3)),
 zO 29 (.load1 (.t 3)),
 zO 30 (.nilchk (.t 29)),
 zO 31 (.fadr 0 (.t 30)),
 zO 32 (.load1 (.t 31)),
 ⟨some 33, .bsliceI 5 .u8 1 [⟨0, 1, (.k (.lit .u8 0))⟩], none, [(.load1 (.t 31), 32, none), (.load1 (.t 3), 29, none), (.load1 (.t 3), 28, none)]⟩,
 ⟨some 34, .appI 5 .u8 1 (.t 32) (.t 33), none, [(.load1 (.t 3), 29, none), (.load1 (.t 3), 28, none)]⟩,
 zO 35 (.nilchk (.t 28)),
 zO 36 (.fadr 0 (.t 35)),
 ⟨none, .store1 (.t 36) (.t 34), none, []⟩]) (.skip)))
 (.seq (.ops [zO 37 (.load1 (.t 3)),
 zO 38 (.nilchk (.t 37)),
 zO 39 (.fadr 0 (.t 38)),
 zO 40 (.load1 (.t 39)),
 zO 41 (.load1 (.t 3)),
 zO 42 (.nilchk (.t 41)),
 zO 43 (.fadr 1 (.t 42)),
 zO 44 (.load1 (.t 43)),
 zO 45 (.bin .quo .i64 (.t 44) (.k (.lit .i64 8))),
 zO 46 (.iadr 1 (.t 40) (.t 45)),
 zO 47 (.load1 (.t 46)),
 zM 48 7,
 zO 49 (.load1 (.t 3)),
 zO 50 (.nilchk (.t 49)),
 zO 51 (.fadr 1 (.t 50)),
 zO 52 (.load1 (.t 51)),
 zO 53 (.bin .rem .i64 (.t 52) (.k (.lit .i64 8))),
 zO 54 (.conv .u64 (.t 53)),
 zO 55 (.bin .shl .u8 (.t 48) (.t 54)),
 zO 56 (.bin .or .u8 (.t 47) (.t 55)),
 zO 57 (.iadr 1 (.t 40) (.t 45)),
 ⟨none, .store1 (.t 57) (.t 56), none, []⟩])
 (.ops [zO 58 (.load1 (.t 3)),
 zO 59 (.nilchk (.t 58)),
 zO 60 (.fadr 1 (.t 59)),
 zO 61 (.load1 (.t 60)),
 zO 62 (.bin .add .i64 (.t 61) (.k (.lit .i64 1))),
 zO 63 (.nilchk (.t 58)),
 zO 64 (.fadr 1 (.t 63)),
 ⟨none, .store1 (.t 64) (.t 62), none, []⟩])))))))
 (.seq (.ops [zO 6 (.mv (.k (.lit .i64 0)))])
 (.ret))))
theorem fn96 : FnOk Try.prog 96 x96 65 [6] := FnOk.of Try.call96 Try.func96 (by kernel_rfl) Try.ntmps96 (by kernel_rfl)
def x97 : XC :=
 .seq (.ops [zO 2 (.mv (.k (.val (.slice none 0 0))))])
 (.seq (.seq (.ops [zM 3 0,
 zO 4 (.eqv false 2 (.t 3) (.k (.val (.pointer none))))])
 (.cond (.t 4) (.seq (.ops [zO 2 (.mv (.k (.val (.slice none 0 0))))])
 (.ret)) (.skip)))
 (.seq (.ops [zO 5 (.bsliceI 5 .u8 0 []),
 zM 6 0,
 zO 7 (.nilchk (.t 6)),
 zO 8 (.fadr 0 (.t 7)),
 zO 9 (.load1 (.t 8)),
 zO 10 (.appI 5 .u8 1 (.t 5) (.t 9)),
 zM 2 10])
 (.ret)))
theorem fn97 : FnOk Try.prog 97 x97 11 [2] := FnOk.of Try.call97 Try.func97 (by kernel_rfl) Try.ntmps97 (by kernel_rfl)
def x98 : XC :=
 .seq (.ops [zO 5 (.load1 (.t 1)),
 zO 6 (.mv (.k (.lit .i64 0)))])
 (.block 0 (.loop (.seq (.ops [zO 7 (.cmp .lss (.t 6) (.t 5))])
 (.seq (.cond (.t 7) (.skip) (.exit 0))
 (.seq (.block 1 (.seq (.ops [zM 8 6,
 zM 4 8])
 (.seq (.ops [zM 9 0,
 zM 10 4,
 zO 11 (.load1 (.t 2)),
 zM 12 4,
 zO 13 (.conv .u64 (.t 12)),
 zO 14 (.bin .shr .u64 (.t 11) (.t 13)),
 zO 15 (.bin .and .u64 (.t 14) (.k (.lit .u64 1))),
 zO 16 (.conv .u8 (.t 15)),
 zO 17 (.call (.t 9) [(.t 10), (.t 16)]),
 zO 18 (.not (.t 17))])
 (.cond (.t 18) (.ret) (.skip)))))
 (.ops [zO 19 (.bin .add .i64 (.t 6) (.k (.lit .i64 1))),
 zM 6 19]))))))
theorem fn98 : FnOk Try.prog 98 x98 20 [] := FnOk.of Try.call98 Try.func98 (by kernel_rfl) Try.ntmps98 (by kernel_rfl)
def x99 : XC :=
 .seq (.ops [zO 2 (.mv (.k (.val (.pointer none))))])
 (.seq (.ops [zO 5 (.bsliceI 5 .u8 0 []),
 zM 6 0,
 zO 7 (.appI 5 .u8 1 (.t 5) (.t 6)),
 zO 3 (.newR 25 [(.val (.slice none 0 0))]),
 ⟨none, .store1 (.t 3) (.t 7), none, []⟩])
 (.seq (.ops [zO 4 (.newR 3 [(.lit .i64 0)]),
 ⟨none, .store1 (.t 4) (.k (.lit .i64 0)), none, []⟩])
 (.seq (.ops [zO 8 (.mkfn 121 [(.t 4), (.t 3)]),
 zO 9 (.mkfn 122 [(.t 3), (.t 4)]),
 zO 10 (.build [(.val .nilFunc), (.lit .u64 0), (.lit .i64 0), (.val .nilFunc)] [⟨0, 1, (.t 8)⟩, ⟨3, 1, (.t 9)⟩]),
 zO 11 (.box 215 none (.t 10)),
 zM 2 11])
 (.ret))))
theorem fn99 : FnOk Try.prog 99 x99 12 [2] := FnOk.of Try.call99 Try.func99 (by kernel_rfl) Try.ntmps99 (by kernel_rfl)
def x100 : XC :=
 .seq (.ops [zO 4 (.mv (.k (.lit .u64 0))),
 zO 5 (.mv (.k (.lit .i64 0)))])
 (.seq (.block 0 (.seq (.ops [zM 8 0,
 zO 9 (.eqv false 2 (.t 8) (.k (.val (.pointer none)))),
 zM 7 9])
 (.cond (.t 7) (.seq (.ops [zO 4 (.mv (.k (.lit .u64 0))),
 zO 5 (.mv (.k (.lit .i64 1)))])
 (.ret)) (.seq (.ops [zM 11 1,
 zO 12 (.cmp .lss (.t 11) (.k (.lit .i64 0))),
 zM 13 12,
 ⟨some 14, .mv (.t 1), some (13, false), []⟩,
 ⟨some 15, .cmp .gtr (.t 14) (.k (.lit .i64 56)), some (13, false), []⟩,
 zO 16 (.pick (.t 13) (.k (.bool true)) (.t 15)),
 zM 10 16])
 (.cond (.t 10) (.seq (.ops [zO 4 (.mv (.k (.lit .u64 0))),
 zO 5 (.mv (.k (.lit .i64 2)))])
 (.ret)) (.seq (.ops [zM 18 0,
 zM 19 1,
 zO 20 (.call (.k (.fn 123 [])) [(.t 18), (.t 19)]),
 zO 21 (.not (.t 20)),
 zM 17 21])
 (.cond (.t 17) (.seq (.ops [zO 4 (.mv (.k (.lit .u64 0))),
 zO 5 (.mv (.k (.lit .i64 10)))])
 (.ret)) (.skip))))))))
 (.seq (.ops [zM 22 0,
 zO 23 (.nilchk (.t 22)),
 zO 24 (.fadr 1 (.t 23)),
 zO 25 (.load1 (.t 24)),
 zM 26 1,
 zO 27 (.conv .u64 (.t 26)),
 zO 28 (.bin .shl .u64 (.k (.lit .u64 1)) (.t 27)),
 zO 29 (.bin .sub .u64 (.t 28) (.k (.lit .u64 1))),
 zO 30 (.bin .and .u64 (.t 25) (.t 29)),
 zM 6 30])
 (.seq (.ops [zM 31 0,
 zO 32 (.nilchk (.t 31)),
 zO 33 (.fadr 1 (.t 32)),
 zO 34 (.load1 (.t 33)),
 zM 35 1,
 zO 36 (.conv .u64 (.t 35)),
 zO 37 (.bin .shr .u64 (.t 34) (.t 36)),
 zO 38 (.nilchk (.t 31)),
 zO 39 (.fadr 1 (.t 38)),
 ⟨none, .store1 (.t 39) (.t 37), none, []⟩])
 (.seq (.ops [zM 40 0,
 zO 41 (.nilchk (.t 40)),
 zO 42 (.fadr 2 (.t 41)),
 zO 43 (.load1 (.t 42)),
 zM 44 1,
 zO 45 (.bin .sub .i64 (.t 43) (.t 44)),
 zO 46 (.nilchk (.t 40)),
 zO 47 (.fadr 2 (.t 46)),
 ⟨none, .store1 (.t 47) (.t 45), none, []⟩])
 (.seq (.ops [zM 48 6,
 zM 4 48,
 zO 5 (.mv (.k (.lit .i64 0)))])
 (.ret))))))
theorem fn100 : FnOk Try.prog 100 x100 49 [4, 5] := FnOk.of Try.call100 Try.func100 (by kernel_rfl) Try.ntmps100 (by kernel_rfl)
def x101 : XC :=
 .seq (.ops [zO 2 (.mv (.k (.lit .i64 0)))])
 (.seq (.seq (.ops [zM 3 0,
 zO 4 (.eqv false 2 (.t 3) (.k (.val (.pointer none))))])
 (.cond (.t 4) (.seq (.ops [zO 2 (.mv (.k (.lit .i64 0)))])
 (.ret)) (.skip)))
 (.seq (.ops [zM 5 0,
 zO 6 (.nilchk (.t 5)),
 zO 7 (.fadr 2 (.t 6)),
 zO 8 (.load1 (.t 7)),
 zM 9 0,
 zO 10 (.nilchk (.t 9)),
 zO 11 (.fadr 3 (.t 10)),
 zO 12 (.load1 (.t 11)),
 ⟨some 13, .call (.t 12) [], none, [(.load1 (.t 7), 8, none)]⟩,
 zO 14 (.bin .add .i64 (.t 8) (.t 13)),
 zM 2 14])
 (.ret)))
theorem fn101 : FnOk Try.prog 101 x101 15 [2] := FnOk.of Try.call101 Try.func101 (by kernel_rfl) Try.ntmps101 (by kernel_rfl)
def x106 : XC :=
 .seq (.ops [zO 2 (.mv (.k (.lit .i64 0)))])
 (.seq (.seq (.ops [zM 3 0,
 zO 4 (.cmp .geq (.t 3) (.k (.lit .u64 4294967296)))])
 (.cond (.t 4) (.seq (.ops [zM 5 0,
 zO 6 (.bin .shr .u64 (.t 5) (.k (.lit .u64 32))),
 zM 0 6])
 (.ops [zO 2 (.mv (.k (.lit .i64 32)))])) (.skip)))
 (.seq (.seq (.ops [zM 7 0,
 zO 8 (.cmp .geq (.t 7) (.k (.lit .u64 65536)))])
 (.cond (.t 8) (.seq (.ops [zM 9 0,
 zO 10 (.bin .shr .u64 (.t 9) (.k (.lit .u64 16))),
 zM 0 10])
 (.ops [zM 11 2,
 zO 12 (.bin .add .i64 (.t 11) (.k (.lit .i64 16))),
 zM 2 12])) (.skip)))
 (.seq (.seq (.ops [zM 13 0,
 zO 14 (.cmp .geq (.t 13) (.k (.lit .u64 256)))])
 (.cond (.t 14) (.seq (.ops [zM 15 0,
 zO 16 (.bin .shr .u64 (.t 15) (.k (.lit .u64 8))),
 zM 0 16])
 (.ops [zM 17 2,
 zO 18 (.bin .add .i64 (.t 17) (.k (.lit .i64 8))),
 zM 2 18])) (.skip)))
 (.seq (.ops [zM 19 2,
 zM 20 0,
 zO 21 (.conv .u8 (.t 20)),
 zO 22 (.idxS (.k (.str [0, 1, 2, 2, 3, 3, 3, 3, 4, 4, 4, 4, 4, 4, 4, 4, 5, 5, 5, 5, 5, 5, 5, 5, 5, 5, 5, 5, 5, 5, 5, 5, 6, 6, 6, 6, 6, 6, 6, 6, 6, 6, 6, 6, 6, 6, 6, 6, 6, 6, 6, 6, 6, 6, 6, 6, 6, 6, 6, 6, 6, 6, 6, 6, 7, 7, 7, 7, 7, 7, 7, 7, 7, 7, 7, 7, 7, 7, 7, 7, 7, 7, 7, 7, 7, 7, 7, 7, 7, 7, 7, 7, 7, 7, 7, 7, 7, 7, 7, 7, 7, 7, 7, 7, 7, 7, 7, 7, 7, 7, 7, 7, 7, 7, 7, 7, 7, 7, 7, 7, 7, 7, 7, 7, 7, 7, 7, 7, 8, 8, 8, 8, 8, 8, 8, 8, 8, 8, 8, 8, 8, 8, 8, 8, 8, 8, 8, 8, 8, 8, 8, 8, 8, 8, 8, 8, 8, 8, 8, 8, 8, 8, 8, 8, 8, 8, 8, 8, 8, 8, 8, 8, 8, 8, 8, 8, 8, 8, 8, 8, 8, 8, 8, 8, 8, 8, 8, 8, 8, 8, 8, 8, 8, 8, 8, 8, 8, 8, 8, 8, 8, 8, 8, 8, 8, 8, 8, 8, 8, 8, 8, 8, 8, 8, 8, 8, 8, 8, 8, 8, 8, 8, 8, 8, 8, 8, 8, 8, 8, 8, 8, 8, 8, 8, 8, 8, 8, 8, 8, 8, 8, 8, 8, 8, 8, 8, 8, 8, 8, 8, 8, 8, 8, 8, 8, 8])) (.t 21)),
 zO 23 (.conv .i64 (.t 22)),
 zO 24 (.bin .add .i64 (.t 19) (.t 23)),
 zM 2 24])
 (.ret)))))
theorem fn106 : FnOk Try.prog 106 x106 25 [2] := FnOk.of Try.call106 Try.func106 (by kernel_rfl) Try.ntmps106 (by kernel_rfl)
def x119 : XC :=
 .seq (.ops [zO 4 (.mv (.k (.lit .i64 0)))])
 (.seq (.ops [zO 5 (.load1 (.t 1)),
 zO 6 (.mv (.k (.lit .i64 0)))])
 (.block 0 (.loop (.seq (.ops [zO 7 (.cmp .lss (.t 6) (.t 5))])
 (.seq (.cond (.t 7) (.skip) (.exit 0))
 (.seq (.block 1 (.seq (.seq (.ops [zM 8 0,
 zM 9 4,
 zO 10 (.call (.t 8) [(.t 9)]),
 zO 11 (.not (.t 10))])
 (.cond (.t 11) (.ret) (.skip)))
 (.seq (.ops [zM 12 4,
 zO 13 (.load1 (.t 2)),
 zO 14 (.bin .quo .i64 (.t 13) (.k (.lit .i64 2))),
 zO 15 (.bin .add .i64 (.t 12) (.t 14)),
 zO 16 (.load1 (.t 2)),
 zO 17 (.bin .quo .i64 (.t 16) (.k (.lit .i64 8))),
 zO 18 (.bin .add .i64 (.t 15) (.t 17)),
 zO 19 (.bin .add .i64 (.t 18) (.k (.lit .i64 3))),
 zO 20 (.load1 (.t 2)),
 zO 21 (.bin .rem .i64 (.t 19) (.t 20)),
 zM 4 21])
 (.block 2 (.loop (.seq (.seq (.ops [zM 22 4,
 zO 23 (.load1 (.t 1)),
 zO 24 (.cmp .geq (.t 22) (.t 23))])
 (.cond (.t 24) (.skip) (.exit 2)))
 (.seq (.block 3 (.seq (.ops [zO 35 (.load1 (.t 1)),
 zO 36 (.cmp .eql (.t 35) (.k (.lit .i64 0)))])
 (.cond (.t 36) (.ret) (.skip))))
 (.ops [zM 25 4,
 zO 26 (.load1 (.t 2)),
 zO 27 (.bin .quo .i64 (.t 26) (.k (.lit .i64 2))),
 zO 28 (.bin .add .i64 (.t 25) (.t 27)),
 zO 29 (.load1 (.t 2)),
 zO 30 (.bin .quo .i64 (.t 29) (.k (.lit .i64 8))),
 zO 31 (.bin .add .i64 (.t 28) (.t 30)),
 zO 32 (.bin .add .i64 (.t 31) (.k (.lit .i64 3))),
 zO 33 (.load1 (.t 2)),
 zO 34 (.bin .rem .i64 (.t 32) (.t 33)),
 zM 4 34]))))))))
 (.ops [zO 37 (.bin .add .i64 (.t 6) (.k (.lit .i64 1))),
 zM 6 37])))))))
theorem fn119 : FnOk Try.prog 119 x119 38 [] := FnOk.of Try.call119 Try.func119 (by kernel_rfl) Try.ntmps119 (by kernel_rfl)
def x120 : XC :=
 .seq (.ops [zO 2 (.box 76 none (.t 0)),
 zO 3 (.box 3 none (.t 1)),
 zO 4 (.mv (.k (.val .nilFunc)))])
 (.seq (.ops [zO 5 (.mkfn 133 [(.t 3), (.t 2)]),
 zM 4 5])
 (.ret))
theorem fn120 : FnOk Try.prog 120 x120 6 [4] := FnOk.of Try.call120 Try.func120 (by kernel_rfl) Try.ntmps120 (by kernel_rfl)
def x121 : XC :=
 .seq (.ops [zO 2 (.mv (.k (.lit .u8 0))),
 zO 3 (.mv (.k (.bool false)))])
 (.seq (.seq (.ops [zO 4 (.load1 (.t 0)),
 zO 5 (.load1 (.t 1)),
 zO 6 (.len (.t 5)),
 zO 7 (.cmp .geq (.t 4) (.t 6))])
 (.cond (.t 7) (.seq (.ops [zO 2 (.mv (.k (.lit .u8 0))),
 zO 3 (.mv (.k (.bool false)))])
 (.ret)) (.skip)))
 (.seq (.ops [zO 8 (.load1 (.t 0)),
 zO 9 (.bin .add .i64 (.t 8) (.k (.lit .i64 1))),
 ⟨none, .store1 (.t 0) (.t 9), none, []⟩])
 (.seq (.ops [zO 10 (.load1 (.t 1)),
 zO 11 (.load1 (.t 0)),
 zO 12 (.bin .sub .i64 (.t 11) (.k (.lit .i64 1))),
 zO 13 (.iadr 1 (.t 10) (.t 12)),
 zO 14 (.load1 (.t 13)),
 zM 2 14,
 zO 3 (.mv (.k (.bool true)))])
 (.ret))))
theorem fn121 : FnOk Try.prog 121 x121 15 [2, 3] := FnOk.of Try.call121 Try.func121 (by kernel_rfl) Try.ntmps121 (by kernel_rfl)
def x122 : XC :=
 .seq (.ops [zO 2 (.mv (.k (.lit .i64 0)))])
 (.seq (.ops [zO 3 (.load1 (.t 0)),
 zO 4 (.len (.t 3)),
 zO 5 (.load1 (.t 1)),
 zO 6 (.bin .sub .i64 (.t 4) (.t 5)),
 zO 7 (.bin .mul .i64 (.k (.lit .i64 8)) (.t 6)),
 zM 2 7])
 (.ret))
theorem fn122 : FnOk Try.prog 122 x122 8 [2] := FnOk.of Try.call122 Try.func122 (by kernel_rfl) Try.ntmps122 (by kernel_rfl)
def x123 : XC :=
 .seq (.ops [zO 4 (.mv (.k (.bool false)))])
 (.seq (.block 0 (.loop (.seq (.seq (.ops [zM 7 0,
 zO 8 (.nilchk (.t 7)),
 zO 9 (.fadr 2 (.t 8)),
 zO 10 (.load1 (.t 9)),
 zM 11 1,
 zO 12 (.cmp .lss (.t 10) (.t 11))])
 (.cond (.t 12) (.skip) (.exit 0)))
 (.block 1 (.seq (.ops [zM 14 0,
 zO 15 (.nilchk (.t 14)),
 zO 16 (.fadr 0 (.t 15)),
 zO 17 (.load1 (.t 16)),
 zO 18 (.call (.t 17) []),
 zM 13 18,
 zO 19 (.extract (.t 13) 0),
 zO 20 (.extract (.t 13) 1),
 zM 5 19,
 zM 6 20])
 (.seq (.seq (.ops [zM 21 6,
 zO 22 (.not (.t 21))])
 (.cond (.t 22) (.seq (.ops [zO 4 (.mv (.k (.bool false)))])
 (.ret)) (.skip)))
 (.seq (.ops [zM 23 0,
 zO 24 (.nilchk (.t 23)),
 zO 25 (.fadr 1 (.t 24)),
 zO 26 (.load1 (.t 25)),
 zM 27 5,
 zO 28 (.conv .u64 (.t 27)),
 zM 29 0,
 zO 30 (.nilchk (.t 29)),
 zO 31 (.fadr 2 (.t 30)),
 zO 32 (.load1 (.t 31)),
 zO 33 (.conv .u64 (.t 32)),
 zO 34 (.bin .shl .u64 (.t 28) (.t 33)),
 zO 35 (.bin .or .u64 (.t 26) (.t 34)),
 zO 36 (.nilchk (.t 23)),
 zO 37 (.fadr 1 (.t 36)),
 ⟨none, .store1 (.t 37) (.t 35), none, []⟩])
 (.ops [zM 38 0,
 zO 39 (.nilchk (.t 38)),
 zO 40 (.fadr 2 (.t 39)),
 zO 41 (.load1 (.t 40)),
 zO 42 (.bin .add .i64 (.t 41) (.k (.lit .i64 8))),
 zO 43 (.nilchk (.t 38)),
 zO 44 (.fadr 2 (.t 43)),
 ⟨none, .store1 (.t 44) (.t 42), none, []⟩]))))))))
 (.seq (.ops [zO 4 (.mv (.k (.bool true)))])
 (.ret)))
theorem fn123 : FnOk Try.prog 123 x123 45 [4] := FnOk.of Try.call123 Try.func123 (by kernel_rfl) Try.ntmps123 (by kernel_rfl)
def x133 : XC :=
 .block 0 (.loop (.seq (.seq (.ops [zO 4 (.load1 (.t 1)),
 zO 5 (.cmp .gtr (.t 4) (.k (.lit .i64 0)))])
 (.cond (.t 5) (.skip) (.exit 0)))
 (.seq (.block 1 (.seq (.seq (.ops [zM 8 0,
 zO 9 (.load1 (.t 2)),
 zO 10 (.bin .and .u64 (.t 9) (.k (.lit .u64 1))),
 zO 11 (.conv .u8 (.t 10)),
 zO 12 (.call (.t 8) [(.t 11)]),
 zO 13 (.not (.t 12))])
 (.cond (.t 13) (.ret) (.skip)))
 (.ops [zO 14 (.load1 (.t 2)),
 zO 15 (.bin .shr .u64 (.t 14) (.k (.lit .u64 1))),
 ⟨none, .store1 (.t 2) (.t 15), none, []⟩])))
 (.ops [zO 6 (.load1 (.t 1)),
 zO 7 (.bin .sub .i64 (.t 6) (.k (.lit .i64 1))),
 ⟨none, .store1 (.t 1) (.t 7), none, []⟩]))))
theorem fn133 : FnOk Try.prog 133 x133 16 [] := FnOk.of Try.call133 Try.func133 (by kernel_rfl) Try.ntmps133 (by kernel_rfl)
end Go.Proofs.Ytlclleihoampdaa
