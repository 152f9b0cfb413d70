/-
  Part 7 of the texts behind a statement of this seat: DN.
-/
import Derived.Test.YthplaillblmgfaaDoorProg
import Derived.KernelRfl
import Derived.Test.YthplaillblmgfaaDoorPlain6
namespace Go.Proofs.YthplaillblmgfaaDoor
open Go.Sim
variable (P : Program) (K : VK)
/-! F8: pommel/pommellaw08.MarkPlain -/
noncomputable def c8z11 : ICode := .seq (.seq (.ops none [⟨(some 29), .p (.mv (.tmp 10))⟩,
 ⟨(some 30), .p (.mv (.tmp 3))⟩,
 ⟨(some 31), .p (.lenSl (.tmp 30))⟩,
 ⟨(some 32), .p (.bin .lss (.tmp 29) (.tmp 31))⟩])
 (.cond (.tmp 32) (.skip)
 (.exit 0)))
 (.seq (.block 1 (.seq (.ops none [⟨(some 35), .p (.mv (.tmp 8))⟩,
 ⟨(some 36), .p (.mv (.tmp 3))⟩,
 ⟨(some 37), .p (.mv (.tmp 10))⟩,
 ⟨(some 38), .p (.adrSl 1 (.tmp 36) (.tmp 37))⟩,
 ⟨(some 39), .l (.load false 1 (.tmp 38))⟩,
 ⟨(some 40), .p (.lenS (.tmp 39))⟩,
 ⟨(some 41), .e (.mkSl 3 1 [(.int .i64 (0))] [(0, 1, (.tmp 40))])⟩,
 ⟨(some 42), .e (.app 3 1 8 (.tmp 35) (.tmp 41))⟩,
 ⟨(some 8), .p (.mv (.tmp 42))⟩])
 (.dops [(none, [⟨(some 43), .p (.mv (.tmp 9)), 0⟩,
 ⟨(some 44), .p (.mv (.tmp 43)), 1⟩]),
 ((some (44, true)), [⟨(some 45), .p (.mv (.tmp 10)), 3⟩,
 ⟨(some 46), .p (.bin .eql (.tmp 45) (.const (.int .i64 (0)))), 7⟩,
 ⟨(some 47), .p (.mv (.tmp 46)), 15⟩]),
 ((some (47, false)), [⟨(some 48), .p (.mv (.tmp 3)), 31⟩,
 ⟨(some 49), .p (.mv (.tmp 10)), 31⟩,
 ⟨(some 50), .p (.bin .sub (.tmp 49) (.const (.int .i64 (1)))), 95⟩,
 ⟨(some 51), .p (.adrSl 1 (.tmp 48) (.tmp 50)), 255⟩,
 ⟨(some 52), .l (.load false 1 (.tmp 51)), 511⟩,
 ⟨(some 53), .p (.mv (.tmp 3)), 31⟩,
 ⟨(some 54), .p (.mv (.tmp 10)), 31⟩,
 ⟨(some 55), .p (.adrSl 1 (.tmp 53) (.tmp 54)), 3103⟩,
 ⟨(some 56), .l (.load false 1 (.tmp 55)), 7199⟩,
 ⟨(some 57), .p (.bin .lss (.tmp 52) (.tmp 56)), 16383⟩]),
 ((some (44, true)), [⟨(some 58), .p (.pick (.tmp 47) (.const (.bool true)) (.tmp 57)), 32767⟩]),
 (none, [⟨(some 59), .p (.pick (.tmp 44) (.tmp 58) (.const (.bool false))), 65535⟩,
 ⟨(some 9), .p (.mv (.tmp 59)), 131071⟩])])))
 (.ops none [⟨(some 33), .p (.mv (.tmp 10))⟩,
 ⟨(some 34), .p (.bin .add (.tmp 33) (.const (.int .i64 (1))))⟩,
 ⟨(some 10), .p (.mv (.tmp 34))⟩]))
noncomputable def c8z36 : ICode := .ops none [⟨(some 86), .p (.pick (.tmp 66) (.tmp 85) (.const (.bool false)))⟩]
noncomputable def c8z34 : ICode := .seq (.ops (some (66, true)) [⟨(some 85), .p (.pick (.tmp 79) (.const (.bool true)) (.tmp 84))⟩])
 (.cut [4, 6, 7, 11, 66, 85] c8z36)
noncomputable def c8z32 : ICode := .seq (.ops (some (79, false)) [⟨(some 80), .p (.mv (.tmp 11))⟩,
 ⟨(some 81), .call 26 [(.tmp 80)]⟩,
 ⟨(some 82), .p (.mv (.tmp 8))⟩,
 ⟨(some 83), .call 15 [(.tmp 81), (.tmp 82)]⟩,
 ⟨(some 84), .p (.un .not (.tmp 83))⟩])
 (.cut [4, 6, 7, 11, 66, 79, 84] c8z34)
noncomputable def c8z30 : ICode := .seq (.ops (some (66, true)) [⟨(some 78), .p (.pick (.tmp 74) (.const (.bool true)) (.tmp 77))⟩,
 ⟨(some 79), .p (.mv (.tmp 78))⟩])
 (.cut [4, 6, 7, 8, 11, 66, 79] c8z32)
noncomputable def c8z28 : ICode := .seq (.ops (some (74, false)) [⟨(some 75), .p (.mv (.tmp 11))⟩,
 ⟨(some 76), .call 22 [(.tmp 75)]⟩,
 ⟨(some 77), .p (.eqnil true (.tmp 76) (.const (.slice none 0 0)))⟩])
 (.cut [4, 6, 7, 8, 11, 66, 74, 77] c8z30)
noncomputable def c8z26 : ICode := .seq (.ops (some (66, true)) [⟨(some 73), .p (.pick (.tmp 69) (.const (.bool true)) (.tmp 72))⟩,
 ⟨(some 74), .p (.mv (.tmp 73))⟩])
 (.cut [4, 6, 7, 8, 11, 66, 74] c8z28)
noncomputable def c8z24 : ICode := .seq (.ops (some (69, false)) [⟨(some 70), .p (.mv (.tmp 11))⟩,
 ⟨(some 71), .call 21 [(.tmp 70)]⟩,
 ⟨(some 72), .p (.bin .neq (.tmp 71) (.const (.int .i64 (0))))⟩])
 (.cut [4, 6, 7, 8, 11, 66, 69, 72] c8z26)
noncomputable def c8z22 : ICode := .seq (.ops (some (66, true)) [⟨(some 67), .p (.mv (.tmp 12))⟩,
 ⟨(some 68), .p (.bin .neq (.tmp 67) (.const (.int .i64 (0))))⟩,
 ⟨(some 69), .p (.mv (.tmp 68))⟩])
 (.cut [4, 6, 7, 8, 11, 66, 69] c8z24)
noncomputable def c8z20 : ICode := .cond (.tmp 86) (.seq (.ops none [⟨(some 2), .p (.mv (.const (.bool false)))⟩])
 (.ret))
 (.skip)
noncomputable def c8z41 : ICode := .seq (.seq (.ops none [⟨(some 87), .p (.mv (.tmp 13))⟩,
 ⟨(some 88), .p (.mv (.tmp 11))⟩,
 ⟨(some 89), .p (.lenSl (.tmp 88))⟩,
 ⟨(some 90), .p (.bin .lss (.tmp 87) (.tmp 89))⟩])
 (.cond (.tmp 90) (.skip)
 (.exit 2)))
 (.seq (.block 3 (.seq (.dops [(none, [⟨(some 93), .p (.mv (.tmp 11)), 0⟩,
 ⟨(some 94), .p (.mv (.tmp 13)), 0⟩,
 ⟨(some 95), .p (.bin .sub (.tmp 94) (.const (.int .i64 (1)))), 2⟩,
 ⟨(some 96), .p (.adrSl 1 (.tmp 93) (.tmp 95)), 7⟩,
 ⟨(some 97), .l (.load false 1 (.tmp 96)), 15⟩,
 ⟨(some 98), .p (.mv (.tmp 11)), 0⟩,
 ⟨(some 99), .p (.mv (.tmp 13)), 0⟩,
 ⟨(some 100), .p (.adrSl 1 (.tmp 98) (.tmp 99)), 96⟩,
 ⟨(some 101), .l (.load false 1 (.tmp 100)), 224⟩,
 ⟨(some 102), .p (.bin .geq (.tmp 97) (.tmp 101)), 511⟩])])
 (.cond (.tmp 102) (.seq (.ops none [⟨(some 2), .p (.mv (.const (.bool false)))⟩])
 (.ret))
 (.skip))))
 (.ops none [⟨(some 91), .p (.mv (.tmp 13))⟩,
 ⟨(some 92), .p (.bin .add (.tmp 91) (.const (.int .i64 (1))))⟩,
 ⟨(some 13), .p (.mv (.tmp 92))⟩]))
noncomputable def c8z61 : ICode := .ops none [⟨(some 116), .p (.pick (.tmp 114) (.tmp 115) (.const (.bool false)))⟩,
 ⟨(some 2), .p (.mv (.tmp 116))⟩]
noncomputable def c8z59 : ICode := .seq (.ops (some (114, true)) [⟨(some 115), .call 13 []⟩])
 (.cut [114, 115] c8z61)
noncomputable def c8z57 : ICode := .seq (.ops none [⟨(some 113), .p (.pick (.tmp 109) (.tmp 112) (.const (.bool false)))⟩,
 ⟨(some 114), .p (.mv (.tmp 113))⟩])
 (.cut [114] c8z59)
noncomputable def c8z55 : ICode := .seq (.ops (some (109, true)) [⟨(some 110), .p (.mv (.tmp 4))⟩,
 ⟨(some 111), .p (.lenSl (.tmp 110))⟩,
 ⟨(some 112), .p (.bin .eql (.tmp 111) (.const (.int .i64 (0))))⟩])
 (.cut [109, 112] c8z57)
noncomputable def c8z53 : ICode := .seq (.ops none [⟨(some 108), .p (.pick (.tmp 105) (.tmp 107) (.const (.bool false)))⟩,
 ⟨(some 109), .p (.mv (.tmp 108))⟩])
 (.cut [4, 109] c8z55)
noncomputable def c8z51 : ICode := .seq (.ops (some (105, true)) [⟨(some 106), .p (.mv (.tmp 6))⟩,
 ⟨(some 107), .p (.bin .eql (.tmp 106) (.const (.string ⟨#[]⟩)))⟩])
 (.cut [4, 105, 107] c8z53)
noncomputable def c8z49 : ICode := .ret
noncomputable def c8z48 : ICode := .seq (.seq (.ops none [⟨(some 103), .p (.mv (.tmp 7))⟩,
 ⟨(some 104), .p (.bin .eql (.tmp 103) (.const (.int .i64 (5))))⟩,
 ⟨(some 105), .p (.mv (.tmp 104))⟩])
 (.cut [4, 6, 105] c8z51)) c8z49
noncomputable def c8z38 : ICode := .cut [4, 6, 7] c8z48
noncomputable def c8z19 : ICode := .seq (.seq (.ops none [⟨(some 13), .p (.mv (.const (.int .i64 (1))))⟩])
 (.block 2 (.loop [4, 6, 7, 11] [13] c8z41))) c8z38
noncomputable def c8z17 : ICode := .seq (.ops none [⟨(some 61), .p (.mv (.tmp 8))⟩,
 ⟨(some 62), .call 25 [(.tmp 61)]⟩,
 ⟨(some 60), .p (.mv (.tmp 62))⟩,
 ⟨(some 63), .p (.ext (.tmp 60) 0)⟩,
 ⟨(some 64), .p (.ext (.tmp 60) 1)⟩,
 ⟨(some 11), .p (.mv (.tmp 63))⟩,
 ⟨(some 12), .p (.mv (.tmp 64))⟩])
 (.seq (.seq (.seq (.ops none [⟨(some 65), .p (.mv (.tmp 9))⟩,
 ⟨(some 66), .p (.mv (.tmp 65))⟩])
 (.cut [4, 6, 7, 8, 11, 12, 66] c8z22)) c8z20) c8z19)
noncomputable def c8z8 : ICode := .cut [4, 6, 7, 8, 9] c8z17
noncomputable def c8z62 : ICode := .seq (.dops [(none, [⟨(some 117), .p (.mv (.tmp 5)), 0⟩,
 ⟨(some 118), .p (.bin .eql (.tmp 117) (.const (.int .i64 (0)))), 1⟩,
 ⟨(some 119), .p (.mv (.tmp 118)), 3⟩]),
 ((some (119, true)), [⟨(some 120), .p (.mv (.tmp 4)), 7⟩,
 ⟨(some 121), .p (.lenSl (.tmp 120)), 15⟩,
 ⟨(some 122), .p (.bin .eql (.tmp 121) (.const (.int .i64 (2)))), 31⟩]),
 (none, [⟨(some 123), .p (.pick (.tmp 119) (.tmp 122) (.const (.bool false))), 63⟩,
 ⟨(some 124), .p (.mv (.tmp 123)), 127⟩]),
 ((some (124, true)), [⟨(some 125), .p (.mv (.tmp 4)), 255⟩,
 ⟨(some 126), .p (.adrSl 1 (.tmp 125) (.const (.int .i64 (0)))), 511⟩,
 ⟨(some 127), .l (.load false 1 (.tmp 126)), 1023⟩,
 ⟨(some 128), .p (.bin .geq (.tmp 127) (.const (.int .i64 (0)))), 2047⟩]),
 (none, [⟨(some 129), .p (.pick (.tmp 124) (.tmp 128) (.const (.bool false))), 4095⟩,
 ⟨(some 130), .p (.mv (.tmp 129)), 8191⟩]),
 ((some (130, true)), [⟨(some 131), .p (.mv (.tmp 4)), 16383⟩,
 ⟨(some 132), .p (.adrSl 1 (.tmp 131) (.const (.int .i64 (0)))), 32767⟩,
 ⟨(some 133), .l (.load false 1 (.tmp 132)), 65535⟩,
 ⟨(some 134), .p (.mv (.tmp 3)), 16383⟩,
 ⟨(some 135), .p (.lenSl (.tmp 134)), 147455⟩,
 ⟨(some 136), .p (.bin .lss (.tmp 133) (.tmp 135)), 524287⟩]),
 (none, [⟨(some 137), .p (.pick (.tmp 130) (.tmp 136) (.const (.bool false))), 1048575⟩,
 ⟨(some 138), .p (.mv (.tmp 137)), 2097151⟩]),
 ((some (138, true)), [⟨(some 139), .p (.mv (.tmp 4)), 4194303⟩,
 ⟨(some 140), .p (.adrSl 1 (.tmp 139) (.const (.int .i64 (1)))), 8388607⟩,
 ⟨(some 141), .l (.load false 1 (.tmp 140)), 16777215⟩,
 ⟨(some 142), .p (.bin .geq (.tmp 141) (.const (.int .i64 (0)))), 33554431⟩]),
 (none, [⟨(some 143), .p (.pick (.tmp 138) (.tmp 142) (.const (.bool false))), 67108863⟩,
 ⟨(some 144), .p (.mv (.tmp 143)), 134217727⟩]),
 ((some (144, true)), [⟨(some 145), .p (.mv (.tmp 4)), 268435455⟩,
 ⟨(some 146), .p (.adrSl 1 (.tmp 145) (.const (.int .i64 (1)))), 536870911⟩,
 ⟨(some 147), .l (.load false 1 (.tmp 146)), 1073741823⟩,
 ⟨(some 148), .p (.mv (.tmp 3)), 268435455⟩,
 ⟨(some 149), .p (.lenSl (.tmp 148)), 2415919103⟩,
 ⟨(some 150), .p (.bin .lss (.tmp 147) (.tmp 149)), 8589934591⟩]),
 (none, [⟨(some 151), .p (.pick (.tmp 144) (.tmp 150) (.const (.bool false))), 17179869183⟩,
 ⟨(some 152), .p (.mv (.tmp 151)), 34359738367⟩]),
 ((some (152, true)), [⟨(some 153), .p (.mv (.tmp 4)), 68719476735⟩,
 ⟨(some 154), .p (.adrSl 1 (.tmp 153) (.const (.int .i64 (0)))), 137438953471⟩,
 ⟨(some 155), .l (.load false 1 (.tmp 154)), 274877906943⟩,
 ⟨(some 156), .p (.mv (.tmp 4)), 68719476735⟩,
 ⟨(some 157), .p (.adrSl 1 (.tmp 156) (.const (.int .i64 (1)))), 618475290623⟩,
 ⟨(some 158), .l (.load false 1 (.tmp 157)), 1717986918399⟩,
 ⟨(some 159), .p (.bin .neq (.tmp 155) (.tmp 158)), 4398046511103⟩]),
 (none, [⟨(some 160), .p (.pick (.tmp 152) (.tmp 159) (.const (.bool false))), 8796093022207⟩,
 ⟨(some 161), .p (.mv (.tmp 160)), 17592186044415⟩]),
 ((some (161, true)), [⟨(some 162), .p (.mv (.tmp 3)), 35184372088831⟩,
 ⟨(some 163), .p (.mv (.tmp 4)), 35184372088831⟩,
 ⟨(some 164), .p (.adrSl 1 (.tmp 163) (.const (.int .i64 (0)))), 105553116266495⟩,
 ⟨(some 165), .l (.load false 1 (.tmp 164)), 246290604621823⟩,
 ⟨(some 166), .p (.adrSl 1 (.tmp 162) (.tmp 165)), 562949953421311⟩,
 ⟨(some 167), .l (.load false 1 (.tmp 166)), 1125899906842623⟩,
 ⟨(some 168), .p (.lenS (.tmp 167)), 2251799813685247⟩,
 ⟨(some 169), .p (.mv (.tmp 3)), 35184372088831⟩,
 ⟨(some 170), .p (.mv (.tmp 4)), 35184372088831⟩,
 ⟨(some 171), .p (.adrSl 1 (.tmp 170) (.const (.int .i64 (1)))), 9042383626829823⟩,
 ⟨(some 172), .l (.load false 1 (.tmp 171)), 27056782136311807⟩,
 ⟨(some 173), .p (.adrSl 1 (.tmp 169) (.tmp 172)), 67589178782646271⟩,
 ⟨(some 174), .l (.load false 1 (.tmp 173)), 139646772820574207⟩,
 ⟨(some 175), .p (.lenS (.tmp 174)), 283761960896430079⟩,
 ⟨(some 176), .p (.bin .leq (.tmp 168) (.tmp 175)), 576460752303423487⟩]),
 (none, [⟨(some 177), .p (.pick (.tmp 161) (.tmp 176) (.const (.bool false))), 1152921504606846975⟩,
 ⟨(some 178), .p (.mv (.tmp 177)), 2305843009213693951⟩]),
 ((some (178, true)), [⟨(some 179), .p (.mv (.tmp 3)), 4611686018427387903⟩,
 ⟨(some 180), .p (.mv (.tmp 4)), 4611686018427387903⟩,
 ⟨(some 181), .p (.adrSl 1 (.tmp 180) (.const (.int .i64 (1)))), 13835058055282163711⟩,
 ⟨(some 182), .l (.load false 1 (.tmp 181)), 32281802128991715327⟩,
 ⟨(some 183), .p (.adrSl 1 (.tmp 179) (.tmp 182)), 73786976294838206463⟩,
 ⟨(some 184), .l (.load false 1 (.tmp 183)), 147573952589676412927⟩,
 ⟨(some 185), .p (.mv (.tmp 3)), 4611686018427387903⟩,
 ⟨(some 186), .p (.mv (.tmp 4)), 4611686018427387903⟩,
 ⟨(some 187), .p (.adrSl 1 (.tmp 186) (.const (.int .i64 (0)))), 594907496377133039615⟩,
 ⟨(some 188), .l (.load false 1 (.tmp 187)), 1775499117094544343039⟩,
 ⟨(some 189), .p (.adrSl 1 (.tmp 185) (.tmp 188)), 4431830263708719775743⟩,
 ⟨(some 190), .l (.load false 1 (.tmp 189)), 9154196746578364989439⟩,
 ⟨(some 191), .p (.lenS (.tmp 190)), 18598929712317655416831⟩,
 ⟨(some 192), .p (.slS (.tmp 184) none (some (.tmp 191))), 37778931862957161709567⟩,
 ⟨(some 193), .p (.mv (.tmp 3)), 4611686018427387903⟩,
 ⟨(some 194), .p (.mv (.tmp 4)), 4611686018427387903⟩,
 ⟨(some 195), .p (.adrSl 1 (.tmp 194) (.const (.int .i64 (0)))), 151120339137847074226175⟩,
 ⟨(some 196), .l (.load false 1 (.tmp 195)), 453351794041504367902719⟩,
 ⟨(some 197), .p (.adrSl 1 (.tmp 193) (.tmp 196)), 1133372567574733278674943⟩,
 ⟨(some 198), .l (.load false 1 (.tmp 197)), 2342298387189362453381119⟩,
 ⟨(some 199), .p (.bin .eql (.tmp 192) (.tmp 198)), 4835703278458516698824703⟩]),
 (none, [⟨(some 200), .p (.pick (.tmp 178) (.tmp 199) (.const (.bool false))), 9671406556917033397649407⟩,
 ⟨(some 201), .p (.mv (.tmp 200)), 19342813113834066795298815⟩]),
 ((some (201, true)), [⟨(some 202), .call 13 [], 38685626227668133590597631⟩]),
 (none, [⟨(some 203), .p (.pick (.tmp 201) (.tmp 202) (.const (.bool false))), 77371252455336267181195263⟩,
 ⟨(some 2), .p (.mv (.tmp 203)), 154742504910672534362390527⟩])])
 (.ret)
noncomputable def c8z5 : ICode := .cut [3, 4, 5] c8z62
noncomputable def c8 : ICode := .seq (.ops none [⟨(some 2), .p (.mv (.const (.bool false)))⟩])
 (.seq (.ops none [⟨(some 14), .p (.mv (.tmp 0))⟩,
 ⟨(some 15), .call 17 [(.tmp 14)]⟩,
 ⟨(some 3), .p (.mv (.tmp 15))⟩])
 (.seq (.ops none [⟨(some 17), .p (.mv (.tmp 3))⟩,
 ⟨(some 18), .call 20 [(.tmp 17)]⟩,
 ⟨(some 16), .p (.mv (.tmp 18))⟩,
 ⟨(some 19), .p (.ext (.tmp 16) 0)⟩,
 ⟨(some 20), .p (.ext (.tmp 16) 1)⟩,
 ⟨(some 4), .p (.mv (.tmp 19))⟩,
 ⟨(some 5), .p (.mv (.tmp 20))⟩])
 (.seq (.ops none [⟨(some 22), .p (.mv (.tmp 3))⟩,
 ⟨(some 23), .call 18 [(.tmp 22)]⟩,
 ⟨(some 21), .p (.mv (.tmp 23))⟩,
 ⟨(some 24), .p (.ext (.tmp 21) 0)⟩,
 ⟨(some 25), .p (.ext (.tmp 21) 1)⟩,
 ⟨(some 6), .p (.mv (.tmp 24))⟩,
 ⟨(some 7), .p (.mv (.tmp 25))⟩])
 (.seq (.seq (.ops none [⟨(some 26), .p (.mv (.tmp 5))⟩,
 ⟨(some 27), .p (.bin .eql (.tmp 26) (.const (.int .i64 (5))))⟩])
 (.cond (.tmp 27) (.seq (.ops none [⟨(some 28), .e (.mkSl 3 0 [(.int .i64 (0))] [])⟩,
 ⟨(some 8), .p (.mv (.tmp 28))⟩,
 ⟨(some 9), .p (.mv (.const (.bool true)))⟩])
 (.seq (.seq (.ops none [⟨(some 10), .p (.mv (.const (.int .i64 (0))))⟩])
 (.block 0 (.loop [3, 4, 6, 7] [8, 9, 10] c8z11))) c8z8))
 (.skip))) c8z5))))
theorem k8 : compFn Tryd.prog 8 [[], [], [], [], [], [], [], [3, 4, 6, 7], [8, 9, 10], [], [], [], [], [4, 6, 7, 8, 9], [], [4, 6, 7, 8, 11, 12, 66], [4, 6, 7, 8, 11, 66, 69], [4, 6, 7, 8, 11, 66, 69, 72], [4, 6, 7, 8, 11, 66, 74], [4, 6, 7, 8, 11, 66, 74, 77], [4, 6, 7, 8, 11, 66, 79], [4, 6, 7, 11, 66, 79, 84], [4, 6, 7, 11, 66, 85], [], [], [], [], [4, 6, 7, 11], [13], [], [], [], [], [], [4, 6, 7], [4, 6, 105], [4, 105, 107], [4, 109], [109, 112], [114], [114, 115], [], [3, 4, 5], []] = some (204, c8, [.tmp 2]) := by kernel_rfl
def K8z0 (_P : Program) (K : VK) : Kont := bodyP [.tmp 2] K
def K8z5 : Kont := thenK (iwpP P c8z5 (K8z0 P K)) (K8z0 P K)
def K8z8 : Kont := thenK (iwpP P c8z8 (K8z5 P K)) (K8z5 P K)
def K8z10 : Kont := inBlockK 0 (K8z8 P K)
def K8z11 (l3 p4 s6 f7 : Value) (L1 : LK) : Kont := thenK (fun f' h'' => (([3, 4, 6, 7] : List Nat).map f' : List Value) = [l3, p4, s6, f7] ∧ L1 (([8, 9, 10] : List Nat).map f') h'') (K8z10 P K)
def K8z19 : Kont := thenK (iwpP P c8z19 (K8z5 P K)) (K8z5 P K)
def K8z20 : Kont := thenK (iwpP P c8z20 (K8z19 P K)) (K8z19 P K)
def K8z38 : Kont := thenK (iwpP P c8z38 (K8z5 P K)) (K8z5 P K)
def K8z40 : Kont := inBlockK 2 (K8z38 P K)
def K8z41 (p4 s6 f7 r11 : Value) (L1 : LK) : Kont := thenK (fun f' h'' => (([4, 6, 7, 11] : List Nat).map f' : List Value) = [p4, s6, f7, r11] ∧ L1 (([13] : List Nat).map f') h'') (K8z40 P K)
def K8z49 : Kont := thenK (iwpP P c8z49 (K8z5 P K)) (K8z5 P K)
def p8z11 (l3 p4 s6 f7 : Value) (L1 : LK) (xs : List Value) (h : Heap) : Prop := CutP (iwpP P c8z11 (K8z11 P K l3 p4 s6 f7 L1)) ([3, 4, 6, 7] ++ [8, 9, 10]) ([l3, p4, s6, f7] ++ xs) h
def p8z17 (p4 s6 f7 k8 rises9 : Value) (h : Heap) : Prop := CutP (iwpP P c8z17 (K8z5 P K)) [4, 6, 7, 8, 9] [p4, s6, f7, k8, rises9] h
def p8z22 (p4 s6 f7 k8 r11 g12 x66 : Value) (h : Heap) : Prop := CutP (iwpP P c8z22 (K8z20 P K)) [4, 6, 7, 8, 11, 12, 66] [p4, s6, f7, k8, r11, g12, x66] h
def p8z24 (p4 s6 f7 k8 r11 x66 x69 : Value) (h : Heap) : Prop := CutP (iwpP P c8z24 (K8z20 P K)) [4, 6, 7, 8, 11, 66, 69] [p4, s6, f7, k8, r11, x66, x69] h
def p8z26 (p4 s6 f7 k8 r11 x66 x69 x72 : Value) (h : Heap) : Prop := CutP (iwpP P c8z26 (K8z20 P K)) [4, 6, 7, 8, 11, 66, 69, 72] [p4, s6, f7, k8, r11, x66, x69, x72] h
def p8z28 (p4 s6 f7 k8 r11 x66 x74 : Value) (h : Heap) : Prop := CutP (iwpP P c8z28 (K8z20 P K)) [4, 6, 7, 8, 11, 66, 74] [p4, s6, f7, k8, r11, x66, x74] h
def p8z30 (p4 s6 f7 k8 r11 x66 x74 x77 : Value) (h : Heap) : Prop := CutP (iwpP P c8z30 (K8z20 P K)) [4, 6, 7, 8, 11, 66, 74, 77] [p4, s6, f7, k8, r11, x66, x74, x77] h
def p8z32 (p4 s6 f7 k8 r11 x66 x79 : Value) (h : Heap) : Prop := CutP (iwpP P c8z32 (K8z20 P K)) [4, 6, 7, 8, 11, 66, 79] [p4, s6, f7, k8, r11, x66, x79] h
def p8z34 (p4 s6 f7 r11 x66 x79 x84 : Value) (h : Heap) : Prop := CutP (iwpP P c8z34 (K8z20 P K)) [4, 6, 7, 11, 66, 79, 84] [p4, s6, f7, r11, x66, x79, x84] h
def p8z36 (p4 s6 f7 r11 x66 x85 : Value) (h : Heap) : Prop := CutP (iwpP P c8z36 (K8z20 P K)) [4, 6, 7, 11, 66, 85] [p4, s6, f7, r11, x66, x85] h
def p8z41 (p4 s6 f7 r11 : Value) (L1 : LK) (xs : List Value) (h : Heap) : Prop := CutP (iwpP P c8z41 (K8z41 P K p4 s6 f7 r11 L1)) ([4, 6, 7, 11] ++ [13]) ([p4, s6, f7, r11] ++ xs) h
def p8z48 (p4 s6 f7 : Value) (h : Heap) : Prop := CutP (iwpP P c8z48 (K8z5 P K)) [4, 6, 7] [p4, s6, f7] h
def p8z51 (p4 s6 x105 : Value) (h : Heap) : Prop := CutP (iwpP P c8z51 (K8z49 P K)) [4, 6, 105] [p4, s6, x105] h
def p8z53 (p4 x105 x107 : Value) (h : Heap) : Prop := CutP (iwpP P c8z53 (K8z49 P K)) [4, 105, 107] [p4, x105, x107] h
def p8z55 (p4 x109 : Value) (h : Heap) : Prop := CutP (iwpP P c8z55 (K8z49 P K)) [4, 109] [p4, x109] h
def p8z57 (x109 x112 : Value) (h : Heap) : Prop := CutP (iwpP P c8z57 (K8z49 P K)) [109, 112] [x109, x112] h
def p8z59 (x114 : Value) (h : Heap) : Prop := CutP (iwpP P c8z59 (K8z49 P K)) [114] [x114] h
def p8z61 (x114 x115 : Value) (h : Heap) : Prop := CutP (iwpP P c8z61 (K8z49 P K)) [114, 115] [x114, x115] h
def p8z62 (l3 p4 e5 : Value) (h : Heap) : Prop := CutP (iwpP P c8z62 (K8z0 P K)) [3, 4, 5] [l3, p4, e5] h
theorem q8z11 (l3 p4 s6 f7 : Value) (L1 : LK) (k8 rises9 i10 : Value) (h : Heap) : p8z11 P K l3 p4 s6 f7 L1 [k8, rises9, i10] h =
 (OP (iLenSl l3) fun x31 =>
 OP (iBin .lss i10 x31) fun x32 =>
 IfP x32
 (OP (iAdrSl 1 l3 i10) fun x38 =>
 OP (iLoad false 1 h x38) fun x39 =>
 OP (iLenS x39) fun x40 =>
 OH (iMkSl 3 1 [(.int .i64 (0))] h [(0, 1, x40)]) fun x41 h_1 =>
 OH (iApp 3 1 8 h_1 k8 x41) fun x42 h_2 =>
 GdP rises9 true
 (OP (iBin .eql i10 (.int .i64 (0))) fun x46 =>
 GdP x46 false
 (OP (iBin .sub i10 (.int .i64 (1))) fun x50 =>
 OP (iAdrSl 1 l3 x50) fun x51 =>
 OP (iLoad false 1 h_2 x51) fun x52 =>
 (True) ∧
 OP (iAdrSl 1 l3 i10) fun x55 =>
 OP (iLoad false 1 h_2 x55) fun x56 =>
 (True) ∧
 OP (iBin .lss x52 x56) fun x57 =>
 GdP rises9 true
 (OP (iPick x46 (.bool true) x57) fun x58 =>
 OP (iPick rises9 x58 (.bool false)) fun x59 =>
 OP (iBin .add i10 (.int .i64 (1))) fun x34 =>
 ([l3, p4, s6, f7] : List Value) = [l3, p4, s6, f7] ∧ L1 [x42, x59, x34] h_2)
 (OP (iPick rises9 undef (.bool false)) fun x59 =>
 OP (iBin .add i10 (.int .i64 (1))) fun x34 =>
 ([l3, p4, s6, f7] : List Value) = [l3, p4, s6, f7] ∧ L1 [x42, x59, x34] h_2))
 (GdP rises9 true
 (OP (iPick x46 (.bool true) undef) fun x58 =>
 OP (iPick rises9 x58 (.bool false)) fun x59 =>
 OP (iBin .add i10 (.int .i64 (1))) fun x34 =>
 ([l3, p4, s6, f7] : List Value) = [l3, p4, s6, f7] ∧ L1 [x42, x59, x34] h_2)
 (OP (iPick rises9 undef (.bool false)) fun x59 =>
 OP (iBin .add i10 (.int .i64 (1))) fun x34 =>
 ([l3, p4, s6, f7] : List Value) = [l3, p4, s6, f7] ∧ L1 [x42, x59, x34] h_2)))
 (GdP undef false
 (OP (iBin .sub i10 (.int .i64 (1))) fun x50 =>
 OP (iAdrSl 1 l3 x50) fun x51 =>
 OP (iLoad false 1 h_2 x51) fun x52 =>
 (True) ∧
 OP (iAdrSl 1 l3 i10) fun x55 =>
 OP (iLoad false 1 h_2 x55) fun x56 =>
 (True) ∧
 OP (iBin .lss x52 x56) fun x57 =>
 GdP rises9 true
 (OP (iPick undef (.bool true) x57) fun x58 =>
 OP (iPick rises9 x58 (.bool false)) fun x59 =>
 OP (iBin .add i10 (.int .i64 (1))) fun x34 =>
 ([l3, p4, s6, f7] : List Value) = [l3, p4, s6, f7] ∧ L1 [x42, x59, x34] h_2)
 (OP (iPick rises9 undef (.bool false)) fun x59 =>
 OP (iBin .add i10 (.int .i64 (1))) fun x34 =>
 ([l3, p4, s6, f7] : List Value) = [l3, p4, s6, f7] ∧ L1 [x42, x59, x34] h_2))
 (GdP rises9 true
 (OP (iPick undef (.bool true) undef) fun x58 =>
 OP (iPick rises9 x58 (.bool false)) fun x59 =>
 OP (iBin .add i10 (.int .i64 (1))) fun x34 =>
 ([l3, p4, s6, f7] : List Value) = [l3, p4, s6, f7] ∧ L1 [x42, x59, x34] h_2)
 (OP (iPick rises9 undef (.bool false)) fun x59 =>
 OP (iBin .add i10 (.int .i64 (1))) fun x34 =>
 ([l3, p4, s6, f7] : List Value) = [l3, p4, s6, f7] ∧ L1 [x42, x59, x34] h_2))))
 (p8z17 P K p4 s6 f7 k8 rises9 h)) := (CutP_def _ _ _ _).trans (by kernel_rfl)
theorem q8z36 (p4 s6 f7 r11 x66 x85 : Value) (h : Heap) : p8z36 P K p4 s6 f7 r11 x66 x85 h =
 (OP (iPick x66 x85 (.bool false)) fun x86 =>
 IfP x86
 (K (.bool false) h)
 (LoopP [(.int .i64 (1))] h fun L1 xs hx =>
 p8z41 P K p4 s6 f7 r11 L1 xs hx)) := (CutP_def _ _ _ _).trans (by kernel_rfl)
theorem q8z34 (p4 s6 f7 r11 x66 x79 x84 : Value) (h : Heap) : p8z34 P K p4 s6 f7 r11 x66 x79 x84 h =
 (GdP x66 true
 (OP (iPick x79 (.bool true) x84) fun x85 =>
 p8z36 P K p4 s6 f7 r11 x66 x85 h)
 (p8z36 P K p4 s6 f7 r11 x66 undef h)) := (CutP_def _ _ _ _).trans (by kernel_rfl)
theorem q8z32 (p4 s6 f7 k8 r11 x66 x79 : Value) (h : Heap) : p8z32 P K p4 s6 f7 k8 r11 x66 x79 h =
 (GdP x79 false
 (CallP P 26 [r11] h fun x81 h_1 =>
 CallP P 15 [x81, k8] h_1 fun x83 h_2 =>
 OP (iUn .not x83) fun x84 =>
 p8z34 P K p4 s6 f7 r11 x66 x79 x84 h_2)
 (p8z34 P K p4 s6 f7 r11 x66 x79 undef h)) := (CutP_def _ _ _ _).trans (by kernel_rfl)
theorem q8z30 (p4 s6 f7 k8 r11 x66 x74 x77 : Value) (h : Heap) : p8z30 P K p4 s6 f7 k8 r11 x66 x74 x77 h =
 (GdP x66 true
 (OP (iPick x74 (.bool true) x77) fun x78 =>
 p8z32 P K p4 s6 f7 k8 r11 x66 x78 h)
 (p8z32 P K p4 s6 f7 k8 r11 x66 undef h)) := (CutP_def _ _ _ _).trans (by kernel_rfl)
theorem q8z28 (p4 s6 f7 k8 r11 x66 x74 : Value) (h : Heap) : p8z28 P K p4 s6 f7 k8 r11 x66 x74 h =
 (GdP x74 false
 (CallP P 22 [r11] h fun x76 h_1 =>
 OP (iEqnil true x76 (.slice none 0 0)) fun x77 =>
 p8z30 P K p4 s6 f7 k8 r11 x66 x74 x77 h_1)
 (p8z30 P K p4 s6 f7 k8 r11 x66 x74 undef h)) := (CutP_def _ _ _ _).trans (by kernel_rfl)
theorem q8z26 (p4 s6 f7 k8 r11 x66 x69 x72 : Value) (h : Heap) : p8z26 P K p4 s6 f7 k8 r11 x66 x69 x72 h =
 (GdP x66 true
 (OP (iPick x69 (.bool true) x72) fun x73 =>
 p8z28 P K p4 s6 f7 k8 r11 x66 x73 h)
 (p8z28 P K p4 s6 f7 k8 r11 x66 undef h)) := (CutP_def _ _ _ _).trans (by kernel_rfl)
theorem q8z24 (p4 s6 f7 k8 r11 x66 x69 : Value) (h : Heap) : p8z24 P K p4 s6 f7 k8 r11 x66 x69 h =
 (GdP x69 false
 (CallP P 21 [r11] h fun x71 h_1 =>
 OP (iBin .neq x71 (.int .i64 (0))) fun x72 =>
 p8z26 P K p4 s6 f7 k8 r11 x66 x69 x72 h_1)
 (p8z26 P K p4 s6 f7 k8 r11 x66 x69 undef h)) := (CutP_def _ _ _ _).trans (by kernel_rfl)
theorem q8z22 (p4 s6 f7 k8 r11 g12 x66 : Value) (h : Heap) : p8z22 P K p4 s6 f7 k8 r11 g12 x66 h =
 (GdP x66 true
 (OP (iBin .neq g12 (.int .i64 (0))) fun x68 =>
 p8z24 P K p4 s6 f7 k8 r11 x66 x68 h)
 (p8z24 P K p4 s6 f7 k8 r11 x66 undef h)) := (CutP_def _ _ _ _).trans (by kernel_rfl)
theorem q8z41 (p4 s6 f7 r11 : Value) (L1 : LK) (i13 : Value) (h : Heap) : p8z41 P K p4 s6 f7 r11 L1 [i13] h =
 (OP (iLenSl r11) fun x89 =>
 OP (iBin .lss i13 x89) fun x90 =>
 IfP x90
 (OP (iBin .sub i13 (.int .i64 (1))) fun x95 =>
 OP (iAdrSl 1 r11 x95) fun x96 =>
 OP (iLoad false 1 h x96) fun x97 =>
 (True) ∧
 OP (iAdrSl 1 r11 i13) fun x100 =>
 OP (iLoad false 1 h x100) fun x101 =>
 (True) ∧
 OP (iBin .geq x97 x101) fun x102 =>
 IfP x102
 (K (.bool false) h)
 (OP (iBin .add i13 (.int .i64 (1))) fun x92 =>
 ([p4, s6, f7, r11] : List Value) = [p4, s6, f7, r11] ∧ L1 [x92] h))
 (p8z48 P K p4 s6 f7 h)) := (CutP_def _ _ _ _).trans (by kernel_rfl)
theorem q8z61 (x114 x115 : Value) (h : Heap) : p8z61 P K x114 x115 h =
 (OP (iPick x114 x115 (.bool false)) fun x116 =>
 K x116 h) := (CutP_def _ _ _ _).trans (by kernel_rfl)
theorem q8z59 (x114 : Value) (h : Heap) : p8z59 P K x114 h =
 (GdP x114 true
 (CallP P 13 [] h fun x115 h_1 =>
 p8z61 P K x114 x115 h_1)
 (p8z61 P K x114 undef h)) := (CutP_def _ _ _ _).trans (by kernel_rfl)
theorem q8z57 (x109 x112 : Value) (h : Heap) : p8z57 P K x109 x112 h =
 (OP (iPick x109 x112 (.bool false)) fun x113 =>
 p8z59 P K x113 h) := (CutP_def _ _ _ _).trans (by kernel_rfl)
theorem q8z55 (p4 x109 : Value) (h : Heap) : p8z55 P K p4 x109 h =
 (GdP x109 true
 (OP (iLenSl p4) fun x111 =>
 OP (iBin .eql x111 (.int .i64 (0))) fun x112 =>
 p8z57 P K x109 x112 h)
 (p8z57 P K x109 undef h)) := (CutP_def _ _ _ _).trans (by kernel_rfl)
theorem q8z53 (p4 x105 x107 : Value) (h : Heap) : p8z53 P K p4 x105 x107 h =
 (OP (iPick x105 x107 (.bool false)) fun x108 =>
 p8z55 P K p4 x108 h) := (CutP_def _ _ _ _).trans (by kernel_rfl)
theorem q8z51 (p4 s6 x105 : Value) (h : Heap) : p8z51 P K p4 s6 x105 h =
 (GdP x105 true
 (OP (iBin .eql s6 (.string ⟨#[]⟩)) fun x107 =>
 p8z53 P K p4 x105 x107 h)
 (p8z53 P K p4 x105 undef h)) := (CutP_def _ _ _ _).trans (by kernel_rfl)
theorem q8z48 (p4 s6 f7 : Value) (h : Heap) : p8z48 P K p4 s6 f7 h =
 (OP (iBin .eql f7 (.int .i64 (5))) fun x104 =>
 p8z51 P K p4 s6 x104 h) := (CutP_def _ _ _ _).trans (by kernel_rfl)
theorem q8z17 (p4 s6 f7 k8 rises9 : Value) (h : Heap) : p8z17 P K p4 s6 f7 k8 rises9 h =
 (CallP P 25 [k8] h fun x62 h_1 =>
 OP (iExt 0 x62) fun x63 =>
 OP (iExt 1 x62) fun x64 =>
 p8z22 P K p4 s6 f7 k8 x63 x64 rises9 h_1) := (CutP_def _ _ _ _).trans (by kernel_rfl)
theorem q8z62 (l3 p4 e5 : Value) (h : Heap) : p8z62 P K l3 p4 e5 h =
 (OP (iBin .eql e5 (.int .i64 (0))) fun x118 =>
 GdP x118 true
 (OP (iLenSl p4) fun x121 =>
 OP (iBin .eql x121 (.int .i64 (2))) fun x122 =>
 OP (iPick x118 x122 (.bool false)) fun x123 =>
 GdP x123 true
 (OP (iAdrSl 1 p4 (.int .i64 (0))) fun x126 =>
 OP (iLoad false 1 h x126) fun x127 =>
 (True) ∧
 OP (iBin .geq x127 (.int .i64 (0))) fun x128 =>
 OP (iPick x123 x128 (.bool false)) fun x129 =>
 GdP x129 true
 (OP (iAdrSl 1 p4 (.int .i64 (0))) fun x132 =>
 OP (iLoad false 1 h x132) fun x133 =>
 (True) ∧
 OP (iLenSl l3) fun x135 =>
 OP (iBin .lss x133 x135) fun x136 =>
 OP (iPick x129 x136 (.bool false)) fun x137 =>
 GdP x137 true
 (OP (iAdrSl 1 p4 (.int .i64 (1))) fun x140 =>
 OP (iLoad false 1 h x140) fun x141 =>
 (True) ∧
 OP (iBin .geq x141 (.int .i64 (0))) fun x142 =>
 OP (iPick x137 x142 (.bool false)) fun x143 =>
 GdP x143 true
 (OP (iAdrSl 1 p4 (.int .i64 (1))) fun x146 =>
 OP (iLoad false 1 h x146) fun x147 =>
 (True) ∧
 OP (iLenSl l3) fun x149 =>
 OP (iBin .lss x147 x149) fun x150 =>
 OP (iPick x143 x150 (.bool false)) fun x151 =>
 GdP x151 true
 (OP (iAdrSl 1 p4 (.int .i64 (0))) fun x154 =>
 OP (iLoad false 1 h x154) fun x155 =>
 (True) ∧
 OP (iAdrSl 1 p4 (.int .i64 (1))) fun x157 =>
 OP (iLoad false 1 h x157) fun x158 =>
 (True) ∧
 OP (iBin .neq x155 x158) fun x159 =>
 OP (iPick x151 x159 (.bool false)) fun x160 =>
 GdP x160 true
 (OP (iAdrSl 1 p4 (.int .i64 (0))) fun x164 =>
 OP (iLoad false 1 h x164) fun x165 =>
 (True) ∧
 OP (iAdrSl 1 l3 x165) fun x166 =>
 OP (iLoad false 1 h x166) fun x167 =>
 (True) ∧
 OP (iLenS x167) fun x168 =>
 OP (iAdrSl 1 p4 (.int .i64 (1))) fun x171 =>
 OP (iLoad false 1 h x171) fun x172 =>
 (True) ∧
 OP (iAdrSl 1 l3 x172) fun x173 =>
 OP (iLoad false 1 h x173) fun x174 =>
 (True) ∧
 OP (iLenS x174) fun x175 =>
 OP (iBin .leq x168 x175) fun x176 =>
 OP (iPick x160 x176 (.bool false)) fun x177 =>
 GdP x177 true
 (OP (iAdrSl 1 p4 (.int .i64 (1))) fun x181 =>
 OP (iLoad false 1 h x181) fun x182 =>
 (True) ∧
 OP (iAdrSl 1 l3 x182) fun x183 =>
 OP (iLoad false 1 h x183) fun x184 =>
 (True) ∧
 OP (iAdrSl 1 p4 (.int .i64 (0))) fun x187 =>
 OP (iLoad false 1 h x187) fun x188 =>
 (True) ∧
 OP (iAdrSl 1 l3 x188) fun x189 =>
 OP (iLoad false 1 h x189) fun x190 =>
 (True) ∧
 OP (iLenS x190) fun x191 =>
 OP (iSlS x184 none (some x191)) fun x192 =>
 OP (iAdrSl 1 p4 (.int .i64 (0))) fun x195 =>
 OP (iLoad false 1 h x195) fun x196 =>
 (True) ∧
 OP (iAdrSl 1 l3 x196) fun x197 =>
 OP (iLoad false 1 h x197) fun x198 =>
 (True) ∧
 OP (iBin .eql x192 x198) fun x199 =>
 OP (iPick x177 x199 (.bool false)) fun x200 =>
 GdP x200 true
 (CallP P 13 [] h fun x202 h_1 =>
 (True) ∧
 OP (iPick x200 x202 (.bool false)) fun x203 =>
 K x203 h_1)
 ((True) ∧
 OP (iPick x200 undef (.bool false)) fun x203 =>
 K x203 h))
 (OP (iPick x177 undef (.bool false)) fun x200 =>
 GdP x200 true
 (CallP P 13 [] h fun x202 h_1 =>
 (True) ∧
 OP (iPick x200 x202 (.bool false)) fun x203 =>
 K x203 h_1)
 ((True) ∧
 OP (iPick x200 undef (.bool false)) fun x203 =>
 K x203 h)))
 (OP (iPick x160 undef (.bool false)) fun x177 =>
 GdP x177 true
 (OP (iAdrSl 1 p4 (.int .i64 (1))) fun x181 =>
 OP (iLoad false 1 h x181) fun x182 =>
 (True) ∧
 OP (iAdrSl 1 l3 x182) fun x183 =>
 OP (iLoad false 1 h x183) fun x184 =>
 (True) ∧
 OP (iAdrSl 1 p4 (.int .i64 (0))) fun x187 =>
 OP (iLoad false 1 h x187) fun x188 =>
 (True) ∧
 OP (iAdrSl 1 l3 x188) fun x189 =>
 OP (iLoad false 1 h x189) fun x190 =>
 (True) ∧
 OP (iLenS x190) fun x191 =>
 OP (iSlS x184 none (some x191)) fun x192 =>
 OP (iAdrSl 1 p4 (.int .i64 (0))) fun x195 =>
 OP (iLoad false 1 h x195) fun x196 =>
 (True) ∧
 OP (iAdrSl 1 l3 x196) fun x197 =>
 OP (iLoad false 1 h x197) fun x198 =>
 (True) ∧
 OP (iBin .eql x192 x198) fun x199 =>
 OP (iPick x177 x199 (.bool false)) fun x200 =>
 GdP x200 true
 (CallP P 13 [] h fun x202 h_1 =>
 (True) ∧
 OP (iPick x200 x202 (.bool false)) fun x203 =>
 K x203 h_1)
 ((True) ∧
 OP (iPick x200 undef (.bool false)) fun x203 =>
 K x203 h))
 (OP (iPick x177 undef (.bool false)) fun x200 =>
 GdP x200 true
 (CallP P 13 [] h fun x202 h_1 =>
 (True) ∧
 OP (iPick x200 x202 (.bool false)) fun x203 =>
 K x203 h_1)
 ((True) ∧
 OP (iPick x200 undef (.bool false)) fun x203 =>
 K x203 h))))
 (OP (iPick x151 undef (.bool false)) fun x160 =>
 GdP x160 true
 (OP (iAdrSl 1 p4 (.int .i64 (0))) fun x164 =>
 OP (iLoad false 1 h x164) fun x165 =>
 (True) ∧
 OP (iAdrSl 1 l3 x165) fun x166 =>
 OP (iLoad false 1 h x166) fun x167 =>
 (True) ∧
 OP (iLenS x167) fun x168 =>
 OP (iAdrSl 1 p4 (.int .i64 (1))) fun x171 =>
 OP (iLoad false 1 h x171) fun x172 =>
 (True) ∧
 OP (iAdrSl 1 l3 x172) fun x173 =>
 OP (iLoad false 1 h x173) fun x174 =>
 (True) ∧
 OP (iLenS x174) fun x175 =>
 OP (iBin .leq x168 x175) fun x176 =>
 OP (iPick x160 x176 (.bool false)) fun x177 =>
 GdP x177 true
 (OP (iAdrSl 1 p4 (.int .i64 (1))) fun x181 =>
 OP (iLoad false 1 h x181) fun x182 =>
 (True) ∧
 OP (iAdrSl 1 l3 x182) fun x183 =>
 OP (iLoad false 1 h x183) fun x184 =>
 (True) ∧
 OP (iAdrSl 1 p4 (.int .i64 (0))) fun x187 =>
 OP (iLoad false 1 h x187) fun x188 =>
 (True) ∧
 OP (iAdrSl 1 l3 x188) fun x189 =>
 OP (iLoad false 1 h x189) fun x190 =>
 (True) ∧
 OP (iLenS x190) fun x191 =>
 OP (iSlS x184 none (some x191)) fun x192 =>
 OP (iAdrSl 1 p4 (.int .i64 (0))) fun x195 =>
 OP (iLoad false 1 h x195) fun x196 =>
 (True) ∧
 OP (iAdrSl 1 l3 x196) fun x197 =>
 OP (iLoad false 1 h x197) fun x198 =>
 (True) ∧
 OP (iBin .eql x192 x198) fun x199 =>
 OP (iPick x177 x199 (.bool false)) fun x200 =>
 GdP x200 true
 (CallP P 13 [] h fun x202 h_1 =>
 (True) ∧
 OP (iPick x200 x202 (.bool false)) fun x203 =>
 K x203 h_1)
 ((True) ∧
 OP (iPick x200 undef (.bool false)) fun x203 =>
 K x203 h))
 (OP (iPick x177 undef (.bool false)) fun x200 =>
 GdP x200 true
 (CallP P 13 [] h fun x202 h_1 =>
 (True) ∧
 OP (iPick x200 x202 (.bool false)) fun x203 =>
 K x203 h_1)
 ((True) ∧
 OP (iPick x200 undef (.bool false)) fun x203 =>
 K x203 h)))
 (OP (iPick x160 undef (.bool false)) fun x177 =>
 GdP x177 true
 (OP (iAdrSl 1 p4 (.int .i64 (1))) fun x181 =>
 OP (iLoad false 1 h x181) fun x182 =>
 (True) ∧
 OP (iAdrSl 1 l3 x182) fun x183 =>
 OP (iLoad false 1 h x183) fun x184 =>
 (True) ∧
 OP (iAdrSl 1 p4 (.int .i64 (0))) fun x187 =>
 OP (iLoad false 1 h x187) fun x188 =>
 (True) ∧
 OP (iAdrSl 1 l3 x188) fun x189 =>
 OP (iLoad false 1 h x189) fun x190 =>
 (True) ∧
 OP (iLenS x190) fun x191 =>
 OP (iSlS x184 none (some x191)) fun x192 =>
 OP (iAdrSl 1 p4 (.int .i64 (0))) fun x195 =>
 OP (iLoad false 1 h x195) fun x196 =>
 (True) ∧
 OP (iAdrSl 1 l3 x196) fun x197 =>
 OP (iLoad false 1 h x197) fun x198 =>
 (True) ∧
 OP (iBin .eql x192 x198) fun x199 =>
 OP (iPick x177 x199 (.bool false)) fun x200 =>
 GdP x200 true
 (CallP P 13 [] h fun x202 h_1 =>
 (True) ∧
 OP (iPick x200 x202 (.bool false)) fun x203 =>
 K x203 h_1)
 ((True) ∧
 OP (iPick x200 undef (.bool false)) fun x203 =>
 K x203 h))
 (OP (iPick x177 undef (.bool false)) fun x200 =>
 GdP x200 true
 (CallP P 13 [] h fun x202 h_1 =>
 (True) ∧
 OP (iPick x200 x202 (.bool false)) fun x203 =>
 K x203 h_1)
 ((True) ∧
 OP (iPick x200 undef (.bool false)) fun x203 =>
 K x203 h)))))
 (OP (iPick x143 undef (.bool false)) fun x151 =>
 GdP x151 true
 (OP (iAdrSl 1 p4 (.int .i64 (0))) fun x154 =>
 OP (iLoad false 1 h x154) fun x155 =>
 (True) ∧
 OP (iAdrSl 1 p4 (.int .i64 (1))) fun x157 =>
 OP (iLoad false 1 h x157) fun x158 =>
 (True) ∧
 OP (iBin .neq x155 x158) fun x159 =>
 OP (iPick x151 x159 (.bool false)) fun x160 =>
 GdP x160 true
 (OP (iAdrSl 1 p4 (.int .i64 (0))) fun x164 =>
 OP (iLoad false 1 h x164) fun x165 =>
 (True) ∧
 OP (iAdrSl 1 l3 x165) fun x166 =>
 OP (iLoad false 1 h x166) fun x167 =>
 (True) ∧
 OP (iLenS x167) fun x168 =>
 OP (iAdrSl 1 p4 (.int .i64 (1))) fun x171 =>
 OP (iLoad false 1 h x171) fun x172 =>
 (True) ∧
 OP (iAdrSl 1 l3 x172) fun x173 =>
 OP (iLoad false 1 h x173) fun x174 =>
 (True) ∧
 OP (iLenS x174) fun x175 =>
 OP (iBin .leq x168 x175) fun x176 =>
 OP (iPick x160 x176 (.bool false)) fun x177 =>
 GdP x177 true
 (OP (iAdrSl 1 p4 (.int .i64 (1))) fun x181 =>
 OP (iLoad false 1 h x181) fun x182 =>
 (True) ∧
 OP (iAdrSl 1 l3 x182) fun x183 =>
 OP (iLoad false 1 h x183) fun x184 =>
 (True) ∧
 OP (iAdrSl 1 p4 (.int .i64 (0))) fun x187 =>
 OP (iLoad false 1 h x187) fun x188 =>
 (True) ∧
 OP (iAdrSl 1 l3 x188) fun x189 =>
 OP (iLoad false 1 h x189) fun x190 =>
 (True) ∧
 OP (iLenS x190) fun x191 =>
 OP (iSlS x184 none (some x191)) fun x192 =>
 OP (iAdrSl 1 p4 (.int .i64 (0))) fun x195 =>
 OP (iLoad false 1 h x195) fun x196 =>
 (True) ∧
 OP (iAdrSl 1 l3 x196) fun x197 =>
 OP (iLoad false 1 h x197) fun x198 =>
 (True) ∧
 OP (iBin .eql x192 x198) fun x199 =>
 OP (iPick x177 x199 (.bool false)) fun x200 =>
 GdP x200 true
 (CallP P 13 [] h fun x202 h_1 =>
 (True) ∧
 OP (iPick x200 x202 (.bool false)) fun x203 =>
 K x203 h_1)
 ((True) ∧
 OP (iPick x200 undef (.bool false)) fun x203 =>
 K x203 h))
 (OP (iPick x177 undef (.bool false)) fun x200 =>
 GdP x200 true
 (CallP P 13 [] h fun x202 h_1 =>
 (True) ∧
 OP (iPick x200 x202 (.bool false)) fun x203 =>
 K x203 h_1)
 ((True) ∧
 OP (iPick x200 undef (.bool false)) fun x203 =>
 K x203 h)))
 (OP (iPick x160 undef (.bool false)) fun x177 =>
 GdP x177 true
 (OP (iAdrSl 1 p4 (.int .i64 (1))) fun x181 =>
 OP (iLoad false 1 h x181) fun x182 =>
 (True) ∧
 OP (iAdrSl 1 l3 x182) fun x183 =>
 OP (iLoad false 1 h x183) fun x184 =>
 (True) ∧
 OP (iAdrSl 1 p4 (.int .i64 (0))) fun x187 =>
 OP (iLoad false 1 h x187) fun x188 =>
 (True) ∧
 OP (iAdrSl 1 l3 x188) fun x189 =>
 OP (iLoad false 1 h x189) fun x190 =>
 (True) ∧
 OP (iLenS x190) fun x191 =>
 OP (iSlS x184 none (some x191)) fun x192 =>
 OP (iAdrSl 1 p4 (.int .i64 (0))) fun x195 =>
 OP (iLoad false 1 h x195) fun x196 =>
 (True) ∧
 OP (iAdrSl 1 l3 x196) fun x197 =>
 OP (iLoad false 1 h x197) fun x198 =>
 (True) ∧
 OP (iBin .eql x192 x198) fun x199 =>
 OP (iPick x177 x199 (.bool false)) fun x200 =>
 GdP x200 true
 (CallP P 13 [] h fun x202 h_1 =>
 (True) ∧
 OP (iPick x200 x202 (.bool false)) fun x203 =>
 K x203 h_1)
 ((True) ∧
 OP (iPick x200 undef (.bool false)) fun x203 =>
 K x203 h))
 (OP (iPick x177 undef (.bool false)) fun x200 =>
 GdP x200 true
 (CallP P 13 [] h fun x202 h_1 =>
 (True) ∧
 OP (iPick x200 x202 (.bool false)) fun x203 =>
 K x203 h_1)
 ((True) ∧
 OP (iPick x200 undef (.bool false)) fun x203 =>
 K x203 h))))
 (OP (iPick x151 undef (.bool false)) fun x160 =>
 GdP x160 true
 (OP (iAdrSl 1 p4 (.int .i64 (0))) fun x164 =>
 OP (iLoad false 1 h x164) fun x165 =>
 (True) ∧
 OP (iAdrSl 1 l3 x165) fun x166 =>
 OP (iLoad false 1 h x166) fun x167 =>
 (True) ∧
 OP (iLenS x167) fun x168 =>
 OP (iAdrSl 1 p4 (.int .i64 (1))) fun x171 =>
 OP (iLoad false 1 h x171) fun x172 =>
 (True) ∧
 OP (iAdrSl 1 l3 x172) fun x173 =>
 OP (iLoad false 1 h x173) fun x174 =>
 (True) ∧
 OP (iLenS x174) fun x175 =>
 OP (iBin .leq x168 x175) fun x176 =>
 OP (iPick x160 x176 (.bool false)) fun x177 =>
 GdP x177 true
 (OP (iAdrSl 1 p4 (.int .i64 (1))) fun x181 =>
 OP (iLoad false 1 h x181) fun x182 =>
 (True) ∧
 OP (iAdrSl 1 l3 x182) fun x183 =>
 OP (iLoad false 1 h x183) fun x184 =>
 (True) ∧
 OP (iAdrSl 1 p4 (.int .i64 (0))) fun x187 =>
 OP (iLoad false 1 h x187) fun x188 =>
 (True) ∧
 OP (iAdrSl 1 l3 x188) fun x189 =>
 OP (iLoad false 1 h x189) fun x190 =>
 (True) ∧
 OP (iLenS x190) fun x191 =>
 OP (iSlS x184 none (some x191)) fun x192 =>
 OP (iAdrSl 1 p4 (.int .i64 (0))) fun x195 =>
 OP (iLoad false 1 h x195) fun x196 =>
 (True) ∧
 OP (iAdrSl 1 l3 x196) fun x197 =>
 OP (iLoad false 1 h x197) fun x198 =>
 (True) ∧
 OP (iBin .eql x192 x198) fun x199 =>
 OP (iPick x177 x199 (.bool false)) fun x200 =>
 GdP x200 true
 (CallP P 13 [] h fun x202 h_1 =>
 (True) ∧
 OP (iPick x200 x202 (.bool false)) fun x203 =>
 K x203 h_1)
 ((True) ∧
 OP (iPick x200 undef (.bool false)) fun x203 =>
 K x203 h))
 (OP (iPick x177 undef (.bool false)) fun x200 =>
 GdP x200 true
 (CallP P 13 [] h fun x202 h_1 =>
 (True) ∧
 OP (iPick x200 x202 (.bool false)) fun x203 =>
 K x203 h_1)
 ((True) ∧
 OP (iPick x200 undef (.bool false)) fun x203 =>
 K x203 h)))
 (OP (iPick x160 undef (.bool false)) fun x177 =>
 GdP x177 true
 (OP (iAdrSl 1 p4 (.int .i64 (1))) fun x181 =>
 OP (iLoad false 1 h x181) fun x182 =>
 (True) ∧
 OP (iAdrSl 1 l3 x182) fun x183 =>
 OP (iLoad false 1 h x183) fun x184 =>
 (True) ∧
 OP (iAdrSl 1 p4 (.int .i64 (0))) fun x187 =>
 OP (iLoad false 1 h x187) fun x188 =>
 (True) ∧
 OP (iAdrSl 1 l3 x188) fun x189 =>
 OP (iLoad false 1 h x189) fun x190 =>
 (True) ∧
 OP (iLenS x190) fun x191 =>
 OP (iSlS x184 none (some x191)) fun x192 =>
 OP (iAdrSl 1 p4 (.int .i64 (0))) fun x195 =>
 OP (iLoad false 1 h x195) fun x196 =>
 (True) ∧
 OP (iAdrSl 1 l3 x196) fun x197 =>
 OP (iLoad false 1 h x197) fun x198 =>
 (True) ∧
 OP (iBin .eql x192 x198) fun x199 =>
 OP (iPick x177 x199 (.bool false)) fun x200 =>
 GdP x200 true
 (CallP P 13 [] h fun x202 h_1 =>
 (True) ∧
 OP (iPick x200 x202 (.bool false)) fun x203 =>
 K x203 h_1)
 ((True) ∧
 OP (iPick x200 undef (.bool false)) fun x203 =>
 K x203 h))
 (OP (iPick x177 undef (.bool false)) fun x200 =>
 GdP x200 true
 (CallP P 13 [] h fun x202 h_1 =>
 (True) ∧
 OP (iPick x200 x202 (.bool false)) fun x203 =>
 K x203 h_1)
 ((True) ∧
 OP (iPick x200 undef (.bool false)) fun x203 =>
 K x203 h))))))
 (OP (iPick x137 undef (.bool false)) fun x143 =>
 GdP x143 true
 (OP (iAdrSl 1 p4 (.int .i64 (1))) fun x146 =>
 OP (iLoad false 1 h x146) fun x147 =>
 (True) ∧
 OP (iLenSl l3) fun x149 =>
 OP (iBin .lss x147 x149) fun x150 =>
 OP (iPick x143 x150 (.bool false)) fun x151 =>
 GdP x151 true
 (OP (iAdrSl 1 p4 (.int .i64 (0))) fun x154 =>
 OP (iLoad false 1 h x154) fun x155 =>
 (True) ∧
 OP (iAdrSl 1 p4 (.int .i64 (1))) fun x157 =>
 OP (iLoad false 1 h x157) fun x158 =>
 (True) ∧
 OP (iBin .neq x155 x158) fun x159 =>
 OP (iPick x151 x159 (.bool false)) fun x160 =>
 GdP x160 true
 (OP (iAdrSl 1 p4 (.int .i64 (0))) fun x164 =>
 OP (iLoad false 1 h x164) fun x165 =>
 (True) ∧
 OP (iAdrSl 1 l3 x165) fun x166 =>
 OP (iLoad false 1 h x166) fun x167 =>
 (True) ∧
 OP (iLenS x167) fun x168 =>
 OP (iAdrSl 1 p4 (.int .i64 (1))) fun x171 =>
 OP (iLoad false 1 h x171) fun x172 =>
 (True) ∧
 OP (iAdrSl 1 l3 x172) fun x173 =>
 OP (iLoad false 1 h x173) fun x174 =>
 (True) ∧
 OP (iLenS x174) fun x175 =>
 OP (iBin .leq x168 x175) fun x176 =>
 OP (iPick x160 x176 (.bool false)) fun x177 =>
 GdP x177 true
 (OP (iAdrSl 1 p4 (.int .i64 (1))) fun x181 =>
 OP (iLoad false 1 h x181) fun x182 =>
 (True) ∧
 OP (iAdrSl 1 l3 x182) fun x183 =>
 OP (iLoad false 1 h x183) fun x184 =>
 (True) ∧
 OP (iAdrSl 1 p4 (.int .i64 (0))) fun x187 =>
 OP (iLoad false 1 h x187) fun x188 =>
 (True) ∧
 OP (iAdrSl 1 l3 x188) fun x189 =>
 OP (iLoad false 1 h x189) fun x190 =>
 (True) ∧
 OP (iLenS x190) fun x191 =>
 OP (iSlS x184 none (some x191)) fun x192 =>
 OP (iAdrSl 1 p4 (.int .i64 (0))) fun x195 =>
 OP (iLoad false 1 h x195) fun x196 =>
 (True) ∧
 OP (iAdrSl 1 l3 x196) fun x197 =>
 OP (iLoad false 1 h x197) fun x198 =>
 (True) ∧
 OP (iBin .eql x192 x198) fun x199 =>
 OP (iPick x177 x199 (.bool false)) fun x200 =>
 GdP x200 true
 (CallP P 13 [] h fun x202 h_1 =>
 (True) ∧
 OP (iPick x200 x202 (.bool false)) fun x203 =>
 K x203 h_1)
 ((True) ∧
 OP (iPick x200 undef (.bool false)) fun x203 =>
 K x203 h))
 (OP (iPick x177 undef (.bool false)) fun x200 =>
 GdP x200 true
 (CallP P 13 [] h fun x202 h_1 =>
 (True) ∧
 OP (iPick x200 x202 (.bool false)) fun x203 =>
 K x203 h_1)
 ((True) ∧
 OP (iPick x200 undef (.bool false)) fun x203 =>
 K x203 h)))
 (OP (iPick x160 undef (.bool false)) fun x177 =>
 GdP x177 true
 (OP (iAdrSl 1 p4 (.int .i64 (1))) fun x181 =>
 OP (iLoad false 1 h x181) fun x182 =>
 (True) ∧
 OP (iAdrSl 1 l3 x182) fun x183 =>
 OP (iLoad false 1 h x183) fun x184 =>
 (True) ∧
 OP (iAdrSl 1 p4 (.int .i64 (0))) fun x187 =>
 OP (iLoad false 1 h x187) fun x188 =>
 (True) ∧
 OP (iAdrSl 1 l3 x188) fun x189 =>
 OP (iLoad false 1 h x189) fun x190 =>
 (True) ∧
 OP (iLenS x190) fun x191 =>
 OP (iSlS x184 none (some x191)) fun x192 =>
 OP (iAdrSl 1 p4 (.int .i64 (0))) fun x195 =>
 OP (iLoad false 1 h x195) fun x196 =>
 (True) ∧
 OP (iAdrSl 1 l3 x196) fun x197 =>
 OP (iLoad false 1 h x197) fun x198 =>
 (True) ∧
 OP (iBin .eql x192 x198) fun x199 =>
 OP (iPick x177 x199 (.bool false)) fun x200 =>
 GdP x200 true
 (CallP P 13 [] h fun x202 h_1 =>
 (True) ∧
 OP (iPick x200 x202 (.bool false)) fun x203 =>
 K x203 h_1)
 ((True) ∧
 OP (iPick x200 undef (.bool false)) fun x203 =>
 K x203 h))
 (OP (iPick x177 undef (.bool false)) fun x200 =>
 GdP x200 true
 (CallP P 13 [] h fun x202 h_1 =>
 (True) ∧
 OP (iPick x200 x202 (.bool false)) fun x203 =>
 K x203 h_1)
 ((True) ∧
 OP (iPick x200 undef (.bool false)) fun x203 =>
 K x203 h))))
 (OP (iPick x151 undef (.bool false)) fun x160 =>
 GdP x160 true
 (OP (iAdrSl 1 p4 (.int .i64 (0))) fun x164 =>
 OP (iLoad false 1 h x164) fun x165 =>
 (True) ∧
 OP (iAdrSl 1 l3 x165) fun x166 =>
 OP (iLoad false 1 h x166) fun x167 =>
 (True) ∧
 OP (iLenS x167) fun x168 =>
 OP (iAdrSl 1 p4 (.int .i64 (1))) fun x171 =>
 OP (iLoad false 1 h x171) fun x172 =>
 (True) ∧
 OP (iAdrSl 1 l3 x172) fun x173 =>
 OP (iLoad false 1 h x173) fun x174 =>
 (True) ∧
 OP (iLenS x174) fun x175 =>
 OP (iBin .leq x168 x175) fun x176 =>
 OP (iPick x160 x176 (.bool false)) fun x177 =>
 GdP x177 true
 (OP (iAdrSl 1 p4 (.int .i64 (1))) fun x181 =>
 OP (iLoad false 1 h x181) fun x182 =>
 (True) ∧
 OP (iAdrSl 1 l3 x182) fun x183 =>
 OP (iLoad false 1 h x183) fun x184 =>
 (True) ∧
 OP (iAdrSl 1 p4 (.int .i64 (0))) fun x187 =>
 OP (iLoad false 1 h x187) fun x188 =>
 (True) ∧
 OP (iAdrSl 1 l3 x188) fun x189 =>
 OP (iLoad false 1 h x189) fun x190 =>
 (True) ∧
 OP (iLenS x190) fun x191 =>
 OP (iSlS x184 none (some x191)) fun x192 =>
 OP (iAdrSl 1 p4 (.int .i64 (0))) fun x195 =>
 OP (iLoad false 1 h x195) fun x196 =>
 (True) ∧
 OP (iAdrSl 1 l3 x196) fun x197 =>
 OP (iLoad false 1 h x197) fun x198 =>
 (True) ∧
 OP (iBin .eql x192 x198) fun x199 =>
 OP (iPick x177 x199 (.bool false)) fun x200 =>
 GdP x200 true
 (CallP P 13 [] h fun x202 h_1 =>
 (True) ∧
 OP (iPick x200 x202 (.bool false)) fun x203 =>
 K x203 h_1)
 ((True) ∧
 OP (iPick x200 undef (.bool false)) fun x203 =>
 K x203 h))
 (OP (iPick x177 undef (.bool false)) fun x200 =>
 GdP x200 true
 (CallP P 13 [] h fun x202 h_1 =>
 (True) ∧
 OP (iPick x200 x202 (.bool false)) fun x203 =>
 K x203 h_1)
 ((True) ∧
 OP (iPick x200 undef (.bool false)) fun x203 =>
 K x203 h)))
 (OP (iPick x160 undef (.bool false)) fun x177 =>
 GdP x177 true
 (OP (iAdrSl 1 p4 (.int .i64 (1))) fun x181 =>
 OP (iLoad false 1 h x181) fun x182 =>
 (True) ∧
 OP (iAdrSl 1 l3 x182) fun x183 =>
 OP (iLoad false 1 h x183) fun x184 =>
 (True) ∧
 OP (iAdrSl 1 p4 (.int .i64 (0))) fun x187 =>
 OP (iLoad false 1 h x187) fun x188 =>
 (True) ∧
 OP (iAdrSl 1 l3 x188) fun x189 =>
 OP (iLoad false 1 h x189) fun x190 =>
 (True) ∧
 OP (iLenS x190) fun x191 =>
 OP (iSlS x184 none (some x191)) fun x192 =>
 OP (iAdrSl 1 p4 (.int .i64 (0))) fun x195 =>
 OP (iLoad false 1 h x195) fun x196 =>
 (True) ∧
 OP (iAdrSl 1 l3 x196) fun x197 =>
 OP (iLoad false 1 h x197) fun x198 =>
 (True) ∧
 OP (iBin .eql x192 x198) fun x199 =>
 OP (iPick x177 x199 (.bool false)) fun x200 =>
 GdP x200 true
 (CallP P 13 [] h fun x202 h_1 =>
 (True) ∧
 OP (iPick x200 x202 (.bool false)) fun x203 =>
 K x203 h_1)
 ((True) ∧
 OP (iPick x200 undef (.bool false)) fun x203 =>
 K x203 h))
 (OP (iPick x177 undef (.bool false)) fun x200 =>
 GdP x200 true
 (CallP P 13 [] h fun x202 h_1 =>
 (True) ∧
 OP (iPick x200 x202 (.bool false)) fun x203 =>
 K x203 h_1)
 ((True) ∧
 OP (iPick x200 undef (.bool false)) fun x203 =>
 K x203 h)))))
 (OP (iPick x143 undef (.bool false)) fun x151 =>
 GdP x151 true
 (OP (iAdrSl 1 p4 (.int .i64 (0))) fun x154 =>
 OP (iLoad false 1 h x154) fun x155 =>
 (True) ∧
 OP (iAdrSl 1 p4 (.int .i64 (1))) fun x157 =>
 OP (iLoad false 1 h x157) fun x158 =>
 (True) ∧
 OP (iBin .neq x155 x158) fun x159 =>
 OP (iPick x151 x159 (.bool false)) fun x160 =>
 GdP x160 true
 (OP (iAdrSl 1 p4 (.int .i64 (0))) fun x164 =>
 OP (iLoad false 1 h x164) fun x165 =>
 (True) ∧
 OP (iAdrSl 1 l3 x165) fun x166 =>
 OP (iLoad false 1 h x166) fun x167 =>
 (True) ∧
 OP (iLenS x167) fun x168 =>
 OP (iAdrSl 1 p4 (.int .i64 (1))) fun x171 =>
 OP (iLoad false 1 h x171) fun x172 =>
 (True) ∧
 OP (iAdrSl 1 l3 x172) fun x173 =>
 OP (iLoad false 1 h x173) fun x174 =>
 (True) ∧
 OP (iLenS x174) fun x175 =>
 OP (iBin .leq x168 x175) fun x176 =>
 OP (iPick x160 x176 (.bool false)) fun x177 =>
 GdP x177 true
 (OP (iAdrSl 1 p4 (.int .i64 (1))) fun x181 =>
 OP (iLoad false 1 h x181) fun x182 =>
 (True) ∧
 OP (iAdrSl 1 l3 x182) fun x183 =>
 OP (iLoad false 1 h x183) fun x184 =>
 (True) ∧
 OP (iAdrSl 1 p4 (.int .i64 (0))) fun x187 =>
 OP (iLoad false 1 h x187) fun x188 =>
 (True) ∧
 OP (iAdrSl 1 l3 x188) fun x189 =>
 OP (iLoad false 1 h x189) fun x190 =>
 (True) ∧
 OP (iLenS x190) fun x191 =>
 OP (iSlS x184 none (some x191)) fun x192 =>
 OP (iAdrSl 1 p4 (.int .i64 (0))) fun x195 =>
 OP (iLoad false 1 h x195) fun x196 =>
 (True) ∧
 OP (iAdrSl 1 l3 x196) fun x197 =>
 OP (iLoad false 1 h x197) fun x198 =>
 (True) ∧
 OP (iBin .eql x192 x198) fun x199 =>
 OP (iPick x177 x199 (.bool false)) fun x200 =>
 GdP x200 true
 (CallP P 13 [] h fun x202 h_1 =>
 (True) ∧
 OP (iPick x200 x202 (.bool false)) fun x203 =>
 K x203 h_1)
 ((True) ∧
 OP (iPick x200 undef (.bool false)) fun x203 =>
 K x203 h))
 (OP (iPick x177 undef (.bool false)) fun x200 =>
 GdP x200 true
 (CallP P 13 [] h fun x202 h_1 =>
 (True) ∧
 OP (iPick x200 x202 (.bool false)) fun x203 =>
 K x203 h_1)
 ((True) ∧
 OP (iPick x200 undef (.bool false)) fun x203 =>
 K x203 h)))
 (OP (iPick x160 undef (.bool false)) fun x177 =>
 GdP x177 true
 (OP (iAdrSl 1 p4 (.int .i64 (1))) fun x181 =>
 OP (iLoad false 1 h x181) fun x182 =>
 (True) ∧
 OP (iAdrSl 1 l3 x182) fun x183 =>
 OP (iLoad false 1 h x183) fun x184 =>
 (True) ∧
 OP (iAdrSl 1 p4 (.int .i64 (0))) fun x187 =>
 OP (iLoad false 1 h x187) fun x188 =>
 (True) ∧
 OP (iAdrSl 1 l3 x188) fun x189 =>
 OP (iLoad false 1 h x189) fun x190 =>
 (True) ∧
 OP (iLenS x190) fun x191 =>
 OP (iSlS x184 none (some x191)) fun x192 =>
 OP (iAdrSl 1 p4 (.int .i64 (0))) fun x195 =>
 OP (iLoad false 1 h x195) fun x196 =>
 (True) ∧
 OP (iAdrSl 1 l3 x196) fun x197 =>
 OP (iLoad false 1 h x197) fun x198 =>
 (True) ∧
 OP (iBin .eql x192 x198) fun x199 =>
 OP (iPick x177 x199 (.bool false)) fun x200 =>
 GdP x200 true
 (CallP P 13 [] h fun x202 h_1 =>
 (True) ∧
 OP (iPick x200 x202 (.bool false)) fun x203 =>
 K x203 h_1)
 ((True) ∧
 OP (iPick x200 undef (.bool false)) fun x203 =>
 K x203 h))
 (OP (iPick x177 undef (.bool false)) fun x200 =>
 GdP x200 true
 (CallP P 13 [] h fun x202 h_1 =>
 (True) ∧
 OP (iPick x200 x202 (.bool false)) fun x203 =>
 K x203 h_1)
 ((True) ∧
 OP (iPick x200 undef (.bool false)) fun x203 =>
 K x203 h))))
 (OP (iPick x151 undef (.bool false)) fun x160 =>
 GdP x160 true
 (OP (iAdrSl 1 p4 (.int .i64 (0))) fun x164 =>
 OP (iLoad false 1 h x164) fun x165 =>
 (True) ∧
 OP (iAdrSl 1 l3 x165) fun x166 =>
 OP (iLoad false 1 h x166) fun x167 =>
 (True) ∧
 OP (iLenS x167) fun x168 =>
 OP (iAdrSl 1 p4 (.int .i64 (1))) fun x171 =>
 OP (iLoad false 1 h x171) fun x172 =>
 (True) ∧
 OP (iAdrSl 1 l3 x172) fun x173 =>
 OP (iLoad false 1 h x173) fun x174 =>
 (True) ∧
 OP (iLenS x174) fun x175 =>
 OP (iBin .leq x168 x175) fun x176 =>
 OP (iPick x160 x176 (.bool false)) fun x177 =>
 GdP x177 true
 (OP (iAdrSl 1 p4 (.int .i64 (1))) fun x181 =>
 OP (iLoad false 1 h x181) fun x182 =>
 (True) ∧
 OP (iAdrSl 1 l3 x182) fun x183 =>
 OP (iLoad false 1 h x183) fun x184 =>
 (True) ∧
 OP (iAdrSl 1 p4 (.int .i64 (0))) fun x187 =>
 OP (iLoad false 1 h x187) fun x188 =>
 (True) ∧
 OP (iAdrSl 1 l3 x188) fun x189 =>
 OP (iLoad false 1 h x189) fun x190 =>
 (True) ∧
 OP (iLenS x190) fun x191 =>
 OP (iSlS x184 none (some x191)) fun x192 =>
 OP (iAdrSl 1 p4 (.int .i64 (0))) fun x195 =>
 OP (iLoad false 1 h x195) fun x196 =>
 (True) ∧
 OP (iAdrSl 1 l3 x196) fun x197 =>
 OP (iLoad false 1 h x197) fun x198 =>
 (True) ∧
 OP (iBin .eql x192 x198) fun x199 =>
 OP (iPick x177 x199 (.bool false)) fun x200 =>
 GdP x200 true
 (CallP P 13 [] h fun x202 h_1 =>
 (True) ∧
 OP (iPick x200 x202 (.bool false)) fun x203 =>
 K x203 h_1)
 ((True) ∧
 OP (iPick x200 undef (.bool false)) fun x203 =>
 K x203 h))
 (OP (iPick x177 undef (.bool false)) fun x200 =>
 GdP x200 true
 (CallP P 13 [] h fun x202 h_1 =>
 (True) ∧
 OP (iPick x200 x202 (.bool false)) fun x203 =>
 K x203 h_1)
 ((True) ∧
 OP (iPick x200 undef (.bool false)) fun x203 =>
 K x203 h)))
 (OP (iPick x160 undef (.bool false)) fun x177 =>
 GdP x177 true
 (OP (iAdrSl 1 p4 (.int .i64 (1))) fun x181 =>
 OP (iLoad false 1 h x181) fun x182 =>
 (True) ∧
 OP (iAdrSl 1 l3 x182) fun x183 =>
 OP (iLoad false 1 h x183) fun x184 =>
 (True) ∧
 OP (iAdrSl 1 p4 (.int .i64 (0))) fun x187 =>
 OP (iLoad false 1 h x187) fun x188 =>
 (True) ∧
 OP (iAdrSl 1 l3 x188) fun x189 =>
 OP (iLoad false 1 h x189) fun x190 =>
 (True) ∧
 OP (iLenS x190) fun x191 =>
 OP (iSlS x184 none (some x191)) fun x192 =>
 OP (iAdrSl 1 p4 (.int .i64 (0))) fun x195 =>
 OP (iLoad false 1 h x195) fun x196 =>
 (True) ∧
 OP (iAdrSl 1 l3 x196) fun x197 =>
 OP (iLoad false 1 h x197) fun x198 =>
 (True) ∧
 OP (iBin .eql x192 x198) fun x199 =>
 OP (iPick x177 x199 (.bool false)) fun x200 =>
 GdP x200 true
 (CallP P 13 [] h fun x202 h_1 =>
 (True) ∧
 OP (iPick x200 x202 (.bool false)) fun x203 =>
 K x203 h_1)
 ((True) ∧
 OP (iPick x200 undef (.bool false)) fun x203 =>
 K x203 h))
 (OP (iPick x177 undef (.bool false)) fun x200 =>
 GdP x200 true
 (CallP P 13 [] h fun x202 h_1 =>
 (True) ∧
 OP (iPick x200 x202 (.bool false)) fun x203 =>
 K x203 h_1)
 ((True) ∧
 OP (iPick x200 undef (.bool false)) fun x203 =>
 K x203 h)))))))
 (OP (iPick x129 undef (.bool false)) fun x137 =>
 GdP x137 true
 (OP (iAdrSl 1 p4 (.int .i64 (1))) fun x140 =>
 OP (iLoad false 1 h x140) fun x141 =>
 (True) ∧
 OP (iBin .geq x141 (.int .i64 (0))) fun x142 =>
 OP (iPick x137 x142 (.bool false)) fun x143 =>
 GdP x143 true
 (OP (iAdrSl 1 p4 (.int .i64 (1))) fun x146 =>
 OP (iLoad false 1 h x146) fun x147 =>
 (True) ∧
 OP (iLenSl l3) fun x149 =>
 OP (iBin .lss x147 x149) fun x150 =>
 OP (iPick x143 x150 (.bool false)) fun x151 =>
 GdP x151 true
 (OP (iAdrSl 1 p4 (.int .i64 (0))) fun x154 =>
 OP (iLoad false 1 h x154) fun x155 =>
 (True) ∧
 OP (iAdrSl 1 p4 (.int .i64 (1))) fun x157 =>
 OP (iLoad false 1 h x157) fun x158 =>
 (True) ∧
 OP (iBin .neq x155 x158) fun x159 =>
 OP (iPick x151 x159 (.bool false)) fun x160 =>
 GdP x160 true
 (OP (iAdrSl 1 p4 (.int .i64 (0))) fun x164 =>
 OP (iLoad false 1 h x164) fun x165 =>
 (True) ∧
 OP (iAdrSl 1 l3 x165) fun x166 =>
 OP (iLoad false 1 h x166) fun x167 =>
 (True) ∧
 OP (iLenS x167) fun x168 =>
 OP (iAdrSl 1 p4 (.int .i64 (1))) fun x171 =>
 OP (iLoad false 1 h x171) fun x172 =>
 (True) ∧
 OP (iAdrSl 1 l3 x172) fun x173 =>
 OP (iLoad false 1 h x173) fun x174 =>
 (True) ∧
 OP (iLenS x174) fun x175 =>
 OP (iBin .leq x168 x175) fun x176 =>
 OP (iPick x160 x176 (.bool false)) fun x177 =>
 GdP x177 true
 (OP (iAdrSl 1 p4 (.int .i64 (1))) fun x181 =>
 OP (iLoad false 1 h x181) fun x182 =>
 (True) ∧
 OP (iAdrSl 1 l3 x182) fun x183 =>
 OP (iLoad false 1 h x183) fun x184 =>
 (True) ∧
 OP (iAdrSl 1 p4 (.int .i64 (0))) fun x187 =>
 OP (iLoad false 1 h x187) fun x188 =>
 (True) ∧
 OP (iAdrSl 1 l3 x188) fun x189 =>
 OP (iLoad false 1 h x189) fun x190 =>
 (True) ∧
 OP (iLenS x190) fun x191 =>
 OP (iSlS x184 none (some x191)) fun x192 =>
 OP (iAdrSl 1 p4 (.int .i64 (0))) fun x195 =>
 OP (iLoad false 1 h x195) fun x196 =>
 (True) ∧
 OP (iAdrSl 1 l3 x196) fun x197 =>
 OP (iLoad false 1 h x197) fun x198 =>
 (True) ∧
 OP (iBin .eql x192 x198) fun x199 =>
 OP (iPick x177 x199 (.bool false)) fun x200 =>
 GdP x200 true
 (CallP P 13 [] h fun x202 h_1 =>
 (True) ∧
 OP (iPick x200 x202 (.bool false)) fun x203 =>
 K x203 h_1)
 ((True) ∧
 OP (iPick x200 undef (.bool false)) fun x203 =>
 K x203 h))
 (OP (iPick x177 undef (.bool false)) fun x200 =>
 GdP x200 true
 (CallP P 13 [] h fun x202 h_1 =>
 (True) ∧
 OP (iPick x200 x202 (.bool false)) fun x203 =>
 K x203 h_1)
 ((True) ∧
 OP (iPick x200 undef (.bool false)) fun x203 =>
 K x203 h)))
 (OP (iPick x160 undef (.bool false)) fun x177 =>
 GdP x177 true
 (OP (iAdrSl 1 p4 (.int .i64 (1))) fun x181 =>
 OP (iLoad false 1 h x181) fun x182 =>
 (True) ∧
 OP (iAdrSl 1 l3 x182) fun x183 =>
 OP (iLoad false 1 h x183) fun x184 =>
 (True) ∧
 OP (iAdrSl 1 p4 (.int .i64 (0))) fun x187 =>
 OP (iLoad false 1 h x187) fun x188 =>
 (True) ∧
 OP (iAdrSl 1 l3 x188) fun x189 =>
 OP (iLoad false 1 h x189) fun x190 =>
 (True) ∧
 OP (iLenS x190) fun x191 =>
 OP (iSlS x184 none (some x191)) fun x192 =>
 OP (iAdrSl 1 p4 (.int .i64 (0))) fun x195 =>
 OP (iLoad false 1 h x195) fun x196 =>
 (True) ∧
 OP (iAdrSl 1 l3 x196) fun x197 =>
 OP (iLoad false 1 h x197) fun x198 =>
 (True) ∧
 OP (iBin .eql x192 x198) fun x199 =>
 OP (iPick x177 x199 (.bool false)) fun x200 =>
 GdP x200 true
 (CallP P 13 [] h fun x202 h_1 =>
 (True) ∧
 OP (iPick x200 x202 (.bool false)) fun x203 =>
 K x203 h_1)
 ((True) ∧
 OP (iPick x200 undef (.bool false)) fun x203 =>
 K x203 h))
 (OP (iPick x177 undef (.bool false)) fun x200 =>
 GdP x200 true
 (CallP P 13 [] h fun x202 h_1 =>
 (True) ∧
 OP (iPick x200 x202 (.bool false)) fun x203 =>
 K x203 h_1)
 ((True) ∧
 OP (iPick x200 undef (.bool false)) fun x203 =>
 K x203 h))))
 (OP (iPick x151 undef (.bool false)) fun x160 =>
 GdP x160 true
 (OP (iAdrSl 1 p4 (.int .i64 (0))) fun x164 =>
 OP (iLoad false 1 h x164) fun x165 =>
 (True) ∧
 OP (iAdrSl 1 l3 x165) fun x166 =>
 OP (iLoad false 1 h x166) fun x167 =>
 (True) ∧
 OP (iLenS x167) fun x168 =>
 OP (iAdrSl 1 p4 (.int .i64 (1))) fun x171 =>
 OP (iLoad false 1 h x171) fun x172 =>
 (True) ∧
 OP (iAdrSl 1 l3 x172) fun x173 =>
 OP (iLoad false 1 h x173) fun x174 =>
 (True) ∧
 OP (iLenS x174) fun x175 =>
 OP (iBin .leq x168 x175) fun x176 =>
 OP (iPick x160 x176 (.bool false)) fun x177 =>
 GdP x177 true
 (OP (iAdrSl 1 p4 (.int .i64 (1))) fun x181 =>
 OP (iLoad false 1 h x181) fun x182 =>
 (True) ∧
 OP (iAdrSl 1 l3 x182) fun x183 =>
 OP (iLoad false 1 h x183) fun x184 =>
 (True) ∧
 OP (iAdrSl 1 p4 (.int .i64 (0))) fun x187 =>
 OP (iLoad false 1 h x187) fun x188 =>
 (True) ∧
 OP (iAdrSl 1 l3 x188) fun x189 =>
 OP (iLoad false 1 h x189) fun x190 =>
 (True) ∧
 OP (iLenS x190) fun x191 =>
 OP (iSlS x184 none (some x191)) fun x192 =>
 OP (iAdrSl 1 p4 (.int .i64 (0))) fun x195 =>
 OP (iLoad false 1 h x195) fun x196 =>
 (True) ∧
 OP (iAdrSl 1 l3 x196) fun x197 =>
 OP (iLoad false 1 h x197) fun x198 =>
 (True) ∧
 OP (iBin .eql x192 x198) fun x199 =>
 OP (iPick x177 x199 (.bool false)) fun x200 =>
 GdP x200 true
 (CallP P 13 [] h fun x202 h_1 =>
 (True) ∧
 OP (iPick x200 x202 (.bool false)) fun x203 =>
 K x203 h_1)
 ((True) ∧
 OP (iPick x200 undef (.bool false)) fun x203 =>
 K x203 h))
 (OP (iPick x177 undef (.bool false)) fun x200 =>
 GdP x200 true
 (CallP P 13 [] h fun x202 h_1 =>
 (True) ∧
 OP (iPick x200 x202 (.bool false)) fun x203 =>
 K x203 h_1)
 ((True) ∧
 OP (iPick x200 undef (.bool false)) fun x203 =>
 K x203 h)))
 (OP (iPick x160 undef (.bool false)) fun x177 =>
 GdP x177 true
 (OP (iAdrSl 1 p4 (.int .i64 (1))) fun x181 =>
 OP (iLoad false 1 h x181) fun x182 =>
 (True) ∧
 OP (iAdrSl 1 l3 x182) fun x183 =>
 OP (iLoad false 1 h x183) fun x184 =>
 (True) ∧
 OP (iAdrSl 1 p4 (.int .i64 (0))) fun x187 =>
 OP (iLoad false 1 h x187) fun x188 =>
 (True) ∧
 OP (iAdrSl 1 l3 x188) fun x189 =>
 OP (iLoad false 1 h x189) fun x190 =>
 (True) ∧
 OP (iLenS x190) fun x191 =>
 OP (iSlS x184 none (some x191)) fun x192 =>
 OP (iAdrSl 1 p4 (.int .i64 (0))) fun x195 =>
 OP (iLoad false 1 h x195) fun x196 =>
 (True) ∧
 OP (iAdrSl 1 l3 x196) fun x197 =>
 OP (iLoad false 1 h x197) fun x198 =>
 (True) ∧
 OP (iBin .eql x192 x198) fun x199 =>
 OP (iPick x177 x199 (.bool false)) fun x200 =>
 GdP x200 true
 (CallP P 13 [] h fun x202 h_1 =>
 (True) ∧
 OP (iPick x200 x202 (.bool false)) fun x203 =>
 K x203 h_1)
 ((True) ∧
 OP (iPick x200 undef (.bool false)) fun x203 =>
 K x203 h))
 (OP (iPick x177 undef (.bool false)) fun x200 =>
 GdP x200 true
 (CallP P 13 [] h fun x202 h_1 =>
 (True) ∧
 OP (iPick x200 x202 (.bool false)) fun x203 =>
 K x203 h_1)
 ((True) ∧
 OP (iPick x200 undef (.bool false)) fun x203 =>
 K x203 h)))))
 (OP (iPick x143 undef (.bool false)) fun x151 =>
 GdP x151 true
 (OP (iAdrSl 1 p4 (.int .i64 (0))) fun x154 =>
 OP (iLoad false 1 h x154) fun x155 =>
 (True) ∧
 OP (iAdrSl 1 p4 (.int .i64 (1))) fun x157 =>
 OP (iLoad false 1 h x157) fun x158 =>
 (True) ∧
 OP (iBin .neq x155 x158) fun x159 =>
 OP (iPick x151 x159 (.bool false)) fun x160 =>
 GdP x160 true
 (OP (iAdrSl 1 p4 (.int .i64 (0))) fun x164 =>
 OP (iLoad false 1 h x164) fun x165 =>
 (True) ∧
 OP (iAdrSl 1 l3 x165) fun x166 =>
 OP (iLoad false 1 h x166) fun x167 =>
 (True) ∧
 OP (iLenS x167) fun x168 =>
 OP (iAdrSl 1 p4 (.int .i64 (1))) fun x171 =>
 OP (iLoad false 1 h x171) fun x172 =>
 (True) ∧
 OP (iAdrSl 1 l3 x172) fun x173 =>
 OP (iLoad false 1 h x173) fun x174 =>
 (True) ∧
 OP (iLenS x174) fun x175 =>
 OP (iBin .leq x168 x175) fun x176 =>
 OP (iPick x160 x176 (.bool false)) fun x177 =>
 GdP x177 true
 (OP (iAdrSl 1 p4 (.int .i64 (1))) fun x181 =>
 OP (iLoad false 1 h x181) fun x182 =>
 (True) ∧
 OP (iAdrSl 1 l3 x182) fun x183 =>
 OP (iLoad false 1 h x183) fun x184 =>
 (True) ∧
 OP (iAdrSl 1 p4 (.int .i64 (0))) fun x187 =>
 OP (iLoad false 1 h x187) fun x188 =>
 (True) ∧
 OP (iAdrSl 1 l3 x188) fun x189 =>
 OP (iLoad false 1 h x189) fun x190 =>
 (True) ∧
 OP (iLenS x190) fun x191 =>
 OP (iSlS x184 none (some x191)) fun x192 =>
 OP (iAdrSl 1 p4 (.int .i64 (0))) fun x195 =>
 OP (iLoad false 1 h x195) fun x196 =>
 (True) ∧
 OP (iAdrSl 1 l3 x196) fun x197 =>
 OP (iLoad false 1 h x197) fun x198 =>
 (True) ∧
 OP (iBin .eql x192 x198) fun x199 =>
 OP (iPick x177 x199 (.bool false)) fun x200 =>
 GdP x200 true
 (CallP P 13 [] h fun x202 h_1 =>
 (True) ∧
 OP (iPick x200 x202 (.bool false)) fun x203 =>
 K x203 h_1)
 ((True) ∧
 OP (iPick x200 undef (.bool false)) fun x203 =>
 K x203 h))
 (OP (iPick x177 undef (.bool false)) fun x200 =>
 GdP x200 true
 (CallP P 13 [] h fun x202 h_1 =>
 (True) ∧
 OP (iPick x200 x202 (.bool false)) fun x203 =>
 K x203 h_1)
 ((True) ∧
 OP (iPick x200 undef (.bool false)) fun x203 =>
 K x203 h)))
 (OP (iPick x160 undef (.bool false)) fun x177 =>
 GdP x177 true
 (OP (iAdrSl 1 p4 (.int .i64 (1))) fun x181 =>
 OP (iLoad false 1 h x181) fun x182 =>
 (True) ∧
 OP (iAdrSl 1 l3 x182) fun x183 =>
 OP (iLoad false 1 h x183) fun x184 =>
 (True) ∧
 OP (iAdrSl 1 p4 (.int .i64 (0))) fun x187 =>
 OP (iLoad false 1 h x187) fun x188 =>
 (True) ∧
 OP (iAdrSl 1 l3 x188) fun x189 =>
 OP (iLoad false 1 h x189) fun x190 =>
 (True) ∧
 OP (iLenS x190) fun x191 =>
 OP (iSlS x184 none (some x191)) fun x192 =>
 OP (iAdrSl 1 p4 (.int .i64 (0))) fun x195 =>
 OP (iLoad false 1 h x195) fun x196 =>
 (True) ∧
 OP (iAdrSl 1 l3 x196) fun x197 =>
 OP (iLoad false 1 h x197) fun x198 =>
 (True) ∧
 OP (iBin .eql x192 x198) fun x199 =>
 OP (iPick x177 x199 (.bool false)) fun x200 =>
 GdP x200 true
 (CallP P 13 [] h fun x202 h_1 =>
 (True) ∧
 OP (iPick x200 x202 (.bool false)) fun x203 =>
 K x203 h_1)
 ((True) ∧
 OP (iPick x200 undef (.bool false)) fun x203 =>
 K x203 h))
 (OP (iPick x177 undef (.bool false)) fun x200 =>
 GdP x200 true
 (CallP P 13 [] h fun x202 h_1 =>
 (True) ∧
 OP (iPick x200 x202 (.bool false)) fun x203 =>
 K x203 h_1)
 ((True) ∧
 OP (iPick x200 undef (.bool false)) fun x203 =>
 K x203 h))))
 (OP (iPick x151 undef (.bool false)) fun x160 =>
 GdP x160 true
 (OP (iAdrSl 1 p4 (.int .i64 (0))) fun x164 =>
 OP (iLoad false 1 h x164) fun x165 =>
 (True) ∧
 OP (iAdrSl 1 l3 x165) fun x166 =>
 OP (iLoad false 1 h x166) fun x167 =>
 (True) ∧
 OP (iLenS x167) fun x168 =>
 OP (iAdrSl 1 p4 (.int .i64 (1))) fun x171 =>
 OP (iLoad false 1 h x171) fun x172 =>
 (True) ∧
 OP (iAdrSl 1 l3 x172) fun x173 =>
 OP (iLoad false 1 h x173) fun x174 =>
 (True) ∧
 OP (iLenS x174) fun x175 =>
 OP (iBin .leq x168 x175) fun x176 =>
 OP (iPick x160 x176 (.bool false)) fun x177 =>
 GdP x177 true
 (OP (iAdrSl 1 p4 (.int .i64 (1))) fun x181 =>
 OP (iLoad false 1 h x181) fun x182 =>
 (True) ∧
 OP (iAdrSl 1 l3 x182) fun x183 =>
 OP (iLoad false 1 h x183) fun x184 =>
 (True) ∧
 OP (iAdrSl 1 p4 (.int .i64 (0))) fun x187 =>
 OP (iLoad false 1 h x187) fun x188 =>
 (True) ∧
 OP (iAdrSl 1 l3 x188) fun x189 =>
 OP (iLoad false 1 h x189) fun x190 =>
 (True) ∧
 OP (iLenS x190) fun x191 =>
 OP (iSlS x184 none (some x191)) fun x192 =>
 OP (iAdrSl 1 p4 (.int .i64 (0))) fun x195 =>
 OP (iLoad false 1 h x195) fun x196 =>
 (True) ∧
 OP (iAdrSl 1 l3 x196) fun x197 =>
 OP (iLoad false 1 h x197) fun x198 =>
 (True) ∧
 OP (iBin .eql x192 x198) fun x199 =>
 OP (iPick x177 x199 (.bool false)) fun x200 =>
 GdP x200 true
 (CallP P 13 [] h fun x202 h_1 =>
 (True) ∧
 OP (iPick x200 x202 (.bool false)) fun x203 =>
 K x203 h_1)
 ((True) ∧
 OP (iPick x200 undef (.bool false)) fun x203 =>
 K x203 h))
 (OP (iPick x177 undef (.bool false)) fun x200 =>
 GdP x200 true
 (CallP P 13 [] h fun x202 h_1 =>
 (True) ∧
 OP (iPick x200 x202 (.bool false)) fun x203 =>
 K x203 h_1)
 ((True) ∧
 OP (iPick x200 undef (.bool false)) fun x203 =>
 K x203 h)))
 (OP (iPick x160 undef (.bool false)) fun x177 =>
 GdP x177 true
 (OP (iAdrSl 1 p4 (.int .i64 (1))) fun x181 =>
 OP (iLoad false 1 h x181) fun x182 =>
 (True) ∧
 OP (iAdrSl 1 l3 x182) fun x183 =>
 OP (iLoad false 1 h x183) fun x184 =>
 (True) ∧
 OP (iAdrSl 1 p4 (.int .i64 (0))) fun x187 =>
 OP (iLoad false 1 h x187) fun x188 =>
 (True) ∧
 OP (iAdrSl 1 l3 x188) fun x189 =>
 OP (iLoad false 1 h x189) fun x190 =>
 (True) ∧
 OP (iLenS x190) fun x191 =>
 OP (iSlS x184 none (some x191)) fun x192 =>
 OP (iAdrSl 1 p4 (.int .i64 (0))) fun x195 =>
 OP (iLoad false 1 h x195) fun x196 =>
 (True) ∧
 OP (iAdrSl 1 l3 x196) fun x197 =>
 OP (iLoad false 1 h x197) fun x198 =>
 (True) ∧
 OP (iBin .eql x192 x198) fun x199 =>
 OP (iPick x177 x199 (.bool false)) fun x200 =>
 GdP x200 true
 (CallP P 13 [] h fun x202 h_1 =>
 (True) ∧
 OP (iPick x200 x202 (.bool false)) fun x203 =>
 K x203 h_1)
 ((True) ∧
 OP (iPick x200 undef (.bool false)) fun x203 =>
 K x203 h))
 (OP (iPick x177 undef (.bool false)) fun x200 =>
 GdP x200 true
 (CallP P 13 [] h fun x202 h_1 =>
 (True) ∧
 OP (iPick x200 x202 (.bool false)) fun x203 =>
 K x203 h_1)
 ((True) ∧
 OP (iPick x200 undef (.bool false)) fun x203 =>
 K x203 h))))))
 (OP (iPick x137 undef (.bool false)) fun x143 =>
 GdP x143 true
 (OP (iAdrSl 1 p4 (.int .i64 (1))) fun x146 =>
 OP (iLoad false 1 h x146) fun x147 =>
 (True) ∧
 OP (iLenSl l3) fun x149 =>
 OP (iBin .lss x147 x149) fun x150 =>
 OP (iPick x143 x150 (.bool false)) fun x151 =>
 GdP x151 true
 (OP (iAdrSl 1 p4 (.int .i64 (0))) fun x154 =>
 OP (iLoad false 1 h x154) fun x155 =>
 (True) ∧
 OP (iAdrSl 1 p4 (.int .i64 (1))) fun x157 =>
 OP (iLoad false 1 h x157) fun x158 =>
 (True) ∧
 OP (iBin .neq x155 x158) fun x159 =>
 OP (iPick x151 x159 (.bool false)) fun x160 =>
 GdP x160 true
 (OP (iAdrSl 1 p4 (.int .i64 (0))) fun x164 =>
 OP (iLoad false 1 h x164) fun x165 =>
 (True) ∧
 OP (iAdrSl 1 l3 x165) fun x166 =>
 OP (iLoad false 1 h x166) fun x167 =>
 (True) ∧
 OP (iLenS x167) fun x168 =>
 OP (iAdrSl 1 p4 (.int .i64 (1))) fun x171 =>
 OP (iLoad false 1 h x171) fun x172 =>
 (True) ∧
 OP (iAdrSl 1 l3 x172) fun x173 =>
 OP (iLoad false 1 h x173) fun x174 =>
 (True) ∧
 OP (iLenS x174) fun x175 =>
 OP (iBin .leq x168 x175) fun x176 =>
 OP (iPick x160 x176 (.bool false)) fun x177 =>
 GdP x177 true
 (OP (iAdrSl 1 p4 (.int .i64 (1))) fun x181 =>
 OP (iLoad false 1 h x181) fun x182 =>
 (True) ∧
 OP (iAdrSl 1 l3 x182) fun x183 =>
 OP (iLoad false 1 h x183) fun x184 =>
 (True) ∧
 OP (iAdrSl 1 p4 (.int .i64 (0))) fun x187 =>
 OP (iLoad false 1 h x187) fun x188 =>
 (True) ∧
 OP (iAdrSl 1 l3 x188) fun x189 =>
 OP (iLoad false 1 h x189) fun x190 =>
 (True) ∧
 OP (iLenS x190) fun x191 =>
 OP (iSlS x184 none (some x191)) fun x192 =>
 OP (iAdrSl 1 p4 (.int .i64 (0))) fun x195 =>
 OP (iLoad false 1 h x195) fun x196 =>
 (True) ∧
 OP (iAdrSl 1 l3 x196) fun x197 =>
 OP (iLoad false 1 h x197) fun x198 =>
 (True) ∧
 OP (iBin .eql x192 x198) fun x199 =>
 OP (iPick x177 x199 (.bool false)) fun x200 =>
 GdP x200 true
 (CallP P 13 [] h fun x202 h_1 =>
 (True) ∧
 OP (iPick x200 x202 (.bool false)) fun x203 =>
 K x203 h_1)
 ((True) ∧
 OP (iPick x200 undef (.bool false)) fun x203 =>
 K x203 h))
 (OP (iPick x177 undef (.bool false)) fun x200 =>
 GdP x200 true
 (CallP P 13 [] h fun x202 h_1 =>
 (True) ∧
 OP (iPick x200 x202 (.bool false)) fun x203 =>
 K x203 h_1)
 ((True) ∧
 OP (iPick x200 undef (.bool false)) fun x203 =>
 K x203 h)))
 (OP (iPick x160 undef (.bool false)) fun x177 =>
 GdP x177 true
 (OP (iAdrSl 1 p4 (.int .i64 (1))) fun x181 =>
 OP (iLoad false 1 h x181) fun x182 =>
 (True) ∧
 OP (iAdrSl 1 l3 x182) fun x183 =>
 OP (iLoad false 1 h x183) fun x184 =>
 (True) ∧
 OP (iAdrSl 1 p4 (.int .i64 (0))) fun x187 =>
 OP (iLoad false 1 h x187) fun x188 =>
 (True) ∧
 OP (iAdrSl 1 l3 x188) fun x189 =>
 OP (iLoad false 1 h x189) fun x190 =>
 (True) ∧
 OP (iLenS x190) fun x191 =>
 OP (iSlS x184 none (some x191)) fun x192 =>
 OP (iAdrSl 1 p4 (.int .i64 (0))) fun x195 =>
 OP (iLoad false 1 h x195) fun x196 =>
 (True) ∧
 OP (iAdrSl 1 l3 x196) fun x197 =>
 OP (iLoad false 1 h x197) fun x198 =>
 (True) ∧
 OP (iBin .eql x192 x198) fun x199 =>
 OP (iPick x177 x199 (.bool false)) fun x200 =>
 GdP x200 true
 (CallP P 13 [] h fun x202 h_1 =>
 (True) ∧
 OP (iPick x200 x202 (.bool false)) fun x203 =>
 K x203 h_1)
 ((True) ∧
 OP (iPick x200 undef (.bool false)) fun x203 =>
 K x203 h))
 (OP (iPick x177 undef (.bool false)) fun x200 =>
 GdP x200 true
 (CallP P 13 [] h fun x202 h_1 =>
 (True) ∧
 OP (iPick x200 x202 (.bool false)) fun x203 =>
 K x203 h_1)
 ((True) ∧
 OP (iPick x200 undef (.bool false)) fun x203 =>
 K x203 h))))
 (OP (iPick x151 undef (.bool false)) fun x160 =>
 GdP x160 true
 (OP (iAdrSl 1 p4 (.int .i64 (0))) fun x164 =>
 OP (iLoad false 1 h x164) fun x165 =>
 (True) ∧
 OP (iAdrSl 1 l3 x165) fun x166 =>
 OP (iLoad false 1 h x166) fun x167 =>
 (True) ∧
 OP (iLenS x167) fun x168 =>
 OP (iAdrSl 1 p4 (.int .i64 (1))) fun x171 =>
 OP (iLoad false 1 h x171) fun x172 =>
 (True) ∧
 OP (iAdrSl 1 l3 x172) fun x173 =>
 OP (iLoad false 1 h x173) fun x174 =>
 (True) ∧
 OP (iLenS x174) fun x175 =>
 OP (iBin .leq x168 x175) fun x176 =>
 OP (iPick x160 x176 (.bool false)) fun x177 =>
 GdP x177 true
 (OP (iAdrSl 1 p4 (.int .i64 (1))) fun x181 =>
 OP (iLoad false 1 h x181) fun x182 =>
 (True) ∧
 OP (iAdrSl 1 l3 x182) fun x183 =>
 OP (iLoad false 1 h x183) fun x184 =>
 (True) ∧
 OP (iAdrSl 1 p4 (.int .i64 (0))) fun x187 =>
 OP (iLoad false 1 h x187) fun x188 =>
 (True) ∧
 OP (iAdrSl 1 l3 x188) fun x189 =>
 OP (iLoad false 1 h x189) fun x190 =>
 (True) ∧
 OP (iLenS x190) fun x191 =>
 OP (iSlS x184 none (some x191)) fun x192 =>
 OP (iAdrSl 1 p4 (.int .i64 (0))) fun x195 =>
 OP (iLoad false 1 h x195) fun x196 =>
 (True) ∧
 OP (iAdrSl 1 l3 x196) fun x197 =>
 OP (iLoad false 1 h x197) fun x198 =>
 (True) ∧
 OP (iBin .eql x192 x198) fun x199 =>
 OP (iPick x177 x199 (.bool false)) fun x200 =>
 GdP x200 true
 (CallP P 13 [] h fun x202 h_1 =>
 (True) ∧
 OP (iPick x200 x202 (.bool false)) fun x203 =>
 K x203 h_1)
 ((True) ∧
 OP (iPick x200 undef (.bool false)) fun x203 =>
 K x203 h))
 (OP (iPick x177 undef (.bool false)) fun x200 =>
 GdP x200 true
 (CallP P 13 [] h fun x202 h_1 =>
 (True) ∧
 OP (iPick x200 x202 (.bool false)) fun x203 =>
 K x203 h_1)
 ((True) ∧
 OP (iPick x200 undef (.bool false)) fun x203 =>
 K x203 h)))
 (OP (iPick x160 undef (.bool false)) fun x177 =>
 GdP x177 true
 (OP (iAdrSl 1 p4 (.int .i64 (1))) fun x181 =>
 OP (iLoad false 1 h x181) fun x182 =>
 (True) ∧
 OP (iAdrSl 1 l3 x182) fun x183 =>
 OP (iLoad false 1 h x183) fun x184 =>
 (True) ∧
 OP (iAdrSl 1 p4 (.int .i64 (0))) fun x187 =>
 OP (iLoad false 1 h x187) fun x188 =>
 (True) ∧
 OP (iAdrSl 1 l3 x188) fun x189 =>
 OP (iLoad false 1 h x189) fun x190 =>
 (True) ∧
 OP (iLenS x190) fun x191 =>
 OP (iSlS x184 none (some x191)) fun x192 =>
 OP (iAdrSl 1 p4 (.int .i64 (0))) fun x195 =>
 OP (iLoad false 1 h x195) fun x196 =>
 (True) ∧
 OP (iAdrSl 1 l3 x196) fun x197 =>
 OP (iLoad false 1 h x197) fun x198 =>
 (True) ∧
 OP (iBin .eql x192 x198) fun x199 =>
 OP (iPick x177 x199 (.bool false)) fun x200 =>
 GdP x200 true
 (CallP P 13 [] h fun x202 h_1 =>
 (True) ∧
 OP (iPick x200 x202 (.bool false)) fun x203 =>
 K x203 h_1)
 ((True) ∧
 OP (iPick x200 undef (.bool false)) fun x203 =>
 K x203 h))
 (OP (iPick x177 undef (.bool false)) fun x200 =>
 GdP x200 true
 (CallP P 13 [] h fun x202 h_1 =>
 (True) ∧
 OP (iPick x200 x202 (.bool false)) fun x203 =>
 K x203 h_1)
 ((True) ∧
 OP (iPick x200 undef (.bool false)) fun x203 =>
 K x203 h)))))
 (OP (iPick x143 undef (.bool false)) fun x151 =>
 GdP x151 true
 (OP (iAdrSl 1 p4 (.int .i64 (0))) fun x154 =>
 OP (iLoad false 1 h x154) fun x155 =>
 (True) ∧
 OP (iAdrSl 1 p4 (.int .i64 (1))) fun x157 =>
 OP (iLoad false 1 h x157) fun x158 =>
 (True) ∧
 OP (iBin .neq x155 x158) fun x159 =>
 OP (iPick x151 x159 (.bool false)) fun x160 =>
 GdP x160 true
 (OP (iAdrSl 1 p4 (.int .i64 (0))) fun x164 =>
 OP (iLoad false 1 h x164) fun x165 =>
 (True) ∧
 OP (iAdrSl 1 l3 x165) fun x166 =>
 OP (iLoad false 1 h x166) fun x167 =>
 (True) ∧
 OP (iLenS x167) fun x168 =>
 OP (iAdrSl 1 p4 (.int .i64 (1))) fun x171 =>
 OP (iLoad false 1 h x171) fun x172 =>
 (True) ∧
 OP (iAdrSl 1 l3 x172) fun x173 =>
 OP (iLoad false 1 h x173) fun x174 =>
 (True) ∧
 OP (iLenS x174) fun x175 =>
 OP (iBin .leq x168 x175) fun x176 =>
 OP (iPick x160 x176 (.bool false)) fun x177 =>
 GdP x177 true
 (OP (iAdrSl 1 p4 (.int .i64 (1))) fun x181 =>
 OP (iLoad false 1 h x181) fun x182 =>
 (True) ∧
 OP (iAdrSl 1 l3 x182) fun x183 =>
 OP (iLoad false 1 h x183) fun x184 =>
 (True) ∧
 OP (iAdrSl 1 p4 (.int .i64 (0))) fun x187 =>
 OP (iLoad false 1 h x187) fun x188 =>
 (True) ∧
 OP (iAdrSl 1 l3 x188) fun x189 =>
 OP (iLoad false 1 h x189) fun x190 =>
 (True) ∧
 OP (iLenS x190) fun x191 =>
 OP (iSlS x184 none (some x191)) fun x192 =>
 OP (iAdrSl 1 p4 (.int .i64 (0))) fun x195 =>
 OP (iLoad false 1 h x195) fun x196 =>
 (True) ∧
 OP (iAdrSl 1 l3 x196) fun x197 =>
 OP (iLoad false 1 h x197) fun x198 =>
 (True) ∧
 OP (iBin .eql x192 x198) fun x199 =>
 OP (iPick x177 x199 (.bool false)) fun x200 =>
 GdP x200 true
 (CallP P 13 [] h fun x202 h_1 =>
 (True) ∧
 OP (iPick x200 x202 (.bool false)) fun x203 =>
 K x203 h_1)
 ((True) ∧
 OP (iPick x200 undef (.bool false)) fun x203 =>
 K x203 h))
 (OP (iPick x177 undef (.bool false)) fun x200 =>
 GdP x200 true
 (CallP P 13 [] h fun x202 h_1 =>
 (True) ∧
 OP (iPick x200 x202 (.bool false)) fun x203 =>
 K x203 h_1)
 ((True) ∧
 OP (iPick x200 undef (.bool false)) fun x203 =>
 K x203 h)))
 (OP (iPick x160 undef (.bool false)) fun x177 =>
 GdP x177 true
 (OP (iAdrSl 1 p4 (.int .i64 (1))) fun x181 =>
 OP (iLoad false 1 h x181) fun x182 =>
 (True) ∧
 OP (iAdrSl 1 l3 x182) fun x183 =>
 OP (iLoad false 1 h x183) fun x184 =>
 (True) ∧
 OP (iAdrSl 1 p4 (.int .i64 (0))) fun x187 =>
 OP (iLoad false 1 h x187) fun x188 =>
 (True) ∧
 OP (iAdrSl 1 l3 x188) fun x189 =>
 OP (iLoad false 1 h x189) fun x190 =>
 (True) ∧
 OP (iLenS x190) fun x191 =>
 OP (iSlS x184 none (some x191)) fun x192 =>
 OP (iAdrSl 1 p4 (.int .i64 (0))) fun x195 =>
 OP (iLoad false 1 h x195) fun x196 =>
 (True) ∧
 OP (iAdrSl 1 l3 x196) fun x197 =>
 OP (iLoad false 1 h x197) fun x198 =>
 (True) ∧
 OP (iBin .eql x192 x198) fun x199 =>
 OP (iPick x177 x199 (.bool false)) fun x200 =>
 GdP x200 true
 (CallP P 13 [] h fun x202 h_1 =>
 (True) ∧
 OP (iPick x200 x202 (.bool false)) fun x203 =>
 K x203 h_1)
 ((True) ∧
 OP (iPick x200 undef (.bool false)) fun x203 =>
 K x203 h))
 (OP (iPick x177 undef (.bool false)) fun x200 =>
 GdP x200 true
 (CallP P 13 [] h fun x202 h_1 =>
 (True) ∧
 OP (iPick x200 x202 (.bool false)) fun x203 =>
 K x203 h_1)
 ((True) ∧
 OP (iPick x200 undef (.bool false)) fun x203 =>
 K x203 h))))
 (OP (iPick x151 undef (.bool false)) fun x160 =>
 GdP x160 true
 (OP (iAdrSl 1 p4 (.int .i64 (0))) fun x164 =>
 OP (iLoad false 1 h x164) fun x165 =>
 (True) ∧
 OP (iAdrSl 1 l3 x165) fun x166 =>
 OP (iLoad false 1 h x166) fun x167 =>
 (True) ∧
 OP (iLenS x167) fun x168 =>
 OP (iAdrSl 1 p4 (.int .i64 (1))) fun x171 =>
 OP (iLoad false 1 h x171) fun x172 =>
 (True) ∧
 OP (iAdrSl 1 l3 x172) fun x173 =>
 OP (iLoad false 1 h x173) fun x174 =>
 (True) ∧
 OP (iLenS x174) fun x175 =>
 OP (iBin .leq x168 x175) fun x176 =>
 OP (iPick x160 x176 (.bool false)) fun x177 =>
 GdP x177 true
 (OP (iAdrSl 1 p4 (.int .i64 (1))) fun x181 =>
 OP (iLoad false 1 h x181) fun x182 =>
 (True) ∧
 OP (iAdrSl 1 l3 x182) fun x183 =>
 OP (iLoad false 1 h x183) fun x184 =>
 (True) ∧
 OP (iAdrSl 1 p4 (.int .i64 (0))) fun x187 =>
 OP (iLoad false 1 h x187) fun x188 =>
 (True) ∧
 OP (iAdrSl 1 l3 x188) fun x189 =>
 OP (iLoad false 1 h x189) fun x190 =>
 (True) ∧
 OP (iLenS x190) fun x191 =>
 OP (iSlS x184 none (some x191)) fun x192 =>
 OP (iAdrSl 1 p4 (.int .i64 (0))) fun x195 =>
 OP (iLoad false 1 h x195) fun x196 =>
 (True) ∧
 OP (iAdrSl 1 l3 x196) fun x197 =>
 OP (iLoad false 1 h x197) fun x198 =>
 (True) ∧
 OP (iBin .eql x192 x198) fun x199 =>
 OP (iPick x177 x199 (.bool false)) fun x200 =>
 GdP x200 true
 (CallP P 13 [] h fun x202 h_1 =>
 (True) ∧
 OP (iPick x200 x202 (.bool false)) fun x203 =>
 K x203 h_1)
 ((True) ∧
 OP (iPick x200 undef (.bool false)) fun x203 =>
 K x203 h))
 (OP (iPick x177 undef (.bool false)) fun x200 =>
 GdP x200 true
 (CallP P 13 [] h fun x202 h_1 =>
 (True) ∧
 OP (iPick x200 x202 (.bool false)) fun x203 =>
 K x203 h_1)
 ((True) ∧
 OP (iPick x200 undef (.bool false)) fun x203 =>
 K x203 h)))
 (OP (iPick x160 undef (.bool false)) fun x177 =>
 GdP x177 true
 (OP (iAdrSl 1 p4 (.int .i64 (1))) fun x181 =>
 OP (iLoad false 1 h x181) fun x182 =>
 (True) ∧
 OP (iAdrSl 1 l3 x182) fun x183 =>
 OP (iLoad false 1 h x183) fun x184 =>
 (True) ∧
 OP (iAdrSl 1 p4 (.int .i64 (0))) fun x187 =>
 OP (iLoad false 1 h x187) fun x188 =>
 (True) ∧
 OP (iAdrSl 1 l3 x188) fun x189 =>
 OP (iLoad false 1 h x189) fun x190 =>
 (True) ∧
 OP (iLenS x190) fun x191 =>
 OP (iSlS x184 none (some x191)) fun x192 =>
 OP (iAdrSl 1 p4 (.int .i64 (0))) fun x195 =>
 OP (iLoad false 1 h x195) fun x196 =>
 (True) ∧
 OP (iAdrSl 1 l3 x196) fun x197 =>
 OP (iLoad false 1 h x197) fun x198 =>
 (True) ∧
 OP (iBin .eql x192 x198) fun x199 =>
 OP (iPick x177 x199 (.bool false)) fun x200 =>
 GdP x200 true
 (CallP P 13 [] h fun x202 h_1 =>
 (True) ∧
 OP (iPick x200 x202 (.bool false)) fun x203 =>
 K x203 h_1)
 ((True) ∧
 OP (iPick x200 undef (.bool false)) fun x203 =>
 K x203 h))
 (OP (iPick x177 undef (.bool false)) fun x200 =>
 GdP x200 true
 (CallP P 13 [] h fun x202 h_1 =>
 (True) ∧
 OP (iPick x200 x202 (.bool false)) fun x203 =>
 K x203 h_1)
 ((True) ∧
 OP (iPick x200 undef (.bool false)) fun x203 =>
 K x203 h))))))))
 (OP (iPick x123 undef (.bool false)) fun x129 =>
 GdP x129 true
 (OP (iAdrSl 1 p4 (.int .i64 (0))) fun x132 =>
 OP (iLoad false 1 h x132) fun x133 =>
 (True) ∧
 OP (iLenSl l3) fun x135 =>
 OP (iBin .lss x133 x135) fun x136 =>
 OP (iPick x129 x136 (.bool false)) fun x137 =>
 GdP x137 true
 (OP (iAdrSl 1 p4 (.int .i64 (1))) fun x140 =>
 OP (iLoad false 1 h x140) fun x141 =>
 (True) ∧
 OP (iBin .geq x141 (.int .i64 (0))) fun x142 =>
 OP (iPick x137 x142 (.bool false)) fun x143 =>
 GdP x143 true
 (OP (iAdrSl 1 p4 (.int .i64 (1))) fun x146 =>
 OP (iLoad false 1 h x146) fun x147 =>
 (True) ∧
 OP (iLenSl l3) fun x149 =>
 OP (iBin .lss x147 x149) fun x150 =>
 OP (iPick x143 x150 (.bool false)) fun x151 =>
 GdP x151 true
 (OP (iAdrSl 1 p4 (.int .i64 (0))) fun x154 =>
 OP (iLoad false 1 h x154) fun x155 =>
 (True) ∧
 OP (iAdrSl 1 p4 (.int .i64 (1))) fun x157 =>
 OP (iLoad false 1 h x157) fun x158 =>
 (True) ∧
 OP (iBin .neq x155 x158) fun x159 =>
 OP (iPick x151 x159 (.bool false)) fun x160 =>
 GdP x160 true
 (OP (iAdrSl 1 p4 (.int .i64 (0))) fun x164 =>
 OP (iLoad false 1 h x164) fun x165 =>
 (True) ∧
 OP (iAdrSl 1 l3 x165) fun x166 =>
 OP (iLoad false 1 h x166) fun x167 =>
 (True) ∧
 OP (iLenS x167) fun x168 =>
 OP (iAdrSl 1 p4 (.int .i64 (1))) fun x171 =>
 OP (iLoad false 1 h x171) fun x172 =>
 (True) ∧
 OP (iAdrSl 1 l3 x172) fun x173 =>
 OP (iLoad false 1 h x173) fun x174 =>
 (True) ∧
 OP (iLenS x174) fun x175 =>
 OP (iBin .leq x168 x175) fun x176 =>
 OP (iPick x160 x176 (.bool false)) fun x177 =>
 GdP x177 true
 (OP (iAdrSl 1 p4 (.int .i64 (1))) fun x181 =>
 OP (iLoad false 1 h x181) fun x182 =>
 (True) ∧
 OP (iAdrSl 1 l3 x182) fun x183 =>
 OP (iLoad false 1 h x183) fun x184 =>
 (True) ∧
 OP (iAdrSl 1 p4 (.int .i64 (0))) fun x187 =>
 OP (iLoad false 1 h x187) fun x188 =>
 (True) ∧
 OP (iAdrSl 1 l3 x188) fun x189 =>
 OP (iLoad false 1 h x189) fun x190 =>
 (True) ∧
 OP (iLenS x190) fun x191 =>
 OP (iSlS x184 none (some x191)) fun x192 =>
 OP (iAdrSl 1 p4 (.int .i64 (0))) fun x195 =>
 OP (iLoad false 1 h x195) fun x196 =>
 (True) ∧
 OP (iAdrSl 1 l3 x196) fun x197 =>
 OP (iLoad false 1 h x197) fun x198 =>
 (True) ∧
 OP (iBin .eql x192 x198) fun x199 =>
 OP (iPick x177 x199 (.bool false)) fun x200 =>
 GdP x200 true
 (CallP P 13 [] h fun x202 h_1 =>
 (True) ∧
 OP (iPick x200 x202 (.bool false)) fun x203 =>
 K x203 h_1)
 ((True) ∧
 OP (iPick x200 undef (.bool false)) fun x203 =>
 K x203 h))
 (OP (iPick x177 undef (.bool false)) fun x200 =>
 GdP x200 true
 (CallP P 13 [] h fun x202 h_1 =>
 (True) ∧
 OP (iPick x200 x202 (.bool false)) fun x203 =>
 K x203 h_1)
 ((True) ∧
 OP (iPick x200 undef (.bool false)) fun x203 =>
 K x203 h)))
 (OP (iPick x160 undef (.bool false)) fun x177 =>
 GdP x177 true
 (OP (iAdrSl 1 p4 (.int .i64 (1))) fun x181 =>
 OP (iLoad false 1 h x181) fun x182 =>
 (True) ∧
 OP (iAdrSl 1 l3 x182) fun x183 =>
 OP (iLoad false 1 h x183) fun x184 =>
 (True) ∧
 OP (iAdrSl 1 p4 (.int .i64 (0))) fun x187 =>
 OP (iLoad false 1 h x187) fun x188 =>
 (True) ∧
 OP (iAdrSl 1 l3 x188) fun x189 =>
 OP (iLoad false 1 h x189) fun x190 =>
 (True) ∧
 OP (iLenS x190) fun x191 =>
 OP (iSlS x184 none (some x191)) fun x192 =>
 OP (iAdrSl 1 p4 (.int .i64 (0))) fun x195 =>
 OP (iLoad false 1 h x195) fun x196 =>
 (True) ∧
 OP (iAdrSl 1 l3 x196) fun x197 =>
 OP (iLoad false 1 h x197) fun x198 =>
 (True) ∧
 OP (iBin .eql x192 x198) fun x199 =>
 OP (iPick x177 x199 (.bool false)) fun x200 =>
 GdP x200 true
 (CallP P 13 [] h fun x202 h_1 =>
 (True) ∧
 OP (iPick x200 x202 (.bool false)) fun x203 =>
 K x203 h_1)
 ((True) ∧
 OP (iPick x200 undef (.bool false)) fun x203 =>
 K x203 h))
 (OP (iPick x177 undef (.bool false)) fun x200 =>
 GdP x200 true
 (CallP P 13 [] h fun x202 h_1 =>
 (True) ∧
 OP (iPick x200 x202 (.bool false)) fun x203 =>
 K x203 h_1)
 ((True) ∧
 OP (iPick x200 undef (.bool false)) fun x203 =>
 K x203 h))))
 (OP (iPick x151 undef (.bool false)) fun x160 =>
 GdP x160 true
 (OP (iAdrSl 1 p4 (.int .i64 (0))) fun x164 =>
 OP (iLoad false 1 h x164) fun x165 =>
 (True) ∧
 OP (iAdrSl 1 l3 x165) fun x166 =>
 OP (iLoad false 1 h x166) fun x167 =>
 (True) ∧
 OP (iLenS x167) fun x168 =>
 OP (iAdrSl 1 p4 (.int .i64 (1))) fun x171 =>
 OP (iLoad false 1 h x171) fun x172 =>
 (True) ∧
 OP (iAdrSl 1 l3 x172) fun x173 =>
 OP (iLoad false 1 h x173) fun x174 =>
 (True) ∧
 OP (iLenS x174) fun x175 =>
 OP (iBin .leq x168 x175) fun x176 =>
 OP (iPick x160 x176 (.bool false)) fun x177 =>
 GdP x177 true
 (OP (iAdrSl 1 p4 (.int .i64 (1))) fun x181 =>
 OP (iLoad false 1 h x181) fun x182 =>
 (True) ∧
 OP (iAdrSl 1 l3 x182) fun x183 =>
 OP (iLoad false 1 h x183) fun x184 =>
 (True) ∧
 OP (iAdrSl 1 p4 (.int .i64 (0))) fun x187 =>
 OP (iLoad false 1 h x187) fun x188 =>
 (True) ∧
 OP (iAdrSl 1 l3 x188) fun x189 =>
 OP (iLoad false 1 h x189) fun x190 =>
 (True) ∧
 OP (iLenS x190) fun x191 =>
 OP (iSlS x184 none (some x191)) fun x192 =>
 OP (iAdrSl 1 p4 (.int .i64 (0))) fun x195 =>
 OP (iLoad false 1 h x195) fun x196 =>
 (True) ∧
 OP (iAdrSl 1 l3 x196) fun x197 =>
 OP (iLoad false 1 h x197) fun x198 =>
 (True) ∧
 OP (iBin .eql x192 x198) fun x199 =>
 OP (iPick x177 x199 (.bool false)) fun x200 =>
 GdP x200 true
 (CallP P 13 [] h fun x202 h_1 =>
 (True) ∧
 OP (iPick x200 x202 (.bool false)) fun x203 =>
 K x203 h_1)
 ((True) ∧
 OP (iPick x200 undef (.bool false)) fun x203 =>
 K x203 h))
 (OP (iPick x177 undef (.bool false)) fun x200 =>
 GdP x200 true
 (CallP P 13 [] h fun x202 h_1 =>
 (True) ∧
 OP (iPick x200 x202 (.bool false)) fun x203 =>
 K x203 h_1)
 ((True) ∧
 OP (iPick x200 undef (.bool false)) fun x203 =>
 K x203 h)))
 (OP (iPick x160 undef (.bool false)) fun x177 =>
 GdP x177 true
 (OP (iAdrSl 1 p4 (.int .i64 (1))) fun x181 =>
 OP (iLoad false 1 h x181) fun x182 =>
 (True) ∧
 OP (iAdrSl 1 l3 x182) fun x183 =>
 OP (iLoad false 1 h x183) fun x184 =>
 (True) ∧
 OP (iAdrSl 1 p4 (.int .i64 (0))) fun x187 =>
 OP (iLoad false 1 h x187) fun x188 =>
 (True) ∧
 OP (iAdrSl 1 l3 x188) fun x189 =>
 OP (iLoad false 1 h x189) fun x190 =>
 (True) ∧
 OP (iLenS x190) fun x191 =>
 OP (iSlS x184 none (some x191)) fun x192 =>
 OP (iAdrSl 1 p4 (.int .i64 (0))) fun x195 =>
 OP (iLoad false 1 h x195) fun x196 =>
 (True) ∧
 OP (iAdrSl 1 l3 x196) fun x197 =>
 OP (iLoad false 1 h x197) fun x198 =>
 (True) ∧
 OP (iBin .eql x192 x198) fun x199 =>
 OP (iPick x177 x199 (.bool false)) fun x200 =>
 GdP x200 true
 (CallP P 13 [] h fun x202 h_1 =>
 (True) ∧
 OP (iPick x200 x202 (.bool false)) fun x203 =>
 K x203 h_1)
 ((True) ∧
 OP (iPick x200 undef (.bool false)) fun x203 =>
 K x203 h))
 (OP (iPick x177 undef (.bool false)) fun x200 =>
 GdP x200 true
 (CallP P 13 [] h fun x202 h_1 =>
 (True) ∧
 OP (iPick x200 x202 (.bool false)) fun x203 =>
 K x203 h_1)
 ((True) ∧
 OP (iPick x200 undef (.bool false)) fun x203 =>
 K x203 h)))))
 (OP (iPick x143 undef (.bool false)) fun x151 =>
 GdP x151 true
 (OP (iAdrSl 1 p4 (.int .i64 (0))) fun x154 =>
 OP (iLoad false 1 h x154) fun x155 =>
 (True) ∧
 OP (iAdrSl 1 p4 (.int .i64 (1))) fun x157 =>
 OP (iLoad false 1 h x157) fun x158 =>
 (True) ∧
 OP (iBin .neq x155 x158) fun x159 =>
 OP (iPick x151 x159 (.bool false)) fun x160 =>
 GdP x160 true
 (OP (iAdrSl 1 p4 (.int .i64 (0))) fun x164 =>
 OP (iLoad false 1 h x164) fun x165 =>
 (True) ∧
 OP (iAdrSl 1 l3 x165) fun x166 =>
 OP (iLoad false 1 h x166) fun x167 =>
 (True) ∧
 OP (iLenS x167) fun x168 =>
 OP (iAdrSl 1 p4 (.int .i64 (1))) fun x171 =>
 OP (iLoad false 1 h x171) fun x172 =>
 (True) ∧
 OP (iAdrSl 1 l3 x172) fun x173 =>
 OP (iLoad false 1 h x173) fun x174 =>
 (True) ∧
 OP (iLenS x174) fun x175 =>
 OP (iBin .leq x168 x175) fun x176 =>
 OP (iPick x160 x176 (.bool false)) fun x177 =>
 GdP x177 true
 (OP (iAdrSl 1 p4 (.int .i64 (1))) fun x181 =>
 OP (iLoad false 1 h x181) fun x182 =>
 (True) ∧
 OP (iAdrSl 1 l3 x182) fun x183 =>
 OP (iLoad false 1 h x183) fun x184 =>
 (True) ∧
 OP (iAdrSl 1 p4 (.int .i64 (0))) fun x187 =>
 OP (iLoad false 1 h x187) fun x188 =>
 (True) ∧
 OP (iAdrSl 1 l3 x188) fun x189 =>
 OP (iLoad false 1 h x189) fun x190 =>
 (True) ∧
 OP (iLenS x190) fun x191 =>
 OP (iSlS x184 none (some x191)) fun x192 =>
 OP (iAdrSl 1 p4 (.int .i64 (0))) fun x195 =>
 OP (iLoad false 1 h x195) fun x196 =>
 (True) ∧
 OP (iAdrSl 1 l3 x196) fun x197 =>
 OP (iLoad false 1 h x197) fun x198 =>
 (True) ∧
 OP (iBin .eql x192 x198) fun x199 =>
 OP (iPick x177 x199 (.bool false)) fun x200 =>
 GdP x200 true
 (CallP P 13 [] h fun x202 h_1 =>
 (True) ∧
 OP (iPick x200 x202 (.bool false)) fun x203 =>
 K x203 h_1)
 ((True) ∧
 OP (iPick x200 undef (.bool false)) fun x203 =>
 K x203 h))
 (OP (iPick x177 undef (.bool false)) fun x200 =>
 GdP x200 true
 (CallP P 13 [] h fun x202 h_1 =>
 (True) ∧
 OP (iPick x200 x202 (.bool false)) fun x203 =>
 K x203 h_1)
 ((True) ∧
 OP (iPick x200 undef (.bool false)) fun x203 =>
 K x203 h)))
 (OP (iPick x160 undef (.bool false)) fun x177 =>
 GdP x177 true
 (OP (iAdrSl 1 p4 (.int .i64 (1))) fun x181 =>
 OP (iLoad false 1 h x181) fun x182 =>
 (True) ∧
 OP (iAdrSl 1 l3 x182) fun x183 =>
 OP (iLoad false 1 h x183) fun x184 =>
 (True) ∧
 OP (iAdrSl 1 p4 (.int .i64 (0))) fun x187 =>
 OP (iLoad false 1 h x187) fun x188 =>
 (True) ∧
 OP (iAdrSl 1 l3 x188) fun x189 =>
 OP (iLoad false 1 h x189) fun x190 =>
 (True) ∧
 OP (iLenS x190) fun x191 =>
 OP (iSlS x184 none (some x191)) fun x192 =>
 OP (iAdrSl 1 p4 (.int .i64 (0))) fun x195 =>
 OP (iLoad false 1 h x195) fun x196 =>
 (True) ∧
 OP (iAdrSl 1 l3 x196) fun x197 =>
 OP (iLoad false 1 h x197) fun x198 =>
 (True) ∧
 OP (iBin .eql x192 x198) fun x199 =>
 OP (iPick x177 x199 (.bool false)) fun x200 =>
 GdP x200 true
 (CallP P 13 [] h fun x202 h_1 =>
 (True) ∧
 OP (iPick x200 x202 (.bool false)) fun x203 =>
 K x203 h_1)
 ((True) ∧
 OP (iPick x200 undef (.bool false)) fun x203 =>
 K x203 h))
 (OP (iPick x177 undef (.bool false)) fun x200 =>
 GdP x200 true
 (CallP P 13 [] h fun x202 h_1 =>
 (True) ∧
 OP (iPick x200 x202 (.bool false)) fun x203 =>
 K x203 h_1)
 ((True) ∧
 OP (iPick x200 undef (.bool false)) fun x203 =>
 K x203 h))))
 (OP (iPick x151 undef (.bool false)) fun x160 =>
 GdP x160 true
 (OP (iAdrSl 1 p4 (.int .i64 (0))) fun x164 =>
 OP (iLoad false 1 h x164) fun x165 =>
 (True) ∧
 OP (iAdrSl 1 l3 x165) fun x166 =>
 OP (iLoad false 1 h x166) fun x167 =>
 (True) ∧
 OP (iLenS x167) fun x168 =>
 OP (iAdrSl 1 p4 (.int .i64 (1))) fun x171 =>
 OP (iLoad false 1 h x171) fun x172 =>
 (True) ∧
 OP (iAdrSl 1 l3 x172) fun x173 =>
 OP (iLoad false 1 h x173) fun x174 =>
 (True) ∧
 OP (iLenS x174) fun x175 =>
 OP (iBin .leq x168 x175) fun x176 =>
 OP (iPick x160 x176 (.bool false)) fun x177 =>
 GdP x177 true
 (OP (iAdrSl 1 p4 (.int .i64 (1))) fun x181 =>
 OP (iLoad false 1 h x181) fun x182 =>
 (True) ∧
 OP (iAdrSl 1 l3 x182) fun x183 =>
 OP (iLoad false 1 h x183) fun x184 =>
 (True) ∧
 OP (iAdrSl 1 p4 (.int .i64 (0))) fun x187 =>
 OP (iLoad false 1 h x187) fun x188 =>
 (True) ∧
 OP (iAdrSl 1 l3 x188) fun x189 =>
 OP (iLoad false 1 h x189) fun x190 =>
 (True) ∧
 OP (iLenS x190) fun x191 =>
 OP (iSlS x184 none (some x191)) fun x192 =>
 OP (iAdrSl 1 p4 (.int .i64 (0))) fun x195 =>
 OP (iLoad false 1 h x195) fun x196 =>
 (True) ∧
 OP (iAdrSl 1 l3 x196) fun x197 =>
 OP (iLoad false 1 h x197) fun x198 =>
 (True) ∧
 OP (iBin .eql x192 x198) fun x199 =>
 OP (iPick x177 x199 (.bool false)) fun x200 =>
 GdP x200 true
 (CallP P 13 [] h fun x202 h_1 =>
 (True) ∧
 OP (iPick x200 x202 (.bool false)) fun x203 =>
 K x203 h_1)
 ((True) ∧
 OP (iPick x200 undef (.bool false)) fun x203 =>
 K x203 h))
 (OP (iPick x177 undef (.bool false)) fun x200 =>
 GdP x200 true
 (CallP P 13 [] h fun x202 h_1 =>
 (True) ∧
 OP (iPick x200 x202 (.bool false)) fun x203 =>
 K x203 h_1)
 ((True) ∧
 OP (iPick x200 undef (.bool false)) fun x203 =>
 K x203 h)))
 (OP (iPick x160 undef (.bool false)) fun x177 =>
 GdP x177 true
 (OP (iAdrSl 1 p4 (.int .i64 (1))) fun x181 =>
 OP (iLoad false 1 h x181) fun x182 =>
 (True) ∧
 OP (iAdrSl 1 l3 x182) fun x183 =>
 OP (iLoad false 1 h x183) fun x184 =>
 (True) ∧
 OP (iAdrSl 1 p4 (.int .i64 (0))) fun x187 =>
 OP (iLoad false 1 h x187) fun x188 =>
 (True) ∧
 OP (iAdrSl 1 l3 x188) fun x189 =>
 OP (iLoad false 1 h x189) fun x190 =>
 (True) ∧
 OP (iLenS x190) fun x191 =>
 OP (iSlS x184 none (some x191)) fun x192 =>
 OP (iAdrSl 1 p4 (.int .i64 (0))) fun x195 =>
 OP (iLoad false 1 h x195) fun x196 =>
 (True) ∧
 OP (iAdrSl 1 l3 x196) fun x197 =>
 OP (iLoad false 1 h x197) fun x198 =>
 (True) ∧
 OP (iBin .eql x192 x198) fun x199 =>
 OP (iPick x177 x199 (.bool false)) fun x200 =>
 GdP x200 true
 (CallP P 13 [] h fun x202 h_1 =>
 (True) ∧
 OP (iPick x200 x202 (.bool false)) fun x203 =>
 K x203 h_1)
 ((True) ∧
 OP (iPick x200 undef (.bool false)) fun x203 =>
 K x203 h))
 (OP (iPick x177 undef (.bool false)) fun x200 =>
 GdP x200 true
 (CallP P 13 [] h fun x202 h_1 =>
 (True) ∧
 OP (iPick x200 x202 (.bool false)) fun x203 =>
 K x203 h_1)
 ((True) ∧
 OP (iPick x200 undef (.bool false)) fun x203 =>
 K x203 h))))))
 (OP (iPick x137 undef (.bool false)) fun x143 =>
 GdP x143 true
 (OP (iAdrSl 1 p4 (.int .i64 (1))) fun x146 =>
 OP (iLoad false 1 h x146) fun x147 =>
 (True) ∧
 OP (iLenSl l3) fun x149 =>
 OP (iBin .lss x147 x149) fun x150 =>
 OP (iPick x143 x150 (.bool false)) fun x151 =>
 GdP x151 true
 (OP (iAdrSl 1 p4 (.int .i64 (0))) fun x154 =>
 OP (iLoad false 1 h x154) fun x155 =>
 (True) ∧
 OP (iAdrSl 1 p4 (.int .i64 (1))) fun x157 =>
 OP (iLoad false 1 h x157) fun x158 =>
 (True) ∧
 OP (iBin .neq x155 x158) fun x159 =>
 OP (iPick x151 x159 (.bool false)) fun x160 =>
 GdP x160 true
 (OP (iAdrSl 1 p4 (.int .i64 (0))) fun x164 =>
 OP (iLoad false 1 h x164) fun x165 =>
 (True) ∧
 OP (iAdrSl 1 l3 x165) fun x166 =>
 OP (iLoad false 1 h x166) fun x167 =>
 (True) ∧
 OP (iLenS x167) fun x168 =>
 OP (iAdrSl 1 p4 (.int .i64 (1))) fun x171 =>
 OP (iLoad false 1 h x171) fun x172 =>
 (True) ∧
 OP (iAdrSl 1 l3 x172) fun x173 =>
 OP (iLoad false 1 h x173) fun x174 =>
 (True) ∧
 OP (iLenS x174) fun x175 =>
 OP (iBin .leq x168 x175) fun x176 =>
 OP (iPick x160 x176 (.bool false)) fun x177 =>
 GdP x177 true
 (OP (iAdrSl 1 p4 (.int .i64 (1))) fun x181 =>
 OP (iLoad false 1 h x181) fun x182 =>
 (True) ∧
 OP (iAdrSl 1 l3 x182) fun x183 =>
 OP (iLoad false 1 h x183) fun x184 =>
 (True) ∧
 OP (iAdrSl 1 p4 (.int .i64 (0))) fun x187 =>
 OP (iLoad false 1 h x187) fun x188 =>
 (True) ∧
 OP (iAdrSl 1 l3 x188) fun x189 =>
 OP (iLoad false 1 h x189) fun x190 =>
 (True) ∧
 OP (iLenS x190) fun x191 =>
 OP (iSlS x184 none (some x191)) fun x192 =>
 OP (iAdrSl 1 p4 (.int .i64 (0))) fun x195 =>
 OP (iLoad false 1 h x195) fun x196 =>
 (True) ∧
 OP (iAdrSl 1 l3 x196) fun x197 =>
 OP (iLoad false 1 h x197) fun x198 =>
 (True) ∧
 OP (iBin .eql x192 x198) fun x199 =>
 OP (iPick x177 x199 (.bool false)) fun x200 =>
 GdP x200 true
 (CallP P 13 [] h fun x202 h_1 =>
 (True) ∧
 OP (iPick x200 x202 (.bool false)) fun x203 =>
 K x203 h_1)
 ((True) ∧
 OP (iPick x200 undef (.bool false)) fun x203 =>
 K x203 h))
 (OP (iPick x177 undef (.bool false)) fun x200 =>
 GdP x200 true
 (CallP P 13 [] h fun x202 h_1 =>
 (True) ∧
 OP (iPick x200 x202 (.bool false)) fun x203 =>
 K x203 h_1)
 ((True) ∧
 OP (iPick x200 undef (.bool false)) fun x203 =>
 K x203 h)))
 (OP (iPick x160 undef (.bool false)) fun x177 =>
 GdP x177 true
 (OP (iAdrSl 1 p4 (.int .i64 (1))) fun x181 =>
 OP (iLoad false 1 h x181) fun x182 =>
 (True) ∧
 OP (iAdrSl 1 l3 x182) fun x183 =>
 OP (iLoad false 1 h x183) fun x184 =>
 (True) ∧
 OP (iAdrSl 1 p4 (.int .i64 (0))) fun x187 =>
 OP (iLoad false 1 h x187) fun x188 =>
 (True) ∧
 OP (iAdrSl 1 l3 x188) fun x189 =>
 OP (iLoad false 1 h x189) fun x190 =>
 (True) ∧
 OP (iLenS x190) fun x191 =>
 OP (iSlS x184 none (some x191)) fun x192 =>
 OP (iAdrSl 1 p4 (.int .i64 (0))) fun x195 =>
 OP (iLoad false 1 h x195) fun x196 =>
 (True) ∧
 OP (iAdrSl 1 l3 x196) fun x197 =>
 OP (iLoad false 1 h x197) fun x198 =>
 (True) ∧
 OP (iBin .eql x192 x198) fun x199 =>
 OP (iPick x177 x199 (.bool false)) fun x200 =>
 GdP x200 true
 (CallP P 13 [] h fun x202 h_1 =>
 (True) ∧
 OP (iPick x200 x202 (.bool false)) fun x203 =>
 K x203 h_1)
 ((True) ∧
 OP (iPick x200 undef (.bool false)) fun x203 =>
 K x203 h))
 (OP (iPick x177 undef (.bool false)) fun x200 =>
 GdP x200 true
 (CallP P 13 [] h fun x202 h_1 =>
 (True) ∧
 OP (iPick x200 x202 (.bool false)) fun x203 =>
 K x203 h_1)
 ((True) ∧
 OP (iPick x200 undef (.bool false)) fun x203 =>
 K x203 h))))
 (OP (iPick x151 undef (.bool false)) fun x160 =>
 GdP x160 true
 (OP (iAdrSl 1 p4 (.int .i64 (0))) fun x164 =>
 OP (iLoad false 1 h x164) fun x165 =>
 (True) ∧
 OP (iAdrSl 1 l3 x165) fun x166 =>
 OP (iLoad false 1 h x166) fun x167 =>
 (True) ∧
 OP (iLenS x167) fun x168 =>
 OP (iAdrSl 1 p4 (.int .i64 (1))) fun x171 =>
 OP (iLoad false 1 h x171) fun x172 =>
 (True) ∧
 OP (iAdrSl 1 l3 x172) fun x173 =>
 OP (iLoad false 1 h x173) fun x174 =>
 (True) ∧
 OP (iLenS x174) fun x175 =>
 OP (iBin .leq x168 x175) fun x176 =>
 OP (iPick x160 x176 (.bool false)) fun x177 =>
 GdP x177 true
 (OP (iAdrSl 1 p4 (.int .i64 (1))) fun x181 =>
 OP (iLoad false 1 h x181) fun x182 =>
 (True) ∧
 OP (iAdrSl 1 l3 x182) fun x183 =>
 OP (iLoad false 1 h x183) fun x184 =>
 (True) ∧
 OP (iAdrSl 1 p4 (.int .i64 (0))) fun x187 =>
 OP (iLoad false 1 h x187) fun x188 =>
 (True) ∧
 OP (iAdrSl 1 l3 x188) fun x189 =>
 OP (iLoad false 1 h x189) fun x190 =>
 (True) ∧
 OP (iLenS x190) fun x191 =>
 OP (iSlS x184 none (some x191)) fun x192 =>
 OP (iAdrSl 1 p4 (.int .i64 (0))) fun x195 =>
 OP (iLoad false 1 h x195) fun x196 =>
 (True) ∧
 OP (iAdrSl 1 l3 x196) fun x197 =>
 OP (iLoad false 1 h x197) fun x198 =>
 (True) ∧
 OP (iBin .eql x192 x198) fun x199 =>
 OP (iPick x177 x199 (.bool false)) fun x200 =>
 GdP x200 true
 (CallP P 13 [] h fun x202 h_1 =>
 (True) ∧
 OP (iPick x200 x202 (.bool false)) fun x203 =>
 K x203 h_1)
 ((True) ∧
 OP (iPick x200 undef (.bool false)) fun x203 =>
 K x203 h))
 (OP (iPick x177 undef (.bool false)) fun x200 =>
 GdP x200 true
 (CallP P 13 [] h fun x202 h_1 =>
 (True) ∧
 OP (iPick x200 x202 (.bool false)) fun x203 =>
 K x203 h_1)
 ((True) ∧
 OP (iPick x200 undef (.bool false)) fun x203 =>
 K x203 h)))
 (OP (iPick x160 undef (.bool false)) fun x177 =>
 GdP x177 true
 (OP (iAdrSl 1 p4 (.int .i64 (1))) fun x181 =>
 OP (iLoad false 1 h x181) fun x182 =>
 (True) ∧
 OP (iAdrSl 1 l3 x182) fun x183 =>
 OP (iLoad false 1 h x183) fun x184 =>
 (True) ∧
 OP (iAdrSl 1 p4 (.int .i64 (0))) fun x187 =>
 OP (iLoad false 1 h x187) fun x188 =>
 (True) ∧
 OP (iAdrSl 1 l3 x188) fun x189 =>
 OP (iLoad false 1 h x189) fun x190 =>
 (True) ∧
 OP (iLenS x190) fun x191 =>
 OP (iSlS x184 none (some x191)) fun x192 =>
 OP (iAdrSl 1 p4 (.int .i64 (0))) fun x195 =>
 OP (iLoad false 1 h x195) fun x196 =>
 (True) ∧
 OP (iAdrSl 1 l3 x196) fun x197 =>
 OP (iLoad false 1 h x197) fun x198 =>
 (True) ∧
 OP (iBin .eql x192 x198) fun x199 =>
 OP (iPick x177 x199 (.bool false)) fun x200 =>
 GdP x200 true
 (CallP P 13 [] h fun x202 h_1 =>
 (True) ∧
 OP (iPick x200 x202 (.bool false)) fun x203 =>
 K x203 h_1)
 ((True) ∧
 OP (iPick x200 undef (.bool false)) fun x203 =>
 K x203 h))
 (OP (iPick x177 undef (.bool false)) fun x200 =>
 GdP x200 true
 (CallP P 13 [] h fun x202 h_1 =>
 (True) ∧
 OP (iPick x200 x202 (.bool false)) fun x203 =>
 K x203 h_1)
 ((True) ∧
 OP (iPick x200 undef (.bool false)) fun x203 =>
 K x203 h)))))
 (OP (iPick x143 undef (.bool false)) fun x151 =>
 GdP x151 true
 (OP (iAdrSl 1 p4 (.int .i64 (0))) fun x154 =>
 OP (iLoad false 1 h x154) fun x155 =>
 (True) ∧
 OP (iAdrSl 1 p4 (.int .i64 (1))) fun x157 =>
 OP (iLoad false 1 h x157) fun x158 =>
 (True) ∧
 OP (iBin .neq x155 x158) fun x159 =>
 OP (iPick x151 x159 (.bool false)) fun x160 =>
 GdP x160 true
 (OP (iAdrSl 1 p4 (.int .i64 (0))) fun x164 =>
 OP (iLoad false 1 h x164) fun x165 =>
 (True) ∧
 OP (iAdrSl 1 l3 x165) fun x166 =>
 OP (iLoad false 1 h x166) fun x167 =>
 (True) ∧
 OP (iLenS x167) fun x168 =>
 OP (iAdrSl 1 p4 (.int .i64 (1))) fun x171 =>
 OP (iLoad false 1 h x171) fun x172 =>
 (True) ∧
 OP (iAdrSl 1 l3 x172) fun x173 =>
 OP (iLoad false 1 h x173) fun x174 =>
 (True) ∧
 OP (iLenS x174) fun x175 =>
 OP (iBin .leq x168 x175) fun x176 =>
 OP (iPick x160 x176 (.bool false)) fun x177 =>
 GdP x177 true
 (OP (iAdrSl 1 p4 (.int .i64 (1))) fun x181 =>
 OP (iLoad false 1 h x181) fun x182 =>
 (True) ∧
 OP (iAdrSl 1 l3 x182) fun x183 =>
 OP (iLoad false 1 h x183) fun x184 =>
 (True) ∧
 OP (iAdrSl 1 p4 (.int .i64 (0))) fun x187 =>
 OP (iLoad false 1 h x187) fun x188 =>
 (True) ∧
 OP (iAdrSl 1 l3 x188) fun x189 =>
 OP (iLoad false 1 h x189) fun x190 =>
 (True) ∧
 OP (iLenS x190) fun x191 =>
 OP (iSlS x184 none (some x191)) fun x192 =>
 OP (iAdrSl 1 p4 (.int .i64 (0))) fun x195 =>
 OP (iLoad false 1 h x195) fun x196 =>
 (True) ∧
 OP (iAdrSl 1 l3 x196) fun x197 =>
 OP (iLoad false 1 h x197) fun x198 =>
 (True) ∧
 OP (iBin .eql x192 x198) fun x199 =>
 OP (iPick x177 x199 (.bool false)) fun x200 =>
 GdP x200 true
 (CallP P 13 [] h fun x202 h_1 =>
 (True) ∧
 OP (iPick x200 x202 (.bool false)) fun x203 =>
 K x203 h_1)
 ((True) ∧
 OP (iPick x200 undef (.bool false)) fun x203 =>
 K x203 h))
 (OP (iPick x177 undef (.bool false)) fun x200 =>
 GdP x200 true
 (CallP P 13 [] h fun x202 h_1 =>
 (True) ∧
 OP (iPick x200 x202 (.bool false)) fun x203 =>
 K x203 h_1)
 ((True) ∧
 OP (iPick x200 undef (.bool false)) fun x203 =>
 K x203 h)))
 (OP (iPick x160 undef (.bool false)) fun x177 =>
 GdP x177 true
 (OP (iAdrSl 1 p4 (.int .i64 (1))) fun x181 =>
 OP (iLoad false 1 h x181) fun x182 =>
 (True) ∧
 OP (iAdrSl 1 l3 x182) fun x183 =>
 OP (iLoad false 1 h x183) fun x184 =>
 (True) ∧
 OP (iAdrSl 1 p4 (.int .i64 (0))) fun x187 =>
 OP (iLoad false 1 h x187) fun x188 =>
 (True) ∧
 OP (iAdrSl 1 l3 x188) fun x189 =>
 OP (iLoad false 1 h x189) fun x190 =>
 (True) ∧
 OP (iLenS x190) fun x191 =>
 OP (iSlS x184 none (some x191)) fun x192 =>
 OP (iAdrSl 1 p4 (.int .i64 (0))) fun x195 =>
 OP (iLoad false 1 h x195) fun x196 =>
 (True) ∧
 OP (iAdrSl 1 l3 x196) fun x197 =>
 OP (iLoad false 1 h x197) fun x198 =>
 (True) ∧
 OP (iBin .eql x192 x198) fun x199 =>
 OP (iPick x177 x199 (.bool false)) fun x200 =>
 GdP x200 true
 (CallP P 13 [] h fun x202 h_1 =>
 (True) ∧
 OP (iPick x200 x202 (.bool false)) fun x203 =>
 K x203 h_1)
 ((True) ∧
 OP (iPick x200 undef (.bool false)) fun x203 =>
 K x203 h))
 (OP (iPick x177 undef (.bool false)) fun x200 =>
 GdP x200 true
 (CallP P 13 [] h fun x202 h_1 =>
 (True) ∧
 OP (iPick x200 x202 (.bool false)) fun x203 =>
 K x203 h_1)
 ((True) ∧
 OP (iPick x200 undef (.bool false)) fun x203 =>
 K x203 h))))
 (OP (iPick x151 undef (.bool false)) fun x160 =>
 GdP x160 true
 (OP (iAdrSl 1 p4 (.int .i64 (0))) fun x164 =>
 OP (iLoad false 1 h x164) fun x165 =>
 (True) ∧
 OP (iAdrSl 1 l3 x165) fun x166 =>
 OP (iLoad false 1 h x166) fun x167 =>
 (True) ∧
 OP (iLenS x167) fun x168 =>
 OP (iAdrSl 1 p4 (.int .i64 (1))) fun x171 =>
 OP (iLoad false 1 h x171) fun x172 =>
 (True) ∧
 OP (iAdrSl 1 l3 x172) fun x173 =>
 OP (iLoad false 1 h x173) fun x174 =>
 (True) ∧
 OP (iLenS x174) fun x175 =>
 OP (iBin .leq x168 x175) fun x176 =>
 OP (iPick x160 x176 (.bool false)) fun x177 =>
 GdP x177 true
 (OP (iAdrSl 1 p4 (.int .i64 (1))) fun x181 =>
 OP (iLoad false 1 h x181) fun x182 =>
 (True) ∧
 OP (iAdrSl 1 l3 x182) fun x183 =>
 OP (iLoad false 1 h x183) fun x184 =>
 (True) ∧
 OP (iAdrSl 1 p4 (.int .i64 (0))) fun x187 =>
 OP (iLoad false 1 h x187) fun x188 =>
 (True) ∧
 OP (iAdrSl 1 l3 x188) fun x189 =>
 OP (iLoad false 1 h x189) fun x190 =>
 (True) ∧
 OP (iLenS x190) fun x191 =>
 OP (iSlS x184 none (some x191)) fun x192 =>
 OP (iAdrSl 1 p4 (.int .i64 (0))) fun x195 =>
 OP (iLoad false 1 h x195) fun x196 =>
 (True) ∧
 OP (iAdrSl 1 l3 x196) fun x197 =>
 OP (iLoad false 1 h x197) fun x198 =>
 (True) ∧
 OP (iBin .eql x192 x198) fun x199 =>
 OP (iPick x177 x199 (.bool false)) fun x200 =>
 GdP x200 true
 (CallP P 13 [] h fun x202 h_1 =>
 (True) ∧
 OP (iPick x200 x202 (.bool false)) fun x203 =>
 K x203 h_1)
 ((True) ∧
 OP (iPick x200 undef (.bool false)) fun x203 =>
 K x203 h))
 (OP (iPick x177 undef (.bool false)) fun x200 =>
 GdP x200 true
 (CallP P 13 [] h fun x202 h_1 =>
 (True) ∧
 OP (iPick x200 x202 (.bool false)) fun x203 =>
 K x203 h_1)
 ((True) ∧
 OP (iPick x200 undef (.bool false)) fun x203 =>
 K x203 h)))
 (OP (iPick x160 undef (.bool false)) fun x177 =>
 GdP x177 true
 (OP (iAdrSl 1 p4 (.int .i64 (1))) fun x181 =>
 OP (iLoad false 1 h x181) fun x182 =>
 (True) ∧
 OP (iAdrSl 1 l3 x182) fun x183 =>
 OP (iLoad false 1 h x183) fun x184 =>
 (True) ∧
 OP (iAdrSl 1 p4 (.int .i64 (0))) fun x187 =>
 OP (iLoad false 1 h x187) fun x188 =>
 (True) ∧
 OP (iAdrSl 1 l3 x188) fun x189 =>
 OP (iLoad false 1 h x189) fun x190 =>
 (True) ∧
 OP (iLenS x190) fun x191 =>
 OP (iSlS x184 none (some x191)) fun x192 =>
 OP (iAdrSl 1 p4 (.int .i64 (0))) fun x195 =>
 OP (iLoad false 1 h x195) fun x196 =>
 (True) ∧
 OP (iAdrSl 1 l3 x196) fun x197 =>
 OP (iLoad false 1 h x197) fun x198 =>
 (True) ∧
 OP (iBin .eql x192 x198) fun x199 =>
 OP (iPick x177 x199 (.bool false)) fun x200 =>
 GdP x200 true
 (CallP P 13 [] h fun x202 h_1 =>
 (True) ∧
 OP (iPick x200 x202 (.bool false)) fun x203 =>
 K x203 h_1)
 ((True) ∧
 OP (iPick x200 undef (.bool false)) fun x203 =>
 K x203 h))
 (OP (iPick x177 undef (.bool false)) fun x200 =>
 GdP x200 true
 (CallP P 13 [] h fun x202 h_1 =>
 (True) ∧
 OP (iPick x200 x202 (.bool false)) fun x203 =>
 K x203 h_1)
 ((True) ∧
 OP (iPick x200 undef (.bool false)) fun x203 =>
 K x203 h)))))))
 (OP (iPick x129 undef (.bool false)) fun x137 =>
 GdP x137 true
 (OP (iAdrSl 1 p4 (.int .i64 (1))) fun x140 =>
 OP (iLoad false 1 h x140) fun x141 =>
 (True) ∧
 OP (iBin .geq x141 (.int .i64 (0))) fun x142 =>
 OP (iPick x137 x142 (.bool false)) fun x143 =>
 GdP x143 true
 (OP (iAdrSl 1 p4 (.int .i64 (1))) fun x146 =>
 OP (iLoad false 1 h x146) fun x147 =>
 (True) ∧
 OP (iLenSl l3) fun x149 =>
 OP (iBin .lss x147 x149) fun x150 =>
 OP (iPick x143 x150 (.bool false)) fun x151 =>
 GdP x151 true
 (OP (iAdrSl 1 p4 (.int .i64 (0))) fun x154 =>
 OP (iLoad false 1 h x154) fun x155 =>
 (True) ∧
 OP (iAdrSl 1 p4 (.int .i64 (1))) fun x157 =>
 OP (iLoad false 1 h x157) fun x158 =>
 (True) ∧
 OP (iBin .neq x155 x158) fun x159 =>
 OP (iPick x151 x159 (.bool false)) fun x160 =>
 GdP x160 true
 (OP (iAdrSl 1 p4 (.int .i64 (0))) fun x164 =>
 OP (iLoad false 1 h x164) fun x165 =>
 (True) ∧
 OP (iAdrSl 1 l3 x165) fun x166 =>
 OP (iLoad false 1 h x166) fun x167 =>
 (True) ∧
 OP (iLenS x167) fun x168 =>
 OP (iAdrSl 1 p4 (.int .i64 (1))) fun x171 =>
 OP (iLoad false 1 h x171) fun x172 =>
 (True) ∧
 OP (iAdrSl 1 l3 x172) fun x173 =>
 OP (iLoad false 1 h x173) fun x174 =>
 (True) ∧
 OP (iLenS x174) fun x175 =>
 OP (iBin .leq x168 x175) fun x176 =>
 OP (iPick x160 x176 (.bool false)) fun x177 =>
 GdP x177 true
 (OP (iAdrSl 1 p4 (.int .i64 (1))) fun x181 =>
 OP (iLoad false 1 h x181) fun x182 =>
 (True) ∧
 OP (iAdrSl 1 l3 x182) fun x183 =>
 OP (iLoad false 1 h x183) fun x184 =>
 (True) ∧
 OP (iAdrSl 1 p4 (.int .i64 (0))) fun x187 =>
 OP (iLoad false 1 h x187) fun x188 =>
 (True) ∧
 OP (iAdrSl 1 l3 x188) fun x189 =>
 OP (iLoad false 1 h x189) fun x190 =>
 (True) ∧
 OP (iLenS x190) fun x191 =>
 OP (iSlS x184 none (some x191)) fun x192 =>
 OP (iAdrSl 1 p4 (.int .i64 (0))) fun x195 =>
 OP (iLoad false 1 h x195) fun x196 =>
 (True) ∧
 OP (iAdrSl 1 l3 x196) fun x197 =>
 OP (iLoad false 1 h x197) fun x198 =>
 (True) ∧
 OP (iBin .eql x192 x198) fun x199 =>
 OP (iPick x177 x199 (.bool false)) fun x200 =>
 GdP x200 true
 (CallP P 13 [] h fun x202 h_1 =>
 (True) ∧
 OP (iPick x200 x202 (.bool false)) fun x203 =>
 K x203 h_1)
 ((True) ∧
 OP (iPick x200 undef (.bool false)) fun x203 =>
 K x203 h))
 (OP (iPick x177 undef (.bool false)) fun x200 =>
 GdP x200 true
 (CallP P 13 [] h fun x202 h_1 =>
 (True) ∧
 OP (iPick x200 x202 (.bool false)) fun x203 =>
 K x203 h_1)
 ((True) ∧
 OP (iPick x200 undef (.bool false)) fun x203 =>
 K x203 h)))
 (OP (iPick x160 undef (.bool false)) fun x177 =>
 GdP x177 true
 (OP (iAdrSl 1 p4 (.int .i64 (1))) fun x181 =>
 OP (iLoad false 1 h x181) fun x182 =>
 (True) ∧
 OP (iAdrSl 1 l3 x182) fun x183 =>
 OP (iLoad false 1 h x183) fun x184 =>
 (True) ∧
 OP (iAdrSl 1 p4 (.int .i64 (0))) fun x187 =>
 OP (iLoad false 1 h x187) fun x188 =>
 (True) ∧
 OP (iAdrSl 1 l3 x188) fun x189 =>
 OP (iLoad false 1 h x189) fun x190 =>
 (True) ∧
 OP (iLenS x190) fun x191 =>
 OP (iSlS x184 none (some x191)) fun x192 =>
 OP (iAdrSl 1 p4 (.int .i64 (0))) fun x195 =>
 OP (iLoad false 1 h x195) fun x196 =>
 (True) ∧
 OP (iAdrSl 1 l3 x196) fun x197 =>
 OP (iLoad false 1 h x197) fun x198 =>
 (True) ∧
 OP (iBin .eql x192 x198) fun x199 =>
 OP (iPick x177 x199 (.bool false)) fun x200 =>
 GdP x200 true
 (CallP P 13 [] h fun x202 h_1 =>
 (True) ∧
 OP (iPick x200 x202 (.bool false)) fun x203 =>
 K x203 h_1)
 ((True) ∧
 OP (iPick x200 undef (.bool false)) fun x203 =>
 K x203 h))
 (OP (iPick x177 undef (.bool false)) fun x200 =>
 GdP x200 true
 (CallP P 13 [] h fun x202 h_1 =>
 (True) ∧
 OP (iPick x200 x202 (.bool false)) fun x203 =>
 K x203 h_1)
 ((True) ∧
 OP (iPick x200 undef (.bool false)) fun x203 =>
 K x203 h))))
 (OP (iPick x151 undef (.bool false)) fun x160 =>
 GdP x160 true
 (OP (iAdrSl 1 p4 (.int .i64 (0))) fun x164 =>
 OP (iLoad false 1 h x164) fun x165 =>
 (True) ∧
 OP (iAdrSl 1 l3 x165) fun x166 =>
 OP (iLoad false 1 h x166) fun x167 =>
 (True) ∧
 OP (iLenS x167) fun x168 =>
 OP (iAdrSl 1 p4 (.int .i64 (1))) fun x171 =>
 OP (iLoad false 1 h x171) fun x172 =>
 (True) ∧
 OP (iAdrSl 1 l3 x172) fun x173 =>
 OP (iLoad false 1 h x173) fun x174 =>
 (True) ∧
 OP (iLenS x174) fun x175 =>
 OP (iBin .leq x168 x175) fun x176 =>
 OP (iPick x160 x176 (.bool false)) fun x177 =>
 GdP x177 true
 (OP (iAdrSl 1 p4 (.int .i64 (1))) fun x181 =>
 OP (iLoad false 1 h x181) fun x182 =>
 (True) ∧
 OP (iAdrSl 1 l3 x182) fun x183 =>
 OP (iLoad false 1 h x183) fun x184 =>
 (True) ∧
 OP (iAdrSl 1 p4 (.int .i64 (0))) fun x187 =>
 OP (iLoad false 1 h x187) fun x188 =>
 (True) ∧
 OP (iAdrSl 1 l3 x188) fun x189 =>
 OP (iLoad false 1 h x189) fun x190 =>
 (True) ∧
 OP (iLenS x190) fun x191 =>
 OP (iSlS x184 none (some x191)) fun x192 =>
 OP (iAdrSl 1 p4 (.int .i64 (0))) fun x195 =>
 OP (iLoad false 1 h x195) fun x196 =>
 (True) ∧
 OP (iAdrSl 1 l3 x196) fun x197 =>
 OP (iLoad false 1 h x197) fun x198 =>
 (True) ∧
 OP (iBin .eql x192 x198) fun x199 =>
 OP (iPick x177 x199 (.bool false)) fun x200 =>
 GdP x200 true
 (CallP P 13 [] h fun x202 h_1 =>
 (True) ∧
 OP (iPick x200 x202 (.bool false)) fun x203 =>
 K x203 h_1)
 ((True) ∧
 OP (iPick x200 undef (.bool false)) fun x203 =>
 K x203 h))
 (OP (iPick x177 undef (.bool false)) fun x200 =>
 GdP x200 true
 (CallP P 13 [] h fun x202 h_1 =>
 (True) ∧
 OP (iPick x200 x202 (.bool false)) fun x203 =>
 K x203 h_1)
 ((True) ∧
 OP (iPick x200 undef (.bool false)) fun x203 =>
 K x203 h)))
 (OP (iPick x160 undef (.bool false)) fun x177 =>
 GdP x177 true
 (OP (iAdrSl 1 p4 (.int .i64 (1))) fun x181 =>
 OP (iLoad false 1 h x181) fun x182 =>
 (True) ∧
 OP (iAdrSl 1 l3 x182) fun x183 =>
 OP (iLoad false 1 h x183) fun x184 =>
 (True) ∧
 OP (iAdrSl 1 p4 (.int .i64 (0))) fun x187 =>
 OP (iLoad false 1 h x187) fun x188 =>
 (True) ∧
 OP (iAdrSl 1 l3 x188) fun x189 =>
 OP (iLoad false 1 h x189) fun x190 =>
 (True) ∧
 OP (iLenS x190) fun x191 =>
 OP (iSlS x184 none (some x191)) fun x192 =>
 OP (iAdrSl 1 p4 (.int .i64 (0))) fun x195 =>
 OP (iLoad false 1 h x195) fun x196 =>
 (True) ∧
 OP (iAdrSl 1 l3 x196) fun x197 =>
 OP (iLoad false 1 h x197) fun x198 =>
 (True) ∧
 OP (iBin .eql x192 x198) fun x199 =>
 OP (iPick x177 x199 (.bool false)) fun x200 =>
 GdP x200 true
 (CallP P 13 [] h fun x202 h_1 =>
 (True) ∧
 OP (iPick x200 x202 (.bool false)) fun x203 =>
 K x203 h_1)
 ((True) ∧
 OP (iPick x200 undef (.bool false)) fun x203 =>
 K x203 h))
 (OP (iPick x177 undef (.bool false)) fun x200 =>
 GdP x200 true
 (CallP P 13 [] h fun x202 h_1 =>
 (True) ∧
 OP (iPick x200 x202 (.bool false)) fun x203 =>
 K x203 h_1)
 ((True) ∧
 OP (iPick x200 undef (.bool false)) fun x203 =>
 K x203 h)))))
 (OP (iPick x143 undef (.bool false)) fun x151 =>
 GdP x151 true
 (OP (iAdrSl 1 p4 (.int .i64 (0))) fun x154 =>
 OP (iLoad false 1 h x154) fun x155 =>
 (True) ∧
 OP (iAdrSl 1 p4 (.int .i64 (1))) fun x157 =>
 OP (iLoad false 1 h x157) fun x158 =>
 (True) ∧
 OP (iBin .neq x155 x158) fun x159 =>
 OP (iPick x151 x159 (.bool false)) fun x160 =>
 GdP x160 true
 (OP (iAdrSl 1 p4 (.int .i64 (0))) fun x164 =>
 OP (iLoad false 1 h x164) fun x165 =>
 (True) ∧
 OP (iAdrSl 1 l3 x165) fun x166 =>
 OP (iLoad false 1 h x166) fun x167 =>
 (True) ∧
 OP (iLenS x167) fun x168 =>
 OP (iAdrSl 1 p4 (.int .i64 (1))) fun x171 =>
 OP (iLoad false 1 h x171) fun x172 =>
 (True) ∧
 OP (iAdrSl 1 l3 x172) fun x173 =>
 OP (iLoad false 1 h x173) fun x174 =>
 (True) ∧
 OP (iLenS x174) fun x175 =>
 OP (iBin .leq x168 x175) fun x176 =>
 OP (iPick x160 x176 (.bool false)) fun x177 =>
 GdP x177 true
 (OP (iAdrSl 1 p4 (.int .i64 (1))) fun x181 =>
 OP (iLoad false 1 h x181) fun x182 =>
 (True) ∧
 OP (iAdrSl 1 l3 x182) fun x183 =>
 OP (iLoad false 1 h x183) fun x184 =>
 (True) ∧
 OP (iAdrSl 1 p4 (.int .i64 (0))) fun x187 =>
 OP (iLoad false 1 h x187) fun x188 =>
 (True) ∧
 OP (iAdrSl 1 l3 x188) fun x189 =>
 OP (iLoad false 1 h x189) fun x190 =>
 (True) ∧
 OP (iLenS x190) fun x191 =>
 OP (iSlS x184 none (some x191)) fun x192 =>
 OP (iAdrSl 1 p4 (.int .i64 (0))) fun x195 =>
 OP (iLoad false 1 h x195) fun x196 =>
 (True) ∧
 OP (iAdrSl 1 l3 x196) fun x197 =>
 OP (iLoad false 1 h x197) fun x198 =>
 (True) ∧
 OP (iBin .eql x192 x198) fun x199 =>
 OP (iPick x177 x199 (.bool false)) fun x200 =>
 GdP x200 true
 (CallP P 13 [] h fun x202 h_1 =>
 (True) ∧
 OP (iPick x200 x202 (.bool false)) fun x203 =>
 K x203 h_1)
 ((True) ∧
 OP (iPick x200 undef (.bool false)) fun x203 =>
 K x203 h))
 (OP (iPick x177 undef (.bool false)) fun x200 =>
 GdP x200 true
 (CallP P 13 [] h fun x202 h_1 =>
 (True) ∧
 OP (iPick x200 x202 (.bool false)) fun x203 =>
 K x203 h_1)
 ((True) ∧
 OP (iPick x200 undef (.bool false)) fun x203 =>
 K x203 h)))
 (OP (iPick x160 undef (.bool false)) fun x177 =>
 GdP x177 true
 (OP (iAdrSl 1 p4 (.int .i64 (1))) fun x181 =>
 OP (iLoad false 1 h x181) fun x182 =>
 (True) ∧
 OP (iAdrSl 1 l3 x182) fun x183 =>
 OP (iLoad false 1 h x183) fun x184 =>
 (True) ∧
 OP (iAdrSl 1 p4 (.int .i64 (0))) fun x187 =>
 OP (iLoad false 1 h x187) fun x188 =>
 (True) ∧
 OP (iAdrSl 1 l3 x188) fun x189 =>
 OP (iLoad false 1 h x189) fun x190 =>
 (True) ∧
 OP (iLenS x190) fun x191 =>
 OP (iSlS x184 none (some x191)) fun x192 =>
 OP (iAdrSl 1 p4 (.int .i64 (0))) fun x195 =>
 OP (iLoad false 1 h x195) fun x196 =>
 (True) ∧
 OP (iAdrSl 1 l3 x196) fun x197 =>
 OP (iLoad false 1 h x197) fun x198 =>
 (True) ∧
 OP (iBin .eql x192 x198) fun x199 =>
 OP (iPick x177 x199 (.bool false)) fun x200 =>
 GdP x200 true
 (CallP P 13 [] h fun x202 h_1 =>
 (True) ∧
 OP (iPick x200 x202 (.bool false)) fun x203 =>
 K x203 h_1)
 ((True) ∧
 OP (iPick x200 undef (.bool false)) fun x203 =>
 K x203 h))
 (OP (iPick x177 undef (.bool false)) fun x200 =>
 GdP x200 true
 (CallP P 13 [] h fun x202 h_1 =>
 (True) ∧
 OP (iPick x200 x202 (.bool false)) fun x203 =>
 K x203 h_1)
 ((True) ∧
 OP (iPick x200 undef (.bool false)) fun x203 =>
 K x203 h))))
 (OP (iPick x151 undef (.bool false)) fun x160 =>
 GdP x160 true
 (OP (iAdrSl 1 p4 (.int .i64 (0))) fun x164 =>
 OP (iLoad false 1 h x164) fun x165 =>
 (True) ∧
 OP (iAdrSl 1 l3 x165) fun x166 =>
 OP (iLoad false 1 h x166) fun x167 =>
 (True) ∧
 OP (iLenS x167) fun x168 =>
 OP (iAdrSl 1 p4 (.int .i64 (1))) fun x171 =>
 OP (iLoad false 1 h x171) fun x172 =>
 (True) ∧
 OP (iAdrSl 1 l3 x172) fun x173 =>
 OP (iLoad false 1 h x173) fun x174 =>
 (True) ∧
 OP (iLenS x174) fun x175 =>
 OP (iBin .leq x168 x175) fun x176 =>
 OP (iPick x160 x176 (.bool false)) fun x177 =>
 GdP x177 true
 (OP (iAdrSl 1 p4 (.int .i64 (1))) fun x181 =>
 OP (iLoad false 1 h x181) fun x182 =>
 (True) ∧
 OP (iAdrSl 1 l3 x182) fun x183 =>
 OP (iLoad false 1 h x183) fun x184 =>
 (True) ∧
 OP (iAdrSl 1 p4 (.int .i64 (0))) fun x187 =>
 OP (iLoad false 1 h x187) fun x188 =>
 (True) ∧
 OP (iAdrSl 1 l3 x188) fun x189 =>
 OP (iLoad false 1 h x189) fun x190 =>
 (True) ∧
 OP (iLenS x190) fun x191 =>
 OP (iSlS x184 none (some x191)) fun x192 =>
 OP (iAdrSl 1 p4 (.int .i64 (0))) fun x195 =>
 OP (iLoad false 1 h x195) fun x196 =>
 (True) ∧
 OP (iAdrSl 1 l3 x196) fun x197 =>
 OP (iLoad false 1 h x197) fun x198 =>
 (True) ∧
 OP (iBin .eql x192 x198) fun x199 =>
 OP (iPick x177 x199 (.bool false)) fun x200 =>
 GdP x200 true
 (CallP P 13 [] h fun x202 h_1 =>
 (True) ∧
 OP (iPick x200 x202 (.bool false)) fun x203 =>
 K x203 h_1)
 ((True) ∧
 OP (iPick x200 undef (.bool false)) fun x203 =>
 K x203 h))
 (OP (iPick x177 undef (.bool false)) fun x200 =>
 GdP x200 true
 (CallP P 13 [] h fun x202 h_1 =>
 (True) ∧
 OP (iPick x200 x202 (.bool false)) fun x203 =>
 K x203 h_1)
 ((True) ∧
 OP (iPick x200 undef (.bool false)) fun x203 =>
 K x203 h)))
 (OP (iPick x160 undef (.bool false)) fun x177 =>
 GdP x177 true
 (OP (iAdrSl 1 p4 (.int .i64 (1))) fun x181 =>
 OP (iLoad false 1 h x181) fun x182 =>
 (True) ∧
 OP (iAdrSl 1 l3 x182) fun x183 =>
 OP (iLoad false 1 h x183) fun x184 =>
 (True) ∧
 OP (iAdrSl 1 p4 (.int .i64 (0))) fun x187 =>
 OP (iLoad false 1 h x187) fun x188 =>
 (True) ∧
 OP (iAdrSl 1 l3 x188) fun x189 =>
 OP (iLoad false 1 h x189) fun x190 =>
 (True) ∧
 OP (iLenS x190) fun x191 =>
 OP (iSlS x184 none (some x191)) fun x192 =>
 OP (iAdrSl 1 p4 (.int .i64 (0))) fun x195 =>
 OP (iLoad false 1 h x195) fun x196 =>
 (True) ∧
 OP (iAdrSl 1 l3 x196) fun x197 =>
 OP (iLoad false 1 h x197) fun x198 =>
 (True) ∧
 OP (iBin .eql x192 x198) fun x199 =>
 OP (iPick x177 x199 (.bool false)) fun x200 =>
 GdP x200 true
 (CallP P 13 [] h fun x202 h_1 =>
 (True) ∧
 OP (iPick x200 x202 (.bool false)) fun x203 =>
 K x203 h_1)
 ((True) ∧
 OP (iPick x200 undef (.bool false)) fun x203 =>
 K x203 h))
 (OP (iPick x177 undef (.bool false)) fun x200 =>
 GdP x200 true
 (CallP P 13 [] h fun x202 h_1 =>
 (True) ∧
 OP (iPick x200 x202 (.bool false)) fun x203 =>
 K x203 h_1)
 ((True) ∧
 OP (iPick x200 undef (.bool false)) fun x203 =>
 K x203 h))))))
 (OP (iPick x137 undef (.bool false)) fun x143 =>
 GdP x143 true
 (OP (iAdrSl 1 p4 (.int .i64 (1))) fun x146 =>
 OP (iLoad false 1 h x146) fun x147 =>
 (True) ∧
 OP (iLenSl l3) fun x149 =>
 OP (iBin .lss x147 x149) fun x150 =>
 OP (iPick x143 x150 (.bool false)) fun x151 =>
 GdP x151 true
 (OP (iAdrSl 1 p4 (.int .i64 (0))) fun x154 =>
 OP (iLoad false 1 h x154) fun x155 =>
 (True) ∧
 OP (iAdrSl 1 p4 (.int .i64 (1))) fun x157 =>
 OP (iLoad false 1 h x157) fun x158 =>
 (True) ∧
 OP (iBin .neq x155 x158) fun x159 =>
 OP (iPick x151 x159 (.bool false)) fun x160 =>
 GdP x160 true
 (OP (iAdrSl 1 p4 (.int .i64 (0))) fun x164 =>
 OP (iLoad false 1 h x164) fun x165 =>
 (True) ∧
 OP (iAdrSl 1 l3 x165) fun x166 =>
 OP (iLoad false 1 h x166) fun x167 =>
 (True) ∧
 OP (iLenS x167) fun x168 =>
 OP (iAdrSl 1 p4 (.int .i64 (1))) fun x171 =>
 OP (iLoad false 1 h x171) fun x172 =>
 (True) ∧
 OP (iAdrSl 1 l3 x172) fun x173 =>
 OP (iLoad false 1 h x173) fun x174 =>
 (True) ∧
 OP (iLenS x174) fun x175 =>
 OP (iBin .leq x168 x175) fun x176 =>
 OP (iPick x160 x176 (.bool false)) fun x177 =>
 GdP x177 true
 (OP (iAdrSl 1 p4 (.int .i64 (1))) fun x181 =>
 OP (iLoad false 1 h x181) fun x182 =>
 (True) ∧
 OP (iAdrSl 1 l3 x182) fun x183 =>
 OP (iLoad false 1 h x183) fun x184 =>
 (True) ∧
 OP (iAdrSl 1 p4 (.int .i64 (0))) fun x187 =>
 OP (iLoad false 1 h x187) fun x188 =>
 (True) ∧
 OP (iAdrSl 1 l3 x188) fun x189 =>
 OP (iLoad false 1 h x189) fun x190 =>
 (True) ∧
 OP (iLenS x190) fun x191 =>
 OP (iSlS x184 none (some x191)) fun x192 =>
 OP (iAdrSl 1 p4 (.int .i64 (0))) fun x195 =>
 OP (iLoad false 1 h x195) fun x196 =>
 (True) ∧
 OP (iAdrSl 1 l3 x196) fun x197 =>
 OP (iLoad false 1 h x197) fun x198 =>
 (True) ∧
 OP (iBin .eql x192 x198) fun x199 =>
 OP (iPick x177 x199 (.bool false)) fun x200 =>
 GdP x200 true
 (CallP P 13 [] h fun x202 h_1 =>
 (True) ∧
 OP (iPick x200 x202 (.bool false)) fun x203 =>
 K x203 h_1)
 ((True) ∧
 OP (iPick x200 undef (.bool false)) fun x203 =>
 K x203 h))
 (OP (iPick x177 undef (.bool false)) fun x200 =>
 GdP x200 true
 (CallP P 13 [] h fun x202 h_1 =>
 (True) ∧
 OP (iPick x200 x202 (.bool false)) fun x203 =>
 K x203 h_1)
 ((True) ∧
 OP (iPick x200 undef (.bool false)) fun x203 =>
 K x203 h)))
 (OP (iPick x160 undef (.bool false)) fun x177 =>
 GdP x177 true
 (OP (iAdrSl 1 p4 (.int .i64 (1))) fun x181 =>
 OP (iLoad false 1 h x181) fun x182 =>
 (True) ∧
 OP (iAdrSl 1 l3 x182) fun x183 =>
 OP (iLoad false 1 h x183) fun x184 =>
 (True) ∧
 OP (iAdrSl 1 p4 (.int .i64 (0))) fun x187 =>
 OP (iLoad false 1 h x187) fun x188 =>
 (True) ∧
 OP (iAdrSl 1 l3 x188) fun x189 =>
 OP (iLoad false 1 h x189) fun x190 =>
 (True) ∧
 OP (iLenS x190) fun x191 =>
 OP (iSlS x184 none (some x191)) fun x192 =>
 OP (iAdrSl 1 p4 (.int .i64 (0))) fun x195 =>
 OP (iLoad false 1 h x195) fun x196 =>
 (True) ∧
 OP (iAdrSl 1 l3 x196) fun x197 =>
 OP (iLoad false 1 h x197) fun x198 =>
 (True) ∧
 OP (iBin .eql x192 x198) fun x199 =>
 OP (iPick x177 x199 (.bool false)) fun x200 =>
 GdP x200 true
 (CallP P 13 [] h fun x202 h_1 =>
 (True) ∧
 OP (iPick x200 x202 (.bool false)) fun x203 =>
 K x203 h_1)
 ((True) ∧
 OP (iPick x200 undef (.bool false)) fun x203 =>
 K x203 h))
 (OP (iPick x177 undef (.bool false)) fun x200 =>
 GdP x200 true
 (CallP P 13 [] h fun x202 h_1 =>
 (True) ∧
 OP (iPick x200 x202 (.bool false)) fun x203 =>
 K x203 h_1)
 ((True) ∧
 OP (iPick x200 undef (.bool false)) fun x203 =>
 K x203 h))))
 (OP (iPick x151 undef (.bool false)) fun x160 =>
 GdP x160 true
 (OP (iAdrSl 1 p4 (.int .i64 (0))) fun x164 =>
 OP (iLoad false 1 h x164) fun x165 =>
 (True) ∧
 OP (iAdrSl 1 l3 x165) fun x166 =>
 OP (iLoad false 1 h x166) fun x167 =>
 (True) ∧
 OP (iLenS x167) fun x168 =>
 OP (iAdrSl 1 p4 (.int .i64 (1))) fun x171 =>
 OP (iLoad false 1 h x171) fun x172 =>
 (True) ∧
 OP (iAdrSl 1 l3 x172) fun x173 =>
 OP (iLoad false 1 h x173) fun x174 =>
 (True) ∧
 OP (iLenS x174) fun x175 =>
 OP (iBin .leq x168 x175) fun x176 =>
 OP (iPick x160 x176 (.bool false)) fun x177 =>
 GdP x177 true
 (OP (iAdrSl 1 p4 (.int .i64 (1))) fun x181 =>
 OP (iLoad false 1 h x181) fun x182 =>
 (True) ∧
 OP (iAdrSl 1 l3 x182) fun x183 =>
 OP (iLoad false 1 h x183) fun x184 =>
 (True) ∧
 OP (iAdrSl 1 p4 (.int .i64 (0))) fun x187 =>
 OP (iLoad false 1 h x187) fun x188 =>
 (True) ∧
 OP (iAdrSl 1 l3 x188) fun x189 =>
 OP (iLoad false 1 h x189) fun x190 =>
 (True) ∧
 OP (iLenS x190) fun x191 =>
 OP (iSlS x184 none (some x191)) fun x192 =>
 OP (iAdrSl 1 p4 (.int .i64 (0))) fun x195 =>
 OP (iLoad false 1 h x195) fun x196 =>
 (True) ∧
 OP (iAdrSl 1 l3 x196) fun x197 =>
 OP (iLoad false 1 h x197) fun x198 =>
 (True) ∧
 OP (iBin .eql x192 x198) fun x199 =>
 OP (iPick x177 x199 (.bool false)) fun x200 =>
 GdP x200 true
 (CallP P 13 [] h fun x202 h_1 =>
 (True) ∧
 OP (iPick x200 x202 (.bool false)) fun x203 =>
 K x203 h_1)
 ((True) ∧
 OP (iPick x200 undef (.bool false)) fun x203 =>
 K x203 h))
 (OP (iPick x177 undef (.bool false)) fun x200 =>
 GdP x200 true
 (CallP P 13 [] h fun x202 h_1 =>
 (True) ∧
 OP (iPick x200 x202 (.bool false)) fun x203 =>
 K x203 h_1)
 ((True) ∧
 OP (iPick x200 undef (.bool false)) fun x203 =>
 K x203 h)))
 (OP (iPick x160 undef (.bool false)) fun x177 =>
 GdP x177 true
 (OP (iAdrSl 1 p4 (.int .i64 (1))) fun x181 =>
 OP (iLoad false 1 h x181) fun x182 =>
 (True) ∧
 OP (iAdrSl 1 l3 x182) fun x183 =>
 OP (iLoad false 1 h x183) fun x184 =>
 (True) ∧
 OP (iAdrSl 1 p4 (.int .i64 (0))) fun x187 =>
 OP (iLoad false 1 h x187) fun x188 =>
 (True) ∧
 OP (iAdrSl 1 l3 x188) fun x189 =>
 OP (iLoad false 1 h x189) fun x190 =>
 (True) ∧
 OP (iLenS x190) fun x191 =>
 OP (iSlS x184 none (some x191)) fun x192 =>
 OP (iAdrSl 1 p4 (.int .i64 (0))) fun x195 =>
 OP (iLoad false 1 h x195) fun x196 =>
 (True) ∧
 OP (iAdrSl 1 l3 x196) fun x197 =>
 OP (iLoad false 1 h x197) fun x198 =>
 (True) ∧
 OP (iBin .eql x192 x198) fun x199 =>
 OP (iPick x177 x199 (.bool false)) fun x200 =>
 GdP x200 true
 (CallP P 13 [] h fun x202 h_1 =>
 (True) ∧
 OP (iPick x200 x202 (.bool false)) fun x203 =>
 K x203 h_1)
 ((True) ∧
 OP (iPick x200 undef (.bool false)) fun x203 =>
 K x203 h))
 (OP (iPick x177 undef (.bool false)) fun x200 =>
 GdP x200 true
 (CallP P 13 [] h fun x202 h_1 =>
 (True) ∧
 OP (iPick x200 x202 (.bool false)) fun x203 =>
 K x203 h_1)
 ((True) ∧
 OP (iPick x200 undef (.bool false)) fun x203 =>
 K x203 h)))))
 (OP (iPick x143 undef (.bool false)) fun x151 =>
 GdP x151 true
 (OP (iAdrSl 1 p4 (.int .i64 (0))) fun x154 =>
 OP (iLoad false 1 h x154) fun x155 =>
 (True) ∧
 OP (iAdrSl 1 p4 (.int .i64 (1))) fun x157 =>
 OP (iLoad false 1 h x157) fun x158 =>
 (True) ∧
 OP (iBin .neq x155 x158) fun x159 =>
 OP (iPick x151 x159 (.bool false)) fun x160 =>
 GdP x160 true
 (OP (iAdrSl 1 p4 (.int .i64 (0))) fun x164 =>
 OP (iLoad false 1 h x164) fun x165 =>
 (True) ∧
 OP (iAdrSl 1 l3 x165) fun x166 =>
 OP (iLoad false 1 h x166) fun x167 =>
 (True) ∧
 OP (iLenS x167) fun x168 =>
 OP (iAdrSl 1 p4 (.int .i64 (1))) fun x171 =>
 OP (iLoad false 1 h x171) fun x172 =>
 (True) ∧
 OP (iAdrSl 1 l3 x172) fun x173 =>
 OP (iLoad false 1 h x173) fun x174 =>
 (True) ∧
 OP (iLenS x174) fun x175 =>
 OP (iBin .leq x168 x175) fun x176 =>
 OP (iPick x160 x176 (.bool false)) fun x177 =>
 GdP x177 true
 (OP (iAdrSl 1 p4 (.int .i64 (1))) fun x181 =>
 OP (iLoad false 1 h x181) fun x182 =>
 (True) ∧
 OP (iAdrSl 1 l3 x182) fun x183 =>
 OP (iLoad false 1 h x183) fun x184 =>
 (True) ∧
 OP (iAdrSl 1 p4 (.int .i64 (0))) fun x187 =>
 OP (iLoad false 1 h x187) fun x188 =>
 (True) ∧
 OP (iAdrSl 1 l3 x188) fun x189 =>
 OP (iLoad false 1 h x189) fun x190 =>
 (True) ∧
 OP (iLenS x190) fun x191 =>
 OP (iSlS x184 none (some x191)) fun x192 =>
 OP (iAdrSl 1 p4 (.int .i64 (0))) fun x195 =>
 OP (iLoad false 1 h x195) fun x196 =>
 (True) ∧
 OP (iAdrSl 1 l3 x196) fun x197 =>
 OP (iLoad false 1 h x197) fun x198 =>
 (True) ∧
 OP (iBin .eql x192 x198) fun x199 =>
 OP (iPick x177 x199 (.bool false)) fun x200 =>
 GdP x200 true
 (CallP P 13 [] h fun x202 h_1 =>
 (True) ∧
 OP (iPick x200 x202 (.bool false)) fun x203 =>
 K x203 h_1)
 ((True) ∧
 OP (iPick x200 undef (.bool false)) fun x203 =>
 K x203 h))
 (OP (iPick x177 undef (.bool false)) fun x200 =>
 GdP x200 true
 (CallP P 13 [] h fun x202 h_1 =>
 (True) ∧
 OP (iPick x200 x202 (.bool false)) fun x203 =>
 K x203 h_1)
 ((True) ∧
 OP (iPick x200 undef (.bool false)) fun x203 =>
 K x203 h)))
 (OP (iPick x160 undef (.bool false)) fun x177 =>
 GdP x177 true
 (OP (iAdrSl 1 p4 (.int .i64 (1))) fun x181 =>
 OP (iLoad false 1 h x181) fun x182 =>
 (True) ∧
 OP (iAdrSl 1 l3 x182) fun x183 =>
 OP (iLoad false 1 h x183) fun x184 =>
 (True) ∧
 OP (iAdrSl 1 p4 (.int .i64 (0))) fun x187 =>
 OP (iLoad false 1 h x187) fun x188 =>
 (True) ∧
 OP (iAdrSl 1 l3 x188) fun x189 =>
 OP (iLoad false 1 h x189) fun x190 =>
 (True) ∧
 OP (iLenS x190) fun x191 =>
 OP (iSlS x184 none (some x191)) fun x192 =>
 OP (iAdrSl 1 p4 (.int .i64 (0))) fun x195 =>
 OP (iLoad false 1 h x195) fun x196 =>
 (True) ∧
 OP (iAdrSl 1 l3 x196) fun x197 =>
 OP (iLoad false 1 h x197) fun x198 =>
 (True) ∧
 OP (iBin .eql x192 x198) fun x199 =>
 OP (iPick x177 x199 (.bool false)) fun x200 =>
 GdP x200 true
 (CallP P 13 [] h fun x202 h_1 =>
 (True) ∧
 OP (iPick x200 x202 (.bool false)) fun x203 =>
 K x203 h_1)
 ((True) ∧
 OP (iPick x200 undef (.bool false)) fun x203 =>
 K x203 h))
 (OP (iPick x177 undef (.bool false)) fun x200 =>
 GdP x200 true
 (CallP P 13 [] h fun x202 h_1 =>
 (True) ∧
 OP (iPick x200 x202 (.bool false)) fun x203 =>
 K x203 h_1)
 ((True) ∧
 OP (iPick x200 undef (.bool false)) fun x203 =>
 K x203 h))))
 (OP (iPick x151 undef (.bool false)) fun x160 =>
 GdP x160 true
 (OP (iAdrSl 1 p4 (.int .i64 (0))) fun x164 =>
 OP (iLoad false 1 h x164) fun x165 =>
 (True) ∧
 OP (iAdrSl 1 l3 x165) fun x166 =>
 OP (iLoad false 1 h x166) fun x167 =>
 (True) ∧
 OP (iLenS x167) fun x168 =>
 OP (iAdrSl 1 p4 (.int .i64 (1))) fun x171 =>
 OP (iLoad false 1 h x171) fun x172 =>
 (True) ∧
 OP (iAdrSl 1 l3 x172) fun x173 =>
 OP (iLoad false 1 h x173) fun x174 =>
 (True) ∧
 OP (iLenS x174) fun x175 =>
 OP (iBin .leq x168 x175) fun x176 =>
 OP (iPick x160 x176 (.bool false)) fun x177 =>
 GdP x177 true
 (OP (iAdrSl 1 p4 (.int .i64 (1))) fun x181 =>
 OP (iLoad false 1 h x181) fun x182 =>
 (True) ∧
 OP (iAdrSl 1 l3 x182) fun x183 =>
 OP (iLoad false 1 h x183) fun x184 =>
 (True) ∧
 OP (iAdrSl 1 p4 (.int .i64 (0))) fun x187 =>
 OP (iLoad false 1 h x187) fun x188 =>
 (True) ∧
 OP (iAdrSl 1 l3 x188) fun x189 =>
 OP (iLoad false 1 h x189) fun x190 =>
 (True) ∧
 OP (iLenS x190) fun x191 =>
 OP (iSlS x184 none (some x191)) fun x192 =>
 OP (iAdrSl 1 p4 (.int .i64 (0))) fun x195 =>
 OP (iLoad false 1 h x195) fun x196 =>
 (True) ∧
 OP (iAdrSl 1 l3 x196) fun x197 =>
 OP (iLoad false 1 h x197) fun x198 =>
 (True) ∧
 OP (iBin .eql x192 x198) fun x199 =>
 OP (iPick x177 x199 (.bool false)) fun x200 =>
 GdP x200 true
 (CallP P 13 [] h fun x202 h_1 =>
 (True) ∧
 OP (iPick x200 x202 (.bool false)) fun x203 =>
 K x203 h_1)
 ((True) ∧
 OP (iPick x200 undef (.bool false)) fun x203 =>
 K x203 h))
 (OP (iPick x177 undef (.bool false)) fun x200 =>
 GdP x200 true
 (CallP P 13 [] h fun x202 h_1 =>
 (True) ∧
 OP (iPick x200 x202 (.bool false)) fun x203 =>
 K x203 h_1)
 ((True) ∧
 OP (iPick x200 undef (.bool false)) fun x203 =>
 K x203 h)))
 (OP (iPick x160 undef (.bool false)) fun x177 =>
 GdP x177 true
 (OP (iAdrSl 1 p4 (.int .i64 (1))) fun x181 =>
 OP (iLoad false 1 h x181) fun x182 =>
 (True) ∧
 OP (iAdrSl 1 l3 x182) fun x183 =>
 OP (iLoad false 1 h x183) fun x184 =>
 (True) ∧
 OP (iAdrSl 1 p4 (.int .i64 (0))) fun x187 =>
 OP (iLoad false 1 h x187) fun x188 =>
 (True) ∧
 OP (iAdrSl 1 l3 x188) fun x189 =>
 OP (iLoad false 1 h x189) fun x190 =>
 (True) ∧
 OP (iLenS x190) fun x191 =>
 OP (iSlS x184 none (some x191)) fun x192 =>
 OP (iAdrSl 1 p4 (.int .i64 (0))) fun x195 =>
 OP (iLoad false 1 h x195) fun x196 =>
 (True) ∧
 OP (iAdrSl 1 l3 x196) fun x197 =>
 OP (iLoad false 1 h x197) fun x198 =>
 (True) ∧
 OP (iBin .eql x192 x198) fun x199 =>
 OP (iPick x177 x199 (.bool false)) fun x200 =>
 GdP x200 true
 (CallP P 13 [] h fun x202 h_1 =>
 (True) ∧
 OP (iPick x200 x202 (.bool false)) fun x203 =>
 K x203 h_1)
 ((True) ∧
 OP (iPick x200 undef (.bool false)) fun x203 =>
 K x203 h))
 (OP (iPick x177 undef (.bool false)) fun x200 =>
 GdP x200 true
 (CallP P 13 [] h fun x202 h_1 =>
 (True) ∧
 OP (iPick x200 x202 (.bool false)) fun x203 =>
 K x203 h_1)
 ((True) ∧
 OP (iPick x200 undef (.bool false)) fun x203 =>
 K x203 h)))))))))
 (OP (iPick x118 undef (.bool false)) fun x123 =>
 GdP x123 true
 (OP (iAdrSl 1 p4 (.int .i64 (0))) fun x126 =>
 OP (iLoad false 1 h x126) fun x127 =>
 (True) ∧
 OP (iBin .geq x127 (.int .i64 (0))) fun x128 =>
 OP (iPick x123 x128 (.bool false)) fun x129 =>
 GdP x129 true
 (OP (iAdrSl 1 p4 (.int .i64 (0))) fun x132 =>
 OP (iLoad false 1 h x132) fun x133 =>
 (True) ∧
 OP (iLenSl l3) fun x135 =>
 OP (iBin .lss x133 x135) fun x136 =>
 OP (iPick x129 x136 (.bool false)) fun x137 =>
 GdP x137 true
 (OP (iAdrSl 1 p4 (.int .i64 (1))) fun x140 =>
 OP (iLoad false 1 h x140) fun x141 =>
 (True) ∧
 OP (iBin .geq x141 (.int .i64 (0))) fun x142 =>
 OP (iPick x137 x142 (.bool false)) fun x143 =>
 GdP x143 true
 (OP (iAdrSl 1 p4 (.int .i64 (1))) fun x146 =>
 OP (iLoad false 1 h x146) fun x147 =>
 (True) ∧
 OP (iLenSl l3) fun x149 =>
 OP (iBin .lss x147 x149) fun x150 =>
 OP (iPick x143 x150 (.bool false)) fun x151 =>
 GdP x151 true
 (OP (iAdrSl 1 p4 (.int .i64 (0))) fun x154 =>
 OP (iLoad false 1 h x154) fun x155 =>
 (True) ∧
 OP (iAdrSl 1 p4 (.int .i64 (1))) fun x157 =>
 OP (iLoad false 1 h x157) fun x158 =>
 (True) ∧
 OP (iBin .neq x155 x158) fun x159 =>
 OP (iPick x151 x159 (.bool false)) fun x160 =>
 GdP x160 true
 (OP (iAdrSl 1 p4 (.int .i64 (0))) fun x164 =>
 OP (iLoad false 1 h x164) fun x165 =>
 (True) ∧
 OP (iAdrSl 1 l3 x165) fun x166 =>
 OP (iLoad false 1 h x166) fun x167 =>
 (True) ∧
 OP (iLenS x167) fun x168 =>
 OP (iAdrSl 1 p4 (.int .i64 (1))) fun x171 =>
 OP (iLoad false 1 h x171) fun x172 =>
 (True) ∧
 OP (iAdrSl 1 l3 x172) fun x173 =>
 OP (iLoad false 1 h x173) fun x174 =>
 (True) ∧
 OP (iLenS x174) fun x175 =>
 OP (iBin .leq x168 x175) fun x176 =>
 OP (iPick x160 x176 (.bool false)) fun x177 =>
 GdP x177 true
 (OP (iAdrSl 1 p4 (.int .i64 (1))) fun x181 =>
 OP (iLoad false 1 h x181) fun x182 =>
 (True) ∧
 OP (iAdrSl 1 l3 x182) fun x183 =>
 OP (iLoad false 1 h x183) fun x184 =>
 (True) ∧
 OP (iAdrSl 1 p4 (.int .i64 (0))) fun x187 =>
 OP (iLoad false 1 h x187) fun x188 =>
 (True) ∧
 OP (iAdrSl 1 l3 x188) fun x189 =>
 OP (iLoad false 1 h x189) fun x190 =>
 (True) ∧
 OP (iLenS x190) fun x191 =>
 OP (iSlS x184 none (some x191)) fun x192 =>
 OP (iAdrSl 1 p4 (.int .i64 (0))) fun x195 =>
 OP (iLoad false 1 h x195) fun x196 =>
 (True) ∧
 OP (iAdrSl 1 l3 x196) fun x197 =>
 OP (iLoad false 1 h x197) fun x198 =>
 (True) ∧
 OP (iBin .eql x192 x198) fun x199 =>
 OP (iPick x177 x199 (.bool false)) fun x200 =>
 GdP x200 true
 (CallP P 13 [] h fun x202 h_1 =>
 (True) ∧
 OP (iPick x200 x202 (.bool false)) fun x203 =>
 K x203 h_1)
 ((True) ∧
 OP (iPick x200 undef (.bool false)) fun x203 =>
 K x203 h))
 (OP (iPick x177 undef (.bool false)) fun x200 =>
 GdP x200 true
 (CallP P 13 [] h fun x202 h_1 =>
 (True) ∧
 OP (iPick x200 x202 (.bool false)) fun x203 =>
 K x203 h_1)
 ((True) ∧
 OP (iPick x200 undef (.bool false)) fun x203 =>
 K x203 h)))
 (OP (iPick x160 undef (.bool false)) fun x177 =>
 GdP x177 true
 (OP (iAdrSl 1 p4 (.int .i64 (1))) fun x181 =>
 OP (iLoad false 1 h x181) fun x182 =>
 (True) ∧
 OP (iAdrSl 1 l3 x182) fun x183 =>
 OP (iLoad false 1 h x183) fun x184 =>
 (True) ∧
 OP (iAdrSl 1 p4 (.int .i64 (0))) fun x187 =>
 OP (iLoad false 1 h x187) fun x188 =>
 (True) ∧
 OP (iAdrSl 1 l3 x188) fun x189 =>
 OP (iLoad false 1 h x189) fun x190 =>
 (True) ∧
 OP (iLenS x190) fun x191 =>
 OP (iSlS x184 none (some x191)) fun x192 =>
 OP (iAdrSl 1 p4 (.int .i64 (0))) fun x195 =>
 OP (iLoad false 1 h x195) fun x196 =>
 (True) ∧
 OP (iAdrSl 1 l3 x196) fun x197 =>
 OP (iLoad false 1 h x197) fun x198 =>
 (True) ∧
 OP (iBin .eql x192 x198) fun x199 =>
 OP (iPick x177 x199 (.bool false)) fun x200 =>
 GdP x200 true
 (CallP P 13 [] h fun x202 h_1 =>
 (True) ∧
 OP (iPick x200 x202 (.bool false)) fun x203 =>
 K x203 h_1)
 ((True) ∧
 OP (iPick x200 undef (.bool false)) fun x203 =>
 K x203 h))
 (OP (iPick x177 undef (.bool false)) fun x200 =>
 GdP x200 true
 (CallP P 13 [] h fun x202 h_1 =>
 (True) ∧
 OP (iPick x200 x202 (.bool false)) fun x203 =>
 K x203 h_1)
 ((True) ∧
 OP (iPick x200 undef (.bool false)) fun x203 =>
 K x203 h))))
 (OP (iPick x151 undef (.bool false)) fun x160 =>
 GdP x160 true
 (OP (iAdrSl 1 p4 (.int .i64 (0))) fun x164 =>
 OP (iLoad false 1 h x164) fun x165 =>
 (True) ∧
 OP (iAdrSl 1 l3 x165) fun x166 =>
 OP (iLoad false 1 h x166) fun x167 =>
 (True) ∧
 OP (iLenS x167) fun x168 =>
 OP (iAdrSl 1 p4 (.int .i64 (1))) fun x171 =>
 OP (iLoad false 1 h x171) fun x172 =>
 (True) ∧
 OP (iAdrSl 1 l3 x172) fun x173 =>
 OP (iLoad false 1 h x173) fun x174 =>
 (True) ∧
 OP (iLenS x174) fun x175 =>
 OP (iBin .leq x168 x175) fun x176 =>
 OP (iPick x160 x176 (.bool false)) fun x177 =>
 GdP x177 true
 (OP (iAdrSl 1 p4 (.int .i64 (1))) fun x181 =>
 OP (iLoad false 1 h x181) fun x182 =>
 (True) ∧
 OP (iAdrSl 1 l3 x182) fun x183 =>
 OP (iLoad false 1 h x183) fun x184 =>
 (True) ∧
 OP (iAdrSl 1 p4 (.int .i64 (0))) fun x187 =>
 OP (iLoad false 1 h x187) fun x188 =>
 (True) ∧
 OP (iAdrSl 1 l3 x188) fun x189 =>
 OP (iLoad false 1 h x189) fun x190 =>
 (True) ∧
 OP (iLenS x190) fun x191 =>
 OP (iSlS x184 none (some x191)) fun x192 =>
 OP (iAdrSl 1 p4 (.int .i64 (0))) fun x195 =>
 OP (iLoad false 1 h x195) fun x196 =>
 (True) ∧
 OP (iAdrSl 1 l3 x196) fun x197 =>
 OP (iLoad false 1 h x197) fun x198 =>
 (True) ∧
 OP (iBin .eql x192 x198) fun x199 =>
 OP (iPick x177 x199 (.bool false)) fun x200 =>
 GdP x200 true
 (CallP P 13 [] h fun x202 h_1 =>
 (True) ∧
 OP (iPick x200 x202 (.bool false)) fun x203 =>
 K x203 h_1)
 ((True) ∧
 OP (iPick x200 undef (.bool false)) fun x203 =>
 K x203 h))
 (OP (iPick x177 undef (.bool false)) fun x200 =>
 GdP x200 true
 (CallP P 13 [] h fun x202 h_1 =>
 (True) ∧
 OP (iPick x200 x202 (.bool false)) fun x203 =>
 K x203 h_1)
 ((True) ∧
 OP (iPick x200 undef (.bool false)) fun x203 =>
 K x203 h)))
 (OP (iPick x160 undef (.bool false)) fun x177 =>
 GdP x177 true
 (OP (iAdrSl 1 p4 (.int .i64 (1))) fun x181 =>
 OP (iLoad false 1 h x181) fun x182 =>
 (True) ∧
 OP (iAdrSl 1 l3 x182) fun x183 =>
 OP (iLoad false 1 h x183) fun x184 =>
 (True) ∧
 OP (iAdrSl 1 p4 (.int .i64 (0))) fun x187 =>
 OP (iLoad false 1 h x187) fun x188 =>
 (True) ∧
 OP (iAdrSl 1 l3 x188) fun x189 =>
 OP (iLoad false 1 h x189) fun x190 =>
 (True) ∧
 OP (iLenS x190) fun x191 =>
 OP (iSlS x184 none (some x191)) fun x192 =>
 OP (iAdrSl 1 p4 (.int .i64 (0))) fun x195 =>
 OP (iLoad false 1 h x195) fun x196 =>
 (True) ∧
 OP (iAdrSl 1 l3 x196) fun x197 =>
 OP (iLoad false 1 h x197) fun x198 =>
 (True) ∧
 OP (iBin .eql x192 x198) fun x199 =>
 OP (iPick x177 x199 (.bool false)) fun x200 =>
 GdP x200 true
 (CallP P 13 [] h fun x202 h_1 =>
 (True) ∧
 OP (iPick x200 x202 (.bool false)) fun x203 =>
 K x203 h_1)
 ((True) ∧
 OP (iPick x200 undef (.bool false)) fun x203 =>
 K x203 h))
 (OP (iPick x177 undef (.bool false)) fun x200 =>
 GdP x200 true
 (CallP P 13 [] h fun x202 h_1 =>
 (True) ∧
 OP (iPick x200 x202 (.bool false)) fun x203 =>
 K x203 h_1)
 ((True) ∧
 OP (iPick x200 undef (.bool false)) fun x203 =>
 K x203 h)))))
 (OP (iPick x143 undef (.bool false)) fun x151 =>
 GdP x151 true
 (OP (iAdrSl 1 p4 (.int .i64 (0))) fun x154 =>
 OP (iLoad false 1 h x154) fun x155 =>
 (True) ∧
 OP (iAdrSl 1 p4 (.int .i64 (1))) fun x157 =>
 OP (iLoad false 1 h x157) fun x158 =>
 (True) ∧
 OP (iBin .neq x155 x158) fun x159 =>
 OP (iPick x151 x159 (.bool false)) fun x160 =>
 GdP x160 true
 (OP (iAdrSl 1 p4 (.int .i64 (0))) fun x164 =>
 OP (iLoad false 1 h x164) fun x165 =>
 (True) ∧
 OP (iAdrSl 1 l3 x165) fun x166 =>
 OP (iLoad false 1 h x166) fun x167 =>
 (True) ∧
 OP (iLenS x167) fun x168 =>
 OP (iAdrSl 1 p4 (.int .i64 (1))) fun x171 =>
 OP (iLoad false 1 h x171) fun x172 =>
 (True) ∧
 OP (iAdrSl 1 l3 x172) fun x173 =>
 OP (iLoad false 1 h x173) fun x174 =>
 (True) ∧
 OP (iLenS x174) fun x175 =>
 OP (iBin .leq x168 x175) fun x176 =>
 OP (iPick x160 x176 (.bool false)) fun x177 =>
 GdP x177 true
 (OP (iAdrSl 1 p4 (.int .i64 (1))) fun x181 =>
 OP (iLoad false 1 h x181) fun x182 =>
 (True) ∧
 OP (iAdrSl 1 l3 x182) fun x183 =>
 OP (iLoad false 1 h x183) fun x184 =>
 (True) ∧
 OP (iAdrSl 1 p4 (.int .i64 (0))) fun x187 =>
 OP (iLoad false 1 h x187) fun x188 =>
 (True) ∧
 OP (iAdrSl 1 l3 x188) fun x189 =>
 OP (iLoad false 1 h x189) fun x190 =>
 (True) ∧
 OP (iLenS x190) fun x191 =>
 OP (iSlS x184 none (some x191)) fun x192 =>
 OP (iAdrSl 1 p4 (.int .i64 (0))) fun x195 =>
 OP (iLoad false 1 h x195) fun x196 =>
 (True) ∧
 OP (iAdrSl 1 l3 x196) fun x197 =>
 OP (iLoad false 1 h x197) fun x198 =>
 (True) ∧
 OP (iBin .eql x192 x198) fun x199 =>
 OP (iPick x177 x199 (.bool false)) fun x200 =>
 GdP x200 true
 (CallP P 13 [] h fun x202 h_1 =>
 (True) ∧
 OP (iPick x200 x202 (.bool false)) fun x203 =>
 K x203 h_1)
 ((True) ∧
 OP (iPick x200 undef (.bool false)) fun x203 =>
 K x203 h))
 (OP (iPick x177 undef (.bool false)) fun x200 =>
 GdP x200 true
 (CallP P 13 [] h fun x202 h_1 =>
 (True) ∧
 OP (iPick x200 x202 (.bool false)) fun x203 =>
 K x203 h_1)
 ((True) ∧
 OP (iPick x200 undef (.bool false)) fun x203 =>
 K x203 h)))
 (OP (iPick x160 undef (.bool false)) fun x177 =>
 GdP x177 true
 (OP (iAdrSl 1 p4 (.int .i64 (1))) fun x181 =>
 OP (iLoad false 1 h x181) fun x182 =>
 (True) ∧
 OP (iAdrSl 1 l3 x182) fun x183 =>
 OP (iLoad false 1 h x183) fun x184 =>
 (True) ∧
 OP (iAdrSl 1 p4 (.int .i64 (0))) fun x187 =>
 OP (iLoad false 1 h x187) fun x188 =>
 (True) ∧
 OP (iAdrSl 1 l3 x188) fun x189 =>
 OP (iLoad false 1 h x189) fun x190 =>
 (True) ∧
 OP (iLenS x190) fun x191 =>
 OP (iSlS x184 none (some x191)) fun x192 =>
 OP (iAdrSl 1 p4 (.int .i64 (0))) fun x195 =>
 OP (iLoad false 1 h x195) fun x196 =>
 (True) ∧
 OP (iAdrSl 1 l3 x196) fun x197 =>
 OP (iLoad false 1 h x197) fun x198 =>
 (True) ∧
 OP (iBin .eql x192 x198) fun x199 =>
 OP (iPick x177 x199 (.bool false)) fun x200 =>
 GdP x200 true
 (CallP P 13 [] h fun x202 h_1 =>
 (True) ∧
 OP (iPick x200 x202 (.bool false)) fun x203 =>
 K x203 h_1)
 ((True) ∧
 OP (iPick x200 undef (.bool false)) fun x203 =>
 K x203 h))
 (OP (iPick x177 undef (.bool false)) fun x200 =>
 GdP x200 true
 (CallP P 13 [] h fun x202 h_1 =>
 (True) ∧
 OP (iPick x200 x202 (.bool false)) fun x203 =>
 K x203 h_1)
 ((True) ∧
 OP (iPick x200 undef (.bool false)) fun x203 =>
 K x203 h))))
 (OP (iPick x151 undef (.bool false)) fun x160 =>
 GdP x160 true
 (OP (iAdrSl 1 p4 (.int .i64 (0))) fun x164 =>
 OP (iLoad false 1 h x164) fun x165 =>
 (True) ∧
 OP (iAdrSl 1 l3 x165) fun x166 =>
 OP (iLoad false 1 h x166) fun x167 =>
 (True) ∧
 OP (iLenS x167) fun x168 =>
 OP (iAdrSl 1 p4 (.int .i64 (1))) fun x171 =>
 OP (iLoad false 1 h x171) fun x172 =>
 (True) ∧
 OP (iAdrSl 1 l3 x172) fun x173 =>
 OP (iLoad false 1 h x173) fun x174 =>
 (True) ∧
 OP (iLenS x174) fun x175 =>
 OP (iBin .leq x168 x175) fun x176 =>
 OP (iPick x160 x176 (.bool false)) fun x177 =>
 GdP x177 true
 (OP (iAdrSl 1 p4 (.int .i64 (1))) fun x181 =>
 OP (iLoad false 1 h x181) fun x182 =>
 (True) ∧
 OP (iAdrSl 1 l3 x182) fun x183 =>
 OP (iLoad false 1 h x183) fun x184 =>
 (True) ∧
 OP (iAdrSl 1 p4 (.int .i64 (0))) fun x187 =>
 OP (iLoad false 1 h x187) fun x188 =>
 (True) ∧
 OP (iAdrSl 1 l3 x188) fun x189 =>
 OP (iLoad false 1 h x189) fun x190 =>
 (True) ∧
 OP (iLenS x190) fun x191 =>
 OP (iSlS x184 none (some x191)) fun x192 =>
 OP (iAdrSl 1 p4 (.int .i64 (0))) fun x195 =>
 OP (iLoad false 1 h x195) fun x196 =>
 (True) ∧
 OP (iAdrSl 1 l3 x196) fun x197 =>
 OP (iLoad false 1 h x197) fun x198 =>
 (True) ∧
 OP (iBin .eql x192 x198) fun x199 =>
 OP (iPick x177 x199 (.bool false)) fun x200 =>
 GdP x200 true
 (CallP P 13 [] h fun x202 h_1 =>
 (True) ∧
 OP (iPick x200 x202 (.bool false)) fun x203 =>
 K x203 h_1)
 ((True) ∧
 OP (iPick x200 undef (.bool false)) fun x203 =>
 K x203 h))
 (OP (iPick x177 undef (.bool false)) fun x200 =>
 GdP x200 true
 (CallP P 13 [] h fun x202 h_1 =>
 (True) ∧
 OP (iPick x200 x202 (.bool false)) fun x203 =>
 K x203 h_1)
 ((True) ∧
 OP (iPick x200 undef (.bool false)) fun x203 =>
 K x203 h)))
 (OP (iPick x160 undef (.bool false)) fun x177 =>
 GdP x177 true
 (OP (iAdrSl 1 p4 (.int .i64 (1))) fun x181 =>
 OP (iLoad false 1 h x181) fun x182 =>
 (True) ∧
 OP (iAdrSl 1 l3 x182) fun x183 =>
 OP (iLoad false 1 h x183) fun x184 =>
 (True) ∧
 OP (iAdrSl 1 p4 (.int .i64 (0))) fun x187 =>
 OP (iLoad false 1 h x187) fun x188 =>
 (True) ∧
 OP (iAdrSl 1 l3 x188) fun x189 =>
 OP (iLoad false 1 h x189) fun x190 =>
 (True) ∧
 OP (iLenS x190) fun x191 =>
 OP (iSlS x184 none (some x191)) fun x192 =>
 OP (iAdrSl 1 p4 (.int .i64 (0))) fun x195 =>
 OP (iLoad false 1 h x195) fun x196 =>
 (True) ∧
 OP (iAdrSl 1 l3 x196) fun x197 =>
 OP (iLoad false 1 h x197) fun x198 =>
 (True) ∧
 OP (iBin .eql x192 x198) fun x199 =>
 OP (iPick x177 x199 (.bool false)) fun x200 =>
 GdP x200 true
 (CallP P 13 [] h fun x202 h_1 =>
 (True) ∧
 OP (iPick x200 x202 (.bool false)) fun x203 =>
 K x203 h_1)
 ((True) ∧
 OP (iPick x200 undef (.bool false)) fun x203 =>
 K x203 h))
 (OP (iPick x177 undef (.bool false)) fun x200 =>
 GdP x200 true
 (CallP P 13 [] h fun x202 h_1 =>
 (True) ∧
 OP (iPick x200 x202 (.bool false)) fun x203 =>
 K x203 h_1)
 ((True) ∧
 OP (iPick x200 undef (.bool false)) fun x203 =>
 K x203 h))))))
 (OP (iPick x137 undef (.bool false)) fun x143 =>
 GdP x143 true
 (OP (iAdrSl 1 p4 (.int .i64 (1))) fun x146 =>
 OP (iLoad false 1 h x146) fun x147 =>
 (True) ∧
 OP (iLenSl l3) fun x149 =>
 OP (iBin .lss x147 x149) fun x150 =>
 OP (iPick x143 x150 (.bool false)) fun x151 =>
 GdP x151 true
 (OP (iAdrSl 1 p4 (.int .i64 (0))) fun x154 =>
 OP (iLoad false 1 h x154) fun x155 =>
 (True) ∧
 OP (iAdrSl 1 p4 (.int .i64 (1))) fun x157 =>
 OP (iLoad false 1 h x157) fun x158 =>
 (True) ∧
 OP (iBin .neq x155 x158) fun x159 =>
 OP (iPick x151 x159 (.bool false)) fun x160 =>
 GdP x160 true
 (OP (iAdrSl 1 p4 (.int .i64 (0))) fun x164 =>
 OP (iLoad false 1 h x164) fun x165 =>
 (True) ∧
 OP (iAdrSl 1 l3 x165) fun x166 =>
 OP (iLoad false 1 h x166) fun x167 =>
 (True) ∧
 OP (iLenS x167) fun x168 =>
 OP (iAdrSl 1 p4 (.int .i64 (1))) fun x171 =>
 OP (iLoad false 1 h x171) fun x172 =>
 (True) ∧
 OP (iAdrSl 1 l3 x172) fun x173 =>
 OP (iLoad false 1 h x173) fun x174 =>
 (True) ∧
 OP (iLenS x174) fun x175 =>
 OP (iBin .leq x168 x175) fun x176 =>
 OP (iPick x160 x176 (.bool false)) fun x177 =>
 GdP x177 true
 (OP (iAdrSl 1 p4 (.int .i64 (1))) fun x181 =>
 OP (iLoad false 1 h x181) fun x182 =>
 (True) ∧
 OP (iAdrSl 1 l3 x182) fun x183 =>
 OP (iLoad false 1 h x183) fun x184 =>
 (True) ∧
 OP (iAdrSl 1 p4 (.int .i64 (0))) fun x187 =>
 OP (iLoad false 1 h x187) fun x188 =>
 (True) ∧
 OP (iAdrSl 1 l3 x188) fun x189 =>
 OP (iLoad false 1 h x189) fun x190 =>
 (True) ∧
 OP (iLenS x190) fun x191 =>
 OP (iSlS x184 none (some x191)) fun x192 =>
 OP (iAdrSl 1 p4 (.int .i64 (0))) fun x195 =>
 OP (iLoad false 1 h x195) fun x196 =>
 (True) ∧
 OP (iAdrSl 1 l3 x196) fun x197 =>
 OP (iLoad false 1 h x197) fun x198 =>
 (True) ∧
 OP (iBin .eql x192 x198) fun x199 =>
 OP (iPick x177 x199 (.bool false)) fun x200 =>
 GdP x200 true
 (CallP P 13 [] h fun x202 h_1 =>
 (True) ∧
 OP (iPick x200 x202 (.bool false)) fun x203 =>
 K x203 h_1)
 ((True) ∧
 OP (iPick x200 undef (.bool false)) fun x203 =>
 K x203 h))
 (OP (iPick x177 undef (.bool false)) fun x200 =>
 GdP x200 true
 (CallP P 13 [] h fun x202 h_1 =>
 (True) ∧
 OP (iPick x200 x202 (.bool false)) fun x203 =>
 K x203 h_1)
 ((True) ∧
 OP (iPick x200 undef (.bool false)) fun x203 =>
 K x203 h)))
 (OP (iPick x160 undef (.bool false)) fun x177 =>
 GdP x177 true
 (OP (iAdrSl 1 p4 (.int .i64 (1))) fun x181 =>
 OP (iLoad false 1 h x181) fun x182 =>
 (True) ∧
 OP (iAdrSl 1 l3 x182) fun x183 =>
 OP (iLoad false 1 h x183) fun x184 =>
 (True) ∧
 OP (iAdrSl 1 p4 (.int .i64 (0))) fun x187 =>
 OP (iLoad false 1 h x187) fun x188 =>
 (True) ∧
 OP (iAdrSl 1 l3 x188) fun x189 =>
 OP (iLoad false 1 h x189) fun x190 =>
 (True) ∧
 OP (iLenS x190) fun x191 =>
 OP (iSlS x184 none (some x191)) fun x192 =>
 OP (iAdrSl 1 p4 (.int .i64 (0))) fun x195 =>
 OP (iLoad false 1 h x195) fun x196 =>
 (True) ∧
 OP (iAdrSl 1 l3 x196) fun x197 =>
 OP (iLoad false 1 h x197) fun x198 =>
 (True) ∧
 OP (iBin .eql x192 x198) fun x199 =>
 OP (iPick x177 x199 (.bool false)) fun x200 =>
 GdP x200 true
 (CallP P 13 [] h fun x202 h_1 =>
 (True) ∧
 OP (iPick x200 x202 (.bool false)) fun x203 =>
 K x203 h_1)
 ((True) ∧
 OP (iPick x200 undef (.bool false)) fun x203 =>
 K x203 h))
 (OP (iPick x177 undef (.bool false)) fun x200 =>
 GdP x200 true
 (CallP P 13 [] h fun x202 h_1 =>
 (True) ∧
 OP (iPick x200 x202 (.bool false)) fun x203 =>
 K x203 h_1)
 ((True) ∧
 OP (iPick x200 undef (.bool false)) fun x203 =>
 K x203 h))))
 (OP (iPick x151 undef (.bool false)) fun x160 =>
 GdP x160 true
 (OP (iAdrSl 1 p4 (.int .i64 (0))) fun x164 =>
 OP (iLoad false 1 h x164) fun x165 =>
 (True) ∧
 OP (iAdrSl 1 l3 x165) fun x166 =>
 OP (iLoad false 1 h x166) fun x167 =>
 (True) ∧
 OP (iLenS x167) fun x168 =>
 OP (iAdrSl 1 p4 (.int .i64 (1))) fun x171 =>
 OP (iLoad false 1 h x171) fun x172 =>
 (True) ∧
 OP (iAdrSl 1 l3 x172) fun x173 =>
 OP (iLoad false 1 h x173) fun x174 =>
 (True) ∧
 OP (iLenS x174) fun x175 =>
 OP (iBin .leq x168 x175) fun x176 =>
 OP (iPick x160 x176 (.bool false)) fun x177 =>
 GdP x177 true
 (OP (iAdrSl 1 p4 (.int .i64 (1))) fun x181 =>
 OP (iLoad false 1 h x181) fun x182 =>
 (True) ∧
 OP (iAdrSl 1 l3 x182) fun x183 =>
 OP (iLoad false 1 h x183) fun x184 =>
 (True) ∧
 OP (iAdrSl 1 p4 (.int .i64 (0))) fun x187 =>
 OP (iLoad false 1 h x187) fun x188 =>
 (True) ∧
 OP (iAdrSl 1 l3 x188) fun x189 =>
 OP (iLoad false 1 h x189) fun x190 =>
 (True) ∧
 OP (iLenS x190) fun x191 =>
 OP (iSlS x184 none (some x191)) fun x192 =>
 OP (iAdrSl 1 p4 (.int .i64 (0))) fun x195 =>
 OP (iLoad false 1 h x195) fun x196 =>
 (True) ∧
 OP (iAdrSl 1 l3 x196) fun x197 =>
 OP (iLoad false 1 h x197) fun x198 =>
 (True) ∧
 OP (iBin .eql x192 x198) fun x199 =>
 OP (iPick x177 x199 (.bool false)) fun x200 =>
 GdP x200 true
 (CallP P 13 [] h fun x202 h_1 =>
 (True) ∧
 OP (iPick x200 x202 (.bool false)) fun x203 =>
 K x203 h_1)
 ((True) ∧
 OP (iPick x200 undef (.bool false)) fun x203 =>
 K x203 h))
 (OP (iPick x177 undef (.bool false)) fun x200 =>
 GdP x200 true
 (CallP P 13 [] h fun x202 h_1 =>
 (True) ∧
 OP (iPick x200 x202 (.bool false)) fun x203 =>
 K x203 h_1)
 ((True) ∧
 OP (iPick x200 undef (.bool false)) fun x203 =>
 K x203 h)))
 (OP (iPick x160 undef (.bool false)) fun x177 =>
 GdP x177 true
 (OP (iAdrSl 1 p4 (.int .i64 (1))) fun x181 =>
 OP (iLoad false 1 h x181) fun x182 =>
 (True) ∧
 OP (iAdrSl 1 l3 x182) fun x183 =>
 OP (iLoad false 1 h x183) fun x184 =>
 (True) ∧
 OP (iAdrSl 1 p4 (.int .i64 (0))) fun x187 =>
 OP (iLoad false 1 h x187) fun x188 =>
 (True) ∧
 OP (iAdrSl 1 l3 x188) fun x189 =>
 OP (iLoad false 1 h x189) fun x190 =>
 (True) ∧
 OP (iLenS x190) fun x191 =>
 OP (iSlS x184 none (some x191)) fun x192 =>
 OP (iAdrSl 1 p4 (.int .i64 (0))) fun x195 =>
 OP (iLoad false 1 h x195) fun x196 =>
 (True) ∧
 OP (iAdrSl 1 l3 x196) fun x197 =>
 OP (iLoad false 1 h x197) fun x198 =>
 (True) ∧
 OP (iBin .eql x192 x198) fun x199 =>
 OP (iPick x177 x199 (.bool false)) fun x200 =>
 GdP x200 true
 (CallP P 13 [] h fun x202 h_1 =>
 (True) ∧
 OP (iPick x200 x202 (.bool false)) fun x203 =>
 K x203 h_1)
 ((True) ∧
 OP (iPick x200 undef (.bool false)) fun x203 =>
 K x203 h))
 (OP (iPick x177 undef (.bool false)) fun x200 =>
 GdP x200 true
 (CallP P 13 [] h fun x202 h_1 =>
 (True) ∧
 OP (iPick x200 x202 (.bool false)) fun x203 =>
 K x203 h_1)
 ((True) ∧
 OP (iPick x200 undef (.bool false)) fun x203 =>
 K x203 h)))))
 (OP (iPick x143 undef (.bool false)) fun x151 =>
 GdP x151 true
 (OP (iAdrSl 1 p4 (.int .i64 (0))) fun x154 =>
 OP (iLoad false 1 h x154) fun x155 =>
 (True) ∧
 OP (iAdrSl 1 p4 (.int .i64 (1))) fun x157 =>
 OP (iLoad false 1 h x157) fun x158 =>
 (True) ∧
 OP (iBin .neq x155 x158) fun x159 =>
 OP (iPick x151 x159 (.bool false)) fun x160 =>
 GdP x160 true
 (OP (iAdrSl 1 p4 (.int .i64 (0))) fun x164 =>
 OP (iLoad false 1 h x164) fun x165 =>
 (True) ∧
 OP (iAdrSl 1 l3 x165) fun x166 =>
 OP (iLoad false 1 h x166) fun x167 =>
 (True) ∧
 OP (iLenS x167) fun x168 =>
 OP (iAdrSl 1 p4 (.int .i64 (1))) fun x171 =>
 OP (iLoad false 1 h x171) fun x172 =>
 (True) ∧
 OP (iAdrSl 1 l3 x172) fun x173 =>
 OP (iLoad false 1 h x173) fun x174 =>
 (True) ∧
 OP (iLenS x174) fun x175 =>
 OP (iBin .leq x168 x175) fun x176 =>
 OP (iPick x160 x176 (.bool false)) fun x177 =>
 GdP x177 true
 (OP (iAdrSl 1 p4 (.int .i64 (1))) fun x181 =>
 OP (iLoad false 1 h x181) fun x182 =>
 (True) ∧
 OP (iAdrSl 1 l3 x182) fun x183 =>
 OP (iLoad false 1 h x183) fun x184 =>
 (True) ∧
 OP (iAdrSl 1 p4 (.int .i64 (0))) fun x187 =>
 OP (iLoad false 1 h x187) fun x188 =>
 (True) ∧
 OP (iAdrSl 1 l3 x188) fun x189 =>
 OP (iLoad false 1 h x189) fun x190 =>
 (True) ∧
 OP (iLenS x190) fun x191 =>
 OP (iSlS x184 none (some x191)) fun x192 =>
 OP (iAdrSl 1 p4 (.int .i64 (0))) fun x195 =>
 OP (iLoad false 1 h x195) fun x196 =>
 (True) ∧
 OP (iAdrSl 1 l3 x196) fun x197 =>
 OP (iLoad false 1 h x197) fun x198 =>
 (True) ∧
 OP (iBin .eql x192 x198) fun x199 =>
 OP (iPick x177 x199 (.bool false)) fun x200 =>
 GdP x200 true
 (CallP P 13 [] h fun x202 h_1 =>
 (True) ∧
 OP (iPick x200 x202 (.bool false)) fun x203 =>
 K x203 h_1)
 ((True) ∧
 OP (iPick x200 undef (.bool false)) fun x203 =>
 K x203 h))
 (OP (iPick x177 undef (.bool false)) fun x200 =>
 GdP x200 true
 (CallP P 13 [] h fun x202 h_1 =>
 (True) ∧
 OP (iPick x200 x202 (.bool false)) fun x203 =>
 K x203 h_1)
 ((True) ∧
 OP (iPick x200 undef (.bool false)) fun x203 =>
 K x203 h)))
 (OP (iPick x160 undef (.bool false)) fun x177 =>
 GdP x177 true
 (OP (iAdrSl 1 p4 (.int .i64 (1))) fun x181 =>
 OP (iLoad false 1 h x181) fun x182 =>
 (True) ∧
 OP (iAdrSl 1 l3 x182) fun x183 =>
 OP (iLoad false 1 h x183) fun x184 =>
 (True) ∧
 OP (iAdrSl 1 p4 (.int .i64 (0))) fun x187 =>
 OP (iLoad false 1 h x187) fun x188 =>
 (True) ∧
 OP (iAdrSl 1 l3 x188) fun x189 =>
 OP (iLoad false 1 h x189) fun x190 =>
 (True) ∧
 OP (iLenS x190) fun x191 =>
 OP (iSlS x184 none (some x191)) fun x192 =>
 OP (iAdrSl 1 p4 (.int .i64 (0))) fun x195 =>
 OP (iLoad false 1 h x195) fun x196 =>
 (True) ∧
 OP (iAdrSl 1 l3 x196) fun x197 =>
 OP (iLoad false 1 h x197) fun x198 =>
 (True) ∧
 OP (iBin .eql x192 x198) fun x199 =>
 OP (iPick x177 x199 (.bool false)) fun x200 =>
 GdP x200 true
 (CallP P 13 [] h fun x202 h_1 =>
 (True) ∧
 OP (iPick x200 x202 (.bool false)) fun x203 =>
 K x203 h_1)
 ((True) ∧
 OP (iPick x200 undef (.bool false)) fun x203 =>
 K x203 h))
 (OP (iPick x177 undef (.bool false)) fun x200 =>
 GdP x200 true
 (CallP P 13 [] h fun x202 h_1 =>
 (True) ∧
 OP (iPick x200 x202 (.bool false)) fun x203 =>
 K x203 h_1)
 ((True) ∧
 OP (iPick x200 undef (.bool false)) fun x203 =>
 K x203 h))))
 (OP (iPick x151 undef (.bool false)) fun x160 =>
 GdP x160 true
 (OP (iAdrSl 1 p4 (.int .i64 (0))) fun x164 =>
 OP (iLoad false 1 h x164) fun x165 =>
 (True) ∧
 OP (iAdrSl 1 l3 x165) fun x166 =>
 OP (iLoad false 1 h x166) fun x167 =>
 (True) ∧
 OP (iLenS x167) fun x168 =>
 OP (iAdrSl 1 p4 (.int .i64 (1))) fun x171 =>
 OP (iLoad false 1 h x171) fun x172 =>
 (True) ∧
 OP (iAdrSl 1 l3 x172) fun x173 =>
 OP (iLoad false 1 h x173) fun x174 =>
 (True) ∧
 OP (iLenS x174) fun x175 =>
 OP (iBin .leq x168 x175) fun x176 =>
 OP (iPick x160 x176 (.bool false)) fun x177 =>
 GdP x177 true
 (OP (iAdrSl 1 p4 (.int .i64 (1))) fun x181 =>
 OP (iLoad false 1 h x181) fun x182 =>
 (True) ∧
 OP (iAdrSl 1 l3 x182) fun x183 =>
 OP (iLoad false 1 h x183) fun x184 =>
 (True) ∧
 OP (iAdrSl 1 p4 (.int .i64 (0))) fun x187 =>
 OP (iLoad false 1 h x187) fun x188 =>
 (True) ∧
 OP (iAdrSl 1 l3 x188) fun x189 =>
 OP (iLoad false 1 h x189) fun x190 =>
 (True) ∧
 OP (iLenS x190) fun x191 =>
 OP (iSlS x184 none (some x191)) fun x192 =>
 OP (iAdrSl 1 p4 (.int .i64 (0))) fun x195 =>
 OP (iLoad false 1 h x195) fun x196 =>
 (True) ∧
 OP (iAdrSl 1 l3 x196) fun x197 =>
 OP (iLoad false 1 h x197) fun x198 =>
 (True) ∧
 OP (iBin .eql x192 x198) fun x199 =>
 OP (iPick x177 x199 (.bool false)) fun x200 =>
 GdP x200 true
 (CallP P 13 [] h fun x202 h_1 =>
 (True) ∧
 OP (iPick x200 x202 (.bool false)) fun x203 =>
 K x203 h_1)
 ((True) ∧
 OP (iPick x200 undef (.bool false)) fun x203 =>
 K x203 h))
 (OP (iPick x177 undef (.bool false)) fun x200 =>
 GdP x200 true
 (CallP P 13 [] h fun x202 h_1 =>
 (True) ∧
 OP (iPick x200 x202 (.bool false)) fun x203 =>
 K x203 h_1)
 ((True) ∧
 OP (iPick x200 undef (.bool false)) fun x203 =>
 K x203 h)))
 (OP (iPick x160 undef (.bool false)) fun x177 =>
 GdP x177 true
 (OP (iAdrSl 1 p4 (.int .i64 (1))) fun x181 =>
 OP (iLoad false 1 h x181) fun x182 =>
 (True) ∧
 OP (iAdrSl 1 l3 x182) fun x183 =>
 OP (iLoad false 1 h x183) fun x184 =>
 (True) ∧
 OP (iAdrSl 1 p4 (.int .i64 (0))) fun x187 =>
 OP (iLoad false 1 h x187) fun x188 =>
 (True) ∧
 OP (iAdrSl 1 l3 x188) fun x189 =>
 OP (iLoad false 1 h x189) fun x190 =>
 (True) ∧
 OP (iLenS x190) fun x191 =>
 OP (iSlS x184 none (some x191)) fun x192 =>
 OP (iAdrSl 1 p4 (.int .i64 (0))) fun x195 =>
 OP (iLoad false 1 h x195) fun x196 =>
 (True) ∧
 OP (iAdrSl 1 l3 x196) fun x197 =>
 OP (iLoad false 1 h x197) fun x198 =>
 (True) ∧
 OP (iBin .eql x192 x198) fun x199 =>
 OP (iPick x177 x199 (.bool false)) fun x200 =>
 GdP x200 true
 (CallP P 13 [] h fun x202 h_1 =>
 (True) ∧
 OP (iPick x200 x202 (.bool false)) fun x203 =>
 K x203 h_1)
 ((True) ∧
 OP (iPick x200 undef (.bool false)) fun x203 =>
 K x203 h))
 (OP (iPick x177 undef (.bool false)) fun x200 =>
 GdP x200 true
 (CallP P 13 [] h fun x202 h_1 =>
 (True) ∧
 OP (iPick x200 x202 (.bool false)) fun x203 =>
 K x203 h_1)
 ((True) ∧
 OP (iPick x200 undef (.bool false)) fun x203 =>
 K x203 h)))))))
 (OP (iPick x129 undef (.bool false)) fun x137 =>
 GdP x137 true
 (OP (iAdrSl 1 p4 (.int .i64 (1))) fun x140 =>
 OP (iLoad false 1 h x140) fun x141 =>
 (True) ∧
 OP (iBin .geq x141 (.int .i64 (0))) fun x142 =>
 OP (iPick x137 x142 (.bool false)) fun x143 =>
 GdP x143 true
 (OP (iAdrSl 1 p4 (.int .i64 (1))) fun x146 =>
 OP (iLoad false 1 h x146) fun x147 =>
 (True) ∧
 OP (iLenSl l3) fun x149 =>
 OP (iBin .lss x147 x149) fun x150 =>
 OP (iPick x143 x150 (.bool false)) fun x151 =>
 GdP x151 true
 (OP (iAdrSl 1 p4 (.int .i64 (0))) fun x154 =>
 OP (iLoad false 1 h x154) fun x155 =>
 (True) ∧
 OP (iAdrSl 1 p4 (.int .i64 (1))) fun x157 =>
 OP (iLoad false 1 h x157) fun x158 =>
 (True) ∧
 OP (iBin .neq x155 x158) fun x159 =>
 OP (iPick x151 x159 (.bool false)) fun x160 =>
 GdP x160 true
 (OP (iAdrSl 1 p4 (.int .i64 (0))) fun x164 =>
 OP (iLoad false 1 h x164) fun x165 =>
 (True) ∧
 OP (iAdrSl 1 l3 x165) fun x166 =>
 OP (iLoad false 1 h x166) fun x167 =>
 (True) ∧
 OP (iLenS x167) fun x168 =>
 OP (iAdrSl 1 p4 (.int .i64 (1))) fun x171 =>
 OP (iLoad false 1 h x171) fun x172 =>
 (True) ∧
 OP (iAdrSl 1 l3 x172) fun x173 =>
 OP (iLoad false 1 h x173) fun x174 =>
 (True) ∧
 OP (iLenS x174) fun x175 =>
 OP (iBin .leq x168 x175) fun x176 =>
 OP (iPick x160 x176 (.bool false)) fun x177 =>
 GdP x177 true
 (OP (iAdrSl 1 p4 (.int .i64 (1))) fun x181 =>
 OP (iLoad false 1 h x181) fun x182 =>
 (True) ∧
 OP (iAdrSl 1 l3 x182) fun x183 =>
 OP (iLoad false 1 h x183) fun x184 =>
 (True) ∧
 OP (iAdrSl 1 p4 (.int .i64 (0))) fun x187 =>
 OP (iLoad false 1 h x187) fun x188 =>
 (True) ∧
 OP (iAdrSl 1 l3 x188) fun x189 =>
 OP (iLoad false 1 h x189) fun x190 =>
 (True) ∧
 OP (iLenS x190) fun x191 =>
 OP (iSlS x184 none (some x191)) fun x192 =>
 OP (iAdrSl 1 p4 (.int .i64 (0))) fun x195 =>
 OP (iLoad false 1 h x195) fun x196 =>
 (True) ∧
 OP (iAdrSl 1 l3 x196) fun x197 =>
 OP (iLoad false 1 h x197) fun x198 =>
 (True) ∧
 OP (iBin .eql x192 x198) fun x199 =>
 OP (iPick x177 x199 (.bool false)) fun x200 =>
 GdP x200 true
 (CallP P 13 [] h fun x202 h_1 =>
 (True) ∧
 OP (iPick x200 x202 (.bool false)) fun x203 =>
 K x203 h_1)
 ((True) ∧
 OP (iPick x200 undef (.bool false)) fun x203 =>
 K x203 h))
 (OP (iPick x177 undef (.bool false)) fun x200 =>
 GdP x200 true
 (CallP P 13 [] h fun x202 h_1 =>
 (True) ∧
 OP (iPick x200 x202 (.bool false)) fun x203 =>
 K x203 h_1)
 ((True) ∧
 OP (iPick x200 undef (.bool false)) fun x203 =>
 K x203 h)))
 (OP (iPick x160 undef (.bool false)) fun x177 =>
 GdP x177 true
 (OP (iAdrSl 1 p4 (.int .i64 (1))) fun x181 =>
 OP (iLoad false 1 h x181) fun x182 =>
 (True) ∧
 OP (iAdrSl 1 l3 x182) fun x183 =>
 OP (iLoad false 1 h x183) fun x184 =>
 (True) ∧
 OP (iAdrSl 1 p4 (.int .i64 (0))) fun x187 =>
 OP (iLoad false 1 h x187) fun x188 =>
 (True) ∧
 OP (iAdrSl 1 l3 x188) fun x189 =>
 OP (iLoad false 1 h x189) fun x190 =>
 (True) ∧
 OP (iLenS x190) fun x191 =>
 OP (iSlS x184 none (some x191)) fun x192 =>
 OP (iAdrSl 1 p4 (.int .i64 (0))) fun x195 =>
 OP (iLoad false 1 h x195) fun x196 =>
 (True) ∧
 OP (iAdrSl 1 l3 x196) fun x197 =>
 OP (iLoad false 1 h x197) fun x198 =>
 (True) ∧
 OP (iBin .eql x192 x198) fun x199 =>
 OP (iPick x177 x199 (.bool false)) fun x200 =>
 GdP x200 true
 (CallP P 13 [] h fun x202 h_1 =>
 (True) ∧
 OP (iPick x200 x202 (.bool false)) fun x203 =>
 K x203 h_1)
 ((True) ∧
 OP (iPick x200 undef (.bool false)) fun x203 =>
 K x203 h))
 (OP (iPick x177 undef (.bool false)) fun x200 =>
 GdP x200 true
 (CallP P 13 [] h fun x202 h_1 =>
 (True) ∧
 OP (iPick x200 x202 (.bool false)) fun x203 =>
 K x203 h_1)
 ((True) ∧
 OP (iPick x200 undef (.bool false)) fun x203 =>
 K x203 h))))
 (OP (iPick x151 undef (.bool false)) fun x160 =>
 GdP x160 true
 (OP (iAdrSl 1 p4 (.int .i64 (0))) fun x164 =>
 OP (iLoad false 1 h x164) fun x165 =>
 (True) ∧
 OP (iAdrSl 1 l3 x165) fun x166 =>
 OP (iLoad false 1 h x166) fun x167 =>
 (True) ∧
 OP (iLenS x167) fun x168 =>
 OP (iAdrSl 1 p4 (.int .i64 (1))) fun x171 =>
 OP (iLoad false 1 h x171) fun x172 =>
 (True) ∧
 OP (iAdrSl 1 l3 x172) fun x173 =>
 OP (iLoad false 1 h x173) fun x174 =>
 (True) ∧
 OP (iLenS x174) fun x175 =>
 OP (iBin .leq x168 x175) fun x176 =>
 OP (iPick x160 x176 (.bool false)) fun x177 =>
 GdP x177 true
 (OP (iAdrSl 1 p4 (.int .i64 (1))) fun x181 =>
 OP (iLoad false 1 h x181) fun x182 =>
 (True) ∧
 OP (iAdrSl 1 l3 x182) fun x183 =>
 OP (iLoad false 1 h x183) fun x184 =>
 (True) ∧
 OP (iAdrSl 1 p4 (.int .i64 (0))) fun x187 =>
 OP (iLoad false 1 h x187) fun x188 =>
 (True) ∧
 OP (iAdrSl 1 l3 x188) fun x189 =>
 OP (iLoad false 1 h x189) fun x190 =>
 (True) ∧
 OP (iLenS x190) fun x191 =>
 OP (iSlS x184 none (some x191)) fun x192 =>
 OP (iAdrSl 1 p4 (.int .i64 (0))) fun x195 =>
 OP (iLoad false 1 h x195) fun x196 =>
 (True) ∧
 OP (iAdrSl 1 l3 x196) fun x197 =>
 OP (iLoad false 1 h x197) fun x198 =>
 (True) ∧
 OP (iBin .eql x192 x198) fun x199 =>
 OP (iPick x177 x199 (.bool false)) fun x200 =>
 GdP x200 true
 (CallP P 13 [] h fun x202 h_1 =>
 (True) ∧
 OP (iPick x200 x202 (.bool false)) fun x203 =>
 K x203 h_1)
 ((True) ∧
 OP (iPick x200 undef (.bool false)) fun x203 =>
 K x203 h))
 (OP (iPick x177 undef (.bool false)) fun x200 =>
 GdP x200 true
 (CallP P 13 [] h fun x202 h_1 =>
 (True) ∧
 OP (iPick x200 x202 (.bool false)) fun x203 =>
 K x203 h_1)
 ((True) ∧
 OP (iPick x200 undef (.bool false)) fun x203 =>
 K x203 h)))
 (OP (iPick x160 undef (.bool false)) fun x177 =>
 GdP x177 true
 (OP (iAdrSl 1 p4 (.int .i64 (1))) fun x181 =>
 OP (iLoad false 1 h x181) fun x182 =>
 (True) ∧
 OP (iAdrSl 1 l3 x182) fun x183 =>
 OP (iLoad false 1 h x183) fun x184 =>
 (True) ∧
 OP (iAdrSl 1 p4 (.int .i64 (0))) fun x187 =>
 OP (iLoad false 1 h x187) fun x188 =>
 (True) ∧
 OP (iAdrSl 1 l3 x188) fun x189 =>
 OP (iLoad false 1 h x189) fun x190 =>
 (True) ∧
 OP (iLenS x190) fun x191 =>
 OP (iSlS x184 none (some x191)) fun x192 =>
 OP (iAdrSl 1 p4 (.int .i64 (0))) fun x195 =>
 OP (iLoad false 1 h x195) fun x196 =>
 (True) ∧
 OP (iAdrSl 1 l3 x196) fun x197 =>
 OP (iLoad false 1 h x197) fun x198 =>
 (True) ∧
 OP (iBin .eql x192 x198) fun x199 =>
 OP (iPick x177 x199 (.bool false)) fun x200 =>
 GdP x200 true
 (CallP P 13 [] h fun x202 h_1 =>
 (True) ∧
 OP (iPick x200 x202 (.bool false)) fun x203 =>
 K x203 h_1)
 ((True) ∧
 OP (iPick x200 undef (.bool false)) fun x203 =>
 K x203 h))
 (OP (iPick x177 undef (.bool false)) fun x200 =>
 GdP x200 true
 (CallP P 13 [] h fun x202 h_1 =>
 (True) ∧
 OP (iPick x200 x202 (.bool false)) fun x203 =>
 K x203 h_1)
 ((True) ∧
 OP (iPick x200 undef (.bool false)) fun x203 =>
 K x203 h)))))
 (OP (iPick x143 undef (.bool false)) fun x151 =>
 GdP x151 true
 (OP (iAdrSl 1 p4 (.int .i64 (0))) fun x154 =>
 OP (iLoad false 1 h x154) fun x155 =>
 (True) ∧
 OP (iAdrSl 1 p4 (.int .i64 (1))) fun x157 =>
 OP (iLoad false 1 h x157) fun x158 =>
 (True) ∧
 OP (iBin .neq x155 x158) fun x159 =>
 OP (iPick x151 x159 (.bool false)) fun x160 =>
 GdP x160 true
 (OP (iAdrSl 1 p4 (.int .i64 (0))) fun x164 =>
 OP (iLoad false 1 h x164) fun x165 =>
 (True) ∧
 OP (iAdrSl 1 l3 x165) fun x166 =>
 OP (iLoad false 1 h x166) fun x167 =>
 (True) ∧
 OP (iLenS x167) fun x168 =>
 OP (iAdrSl 1 p4 (.int .i64 (1))) fun x171 =>
 OP (iLoad false 1 h x171) fun x172 =>
 (True) ∧
 OP (iAdrSl 1 l3 x172) fun x173 =>
 OP (iLoad false 1 h x173) fun x174 =>
 (True) ∧
 OP (iLenS x174) fun x175 =>
 OP (iBin .leq x168 x175) fun x176 =>
 OP (iPick x160 x176 (.bool false)) fun x177 =>
 GdP x177 true
 (OP (iAdrSl 1 p4 (.int .i64 (1))) fun x181 =>
 OP (iLoad false 1 h x181) fun x182 =>
 (True) ∧
 OP (iAdrSl 1 l3 x182) fun x183 =>
 OP (iLoad false 1 h x183) fun x184 =>
 (True) ∧
 OP (iAdrSl 1 p4 (.int .i64 (0))) fun x187 =>
 OP (iLoad false 1 h x187) fun x188 =>
 (True) ∧
 OP (iAdrSl 1 l3 x188) fun x189 =>
 OP (iLoad false 1 h x189) fun x190 =>
 (True) ∧
 OP (iLenS x190) fun x191 =>
 OP (iSlS x184 none (some x191)) fun x192 =>
 OP (iAdrSl 1 p4 (.int .i64 (0))) fun x195 =>
 OP (iLoad false 1 h x195) fun x196 =>
 (True) ∧
 OP (iAdrSl 1 l3 x196) fun x197 =>
 OP (iLoad false 1 h x197) fun x198 =>
 (True) ∧
 OP (iBin .eql x192 x198) fun x199 =>
 OP (iPick x177 x199 (.bool false)) fun x200 =>
 GdP x200 true
 (CallP P 13 [] h fun x202 h_1 =>
 (True) ∧
 OP (iPick x200 x202 (.bool false)) fun x203 =>
 K x203 h_1)
 ((True) ∧
 OP (iPick x200 undef (.bool false)) fun x203 =>
 K x203 h))
 (OP (iPick x177 undef (.bool false)) fun x200 =>
 GdP x200 true
 (CallP P 13 [] h fun x202 h_1 =>
 (True) ∧
 OP (iPick x200 x202 (.bool false)) fun x203 =>
 K x203 h_1)
 ((True) ∧
 OP (iPick x200 undef (.bool false)) fun x203 =>
 K x203 h)))
 (OP (iPick x160 undef (.bool false)) fun x177 =>
 GdP x177 true
 (OP (iAdrSl 1 p4 (.int .i64 (1))) fun x181 =>
 OP (iLoad false 1 h x181) fun x182 =>
 (True) ∧
 OP (iAdrSl 1 l3 x182) fun x183 =>
 OP (iLoad false 1 h x183) fun x184 =>
 (True) ∧
 OP (iAdrSl 1 p4 (.int .i64 (0))) fun x187 =>
 OP (iLoad false 1 h x187) fun x188 =>
 (True) ∧
 OP (iAdrSl 1 l3 x188) fun x189 =>
 OP (iLoad false 1 h x189) fun x190 =>
 (True) ∧
 OP (iLenS x190) fun x191 =>
 OP (iSlS x184 none (some x191)) fun x192 =>
 OP (iAdrSl 1 p4 (.int .i64 (0))) fun x195 =>
 OP (iLoad false 1 h x195) fun x196 =>
 (True) ∧
 OP (iAdrSl 1 l3 x196) fun x197 =>
 OP (iLoad false 1 h x197) fun x198 =>
 (True) ∧
 OP (iBin .eql x192 x198) fun x199 =>
 OP (iPick x177 x199 (.bool false)) fun x200 =>
 GdP x200 true
 (CallP P 13 [] h fun x202 h_1 =>
 (True) ∧
 OP (iPick x200 x202 (.bool false)) fun x203 =>
 K x203 h_1)
 ((True) ∧
 OP (iPick x200 undef (.bool false)) fun x203 =>
 K x203 h))
 (OP (iPick x177 undef (.bool false)) fun x200 =>
 GdP x200 true
 (CallP P 13 [] h fun x202 h_1 =>
 (True) ∧
 OP (iPick x200 x202 (.bool false)) fun x203 =>
 K x203 h_1)
 ((True) ∧
 OP (iPick x200 undef (.bool false)) fun x203 =>
 K x203 h))))
 (OP (iPick x151 undef (.bool false)) fun x160 =>
 GdP x160 true
 (OP (iAdrSl 1 p4 (.int .i64 (0))) fun x164 =>
 OP (iLoad false 1 h x164) fun x165 =>
 (True) ∧
 OP (iAdrSl 1 l3 x165) fun x166 =>
 OP (iLoad false 1 h x166) fun x167 =>
 (True) ∧
 OP (iLenS x167) fun x168 =>
 OP (iAdrSl 1 p4 (.int .i64 (1))) fun x171 =>
 OP (iLoad false 1 h x171) fun x172 =>
 (True) ∧
 OP (iAdrSl 1 l3 x172) fun x173 =>
 OP (iLoad false 1 h x173) fun x174 =>
 (True) ∧
 OP (iLenS x174) fun x175 =>
 OP (iBin .leq x168 x175) fun x176 =>
 OP (iPick x160 x176 (.bool false)) fun x177 =>
 GdP x177 true
 (OP (iAdrSl 1 p4 (.int .i64 (1))) fun x181 =>
 OP (iLoad false 1 h x181) fun x182 =>
 (True) ∧
 OP (iAdrSl 1 l3 x182) fun x183 =>
 OP (iLoad false 1 h x183) fun x184 =>
 (True) ∧
 OP (iAdrSl 1 p4 (.int .i64 (0))) fun x187 =>
 OP (iLoad false 1 h x187) fun x188 =>
 (True) ∧
 OP (iAdrSl 1 l3 x188) fun x189 =>
 OP (iLoad false 1 h x189) fun x190 =>
 (True) ∧
 OP (iLenS x190) fun x191 =>
 OP (iSlS x184 none (some x191)) fun x192 =>
 OP (iAdrSl 1 p4 (.int .i64 (0))) fun x195 =>
 OP (iLoad false 1 h x195) fun x196 =>
 (True) ∧
 OP (iAdrSl 1 l3 x196) fun x197 =>
 OP (iLoad false 1 h x197) fun x198 =>
 (True) ∧
 OP (iBin .eql x192 x198) fun x199 =>
 OP (iPick x177 x199 (.bool false)) fun x200 =>
 GdP x200 true
 (CallP P 13 [] h fun x202 h_1 =>
 (True) ∧
 OP (iPick x200 x202 (.bool false)) fun x203 =>
 K x203 h_1)
 ((True) ∧
 OP (iPick x200 undef (.bool false)) fun x203 =>
 K x203 h))
 (OP (iPick x177 undef (.bool false)) fun x200 =>
 GdP x200 true
 (CallP P 13 [] h fun x202 h_1 =>
 (True) ∧
 OP (iPick x200 x202 (.bool false)) fun x203 =>
 K x203 h_1)
 ((True) ∧
 OP (iPick x200 undef (.bool false)) fun x203 =>
 K x203 h)))
 (OP (iPick x160 undef (.bool false)) fun x177 =>
 GdP x177 true
 (OP (iAdrSl 1 p4 (.int .i64 (1))) fun x181 =>
 OP (iLoad false 1 h x181) fun x182 =>
 (True) ∧
 OP (iAdrSl 1 l3 x182) fun x183 =>
 OP (iLoad false 1 h x183) fun x184 =>
 (True) ∧
 OP (iAdrSl 1 p4 (.int .i64 (0))) fun x187 =>
 OP (iLoad false 1 h x187) fun x188 =>
 (True) ∧
 OP (iAdrSl 1 l3 x188) fun x189 =>
 OP (iLoad false 1 h x189) fun x190 =>
 (True) ∧
 OP (iLenS x190) fun x191 =>
 OP (iSlS x184 none (some x191)) fun x192 =>
 OP (iAdrSl 1 p4 (.int .i64 (0))) fun x195 =>
 OP (iLoad false 1 h x195) fun x196 =>
 (True) ∧
 OP (iAdrSl 1 l3 x196) fun x197 =>
 OP (iLoad false 1 h x197) fun x198 =>
 (True) ∧
 OP (iBin .eql x192 x198) fun x199 =>
 OP (iPick x177 x199 (.bool false)) fun x200 =>
 GdP x200 true
 (CallP P 13 [] h fun x202 h_1 =>
 (True) ∧
 OP (iPick x200 x202 (.bool false)) fun x203 =>
 K x203 h_1)
 ((True) ∧
 OP (iPick x200 undef (.bool false)) fun x203 =>
 K x203 h))
 (OP (iPick x177 undef (.bool false)) fun x200 =>
 GdP x200 true
 (CallP P 13 [] h fun x202 h_1 =>
 (True) ∧
 OP (iPick x200 x202 (.bool false)) fun x203 =>
 K x203 h_1)
 ((True) ∧
 OP (iPick x200 undef (.bool false)) fun x203 =>
 K x203 h))))))
 (OP (iPick x137 undef (.bool false)) fun x143 =>
 GdP x143 true
 (OP (iAdrSl 1 p4 (.int .i64 (1))) fun x146 =>
 OP (iLoad false 1 h x146) fun x147 =>
 (True) ∧
 OP (iLenSl l3) fun x149 =>
 OP (iBin .lss x147 x149) fun x150 =>
 OP (iPick x143 x150 (.bool false)) fun x151 =>
 GdP x151 true
 (OP (iAdrSl 1 p4 (.int .i64 (0))) fun x154 =>
 OP (iLoad false 1 h x154) fun x155 =>
 (True) ∧
 OP (iAdrSl 1 p4 (.int .i64 (1))) fun x157 =>
 OP (iLoad false 1 h x157) fun x158 =>
 (True) ∧
 OP (iBin .neq x155 x158) fun x159 =>
 OP (iPick x151 x159 (.bool false)) fun x160 =>
 GdP x160 true
 (OP (iAdrSl 1 p4 (.int .i64 (0))) fun x164 =>
 OP (iLoad false 1 h x164) fun x165 =>
 (True) ∧
 OP (iAdrSl 1 l3 x165) fun x166 =>
 OP (iLoad false 1 h x166) fun x167 =>
 (True) ∧
 OP (iLenS x167) fun x168 =>
 OP (iAdrSl 1 p4 (.int .i64 (1))) fun x171 =>
 OP (iLoad false 1 h x171) fun x172 =>
 (True) ∧
 OP (iAdrSl 1 l3 x172) fun x173 =>
 OP (iLoad false 1 h x173) fun x174 =>
 (True) ∧
 OP (iLenS x174) fun x175 =>
 OP (iBin .leq x168 x175) fun x176 =>
 OP (iPick x160 x176 (.bool false)) fun x177 =>
 GdP x177 true
 (OP (iAdrSl 1 p4 (.int .i64 (1))) fun x181 =>
 OP (iLoad false 1 h x181) fun x182 =>
 (True) ∧
 OP (iAdrSl 1 l3 x182) fun x183 =>
 OP (iLoad false 1 h x183) fun x184 =>
 (True) ∧
 OP (iAdrSl 1 p4 (.int .i64 (0))) fun x187 =>
 OP (iLoad false 1 h x187) fun x188 =>
 (True) ∧
 OP (iAdrSl 1 l3 x188) fun x189 =>
 OP (iLoad false 1 h x189) fun x190 =>
 (True) ∧
 OP (iLenS x190) fun x191 =>
 OP (iSlS x184 none (some x191)) fun x192 =>
 OP (iAdrSl 1 p4 (.int .i64 (0))) fun x195 =>
 OP (iLoad false 1 h x195) fun x196 =>
 (True) ∧
 OP (iAdrSl 1 l3 x196) fun x197 =>
 OP (iLoad false 1 h x197) fun x198 =>
 (True) ∧
 OP (iBin .eql x192 x198) fun x199 =>
 OP (iPick x177 x199 (.bool false)) fun x200 =>
 GdP x200 true
 (CallP P 13 [] h fun x202 h_1 =>
 (True) ∧
 OP (iPick x200 x202 (.bool false)) fun x203 =>
 K x203 h_1)
 ((True) ∧
 OP (iPick x200 undef (.bool false)) fun x203 =>
 K x203 h))
 (OP (iPick x177 undef (.bool false)) fun x200 =>
 GdP x200 true
 (CallP P 13 [] h fun x202 h_1 =>
 (True) ∧
 OP (iPick x200 x202 (.bool false)) fun x203 =>
 K x203 h_1)
 ((True) ∧
 OP (iPick x200 undef (.bool false)) fun x203 =>
 K x203 h)))
 (OP (iPick x160 undef (.bool false)) fun x177 =>
 GdP x177 true
 (OP (iAdrSl 1 p4 (.int .i64 (1))) fun x181 =>
 OP (iLoad false 1 h x181) fun x182 =>
 (True) ∧
 OP (iAdrSl 1 l3 x182) fun x183 =>
 OP (iLoad false 1 h x183) fun x184 =>
 (True) ∧
 OP (iAdrSl 1 p4 (.int .i64 (0))) fun x187 =>
 OP (iLoad false 1 h x187) fun x188 =>
 (True) ∧
 OP (iAdrSl 1 l3 x188) fun x189 =>
 OP (iLoad false 1 h x189) fun x190 =>
 (True) ∧
 OP (iLenS x190) fun x191 =>
 OP (iSlS x184 none (some x191)) fun x192 =>
 OP (iAdrSl 1 p4 (.int .i64 (0))) fun x195 =>
 OP (iLoad false 1 h x195) fun x196 =>
 (True) ∧
 OP (iAdrSl 1 l3 x196) fun x197 =>
 OP (iLoad false 1 h x197) fun x198 =>
 (True) ∧
 OP (iBin .eql x192 x198) fun x199 =>
 OP (iPick x177 x199 (.bool false)) fun x200 =>
 GdP x200 true
 (CallP P 13 [] h fun x202 h_1 =>
 (True) ∧
 OP (iPick x200 x202 (.bool false)) fun x203 =>
 K x203 h_1)
 ((True) ∧
 OP (iPick x200 undef (.bool false)) fun x203 =>
 K x203 h))
 (OP (iPick x177 undef (.bool false)) fun x200 =>
 GdP x200 true
 (CallP P 13 [] h fun x202 h_1 =>
 (True) ∧
 OP (iPick x200 x202 (.bool false)) fun x203 =>
 K x203 h_1)
 ((True) ∧
 OP (iPick x200 undef (.bool false)) fun x203 =>
 K x203 h))))
 (OP (iPick x151 undef (.bool false)) fun x160 =>
 GdP x160 true
 (OP (iAdrSl 1 p4 (.int .i64 (0))) fun x164 =>
 OP (iLoad false 1 h x164) fun x165 =>
 (True) ∧
 OP (iAdrSl 1 l3 x165) fun x166 =>
 OP (iLoad false 1 h x166) fun x167 =>
 (True) ∧
 OP (iLenS x167) fun x168 =>
 OP (iAdrSl 1 p4 (.int .i64 (1))) fun x171 =>
 OP (iLoad false 1 h x171) fun x172 =>
 (True) ∧
 OP (iAdrSl 1 l3 x172) fun x173 =>
 OP (iLoad false 1 h x173) fun x174 =>
 (True) ∧
 OP (iLenS x174) fun x175 =>
 OP (iBin .leq x168 x175) fun x176 =>
 OP (iPick x160 x176 (.bool false)) fun x177 =>
 GdP x177 true
 (OP (iAdrSl 1 p4 (.int .i64 (1))) fun x181 =>
 OP (iLoad false 1 h x181) fun x182 =>
 (True) ∧
 OP (iAdrSl 1 l3 x182) fun x183 =>
 OP (iLoad false 1 h x183) fun x184 =>
 (True) ∧
 OP (iAdrSl 1 p4 (.int .i64 (0))) fun x187 =>
 OP (iLoad false 1 h x187) fun x188 =>
 (True) ∧
 OP (iAdrSl 1 l3 x188) fun x189 =>
 OP (iLoad false 1 h x189) fun x190 =>
 (True) ∧
 OP (iLenS x190) fun x191 =>
 OP (iSlS x184 none (some x191)) fun x192 =>
 OP (iAdrSl 1 p4 (.int .i64 (0))) fun x195 =>
 OP (iLoad false 1 h x195) fun x196 =>
 (True) ∧
 OP (iAdrSl 1 l3 x196) fun x197 =>
 OP (iLoad false 1 h x197) fun x198 =>
 (True) ∧
 OP (iBin .eql x192 x198) fun x199 =>
 OP (iPick x177 x199 (.bool false)) fun x200 =>
 GdP x200 true
 (CallP P 13 [] h fun x202 h_1 =>
 (True) ∧
 OP (iPick x200 x202 (.bool false)) fun x203 =>
 K x203 h_1)
 ((True) ∧
 OP (iPick x200 undef (.bool false)) fun x203 =>
 K x203 h))
 (OP (iPick x177 undef (.bool false)) fun x200 =>
 GdP x200 true
 (CallP P 13 [] h fun x202 h_1 =>
 (True) ∧
 OP (iPick x200 x202 (.bool false)) fun x203 =>
 K x203 h_1)
 ((True) ∧
 OP (iPick x200 undef (.bool false)) fun x203 =>
 K x203 h)))
 (OP (iPick x160 undef (.bool false)) fun x177 =>
 GdP x177 true
 (OP (iAdrSl 1 p4 (.int .i64 (1))) fun x181 =>
 OP (iLoad false 1 h x181) fun x182 =>
 (True) ∧
 OP (iAdrSl 1 l3 x182) fun x183 =>
 OP (iLoad false 1 h x183) fun x184 =>
 (True) ∧
 OP (iAdrSl 1 p4 (.int .i64 (0))) fun x187 =>
 OP (iLoad false 1 h x187) fun x188 =>
 (True) ∧
 OP (iAdrSl 1 l3 x188) fun x189 =>
 OP (iLoad false 1 h x189) fun x190 =>
 (True) ∧
 OP (iLenS x190) fun x191 =>
 OP (iSlS x184 none (some x191)) fun x192 =>
 OP (iAdrSl 1 p4 (.int .i64 (0))) fun x195 =>
 OP (iLoad false 1 h x195) fun x196 =>
 (True) ∧
 OP (iAdrSl 1 l3 x196) fun x197 =>
 OP (iLoad false 1 h x197) fun x198 =>
 (True) ∧
 OP (iBin .eql x192 x198) fun x199 =>
 OP (iPick x177 x199 (.bool false)) fun x200 =>
 GdP x200 true
 (CallP P 13 [] h fun x202 h_1 =>
 (True) ∧
 OP (iPick x200 x202 (.bool false)) fun x203 =>
 K x203 h_1)
 ((True) ∧
 OP (iPick x200 undef (.bool false)) fun x203 =>
 K x203 h))
 (OP (iPick x177 undef (.bool false)) fun x200 =>
 GdP x200 true
 (CallP P 13 [] h fun x202 h_1 =>
 (True) ∧
 OP (iPick x200 x202 (.bool false)) fun x203 =>
 K x203 h_1)
 ((True) ∧
 OP (iPick x200 undef (.bool false)) fun x203 =>
 K x203 h)))))
 (OP (iPick x143 undef (.bool false)) fun x151 =>
 GdP x151 true
 (OP (iAdrSl 1 p4 (.int .i64 (0))) fun x154 =>
 OP (iLoad false 1 h x154) fun x155 =>
 (True) ∧
 OP (iAdrSl 1 p4 (.int .i64 (1))) fun x157 =>
 OP (iLoad false 1 h x157) fun x158 =>
 (True) ∧
 OP (iBin .neq x155 x158) fun x159 =>
 OP (iPick x151 x159 (.bool false)) fun x160 =>
 GdP x160 true
 (OP (iAdrSl 1 p4 (.int .i64 (0))) fun x164 =>
 OP (iLoad false 1 h x164) fun x165 =>
 (True) ∧
 OP (iAdrSl 1 l3 x165) fun x166 =>
 OP (iLoad false 1 h x166) fun x167 =>
 (True) ∧
 OP (iLenS x167) fun x168 =>
 OP (iAdrSl 1 p4 (.int .i64 (1))) fun x171 =>
 OP (iLoad false 1 h x171) fun x172 =>
 (True) ∧
 OP (iAdrSl 1 l3 x172) fun x173 =>
 OP (iLoad false 1 h x173) fun x174 =>
 (True) ∧
 OP (iLenS x174) fun x175 =>
 OP (iBin .leq x168 x175) fun x176 =>
 OP (iPick x160 x176 (.bool false)) fun x177 =>
 GdP x177 true
 (OP (iAdrSl 1 p4 (.int .i64 (1))) fun x181 =>
 OP (iLoad false 1 h x181) fun x182 =>
 (True) ∧
 OP (iAdrSl 1 l3 x182) fun x183 =>
 OP (iLoad false 1 h x183) fun x184 =>
 (True) ∧
 OP (iAdrSl 1 p4 (.int .i64 (0))) fun x187 =>
 OP (iLoad false 1 h x187) fun x188 =>
 (True) ∧
 OP (iAdrSl 1 l3 x188) fun x189 =>
 OP (iLoad false 1 h x189) fun x190 =>
 (True) ∧
 OP (iLenS x190) fun x191 =>
 OP (iSlS x184 none (some x191)) fun x192 =>
 OP (iAdrSl 1 p4 (.int .i64 (0))) fun x195 =>
 OP (iLoad false 1 h x195) fun x196 =>
 (True) ∧
 OP (iAdrSl 1 l3 x196) fun x197 =>
 OP (iLoad false 1 h x197) fun x198 =>
 (True) ∧
 OP (iBin .eql x192 x198) fun x199 =>
 OP (iPick x177 x199 (.bool false)) fun x200 =>
 GdP x200 true
 (CallP P 13 [] h fun x202 h_1 =>
 (True) ∧
 OP (iPick x200 x202 (.bool false)) fun x203 =>
 K x203 h_1)
 ((True) ∧
 OP (iPick x200 undef (.bool false)) fun x203 =>
 K x203 h))
 (OP (iPick x177 undef (.bool false)) fun x200 =>
 GdP x200 true
 (CallP P 13 [] h fun x202 h_1 =>
 (True) ∧
 OP (iPick x200 x202 (.bool false)) fun x203 =>
 K x203 h_1)
 ((True) ∧
 OP (iPick x200 undef (.bool false)) fun x203 =>
 K x203 h)))
 (OP (iPick x160 undef (.bool false)) fun x177 =>
 GdP x177 true
 (OP (iAdrSl 1 p4 (.int .i64 (1))) fun x181 =>
 OP (iLoad false 1 h x181) fun x182 =>
 (True) ∧
 OP (iAdrSl 1 l3 x182) fun x183 =>
 OP (iLoad false 1 h x183) fun x184 =>
 (True) ∧
 OP (iAdrSl 1 p4 (.int .i64 (0))) fun x187 =>
 OP (iLoad false 1 h x187) fun x188 =>
 (True) ∧
 OP (iAdrSl 1 l3 x188) fun x189 =>
 OP (iLoad false 1 h x189) fun x190 =>
 (True) ∧
 OP (iLenS x190) fun x191 =>
 OP (iSlS x184 none (some x191)) fun x192 =>
 OP (iAdrSl 1 p4 (.int .i64 (0))) fun x195 =>
 OP (iLoad false 1 h x195) fun x196 =>
 (True) ∧
 OP (iAdrSl 1 l3 x196) fun x197 =>
 OP (iLoad false 1 h x197) fun x198 =>
 (True) ∧
 OP (iBin .eql x192 x198) fun x199 =>
 OP (iPick x177 x199 (.bool false)) fun x200 =>
 GdP x200 true
 (CallP P 13 [] h fun x202 h_1 =>
 (True) ∧
 OP (iPick x200 x202 (.bool false)) fun x203 =>
 K x203 h_1)
 ((True) ∧
 OP (iPick x200 undef (.bool false)) fun x203 =>
 K x203 h))
 (OP (iPick x177 undef (.bool false)) fun x200 =>
 GdP x200 true
 (CallP P 13 [] h fun x202 h_1 =>
 (True) ∧
 OP (iPick x200 x202 (.bool false)) fun x203 =>
 K x203 h_1)
 ((True) ∧
 OP (iPick x200 undef (.bool false)) fun x203 =>
 K x203 h))))
 (OP (iPick x151 undef (.bool false)) fun x160 =>
 GdP x160 true
 (OP (iAdrSl 1 p4 (.int .i64 (0))) fun x164 =>
 OP (iLoad false 1 h x164) fun x165 =>
 (True) ∧
 OP (iAdrSl 1 l3 x165) fun x166 =>
 OP (iLoad false 1 h x166) fun x167 =>
 (True) ∧
 OP (iLenS x167) fun x168 =>
 OP (iAdrSl 1 p4 (.int .i64 (1))) fun x171 =>
 OP (iLoad false 1 h x171) fun x172 =>
 (True) ∧
 OP (iAdrSl 1 l3 x172) fun x173 =>
 OP (iLoad false 1 h x173) fun x174 =>
 (True) ∧
 OP (iLenS x174) fun x175 =>
 OP (iBin .leq x168 x175) fun x176 =>
 OP (iPick x160 x176 (.bool false)) fun x177 =>
 GdP x177 true
 (OP (iAdrSl 1 p4 (.int .i64 (1))) fun x181 =>
 OP (iLoad false 1 h x181) fun x182 =>
 (True) ∧
 OP (iAdrSl 1 l3 x182) fun x183 =>
 OP (iLoad false 1 h x183) fun x184 =>
 (True) ∧
 OP (iAdrSl 1 p4 (.int .i64 (0))) fun x187 =>
 OP (iLoad false 1 h x187) fun x188 =>
 (True) ∧
 OP (iAdrSl 1 l3 x188) fun x189 =>
 OP (iLoad false 1 h x189) fun x190 =>
 (True) ∧
 OP (iLenS x190) fun x191 =>
 OP (iSlS x184 none (some x191)) fun x192 =>
 OP (iAdrSl 1 p4 (.int .i64 (0))) fun x195 =>
 OP (iLoad false 1 h x195) fun x196 =>
 (True) ∧
 OP (iAdrSl 1 l3 x196) fun x197 =>
 OP (iLoad false 1 h x197) fun x198 =>
 (True) ∧
 OP (iBin .eql x192 x198) fun x199 =>
 OP (iPick x177 x199 (.bool false)) fun x200 =>
 GdP x200 true
 (CallP P 13 [] h fun x202 h_1 =>
 (True) ∧
 OP (iPick x200 x202 (.bool false)) fun x203 =>
 K x203 h_1)
 ((True) ∧
 OP (iPick x200 undef (.bool false)) fun x203 =>
 K x203 h))
 (OP (iPick x177 undef (.bool false)) fun x200 =>
 GdP x200 true
 (CallP P 13 [] h fun x202 h_1 =>
 (True) ∧
 OP (iPick x200 x202 (.bool false)) fun x203 =>
 K x203 h_1)
 ((True) ∧
 OP (iPick x200 undef (.bool false)) fun x203 =>
 K x203 h)))
 (OP (iPick x160 undef (.bool false)) fun x177 =>
 GdP x177 true
 (OP (iAdrSl 1 p4 (.int .i64 (1))) fun x181 =>
 OP (iLoad false 1 h x181) fun x182 =>
 (True) ∧
 OP (iAdrSl 1 l3 x182) fun x183 =>
 OP (iLoad false 1 h x183) fun x184 =>
 (True) ∧
 OP (iAdrSl 1 p4 (.int .i64 (0))) fun x187 =>
 OP (iLoad false 1 h x187) fun x188 =>
 (True) ∧
 OP (iAdrSl 1 l3 x188) fun x189 =>
 OP (iLoad false 1 h x189) fun x190 =>
 (True) ∧
 OP (iLenS x190) fun x191 =>
 OP (iSlS x184 none (some x191)) fun x192 =>
 OP (iAdrSl 1 p4 (.int .i64 (0))) fun x195 =>
 OP (iLoad false 1 h x195) fun x196 =>
 (True) ∧
 OP (iAdrSl 1 l3 x196) fun x197 =>
 OP (iLoad false 1 h x197) fun x198 =>
 (True) ∧
 OP (iBin .eql x192 x198) fun x199 =>
 OP (iPick x177 x199 (.bool false)) fun x200 =>
 GdP x200 true
 (CallP P 13 [] h fun x202 h_1 =>
 (True) ∧
 OP (iPick x200 x202 (.bool false)) fun x203 =>
 K x203 h_1)
 ((True) ∧
 OP (iPick x200 undef (.bool false)) fun x203 =>
 K x203 h))
 (OP (iPick x177 undef (.bool false)) fun x200 =>
 GdP x200 true
 (CallP P 13 [] h fun x202 h_1 =>
 (True) ∧
 OP (iPick x200 x202 (.bool false)) fun x203 =>
 K x203 h_1)
 ((True) ∧
 OP (iPick x200 undef (.bool false)) fun x203 =>
 K x203 h))))))))
 (OP (iPick x123 undef (.bool false)) fun x129 =>
 GdP x129 true
 (OP (iAdrSl 1 p4 (.int .i64 (0))) fun x132 =>
 OP (iLoad false 1 h x132) fun x133 =>
 (True) ∧
 OP (iLenSl l3) fun x135 =>
 OP (iBin .lss x133 x135) fun x136 =>
 OP (iPick x129 x136 (.bool false)) fun x137 =>
 GdP x137 true
 (OP (iAdrSl 1 p4 (.int .i64 (1))) fun x140 =>
 OP (iLoad false 1 h x140) fun x141 =>
 (True) ∧
 OP (iBin .geq x141 (.int .i64 (0))) fun x142 =>
 OP (iPick x137 x142 (.bool false)) fun x143 =>
 GdP x143 true
 (OP (iAdrSl 1 p4 (.int .i64 (1))) fun x146 =>
 OP (iLoad false 1 h x146) fun x147 =>
 (True) ∧
 OP (iLenSl l3) fun x149 =>
 OP (iBin .lss x147 x149) fun x150 =>
 OP (iPick x143 x150 (.bool false)) fun x151 =>
 GdP x151 true
 (OP (iAdrSl 1 p4 (.int .i64 (0))) fun x154 =>
 OP (iLoad false 1 h x154) fun x155 =>
 (True) ∧
 OP (iAdrSl 1 p4 (.int .i64 (1))) fun x157 =>
 OP (iLoad false 1 h x157) fun x158 =>
 (True) ∧
 OP (iBin .neq x155 x158) fun x159 =>
 OP (iPick x151 x159 (.bool false)) fun x160 =>
 GdP x160 true
 (OP (iAdrSl 1 p4 (.int .i64 (0))) fun x164 =>
 OP (iLoad false 1 h x164) fun x165 =>
 (True) ∧
 OP (iAdrSl 1 l3 x165) fun x166 =>
 OP (iLoad false 1 h x166) fun x167 =>
 (True) ∧
 OP (iLenS x167) fun x168 =>
 OP (iAdrSl 1 p4 (.int .i64 (1))) fun x171 =>
 OP (iLoad false 1 h x171) fun x172 =>
 (True) ∧
 OP (iAdrSl 1 l3 x172) fun x173 =>
 OP (iLoad false 1 h x173) fun x174 =>
 (True) ∧
 OP (iLenS x174) fun x175 =>
 OP (iBin .leq x168 x175) fun x176 =>
 OP (iPick x160 x176 (.bool false)) fun x177 =>
 GdP x177 true
 (OP (iAdrSl 1 p4 (.int .i64 (1))) fun x181 =>
 OP (iLoad false 1 h x181) fun x182 =>
 (True) ∧
 OP (iAdrSl 1 l3 x182) fun x183 =>
 OP (iLoad false 1 h x183) fun x184 =>
 (True) ∧
 OP (iAdrSl 1 p4 (.int .i64 (0))) fun x187 =>
 OP (iLoad false 1 h x187) fun x188 =>
 (True) ∧
 OP (iAdrSl 1 l3 x188) fun x189 =>
 OP (iLoad false 1 h x189) fun x190 =>
 (True) ∧
 OP (iLenS x190) fun x191 =>
 OP (iSlS x184 none (some x191)) fun x192 =>
 OP (iAdrSl 1 p4 (.int .i64 (0))) fun x195 =>
 OP (iLoad false 1 h x195) fun x196 =>
 (True) ∧
 OP (iAdrSl 1 l3 x196) fun x197 =>
 OP (iLoad false 1 h x197) fun x198 =>
 (True) ∧
 OP (iBin .eql x192 x198) fun x199 =>
 OP (iPick x177 x199 (.bool false)) fun x200 =>
 GdP x200 true
 (CallP P 13 [] h fun x202 h_1 =>
 (True) ∧
 OP (iPick x200 x202 (.bool false)) fun x203 =>
 K x203 h_1)
 ((True) ∧
 OP (iPick x200 undef (.bool false)) fun x203 =>
 K x203 h))
 (OP (iPick x177 undef (.bool false)) fun x200 =>
 GdP x200 true
 (CallP P 13 [] h fun x202 h_1 =>
 (True) ∧
 OP (iPick x200 x202 (.bool false)) fun x203 =>
 K x203 h_1)
 ((True) ∧
 OP (iPick x200 undef (.bool false)) fun x203 =>
 K x203 h)))
 (OP (iPick x160 undef (.bool false)) fun x177 =>
 GdP x177 true
 (OP (iAdrSl 1 p4 (.int .i64 (1))) fun x181 =>
 OP (iLoad false 1 h x181) fun x182 =>
 (True) ∧
 OP (iAdrSl 1 l3 x182) fun x183 =>
 OP (iLoad false 1 h x183) fun x184 =>
 (True) ∧
 OP (iAdrSl 1 p4 (.int .i64 (0))) fun x187 =>
 OP (iLoad false 1 h x187) fun x188 =>
 (True) ∧
 OP (iAdrSl 1 l3 x188) fun x189 =>
 OP (iLoad false 1 h x189) fun x190 =>
 (True) ∧
 OP (iLenS x190) fun x191 =>
 OP (iSlS x184 none (some x191)) fun x192 =>
 OP (iAdrSl 1 p4 (.int .i64 (0))) fun x195 =>
 OP (iLoad false 1 h x195) fun x196 =>
 (True) ∧
 OP (iAdrSl 1 l3 x196) fun x197 =>
 OP (iLoad false 1 h x197) fun x198 =>
 (True) ∧
 OP (iBin .eql x192 x198) fun x199 =>
 OP (iPick x177 x199 (.bool false)) fun x200 =>
 GdP x200 true
 (CallP P 13 [] h fun x202 h_1 =>
 (True) ∧
 OP (iPick x200 x202 (.bool false)) fun x203 =>
 K x203 h_1)
 ((True) ∧
 OP (iPick x200 undef (.bool false)) fun x203 =>
 K x203 h))
 (OP (iPick x177 undef (.bool false)) fun x200 =>
 GdP x200 true
 (CallP P 13 [] h fun x202 h_1 =>
 (True) ∧
 OP (iPick x200 x202 (.bool false)) fun x203 =>
 K x203 h_1)
 ((True) ∧
 OP (iPick x200 undef (.bool false)) fun x203 =>
 K x203 h))))
 (OP (iPick x151 undef (.bool false)) fun x160 =>
 GdP x160 true
 (OP (iAdrSl 1 p4 (.int .i64 (0))) fun x164 =>
 OP (iLoad false 1 h x164) fun x165 =>
 (True) ∧
 OP (iAdrSl 1 l3 x165) fun x166 =>
 OP (iLoad false 1 h x166) fun x167 =>
 (True) ∧
 OP (iLenS x167) fun x168 =>
 OP (iAdrSl 1 p4 (.int .i64 (1))) fun x171 =>
 OP (iLoad false 1 h x171) fun x172 =>
 (True) ∧
 OP (iAdrSl 1 l3 x172) fun x173 =>
 OP (iLoad false 1 h x173) fun x174 =>
 (True) ∧
 OP (iLenS x174) fun x175 =>
 OP (iBin .leq x168 x175) fun x176 =>
 OP (iPick x160 x176 (.bool false)) fun x177 =>
 GdP x177 true
 (OP (iAdrSl 1 p4 (.int .i64 (1))) fun x181 =>
 OP (iLoad false 1 h x181) fun x182 =>
 (True) ∧
 OP (iAdrSl 1 l3 x182) fun x183 =>
 OP (iLoad false 1 h x183) fun x184 =>
 (True) ∧
 OP (iAdrSl 1 p4 (.int .i64 (0))) fun x187 =>
 OP (iLoad false 1 h x187) fun x188 =>
 (True) ∧
 OP (iAdrSl 1 l3 x188) fun x189 =>
 OP (iLoad false 1 h x189) fun x190 =>
 (True) ∧
 OP (iLenS x190) fun x191 =>
 OP (iSlS x184 none (some x191)) fun x192 =>
 OP (iAdrSl 1 p4 (.int .i64 (0))) fun x195 =>
 OP (iLoad false 1 h x195) fun x196 =>
 (True) ∧
 OP (iAdrSl 1 l3 x196) fun x197 =>
 OP (iLoad false 1 h x197) fun x198 =>
 (True) ∧
 OP (iBin .eql x192 x198) fun x199 =>
 OP (iPick x177 x199 (.bool false)) fun x200 =>
 GdP x200 true
 (CallP P 13 [] h fun x202 h_1 =>
 (True) ∧
 OP (iPick x200 x202 (.bool false)) fun x203 =>
 K x203 h_1)
 ((True) ∧
 OP (iPick x200 undef (.bool false)) fun x203 =>
 K x203 h))
 (OP (iPick x177 undef (.bool false)) fun x200 =>
 GdP x200 true
 (CallP P 13 [] h fun x202 h_1 =>
 (True) ∧
 OP (iPick x200 x202 (.bool false)) fun x203 =>
 K x203 h_1)
 ((True) ∧
 OP (iPick x200 undef (.bool false)) fun x203 =>
 K x203 h)))
 (OP (iPick x160 undef (.bool false)) fun x177 =>
 GdP x177 true
 (OP (iAdrSl 1 p4 (.int .i64 (1))) fun x181 =>
 OP (iLoad false 1 h x181) fun x182 =>
 (True) ∧
 OP (iAdrSl 1 l3 x182) fun x183 =>
 OP (iLoad false 1 h x183) fun x184 =>
 (True) ∧
 OP (iAdrSl 1 p4 (.int .i64 (0))) fun x187 =>
 OP (iLoad false 1 h x187) fun x188 =>
 (True) ∧
 OP (iAdrSl 1 l3 x188) fun x189 =>
 OP (iLoad false 1 h x189) fun x190 =>
 (True) ∧
 OP (iLenS x190) fun x191 =>
 OP (iSlS x184 none (some x191)) fun x192 =>
 OP (iAdrSl 1 p4 (.int .i64 (0))) fun x195 =>
 OP (iLoad false 1 h x195) fun x196 =>
 (True) ∧
 OP (iAdrSl 1 l3 x196) fun x197 =>
 OP (iLoad false 1 h x197) fun x198 =>
 (True) ∧
 OP (iBin .eql x192 x198) fun x199 =>
 OP (iPick x177 x199 (.bool false)) fun x200 =>
 GdP x200 true
 (CallP P 13 [] h fun x202 h_1 =>
 (True) ∧
 OP (iPick x200 x202 (.bool false)) fun x203 =>
 K x203 h_1)
 ((True) ∧
 OP (iPick x200 undef (.bool false)) fun x203 =>
 K x203 h))
 (OP (iPick x177 undef (.bool false)) fun x200 =>
 GdP x200 true
 (CallP P 13 [] h fun x202 h_1 =>
 (True) ∧
 OP (iPick x200 x202 (.bool false)) fun x203 =>
 K x203 h_1)
 ((True) ∧
 OP (iPick x200 undef (.bool false)) fun x203 =>
 K x203 h)))))
 (OP (iPick x143 undef (.bool false)) fun x151 =>
 GdP x151 true
 (OP (iAdrSl 1 p4 (.int .i64 (0))) fun x154 =>
 OP (iLoad false 1 h x154) fun x155 =>
 (True) ∧
 OP (iAdrSl 1 p4 (.int .i64 (1))) fun x157 =>
 OP (iLoad false 1 h x157) fun x158 =>
 (True) ∧
 OP (iBin .neq x155 x158) fun x159 =>
 OP (iPick x151 x159 (.bool false)) fun x160 =>
 GdP x160 true
 (OP (iAdrSl 1 p4 (.int .i64 (0))) fun x164 =>
 OP (iLoad false 1 h x164) fun x165 =>
 (True) ∧
 OP (iAdrSl 1 l3 x165) fun x166 =>
 OP (iLoad false 1 h x166) fun x167 =>
 (True) ∧
 OP (iLenS x167) fun x168 =>
 OP (iAdrSl 1 p4 (.int .i64 (1))) fun x171 =>
 OP (iLoad false 1 h x171) fun x172 =>
 (True) ∧
 OP (iAdrSl 1 l3 x172) fun x173 =>
 OP (iLoad false 1 h x173) fun x174 =>
 (True) ∧
 OP (iLenS x174) fun x175 =>
 OP (iBin .leq x168 x175) fun x176 =>
 OP (iPick x160 x176 (.bool false)) fun x177 =>
 GdP x177 true
 (OP (iAdrSl 1 p4 (.int .i64 (1))) fun x181 =>
 OP (iLoad false 1 h x181) fun x182 =>
 (True) ∧
 OP (iAdrSl 1 l3 x182) fun x183 =>
 OP (iLoad false 1 h x183) fun x184 =>
 (True) ∧
 OP (iAdrSl 1 p4 (.int .i64 (0))) fun x187 =>
 OP (iLoad false 1 h x187) fun x188 =>
 (True) ∧
 OP (iAdrSl 1 l3 x188) fun x189 =>
 OP (iLoad false 1 h x189) fun x190 =>
 (True) ∧
 OP (iLenS x190) fun x191 =>
 OP (iSlS x184 none (some x191)) fun x192 =>
 OP (iAdrSl 1 p4 (.int .i64 (0))) fun x195 =>
 OP (iLoad false 1 h x195) fun x196 =>
 (True) ∧
 OP (iAdrSl 1 l3 x196) fun x197 =>
 OP (iLoad false 1 h x197) fun x198 =>
 (True) ∧
 OP (iBin .eql x192 x198) fun x199 =>
 OP (iPick x177 x199 (.bool false)) fun x200 =>
 GdP x200 true
 (CallP P 13 [] h fun x202 h_1 =>
 (True) ∧
 OP (iPick x200 x202 (.bool false)) fun x203 =>
 K x203 h_1)
 ((True) ∧
 OP (iPick x200 undef (.bool false)) fun x203 =>
 K x203 h))
 (OP (iPick x177 undef (.bool false)) fun x200 =>
 GdP x200 true
 (CallP P 13 [] h fun x202 h_1 =>
 (True) ∧
 OP (iPick x200 x202 (.bool false)) fun x203 =>
 K x203 h_1)
 ((True) ∧
 OP (iPick x200 undef (.bool false)) fun x203 =>
 K x203 h)))
 (OP (iPick x160 undef (.bool false)) fun x177 =>
 GdP x177 true
 (OP (iAdrSl 1 p4 (.int .i64 (1))) fun x181 =>
 OP (iLoad false 1 h x181) fun x182 =>
 (True) ∧
 OP (iAdrSl 1 l3 x182) fun x183 =>
 OP (iLoad false 1 h x183) fun x184 =>
 (True) ∧
 OP (iAdrSl 1 p4 (.int .i64 (0))) fun x187 =>
 OP (iLoad false 1 h x187) fun x188 =>
 (True) ∧
 OP (iAdrSl 1 l3 x188) fun x189 =>
 OP (iLoad false 1 h x189) fun x190 =>
 (True) ∧
 OP (iLenS x190) fun x191 =>
 OP (iSlS x184 none (some x191)) fun x192 =>
 OP (iAdrSl 1 p4 (.int .i64 (0))) fun x195 =>
 OP (iLoad false 1 h x195) fun x196 =>
 (True) ∧
 OP (iAdrSl 1 l3 x196) fun x197 =>
 OP (iLoad false 1 h x197) fun x198 =>
 (True) ∧
 OP (iBin .eql x192 x198) fun x199 =>
 OP (iPick x177 x199 (.bool false)) fun x200 =>
 GdP x200 true
 (CallP P 13 [] h fun x202 h_1 =>
 (True) ∧
 OP (iPick x200 x202 (.bool false)) fun x203 =>
 K x203 h_1)
 ((True) ∧
 OP (iPick x200 undef (.bool false)) fun x203 =>
 K x203 h))
 (OP (iPick x177 undef (.bool false)) fun x200 =>
 GdP x200 true
 (CallP P 13 [] h fun x202 h_1 =>
 (True) ∧
 OP (iPick x200 x202 (.bool false)) fun x203 =>
 K x203 h_1)
 ((True) ∧
 OP (iPick x200 undef (.bool false)) fun x203 =>
 K x203 h))))
 (OP (iPick x151 undef (.bool false)) fun x160 =>
 GdP x160 true
 (OP (iAdrSl 1 p4 (.int .i64 (0))) fun x164 =>
 OP (iLoad false 1 h x164) fun x165 =>
 (True) ∧
 OP (iAdrSl 1 l3 x165) fun x166 =>
 OP (iLoad false 1 h x166) fun x167 =>
 (True) ∧
 OP (iLenS x167) fun x168 =>
 OP (iAdrSl 1 p4 (.int .i64 (1))) fun x171 =>
 OP (iLoad false 1 h x171) fun x172 =>
 (True) ∧
 OP (iAdrSl 1 l3 x172) fun x173 =>
 OP (iLoad false 1 h x173) fun x174 =>
 (True) ∧
 OP (iLenS x174) fun x175 =>
 OP (iBin .leq x168 x175) fun x176 =>
 OP (iPick x160 x176 (.bool false)) fun x177 =>
 GdP x177 true
 (OP (iAdrSl 1 p4 (.int .i64 (1))) fun x181 =>
 OP (iLoad false 1 h x181) fun x182 =>
 (True) ∧
 OP (iAdrSl 1 l3 x182) fun x183 =>
 OP (iLoad false 1 h x183) fun x184 =>
 (True) ∧
 OP (iAdrSl 1 p4 (.int .i64 (0))) fun x187 =>
 OP (iLoad false 1 h x187) fun x188 =>
 (True) ∧
 OP (iAdrSl 1 l3 x188) fun x189 =>
 OP (iLoad false 1 h x189) fun x190 =>
 (True) ∧
 OP (iLenS x190) fun x191 =>
 OP (iSlS x184 none (some x191)) fun x192 =>
 OP (iAdrSl 1 p4 (.int .i64 (0))) fun x195 =>
 OP (iLoad false 1 h x195) fun x196 =>
 (True) ∧
 OP (iAdrSl 1 l3 x196) fun x197 =>
 OP (iLoad false 1 h x197) fun x198 =>
 (True) ∧
 OP (iBin .eql x192 x198) fun x199 =>
 OP (iPick x177 x199 (.bool false)) fun x200 =>
 GdP x200 true
 (CallP P 13 [] h fun x202 h_1 =>
 (True) ∧
 OP (iPick x200 x202 (.bool false)) fun x203 =>
 K x203 h_1)
 ((True) ∧
 OP (iPick x200 undef (.bool false)) fun x203 =>
 K x203 h))
 (OP (iPick x177 undef (.bool false)) fun x200 =>
 GdP x200 true
 (CallP P 13 [] h fun x202 h_1 =>
 (True) ∧
 OP (iPick x200 x202 (.bool false)) fun x203 =>
 K x203 h_1)
 ((True) ∧
 OP (iPick x200 undef (.bool false)) fun x203 =>
 K x203 h)))
 (OP (iPick x160 undef (.bool false)) fun x177 =>
 GdP x177 true
 (OP (iAdrSl 1 p4 (.int .i64 (1))) fun x181 =>
 OP (iLoad false 1 h x181) fun x182 =>
 (True) ∧
 OP (iAdrSl 1 l3 x182) fun x183 =>
 OP (iLoad false 1 h x183) fun x184 =>
 (True) ∧
 OP (iAdrSl 1 p4 (.int .i64 (0))) fun x187 =>
 OP (iLoad false 1 h x187) fun x188 =>
 (True) ∧
 OP (iAdrSl 1 l3 x188) fun x189 =>
 OP (iLoad false 1 h x189) fun x190 =>
 (True) ∧
 OP (iLenS x190) fun x191 =>
 OP (iSlS x184 none (some x191)) fun x192 =>
 OP (iAdrSl 1 p4 (.int .i64 (0))) fun x195 =>
 OP (iLoad false 1 h x195) fun x196 =>
 (True) ∧
 OP (iAdrSl 1 l3 x196) fun x197 =>
 OP (iLoad false 1 h x197) fun x198 =>
 (True) ∧
 OP (iBin .eql x192 x198) fun x199 =>
 OP (iPick x177 x199 (.bool false)) fun x200 =>
 GdP x200 true
 (CallP P 13 [] h fun x202 h_1 =>
 (True) ∧
 OP (iPick x200 x202 (.bool false)) fun x203 =>
 K x203 h_1)
 ((True) ∧
 OP (iPick x200 undef (.bool false)) fun x203 =>
 K x203 h))
 (OP (iPick x177 undef (.bool false)) fun x200 =>
 GdP x200 true
 (CallP P 13 [] h fun x202 h_1 =>
 (True) ∧
 OP (iPick x200 x202 (.bool false)) fun x203 =>
 K x203 h_1)
 ((True) ∧
 OP (iPick x200 undef (.bool false)) fun x203 =>
 K x203 h))))))
 (OP (iPick x137 undef (.bool false)) fun x143 =>
 GdP x143 true
 (OP (iAdrSl 1 p4 (.int .i64 (1))) fun x146 =>
 OP (iLoad false 1 h x146) fun x147 =>
 (True) ∧
 OP (iLenSl l3) fun x149 =>
 OP (iBin .lss x147 x149) fun x150 =>
 OP (iPick x143 x150 (.bool false)) fun x151 =>
 GdP x151 true
 (OP (iAdrSl 1 p4 (.int .i64 (0))) fun x154 =>
 OP (iLoad false 1 h x154) fun x155 =>
 (True) ∧
 OP (iAdrSl 1 p4 (.int .i64 (1))) fun x157 =>
 OP (iLoad false 1 h x157) fun x158 =>
 (True) ∧
 OP (iBin .neq x155 x158) fun x159 =>
 OP (iPick x151 x159 (.bool false)) fun x160 =>
 GdP x160 true
 (OP (iAdrSl 1 p4 (.int .i64 (0))) fun x164 =>
 OP (iLoad false 1 h x164) fun x165 =>
 (True) ∧
 OP (iAdrSl 1 l3 x165) fun x166 =>
 OP (iLoad false 1 h x166) fun x167 =>
 (True) ∧
 OP (iLenS x167) fun x168 =>
 OP (iAdrSl 1 p4 (.int .i64 (1))) fun x171 =>
 OP (iLoad false 1 h x171) fun x172 =>
 (True) ∧
 OP (iAdrSl 1 l3 x172) fun x173 =>
 OP (iLoad false 1 h x173) fun x174 =>
 (True) ∧
 OP (iLenS x174) fun x175 =>
 OP (iBin .leq x168 x175) fun x176 =>
 OP (iPick x160 x176 (.bool false)) fun x177 =>
 GdP x177 true
 (OP (iAdrSl 1 p4 (.int .i64 (1))) fun x181 =>
 OP (iLoad false 1 h x181) fun x182 =>
 (True) ∧
 OP (iAdrSl 1 l3 x182) fun x183 =>
 OP (iLoad false 1 h x183) fun x184 =>
 (True) ∧
 OP (iAdrSl 1 p4 (.int .i64 (0))) fun x187 =>
 OP (iLoad false 1 h x187) fun x188 =>
 (True) ∧
 OP (iAdrSl 1 l3 x188) fun x189 =>
 OP (iLoad false 1 h x189) fun x190 =>
 (True) ∧
 OP (iLenS x190) fun x191 =>
 OP (iSlS x184 none (some x191)) fun x192 =>
 OP (iAdrSl 1 p4 (.int .i64 (0))) fun x195 =>
 OP (iLoad false 1 h x195) fun x196 =>
 (True) ∧
 OP (iAdrSl 1 l3 x196) fun x197 =>
 OP (iLoad false 1 h x197) fun x198 =>
 (True) ∧
 OP (iBin .eql x192 x198) fun x199 =>
 OP (iPick x177 x199 (.bool false)) fun x200 =>
 GdP x200 true
 (CallP P 13 [] h fun x202 h_1 =>
 (True) ∧
 OP (iPick x200 x202 (.bool false)) fun x203 =>
 K x203 h_1)
 ((True) ∧
 OP (iPick x200 undef (.bool false)) fun x203 =>
 K x203 h))
 (OP (iPick x177 undef (.bool false)) fun x200 =>
 GdP x200 true
 (CallP P 13 [] h fun x202 h_1 =>
 (True) ∧
 OP (iPick x200 x202 (.bool false)) fun x203 =>
 K x203 h_1)
 ((True) ∧
 OP (iPick x200 undef (.bool false)) fun x203 =>
 K x203 h)))
 (OP (iPick x160 undef (.bool false)) fun x177 =>
 GdP x177 true
 (OP (iAdrSl 1 p4 (.int .i64 (1))) fun x181 =>
 OP (iLoad false 1 h x181) fun x182 =>
 (True) ∧
 OP (iAdrSl 1 l3 x182) fun x183 =>
 OP (iLoad false 1 h x183) fun x184 =>
 (True) ∧
 OP (iAdrSl 1 p4 (.int .i64 (0))) fun x187 =>
 OP (iLoad false 1 h x187) fun x188 =>
 (True) ∧
 OP (iAdrSl 1 l3 x188) fun x189 =>
 OP (iLoad false 1 h x189) fun x190 =>
 (True) ∧
 OP (iLenS x190) fun x191 =>
 OP (iSlS x184 none (some x191)) fun x192 =>
 OP (iAdrSl 1 p4 (.int .i64 (0))) fun x195 =>
 OP (iLoad false 1 h x195) fun x196 =>
 (True) ∧
 OP (iAdrSl 1 l3 x196) fun x197 =>
 OP (iLoad false 1 h x197) fun x198 =>
 (True) ∧
 OP (iBin .eql x192 x198) fun x199 =>
 OP (iPick x177 x199 (.bool false)) fun x200 =>
 GdP x200 true
 (CallP P 13 [] h fun x202 h_1 =>
 (True) ∧
 OP (iPick x200 x202 (.bool false)) fun x203 =>
 K x203 h_1)
 ((True) ∧
 OP (iPick x200 undef (.bool false)) fun x203 =>
 K x203 h))
 (OP (iPick x177 undef (.bool false)) fun x200 =>
 GdP x200 true
 (CallP P 13 [] h fun x202 h_1 =>
 (True) ∧
 OP (iPick x200 x202 (.bool false)) fun x203 =>
 K x203 h_1)
 ((True) ∧
 OP (iPick x200 undef (.bool false)) fun x203 =>
 K x203 h))))
 (OP (iPick x151 undef (.bool false)) fun x160 =>
 GdP x160 true
 (OP (iAdrSl 1 p4 (.int .i64 (0))) fun x164 =>
 OP (iLoad false 1 h x164) fun x165 =>
 (True) ∧
 OP (iAdrSl 1 l3 x165) fun x166 =>
 OP (iLoad false 1 h x166) fun x167 =>
 (True) ∧
 OP (iLenS x167) fun x168 =>
 OP (iAdrSl 1 p4 (.int .i64 (1))) fun x171 =>
 OP (iLoad false 1 h x171) fun x172 =>
 (True) ∧
 OP (iAdrSl 1 l3 x172) fun x173 =>
 OP (iLoad false 1 h x173) fun x174 =>
 (True) ∧
 OP (iLenS x174) fun x175 =>
 OP (iBin .leq x168 x175) fun x176 =>
 OP (iPick x160 x176 (.bool false)) fun x177 =>
 GdP x177 true
 (OP (iAdrSl 1 p4 (.int .i64 (1))) fun x181 =>
 OP (iLoad false 1 h x181) fun x182 =>
 (True) ∧
 OP (iAdrSl 1 l3 x182) fun x183 =>
 OP (iLoad false 1 h x183) fun x184 =>
 (True) ∧
 OP (iAdrSl 1 p4 (.int .i64 (0))) fun x187 =>
 OP (iLoad false 1 h x187) fun x188 =>
 (True) ∧
 OP (iAdrSl 1 l3 x188) fun x189 =>
 OP (iLoad false 1 h x189) fun x190 =>
 (True) ∧
 OP (iLenS x190) fun x191 =>
 OP (iSlS x184 none (some x191)) fun x192 =>
 OP (iAdrSl 1 p4 (.int .i64 (0))) fun x195 =>
 OP (iLoad false 1 h x195) fun x196 =>
 (True) ∧
 OP (iAdrSl 1 l3 x196) fun x197 =>
 OP (iLoad false 1 h x197) fun x198 =>
 (True) ∧
 OP (iBin .eql x192 x198) fun x199 =>
 OP (iPick x177 x199 (.bool false)) fun x200 =>
 GdP x200 true
 (CallP P 13 [] h fun x202 h_1 =>
 (True) ∧
 OP (iPick x200 x202 (.bool false)) fun x203 =>
 K x203 h_1)
 ((True) ∧
 OP (iPick x200 undef (.bool false)) fun x203 =>
 K x203 h))
 (OP (iPick x177 undef (.bool false)) fun x200 =>
 GdP x200 true
 (CallP P 13 [] h fun x202 h_1 =>
 (True) ∧
 OP (iPick x200 x202 (.bool false)) fun x203 =>
 K x203 h_1)
 ((True) ∧
 OP (iPick x200 undef (.bool false)) fun x203 =>
 K x203 h)))
 (OP (iPick x160 undef (.bool false)) fun x177 =>
 GdP x177 true
 (OP (iAdrSl 1 p4 (.int .i64 (1))) fun x181 =>
 OP (iLoad false 1 h x181) fun x182 =>
 (True) ∧
 OP (iAdrSl 1 l3 x182) fun x183 =>
 OP (iLoad false 1 h x183) fun x184 =>
 (True) ∧
 OP (iAdrSl 1 p4 (.int .i64 (0))) fun x187 =>
 OP (iLoad false 1 h x187) fun x188 =>
 (True) ∧
 OP (iAdrSl 1 l3 x188) fun x189 =>
 OP (iLoad false 1 h x189) fun x190 =>
 (True) ∧
 OP (iLenS x190) fun x191 =>
 OP (iSlS x184 none (some x191)) fun x192 =>
 OP (iAdrSl 1 p4 (.int .i64 (0))) fun x195 =>
 OP (iLoad false 1 h x195) fun x196 =>
 (True) ∧
 OP (iAdrSl 1 l3 x196) fun x197 =>
 OP (iLoad false 1 h x197) fun x198 =>
 (True) ∧
 OP (iBin .eql x192 x198) fun x199 =>
 OP (iPick x177 x199 (.bool false)) fun x200 =>
 GdP x200 true
 (CallP P 13 [] h fun x202 h_1 =>
 (True) ∧
 OP (iPick x200 x202 (.bool false)) fun x203 =>
 K x203 h_1)
 ((True) ∧
 OP (iPick x200 undef (.bool false)) fun x203 =>
 K x203 h))
 (OP (iPick x177 undef (.bool false)) fun x200 =>
 GdP x200 true
 (CallP P 13 [] h fun x202 h_1 =>
 (True) ∧
 OP (iPick x200 x202 (.bool false)) fun x203 =>
 K x203 h_1)
 ((True) ∧
 OP (iPick x200 undef (.bool false)) fun x203 =>
 K x203 h)))))
 (OP (iPick x143 undef (.bool false)) fun x151 =>
 GdP x151 true
 (OP (iAdrSl 1 p4 (.int .i64 (0))) fun x154 =>
 OP (iLoad false 1 h x154) fun x155 =>
 (True) ∧
 OP (iAdrSl 1 p4 (.int .i64 (1))) fun x157 =>
 OP (iLoad false 1 h x157) fun x158 =>
 (True) ∧
 OP (iBin .neq x155 x158) fun x159 =>
 OP (iPick x151 x159 (.bool false)) fun x160 =>
 GdP x160 true
 (OP (iAdrSl 1 p4 (.int .i64 (0))) fun x164 =>
 OP (iLoad false 1 h x164) fun x165 =>
 (True) ∧
 OP (iAdrSl 1 l3 x165) fun x166 =>
 OP (iLoad false 1 h x166) fun x167 =>
 (True) ∧
 OP (iLenS x167) fun x168 =>
 OP (iAdrSl 1 p4 (.int .i64 (1))) fun x171 =>
 OP (iLoad false 1 h x171) fun x172 =>
 (True) ∧
 OP (iAdrSl 1 l3 x172) fun x173 =>
 OP (iLoad false 1 h x173) fun x174 =>
 (True) ∧
 OP (iLenS x174) fun x175 =>
 OP (iBin .leq x168 x175) fun x176 =>
 OP (iPick x160 x176 (.bool false)) fun x177 =>
 GdP x177 true
 (OP (iAdrSl 1 p4 (.int .i64 (1))) fun x181 =>
 OP (iLoad false 1 h x181) fun x182 =>
 (True) ∧
 OP (iAdrSl 1 l3 x182) fun x183 =>
 OP (iLoad false 1 h x183) fun x184 =>
 (True) ∧
 OP (iAdrSl 1 p4 (.int .i64 (0))) fun x187 =>
 OP (iLoad false 1 h x187) fun x188 =>
 (True) ∧
 OP (iAdrSl 1 l3 x188) fun x189 =>
 OP (iLoad false 1 h x189) fun x190 =>
 (True) ∧
 OP (iLenS x190) fun x191 =>
 OP (iSlS x184 none (some x191)) fun x192 =>
 OP (iAdrSl 1 p4 (.int .i64 (0))) fun x195 =>
 OP (iLoad false 1 h x195) fun x196 =>
 (True) ∧
 OP (iAdrSl 1 l3 x196) fun x197 =>
 OP (iLoad false 1 h x197) fun x198 =>
 (True) ∧
 OP (iBin .eql x192 x198) fun x199 =>
 OP (iPick x177 x199 (.bool false)) fun x200 =>
 GdP x200 true
 (CallP P 13 [] h fun x202 h_1 =>
 (True) ∧
 OP (iPick x200 x202 (.bool false)) fun x203 =>
 K x203 h_1)
 ((True) ∧
 OP (iPick x200 undef (.bool false)) fun x203 =>
 K x203 h))
 (OP (iPick x177 undef (.bool false)) fun x200 =>
 GdP x200 true
 (CallP P 13 [] h fun x202 h_1 =>
 (True) ∧
 OP (iPick x200 x202 (.bool false)) fun x203 =>
 K x203 h_1)
 ((True) ∧
 OP (iPick x200 undef (.bool false)) fun x203 =>
 K x203 h)))
 (OP (iPick x160 undef (.bool false)) fun x177 =>
 GdP x177 true
 (OP (iAdrSl 1 p4 (.int .i64 (1))) fun x181 =>
 OP (iLoad false 1 h x181) fun x182 =>
 (True) ∧
 OP (iAdrSl 1 l3 x182) fun x183 =>
 OP (iLoad false 1 h x183) fun x184 =>
 (True) ∧
 OP (iAdrSl 1 p4 (.int .i64 (0))) fun x187 =>
 OP (iLoad false 1 h x187) fun x188 =>
 (True) ∧
 OP (iAdrSl 1 l3 x188) fun x189 =>
 OP (iLoad false 1 h x189) fun x190 =>
 (True) ∧
 OP (iLenS x190) fun x191 =>
 OP (iSlS x184 none (some x191)) fun x192 =>
 OP (iAdrSl 1 p4 (.int .i64 (0))) fun x195 =>
 OP (iLoad false 1 h x195) fun x196 =>
 (True) ∧
 OP (iAdrSl 1 l3 x196) fun x197 =>
 OP (iLoad false 1 h x197) fun x198 =>
 (True) ∧
 OP (iBin .eql x192 x198) fun x199 =>
 OP (iPick x177 x199 (.bool false)) fun x200 =>
 GdP x200 true
 (CallP P 13 [] h fun x202 h_1 =>
 (True) ∧
 OP (iPick x200 x202 (.bool false)) fun x203 =>
 K x203 h_1)
 ((True) ∧
 OP (iPick x200 undef (.bool false)) fun x203 =>
 K x203 h))
 (OP (iPick x177 undef (.bool false)) fun x200 =>
 GdP x200 true
 (CallP P 13 [] h fun x202 h_1 =>
 (True) ∧
 OP (iPick x200 x202 (.bool false)) fun x203 =>
 K x203 h_1)
 ((True) ∧
 OP (iPick x200 undef (.bool false)) fun x203 =>
 K x203 h))))
 (OP (iPick x151 undef (.bool false)) fun x160 =>
 GdP x160 true
 (OP (iAdrSl 1 p4 (.int .i64 (0))) fun x164 =>
 OP (iLoad false 1 h x164) fun x165 =>
 (True) ∧
 OP (iAdrSl 1 l3 x165) fun x166 =>
 OP (iLoad false 1 h x166) fun x167 =>
 (True) ∧
 OP (iLenS x167) fun x168 =>
 OP (iAdrSl 1 p4 (.int .i64 (1))) fun x171 =>
 OP (iLoad false 1 h x171) fun x172 =>
 (True) ∧
 OP (iAdrSl 1 l3 x172) fun x173 =>
 OP (iLoad false 1 h x173) fun x174 =>
 (True) ∧
 OP (iLenS x174) fun x175 =>
 OP (iBin .leq x168 x175) fun x176 =>
 OP (iPick x160 x176 (.bool false)) fun x177 =>
 GdP x177 true
 (OP (iAdrSl 1 p4 (.int .i64 (1))) fun x181 =>
 OP (iLoad false 1 h x181) fun x182 =>
 (True) ∧
 OP (iAdrSl 1 l3 x182) fun x183 =>
 OP (iLoad false 1 h x183) fun x184 =>
 (True) ∧
 OP (iAdrSl 1 p4 (.int .i64 (0))) fun x187 =>
 OP (iLoad false 1 h x187) fun x188 =>
 (True) ∧
 OP (iAdrSl 1 l3 x188) fun x189 =>
 OP (iLoad false 1 h x189) fun x190 =>
 (True) ∧
 OP (iLenS x190) fun x191 =>
 OP (iSlS x184 none (some x191)) fun x192 =>
 OP (iAdrSl 1 p4 (.int .i64 (0))) fun x195 =>
 OP (iLoad false 1 h x195) fun x196 =>
 (True) ∧
 OP (iAdrSl 1 l3 x196) fun x197 =>
 OP (iLoad false 1 h x197) fun x198 =>
 (True) ∧
 OP (iBin .eql x192 x198) fun x199 =>
 OP (iPick x177 x199 (.bool false)) fun x200 =>
 GdP x200 true
 (CallP P 13 [] h fun x202 h_1 =>
 (True) ∧
 OP (iPick x200 x202 (.bool false)) fun x203 =>
 K x203 h_1)
 ((True) ∧
 OP (iPick x200 undef (.bool false)) fun x203 =>
 K x203 h))
 (OP (iPick x177 undef (.bool false)) fun x200 =>
 GdP x200 true
 (CallP P 13 [] h fun x202 h_1 =>
 (True) ∧
 OP (iPick x200 x202 (.bool false)) fun x203 =>
 K x203 h_1)
 ((True) ∧
 OP (iPick x200 undef (.bool false)) fun x203 =>
 K x203 h)))
 (OP (iPick x160 undef (.bool false)) fun x177 =>
 GdP x177 true
 (OP (iAdrSl 1 p4 (.int .i64 (1))) fun x181 =>
 OP (iLoad false 1 h x181) fun x182 =>
 (True) ∧
 OP (iAdrSl 1 l3 x182) fun x183 =>
 OP (iLoad false 1 h x183) fun x184 =>
 (True) ∧
 OP (iAdrSl 1 p4 (.int .i64 (0))) fun x187 =>
 OP (iLoad false 1 h x187) fun x188 =>
 (True) ∧
 OP (iAdrSl 1 l3 x188) fun x189 =>
 OP (iLoad false 1 h x189) fun x190 =>
 (True) ∧
 OP (iLenS x190) fun x191 =>
 OP (iSlS x184 none (some x191)) fun x192 =>
 OP (iAdrSl 1 p4 (.int .i64 (0))) fun x195 =>
 OP (iLoad false 1 h x195) fun x196 =>
 (True) ∧
 OP (iAdrSl 1 l3 x196) fun x197 =>
 OP (iLoad false 1 h x197) fun x198 =>
 (True) ∧
 OP (iBin .eql x192 x198) fun x199 =>
 OP (iPick x177 x199 (.bool false)) fun x200 =>
 GdP x200 true
 (CallP P 13 [] h fun x202 h_1 =>
 (True) ∧
 OP (iPick x200 x202 (.bool false)) fun x203 =>
 K x203 h_1)
 ((True) ∧
 OP (iPick x200 undef (.bool false)) fun x203 =>
 K x203 h))
 (OP (iPick x177 undef (.bool false)) fun x200 =>
 GdP x200 true
 (CallP P 13 [] h fun x202 h_1 =>
 (True) ∧
 OP (iPick x200 x202 (.bool false)) fun x203 =>
 K x203 h_1)
 ((True) ∧
 OP (iPick x200 undef (.bool false)) fun x203 =>
 K x203 h)))))))
 (OP (iPick x129 undef (.bool false)) fun x137 =>
 GdP x137 true
 (OP (iAdrSl 1 p4 (.int .i64 (1))) fun x140 =>
 OP (iLoad false 1 h x140) fun x141 =>
 (True) ∧
 OP (iBin .geq x141 (.int .i64 (0))) fun x142 =>
 OP (iPick x137 x142 (.bool false)) fun x143 =>
 GdP x143 true
 (OP (iAdrSl 1 p4 (.int .i64 (1))) fun x146 =>
 OP (iLoad false 1 h x146) fun x147 =>
 (True) ∧
 OP (iLenSl l3) fun x149 =>
 OP (iBin .lss x147 x149) fun x150 =>
 OP (iPick x143 x150 (.bool false)) fun x151 =>
 GdP x151 true
 (OP (iAdrSl 1 p4 (.int .i64 (0))) fun x154 =>
 OP (iLoad false 1 h x154) fun x155 =>
 (True) ∧
 OP (iAdrSl 1 p4 (.int .i64 (1))) fun x157 =>
 OP (iLoad false 1 h x157) fun x158 =>
 (True) ∧
 OP (iBin .neq x155 x158) fun x159 =>
 OP (iPick x151 x159 (.bool false)) fun x160 =>
 GdP x160 true
 (OP (iAdrSl 1 p4 (.int .i64 (0))) fun x164 =>
 OP (iLoad false 1 h x164) fun x165 =>
 (True) ∧
 OP (iAdrSl 1 l3 x165) fun x166 =>
 OP (iLoad false 1 h x166) fun x167 =>
 (True) ∧
 OP (iLenS x167) fun x168 =>
 OP (iAdrSl 1 p4 (.int .i64 (1))) fun x171 =>
 OP (iLoad false 1 h x171) fun x172 =>
 (True) ∧
 OP (iAdrSl 1 l3 x172) fun x173 =>
 OP (iLoad false 1 h x173) fun x174 =>
 (True) ∧
 OP (iLenS x174) fun x175 =>
 OP (iBin .leq x168 x175) fun x176 =>
 OP (iPick x160 x176 (.bool false)) fun x177 =>
 GdP x177 true
 (OP (iAdrSl 1 p4 (.int .i64 (1))) fun x181 =>
 OP (iLoad false 1 h x181) fun x182 =>
 (True) ∧
 OP (iAdrSl 1 l3 x182) fun x183 =>
 OP (iLoad false 1 h x183) fun x184 =>
 (True) ∧
 OP (iAdrSl 1 p4 (.int .i64 (0))) fun x187 =>
 OP (iLoad false 1 h x187) fun x188 =>
 (True) ∧
 OP (iAdrSl 1 l3 x188) fun x189 =>
 OP (iLoad false 1 h x189) fun x190 =>
 (True) ∧
 OP (iLenS x190) fun x191 =>
 OP (iSlS x184 none (some x191)) fun x192 =>
 OP (iAdrSl 1 p4 (.int .i64 (0))) fun x195 =>
 OP (iLoad false 1 h x195) fun x196 =>
 (True) ∧
 OP (iAdrSl 1 l3 x196) fun x197 =>
 OP (iLoad false 1 h x197) fun x198 =>
 (True) ∧
 OP (iBin .eql x192 x198) fun x199 =>
 OP (iPick x177 x199 (.bool false)) fun x200 =>
 GdP x200 true
 (CallP P 13 [] h fun x202 h_1 =>
 (True) ∧
 OP (iPick x200 x202 (.bool false)) fun x203 =>
 K x203 h_1)
 ((True) ∧
 OP (iPick x200 undef (.bool false)) fun x203 =>
 K x203 h))
 (OP (iPick x177 undef (.bool false)) fun x200 =>
 GdP x200 true
 (CallP P 13 [] h fun x202 h_1 =>
 (True) ∧
 OP (iPick x200 x202 (.bool false)) fun x203 =>
 K x203 h_1)
 ((True) ∧
 OP (iPick x200 undef (.bool false)) fun x203 =>
 K x203 h)))
 (OP (iPick x160 undef (.bool false)) fun x177 =>
 GdP x177 true
 (OP (iAdrSl 1 p4 (.int .i64 (1))) fun x181 =>
 OP (iLoad false 1 h x181) fun x182 =>
 (True) ∧
 OP (iAdrSl 1 l3 x182) fun x183 =>
 OP (iLoad false 1 h x183) fun x184 =>
 (True) ∧
 OP (iAdrSl 1 p4 (.int .i64 (0))) fun x187 =>
 OP (iLoad false 1 h x187) fun x188 =>
 (True) ∧
 OP (iAdrSl 1 l3 x188) fun x189 =>
 OP (iLoad false 1 h x189) fun x190 =>
 (True) ∧
 OP (iLenS x190) fun x191 =>
 OP (iSlS x184 none (some x191)) fun x192 =>
 OP (iAdrSl 1 p4 (.int .i64 (0))) fun x195 =>
 OP (iLoad false 1 h x195) fun x196 =>
 (True) ∧
 OP (iAdrSl 1 l3 x196) fun x197 =>
 OP (iLoad false 1 h x197) fun x198 =>
 (True) ∧
 OP (iBin .eql x192 x198) fun x199 =>
 OP (iPick x177 x199 (.bool false)) fun x200 =>
 GdP x200 true
 (CallP P 13 [] h fun x202 h_1 =>
 (True) ∧
 OP (iPick x200 x202 (.bool false)) fun x203 =>
 K x203 h_1)
 ((True) ∧
 OP (iPick x200 undef (.bool false)) fun x203 =>
 K x203 h))
 (OP (iPick x177 undef (.bool false)) fun x200 =>
 GdP x200 true
 (CallP P 13 [] h fun x202 h_1 =>
 (True) ∧
 OP (iPick x200 x202 (.bool false)) fun x203 =>
 K x203 h_1)
 ((True) ∧
 OP (iPick x200 undef (.bool false)) fun x203 =>
 K x203 h))))
 (OP (iPick x151 undef (.bool false)) fun x160 =>
 GdP x160 true
 (OP (iAdrSl 1 p4 (.int .i64 (0))) fun x164 =>
 OP (iLoad false 1 h x164) fun x165 =>
 (True) ∧
 OP (iAdrSl 1 l3 x165) fun x166 =>
 OP (iLoad false 1 h x166) fun x167 =>
 (True) ∧
 OP (iLenS x167) fun x168 =>
 OP (iAdrSl 1 p4 (.int .i64 (1))) fun x171 =>
 OP (iLoad false 1 h x171) fun x172 =>
 (True) ∧
 OP (iAdrSl 1 l3 x172) fun x173 =>
 OP (iLoad false 1 h x173) fun x174 =>
 (True) ∧
 OP (iLenS x174) fun x175 =>
 OP (iBin .leq x168 x175) fun x176 =>
 OP (iPick x160 x176 (.bool false)) fun x177 =>
 GdP x177 true
 (OP (iAdrSl 1 p4 (.int .i64 (1))) fun x181 =>
 OP (iLoad false 1 h x181) fun x182 =>
 (True) ∧
 OP (iAdrSl 1 l3 x182) fun x183 =>
 OP (iLoad false 1 h x183) fun x184 =>
 (True) ∧
 OP (iAdrSl 1 p4 (.int .i64 (0))) fun x187 =>
 OP (iLoad false 1 h x187) fun x188 =>
 (True) ∧
 OP (iAdrSl 1 l3 x188) fun x189 =>
 OP (iLoad false 1 h x189) fun x190 =>
 (True) ∧
 OP (iLenS x190) fun x191 =>
 OP (iSlS x184 none (some x191)) fun x192 =>
 OP (iAdrSl 1 p4 (.int .i64 (0))) fun x195 =>
 OP (iLoad false 1 h x195) fun x196 =>
 (True) ∧
 OP (iAdrSl 1 l3 x196) fun x197 =>
 OP (iLoad false 1 h x197) fun x198 =>
 (True) ∧
 OP (iBin .eql x192 x198) fun x199 =>
 OP (iPick x177 x199 (.bool false)) fun x200 =>
 GdP x200 true
 (CallP P 13 [] h fun x202 h_1 =>
 (True) ∧
 OP (iPick x200 x202 (.bool false)) fun x203 =>
 K x203 h_1)
 ((True) ∧
 OP (iPick x200 undef (.bool false)) fun x203 =>
 K x203 h))
 (OP (iPick x177 undef (.bool false)) fun x200 =>
 GdP x200 true
 (CallP P 13 [] h fun x202 h_1 =>
 (True) ∧
 OP (iPick x200 x202 (.bool false)) fun x203 =>
 K x203 h_1)
 ((True) ∧
 OP (iPick x200 undef (.bool false)) fun x203 =>
 K x203 h)))
 (OP (iPick x160 undef (.bool false)) fun x177 =>
 GdP x177 true
 (OP (iAdrSl 1 p4 (.int .i64 (1))) fun x181 =>
 OP (iLoad false 1 h x181) fun x182 =>
 (True) ∧
 OP (iAdrSl 1 l3 x182) fun x183 =>
 OP (iLoad false 1 h x183) fun x184 =>
 (True) ∧
 OP (iAdrSl 1 p4 (.int .i64 (0))) fun x187 =>
 OP (iLoad false 1 h x187) fun x188 =>
 (True) ∧
 OP (iAdrSl 1 l3 x188) fun x189 =>
 OP (iLoad false 1 h x189) fun x190 =>
 (True) ∧
 OP (iLenS x190) fun x191 =>
 OP (iSlS x184 none (some x191)) fun x192 =>
 OP (iAdrSl 1 p4 (.int .i64 (0))) fun x195 =>
 OP (iLoad false 1 h x195) fun x196 =>
 (True) ∧
 OP (iAdrSl 1 l3 x196) fun x197 =>
 OP (iLoad false 1 h x197) fun x198 =>
 (True) ∧
 OP (iBin .eql x192 x198) fun x199 =>
 OP (iPick x177 x199 (.bool false)) fun x200 =>
 GdP x200 true
 (CallP P 13 [] h fun x202 h_1 =>
 (True) ∧
 OP (iPick x200 x202 (.bool false)) fun x203 =>
 K x203 h_1)
 ((True) ∧
 OP (iPick x200 undef (.bool false)) fun x203 =>
 K x203 h))
 (OP (iPick x177 undef (.bool false)) fun x200 =>
 GdP x200 true
 (CallP P 13 [] h fun x202 h_1 =>
 (True) ∧
 OP (iPick x200 x202 (.bool false)) fun x203 =>
 K x203 h_1)
 ((True) ∧
 OP (iPick x200 undef (.bool false)) fun x203 =>
 K x203 h)))))
 (OP (iPick x143 undef (.bool false)) fun x151 =>
 GdP x151 true
 (OP (iAdrSl 1 p4 (.int .i64 (0))) fun x154 =>
 OP (iLoad false 1 h x154) fun x155 =>
 (True) ∧
 OP (iAdrSl 1 p4 (.int .i64 (1))) fun x157 =>
 OP (iLoad false 1 h x157) fun x158 =>
 (True) ∧
 OP (iBin .neq x155 x158) fun x159 =>
 OP (iPick x151 x159 (.bool false)) fun x160 =>
 GdP x160 true
 (OP (iAdrSl 1 p4 (.int .i64 (0))) fun x164 =>
 OP (iLoad false 1 h x164) fun x165 =>
 (True) ∧
 OP (iAdrSl 1 l3 x165) fun x166 =>
 OP (iLoad false 1 h x166) fun x167 =>
 (True) ∧
 OP (iLenS x167) fun x168 =>
 OP (iAdrSl 1 p4 (.int .i64 (1))) fun x171 =>
 OP (iLoad false 1 h x171) fun x172 =>
 (True) ∧
 OP (iAdrSl 1 l3 x172) fun x173 =>
 OP (iLoad false 1 h x173) fun x174 =>
 (True) ∧
 OP (iLenS x174) fun x175 =>
 OP (iBin .leq x168 x175) fun x176 =>
 OP (iPick x160 x176 (.bool false)) fun x177 =>
 GdP x177 true
 (OP (iAdrSl 1 p4 (.int .i64 (1))) fun x181 =>
 OP (iLoad false 1 h x181) fun x182 =>
 (True) ∧
 OP (iAdrSl 1 l3 x182) fun x183 =>
 OP (iLoad false 1 h x183) fun x184 =>
 (True) ∧
 OP (iAdrSl 1 p4 (.int .i64 (0))) fun x187 =>
 OP (iLoad false 1 h x187) fun x188 =>
 (True) ∧
 OP (iAdrSl 1 l3 x188) fun x189 =>
 OP (iLoad false 1 h x189) fun x190 =>
 (True) ∧
 OP (iLenS x190) fun x191 =>
 OP (iSlS x184 none (some x191)) fun x192 =>
 OP (iAdrSl 1 p4 (.int .i64 (0))) fun x195 =>
 OP (iLoad false 1 h x195) fun x196 =>
 (True) ∧
 OP (iAdrSl 1 l3 x196) fun x197 =>
 OP (iLoad false 1 h x197) fun x198 =>
 (True) ∧
 OP (iBin .eql x192 x198) fun x199 =>
 OP (iPick x177 x199 (.bool false)) fun x200 =>
 GdP x200 true
 (CallP P 13 [] h fun x202 h_1 =>
 (True) ∧
 OP (iPick x200 x202 (.bool false)) fun x203 =>
 K x203 h_1)
 ((True) ∧
 OP (iPick x200 undef (.bool false)) fun x203 =>
 K x203 h))
 (OP (iPick x177 undef (.bool false)) fun x200 =>
 GdP x200 true
 (CallP P 13 [] h fun x202 h_1 =>
 (True) ∧
 OP (iPick x200 x202 (.bool false)) fun x203 =>
 K x203 h_1)
 ((True) ∧
 OP (iPick x200 undef (.bool false)) fun x203 =>
 K x203 h)))
 (OP (iPick x160 undef (.bool false)) fun x177 =>
 GdP x177 true
 (OP (iAdrSl 1 p4 (.int .i64 (1))) fun x181 =>
 OP (iLoad false 1 h x181) fun x182 =>
 (True) ∧
 OP (iAdrSl 1 l3 x182) fun x183 =>
 OP (iLoad false 1 h x183) fun x184 =>
 (True) ∧
 OP (iAdrSl 1 p4 (.int .i64 (0))) fun x187 =>
 OP (iLoad false 1 h x187) fun x188 =>
 (True) ∧
 OP (iAdrSl 1 l3 x188) fun x189 =>
 OP (iLoad false 1 h x189) fun x190 =>
 (True) ∧
 OP (iLenS x190) fun x191 =>
 OP (iSlS x184 none (some x191)) fun x192 =>
 OP (iAdrSl 1 p4 (.int .i64 (0))) fun x195 =>
 OP (iLoad false 1 h x195) fun x196 =>
 (True) ∧
 OP (iAdrSl 1 l3 x196) fun x197 =>
 OP (iLoad false 1 h x197) fun x198 =>
 (True) ∧
 OP (iBin .eql x192 x198) fun x199 =>
 OP (iPick x177 x199 (.bool false)) fun x200 =>
 GdP x200 true
 (CallP P 13 [] h fun x202 h_1 =>
 (True) ∧
 OP (iPick x200 x202 (.bool false)) fun x203 =>
 K x203 h_1)
 ((True) ∧
 OP (iPick x200 undef (.bool false)) fun x203 =>
 K x203 h))
 (OP (iPick x177 undef (.bool false)) fun x200 =>
 GdP x200 true
 (CallP P 13 [] h fun x202 h_1 =>
 (True) ∧
 OP (iPick x200 x202 (.bool false)) fun x203 =>
 K x203 h_1)
 ((True) ∧
 OP (iPick x200 undef (.bool false)) fun x203 =>
 K x203 h))))
 (OP (iPick x151 undef (.bool false)) fun x160 =>
 GdP x160 true
 (OP (iAdrSl 1 p4 (.int .i64 (0))) fun x164 =>
 OP (iLoad false 1 h x164) fun x165 =>
 (True) ∧
 OP (iAdrSl 1 l3 x165) fun x166 =>
 OP (iLoad false 1 h x166) fun x167 =>
 (True) ∧
 OP (iLenS x167) fun x168 =>
 OP (iAdrSl 1 p4 (.int .i64 (1))) fun x171 =>
 OP (iLoad false 1 h x171) fun x172 =>
 (True) ∧
 OP (iAdrSl 1 l3 x172) fun x173 =>
 OP (iLoad false 1 h x173) fun x174 =>
 (True) ∧
 OP (iLenS x174) fun x175 =>
 OP (iBin .leq x168 x175) fun x176 =>
 OP (iPick x160 x176 (.bool false)) fun x177 =>
 GdP x177 true
 (OP (iAdrSl 1 p4 (.int .i64 (1))) fun x181 =>
 OP (iLoad false 1 h x181) fun x182 =>
 (True) ∧
 OP (iAdrSl 1 l3 x182) fun x183 =>
 OP (iLoad false 1 h x183) fun x184 =>
 (True) ∧
 OP (iAdrSl 1 p4 (.int .i64 (0))) fun x187 =>
 OP (iLoad false 1 h x187) fun x188 =>
 (True) ∧
 OP (iAdrSl 1 l3 x188) fun x189 =>
 OP (iLoad false 1 h x189) fun x190 =>
 (True) ∧
 OP (iLenS x190) fun x191 =>
 OP (iSlS x184 none (some x191)) fun x192 =>
 OP (iAdrSl 1 p4 (.int .i64 (0))) fun x195 =>
 OP (iLoad false 1 h x195) fun x196 =>
 (True) ∧
 OP (iAdrSl 1 l3 x196) fun x197 =>
 OP (iLoad false 1 h x197) fun x198 =>
 (True) ∧
 OP (iBin .eql x192 x198) fun x199 =>
 OP (iPick x177 x199 (.bool false)) fun x200 =>
 GdP x200 true
 (CallP P 13 [] h fun x202 h_1 =>
 (True) ∧
 OP (iPick x200 x202 (.bool false)) fun x203 =>
 K x203 h_1)
 ((True) ∧
 OP (iPick x200 undef (.bool false)) fun x203 =>
 K x203 h))
 (OP (iPick x177 undef (.bool false)) fun x200 =>
 GdP x200 true
 (CallP P 13 [] h fun x202 h_1 =>
 (True) ∧
 OP (iPick x200 x202 (.bool false)) fun x203 =>
 K x203 h_1)
 ((True) ∧
 OP (iPick x200 undef (.bool false)) fun x203 =>
 K x203 h)))
 (OP (iPick x160 undef (.bool false)) fun x177 =>
 GdP x177 true
 (OP (iAdrSl 1 p4 (.int .i64 (1))) fun x181 =>
 OP (iLoad false 1 h x181) fun x182 =>
 (True) ∧
 OP (iAdrSl 1 l3 x182) fun x183 =>
 OP (iLoad false 1 h x183) fun x184 =>
 (True) ∧
 OP (iAdrSl 1 p4 (.int .i64 (0))) fun x187 =>
 OP (iLoad false 1 h x187) fun x188 =>
 (True) ∧
 OP (iAdrSl 1 l3 x188) fun x189 =>
 OP (iLoad false 1 h x189) fun x190 =>
 (True) ∧
 OP (iLenS x190) fun x191 =>
 OP (iSlS x184 none (some x191)) fun x192 =>
 OP (iAdrSl 1 p4 (.int .i64 (0))) fun x195 =>
 OP (iLoad false 1 h x195) fun x196 =>
 (True) ∧
 OP (iAdrSl 1 l3 x196) fun x197 =>
 OP (iLoad false 1 h x197) fun x198 =>
 (True) ∧
 OP (iBin .eql x192 x198) fun x199 =>
 OP (iPick x177 x199 (.bool false)) fun x200 =>
 GdP x200 true
 (CallP P 13 [] h fun x202 h_1 =>
 (True) ∧
 OP (iPick x200 x202 (.bool false)) fun x203 =>
 K x203 h_1)
 ((True) ∧
 OP (iPick x200 undef (.bool false)) fun x203 =>
 K x203 h))
 (OP (iPick x177 undef (.bool false)) fun x200 =>
 GdP x200 true
 (CallP P 13 [] h fun x202 h_1 =>
 (True) ∧
 OP (iPick x200 x202 (.bool false)) fun x203 =>
 K x203 h_1)
 ((True) ∧
 OP (iPick x200 undef (.bool false)) fun x203 =>
 K x203 h))))))
 (OP (iPick x137 undef (.bool false)) fun x143 =>
 GdP x143 true
 (OP (iAdrSl 1 p4 (.int .i64 (1))) fun x146 =>
 OP (iLoad false 1 h x146) fun x147 =>
 (True) ∧
 OP (iLenSl l3) fun x149 =>
 OP (iBin .lss x147 x149) fun x150 =>
 OP (iPick x143 x150 (.bool false)) fun x151 =>
 GdP x151 true
 (OP (iAdrSl 1 p4 (.int .i64 (0))) fun x154 =>
 OP (iLoad false 1 h x154) fun x155 =>
 (True) ∧
 OP (iAdrSl 1 p4 (.int .i64 (1))) fun x157 =>
 OP (iLoad false 1 h x157) fun x158 =>
 (True) ∧
 OP (iBin .neq x155 x158) fun x159 =>
 OP (iPick x151 x159 (.bool false)) fun x160 =>
 GdP x160 true
 (OP (iAdrSl 1 p4 (.int .i64 (0))) fun x164 =>
 OP (iLoad false 1 h x164) fun x165 =>
 (True) ∧
 OP (iAdrSl 1 l3 x165) fun x166 =>
 OP (iLoad false 1 h x166) fun x167 =>
 (True) ∧
 OP (iLenS x167) fun x168 =>
 OP (iAdrSl 1 p4 (.int .i64 (1))) fun x171 =>
 OP (iLoad false 1 h x171) fun x172 =>
 (True) ∧
 OP (iAdrSl 1 l3 x172) fun x173 =>
 OP (iLoad false 1 h x173) fun x174 =>
 (True) ∧
 OP (iLenS x174) fun x175 =>
 OP (iBin .leq x168 x175) fun x176 =>
 OP (iPick x160 x176 (.bool false)) fun x177 =>
 GdP x177 true
 (OP (iAdrSl 1 p4 (.int .i64 (1))) fun x181 =>
 OP (iLoad false 1 h x181) fun x182 =>
 (True) ∧
 OP (iAdrSl 1 l3 x182) fun x183 =>
 OP (iLoad false 1 h x183) fun x184 =>
 (True) ∧
 OP (iAdrSl 1 p4 (.int .i64 (0))) fun x187 =>
 OP (iLoad false 1 h x187) fun x188 =>
 (True) ∧
 OP (iAdrSl 1 l3 x188) fun x189 =>
 OP (iLoad false 1 h x189) fun x190 =>
 (True) ∧
 OP (iLenS x190) fun x191 =>
 OP (iSlS x184 none (some x191)) fun x192 =>
 OP (iAdrSl 1 p4 (.int .i64 (0))) fun x195 =>
 OP (iLoad false 1 h x195) fun x196 =>
 (True) ∧
 OP (iAdrSl 1 l3 x196) fun x197 =>
 OP (iLoad false 1 h x197) fun x198 =>
 (True) ∧
 OP (iBin .eql x192 x198) fun x199 =>
 OP (iPick x177 x199 (.bool false)) fun x200 =>
 GdP x200 true
 (CallP P 13 [] h fun x202 h_1 =>
 (True) ∧
 OP (iPick x200 x202 (.bool false)) fun x203 =>
 K x203 h_1)
 ((True) ∧
 OP (iPick x200 undef (.bool false)) fun x203 =>
 K x203 h))
 (OP (iPick x177 undef (.bool false)) fun x200 =>
 GdP x200 true
 (CallP P 13 [] h fun x202 h_1 =>
 (True) ∧
 OP (iPick x200 x202 (.bool false)) fun x203 =>
 K x203 h_1)
 ((True) ∧
 OP (iPick x200 undef (.bool false)) fun x203 =>
 K x203 h)))
 (OP (iPick x160 undef (.bool false)) fun x177 =>
 GdP x177 true
 (OP (iAdrSl 1 p4 (.int .i64 (1))) fun x181 =>
 OP (iLoad false 1 h x181) fun x182 =>
 (True) ∧
 OP (iAdrSl 1 l3 x182) fun x183 =>
 OP (iLoad false 1 h x183) fun x184 =>
 (True) ∧
 OP (iAdrSl 1 p4 (.int .i64 (0))) fun x187 =>
 OP (iLoad false 1 h x187) fun x188 =>
 (True) ∧
 OP (iAdrSl 1 l3 x188) fun x189 =>
 OP (iLoad false 1 h x189) fun x190 =>
 (True) ∧
 OP (iLenS x190) fun x191 =>
 OP (iSlS x184 none (some x191)) fun x192 =>
 OP (iAdrSl 1 p4 (.int .i64 (0))) fun x195 =>
 OP (iLoad false 1 h x195) fun x196 =>
 (True) ∧
 OP (iAdrSl 1 l3 x196) fun x197 =>
 OP (iLoad false 1 h x197) fun x198 =>
 (True) ∧
 OP (iBin .eql x192 x198) fun x199 =>
 OP (iPick x177 x199 (.bool false)) fun x200 =>
 GdP x200 true
 (CallP P 13 [] h fun x202 h_1 =>
 (True) ∧
 OP (iPick x200 x202 (.bool false)) fun x203 =>
 K x203 h_1)
 ((True) ∧
 OP (iPick x200 undef (.bool false)) fun x203 =>
 K x203 h))
 (OP (iPick x177 undef (.bool false)) fun x200 =>
 GdP x200 true
 (CallP P 13 [] h fun x202 h_1 =>
 (True) ∧
 OP (iPick x200 x202 (.bool false)) fun x203 =>
 K x203 h_1)
 ((True) ∧
 OP (iPick x200 undef (.bool false)) fun x203 =>
 K x203 h))))
 (OP (iPick x151 undef (.bool false)) fun x160 =>
 GdP x160 true
 (OP (iAdrSl 1 p4 (.int .i64 (0))) fun x164 =>
 OP (iLoad false 1 h x164) fun x165 =>
 (True) ∧
 OP (iAdrSl 1 l3 x165) fun x166 =>
 OP (iLoad false 1 h x166) fun x167 =>
 (True) ∧
 OP (iLenS x167) fun x168 =>
 OP (iAdrSl 1 p4 (.int .i64 (1))) fun x171 =>
 OP (iLoad false 1 h x171) fun x172 =>
 (True) ∧
 OP (iAdrSl 1 l3 x172) fun x173 =>
 OP (iLoad false 1 h x173) fun x174 =>
 (True) ∧
 OP (iLenS x174) fun x175 =>
 OP (iBin .leq x168 x175) fun x176 =>
 OP (iPick x160 x176 (.bool false)) fun x177 =>
 GdP x177 true
 (OP (iAdrSl 1 p4 (.int .i64 (1))) fun x181 =>
 OP (iLoad false 1 h x181) fun x182 =>
 (True) ∧
 OP (iAdrSl 1 l3 x182) fun x183 =>
 OP (iLoad false 1 h x183) fun x184 =>
 (True) ∧
 OP (iAdrSl 1 p4 (.int .i64 (0))) fun x187 =>
 OP (iLoad false 1 h x187) fun x188 =>
 (True) ∧
 OP (iAdrSl 1 l3 x188) fun x189 =>
 OP (iLoad false 1 h x189) fun x190 =>
 (True) ∧
 OP (iLenS x190) fun x191 =>
 OP (iSlS x184 none (some x191)) fun x192 =>
 OP (iAdrSl 1 p4 (.int .i64 (0))) fun x195 =>
 OP (iLoad false 1 h x195) fun x196 =>
 (True) ∧
 OP (iAdrSl 1 l3 x196) fun x197 =>
 OP (iLoad false 1 h x197) fun x198 =>
 (True) ∧
 OP (iBin .eql x192 x198) fun x199 =>
 OP (iPick x177 x199 (.bool false)) fun x200 =>
 GdP x200 true
 (CallP P 13 [] h fun x202 h_1 =>
 (True) ∧
 OP (iPick x200 x202 (.bool false)) fun x203 =>
 K x203 h_1)
 ((True) ∧
 OP (iPick x200 undef (.bool false)) fun x203 =>
 K x203 h))
 (OP (iPick x177 undef (.bool false)) fun x200 =>
 GdP x200 true
 (CallP P 13 [] h fun x202 h_1 =>
 (True) ∧
 OP (iPick x200 x202 (.bool false)) fun x203 =>
 K x203 h_1)
 ((True) ∧
 OP (iPick x200 undef (.bool false)) fun x203 =>
 K x203 h)))
 (OP (iPick x160 undef (.bool false)) fun x177 =>
 GdP x177 true
 (OP (iAdrSl 1 p4 (.int .i64 (1))) fun x181 =>
 OP (iLoad false 1 h x181) fun x182 =>
 (True) ∧
 OP (iAdrSl 1 l3 x182) fun x183 =>
 OP (iLoad false 1 h x183) fun x184 =>
 (True) ∧
 OP (iAdrSl 1 p4 (.int .i64 (0))) fun x187 =>
 OP (iLoad false 1 h x187) fun x188 =>
 (True) ∧
 OP (iAdrSl 1 l3 x188) fun x189 =>
 OP (iLoad false 1 h x189) fun x190 =>
 (True) ∧
 OP (iLenS x190) fun x191 =>
 OP (iSlS x184 none (some x191)) fun x192 =>
 OP (iAdrSl 1 p4 (.int .i64 (0))) fun x195 =>
 OP (iLoad false 1 h x195) fun x196 =>
 (True) ∧
 OP (iAdrSl 1 l3 x196) fun x197 =>
 OP (iLoad false 1 h x197) fun x198 =>
 (True) ∧
 OP (iBin .eql x192 x198) fun x199 =>
 OP (iPick x177 x199 (.bool false)) fun x200 =>
 GdP x200 true
 (CallP P 13 [] h fun x202 h_1 =>
 (True) ∧
 OP (iPick x200 x202 (.bool false)) fun x203 =>
 K x203 h_1)
 ((True) ∧
 OP (iPick x200 undef (.bool false)) fun x203 =>
 K x203 h))
 (OP (iPick x177 undef (.bool false)) fun x200 =>
 GdP x200 true
 (CallP P 13 [] h fun x202 h_1 =>
 (True) ∧
 OP (iPick x200 x202 (.bool false)) fun x203 =>
 K x203 h_1)
 ((True) ∧
 OP (iPick x200 undef (.bool false)) fun x203 =>
 K x203 h)))))
 (OP (iPick x143 undef (.bool false)) fun x151 =>
 GdP x151 true
 (OP (iAdrSl 1 p4 (.int .i64 (0))) fun x154 =>
 OP (iLoad false 1 h x154) fun x155 =>
 (True) ∧
 OP (iAdrSl 1 p4 (.int .i64 (1))) fun x157 =>
 OP (iLoad false 1 h x157) fun x158 =>
 (True) ∧
 OP (iBin .neq x155 x158) fun x159 =>
 OP (iPick x151 x159 (.bool false)) fun x160 =>
 GdP x160 true
 (OP (iAdrSl 1 p4 (.int .i64 (0))) fun x164 =>
 OP (iLoad false 1 h x164) fun x165 =>
 (True) ∧
 OP (iAdrSl 1 l3 x165) fun x166 =>
 OP (iLoad false 1 h x166) fun x167 =>
 (True) ∧
 OP (iLenS x167) fun x168 =>
 OP (iAdrSl 1 p4 (.int .i64 (1))) fun x171 =>
 OP (iLoad false 1 h x171) fun x172 =>
 (True) ∧
 OP (iAdrSl 1 l3 x172) fun x173 =>
 OP (iLoad false 1 h x173) fun x174 =>
 (True) ∧
 OP (iLenS x174) fun x175 =>
 OP (iBin .leq x168 x175) fun x176 =>
 OP (iPick x160 x176 (.bool false)) fun x177 =>
 GdP x177 true
 (OP (iAdrSl 1 p4 (.int .i64 (1))) fun x181 =>
 OP (iLoad false 1 h x181) fun x182 =>
 (True) ∧
 OP (iAdrSl 1 l3 x182) fun x183 =>
 OP (iLoad false 1 h x183) fun x184 =>
 (True) ∧
 OP (iAdrSl 1 p4 (.int .i64 (0))) fun x187 =>
 OP (iLoad false 1 h x187) fun x188 =>
 (True) ∧
 OP (iAdrSl 1 l3 x188) fun x189 =>
 OP (iLoad false 1 h x189) fun x190 =>
 (True) ∧
 OP (iLenS x190) fun x191 =>
 OP (iSlS x184 none (some x191)) fun x192 =>
 OP (iAdrSl 1 p4 (.int .i64 (0))) fun x195 =>
 OP (iLoad false 1 h x195) fun x196 =>
 (True) ∧
 OP (iAdrSl 1 l3 x196) fun x197 =>
 OP (iLoad false 1 h x197) fun x198 =>
 (True) ∧
 OP (iBin .eql x192 x198) fun x199 =>
 OP (iPick x177 x199 (.bool false)) fun x200 =>
 GdP x200 true
 (CallP P 13 [] h fun x202 h_1 =>
 (True) ∧
 OP (iPick x200 x202 (.bool false)) fun x203 =>
 K x203 h_1)
 ((True) ∧
 OP (iPick x200 undef (.bool false)) fun x203 =>
 K x203 h))
 (OP (iPick x177 undef (.bool false)) fun x200 =>
 GdP x200 true
 (CallP P 13 [] h fun x202 h_1 =>
 (True) ∧
 OP (iPick x200 x202 (.bool false)) fun x203 =>
 K x203 h_1)
 ((True) ∧
 OP (iPick x200 undef (.bool false)) fun x203 =>
 K x203 h)))
 (OP (iPick x160 undef (.bool false)) fun x177 =>
 GdP x177 true
 (OP (iAdrSl 1 p4 (.int .i64 (1))) fun x181 =>
 OP (iLoad false 1 h x181) fun x182 =>
 (True) ∧
 OP (iAdrSl 1 l3 x182) fun x183 =>
 OP (iLoad false 1 h x183) fun x184 =>
 (True) ∧
 OP (iAdrSl 1 p4 (.int .i64 (0))) fun x187 =>
 OP (iLoad false 1 h x187) fun x188 =>
 (True) ∧
 OP (iAdrSl 1 l3 x188) fun x189 =>
 OP (iLoad false 1 h x189) fun x190 =>
 (True) ∧
 OP (iLenS x190) fun x191 =>
 OP (iSlS x184 none (some x191)) fun x192 =>
 OP (iAdrSl 1 p4 (.int .i64 (0))) fun x195 =>
 OP (iLoad false 1 h x195) fun x196 =>
 (True) ∧
 OP (iAdrSl 1 l3 x196) fun x197 =>
 OP (iLoad false 1 h x197) fun x198 =>
 (True) ∧
 OP (iBin .eql x192 x198) fun x199 =>
 OP (iPick x177 x199 (.bool false)) fun x200 =>
 GdP x200 true
 (CallP P 13 [] h fun x202 h_1 =>
 (True) ∧
 OP (iPick x200 x202 (.bool false)) fun x203 =>
 K x203 h_1)
 ((True) ∧
 OP (iPick x200 undef (.bool false)) fun x203 =>
 K x203 h))
 (OP (iPick x177 undef (.bool false)) fun x200 =>
 GdP x200 true
 (CallP P 13 [] h fun x202 h_1 =>
 (True) ∧
 OP (iPick x200 x202 (.bool false)) fun x203 =>
 K x203 h_1)
 ((True) ∧
 OP (iPick x200 undef (.bool false)) fun x203 =>
 K x203 h))))
 (OP (iPick x151 undef (.bool false)) fun x160 =>
 GdP x160 true
 (OP (iAdrSl 1 p4 (.int .i64 (0))) fun x164 =>
 OP (iLoad false 1 h x164) fun x165 =>
 (True) ∧
 OP (iAdrSl 1 l3 x165) fun x166 =>
 OP (iLoad false 1 h x166) fun x167 =>
 (True) ∧
 OP (iLenS x167) fun x168 =>
 OP (iAdrSl 1 p4 (.int .i64 (1))) fun x171 =>
 OP (iLoad false 1 h x171) fun x172 =>
 (True) ∧
 OP (iAdrSl 1 l3 x172) fun x173 =>
 OP (iLoad false 1 h x173) fun x174 =>
 (True) ∧
 OP (iLenS x174) fun x175 =>
 OP (iBin .leq x168 x175) fun x176 =>
 OP (iPick x160 x176 (.bool false)) fun x177 =>
 GdP x177 true
 (OP (iAdrSl 1 p4 (.int .i64 (1))) fun x181 =>
 OP (iLoad false 1 h x181) fun x182 =>
 (True) ∧
 OP (iAdrSl 1 l3 x182) fun x183 =>
 OP (iLoad false 1 h x183) fun x184 =>
 (True) ∧
 OP (iAdrSl 1 p4 (.int .i64 (0))) fun x187 =>
 OP (iLoad false 1 h x187) fun x188 =>
 (True) ∧
 OP (iAdrSl 1 l3 x188) fun x189 =>
 OP (iLoad false 1 h x189) fun x190 =>
 (True) ∧
 OP (iLenS x190) fun x191 =>
 OP (iSlS x184 none (some x191)) fun x192 =>
 OP (iAdrSl 1 p4 (.int .i64 (0))) fun x195 =>
 OP (iLoad false 1 h x195) fun x196 =>
 (True) ∧
 OP (iAdrSl 1 l3 x196) fun x197 =>
 OP (iLoad false 1 h x197) fun x198 =>
 (True) ∧
 OP (iBin .eql x192 x198) fun x199 =>
 OP (iPick x177 x199 (.bool false)) fun x200 =>
 GdP x200 true
 (CallP P 13 [] h fun x202 h_1 =>
 (True) ∧
 OP (iPick x200 x202 (.bool false)) fun x203 =>
 K x203 h_1)
 ((True) ∧
 OP (iPick x200 undef (.bool false)) fun x203 =>
 K x203 h))
 (OP (iPick x177 undef (.bool false)) fun x200 =>
 GdP x200 true
 (CallP P 13 [] h fun x202 h_1 =>
 (True) ∧
 OP (iPick x200 x202 (.bool false)) fun x203 =>
 K x203 h_1)
 ((True) ∧
 OP (iPick x200 undef (.bool false)) fun x203 =>
 K x203 h)))
 (OP (iPick x160 undef (.bool false)) fun x177 =>
 GdP x177 true
 (OP (iAdrSl 1 p4 (.int .i64 (1))) fun x181 =>
 OP (iLoad false 1 h x181) fun x182 =>
 (True) ∧
 OP (iAdrSl 1 l3 x182) fun x183 =>
 OP (iLoad false 1 h x183) fun x184 =>
 (True) ∧
 OP (iAdrSl 1 p4 (.int .i64 (0))) fun x187 =>
 OP (iLoad false 1 h x187) fun x188 =>
 (True) ∧
 OP (iAdrSl 1 l3 x188) fun x189 =>
 OP (iLoad false 1 h x189) fun x190 =>
 (True) ∧
 OP (iLenS x190) fun x191 =>
 OP (iSlS x184 none (some x191)) fun x192 =>
 OP (iAdrSl 1 p4 (.int .i64 (0))) fun x195 =>
 OP (iLoad false 1 h x195) fun x196 =>
 (True) ∧
 OP (iAdrSl 1 l3 x196) fun x197 =>
 OP (iLoad false 1 h x197) fun x198 =>
 (True) ∧
 OP (iBin .eql x192 x198) fun x199 =>
 OP (iPick x177 x199 (.bool false)) fun x200 =>
 GdP x200 true
 (CallP P 13 [] h fun x202 h_1 =>
 (True) ∧
 OP (iPick x200 x202 (.bool false)) fun x203 =>
 K x203 h_1)
 ((True) ∧
 OP (iPick x200 undef (.bool false)) fun x203 =>
 K x203 h))
 (OP (iPick x177 undef (.bool false)) fun x200 =>
 GdP x200 true
 (CallP P 13 [] h fun x202 h_1 =>
 (True) ∧
 OP (iPick x200 x202 (.bool false)) fun x203 =>
 K x203 h_1)
 ((True) ∧
 OP (iPick x200 undef (.bool false)) fun x203 =>
 K x203 h)))))))))) := (CutP_def _ _ _ _).trans (by kernel_rfl)
def T8 (x0 : Value) (h : Heap) : Prop :=
 CallP P 17 [x0] h fun x15 h_1 =>
 CallP P 20 [x15] h_1 fun x18 h_2 =>
 OP (iExt 0 x18) fun x19 =>
 OP (iExt 1 x18) fun x20 =>
 CallP P 18 [x15] h_2 fun x23 h_3 =>
 OP (iExt 0 x23) fun x24 =>
 OP (iExt 1 x23) fun x25 =>
 OP (iBin .eql x20 (.int .i64 (5))) fun x27 =>
 IfP x27
 (OH (iMkSl 3 0 [(.int .i64 (0))] h_3 []) fun x28 h_4 =>
 LoopP [x28, (.bool true), (.int .i64 (0))] h_4 fun L1 xs hx =>
 p8z11 P K x15 x19 x24 x25 L1 xs hx)
 (p8z62 P K x15 x19 x20 h_3)
theorem e8 (x0 : Value) (h : Heap) : iwpP P c8 (bodyP [.tmp 2] K) (frame0 [x0]) h = T8 P K x0 h := by kernel_rfl
theorem f8 {K : VK} {x0 : Value} {h : Heap} (H : T8 Tryd.prog K x0 h) : CallP Tryd.prog 8 [x0] h K :=
 callP_intro k8 (Nat.le_of_ble_eq_true rfl) ((e8 Tryd.prog K x0 h).mpr H)
end Go.Proofs.YthplaillblmgfaaDoor
