/-
  Ideal code of the functions that the proof reaches, written by program; the kernel holds it against the code.
-/
import Derived.Test.YtipeennffbbglaaProg
import Derived.Test.YtipeennffbbglaaSim20
import Derived.KernelRfl
namespace Go.Proofs.Ytipeennffbbglaa
open Go.Sim
/-! F3: pommel/pommeltop.TopOrders -/
noncomputable def c3z20 : ICode := .ops none [⟨(some 58), .p (.mv (.tmp 7))⟩,
   ⟨(some 59), .p (.bin .add (.tmp 58) (.const (.int .i64 (1))))⟩,
   ⟨(some 7), .p (.mv (.tmp 59))⟩]
noncomputable def c3z21 : ICode := .ops none [⟨(some 45), .p (.mv (.tmp 9))⟩,
   ⟨(some 46), .p (.bin .add (.tmp 45) (.const (.int .i64 (1))))⟩,
   ⟨(some 9), .p (.mv (.tmp 46))⟩]
noncomputable def c3z16 : ICode := .cut [0, 1, 5, 6, 7, 8, 9] c3z21
noncomputable def c3z13 : ICode := .seq (.seq (.ops none [⟨(some 42), .p (.mv (.tmp 9))⟩,
     ⟨(some 43), .p (.mv (.tmp 5))⟩,
     ⟨(some 44), .p (.bin .lss (.tmp 42) (.tmp 43))⟩])
  (.cond (.tmp 44) (.skip)
  (.exit 2)))
 (.seq (.block 3 (.seq (.seq (.ops none [⟨(some 47), .p (.mv (.tmp 0))⟩,
       ⟨(some 48), .p (.mv (.tmp 7))⟩,
       ⟨(some 49), .p (.bin .shr (.tmp 47) (.tmp 48))⟩,
       ⟨(some 50), .p (.bin .and (.tmp 49) (.const (.int .u16 (1))))⟩,
       ⟨(some 51), .p (.bin .eql (.tmp 50) (.const (.int .u16 (1))))⟩])
    (.cond (.tmp 51) (.ops none [⟨(some 52), .p (.mv (.tmp 6))⟩,
       ⟨(some 53), .p (.mv (.tmp 8))⟩,
       ⟨(some 54), .p (.mv (.tmp 9))⟩,
       ⟨(some 55), .p (.build [(.int .i64 (0)), (.int .i64 (0))] [(0, 1, (.tmp 53)), (1, 1, (.tmp 54))])⟩,
       ⟨(some 56), .e (.mkSl 26 1 [(.int .i64 (0)), (.int .i64 (0))] [(0, 2, (.tmp 55))])⟩,
       ⟨(some 57), .e (.app 26 2 16 (.tmp 52) (.tmp 56))⟩,
       ⟨(some 6), .p (.mv (.tmp 57))⟩])
    (.skip)))
   (.cut [0, 1, 5, 6, 7, 8, 9] c3z20))) c3z16)
noncomputable def c3z22 : ICode := .ops none [⟨(some 38), .p (.mv (.tmp 8))⟩,
   ⟨(some 39), .p (.bin .add (.tmp 38) (.const (.int .i64 (1))))⟩,
   ⟨(some 8), .p (.mv (.tmp 39))⟩]
noncomputable def c3z9 : ICode := .cut [0, 1, 5, 6, 7, 8] c3z22
noncomputable def c3z6 : ICode := .seq (.seq (.ops none [⟨(some 35), .p (.mv (.tmp 8))⟩,
     ⟨(some 36), .p (.mv (.tmp 5))⟩,
     ⟨(some 37), .p (.bin .lss (.tmp 35) (.tmp 36))⟩])
  (.cond (.tmp 37) (.skip)
  (.exit 0)))
 (.seq (.block 1 (.seq (.ops none [⟨(some 40), .p (.mv (.tmp 8))⟩,
      ⟨(some 41), .p (.bin .add (.tmp 40) (.const (.int .i64 (1))))⟩,
      ⟨(some 9), .p (.mv (.tmp 41))⟩])
   (.block 2 (.loop [0, 1, 5, 8] [6, 7, 9] c3z13)))) c3z9)
noncomputable def c3z34 : ICode := .ops none [⟨(some 69), .p (.pick (.tmp 66) (.tmp 68) (.const (.bool false)))⟩]
noncomputable def c3z32 : ICode := .seq (.ops (some (66, true)) [⟨(some 67), .p (.mv (.tmp 13))⟩,
    ⟨(some 68), .p (.bin .lss (.tmp 67) (.const (.int .i64 (9))))⟩])
 (.cut [1, 5, 6, 10, 11, 12, 13, 66, 68] c3z34)
noncomputable def c3z30 : ICode := .cond (.tmp 69) (.skip)
 (.exit 4)
noncomputable def c3z29 : ICode := .seq (.block 5 (.seq (.dops [(none, [⟨(some 72), .p (.mv (.tmp 10)), 0⟩,
      ⟨(some 73), .p (.mv (.tmp 1)), 0⟩,
      ⟨(some 74), .p (.mv (.tmp 13)), 0⟩,
      ⟨(some 75), .p (.adrSl 3 (.tmp 73) (.tmp 74)), 6⟩,
      ⟨(some 76), .p (.adrArr 3 1 (.tmp 75) (.const (.int .i64 (0)))), 14⟩,
      ⟨(some 77), .l (.load false 1 (.tmp 76)), 30⟩,
      ⟨(some 78), .p (.bin .rem (.tmp 77) (.const (.int .u8 (4)))), 62⟩,
      ⟨(some 79), .p (.mv (.tmp 1)), 0⟩,
      ⟨(some 80), .p (.mv (.tmp 13)), 0⟩,
      ⟨(some 81), .p (.adrSl 3 (.tmp 79) (.tmp 80)), 384⟩,
      ⟨(some 82), .p (.adrArr 3 1 (.tmp 81) (.const (.int .i64 (0)))), 896⟩,
      ⟨(some 83), .l (.load false 1 (.tmp 82)), 1920⟩,
      ⟨(some 84), .p (.bin .rem (.tmp 83) (.const (.int .u8 (4)))), 3968⟩,
      ⟨(some 85), .p (.bin .add (.tmp 84) (.const (.int .u8 (1)))), 8064⟩,
      ⟨(some 86), .p (.slS (.const (.string ⟨#[97, 98, 99, 100]⟩)) (some (.tmp 78)) (some (.tmp 85))), 16382⟩,
      ⟨(some 87), .p (.bin .add (.tmp 72) (.tmp 86)), 32767⟩,
      ⟨(some 10), .p (.mv (.tmp 87)), 65535⟩])])
   (.dops [(none, [⟨(some 88), .p (.mv (.tmp 11)), 0⟩,
     ⟨(some 89), .p (.mv (.tmp 1)), 0⟩,
     ⟨(some 90), .p (.mv (.tmp 13)), 0⟩,
     ⟨(some 91), .p (.adrSl 3 (.tmp 89) (.tmp 90)), 6⟩,
     ⟨(some 92), .p (.adrArr 3 1 (.tmp 91) (.const (.int .i64 (1)))), 14⟩,
     ⟨(some 93), .l (.load false 1 (.tmp 92)), 30⟩,
     ⟨(some 94), .p (.conv .i64 (.tmp 93)), 62⟩,
     ⟨(some 95), .p (.bin .rem (.tmp 94) (.const (.int .i64 (50)))), 126⟩,
     ⟨(some 96), .p (.bin .add (.tmp 95) (.const (.int .i64 (1)))), 254⟩,
     ⟨(some 97), .p (.mv (.tmp 1)), 0⟩,
     ⟨(some 98), .p (.mv (.tmp 13)), 0⟩,
     ⟨(some 99), .p (.adrSl 3 (.tmp 97) (.tmp 98)), 1536⟩,
     ⟨(some 100), .p (.adrArr 3 1 (.tmp 99) (.const (.int .i64 (2)))), 3584⟩,
     ⟨(some 101), .l (.load false 1 (.tmp 100)), 7680⟩,
     ⟨(some 102), .p (.conv .i64 (.tmp 101)), 15872⟩,
     ⟨(some 103), .p (.bin .rem (.tmp 102) (.const (.int .i64 (51)))), 32256⟩,
     ⟨(some 104), .p (.build [(.int .i64 (0)), (.int .i64 (0))] [(0, 1, (.tmp 96)), (1, 1, (.tmp 103))]), 65534⟩,
     ⟨(some 105), .e (.mkSl 30 1 [(.int .i64 (0)), (.int .i64 (0))] [(0, 2, (.tmp 104))]), 131070⟩,
     ⟨(some 106), .e (.app 30 2 16 (.tmp 88) (.tmp 105)), 262143⟩,
     ⟨(some 11), .p (.mv (.tmp 106)), 524287⟩])])))
 (.ops none [⟨(some 70), .p (.mv (.tmp 13))⟩,
   ⟨(some 71), .p (.bin .add (.tmp 70) (.const (.int .i64 (1))))⟩,
   ⟨(some 13), .p (.mv (.tmp 71))⟩])
noncomputable def c3z28 : ICode := .seq (.seq (.seq (.ops none [⟨(some 62), .p (.mv (.tmp 13))⟩,
      ⟨(some 63), .p (.mv (.tmp 1))⟩,
      ⟨(some 64), .p (.lenSl (.tmp 63))⟩,
      ⟨(some 65), .p (.bin .lss (.tmp 62) (.tmp 64))⟩,
      ⟨(some 66), .p (.mv (.tmp 65))⟩])
   (.cut [1, 5, 6, 10, 11, 12, 13, 66] c3z32)) c3z30) c3z29
noncomputable def c3z58 : ICode := .ops none [⟨(some 119), .p (.mv (.tmp 15))⟩,
   ⟨(some 120), .p (.bin .add (.tmp 119) (.const (.int .i64 (1))))⟩,
   ⟨(some 15), .p (.mv (.tmp 120))⟩]
noncomputable def c3z52 : ICode := .seq (.seq (.ops none [⟨(some 116), .p (.mv (.tmp 15))⟩,
     ⟨(some 117), .p (.mv (.tmp 14))⟩,
     ⟨(some 118), .p (.bin .lss (.tmp 116) (.tmp 117))⟩])
  (.cond (.tmp 118) (.skip)
  (.exit 8)))
 (.seq (.block 9 (.seq (.dops [(none, [⟨(some 121), .p (.mv (.tmp 6)), 0⟩,
      ⟨(some 122), .p (.mv (.tmp 10)), 0⟩,
      ⟨(some 123), .p (.mv (.tmp 15)), 0⟩,
      ⟨(some 124), .p (.idxS (.tmp 122) (.tmp 123)), 6⟩,
      ⟨(some 125), .p (.mv (.tmp 10)), 0⟩,
      ⟨(some 126), .p (.mv (.tmp 14)), 0⟩,
      ⟨(some 127), .p (.idxS (.tmp 125) (.tmp 126)), 48⟩,
      ⟨(some 128), .call 4 [(.tmp 121), (.tmp 124), (.tmp 127)], 127⟩,
      ⟨(some 129), .p (.un .not (.tmp 128)), 255⟩])])
   (.cond (.tmp 129) (.ops none [⟨(some 130), .p (.mv (.tmp 12))⟩,
      ⟨(some 131), .p (.mv (.tmp 15))⟩,
      ⟨(some 132), .p (.mv (.tmp 14))⟩,
      ⟨(some 133), .p (.build [(.int .i64 (0)), (.int .i64 (0))] [(0, 1, (.tmp 131)), (1, 1, (.tmp 132))])⟩,
      ⟨(some 134), .e (.mkSl 26 1 [(.int .i64 (0)), (.int .i64 (0))] [(0, 2, (.tmp 133))])⟩,
      ⟨(some 135), .e (.app 26 2 16 (.tmp 130) (.tmp 134))⟩,
      ⟨(some 12), .p (.mv (.tmp 135))⟩])
   (.skip))))
 (.cut [5, 6, 10, 11, 12, 14, 15] c3z58))
noncomputable def c3z59 : ICode := .ops none [⟨(some 114), .p (.mv (.tmp 14))⟩,
   ⟨(some 115), .p (.bin .add (.tmp 114) (.const (.int .i64 (1))))⟩,
   ⟨(some 14), .p (.mv (.tmp 115))⟩]
noncomputable def c3z48 : ICode := .cut [5, 6, 10, 11, 12, 14] c3z59
noncomputable def c3z45 : ICode := .seq (.seq (.ops none [⟨(some 110), .p (.mv (.tmp 14))⟩,
     ⟨(some 111), .p (.mv (.tmp 10))⟩,
     ⟨(some 112), .p (.lenS (.tmp 111))⟩,
     ⟨(some 113), .p (.bin .lss (.tmp 110) (.tmp 112))⟩])
  (.cond (.tmp 113) (.skip)
  (.exit 6)))
 (.seq (.block 7 (.seq (.ops none [⟨(some 15), .p (.mv (.const (.int .i64 (0))))⟩])
   (.block 8 (.loop [5, 6, 10, 11, 14] [12, 15] c3z52)))) c3z48)
noncomputable def c3z94 : ICode := .ops none [⟨(some 202), .p (.pick (.tmp 196) (.const (.bool true)) (.tmp 201))⟩]
noncomputable def c3z92 : ICode := .seq (.ops (some (196, false)) [⟨(some 197), .p (.mv (.tmp 11))⟩,
    ⟨(some 198), .p (.mv (.tmp 22))⟩,
    ⟨(some 199), .call 10 [(.tmp 197), (.tmp 198)]⟩,
    ⟨(some 200), .p (.mv (.tmp 23))⟩,
    ⟨(some 201), .p (.bin .neq (.tmp 199) (.tmp 200))⟩])
 (.cut [5, 6, 10, 11, 12, 18, 22, 23, 196, 201] c3z94)
noncomputable def c3z90 : ICode := .seq (.ops none [⟨(some 195), .p (.pick (.tmp 189) (.const (.bool true)) (.tmp 194))⟩,
    ⟨(some 196), .p (.mv (.tmp 195))⟩])
 (.cut [5, 6, 10, 11, 12, 18, 22, 23, 196] c3z92)
noncomputable def c3z88 : ICode := .seq (.ops (some (189, false)) [⟨(some 190), .p (.mv (.tmp 11))⟩,
    ⟨(some 191), .p (.mv (.tmp 12))⟩,
    ⟨(some 192), .p (.mv (.tmp 22))⟩,
    ⟨(some 193), .call 9 [(.tmp 190), (.tmp 191), (.tmp 192)]⟩,
    ⟨(some 194), .p (.un .not (.tmp 193))⟩])
 (.cut [5, 6, 10, 11, 12, 18, 22, 23, 189, 194] c3z90)
noncomputable def c3z86 : ICode := .seq (.ops none [⟨(some 188), .p (.pick (.tmp 182) (.const (.bool true)) (.tmp 187))⟩,
    ⟨(some 189), .p (.mv (.tmp 188))⟩])
 (.cut [5, 6, 10, 11, 12, 18, 22, 23, 189] c3z88)
noncomputable def c3z84 : ICode := .seq (.ops (some (182, false)) [⟨(some 183), .p (.mv (.tmp 18))⟩,
    ⟨(some 184), .p (.lenSl (.tmp 183))⟩,
    ⟨(some 185), .p (.mv (.tmp 10))⟩,
    ⟨(some 186), .p (.lenS (.tmp 185))⟩,
    ⟨(some 187), .p (.bin .neq (.tmp 184) (.tmp 186))⟩])
 (.cut [5, 6, 10, 11, 12, 18, 22, 23, 182, 187] c3z86)
noncomputable def c3z82 : ICode := .seq (.ops none [⟨(some 181), .p (.pick (.tmp 177) (.const (.bool true)) (.tmp 180))⟩,
    ⟨(some 182), .p (.mv (.tmp 181))⟩])
 (.cut [5, 6, 10, 11, 12, 18, 22, 23, 182] c3z84)
noncomputable def c3z80 : ICode := .seq (.ops (some (177, false)) [⟨(some 178), .p (.mv (.tmp 16))⟩,
    ⟨(some 179), .p (.mv (.tmp 20))⟩,
    ⟨(some 180), .p (.bin .neq (.tmp 178) (.tmp 179))⟩])
 (.cut [5, 6, 10, 11, 12, 18, 22, 23, 177, 180] c3z82)
noncomputable def c3z78 : ICode := .seq (.ops none [⟨(some 176), .p (.pick (.tmp 173) (.const (.bool true)) (.tmp 175))⟩,
    ⟨(some 177), .p (.mv (.tmp 176))⟩])
 (.cut [5, 6, 10, 11, 12, 16, 18, 20, 22, 23, 177] c3z80)
noncomputable def c3z76 : ICode := .seq (.ops (some (173, false)) [⟨(some 174), .p (.mv (.tmp 24))⟩,
    ⟨(some 175), .p (.bin .neq (.tmp 174) (.const (.int .i64 (0))))⟩])
 (.cut [5, 6, 10, 11, 12, 16, 18, 20, 22, 23, 173, 175] c3z78)
noncomputable def c3z74 : ICode := .seq (.ops none [⟨(some 172), .p (.pick (.tmp 169) (.const (.bool true)) (.tmp 171))⟩,
    ⟨(some 173), .p (.mv (.tmp 172))⟩])
 (.cut [5, 6, 10, 11, 12, 16, 18, 20, 22, 23, 24, 173] c3z76)
noncomputable def c3z72 : ICode := .seq (.ops (some (169, false)) [⟨(some 170), .p (.mv (.tmp 21))⟩,
    ⟨(some 171), .p (.bin .neq (.tmp 170) (.const (.int .i64 (0))))⟩])
 (.cut [5, 6, 10, 11, 12, 16, 18, 20, 22, 23, 24, 169, 171] c3z74)
noncomputable def c3z70 : ICode := .seq (.ops none [⟨(some 168), .p (.pick (.tmp 165) (.const (.bool true)) (.tmp 167))⟩,
    ⟨(some 169), .p (.mv (.tmp 168))⟩])
 (.cut [5, 6, 10, 11, 12, 16, 18, 20, 21, 22, 23, 24, 169] c3z72)
noncomputable def c3z68 : ICode := .seq (.ops (some (165, false)) [⟨(some 166), .p (.mv (.tmp 19))⟩,
    ⟨(some 167), .p (.bin .neq (.tmp 166) (.const (.int .i64 (0))))⟩])
 (.cut [5, 6, 10, 11, 12, 16, 18, 20, 21, 22, 23, 24, 165, 167] c3z70)
noncomputable def c3z66 : ICode := .cond (.tmp 202) (.seq (.ops none [⟨(some 4), .p (.mv (.const (.bool false)))⟩])
  (.ret))
 (.skip)
noncomputable def c3z100 : ICode := .seq (.seq (.ops none [⟨(some 203), .p (.mv (.tmp 26))⟩,
     ⟨(some 204), .p (.mv (.tmp 22))⟩,
     ⟨(some 205), .p (.lenSl (.tmp 204))⟩,
     ⟨(some 206), .p (.bin .lss (.tmp 203) (.tmp 205))⟩])
  (.cond (.tmp 206) (.skip)
  (.exit 10)))
 (.seq (.block 11 (.dops [(none, [⟨(some 209), .p (.mv (.tmp 25)), 0⟩,
     ⟨(some 210), .p (.mv (.tmp 10)), 0⟩,
     ⟨(some 211), .p (.mv (.tmp 22)), 0⟩,
     ⟨(some 212), .p (.mv (.tmp 26)), 0⟩,
     ⟨(some 213), .p (.adrSl 1 (.tmp 211) (.tmp 212)), 12⟩,
     ⟨(some 214), .l (.load false 1 (.tmp 213)), 28⟩,
     ⟨(some 215), .p (.mv (.tmp 22)), 0⟩,
     ⟨(some 216), .p (.mv (.tmp 26)), 0⟩,
     ⟨(some 217), .p (.adrSl 1 (.tmp 215) (.tmp 216)), 192⟩,
     ⟨(some 218), .l (.load false 1 (.tmp 217)), 448⟩,
     ⟨(some 219), .p (.bin .add (.tmp 218) (.const (.int .i64 (1)))), 960⟩,
     ⟨(some 220), .p (.slS (.tmp 210) (some (.tmp 214)) (some (.tmp 219))), 2046⟩,
     ⟨(some 221), .p (.bin .add (.tmp 209) (.tmp 220)), 4095⟩,
     ⟨(some 25), .p (.mv (.tmp 221)), 8191⟩])]))
 (.ops none [⟨(some 207), .p (.mv (.tmp 26))⟩,
   ⟨(some 208), .p (.bin .add (.tmp 207) (.const (.int .i64 (1))))⟩,
   ⟨(some 26), .p (.mv (.tmp 208))⟩]))
noncomputable def c3z124 : ICode := .ops none [⟨(some 241), .p (.mv (.tmp 31))⟩,
   ⟨(some 242), .p (.bin .add (.tmp 241) (.const (.int .i64 (1))))⟩,
   ⟨(some 31), .p (.mv (.tmp 242))⟩]
noncomputable def c3z118 : ICode := .seq (.seq (.ops none [⟨(some 237), .p (.mv (.tmp 31))⟩,
     ⟨(some 238), .p (.mv (.tmp 18))⟩,
     ⟨(some 239), .p (.lenSl (.tmp 238))⟩,
     ⟨(some 240), .p (.bin .lss (.tmp 237) (.tmp 239))⟩])
  (.cond (.tmp 240) (.skip)
  (.exit 14)))
 (.seq (.block 15 (.seq (.ops none [⟨(some 243), .p (.mv (.tmp 18))⟩,
      ⟨(some 244), .p (.mv (.tmp 31))⟩,
      ⟨(some 245), .p (.adrSl 1 (.tmp 243) (.tmp 244))⟩,
      ⟨(some 246), .l (.load false 1 (.tmp 245))⟩,
      ⟨(some 247), .p (.mv (.tmp 30))⟩,
      ⟨(some 248), .p (.bin .eql (.tmp 246) (.tmp 247))⟩])
   (.cond (.tmp 248) (.ops none [⟨(some 249), .p (.mv (.tmp 29))⟩,
      ⟨(some 250), .p (.mv (.tmp 31))⟩,
      ⟨(some 251), .e (.mkSl 3 1 [(.int .i64 (0))] [(0, 1, (.tmp 250))])⟩,
      ⟨(some 252), .e (.app 3 1 8 (.tmp 249) (.tmp 251))⟩,
      ⟨(some 29), .p (.mv (.tmp 252))⟩])
   (.skip))))
 (.cut [6, 10, 11, 12, 18, 23, 27, 28, 29, 30, 31] c3z124))
noncomputable def c3z125 : ICode := .ops none [⟨(some 235), .p (.mv (.tmp 30))⟩,
   ⟨(some 236), .p (.bin .add (.tmp 235) (.const (.int .i64 (1))))⟩,
   ⟨(some 30), .p (.mv (.tmp 236))⟩]
noncomputable def c3z114 : ICode := .cut [6, 10, 11, 12, 18, 23, 27, 28, 29, 30] c3z125
noncomputable def c3z111 : ICode := .seq (.seq (.ops none [⟨(some 231), .p (.mv (.tmp 30))⟩,
     ⟨(some 232), .p (.mv (.tmp 10))⟩,
     ⟨(some 233), .p (.lenS (.tmp 232))⟩,
     ⟨(some 234), .p (.bin .leq (.tmp 231) (.tmp 233))⟩])
  (.cond (.tmp 234) (.skip)
  (.exit 12)))
 (.seq (.block 13 (.seq (.ops none [⟨(some 31), .p (.mv (.const (.int .i64 (0))))⟩])
   (.block 14 (.loop [6, 10, 11, 12, 18, 23, 27, 28, 30] [29, 31] c3z118)))) c3z114)
noncomputable def c3z144 : ICode := .ops none [⟨(some 280), .p (.pick (.tmp 274) (.tmp 279) (.const (.bool false)))⟩,
   ⟨(some 4), .p (.mv (.tmp 280))⟩]
noncomputable def c3z142 : ICode := .seq (.ops (some (274, true)) [⟨(some 275), .p (.mv (.tmp 18))⟩,
    ⟨(some 276), .p (.mv (.tmp 6))⟩,
    ⟨(some 277), .p (.mv (.tmp 10))⟩,
    ⟨(some 278), .call 14 [(.tmp 276), (.tmp 277)]⟩,
    ⟨(some 279), .call 13 [(.tmp 275), (.tmp 278)]⟩])
 (.cut [274, 279] c3z144)
noncomputable def c3z140 : ICode := .seq (.ops none [⟨(some 273), .p (.pick (.tmp 269) (.tmp 272) (.const (.bool false)))⟩,
    ⟨(some 274), .p (.mv (.tmp 273))⟩])
 (.cut [6, 10, 18, 274] c3z142)
noncomputable def c3z138 : ICode := .seq (.ops (some (269, true)) [⟨(some 270), .p (.mv (.tmp 32))⟩,
    ⟨(some 271), .p (.mv (.tmp 23))⟩,
    ⟨(some 272), .p (.bin .geq (.tmp 270) (.tmp 271))⟩])
 (.cut [6, 10, 18, 269, 272] c3z140)
noncomputable def c3z136 : ICode := .seq (.ops none [⟨(some 268), .p (.pick (.tmp 265) (.tmp 267) (.const (.bool false)))⟩,
    ⟨(some 269), .p (.mv (.tmp 268))⟩])
 (.cut [6, 10, 18, 23, 32, 269] c3z138)
noncomputable def c3z134 : ICode := .seq (.ops (some (265, true)) [⟨(some 266), .p (.mv (.tmp 33))⟩,
    ⟨(some 267), .p (.bin .eql (.tmp 266) (.const (.int .i64 (0))))⟩])
 (.cut [6, 10, 18, 23, 32, 265, 267] c3z136)
noncomputable def c3z132 : ICode := .seq (.ops none [⟨(some 264), .p (.pick (.tmp 261) (.tmp 263) (.const (.bool false)))⟩,
    ⟨(some 265), .p (.mv (.tmp 264))⟩])
 (.cut [6, 10, 18, 23, 32, 33, 265] c3z134)
noncomputable def c3z130 : ICode := .seq (.ops (some (261, true)) [⟨(some 262), .p (.mv (.tmp 28))⟩,
    ⟨(some 263), .p (.bin .eql (.tmp 262) (.const (.int .i64 (0))))⟩])
 (.cut [6, 10, 18, 23, 32, 33, 261, 263] c3z132)
noncomputable def c3z128 : ICode := .ret
noncomputable def c3z126 : ICode := .seq (.ops none [⟨(some 254), .p (.mv (.tmp 11))⟩,
    ⟨(some 255), .p (.mv (.tmp 12))⟩,
    ⟨(some 256), .p (.mv (.tmp 29))⟩,
    ⟨(some 257), .call 12 [(.tmp 254), (.tmp 255), (.tmp 256)]⟩,
    ⟨(some 253), .p (.mv (.tmp 257))⟩,
    ⟨(some 258), .p (.ext (.tmp 253) 0)⟩,
    ⟨(some 259), .p (.ext (.tmp 253) 1)⟩,
    ⟨(some 32), .p (.mv (.tmp 258))⟩,
    ⟨(some 33), .p (.mv (.tmp 259))⟩])
 (.seq (.seq (.ops none [⟨(some 260), .p (.mv (.tmp 27))⟩,
     ⟨(some 261), .p (.mv (.tmp 260))⟩])
  (.cut [6, 10, 18, 23, 28, 32, 33, 261] c3z130)) c3z128)
noncomputable def c3z108 : ICode := .cut [6, 10, 11, 12, 18, 23, 27, 28, 29] c3z126
noncomputable def c3z105 : ICode := .seq (.ops none [⟨(some 223), .p (.mv (.tmp 5))⟩,
    ⟨(some 224), .p (.mv (.tmp 6))⟩,
    ⟨(some 225), .p (.mv (.tmp 10))⟩,
    ⟨(some 226), .p (.mv (.tmp 25))⟩,
    ⟨(some 227), .call 11 [(.tmp 223), (.tmp 224), (.tmp 225), (.tmp 226)]⟩,
    ⟨(some 222), .p (.mv (.tmp 227))⟩,
    ⟨(some 228), .p (.ext (.tmp 222) 0)⟩,
    ⟨(some 229), .p (.ext (.tmp 222) 1)⟩,
    ⟨(some 27), .p (.mv (.tmp 228))⟩,
    ⟨(some 28), .p (.mv (.tmp 229))⟩])
 (.seq (.ops none [⟨(some 230), .e (.mkSl 3 0 [(.int .i64 (0))] [])⟩,
    ⟨(some 29), .p (.mv (.tmp 230))⟩])
 (.seq (.seq (.ops none [⟨(some 30), .p (.mv (.const (.int .i64 (1))))⟩])
  (.block 12 (.loop [6, 10, 11, 12, 18, 23, 27, 28] [29, 30] c3z111))) c3z108))
noncomputable def c3z97 : ICode := .cut [5, 6, 10, 11, 12, 18, 23, 25] c3z105
noncomputable def c3z65 : ICode := .seq (.ops none [⟨(some 25), .p (.mv (.const (.string ⟨#[]⟩)))⟩])
 (.seq (.seq (.ops none [⟨(some 26), .p (.mv (.const (.int .i64 (0))))⟩])
  (.block 10 (.loop [5, 6, 10, 11, 12, 18, 22, 23] [25, 26] c3z100))) c3z97)
noncomputable def c3z60 : ICode := .seq (.ops none [⟨(some 137), .p (.mv (.tmp 5))⟩,
    ⟨(some 138), .p (.mv (.tmp 6))⟩,
    ⟨(some 139), .p (.mv (.tmp 10))⟩,
    ⟨(some 140), .call 5 [(.tmp 137), (.tmp 138), (.tmp 139)]⟩,
    ⟨(some 136), .p (.mv (.tmp 140))⟩,
    ⟨(some 141), .p (.ext (.tmp 136) 0)⟩,
    ⟨(some 142), .p (.ext (.tmp 136) 1)⟩,
    ⟨(some 16), .p (.mv (.tmp 141))⟩,
    ⟨(some 17), .p (.mv (.tmp 142))⟩])
 (.seq (.ops none [⟨(some 144), .p (.mv (.tmp 5))⟩,
    ⟨(some 145), .p (.mv (.tmp 6))⟩,
    ⟨(some 146), .p (.mv (.tmp 10))⟩,
    ⟨(some 147), .call 6 [(.tmp 144), (.tmp 145), (.tmp 146)]⟩,
    ⟨(some 143), .p (.mv (.tmp 147))⟩,
    ⟨(some 148), .p (.ext (.tmp 143) 0)⟩,
    ⟨(some 149), .p (.ext (.tmp 143) 1)⟩,
    ⟨(some 18), .p (.mv (.tmp 148))⟩,
    ⟨(some 19), .p (.mv (.tmp 149))⟩])
 (.seq (.ops none [⟨(some 151), .p (.mv (.tmp 11))⟩,
    ⟨(some 152), .p (.mv (.tmp 12))⟩,
    ⟨(some 153), .call 7 [(.tmp 151), (.tmp 152)]⟩,
    ⟨(some 150), .p (.mv (.tmp 153))⟩,
    ⟨(some 154), .p (.ext (.tmp 150) 0)⟩,
    ⟨(some 155), .p (.ext (.tmp 150) 1)⟩,
    ⟨(some 20), .p (.mv (.tmp 154))⟩,
    ⟨(some 21), .p (.mv (.tmp 155))⟩])
 (.seq (.ops none [⟨(some 157), .p (.mv (.tmp 11))⟩,
    ⟨(some 158), .p (.mv (.tmp 12))⟩,
    ⟨(some 159), .call 8 [(.tmp 157), (.tmp 158)]⟩,
    ⟨(some 156), .p (.mv (.tmp 159))⟩,
    ⟨(some 160), .p (.ext (.tmp 156) 0)⟩,
    ⟨(some 161), .p (.ext (.tmp 156) 1)⟩,
    ⟨(some 162), .p (.ext (.tmp 156) 2)⟩,
    ⟨(some 22), .p (.mv (.tmp 160))⟩,
    ⟨(some 23), .p (.mv (.tmp 161))⟩,
    ⟨(some 24), .p (.mv (.tmp 162))⟩])
 (.seq (.seq (.seq (.ops none [⟨(some 163), .p (.mv (.tmp 17))⟩,
      ⟨(some 164), .p (.bin .neq (.tmp 163) (.const (.int .i64 (0))))⟩,
      ⟨(some 165), .p (.mv (.tmp 164))⟩])
   (.cut [5, 6, 10, 11, 12, 16, 18, 19, 20, 21, 22, 23, 24, 165] c3z68)) c3z66) c3z65))))
noncomputable def c3z42 : ICode := .cut [5, 6, 10, 11, 12] c3z60
noncomputable def c3z38 : ICode := .seq (.seq (.ops none [⟨(some 107), .p (.mv (.tmp 10))⟩,
     ⟨(some 108), .p (.lenS (.tmp 107))⟩,
     ⟨(some 109), .p (.bin .eql (.tmp 108) (.const (.int .i64 (0))))⟩])
  (.cond (.tmp 109) (.seq (.ops none [⟨(some 4), .p (.mv (.const (.bool true)))⟩])
   (.ret))
  (.skip)))
 (.seq (.seq (.ops none [⟨(some 14), .p (.mv (.const (.int .i64 (0))))⟩])
  (.block 6 (.loop [5, 6, 10, 11] [12, 14] c3z45))) c3z42)
noncomputable def c3z25 : ICode := .cut [5, 6, 10, 11, 12] c3z38
noncomputable def c3z23 : ICode := .seq (.ops none [⟨(some 60), .e (.mkSl 30 0 [(.int .i64 (0)), (.int .i64 (0))] [])⟩,
    ⟨(some 61), .e (.mkSl 26 0 [(.int .i64 (0)), (.int .i64 (0))] [])⟩,
    ⟨(some 10), .p (.mv (.const (.string ⟨#[]⟩)))⟩,
    ⟨(some 11), .p (.mv (.tmp 60))⟩,
    ⟨(some 12), .p (.mv (.tmp 61))⟩])
 (.seq (.seq (.ops none [⟨(some 13), .p (.mv (.const (.int .i64 (0))))⟩])
  (.block 4 (.loop [1, 5, 6, 12] [10, 11, 13] c3z28))) c3z25)
noncomputable def c3z3 : ICode := .cut [1, 5, 6] c3z23
noncomputable def c3 : ICode := .seq (.ops none [⟨(some 4), .p (.mv (.const (.bool false)))⟩])
 (.seq (.ops none [⟨(some 34), .e (.mkSl 26 0 [(.int .i64 (0)), (.int .i64 (0))] [])⟩,
    ⟨(some 5), .p (.mv (.const (.int .i64 (4))))⟩,
    ⟨(some 6), .p (.mv (.tmp 34))⟩,
    ⟨(some 7), .p (.mv (.const (.int .i64 (0))))⟩])
 (.seq (.seq (.ops none [⟨(some 8), .p (.mv (.const (.int .i64 (0))))⟩])
  (.block 0 (.loop [0, 1, 5] [6, 7, 8] c3z6))) c3z3))
theorem k3 : compFn Try.prog 3 [[], [], [], [0, 1, 5], [6, 7, 8], [], [], [], [0, 1, 5, 8], [6, 7, 9], [], [], [], [0, 1, 5, 6, 7, 8, 9], [0, 1, 5, 6, 7, 8, 9], [0, 1, 5, 6, 7, 8], [1, 5, 6], [], [], [1, 5, 6, 12], [10, 11, 13], [1, 5, 6, 10, 11, 12, 13, 66], [1, 5, 6, 10, 11, 12, 13, 66, 68], [], [], [], [], [5, 6, 10, 11, 12], [], [], [], [], [5, 6, 10, 11], [12, 14], [], [], [], [5, 6, 10, 11, 14], [12, 15], [], [], [], [5, 6, 10, 11, 12, 14, 15], [5, 6, 10, 11, 12, 14], [5, 6, 10, 11, 12], [], [], [], [], [5, 6, 10, 11, 12, 16, 18, 19, 20, 21, 22, 23, 24, 165], [5, 6, 10, 11, 12, 16, 18, 20, 21, 22, 23, 24, 165, 167], [5, 6, 10, 11, 12, 16, 18, 20, 21, 22, 23, 24, 169], [5, 6, 10, 11, 12, 16, 18, 20, 22, 23, 24, 169, 171], [5, 6, 10, 11, 12, 16, 18, 20, 22, 23, 24, 173], [5, 6, 10, 11, 12, 16, 18, 20, 22, 23, 173, 175], [5, 6, 10, 11, 12, 16, 18, 20, 22, 23, 177], [5, 6, 10, 11, 12, 18, 22, 23, 177, 180], [5, 6, 10, 11, 12, 18, 22, 23, 182], [5, 6, 10, 11, 12, 18, 22, 23, 182, 187], [5, 6, 10, 11, 12, 18, 22, 23, 189], [5, 6, 10, 11, 12, 18, 22, 23, 189, 194], [5, 6, 10, 11, 12, 18, 22, 23, 196], [5, 6, 10, 11, 12, 18, 22, 23, 196, 201], [], [], [], [], [], [5, 6, 10, 11, 12, 18, 22, 23], [25, 26], [], [], [], [5, 6, 10, 11, 12, 18, 23, 25], [], [], [], [6, 10, 11, 12, 18, 23, 27, 28], [29, 30], [], [], [], [6, 10, 11, 12, 18, 23, 27, 28, 30], [29, 31], [], [], [], [6, 10, 11, 12, 18, 23, 27, 28, 29, 30, 31], [6, 10, 11, 12, 18, 23, 27, 28, 29, 30], [6, 10, 11, 12, 18, 23, 27, 28, 29], [], [6, 10, 18, 23, 28, 32, 33, 261], [6, 10, 18, 23, 32, 33, 261, 263], [6, 10, 18, 23, 32, 33, 265], [6, 10, 18, 23, 32, 265, 267], [6, 10, 18, 23, 32, 269], [6, 10, 18, 269, 272], [6, 10, 18, 274], [274, 279], []] = some (281, c3, [.tmp 4]) := by kernel_rfl
def K3z0 (_P : Program) (K : Value → Heap → Prop) : Exit → (Nat → Value) → Heap → Prop := bodyP [.tmp 4] K
def K3z3 (P : Program) (K : Value → Heap → Prop) : Exit → (Nat → Value) → Heap → Prop := thenK (iwpP P c3z3 (K3z0 P K)) (K3z0 P K)
def K3z5 (P : Program) (K : Value → Heap → Prop) : Exit → (Nat → Value) → Heap → Prop := inBlockK 0 (K3z3 P K)
def K3z6 (P : Program) (K : Value → Heap → Prop) (free0 x1 k5 : Value) (L1 : List Value → Heap → Prop) : Exit → (Nat → Value) → Heap → Prop := thenK (fun f' h'' => (([0, 1, 5] : List Nat).map f' : List Value) = [free0, x1, k5] ∧ L1 (([6, 7, 8] : List Nat).map f') h'') (K3z5 P K)
def K3z9 (P : Program) (K : Value → Heap → Prop) (free0 x1 k5 : Value) (L1 : List Value → Heap → Prop) : Exit → (Nat → Value) → Heap → Prop := thenK (iwpP P c3z9 (K3z6 P K free0 x1 k5 L1)) (K3z6 P K free0 x1 k5 L1)
def K3z10 (P : Program) (K : Value → Heap → Prop) (free0 x1 k5 : Value) (L1 : List Value → Heap → Prop) : Exit → (Nat → Value) → Heap → Prop := inBlockK 1 (K3z9 P K free0 x1 k5 L1)
def K3z12 (P : Program) (K : Value → Heap → Prop) (free0 x1 k5 : Value) (L1 : List Value → Heap → Prop) : Exit → (Nat → Value) → Heap → Prop := inBlockK 2 (K3z10 P K free0 x1 k5 L1)
def K3z13 (P : Program) (K : Value → Heap → Prop) (free0 x1 k5 i8 : Value) (L1 L2 : List Value → Heap → Prop) : Exit → (Nat → Value) → Heap → Prop := thenK (fun f' h'' => (([0, 1, 5, 8] : List Nat).map f' : List Value) = [free0, x1, k5, i8] ∧ L2 (([6, 7, 9] : List Nat).map f') h'') (K3z12 P K free0 x1 k5 L1)
def K3z16 (P : Program) (K : Value → Heap → Prop) (free0 x1 k5 i8 : Value) (L1 L2 : List Value → Heap → Prop) : Exit → (Nat → Value) → Heap → Prop := thenK (iwpP P c3z16 (K3z13 P K free0 x1 k5 i8 L1 L2)) (K3z13 P K free0 x1 k5 i8 L1 L2)
def K3z17 (P : Program) (K : Value → Heap → Prop) (free0 x1 k5 i8 : Value) (L1 L2 : List Value → Heap → Prop) : Exit → (Nat → Value) → Heap → Prop := inBlockK 3 (K3z16 P K free0 x1 k5 i8 L1 L2)
def K3z25 (P : Program) (K : Value → Heap → Prop) : Exit → (Nat → Value) → Heap → Prop := thenK (iwpP P c3z25 (K3z0 P K)) (K3z0 P K)
def K3z27 (P : Program) (K : Value → Heap → Prop) : Exit → (Nat → Value) → Heap → Prop := inBlockK 4 (K3z25 P K)
def K3z28 (P : Program) (K : Value → Heap → Prop) (x1 k5 p6 before12 : Value) (L1 : List Value → Heap → Prop) : Exit → (Nat → Value) → Heap → Prop := thenK (fun f' h'' => (([1, 5, 6, 12] : List Nat).map f' : List Value) = [x1, k5, p6, before12] ∧ L1 (([10, 11, 13] : List Nat).map f') h'') (K3z27 P K)
def K3z29 (P : Program) (K : Value → Heap → Prop) (x1 k5 p6 before12 : Value) (L1 : List Value → Heap → Prop) : Exit → (Nat → Value) → Heap → Prop := thenK (iwpP P c3z29 (K3z28 P K x1 k5 p6 before12 L1)) (K3z28 P K x1 k5 p6 before12 L1)
def K3z30 (P : Program) (K : Value → Heap → Prop) (x1 k5 p6 before12 : Value) (L1 : List Value → Heap → Prop) : Exit → (Nat → Value) → Heap → Prop := thenK (iwpP P c3z30 (K3z29 P K x1 k5 p6 before12 L1)) (K3z29 P K x1 k5 p6 before12 L1)
def K3z42 (P : Program) (K : Value → Heap → Prop) : Exit → (Nat → Value) → Heap → Prop := thenK (iwpP P c3z42 (K3z0 P K)) (K3z0 P K)
def K3z44 (P : Program) (K : Value → Heap → Prop) : Exit → (Nat → Value) → Heap → Prop := inBlockK 6 (K3z42 P K)
def K3z45 (P : Program) (K : Value → Heap → Prop) (k5 p6 s10 jobs11 : Value) (L1 : List Value → Heap → Prop) : Exit → (Nat → Value) → Heap → Prop := thenK (fun f' h'' => (([5, 6, 10, 11] : List Nat).map f' : List Value) = [k5, p6, s10, jobs11] ∧ L1 (([12, 14] : List Nat).map f') h'') (K3z44 P K)
def K3z48 (P : Program) (K : Value → Heap → Prop) (k5 p6 s10 jobs11 : Value) (L1 : List Value → Heap → Prop) : Exit → (Nat → Value) → Heap → Prop := thenK (iwpP P c3z48 (K3z45 P K k5 p6 s10 jobs11 L1)) (K3z45 P K k5 p6 s10 jobs11 L1)
def K3z49 (P : Program) (K : Value → Heap → Prop) (k5 p6 s10 jobs11 : Value) (L1 : List Value → Heap → Prop) : Exit → (Nat → Value) → Heap → Prop := inBlockK 7 (K3z48 P K k5 p6 s10 jobs11 L1)
def K3z51 (P : Program) (K : Value → Heap → Prop) (k5 p6 s10 jobs11 : Value) (L1 : List Value → Heap → Prop) : Exit → (Nat → Value) → Heap → Prop := inBlockK 8 (K3z49 P K k5 p6 s10 jobs11 L1)
def K3z52 (P : Program) (K : Value → Heap → Prop) (k5 p6 s10 jobs11 i14 : Value) (L1 L2 : List Value → Heap → Prop) : Exit → (Nat → Value) → Heap → Prop := thenK (fun f' h'' => (([5, 6, 10, 11, 14] : List Nat).map f' : List Value) = [k5, p6, s10, jobs11, i14] ∧ L2 (([12, 15] : List Nat).map f') h'') (K3z51 P K k5 p6 s10 jobs11 L1)
def K3z65 (P : Program) (K : Value → Heap → Prop) : Exit → (Nat → Value) → Heap → Prop := thenK (iwpP P c3z65 (K3z0 P K)) (K3z0 P K)
def K3z66 (P : Program) (K : Value → Heap → Prop) : Exit → (Nat → Value) → Heap → Prop := thenK (iwpP P c3z66 (K3z65 P K)) (K3z65 P K)
def K3z97 (P : Program) (K : Value → Heap → Prop) : Exit → (Nat → Value) → Heap → Prop := thenK (iwpP P c3z97 (K3z0 P K)) (K3z0 P K)
def K3z99 (P : Program) (K : Value → Heap → Prop) : Exit → (Nat → Value) → Heap → Prop := inBlockK 10 (K3z97 P K)
def K3z100 (P : Program) (K : Value → Heap → Prop) (k5 p6 s10 jobs11 before12 h18 l22 cost23 : Value) (L1 : List Value → Heap → Prop) : Exit → (Nat → Value) → Heap → Prop := thenK (fun f' h'' => (([5, 6, 10, 11, 12, 18, 22, 23] : List Nat).map f' : List Value) = [k5, p6, s10, jobs11, before12, h18, l22, cost23] ∧ L1 (([25, 26] : List Nat).map f') h'') (K3z99 P K)
def K3z108 (P : Program) (K : Value → Heap → Prop) : Exit → (Nat → Value) → Heap → Prop := thenK (iwpP P c3z108 (K3z0 P K)) (K3z0 P K)
def K3z110 (P : Program) (K : Value → Heap → Prop) : Exit → (Nat → Value) → Heap → Prop := inBlockK 12 (K3z108 P K)
def K3z111 (P : Program) (K : Value → Heap → Prop) (p6 s10 jobs11 before12 h18 cost23 is27 j28 : Value) (L1 : List Value → Heap → Prop) : Exit → (Nat → Value) → Heap → Prop := thenK (fun f' h'' => (([6, 10, 11, 12, 18, 23, 27, 28] : List Nat).map f' : List Value) = [p6, s10, jobs11, before12, h18, cost23, is27, j28] ∧ L1 (([29, 30] : List Nat).map f') h'') (K3z110 P K)
def K3z114 (P : Program) (K : Value → Heap → Prop) (p6 s10 jobs11 before12 h18 cost23 is27 j28 : Value) (L1 : List Value → Heap → Prop) : Exit → (Nat → Value) → Heap → Prop := thenK (iwpP P c3z114 (K3z111 P K p6 s10 jobs11 before12 h18 cost23 is27 j28 L1)) (K3z111 P K p6 s10 jobs11 before12 h18 cost23 is27 j28 L1)
def K3z115 (P : Program) (K : Value → Heap → Prop) (p6 s10 jobs11 before12 h18 cost23 is27 j28 : Value) (L1 : List Value → Heap → Prop) : Exit → (Nat → Value) → Heap → Prop := inBlockK 13 (K3z114 P K p6 s10 jobs11 before12 h18 cost23 is27 j28 L1)
def K3z117 (P : Program) (K : Value → Heap → Prop) (p6 s10 jobs11 before12 h18 cost23 is27 j28 : Value) (L1 : List Value → Heap → Prop) : Exit → (Nat → Value) → Heap → Prop := inBlockK 14 (K3z115 P K p6 s10 jobs11 before12 h18 cost23 is27 j28 L1)
def K3z118 (P : Program) (K : Value → Heap → Prop) (p6 s10 jobs11 before12 h18 cost23 is27 j28 step30 : Value) (L1 L2 : List Value → Heap → Prop) : Exit → (Nat → Value) → Heap → Prop := thenK (fun f' h'' => (([6, 10, 11, 12, 18, 23, 27, 28, 30] : List Nat).map f' : List Value) = [p6, s10, jobs11, before12, h18, cost23, is27, j28, step30] ∧ L2 (([29, 31] : List Nat).map f') h'') (K3z117 P K p6 s10 jobs11 before12 h18 cost23 is27 j28 L1)
def K3z128 (P : Program) (K : Value → Heap → Prop) : Exit → (Nat → Value) → Heap → Prop := thenK (iwpP P c3z128 (K3z0 P K)) (K3z0 P K)
def p3z6 (P : Program) (K : Value → Heap → Prop) (free0 x1 k5 : Value) (L1 : List Value → Heap → Prop) (xs : List Value) (h : Heap) : Prop := CutP (iwpP P c3z6 (K3z6 P K free0 x1 k5 L1)) ([0, 1, 5] ++ [6, 7, 8]) ([free0, x1, k5] ++ xs) h
def p3z13 (P : Program) (K : Value → Heap → Prop) (free0 x1 k5 i8 : Value) (L1 L2 : List Value → Heap → Prop) (xs : List Value) (h : Heap) : Prop := CutP (iwpP P c3z13 (K3z13 P K free0 x1 k5 i8 L1 L2)) ([0, 1, 5, 8] ++ [6, 7, 9]) ([free0, x1, k5, i8] ++ xs) h
def p3z20 (P : Program) (K : Value → Heap → Prop) (free0 x1 k5 p6 at7 i8 j9 : Value) (L1 L2 : List Value → Heap → Prop) (h : Heap) : Prop := CutP (iwpP P c3z20 (K3z17 P K free0 x1 k5 i8 L1 L2)) [0, 1, 5, 6, 7, 8, 9] [free0, x1, k5, p6, at7, i8, j9] h
def p3z21 (P : Program) (K : Value → Heap → Prop) (free0 x1 k5 p6 at7 i8 j9 : Value) (L1 L2 : List Value → Heap → Prop) (h : Heap) : Prop := CutP (iwpP P c3z21 (K3z13 P K free0 x1 k5 i8 L1 L2)) [0, 1, 5, 6, 7, 8, 9] [free0, x1, k5, p6, at7, i8, j9] h
def p3z22 (P : Program) (K : Value → Heap → Prop) (free0 x1 k5 p6 at7 i8 : Value) (L1 : List Value → Heap → Prop) (h : Heap) : Prop := CutP (iwpP P c3z22 (K3z6 P K free0 x1 k5 L1)) [0, 1, 5, 6, 7, 8] [free0, x1, k5, p6, at7, i8] h
def p3z23 (P : Program) (K : Value → Heap → Prop) (x1 k5 p6 : Value) (h : Heap) : Prop := CutP (iwpP P c3z23 (K3z0 P K)) [1, 5, 6] [x1, k5, p6] h
def p3z28 (P : Program) (K : Value → Heap → Prop) (x1 k5 p6 before12 : Value) (L1 : List Value → Heap → Prop) (xs : List Value) (h : Heap) : Prop := CutP (iwpP P c3z28 (K3z28 P K x1 k5 p6 before12 L1)) ([1, 5, 6, 12] ++ [10, 11, 13]) ([x1, k5, p6, before12] ++ xs) h
def p3z32 (P : Program) (K : Value → Heap → Prop) (x1 k5 p6 s10 jobs11 before12 i13 x66 : Value) (L1 : List Value → Heap → Prop) (h : Heap) : Prop := CutP (iwpP P c3z32 (K3z30 P K x1 k5 p6 before12 L1)) [1, 5, 6, 10, 11, 12, 13, 66] [x1, k5, p6, s10, jobs11, before12, i13, x66] h
def p3z34 (P : Program) (K : Value → Heap → Prop) (x1 k5 p6 s10 jobs11 before12 i13 x66 x68 : Value) (L1 : List Value → Heap → Prop) (h : Heap) : Prop := CutP (iwpP P c3z34 (K3z30 P K x1 k5 p6 before12 L1)) [1, 5, 6, 10, 11, 12, 13, 66, 68] [x1, k5, p6, s10, jobs11, before12, i13, x66, x68] h
def p3z38 (P : Program) (K : Value → Heap → Prop) (k5 p6 s10 jobs11 before12 : Value) (h : Heap) : Prop := CutP (iwpP P c3z38 (K3z0 P K)) [5, 6, 10, 11, 12] [k5, p6, s10, jobs11, before12] h
def p3z45 (P : Program) (K : Value → Heap → Prop) (k5 p6 s10 jobs11 : Value) (L1 : List Value → Heap → Prop) (xs : List Value) (h : Heap) : Prop := CutP (iwpP P c3z45 (K3z45 P K k5 p6 s10 jobs11 L1)) ([5, 6, 10, 11] ++ [12, 14]) ([k5, p6, s10, jobs11] ++ xs) h
def p3z52 (P : Program) (K : Value → Heap → Prop) (k5 p6 s10 jobs11 i14 : Value) (L1 L2 : List Value → Heap → Prop) (xs : List Value) (h : Heap) : Prop := CutP (iwpP P c3z52 (K3z52 P K k5 p6 s10 jobs11 i14 L1 L2)) ([5, 6, 10, 11, 14] ++ [12, 15]) ([k5, p6, s10, jobs11, i14] ++ xs) h
def p3z58 (P : Program) (K : Value → Heap → Prop) (k5 p6 s10 jobs11 before12 i14 j15 : Value) (L1 L2 : List Value → Heap → Prop) (h : Heap) : Prop := CutP (iwpP P c3z58 (K3z52 P K k5 p6 s10 jobs11 i14 L1 L2)) [5, 6, 10, 11, 12, 14, 15] [k5, p6, s10, jobs11, before12, i14, j15] h
def p3z59 (P : Program) (K : Value → Heap → Prop) (k5 p6 s10 jobs11 before12 i14 : Value) (L1 : List Value → Heap → Prop) (h : Heap) : Prop := CutP (iwpP P c3z59 (K3z45 P K k5 p6 s10 jobs11 L1)) [5, 6, 10, 11, 12, 14] [k5, p6, s10, jobs11, before12, i14] h
def p3z60 (P : Program) (K : Value → Heap → Prop) (k5 p6 s10 jobs11 before12 : Value) (h : Heap) : Prop := CutP (iwpP P c3z60 (K3z0 P K)) [5, 6, 10, 11, 12] [k5, p6, s10, jobs11, before12] h
def p3z68 (P : Program) (K : Value → Heap → Prop) (k5 p6 s10 jobs11 before12 n16 h18 f19 m20 g21 l22 cost23 i24 x165 : Value) (h : Heap) : Prop := CutP (iwpP P c3z68 (K3z66 P K)) [5, 6, 10, 11, 12, 16, 18, 19, 20, 21, 22, 23, 24, 165] [k5, p6, s10, jobs11, before12, n16, h18, f19, m20, g21, l22, cost23, i24, x165] h
def p3z70 (P : Program) (K : Value → Heap → Prop) (k5 p6 s10 jobs11 before12 n16 h18 m20 g21 l22 cost23 i24 x165 x167 : Value) (h : Heap) : Prop := CutP (iwpP P c3z70 (K3z66 P K)) [5, 6, 10, 11, 12, 16, 18, 20, 21, 22, 23, 24, 165, 167] [k5, p6, s10, jobs11, before12, n16, h18, m20, g21, l22, cost23, i24, x165, x167] h
def p3z72 (P : Program) (K : Value → Heap → Prop) (k5 p6 s10 jobs11 before12 n16 h18 m20 g21 l22 cost23 i24 x169 : Value) (h : Heap) : Prop := CutP (iwpP P c3z72 (K3z66 P K)) [5, 6, 10, 11, 12, 16, 18, 20, 21, 22, 23, 24, 169] [k5, p6, s10, jobs11, before12, n16, h18, m20, g21, l22, cost23, i24, x169] h
def p3z74 (P : Program) (K : Value → Heap → Prop) (k5 p6 s10 jobs11 before12 n16 h18 m20 l22 cost23 i24 x169 x171 : Value) (h : Heap) : Prop := CutP (iwpP P c3z74 (K3z66 P K)) [5, 6, 10, 11, 12, 16, 18, 20, 22, 23, 24, 169, 171] [k5, p6, s10, jobs11, before12, n16, h18, m20, l22, cost23, i24, x169, x171] h
def p3z76 (P : Program) (K : Value → Heap → Prop) (k5 p6 s10 jobs11 before12 n16 h18 m20 l22 cost23 i24 x173 : Value) (h : Heap) : Prop := CutP (iwpP P c3z76 (K3z66 P K)) [5, 6, 10, 11, 12, 16, 18, 20, 22, 23, 24, 173] [k5, p6, s10, jobs11, before12, n16, h18, m20, l22, cost23, i24, x173] h
def p3z78 (P : Program) (K : Value → Heap → Prop) (k5 p6 s10 jobs11 before12 n16 h18 m20 l22 cost23 x173 x175 : Value) (h : Heap) : Prop := CutP (iwpP P c3z78 (K3z66 P K)) [5, 6, 10, 11, 12, 16, 18, 20, 22, 23, 173, 175] [k5, p6, s10, jobs11, before12, n16, h18, m20, l22, cost23, x173, x175] h
def p3z80 (P : Program) (K : Value → Heap → Prop) (k5 p6 s10 jobs11 before12 n16 h18 m20 l22 cost23 x177 : Value) (h : Heap) : Prop := CutP (iwpP P c3z80 (K3z66 P K)) [5, 6, 10, 11, 12, 16, 18, 20, 22, 23, 177] [k5, p6, s10, jobs11, before12, n16, h18, m20, l22, cost23, x177] h
def p3z82 (P : Program) (K : Value → Heap → Prop) (k5 p6 s10 jobs11 before12 h18 l22 cost23 x177 x180 : Value) (h : Heap) : Prop := CutP (iwpP P c3z82 (K3z66 P K)) [5, 6, 10, 11, 12, 18, 22, 23, 177, 180] [k5, p6, s10, jobs11, before12, h18, l22, cost23, x177, x180] h
def p3z84 (P : Program) (K : Value → Heap → Prop) (k5 p6 s10 jobs11 before12 h18 l22 cost23 x182 : Value) (h : Heap) : Prop := CutP (iwpP P c3z84 (K3z66 P K)) [5, 6, 10, 11, 12, 18, 22, 23, 182] [k5, p6, s10, jobs11, before12, h18, l22, cost23, x182] h
def p3z86 (P : Program) (K : Value → Heap → Prop) (k5 p6 s10 jobs11 before12 h18 l22 cost23 x182 x187 : Value) (h : Heap) : Prop := CutP (iwpP P c3z86 (K3z66 P K)) [5, 6, 10, 11, 12, 18, 22, 23, 182, 187] [k5, p6, s10, jobs11, before12, h18, l22, cost23, x182, x187] h
def p3z88 (P : Program) (K : Value → Heap → Prop) (k5 p6 s10 jobs11 before12 h18 l22 cost23 x189 : Value) (h : Heap) : Prop := CutP (iwpP P c3z88 (K3z66 P K)) [5, 6, 10, 11, 12, 18, 22, 23, 189] [k5, p6, s10, jobs11, before12, h18, l22, cost23, x189] h
def p3z90 (P : Program) (K : Value → Heap → Prop) (k5 p6 s10 jobs11 before12 h18 l22 cost23 x189 x194 : Value) (h : Heap) : Prop := CutP (iwpP P c3z90 (K3z66 P K)) [5, 6, 10, 11, 12, 18, 22, 23, 189, 194] [k5, p6, s10, jobs11, before12, h18, l22, cost23, x189, x194] h
def p3z92 (P : Program) (K : Value → Heap → Prop) (k5 p6 s10 jobs11 before12 h18 l22 cost23 x196 : Value) (h : Heap) : Prop := CutP (iwpP P c3z92 (K3z66 P K)) [5, 6, 10, 11, 12, 18, 22, 23, 196] [k5, p6, s10, jobs11, before12, h18, l22, cost23, x196] h
def p3z94 (P : Program) (K : Value → Heap → Prop) (k5 p6 s10 jobs11 before12 h18 l22 cost23 x196 x201 : Value) (h : Heap) : Prop := CutP (iwpP P c3z94 (K3z66 P K)) [5, 6, 10, 11, 12, 18, 22, 23, 196, 201] [k5, p6, s10, jobs11, before12, h18, l22, cost23, x196, x201] h
def p3z100 (P : Program) (K : Value → Heap → Prop) (k5 p6 s10 jobs11 before12 h18 l22 cost23 : Value) (L1 : List Value → Heap → Prop) (xs : List Value) (h : Heap) : Prop := CutP (iwpP P c3z100 (K3z100 P K k5 p6 s10 jobs11 before12 h18 l22 cost23 L1)) ([5, 6, 10, 11, 12, 18, 22, 23] ++ [25, 26]) ([k5, p6, s10, jobs11, before12, h18, l22, cost23] ++ xs) h
def p3z105 (P : Program) (K : Value → Heap → Prop) (k5 p6 s10 jobs11 before12 h18 cost23 t25 : Value) (h : Heap) : Prop := CutP (iwpP P c3z105 (K3z0 P K)) [5, 6, 10, 11, 12, 18, 23, 25] [k5, p6, s10, jobs11, before12, h18, cost23, t25] h
def p3z111 (P : Program) (K : Value → Heap → Prop) (p6 s10 jobs11 before12 h18 cost23 is27 j28 : Value) (L1 : List Value → Heap → Prop) (xs : List Value) (h : Heap) : Prop := CutP (iwpP P c3z111 (K3z111 P K p6 s10 jobs11 before12 h18 cost23 is27 j28 L1)) ([6, 10, 11, 12, 18, 23, 27, 28] ++ [29, 30]) ([p6, s10, jobs11, before12, h18, cost23, is27, j28] ++ xs) h
def p3z118 (P : Program) (K : Value → Heap → Prop) (p6 s10 jobs11 before12 h18 cost23 is27 j28 step30 : Value) (L1 L2 : List Value → Heap → Prop) (xs : List Value) (h : Heap) : Prop := CutP (iwpP P c3z118 (K3z118 P K p6 s10 jobs11 before12 h18 cost23 is27 j28 step30 L1 L2)) ([6, 10, 11, 12, 18, 23, 27, 28, 30] ++ [29, 31]) ([p6, s10, jobs11, before12, h18, cost23, is27, j28, step30] ++ xs) h
def p3z124 (P : Program) (K : Value → Heap → Prop) (p6 s10 jobs11 before12 h18 cost23 is27 j28 steps29 step30 q31 : Value) (L1 L2 : List Value → Heap → Prop) (h : Heap) : Prop := CutP (iwpP P c3z124 (K3z118 P K p6 s10 jobs11 before12 h18 cost23 is27 j28 step30 L1 L2)) [6, 10, 11, 12, 18, 23, 27, 28, 29, 30, 31] [p6, s10, jobs11, before12, h18, cost23, is27, j28, steps29, step30, q31] h
def p3z125 (P : Program) (K : Value → Heap → Prop) (p6 s10 jobs11 before12 h18 cost23 is27 j28 steps29 step30 : Value) (L1 : List Value → Heap → Prop) (h : Heap) : Prop := CutP (iwpP P c3z125 (K3z111 P K p6 s10 jobs11 before12 h18 cost23 is27 j28 L1)) [6, 10, 11, 12, 18, 23, 27, 28, 29, 30] [p6, s10, jobs11, before12, h18, cost23, is27, j28, steps29, step30] h
def p3z126 (P : Program) (K : Value → Heap → Prop) (p6 s10 jobs11 before12 h18 cost23 is27 j28 steps29 : Value) (h : Heap) : Prop := CutP (iwpP P c3z126 (K3z0 P K)) [6, 10, 11, 12, 18, 23, 27, 28, 29] [p6, s10, jobs11, before12, h18, cost23, is27, j28, steps29] h
def p3z130 (P : Program) (K : Value → Heap → Prop) (p6 s10 h18 cost23 j28 c32 o33 x261 : Value) (h : Heap) : Prop := CutP (iwpP P c3z130 (K3z128 P K)) [6, 10, 18, 23, 28, 32, 33, 261] [p6, s10, h18, cost23, j28, c32, o33, x261] h
def p3z132 (P : Program) (K : Value → Heap → Prop) (p6 s10 h18 cost23 c32 o33 x261 x263 : Value) (h : Heap) : Prop := CutP (iwpP P c3z132 (K3z128 P K)) [6, 10, 18, 23, 32, 33, 261, 263] [p6, s10, h18, cost23, c32, o33, x261, x263] h
def p3z134 (P : Program) (K : Value → Heap → Prop) (p6 s10 h18 cost23 c32 o33 x265 : Value) (h : Heap) : Prop := CutP (iwpP P c3z134 (K3z128 P K)) [6, 10, 18, 23, 32, 33, 265] [p6, s10, h18, cost23, c32, o33, x265] h
def p3z136 (P : Program) (K : Value → Heap → Prop) (p6 s10 h18 cost23 c32 x265 x267 : Value) (h : Heap) : Prop := CutP (iwpP P c3z136 (K3z128 P K)) [6, 10, 18, 23, 32, 265, 267] [p6, s10, h18, cost23, c32, x265, x267] h
def p3z138 (P : Program) (K : Value → Heap → Prop) (p6 s10 h18 cost23 c32 x269 : Value) (h : Heap) : Prop := CutP (iwpP P c3z138 (K3z128 P K)) [6, 10, 18, 23, 32, 269] [p6, s10, h18, cost23, c32, x269] h
def p3z140 (P : Program) (K : Value → Heap → Prop) (p6 s10 h18 x269 x272 : Value) (h : Heap) : Prop := CutP (iwpP P c3z140 (K3z128 P K)) [6, 10, 18, 269, 272] [p6, s10, h18, x269, x272] h
def p3z142 (P : Program) (K : Value → Heap → Prop) (p6 s10 h18 x274 : Value) (h : Heap) : Prop := CutP (iwpP P c3z142 (K3z128 P K)) [6, 10, 18, 274] [p6, s10, h18, x274] h
def p3z144 (P : Program) (K : Value → Heap → Prop) (x274 x279 : Value) (h : Heap) : Prop := CutP (iwpP P c3z144 (K3z128 P K)) [274, 279] [x274, x279] h
theorem q3z20 (P : Program) (K : Value → Heap → Prop) (free0 x1 k5 p6 at7 i8 j9 : Value) (L1 L2 : List Value → Heap → Prop) (h : Heap) : p3z20 P K free0 x1 k5 p6 at7 i8 j9 L1 L2 h =
  (OP (iBin .add at7 (.int .i64 (1))) fun x59 =>
  p3z21 P K free0 x1 k5 p6 x59 i8 j9 L1 L2 h) := (CutP_def _ _ _ _).trans (by kernel_rfl)
theorem q3z21 (P : Program) (K : Value → Heap → Prop) (free0 x1 k5 p6 at7 i8 j9 : Value) (L1 L2 : List Value → Heap → Prop) (h : Heap) : p3z21 P K free0 x1 k5 p6 at7 i8 j9 L1 L2 h =
  (OP (iBin .add j9 (.int .i64 (1))) fun x46 =>
  ([free0, x1, k5, i8] : List Value) = [free0, x1, k5, i8] ∧ L2 [p6, at7, x46] h) := (CutP_def _ _ _ _).trans (by kernel_rfl)
theorem q3z13 (P : Program) (K : Value → Heap → Prop) (free0 x1 k5 i8 : Value) (L1 L2 : List Value → Heap → Prop) (p6 at7 j9 : Value) (h : Heap) : p3z13 P K free0 x1 k5 i8 L1 L2 [p6, at7, j9] h =
  (OP (iBin .lss j9 k5) fun x44 =>
  IfP x44
    (OP (iBin .shr free0 at7) fun x49 =>
    OP (iBin .and x49 (.int .u16 (1))) fun x50 =>
    OP (iBin .eql x50 (.int .u16 (1))) fun x51 =>
    IfP x51
      (OP (iBuild [(.int .i64 (0)), (.int .i64 (0))] [(0, 1, i8), (1, 1, j9)]) fun x55 =>
      OH (iMkSl 26 1 [(.int .i64 (0)), (.int .i64 (0))] h [(0, 2, x55)]) fun x56 h_1 =>
      OH (iApp 26 2 16 h_1 p6 x56) fun x57 h_2 =>
      p3z20 P K free0 x1 k5 x57 at7 i8 j9 L1 L2 h_2)
      (p3z20 P K free0 x1 k5 p6 at7 i8 j9 L1 L2 h))
    (p3z22 P K free0 x1 k5 p6 at7 i8 L1 h)) := (CutP_def _ _ _ _).trans (by kernel_rfl)
theorem q3z22 (P : Program) (K : Value → Heap → Prop) (free0 x1 k5 p6 at7 i8 : Value) (L1 : List Value → Heap → Prop) (h : Heap) : p3z22 P K free0 x1 k5 p6 at7 i8 L1 h =
  (OP (iBin .add i8 (.int .i64 (1))) fun x39 =>
  ([free0, x1, k5] : List Value) = [free0, x1, k5] ∧ L1 [p6, at7, x39] h) := (CutP_def _ _ _ _).trans (by kernel_rfl)
theorem q3z6 (P : Program) (K : Value → Heap → Prop) (free0 x1 k5 : Value) (L1 : List Value → Heap → Prop) (p6 at7 i8 : Value) (h : Heap) : p3z6 P K free0 x1 k5 L1 [p6, at7, i8] h =
  (OP (iBin .lss i8 k5) fun x37 =>
  IfP x37
    (OP (iBin .add i8 (.int .i64 (1))) fun x41 =>
    LoopP [p6, at7, x41] h fun L2 xs hx =>
    p3z13 P K free0 x1 k5 i8 L1 L2 xs hx)
    (p3z23 P K x1 k5 p6 h)) := (CutP_def _ _ _ _).trans (by kernel_rfl)
theorem q3z34 (P : Program) (K : Value → Heap → Prop) (x1 k5 p6 s10 jobs11 before12 i13 x66 x68 : Value) (L1 : List Value → Heap → Prop) (h : Heap) : p3z34 P K x1 k5 p6 s10 jobs11 before12 i13 x66 x68 L1 h =
  (OP (iPick x66 x68 (.bool false)) fun x69 =>
  IfP x69
    (OP (iAdrSl 3 x1 i13) fun x75 =>
    OP (iAdrArr 3 1 x75 (.int .i64 (0))) fun x76 =>
    OP (iLoad false 1 h x76) fun x77 =>
    (True) ∧
    OP (iBin .rem x77 (.int .u8 (4))) fun x78 =>
    OP (iAdrSl 3 x1 i13) fun x81 =>
    OP (iAdrArr 3 1 x81 (.int .i64 (0))) fun x82 =>
    OP (iLoad false 1 h x82) fun x83 =>
    (True) ∧
    OP (iBin .rem x83 (.int .u8 (4))) fun x84 =>
    OP (iBin .add x84 (.int .u8 (1))) fun x85 =>
    OP (iSlS (.string ⟨#[97, 98, 99, 100]⟩) (some x78) (some x85)) fun x86 =>
    OP (iBin .add s10 x86) fun x87 =>
    OP (iAdrSl 3 x1 i13) fun x91 =>
    OP (iAdrArr 3 1 x91 (.int .i64 (1))) fun x92 =>
    OP (iLoad false 1 h x92) fun x93 =>
    (True) ∧
    OP (iConv .i64 x93) fun x94 =>
    OP (iBin .rem x94 (.int .i64 (50))) fun x95 =>
    OP (iBin .add x95 (.int .i64 (1))) fun x96 =>
    OP (iAdrSl 3 x1 i13) fun x99 =>
    OP (iAdrArr 3 1 x99 (.int .i64 (2))) fun x100 =>
    OP (iLoad false 1 h x100) fun x101 =>
    (True) ∧
    OP (iConv .i64 x101) fun x102 =>
    OP (iBin .rem x102 (.int .i64 (51))) fun x103 =>
    OP (iBuild [(.int .i64 (0)), (.int .i64 (0))] [(0, 1, x96), (1, 1, x103)]) fun x104 =>
    OH (iMkSl 30 1 [(.int .i64 (0)), (.int .i64 (0))] h [(0, 2, x104)]) fun x105 h_1 =>
    (True) ∧
    OH (iApp 30 2 16 h_1 jobs11 x105) fun x106 h_2 =>
    (True) ∧
    OP (iBin .add i13 (.int .i64 (1))) fun x71 =>
    ([x1, k5, p6, before12] : List Value) = [x1, k5, p6, before12] ∧ L1 [x87, x106, x71] h_2)
    (p3z38 P K k5 p6 s10 jobs11 before12 h)) := (CutP_def _ _ _ _).trans (by kernel_rfl)
theorem q3z32 (P : Program) (K : Value → Heap → Prop) (x1 k5 p6 s10 jobs11 before12 i13 x66 : Value) (L1 : List Value → Heap → Prop) (h : Heap) : p3z32 P K x1 k5 p6 s10 jobs11 before12 i13 x66 L1 h =
  (GdP x66 true
    (OP (iBin .lss i13 (.int .i64 (9))) fun x68 =>
    p3z34 P K x1 k5 p6 s10 jobs11 before12 i13 x66 x68 L1 h)
    (p3z34 P K x1 k5 p6 s10 jobs11 before12 i13 x66 undef L1 h)) := (CutP_def _ _ _ _).trans (by kernel_rfl)
theorem q3z28 (P : Program) (K : Value → Heap → Prop) (x1 k5 p6 before12 : Value) (L1 : List Value → Heap → Prop) (s10 jobs11 i13 : Value) (h : Heap) : p3z28 P K x1 k5 p6 before12 L1 [s10, jobs11, i13] h =
  (OP (iLenSl x1) fun x64 =>
  OP (iBin .lss i13 x64) fun x65 =>
  p3z32 P K x1 k5 p6 s10 jobs11 before12 i13 x65 L1 h) := (CutP_def _ _ _ _).trans (by kernel_rfl)
theorem q3z58 (P : Program) (K : Value → Heap → Prop) (k5 p6 s10 jobs11 before12 i14 j15 : Value) (L1 L2 : List Value → Heap → Prop) (h : Heap) : p3z58 P K k5 p6 s10 jobs11 before12 i14 j15 L1 L2 h =
  (OP (iBin .add j15 (.int .i64 (1))) fun x120 =>
  ([k5, p6, s10, jobs11, i14] : List Value) = [k5, p6, s10, jobs11, i14] ∧ L2 [before12, x120] h) := (CutP_def _ _ _ _).trans (by kernel_rfl)
theorem q3z52 (P : Program) (K : Value → Heap → Prop) (k5 p6 s10 jobs11 i14 : Value) (L1 L2 : List Value → Heap → Prop) (before12 j15 : Value) (h : Heap) : p3z52 P K k5 p6 s10 jobs11 i14 L1 L2 [before12, j15] h =
  (OP (iBin .lss j15 i14) fun x118 =>
  IfP x118
    (OP (iIdxS s10 j15) fun x124 =>
    OP (iIdxS s10 i14) fun x127 =>
    CallP P 4 [p6, x124, x127] h fun x128 h_1 =>
    (True) ∧
    OP (iUn .not x128) fun x129 =>
    IfP x129
      (OP (iBuild [(.int .i64 (0)), (.int .i64 (0))] [(0, 1, j15), (1, 1, i14)]) fun x133 =>
      OH (iMkSl 26 1 [(.int .i64 (0)), (.int .i64 (0))] h_1 [(0, 2, x133)]) fun x134 h_2 =>
      OH (iApp 26 2 16 h_2 before12 x134) fun x135 h_3 =>
      p3z58 P K k5 p6 s10 jobs11 x135 i14 j15 L1 L2 h_3)
      (p3z58 P K k5 p6 s10 jobs11 before12 i14 j15 L1 L2 h_1))
    (p3z59 P K k5 p6 s10 jobs11 before12 i14 L1 h)) := (CutP_def _ _ _ _).trans (by kernel_rfl)
theorem q3z59 (P : Program) (K : Value → Heap → Prop) (k5 p6 s10 jobs11 before12 i14 : Value) (L1 : List Value → Heap → Prop) (h : Heap) : p3z59 P K k5 p6 s10 jobs11 before12 i14 L1 h =
  (OP (iBin .add i14 (.int .i64 (1))) fun x115 =>
  ([k5, p6, s10, jobs11] : List Value) = [k5, p6, s10, jobs11] ∧ L1 [before12, x115] h) := (CutP_def _ _ _ _).trans (by kernel_rfl)
theorem q3z45 (P : Program) (K : Value → Heap → Prop) (k5 p6 s10 jobs11 : Value) (L1 : List Value → Heap → Prop) (before12 i14 : Value) (h : Heap) : p3z45 P K k5 p6 s10 jobs11 L1 [before12, i14] h =
  (OP (iLenS s10) fun x112 =>
  OP (iBin .lss i14 x112) fun x113 =>
  IfP x113
    (LoopP [before12, (.int .i64 (0))] h fun L2 xs hx =>
    p3z52 P K k5 p6 s10 jobs11 i14 L1 L2 xs hx)
    (p3z60 P K k5 p6 s10 jobs11 before12 h)) := (CutP_def _ _ _ _).trans (by kernel_rfl)
theorem q3z94 (P : Program) (K : Value → Heap → Prop) (k5 p6 s10 jobs11 before12 h18 l22 cost23 x196 x201 : Value) (h : Heap) : p3z94 P K k5 p6 s10 jobs11 before12 h18 l22 cost23 x196 x201 h =
  (OP (iPick x196 (.bool true) x201) fun x202 =>
  IfP x202
    (K (.bool false) h)
    (LoopP [(.string ⟨#[]⟩), (.int .i64 (0))] h fun L1 xs hx =>
    p3z100 P K k5 p6 s10 jobs11 before12 h18 l22 cost23 L1 xs hx)) := (CutP_def _ _ _ _).trans (by kernel_rfl)
theorem q3z92 (P : Program) (K : Value → Heap → Prop) (k5 p6 s10 jobs11 before12 h18 l22 cost23 x196 : Value) (h : Heap) : p3z92 P K k5 p6 s10 jobs11 before12 h18 l22 cost23 x196 h =
  (GdP x196 false
    (CallP P 10 [jobs11, l22] h fun x199 h_1 =>
    OP (iBin .neq x199 cost23) fun x201 =>
    p3z94 P K k5 p6 s10 jobs11 before12 h18 l22 cost23 x196 x201 h_1)
    (p3z94 P K k5 p6 s10 jobs11 before12 h18 l22 cost23 x196 undef h)) := (CutP_def _ _ _ _).trans (by kernel_rfl)
theorem q3z90 (P : Program) (K : Value → Heap → Prop) (k5 p6 s10 jobs11 before12 h18 l22 cost23 x189 x194 : Value) (h : Heap) : p3z90 P K k5 p6 s10 jobs11 before12 h18 l22 cost23 x189 x194 h =
  (OP (iPick x189 (.bool true) x194) fun x195 =>
  p3z92 P K k5 p6 s10 jobs11 before12 h18 l22 cost23 x195 h) := (CutP_def _ _ _ _).trans (by kernel_rfl)
theorem q3z88 (P : Program) (K : Value → Heap → Prop) (k5 p6 s10 jobs11 before12 h18 l22 cost23 x189 : Value) (h : Heap) : p3z88 P K k5 p6 s10 jobs11 before12 h18 l22 cost23 x189 h =
  (GdP x189 false
    (CallP P 9 [jobs11, before12, l22] h fun x193 h_1 =>
    OP (iUn .not x193) fun x194 =>
    p3z90 P K k5 p6 s10 jobs11 before12 h18 l22 cost23 x189 x194 h_1)
    (p3z90 P K k5 p6 s10 jobs11 before12 h18 l22 cost23 x189 undef h)) := (CutP_def _ _ _ _).trans (by kernel_rfl)
theorem q3z86 (P : Program) (K : Value → Heap → Prop) (k5 p6 s10 jobs11 before12 h18 l22 cost23 x182 x187 : Value) (h : Heap) : p3z86 P K k5 p6 s10 jobs11 before12 h18 l22 cost23 x182 x187 h =
  (OP (iPick x182 (.bool true) x187) fun x188 =>
  p3z88 P K k5 p6 s10 jobs11 before12 h18 l22 cost23 x188 h) := (CutP_def _ _ _ _).trans (by kernel_rfl)
theorem q3z84 (P : Program) (K : Value → Heap → Prop) (k5 p6 s10 jobs11 before12 h18 l22 cost23 x182 : Value) (h : Heap) : p3z84 P K k5 p6 s10 jobs11 before12 h18 l22 cost23 x182 h =
  (GdP x182 false
    (OP (iLenSl h18) fun x184 =>
    OP (iLenS s10) fun x186 =>
    OP (iBin .neq x184 x186) fun x187 =>
    p3z86 P K k5 p6 s10 jobs11 before12 h18 l22 cost23 x182 x187 h)
    (p3z86 P K k5 p6 s10 jobs11 before12 h18 l22 cost23 x182 undef h)) := (CutP_def _ _ _ _).trans (by kernel_rfl)
theorem q3z82 (P : Program) (K : Value → Heap → Prop) (k5 p6 s10 jobs11 before12 h18 l22 cost23 x177 x180 : Value) (h : Heap) : p3z82 P K k5 p6 s10 jobs11 before12 h18 l22 cost23 x177 x180 h =
  (OP (iPick x177 (.bool true) x180) fun x181 =>
  p3z84 P K k5 p6 s10 jobs11 before12 h18 l22 cost23 x181 h) := (CutP_def _ _ _ _).trans (by kernel_rfl)
theorem q3z80 (P : Program) (K : Value → Heap → Prop) (k5 p6 s10 jobs11 before12 n16 h18 m20 l22 cost23 x177 : Value) (h : Heap) : p3z80 P K k5 p6 s10 jobs11 before12 n16 h18 m20 l22 cost23 x177 h =
  (GdP x177 false
    (OP (iBin .neq n16 m20) fun x180 =>
    p3z82 P K k5 p6 s10 jobs11 before12 h18 l22 cost23 x177 x180 h)
    (p3z82 P K k5 p6 s10 jobs11 before12 h18 l22 cost23 x177 undef h)) := (CutP_def _ _ _ _).trans (by kernel_rfl)
theorem q3z78 (P : Program) (K : Value → Heap → Prop) (k5 p6 s10 jobs11 before12 n16 h18 m20 l22 cost23 x173 x175 : Value) (h : Heap) : p3z78 P K k5 p6 s10 jobs11 before12 n16 h18 m20 l22 cost23 x173 x175 h =
  (OP (iPick x173 (.bool true) x175) fun x176 =>
  p3z80 P K k5 p6 s10 jobs11 before12 n16 h18 m20 l22 cost23 x176 h) := (CutP_def _ _ _ _).trans (by kernel_rfl)
theorem q3z76 (P : Program) (K : Value → Heap → Prop) (k5 p6 s10 jobs11 before12 n16 h18 m20 l22 cost23 i24 x173 : Value) (h : Heap) : p3z76 P K k5 p6 s10 jobs11 before12 n16 h18 m20 l22 cost23 i24 x173 h =
  (GdP x173 false
    (OP (iBin .neq i24 (.int .i64 (0))) fun x175 =>
    p3z78 P K k5 p6 s10 jobs11 before12 n16 h18 m20 l22 cost23 x173 x175 h)
    (p3z78 P K k5 p6 s10 jobs11 before12 n16 h18 m20 l22 cost23 x173 undef h)) := (CutP_def _ _ _ _).trans (by kernel_rfl)
theorem q3z74 (P : Program) (K : Value → Heap → Prop) (k5 p6 s10 jobs11 before12 n16 h18 m20 l22 cost23 i24 x169 x171 : Value) (h : Heap) : p3z74 P K k5 p6 s10 jobs11 before12 n16 h18 m20 l22 cost23 i24 x169 x171 h =
  (OP (iPick x169 (.bool true) x171) fun x172 =>
  p3z76 P K k5 p6 s10 jobs11 before12 n16 h18 m20 l22 cost23 i24 x172 h) := (CutP_def _ _ _ _).trans (by kernel_rfl)
theorem q3z72 (P : Program) (K : Value → Heap → Prop) (k5 p6 s10 jobs11 before12 n16 h18 m20 g21 l22 cost23 i24 x169 : Value) (h : Heap) : p3z72 P K k5 p6 s10 jobs11 before12 n16 h18 m20 g21 l22 cost23 i24 x169 h =
  (GdP x169 false
    (OP (iBin .neq g21 (.int .i64 (0))) fun x171 =>
    p3z74 P K k5 p6 s10 jobs11 before12 n16 h18 m20 l22 cost23 i24 x169 x171 h)
    (p3z74 P K k5 p6 s10 jobs11 before12 n16 h18 m20 l22 cost23 i24 x169 undef h)) := (CutP_def _ _ _ _).trans (by kernel_rfl)
theorem q3z70 (P : Program) (K : Value → Heap → Prop) (k5 p6 s10 jobs11 before12 n16 h18 m20 g21 l22 cost23 i24 x165 x167 : Value) (h : Heap) : p3z70 P K k5 p6 s10 jobs11 before12 n16 h18 m20 g21 l22 cost23 i24 x165 x167 h =
  (OP (iPick x165 (.bool true) x167) fun x168 =>
  p3z72 P K k5 p6 s10 jobs11 before12 n16 h18 m20 g21 l22 cost23 i24 x168 h) := (CutP_def _ _ _ _).trans (by kernel_rfl)
theorem q3z68 (P : Program) (K : Value → Heap → Prop) (k5 p6 s10 jobs11 before12 n16 h18 f19 m20 g21 l22 cost23 i24 x165 : Value) (h : Heap) : p3z68 P K k5 p6 s10 jobs11 before12 n16 h18 f19 m20 g21 l22 cost23 i24 x165 h =
  (GdP x165 false
    (OP (iBin .neq f19 (.int .i64 (0))) fun x167 =>
    p3z70 P K k5 p6 s10 jobs11 before12 n16 h18 m20 g21 l22 cost23 i24 x165 x167 h)
    (p3z70 P K k5 p6 s10 jobs11 before12 n16 h18 m20 g21 l22 cost23 i24 x165 undef h)) := (CutP_def _ _ _ _).trans (by kernel_rfl)
theorem q3z100 (P : Program) (K : Value → Heap → Prop) (k5 p6 s10 jobs11 before12 h18 l22 cost23 : Value) (L1 : List Value → Heap → Prop) (t25 j26 : Value) (h : Heap) : p3z100 P K k5 p6 s10 jobs11 before12 h18 l22 cost23 L1 [t25, j26] h =
  (OP (iLenSl l22) fun x205 =>
  OP (iBin .lss j26 x205) fun x206 =>
  IfP x206
    (OP (iAdrSl 1 l22 j26) fun x213 =>
    OP (iLoad false 1 h x213) fun x214 =>
    (True) ∧
    OP (iAdrSl 1 l22 j26) fun x217 =>
    OP (iLoad false 1 h x217) fun x218 =>
    (True) ∧
    OP (iBin .add x218 (.int .i64 (1))) fun x219 =>
    OP (iSlS s10 (some x214) (some x219)) fun x220 =>
    OP (iBin .add t25 x220) fun x221 =>
    OP (iBin .add j26 (.int .i64 (1))) fun x208 =>
    ([k5, p6, s10, jobs11, before12, h18, l22, cost23] : List Value) = [k5, p6, s10, jobs11, before12, h18, l22, cost23] ∧ L1 [x221, x208] h)
    (p3z105 P K k5 p6 s10 jobs11 before12 h18 cost23 t25 h)) := (CutP_def _ _ _ _).trans (by kernel_rfl)
theorem q3z124 (P : Program) (K : Value → Heap → Prop) (p6 s10 jobs11 before12 h18 cost23 is27 j28 steps29 step30 q31 : Value) (L1 L2 : List Value → Heap → Prop) (h : Heap) : p3z124 P K p6 s10 jobs11 before12 h18 cost23 is27 j28 steps29 step30 q31 L1 L2 h =
  (OP (iBin .add q31 (.int .i64 (1))) fun x242 =>
  ([p6, s10, jobs11, before12, h18, cost23, is27, j28, step30] : List Value) = [p6, s10, jobs11, before12, h18, cost23, is27, j28, step30] ∧ L2 [steps29, x242] h) := (CutP_def _ _ _ _).trans (by kernel_rfl)
theorem q3z118 (P : Program) (K : Value → Heap → Prop) (p6 s10 jobs11 before12 h18 cost23 is27 j28 step30 : Value) (L1 L2 : List Value → Heap → Prop) (steps29 q31 : Value) (h : Heap) : p3z118 P K p6 s10 jobs11 before12 h18 cost23 is27 j28 step30 L1 L2 [steps29, q31] h =
  (OP (iLenSl h18) fun x239 =>
  OP (iBin .lss q31 x239) fun x240 =>
  IfP x240
    (OP (iAdrSl 1 h18 q31) fun x245 =>
    OP (iLoad false 1 h x245) fun x246 =>
    OP (iBin .eql x246 step30) fun x248 =>
    IfP x248
      (OH (iMkSl 3 1 [(.int .i64 (0))] h [(0, 1, q31)]) fun x251 h_1 =>
      OH (iApp 3 1 8 h_1 steps29 x251) fun x252 h_2 =>
      p3z124 P K p6 s10 jobs11 before12 h18 cost23 is27 j28 x252 step30 q31 L1 L2 h_2)
      (p3z124 P K p6 s10 jobs11 before12 h18 cost23 is27 j28 steps29 step30 q31 L1 L2 h))
    (p3z125 P K p6 s10 jobs11 before12 h18 cost23 is27 j28 steps29 step30 L1 h)) := (CutP_def _ _ _ _).trans (by kernel_rfl)
theorem q3z125 (P : Program) (K : Value → Heap → Prop) (p6 s10 jobs11 before12 h18 cost23 is27 j28 steps29 step30 : Value) (L1 : List Value → Heap → Prop) (h : Heap) : p3z125 P K p6 s10 jobs11 before12 h18 cost23 is27 j28 steps29 step30 L1 h =
  (OP (iBin .add step30 (.int .i64 (1))) fun x236 =>
  ([p6, s10, jobs11, before12, h18, cost23, is27, j28] : List Value) = [p6, s10, jobs11, before12, h18, cost23, is27, j28] ∧ L1 [steps29, x236] h) := (CutP_def _ _ _ _).trans (by kernel_rfl)
theorem q3z111 (P : Program) (K : Value → Heap → Prop) (p6 s10 jobs11 before12 h18 cost23 is27 j28 : Value) (L1 : List Value → Heap → Prop) (steps29 step30 : Value) (h : Heap) : p3z111 P K p6 s10 jobs11 before12 h18 cost23 is27 j28 L1 [steps29, step30] h =
  (OP (iLenS s10) fun x233 =>
  OP (iBin .leq step30 x233) fun x234 =>
  IfP x234
    (LoopP [steps29, (.int .i64 (0))] h fun L2 xs hx =>
    p3z118 P K p6 s10 jobs11 before12 h18 cost23 is27 j28 step30 L1 L2 xs hx)
    (p3z126 P K p6 s10 jobs11 before12 h18 cost23 is27 j28 steps29 h)) := (CutP_def _ _ _ _).trans (by kernel_rfl)
theorem q3z144 (P : Program) (K : Value → Heap → Prop) (x274 x279 : Value) (h : Heap) : p3z144 P K x274 x279 h =
  (OP (iPick x274 x279 (.bool false)) fun x280 =>
  K x280 h) := (CutP_def _ _ _ _).trans (by kernel_rfl)
theorem q3z142 (P : Program) (K : Value → Heap → Prop) (p6 s10 h18 x274 : Value) (h : Heap) : p3z142 P K p6 s10 h18 x274 h =
  (GdP x274 true
    (CallP P 14 [p6, s10] h fun x278 h_1 =>
    CallP P 13 [h18, x278] h_1 fun x279 h_2 =>
    p3z144 P K x274 x279 h_2)
    (p3z144 P K x274 undef h)) := (CutP_def _ _ _ _).trans (by kernel_rfl)
theorem q3z140 (P : Program) (K : Value → Heap → Prop) (p6 s10 h18 x269 x272 : Value) (h : Heap) : p3z140 P K p6 s10 h18 x269 x272 h =
  (OP (iPick x269 x272 (.bool false)) fun x273 =>
  p3z142 P K p6 s10 h18 x273 h) := (CutP_def _ _ _ _).trans (by kernel_rfl)
theorem q3z138 (P : Program) (K : Value → Heap → Prop) (p6 s10 h18 cost23 c32 x269 : Value) (h : Heap) : p3z138 P K p6 s10 h18 cost23 c32 x269 h =
  (GdP x269 true
    (OP (iBin .geq c32 cost23) fun x272 =>
    p3z140 P K p6 s10 h18 x269 x272 h)
    (p3z140 P K p6 s10 h18 x269 undef h)) := (CutP_def _ _ _ _).trans (by kernel_rfl)
theorem q3z136 (P : Program) (K : Value → Heap → Prop) (p6 s10 h18 cost23 c32 x265 x267 : Value) (h : Heap) : p3z136 P K p6 s10 h18 cost23 c32 x265 x267 h =
  (OP (iPick x265 x267 (.bool false)) fun x268 =>
  p3z138 P K p6 s10 h18 cost23 c32 x268 h) := (CutP_def _ _ _ _).trans (by kernel_rfl)
theorem q3z134 (P : Program) (K : Value → Heap → Prop) (p6 s10 h18 cost23 c32 o33 x265 : Value) (h : Heap) : p3z134 P K p6 s10 h18 cost23 c32 o33 x265 h =
  (GdP x265 true
    (OP (iBin .eql o33 (.int .i64 (0))) fun x267 =>
    p3z136 P K p6 s10 h18 cost23 c32 x265 x267 h)
    (p3z136 P K p6 s10 h18 cost23 c32 x265 undef h)) := (CutP_def _ _ _ _).trans (by kernel_rfl)
theorem q3z132 (P : Program) (K : Value → Heap → Prop) (p6 s10 h18 cost23 c32 o33 x261 x263 : Value) (h : Heap) : p3z132 P K p6 s10 h18 cost23 c32 o33 x261 x263 h =
  (OP (iPick x261 x263 (.bool false)) fun x264 =>
  p3z134 P K p6 s10 h18 cost23 c32 o33 x264 h) := (CutP_def _ _ _ _).trans (by kernel_rfl)
theorem q3z130 (P : Program) (K : Value → Heap → Prop) (p6 s10 h18 cost23 j28 c32 o33 x261 : Value) (h : Heap) : p3z130 P K p6 s10 h18 cost23 j28 c32 o33 x261 h =
  (GdP x261 true
    (OP (iBin .eql j28 (.int .i64 (0))) fun x263 =>
    p3z132 P K p6 s10 h18 cost23 c32 o33 x261 x263 h)
    (p3z132 P K p6 s10 h18 cost23 c32 o33 x261 undef h)) := (CutP_def _ _ _ _).trans (by kernel_rfl)
theorem q3z126 (P : Program) (K : Value → Heap → Prop) (p6 s10 jobs11 before12 h18 cost23 is27 j28 steps29 : Value) (h : Heap) : p3z126 P K p6 s10 jobs11 before12 h18 cost23 is27 j28 steps29 h =
  (CallP P 12 [jobs11, before12, steps29] h fun x257 h_1 =>
  OP (iExt 0 x257) fun x258 =>
  OP (iExt 1 x257) fun x259 =>
  p3z130 P K p6 s10 h18 cost23 j28 x258 x259 is27 h_1) := (CutP_def _ _ _ _).trans (by kernel_rfl)
theorem q3z105 (P : Program) (K : Value → Heap → Prop) (k5 p6 s10 jobs11 before12 h18 cost23 t25 : Value) (h : Heap) : p3z105 P K k5 p6 s10 jobs11 before12 h18 cost23 t25 h =
  (CallP P 11 [k5, p6, s10, t25] h fun x227 h_1 =>
  OP (iExt 0 x227) fun x228 =>
  OP (iExt 1 x227) fun x229 =>
  OH (iMkSl 3 0 [(.int .i64 (0))] h_1 []) fun x230 h_2 =>
  LoopP [x230, (.int .i64 (1))] h_2 fun L1 xs hx =>
  p3z111 P K p6 s10 jobs11 before12 h18 cost23 x228 x229 L1 xs hx) := (CutP_def _ _ _ _).trans (by kernel_rfl)
theorem q3z60 (P : Program) (K : Value → Heap → Prop) (k5 p6 s10 jobs11 before12 : Value) (h : Heap) : p3z60 P K k5 p6 s10 jobs11 before12 h =
  (CallP P 5 [k5, p6, s10] h fun x140 h_1 =>
  OP (iExt 0 x140) fun x141 =>
  OP (iExt 1 x140) fun x142 =>
  CallP P 6 [k5, p6, s10] h_1 fun x147 h_2 =>
  OP (iExt 0 x147) fun x148 =>
  OP (iExt 1 x147) fun x149 =>
  CallP P 7 [jobs11, before12] h_2 fun x153 h_3 =>
  OP (iExt 0 x153) fun x154 =>
  OP (iExt 1 x153) fun x155 =>
  CallP P 8 [jobs11, before12] h_3 fun x159 h_4 =>
  OP (iExt 0 x159) fun x160 =>
  OP (iExt 1 x159) fun x161 =>
  OP (iExt 2 x159) fun x162 =>
  OP (iBin .neq x142 (.int .i64 (0))) fun x164 =>
  p3z68 P K k5 p6 s10 jobs11 before12 x141 x148 x149 x154 x155 x160 x161 x162 x164 h_4) := (CutP_def _ _ _ _).trans (by kernel_rfl)
theorem q3z38 (P : Program) (K : Value → Heap → Prop) (k5 p6 s10 jobs11 before12 : Value) (h : Heap) : p3z38 P K k5 p6 s10 jobs11 before12 h =
  (OP (iLenS s10) fun x108 =>
  OP (iBin .eql x108 (.int .i64 (0))) fun x109 =>
  IfP x109
    (K (.bool true) h)
    (LoopP [before12, (.int .i64 (0))] h fun L1 xs hx =>
    p3z45 P K k5 p6 s10 jobs11 L1 xs hx)) := (CutP_def _ _ _ _).trans (by kernel_rfl)
theorem q3z23 (P : Program) (K : Value → Heap → Prop) (x1 k5 p6 : Value) (h : Heap) : p3z23 P K x1 k5 p6 h =
  (OH (iMkSl 30 0 [(.int .i64 (0)), (.int .i64 (0))] h []) fun x60 h_1 =>
  OH (iMkSl 26 0 [(.int .i64 (0)), (.int .i64 (0))] h_1 []) fun x61 h_2 =>
  LoopP [(.string ⟨#[]⟩), x60, (.int .i64 (0))] h_2 fun L1 xs hx =>
  p3z28 P K x1 k5 p6 x61 L1 xs hx) := (CutP_def _ _ _ _).trans (by kernel_rfl)
def T3 (P : Program) (K : Value → Heap → Prop) (free0 x1 : Value) (h : Heap) : Prop :=
  OH (iMkSl 26 0 [(.int .i64 (0)), (.int .i64 (0))] h []) fun x34 h_1 =>
  LoopP [x34, (.int .i64 (0)), (.int .i64 (0))] h_1 fun L1 xs hx =>
  p3z6 P K free0 x1 (.int .i64 (4)) L1 xs hx
theorem e3 (P : Program) (K : Value → Heap → Prop) (free0 x1 : Value) (h : Heap) : iwpP P c3 (bodyP [.tmp 4] K) (frame0 [free0, x1]) h = T3 P K free0 x1 h := by kernel_rfl
theorem f3 {K : Value → Heap → Prop} {free0 x1 : Value} {h : Heap} (H : T3 Try.prog K free0 x1 h) : CallP Try.prog 3 [free0, x1] h K :=
  callP_intro k3 (Nat.le_of_ble_eq_true rfl) ((e3 Try.prog K free0 x1 h).mpr H)
end Go.Proofs.Ytipeennffbbglaa
