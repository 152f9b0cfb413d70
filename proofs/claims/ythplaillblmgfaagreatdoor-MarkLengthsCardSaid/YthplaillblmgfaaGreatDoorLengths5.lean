/-
  Part 5 of the texts behind a statement of this seat: HNA, HZU, HZN1, HZN2, HCt28, HCt29, HCt30, HCt31, HCt32.
-/
import Derived.Test.YthplaillblmgfaaGreatDoorProg
import Derived.KernelRfl
import Derived.Test.YthplaillblmgfaaGreatDoorLengths4
namespace Go.Proofs.YthplaillblmgfaaGreatDoor
open Go.Sim
variable (P : Program) (K : VK)
/-! F7: pommel/pommellaw08.MarkLengths -/
noncomputable def c7z29 : ICode := .ops none [⟨(some 62), .p (.pick (.tmp 60) (.tmp 61) (.const (.bool false)))⟩,
 ⟨(some 2), .p (.mv (.tmp 62))⟩]
noncomputable def c7z27 : ICode := .seq (.ops (some (60, true)) [⟨(some 61), .call 15 []⟩])
 (.cut [60, 61] c7z29)
noncomputable def c7z25 : ICode := .seq (.ops none [⟨(some 59), .p (.pick (.tmp 55) (.tmp 58) (.const (.bool false)))⟩,
 ⟨(some 60), .p (.mv (.tmp 59))⟩])
 (.cut [60] c7z27)
noncomputable def c7z23 : ICode := .seq (.ops (some (55, true)) [⟨(some 56), .p (.mv (.tmp 9))⟩,
 ⟨(some 57), .p (.mv (.tmp 10))⟩,
 ⟨(some 58), .p (.bin .eql (.tmp 56) (.tmp 57))⟩])
 (.cut [55, 58] c7z25)
noncomputable def c7z21 : ICode := .seq (.ops none [⟨(some 54), .p (.pick (.tmp 50) (.tmp 53) (.const (.bool false)))⟩,
 ⟨(some 55), .p (.mv (.tmp 54))⟩])
 (.cut [9, 10, 55] c7z23)
noncomputable def c7z19 : ICode := .seq (.ops (some (50, true)) [⟨(some 51), .p (.mv (.tmp 7))⟩,
 ⟨(some 52), .p (.mv (.tmp 10))⟩,
 ⟨(some 53), .p (.bin .eql (.tmp 51) (.tmp 52))⟩])
 (.cut [9, 10, 50, 53] c7z21)
noncomputable def c7z17 : ICode := .seq (.ops none [⟨(some 49), .p (.pick (.tmp 42) (.tmp 48) (.const (.bool false)))⟩,
 ⟨(some 50), .p (.mv (.tmp 49))⟩])
 (.cut [7, 9, 10, 50] c7z19)
noncomputable def c7z15 : ICode := .seq (.ops (some (42, true)) [⟨(some 43), .p (.mv (.tmp 6))⟩,
 ⟨(some 44), .p (.lenSl (.tmp 43))⟩,
 ⟨(some 45), .p (.mv (.tmp 8))⟩,
 ⟨(some 46), .p (.lenSl (.tmp 45))⟩,
 ⟨(some 47), .p (.bin .add (.tmp 44) (.tmp 46))⟩,
 ⟨(some 48), .p (.bin .eql (.tmp 47) (.const (.int .i64 (0))))⟩])
 (.cut [7, 9, 10, 42, 48] c7z17)
noncomputable def c7z13 : ICode := .seq (.ops none [⟨(some 41), .p (.pick (.tmp 37) (.tmp 40) (.const (.bool false)))⟩,
 ⟨(some 42), .p (.mv (.tmp 41))⟩])
 (.cut [6, 7, 8, 9, 10, 42] c7z15)
noncomputable def c7z11 : ICode := .seq (.ops (some (37, true)) [⟨(some 38), .p (.mv (.tmp 5))⟩,
 ⟨(some 39), .p (.mv (.tmp 10))⟩,
 ⟨(some 40), .p (.bin .eql (.tmp 38) (.tmp 39))⟩])
 (.cut [6, 7, 8, 9, 10, 37, 40] c7z13)
noncomputable def c7z9 : ICode := .ret
noncomputable def c7z40 : ICode := .ops none [⟨(some 77), .p (.pick (.tmp 74) (.const (.bool true)) (.tmp 76))⟩]
noncomputable def c7z38 : ICode := .seq (.ops (some (74, false)) [⟨(some 75), .call 15 []⟩,
 ⟨(some 76), .p (.un .not (.tmp 75))⟩])
 (.cut [3, 6, 7, 8, 9, 11, 74, 76] c7z40)
noncomputable def c7z36 : ICode := .seq (.ops none [⟨(some 73), .p (.pick (.tmp 70) (.const (.bool true)) (.tmp 72))⟩,
 ⟨(some 74), .p (.mv (.tmp 73))⟩])
 (.cut [3, 6, 7, 8, 9, 11, 74] c7z38)
noncomputable def c7z34 : ICode := .seq (.ops (some (70, false)) [⟨(some 71), .p (.mv (.tmp 5))⟩,
 ⟨(some 72), .p (.bin .neq (.tmp 71) (.const (.int .i64 (0))))⟩])
 (.cut [3, 6, 7, 8, 9, 11, 70, 72] c7z36)
noncomputable def c7z32 : ICode := .cond (.tmp 77) (.seq (.ops none [⟨(some 2), .p (.mv (.const (.bool false)))⟩])
 (.ret))
 (.skip)
noncomputable def c7z52 : ICode := .ops none [⟨(some 93), .p (.pick (.tmp 90) (.tmp 92) (.const (.bool false)))⟩,
 ⟨(some 2), .p (.mv (.tmp 93))⟩]
noncomputable def c7z50 : ICode := .seq (.ops (some (90, true)) [⟨(some 91), .p (.mv (.tmp 9))⟩,
 ⟨(some 92), .p (.bin .eql (.tmp 91) (.const (.int .i64 (5))))⟩])
 (.cut [90, 92] c7z52)
noncomputable def c7z48 : ICode := .seq (.ops none [⟨(some 89), .p (.pick (.tmp 86) (.tmp 88) (.const (.bool false)))⟩,
 ⟨(some 90), .p (.mv (.tmp 89))⟩])
 (.cut [9, 90] c7z50)
noncomputable def c7z46 : ICode := .seq (.ops (some (86, true)) [⟨(some 87), .p (.mv (.tmp 7))⟩,
 ⟨(some 88), .p (.bin .eql (.tmp 87) (.const (.int .i64 (5))))⟩])
 (.cut [9, 86, 88] c7z48)
noncomputable def c7z44 : ICode := .ret
noncomputable def c7z74 : ICode := .ops none [⟨(some 124), .p (.pick (.tmp 118) (.tmp 123) (.const (.bool false)))⟩,
 ⟨(some 2), .p (.mv (.tmp 124))⟩]
noncomputable def c7z72 : ICode := .seq (.ops (some (118, true)) [⟨(some 123), .p (.pick (.tmp 120) (.const (.bool true)) (.tmp 122))⟩])
 (.cut [118, 123] c7z74)
noncomputable def c7z70 : ICode := .seq (.ops (some (120, false)) [⟨(some 121), .p (.mv (.tmp 9))⟩,
 ⟨(some 122), .p (.bin .eql (.tmp 121) (.const (.int .i64 (5))))⟩])
 (.cut [118, 120, 122] c7z72)
noncomputable def c7z68 : ICode := .seq (.ops (some (118, true)) [⟨(some 119), .p (.mv (.tmp 13))⟩,
 ⟨(some 120), .p (.mv (.tmp 119))⟩])
 (.cut [9, 118, 120] c7z70)
noncomputable def c7z66 : ICode := .seq (.ops none [⟨(some 117), .p (.pick (.tmp 112) (.tmp 116) (.const (.bool false)))⟩,
 ⟨(some 118), .p (.mv (.tmp 117))⟩])
 (.cut [9, 13, 118] c7z68)
noncomputable def c7z64 : ICode := .seq (.ops (some (112, true)) [⟨(some 113), .p (.mv (.tmp 9))⟩,
 ⟨(some 114), .p (.bin .eql (.tmp 113) (.const (.int .i64 (0))))⟩,
 ⟨(some 115), .p (.mv (.tmp 13))⟩,
 ⟨(some 116), .p (.eqb false (.tmp 114) (.tmp 115))⟩])
 (.cut [9, 13, 112, 116] c7z66)
noncomputable def c7z62 : ICode := .seq (.ops none [⟨(some 111), .p (.pick (.tmp 107) (.tmp 110) (.const (.bool false)))⟩,
 ⟨(some 112), .p (.mv (.tmp 111))⟩])
 (.cut [9, 13, 112] c7z64)
noncomputable def c7z60 : ICode := .seq (.ops (some (107, true)) [⟨(some 108), .p (.mv (.tmp 8))⟩,
 ⟨(some 109), .p (.mv (.tmp 12))⟩,
 ⟨(some 110), .call 38 [(.tmp 108), (.tmp 109)]⟩])
 (.cut [9, 13, 107, 110] c7z62)
noncomputable def c7z58 : ICode := .seq (.ops none [⟨(some 106), .p (.pick (.tmp 103) (.tmp 105) (.const (.bool false)))⟩,
 ⟨(some 107), .p (.mv (.tmp 106))⟩])
 (.cut [8, 9, 12, 13, 107] c7z60)
noncomputable def c7z56 : ICode := .seq (.ops (some (103, true)) [⟨(some 104), .p (.mv (.tmp 7))⟩,
 ⟨(some 105), .p (.bin .eql (.tmp 104) (.const (.int .i64 (0))))⟩])
 (.cut [8, 9, 12, 13, 103, 105] c7z58)
noncomputable def c7z54 : ICode := .ret
noncomputable def c7z42 : ICode := .seq (.ops none [⟨(some 95), .p (.mv (.tmp 3))⟩,
 ⟨(some 96), .call 37 [(.tmp 95)]⟩,
 ⟨(some 94), .p (.mv (.tmp 96))⟩,
 ⟨(some 97), .p (.ext (.tmp 94) 0)⟩,
 ⟨(some 98), .p (.ext (.tmp 94) 1)⟩,
 ⟨(some 12), .p (.mv (.tmp 97))⟩,
 ⟨(some 13), .p (.mv (.tmp 98))⟩])
 (.seq (.seq (.ops none [⟨(some 99), .p (.mv (.tmp 6))⟩,
 ⟨(some 100), .p (.mv (.tmp 3))⟩,
 ⟨(some 101), .call 39 [(.tmp 100)]⟩,
 ⟨(some 102), .call 38 [(.tmp 99), (.tmp 101)]⟩,
 ⟨(some 103), .p (.mv (.tmp 102))⟩])
 (.cut [7, 8, 9, 12, 13, 103] c7z56)) c7z54)
noncomputable def c7z31 : ICode := .seq (.seq (.ops none [⟨(some 78), .p (.mv (.tmp 11))⟩,
 ⟨(some 79), .p (.bin .gtr (.tmp 78) (.const (.int .i64 (1024))))⟩])
 (.cond (.tmp 79) (.seq (.seq (.ops none [⟨(some 80), .p (.mv (.tmp 6))⟩,
 ⟨(some 81), .p (.lenSl (.tmp 80))⟩,
 ⟨(some 82), .p (.mv (.tmp 8))⟩,
 ⟨(some 83), .p (.lenSl (.tmp 82))⟩,
 ⟨(some 84), .p (.bin .add (.tmp 81) (.tmp 83))⟩,
 ⟨(some 85), .p (.bin .eql (.tmp 84) (.const (.int .i64 (0))))⟩,
 ⟨(some 86), .p (.mv (.tmp 85))⟩])
 (.cut [7, 9, 86] c7z46)) c7z44)
 (.skip))) c7z42
noncomputable def c7z6 : ICode := .seq (.ops none [⟨(some 63), .p (.mv (.tmp 3))⟩,
 ⟨(some 64), .call 35 [(.tmp 63)]⟩,
 ⟨(some 11), .p (.mv (.tmp 64))⟩])
 (.seq (.seq (.seq (.ops none [⟨(some 65), .p (.mv (.tmp 4))⟩,
 ⟨(some 66), .p (.mv (.tmp 11))⟩,
 ⟨(some 67), .call 36 [(.tmp 66), (.const (.int .i64 (1024)))]⟩,
 ⟨(some 68), .call 21 [(.tmp 65), (.tmp 67)]⟩,
 ⟨(some 69), .p (.un .not (.tmp 68))⟩,
 ⟨(some 70), .p (.mv (.tmp 69))⟩])
 (.cut [3, 5, 6, 7, 8, 9, 11, 70] c7z34)) c7z32) c7z31)
noncomputable def c7 : ICode := .seq (.ops none [⟨(some 2), .p (.mv (.const (.bool false)))⟩])
 (.seq (.ops none [⟨(some 14), .p (.mv (.tmp 0))⟩,
 ⟨(some 15), .call 32 [(.tmp 14)]⟩,
 ⟨(some 3), .p (.mv (.tmp 15))⟩])
 (.seq (.ops none [⟨(some 17), .p (.mv (.tmp 3))⟩,
 ⟨(some 18), .call 27 [(.tmp 17)]⟩,
 ⟨(some 16), .p (.mv (.tmp 18))⟩,
 ⟨(some 19), .p (.ext (.tmp 16) 0)⟩,
 ⟨(some 20), .p (.ext (.tmp 16) 1)⟩,
 ⟨(some 4), .p (.mv (.tmp 19))⟩,
 ⟨(some 5), .p (.mv (.tmp 20))⟩])
 (.seq (.ops none [⟨(some 22), .p (.mv (.tmp 3))⟩,
 ⟨(some 23), .call 29 [(.tmp 22)]⟩,
 ⟨(some 21), .p (.mv (.tmp 23))⟩,
 ⟨(some 24), .p (.ext (.tmp 21) 0)⟩,
 ⟨(some 25), .p (.ext (.tmp 21) 1)⟩,
 ⟨(some 6), .p (.mv (.tmp 24))⟩,
 ⟨(some 7), .p (.mv (.tmp 25))⟩])
 (.seq (.ops none [⟨(some 27), .p (.mv (.tmp 3))⟩,
 ⟨(some 28), .call 33 [(.tmp 27)]⟩,
 ⟨(some 26), .p (.mv (.tmp 28))⟩,
 ⟨(some 29), .p (.ext (.tmp 26) 0)⟩,
 ⟨(some 30), .p (.ext (.tmp 26) 1)⟩,
 ⟨(some 8), .p (.mv (.tmp 29))⟩,
 ⟨(some 9), .p (.mv (.tmp 30))⟩])
 (.seq (.seq (.ops none [⟨(some 31), .p (.mv (.tmp 3))⟩,
 ⟨(some 32), .call 34 [(.tmp 31), (.const (.int .i64 (1))), (.const (.int .i64 (1))), (.const (.int .i64 (10)))]⟩,
 ⟨(some 10), .p (.mv (.tmp 32))⟩])
 (.seq (.ops none [⟨(some 33), .p (.mv (.tmp 10))⟩,
 ⟨(some 34), .p (.bin .neq (.tmp 33) (.const (.int .i64 (0))))⟩])
 (.cond (.tmp 34) (.seq (.seq (.ops none [⟨(some 35), .p (.mv (.tmp 4))⟩,
 ⟨(some 36), .p (.bin .eql (.tmp 35) (.const (.string ⟨#[]⟩)))⟩,
 ⟨(some 37), .p (.mv (.tmp 36))⟩])
 (.cut [5, 6, 7, 8, 9, 10, 37] c7z11)) c7z9)
 (.skip)))) c7z6)))))
theorem k7 : compFn Tryz.prog 7 [[], [], [], [], [], [], [], [5, 6, 7, 8, 9, 10, 37], [6, 7, 8, 9, 10, 37, 40], [6, 7, 8, 9, 10, 42], [7, 9, 10, 42, 48], [7, 9, 10, 50], [9, 10, 50, 53], [9, 10, 55], [55, 58], [60], [60, 61], [], [], [], [3, 5, 6, 7, 8, 9, 11, 70], [3, 6, 7, 8, 9, 11, 70, 72], [3, 6, 7, 8, 9, 11, 74], [3, 6, 7, 8, 9, 11, 74, 76], [], [], [], [], [7, 9, 86], [9, 86, 88], [9, 90], [90, 92], [], [], [], [7, 8, 9, 12, 13, 103], [8, 9, 12, 13, 103, 105], [8, 9, 12, 13, 107], [9, 13, 107, 110], [9, 13, 112], [9, 13, 112, 116], [9, 13, 118], [9, 118, 120], [118, 120, 122], [118, 123], []] = some (125, c7, [.tmp 2]) := by kernel_rfl
def K7z0 (_P : Program) (K : VK) : Kont := bodyP [.tmp 2] K
def K7z6 : Kont := thenK (iwpP P c7z6 (K7z0 P K)) (K7z0 P K)
def K7z9 : Kont := thenK (iwpP P c7z9 (K7z6 P K)) (K7z6 P K)
def K7z31 : Kont := thenK (iwpP P c7z31 (K7z0 P K)) (K7z0 P K)
def K7z32 : Kont := thenK (iwpP P c7z32 (K7z31 P K)) (K7z31 P K)
def K7z42 : Kont := thenK (iwpP P c7z42 (K7z0 P K)) (K7z0 P K)
def K7z44 : Kont := thenK (iwpP P c7z44 (K7z42 P K)) (K7z42 P K)
def K7z54 : Kont := thenK (iwpP P c7z54 (K7z0 P K)) (K7z0 P K)
def p7z11 (e5 p6 f7 r8 g9 bad10 x37 : Value) (h : Heap) : Prop := CutP (iwpP P c7z11 (K7z9 P K)) [5, 6, 7, 8, 9, 10, 37] [e5, p6, f7, r8, g9, bad10, x37] h
def p7z13 (p6 f7 r8 g9 bad10 x37 x40 : Value) (h : Heap) : Prop := CutP (iwpP P c7z13 (K7z9 P K)) [6, 7, 8, 9, 10, 37, 40] [p6, f7, r8, g9, bad10, x37, x40] h
def p7z15 (p6 f7 r8 g9 bad10 x42 : Value) (h : Heap) : Prop := CutP (iwpP P c7z15 (K7z9 P K)) [6, 7, 8, 9, 10, 42] [p6, f7, r8, g9, bad10, x42] h
def p7z17 (f7 g9 bad10 x42 x48 : Value) (h : Heap) : Prop := CutP (iwpP P c7z17 (K7z9 P K)) [7, 9, 10, 42, 48] [f7, g9, bad10, x42, x48] h
def p7z19 (f7 g9 bad10 x50 : Value) (h : Heap) : Prop := CutP (iwpP P c7z19 (K7z9 P K)) [7, 9, 10, 50] [f7, g9, bad10, x50] h
def p7z21 (g9 bad10 x50 x53 : Value) (h : Heap) : Prop := CutP (iwpP P c7z21 (K7z9 P K)) [9, 10, 50, 53] [g9, bad10, x50, x53] h
def p7z23 (g9 bad10 x55 : Value) (h : Heap) : Prop := CutP (iwpP P c7z23 (K7z9 P K)) [9, 10, 55] [g9, bad10, x55] h
def p7z25 (x55 x58 : Value) (h : Heap) : Prop := CutP (iwpP P c7z25 (K7z9 P K)) [55, 58] [x55, x58] h
def p7z27 (x60 : Value) (h : Heap) : Prop := CutP (iwpP P c7z27 (K7z9 P K)) [60] [x60] h
def p7z29 (x60 x61 : Value) (h : Heap) : Prop := CutP (iwpP P c7z29 (K7z9 P K)) [60, 61] [x60, x61] h
def p7z34 (l3 e5 p6 f7 r8 g9 sum11 x70 : Value) (h : Heap) : Prop := CutP (iwpP P c7z34 (K7z32 P K)) [3, 5, 6, 7, 8, 9, 11, 70] [l3, e5, p6, f7, r8, g9, sum11, x70] h
def p7z36 (l3 p6 f7 r8 g9 sum11 x70 x72 : Value) (h : Heap) : Prop := CutP (iwpP P c7z36 (K7z32 P K)) [3, 6, 7, 8, 9, 11, 70, 72] [l3, p6, f7, r8, g9, sum11, x70, x72] h
def p7z38 (l3 p6 f7 r8 g9 sum11 x74 : Value) (h : Heap) : Prop := CutP (iwpP P c7z38 (K7z32 P K)) [3, 6, 7, 8, 9, 11, 74] [l3, p6, f7, r8, g9, sum11, x74] h
def p7z40 (l3 p6 f7 r8 g9 sum11 x74 x76 : Value) (h : Heap) : Prop := CutP (iwpP P c7z40 (K7z32 P K)) [3, 6, 7, 8, 9, 11, 74, 76] [l3, p6, f7, r8, g9, sum11, x74, x76] h
def p7z46 (f7 g9 x86 : Value) (h : Heap) : Prop := CutP (iwpP P c7z46 (K7z44 P K)) [7, 9, 86] [f7, g9, x86] h
def p7z48 (g9 x86 x88 : Value) (h : Heap) : Prop := CutP (iwpP P c7z48 (K7z44 P K)) [9, 86, 88] [g9, x86, x88] h
def p7z50 (g9 x90 : Value) (h : Heap) : Prop := CutP (iwpP P c7z50 (K7z44 P K)) [9, 90] [g9, x90] h
def p7z52 (x90 x92 : Value) (h : Heap) : Prop := CutP (iwpP P c7z52 (K7z44 P K)) [90, 92] [x90, x92] h
def p7z56 (f7 r8 g9 want12 ok13 x103 : Value) (h : Heap) : Prop := CutP (iwpP P c7z56 (K7z54 P K)) [7, 8, 9, 12, 13, 103] [f7, r8, g9, want12, ok13, x103] h
def p7z58 (r8 g9 want12 ok13 x103 x105 : Value) (h : Heap) : Prop := CutP (iwpP P c7z58 (K7z54 P K)) [8, 9, 12, 13, 103, 105] [r8, g9, want12, ok13, x103, x105] h
def p7z60 (r8 g9 want12 ok13 x107 : Value) (h : Heap) : Prop := CutP (iwpP P c7z60 (K7z54 P K)) [8, 9, 12, 13, 107] [r8, g9, want12, ok13, x107] h
def p7z62 (g9 ok13 x107 x110 : Value) (h : Heap) : Prop := CutP (iwpP P c7z62 (K7z54 P K)) [9, 13, 107, 110] [g9, ok13, x107, x110] h
def p7z64 (g9 ok13 x112 : Value) (h : Heap) : Prop := CutP (iwpP P c7z64 (K7z54 P K)) [9, 13, 112] [g9, ok13, x112] h
def p7z66 (g9 ok13 x112 x116 : Value) (h : Heap) : Prop := CutP (iwpP P c7z66 (K7z54 P K)) [9, 13, 112, 116] [g9, ok13, x112, x116] h
def p7z68 (g9 ok13 x118 : Value) (h : Heap) : Prop := CutP (iwpP P c7z68 (K7z54 P K)) [9, 13, 118] [g9, ok13, x118] h
def p7z70 (g9 x118 x120 : Value) (h : Heap) : Prop := CutP (iwpP P c7z70 (K7z54 P K)) [9, 118, 120] [g9, x118, x120] h
def p7z72 (x118 x120 x122 : Value) (h : Heap) : Prop := CutP (iwpP P c7z72 (K7z54 P K)) [118, 120, 122] [x118, x120, x122] h
def p7z74 (x118 x123 : Value) (h : Heap) : Prop := CutP (iwpP P c7z74 (K7z54 P K)) [118, 123] [x118, x123] h
theorem q7z29 (x60 x61 : Value) (h : Heap) : p7z29 P K x60 x61 h =
 (OP (iPick x60 x61 (.bool false)) fun x62 =>
 K x62 h) := (CutP_def _ _ _ _).trans (by kernel_rfl)
theorem q7z27 (x60 : Value) (h : Heap) : p7z27 P K x60 h =
 (GdP x60 true
 (CallP P 15 [] h fun x61 h_1 =>
 p7z29 P K x60 x61 h_1)
 (p7z29 P K x60 undef h)) := (CutP_def _ _ _ _).trans (by kernel_rfl)
theorem q7z25 (x55 x58 : Value) (h : Heap) : p7z25 P K x55 x58 h =
 (OP (iPick x55 x58 (.bool false)) fun x59 =>
 p7z27 P K x59 h) := (CutP_def _ _ _ _).trans (by kernel_rfl)
theorem q7z23 (g9 bad10 x55 : Value) (h : Heap) : p7z23 P K g9 bad10 x55 h =
 (GdP x55 true
 (OP (iBin .eql g9 bad10) fun x58 =>
 p7z25 P K x55 x58 h)
 (p7z25 P K x55 undef h)) := (CutP_def _ _ _ _).trans (by kernel_rfl)
theorem q7z21 (g9 bad10 x50 x53 : Value) (h : Heap) : p7z21 P K g9 bad10 x50 x53 h =
 (OP (iPick x50 x53 (.bool false)) fun x54 =>
 p7z23 P K g9 bad10 x54 h) := (CutP_def _ _ _ _).trans (by kernel_rfl)
theorem q7z19 (f7 g9 bad10 x50 : Value) (h : Heap) : p7z19 P K f7 g9 bad10 x50 h =
 (GdP x50 true
 (OP (iBin .eql f7 bad10) fun x53 =>
 p7z21 P K g9 bad10 x50 x53 h)
 (p7z21 P K g9 bad10 x50 undef h)) := (CutP_def _ _ _ _).trans (by kernel_rfl)
theorem q7z17 (f7 g9 bad10 x42 x48 : Value) (h : Heap) : p7z17 P K f7 g9 bad10 x42 x48 h =
 (OP (iPick x42 x48 (.bool false)) fun x49 =>
 p7z19 P K f7 g9 bad10 x49 h) := (CutP_def _ _ _ _).trans (by kernel_rfl)
theorem q7z15 (p6 f7 r8 g9 bad10 x42 : Value) (h : Heap) : p7z15 P K p6 f7 r8 g9 bad10 x42 h =
 (GdP x42 true
 (OP (iLenSl p6) fun x44 =>
 OP (iLenSl r8) fun x46 =>
 OP (iBin .add x44 x46) fun x47 =>
 OP (iBin .eql x47 (.int .i64 (0))) fun x48 =>
 p7z17 P K f7 g9 bad10 x42 x48 h)
 (p7z17 P K f7 g9 bad10 x42 undef h)) := (CutP_def _ _ _ _).trans (by kernel_rfl)
theorem q7z13 (p6 f7 r8 g9 bad10 x37 x40 : Value) (h : Heap) : p7z13 P K p6 f7 r8 g9 bad10 x37 x40 h =
 (OP (iPick x37 x40 (.bool false)) fun x41 =>
 p7z15 P K p6 f7 r8 g9 bad10 x41 h) := (CutP_def _ _ _ _).trans (by kernel_rfl)
theorem q7z11 (e5 p6 f7 r8 g9 bad10 x37 : Value) (h : Heap) : p7z11 P K e5 p6 f7 r8 g9 bad10 x37 h =
 (GdP x37 true
 (OP (iBin .eql e5 bad10) fun x40 =>
 p7z13 P K p6 f7 r8 g9 bad10 x37 x40 h)
 (p7z13 P K p6 f7 r8 g9 bad10 x37 undef h)) := (CutP_def _ _ _ _).trans (by kernel_rfl)
theorem q7z40 (l3 p6 f7 r8 g9 sum11 x74 x76 : Value) (h : Heap) : p7z40 P K l3 p6 f7 r8 g9 sum11 x74 x76 h =
 (OP (iPick x74 (.bool true) x76) fun x77 =>
 IfP x77
 (K (.bool false) h)
 (OP (iBin .gtr sum11 (.int .i64 (1024))) fun x79 =>
 IfP x79
 (OP (iLenSl p6) fun x81 =>
 OP (iLenSl r8) fun x83 =>
 OP (iBin .add x81 x83) fun x84 =>
 OP (iBin .eql x84 (.int .i64 (0))) fun x85 =>
 p7z46 P K f7 g9 x85 h)
 (CallP P 37 [l3] h fun x96 h_1 =>
 OP (iExt 0 x96) fun x97 =>
 OP (iExt 1 x96) fun x98 =>
 CallP P 39 [l3] h_1 fun x101 h_2 =>
 CallP P 38 [p6, x101] h_2 fun x102 h_3 =>
 p7z56 P K f7 r8 g9 x97 x98 x102 h_3))) := (CutP_def _ _ _ _).trans (by kernel_rfl)
theorem q7z38 (l3 p6 f7 r8 g9 sum11 x74 : Value) (h : Heap) : p7z38 P K l3 p6 f7 r8 g9 sum11 x74 h =
 (GdP x74 false
 (CallP P 15 [] h fun x75 h_1 =>
 OP (iUn .not x75) fun x76 =>
 p7z40 P K l3 p6 f7 r8 g9 sum11 x74 x76 h_1)
 (p7z40 P K l3 p6 f7 r8 g9 sum11 x74 undef h)) := (CutP_def _ _ _ _).trans (by kernel_rfl)
theorem q7z36 (l3 p6 f7 r8 g9 sum11 x70 x72 : Value) (h : Heap) : p7z36 P K l3 p6 f7 r8 g9 sum11 x70 x72 h =
 (OP (iPick x70 (.bool true) x72) fun x73 =>
 p7z38 P K l3 p6 f7 r8 g9 sum11 x73 h) := (CutP_def _ _ _ _).trans (by kernel_rfl)
theorem q7z34 (l3 e5 p6 f7 r8 g9 sum11 x70 : Value) (h : Heap) : p7z34 P K l3 e5 p6 f7 r8 g9 sum11 x70 h =
 (GdP x70 false
 (OP (iBin .neq e5 (.int .i64 (0))) fun x72 =>
 p7z36 P K l3 p6 f7 r8 g9 sum11 x70 x72 h)
 (p7z36 P K l3 p6 f7 r8 g9 sum11 x70 undef h)) := (CutP_def _ _ _ _).trans (by kernel_rfl)
theorem q7z52 (x90 x92 : Value) (h : Heap) : p7z52 P K x90 x92 h =
 (OP (iPick x90 x92 (.bool false)) fun x93 =>
 K x93 h) := (CutP_def _ _ _ _).trans (by kernel_rfl)
theorem q7z50 (g9 x90 : Value) (h : Heap) : p7z50 P K g9 x90 h =
 (GdP x90 true
 (OP (iBin .eql g9 (.int .i64 (5))) fun x92 =>
 p7z52 P K x90 x92 h)
 (p7z52 P K x90 undef h)) := (CutP_def _ _ _ _).trans (by kernel_rfl)
theorem q7z48 (g9 x86 x88 : Value) (h : Heap) : p7z48 P K g9 x86 x88 h =
 (OP (iPick x86 x88 (.bool false)) fun x89 =>
 p7z50 P K g9 x89 h) := (CutP_def _ _ _ _).trans (by kernel_rfl)
theorem q7z46 (f7 g9 x86 : Value) (h : Heap) : p7z46 P K f7 g9 x86 h =
 (GdP x86 true
 (OP (iBin .eql f7 (.int .i64 (5))) fun x88 =>
 p7z48 P K g9 x86 x88 h)
 (p7z48 P K g9 x86 undef h)) := (CutP_def _ _ _ _).trans (by kernel_rfl)
theorem q7z74 (x118 x123 : Value) (h : Heap) : p7z74 P K x118 x123 h =
 (OP (iPick x118 x123 (.bool false)) fun x124 =>
 K x124 h) := (CutP_def _ _ _ _).trans (by kernel_rfl)
theorem q7z72 (x118 x120 x122 : Value) (h : Heap) : p7z72 P K x118 x120 x122 h =
 (GdP x118 true
 (OP (iPick x120 (.bool true) x122) fun x123 =>
 p7z74 P K x118 x123 h)
 (p7z74 P K x118 undef h)) := (CutP_def _ _ _ _).trans (by kernel_rfl)
theorem q7z70 (g9 x118 x120 : Value) (h : Heap) : p7z70 P K g9 x118 x120 h =
 (GdP x120 false
 (OP (iBin .eql g9 (.int .i64 (5))) fun x122 =>
 p7z72 P K x118 x120 x122 h)
 (p7z72 P K x118 x120 undef h)) := (CutP_def _ _ _ _).trans (by kernel_rfl)
theorem q7z68 (g9 ok13 x118 : Value) (h : Heap) : p7z68 P K g9 ok13 x118 h =
 (GdP x118 true
 (p7z70 P K g9 x118 ok13 h)
 (p7z70 P K g9 x118 undef h)) := (CutP_def _ _ _ _).trans (by kernel_rfl)
theorem q7z66 (g9 ok13 x112 x116 : Value) (h : Heap) : p7z66 P K g9 ok13 x112 x116 h =
 (OP (iPick x112 x116 (.bool false)) fun x117 =>
 p7z68 P K g9 ok13 x117 h) := (CutP_def _ _ _ _).trans (by kernel_rfl)
theorem q7z64 (g9 ok13 x112 : Value) (h : Heap) : p7z64 P K g9 ok13 x112 h =
 (GdP x112 true
 (OP (iBin .eql g9 (.int .i64 (0))) fun x114 =>
 OP (iEqb false x114 ok13) fun x116 =>
 p7z66 P K g9 ok13 x112 x116 h)
 (p7z66 P K g9 ok13 x112 undef h)) := (CutP_def _ _ _ _).trans (by kernel_rfl)
theorem q7z62 (g9 ok13 x107 x110 : Value) (h : Heap) : p7z62 P K g9 ok13 x107 x110 h =
 (OP (iPick x107 x110 (.bool false)) fun x111 =>
 p7z64 P K g9 ok13 x111 h) := (CutP_def _ _ _ _).trans (by kernel_rfl)
theorem q7z60 (r8 g9 want12 ok13 x107 : Value) (h : Heap) : p7z60 P K r8 g9 want12 ok13 x107 h =
 (GdP x107 true
 (CallP P 38 [r8, want12] h fun x110 h_1 =>
 p7z62 P K g9 ok13 x107 x110 h_1)
 (p7z62 P K g9 ok13 x107 undef h)) := (CutP_def _ _ _ _).trans (by kernel_rfl)
theorem q7z58 (r8 g9 want12 ok13 x103 x105 : Value) (h : Heap) : p7z58 P K r8 g9 want12 ok13 x103 x105 h =
 (OP (iPick x103 x105 (.bool false)) fun x106 =>
 p7z60 P K r8 g9 want12 ok13 x106 h) := (CutP_def _ _ _ _).trans (by kernel_rfl)
theorem q7z56 (f7 r8 g9 want12 ok13 x103 : Value) (h : Heap) : p7z56 P K f7 r8 g9 want12 ok13 x103 h =
 (GdP x103 true
 (OP (iBin .eql f7 (.int .i64 (0))) fun x105 =>
 p7z58 P K r8 g9 want12 ok13 x103 x105 h)
 (p7z58 P K r8 g9 want12 ok13 x103 undef h)) := (CutP_def _ _ _ _).trans (by kernel_rfl)
def T7 (x0 : Value) (h : Heap) : Prop :=
 CallP P 32 [x0] h fun x15 h_1 =>
 CallP P 27 [x15] h_1 fun x18 h_2 =>
 OP (iExt 0 x18) fun x19 =>
 OP (iExt 1 x18) fun x20 =>
 CallP P 29 [x15] h_2 fun x23 h_3 =>
 OP (iExt 0 x23) fun x24 =>
 OP (iExt 1 x23) fun x25 =>
 CallP P 33 [x15] h_3 fun x28 h_4 =>
 OP (iExt 0 x28) fun x29 =>
 OP (iExt 1 x28) fun x30 =>
 CallP P 34 [x15, (.int .i64 (1)), (.int .i64 (1)), (.int .i64 (10))] h_4 fun x32 h_5 =>
 OP (iBin .neq x32 (.int .i64 (0))) fun x34 =>
 IfP x34
 (OP (iBin .eql x19 (.string ⟨#[]⟩)) fun x36 =>
 p7z11 P K x20 x24 x25 x29 x30 x32 x36 h_5)
 (CallP P 35 [x15] h_5 fun x64 h_6 =>
 CallP P 36 [x64, (.int .i64 (1024))] h_6 fun x67 h_7 =>
 CallP P 21 [x19, x67] h_7 fun x68 h_8 =>
 OP (iUn .not x68) fun x69 =>
 p7z34 P K x15 x20 x24 x25 x29 x30 x64 x69 h_8)
theorem e7 (x0 : Value) (h : Heap) : iwpP P c7 (bodyP [.tmp 2] K) (frame0 [x0]) h = T7 P K x0 h := by kernel_rfl
theorem f7 {K : VK} {x0 : Value} {h : Heap} (H : T7 Tryz.prog K x0 h) : CallP Tryz.prog 7 [x0] h K :=
 callP_intro k7 (Nat.le_of_ble_eq_true rfl) ((e7 Tryz.prog K x0 h).mpr H)
/-! F27: pommel/mark.Kraft -/
noncomputable def c27z10 : ICode := .seq (.ops none [⟨(some 16), .p (.bin .lss (.tmp 15) (.tmp 14))⟩])
 (.seq (.cond (.tmp 16) (.skip)
 (.exit 0))
 (.seq (.block 1 (.seq (.ops none [⟨(some 17), .p (.adrSl 1 (.tmp 13) (.tmp 15))⟩,
 ⟨(some 18), .l (.load false 1 (.tmp 17))⟩,
 ⟨(some 7), .p (.mv (.tmp 18))⟩])
 (.ops none [⟨(some 19), .p (.mv (.tmp 5))⟩,
 ⟨(some 20), .p (.mv (.tmp 7))⟩,
 ⟨(some 21), .call 66 [(.tmp 20)]⟩,
 ⟨(some 22), .p (.bin .add (.tmp 19) (.tmp 21))⟩,
 ⟨(some 5), .p (.mv (.tmp 22))⟩])))
 (.ops none [⟨(some 23), .p (.bin .add (.tmp 15) (.const (.int .i64 (1))))⟩,
 ⟨(some 15), .p (.mv (.tmp 23))⟩])))
noncomputable def c27z16 : ICode := .seq (.ops none [⟨(some 24), .p (.mv (.tmp 5))⟩,
 ⟨(some 25), .call 67 [(.tmp 24)]⟩,
 ⟨(some 26), .call 67 [(.const (.int .i64 (1024)))]⟩,
 ⟨(some 27), .call 68 [(.tmp 25), (.tmp 26)]⟩,
 ⟨(some 28), .call 50 [(.tmp 27)]⟩,
 ⟨(some 29), .p (.ext (.tmp 28) 0)⟩,
 ⟨(some 30), .p (.ext (.tmp 28) 1)⟩,
 ⟨(some 2), .p (.mv (.tmp 29))⟩,
 ⟨(some 3), .p (.mv (.tmp 30))⟩])
 (.ret)
noncomputable def c27z7 : ICode := .cut [5] c27z16
noncomputable def c27 : ICode := .seq (.ops none [⟨(some 2), .p (.mv (.const (.string ⟨#[]⟩)))⟩,
 ⟨(some 3), .p (.mv (.const (.int .i64 (0))))⟩])
 (.seq (.seq (.ops none [⟨(some 8), .p (.mv (.tmp 0))⟩,
 ⟨(some 9), .call 65 [(.tmp 8)]⟩,
 ⟨(some 4), .p (.mv (.tmp 9))⟩])
 (.seq (.ops none [⟨(some 10), .p (.mv (.tmp 4))⟩,
 ⟨(some 11), .p (.bin .neq (.tmp 10) (.const (.int .i64 (0))))⟩])
 (.cond (.tmp 11) (.seq (.ops none [⟨(some 12), .p (.mv (.tmp 4))⟩,
 ⟨(some 2), .p (.mv (.const (.string ⟨#[]⟩)))⟩,
 ⟨(some 3), .p (.mv (.tmp 12))⟩])
 (.ret))
 (.skip))))
 (.seq (.ops none [⟨(some 5), .p (.mv (.const (.int .i64 (0))))⟩])
 (.seq (.seq (.ops none [⟨(some 13), .p (.mv (.tmp 0))⟩,
 ⟨(some 14), .p (.lenSl (.tmp 13))⟩,
 ⟨(some 15), .p (.mv (.const (.int .i64 (0))))⟩])
 (.block 0 (.loop [13, 14] [5, 15] c27z10))) c27z7)))
theorem k27 : compFn Tryz.prog 27 [[], [], [], [], [], [], [], [13, 14], [5, 15], [], [], [], [], [5], []] = some (31, c27, [.tmp 2, .tmp 3]) := by kernel_rfl
def K27z0 (_P : Program) (K : VK) : Kont := bodyP [.tmp 2, .tmp 3] K
def K27z7 : Kont := thenK (iwpP P c27z7 (K27z0 P K)) (K27z0 P K)
def K27z9 : Kont := inBlockK 0 (K27z7 P K)
def K27z10 (x13 x14 : Value) (L1 : LK) : Kont := thenK (fun f' h'' => (([13, 14] : List Nat).map f' : List Value) = [x13, x14] ∧ L1 (([5, 15] : List Nat).map f') h'') (K27z9 P K)
def p27z10 (x13 x14 : Value) (L1 : LK) (xs : List Value) (h : Heap) : Prop := CutP (iwpP P c27z10 (K27z10 P K x13 x14 L1)) ([13, 14] ++ [5, 15]) ([x13, x14] ++ xs) h
def p27z16 (sum5 : Value) (h : Heap) : Prop := CutP (iwpP P c27z16 (K27z0 P K)) [5] [sum5] h
theorem q27z10 (x13 x14 : Value) (L1 : LK) (sum5 x15 : Value) (h : Heap) : p27z10 P K x13 x14 L1 [sum5, x15] h =
 (OP (iBin .lss x15 x14) fun x16 =>
 IfP x16
 (OP (iAdrSl 1 x13 x15) fun x17 =>
 OP (iLoad false 1 h x17) fun x18 =>
 CallP P 66 [x18] h fun x21 h_1 =>
 OP (iBin .add sum5 x21) fun x22 =>
 OP (iBin .add x15 (.int .i64 (1))) fun x23 =>
 ([x13, x14] : List Value) = [x13, x14] ∧ L1 [x22, x23] h_1)
 (p27z16 P K sum5 h)) := (CutP_def _ _ _ _).trans (by kernel_rfl)
theorem q27z16 (sum5 : Value) (h : Heap) : p27z16 P K sum5 h =
 (CallP P 67 [sum5] h fun x25 h_1 =>
 CallP P 67 [(.int .i64 (1024))] h_1 fun x26 h_2 =>
 CallP P 68 [x25, x26] h_2 fun x27 h_3 =>
 CallP P 50 [x27] h_3 fun x28 h_4 =>
 OP (iExt 0 x28) fun x29 =>
 OP (iExt 1 x28) fun x30 =>
 K (.tuple #[x29, x30]) h_4) := (CutP_def _ _ _ _).trans (by kernel_rfl)
def T27 (lengths0 : Value) (h : Heap) : Prop :=
 CallP P 65 [lengths0] h fun x9 h_1 =>
 OP (iBin .neq x9 (.int .i64 (0))) fun x11 =>
 IfP x11
 (K (.tuple #[(.string ⟨#[]⟩), x9]) h_1)
 (OP (iLenSl lengths0) fun x14 =>
 LoopP [(.int .i64 (0)), (.int .i64 (0))] h_1 fun L1 xs hx =>
 p27z10 P K lengths0 x14 L1 xs hx)
theorem e27 (lengths0 : Value) (h : Heap) : iwpP P c27 (bodyP [.tmp 2, .tmp 3] K) (frame0 [lengths0]) h = T27 P K lengths0 h := by kernel_rfl
theorem f27 {K : VK} {lengths0 : Value} {h : Heap} (H : T27 Tryz.prog K lengths0 h) : CallP Tryz.prog 27 [lengths0] h K :=
 callP_intro k27 (Nat.le_of_ble_eq_true rfl) ((e27 Tryz.prog K lengths0 h).mpr H)
/-! F35: pommel/pommelref08.Kraft -/
noncomputable def c35z6 : ICode := .seq (.seq (.ops none [⟨(some 5), .p (.mv (.tmp 4))⟩,
 ⟨(some 6), .p (.mv (.tmp 0))⟩,
 ⟨(some 7), .p (.lenSl (.tmp 6))⟩,
 ⟨(some 8), .p (.bin .lss (.tmp 5) (.tmp 7))⟩])
 (.cond (.tmp 8) (.skip)
 (.exit 0)))
 (.seq (.block 1 (.ops none [⟨(some 11), .p (.mv (.tmp 3))⟩,
 ⟨(some 12), .p (.mv (.tmp 0))⟩,
 ⟨(some 13), .p (.mv (.tmp 4))⟩,
 ⟨(some 14), .p (.adrSl 1 (.tmp 12) (.tmp 13))⟩,
 ⟨(some 15), .l (.load false 1 (.tmp 14))⟩,
 ⟨(some 16), .call 72 [(.tmp 15)]⟩,
 ⟨(some 17), .p (.bin .add (.tmp 11) (.tmp 16))⟩,
 ⟨(some 3), .p (.mv (.tmp 17))⟩]))
 (.ops none [⟨(some 9), .p (.mv (.tmp 4))⟩,
 ⟨(some 10), .p (.bin .add (.tmp 9) (.const (.int .i64 (1))))⟩,
 ⟨(some 4), .p (.mv (.tmp 10))⟩]))
noncomputable def c35z11 : ICode := .seq (.ops none [⟨(some 18), .p (.mv (.tmp 3))⟩,
 ⟨(some 2), .p (.mv (.tmp 18))⟩])
 (.ret)
noncomputable def c35z3 : ICode := .cut [3] c35z11
noncomputable def c35 : ICode := .seq (.ops none [⟨(some 2), .p (.mv (.const (.int .i64 (0))))⟩])
 (.seq (.ops none [⟨(some 3), .p (.mv (.const (.int .i64 (0))))⟩])
 (.seq (.seq (.ops none [⟨(some 4), .p (.mv (.const (.int .i64 (0))))⟩])
 (.block 0 (.loop [0] [3, 4] c35z6))) c35z3))
theorem k35 : compFn Tryz.prog 35 [[], [], [], [0], [3, 4], [], [], [], [3], []] = some (19, c35, [.tmp 2]) := by kernel_rfl
def K35z0 (_P : Program) (K : VK) : Kont := bodyP [.tmp 2] K
def K35z3 : Kont := thenK (iwpP P c35z3 (K35z0 P K)) (K35z0 P K)
def K35z5 : Kont := inBlockK 0 (K35z3 P K)
def K35z6 (l0 : Value) (L1 : LK) : Kont := thenK (fun f' h'' => (([0] : List Nat).map f' : List Value) = [l0] ∧ L1 (([3, 4] : List Nat).map f') h'') (K35z5 P K)
def p35z6 (l0 : Value) (L1 : LK) (xs : List Value) (h : Heap) : Prop := CutP (iwpP P c35z6 (K35z6 P K l0 L1)) ([0] ++ [3, 4]) ([l0] ++ xs) h
def p35z11 (sum3 : Value) (h : Heap) : Prop := CutP (iwpP P c35z11 (K35z0 P K)) [3] [sum3] h
theorem q35z6 (l0 : Value) (L1 : LK) (sum3 i4 : Value) (h : Heap) : p35z6 P K l0 L1 [sum3, i4] h =
 (OP (iLenSl l0) fun x7 =>
 OP (iBin .lss i4 x7) fun x8 =>
 IfP x8
 (OP (iAdrSl 1 l0 i4) fun x14 =>
 OP (iLoad false 1 h x14) fun x15 =>
 CallP P 72 [x15] h fun x16 h_1 =>
 OP (iBin .add sum3 x16) fun x17 =>
 OP (iBin .add i4 (.int .i64 (1))) fun x10 =>
 ([l0] : List Value) = [l0] ∧ L1 [x17, x10] h_1)
 (p35z11 P K sum3 h)) := (CutP_def _ _ _ _).trans (by kernel_rfl)
theorem q35z11 (sum3 : Value) (h : Heap) : p35z11 P K sum3 h =
 (K sum3 h) := (CutP_def _ _ _ _).trans (by kernel_rfl)
def T35 (l0 : Value) (h : Heap) : Prop :=
 LoopP [(.int .i64 (0)), (.int .i64 (0))] h fun L1 xs hx =>
 p35z6 P K l0 L1 xs hx
theorem e35 (l0 : Value) (h : Heap) : iwpP P c35 (bodyP [.tmp 2] K) (frame0 [l0]) h = T35 P K l0 h := by kernel_rfl
theorem f35 {K : VK} {l0 : Value} {h : Heap} (H : T35 Tryz.prog K l0 h) : CallP Tryz.prog 35 [l0] h K :=
 callP_intro k35 (Nat.le_of_ble_eq_true rfl) ((e35 Tryz.prog K l0 h).mpr H)
/-! F37: pommel/pommelref08.Rising -/
noncomputable def c37z6 : ICode := .seq (.seq (.ops none [⟨(some 8), .p (.mv (.tmp 6))⟩,
 ⟨(some 9), .p (.mv (.tmp 0))⟩,
 ⟨(some 10), .p (.lenSl (.tmp 9))⟩,
 ⟨(some 11), .p (.bin .lss (.tmp 8) (.tmp 10))⟩])
 (.cond (.tmp 11) (.skip)
 (.exit 0)))
 (.seq (.block 1 (.seq (.ops none [⟨(some 14), .p (.mv (.tmp 5))⟩,
 ⟨(some 15), .p (.mv (.tmp 0))⟩,
 ⟨(some 16), .p (.mv (.tmp 6))⟩,
 ⟨(some 17), .p (.adrSl 1 (.tmp 15) (.tmp 16))⟩,
 ⟨(some 18), .l (.load false 1 (.tmp 17))⟩,
 ⟨(some 19), .call 75 [(.tmp 14), (.tmp 18)]⟩,
 ⟨(some 5), .p (.mv (.tmp 19))⟩])
 (.seq (.seq (.ops none [⟨(some 20), .p (.mv (.tmp 5))⟩,
 ⟨(some 21), .p (.bin .geq (.tmp 20) (.const (.int .i64 (1024))))⟩])
 (.cond (.tmp 21) (.seq (.ops none [⟨(some 2), .p (.mv (.const (.slice none 0 0)))⟩,
 ⟨(some 3), .p (.mv (.const (.bool false)))⟩])
 (.ret))
 (.skip)))
 (.seq (.ops none [⟨(some 22), .p (.mv (.tmp 4))⟩,
 ⟨(some 23), .p (.mv (.tmp 5))⟩,
 ⟨(some 24), .p (.mv (.tmp 0))⟩,
 ⟨(some 25), .p (.mv (.tmp 6))⟩,
 ⟨(some 26), .p (.adrSl 1 (.tmp 24) (.tmp 25))⟩,
 ⟨(some 27), .l (.load false 1 (.tmp 26))⟩,
 ⟨(some 28), .call 76 [(.tmp 23), (.tmp 27)]⟩,
 ⟨(some 29), .e (.mkSl 9 1 [(.string ⟨#[]⟩)] [(0, 1, (.tmp 28))])⟩,
 ⟨(some 30), .e (.app 9 1 16 (.tmp 22) (.tmp 29))⟩,
 ⟨(some 4), .p (.mv (.tmp 30))⟩])
 (.ops none [⟨(some 31), .p (.mv (.tmp 5))⟩,
 ⟨(some 32), .p (.mv (.tmp 0))⟩,
 ⟨(some 33), .p (.mv (.tmp 6))⟩,
 ⟨(some 34), .p (.adrSl 1 (.tmp 32) (.tmp 33))⟩,
 ⟨(some 35), .l (.load false 1 (.tmp 34))⟩,
 ⟨(some 36), .call 72 [(.tmp 35)]⟩,
 ⟨(some 37), .p (.bin .add (.tmp 31) (.tmp 36))⟩,
 ⟨(some 5), .p (.mv (.tmp 37))⟩])))))
 (.ops none [⟨(some 12), .p (.mv (.tmp 6))⟩,
 ⟨(some 13), .p (.bin .add (.tmp 12) (.const (.int .i64 (1))))⟩,
 ⟨(some 6), .p (.mv (.tmp 13))⟩]))
noncomputable def c37z16 : ICode := .seq (.ops none [⟨(some 38), .p (.mv (.tmp 4))⟩,
 ⟨(some 2), .p (.mv (.tmp 38))⟩,
 ⟨(some 3), .p (.mv (.const (.bool true)))⟩])
 (.ret)
noncomputable def c37z3 : ICode := .cut [4] c37z16
noncomputable def c37 : ICode := .seq (.ops none [⟨(some 2), .p (.mv (.const (.slice none 0 0)))⟩,
 ⟨(some 3), .p (.mv (.const (.bool false)))⟩])
 (.seq (.ops none [⟨(some 7), .e (.mkSl 9 0 [(.string ⟨#[]⟩)] [])⟩,
 ⟨(some 4), .p (.mv (.tmp 7))⟩,
 ⟨(some 5), .p (.mv (.const (.int .i64 (0))))⟩])
 (.seq (.seq (.ops none [⟨(some 6), .p (.mv (.const (.int .i64 (0))))⟩])
 (.block 0 (.loop [0] [4, 5, 6] c37z6))) c37z3))
theorem k37 : compFn Tryz.prog 37 [[], [], [], [0], [4, 5, 6], [], [], [], [], [], [], [], [], [4], []] = some (39, c37, [.tmp 2, .tmp 3]) := by kernel_rfl
def K37z0 (_P : Program) (K : VK) : Kont := bodyP [.tmp 2, .tmp 3] K
def K37z3 : Kont := thenK (iwpP P c37z3 (K37z0 P K)) (K37z0 P K)
def K37z5 : Kont := inBlockK 0 (K37z3 P K)
def K37z6 (l0 : Value) (L1 : LK) : Kont := thenK (fun f' h'' => (([0] : List Nat).map f' : List Value) = [l0] ∧ L1 (([4, 5, 6] : List Nat).map f') h'') (K37z5 P K)
def p37z6 (l0 : Value) (L1 : LK) (xs : List Value) (h : Heap) : Prop := CutP (iwpP P c37z6 (K37z6 P K l0 L1)) ([0] ++ [4, 5, 6]) ([l0] ++ xs) h
def p37z16 (out4 : Value) (h : Heap) : Prop := CutP (iwpP P c37z16 (K37z0 P K)) [4] [out4] h
theorem q37z6 (l0 : Value) (L1 : LK) (out4 at5 i6 : Value) (h : Heap) : p37z6 P K l0 L1 [out4, at5, i6] h =
 (OP (iLenSl l0) fun x10 =>
 OP (iBin .lss i6 x10) fun x11 =>
 IfP x11
 (OP (iAdrSl 1 l0 i6) fun x17 =>
 OP (iLoad false 1 h x17) fun x18 =>
 CallP P 75 [at5, x18] h fun x19 h_1 =>
 OP (iBin .geq x19 (.int .i64 (1024))) fun x21 =>
 IfP x21
 (K (.tuple #[(.slice none 0 0), (.bool false)]) h_1)
 (OP (iAdrSl 1 l0 i6) fun x26 =>
 OP (iLoad false 1 h_1 x26) fun x27 =>
 CallP P 76 [x19, x27] h_1 fun x28 h_2 =>
 OH (iMkSl 9 1 [(.string ⟨#[]⟩)] h_2 [(0, 1, x28)]) fun x29 h_3 =>
 OH (iApp 9 1 16 h_3 out4 x29) fun x30 h_4 =>
 OP (iAdrSl 1 l0 i6) fun x34 =>
 OP (iLoad false 1 h_4 x34) fun x35 =>
 CallP P 72 [x35] h_4 fun x36 h_5 =>
 OP (iBin .add x19 x36) fun x37 =>
 OP (iBin .add i6 (.int .i64 (1))) fun x13 =>
 ([l0] : List Value) = [l0] ∧ L1 [x30, x37, x13] h_5))
 (p37z16 P K out4 h)) := (CutP_def _ _ _ _).trans (by kernel_rfl)
theorem q37z16 (out4 : Value) (h : Heap) : p37z16 P K out4 h =
 (K (.tuple #[out4, (.bool true)]) h) := (CutP_def _ _ _ _).trans (by kernel_rfl)
def T37 (l0 : Value) (h : Heap) : Prop :=
 OH (iMkSl 9 0 [(.string ⟨#[]⟩)] h []) fun x7 h_1 =>
 LoopP [x7, (.int .i64 (0)), (.int .i64 (0))] h_1 fun L1 xs hx =>
 p37z6 P K l0 L1 xs hx
theorem e37 (l0 : Value) (h : Heap) : iwpP P c37 (bodyP [.tmp 2, .tmp 3] K) (frame0 [l0]) h = T37 P K l0 h := by kernel_rfl
theorem f37 {K : VK} {l0 : Value} {h : Heap} (H : T37 Tryz.prog K l0 h) : CallP Tryz.prog 37 [l0] h K :=
 callP_intro k37 (Nat.le_of_ble_eq_true rfl) ((e37 Tryz.prog K l0 h).mpr H)
/-! F38: pommel/pommelref08.Same -/
noncomputable def c38z8 : ICode := .seq (.seq (.ops none [⟨(some 11), .p (.mv (.tmp 5))⟩,
 ⟨(some 12), .p (.mv (.tmp 0))⟩,
 ⟨(some 13), .p (.lenSl (.tmp 12))⟩,
 ⟨(some 14), .p (.bin .lss (.tmp 11) (.tmp 13))⟩])
 (.cond (.tmp 14) (.skip)
 (.exit 0)))
 (.seq (.block 1 (.seq (.dops [(none, [⟨(some 17), .p (.mv (.tmp 0)), 0⟩,
 ⟨(some 18), .p (.mv (.tmp 5)), 0⟩,
 ⟨(some 19), .p (.adrSl 1 (.tmp 17) (.tmp 18)), 3⟩,
 ⟨(some 20), .l (.load false 1 (.tmp 19)), 7⟩,
 ⟨(some 21), .p (.mv (.tmp 1)), 0⟩,
 ⟨(some 22), .p (.mv (.tmp 5)), 0⟩,
 ⟨(some 23), .p (.adrSl 1 (.tmp 21) (.tmp 22)), 48⟩,
 ⟨(some 24), .l (.load false 1 (.tmp 23)), 112⟩,
 ⟨(some 25), .p (.bin .neq (.tmp 20) (.tmp 24)), 255⟩])])
 (.cond (.tmp 25) (.seq (.ops none [⟨(some 4), .p (.mv (.const (.bool false)))⟩])
 (.ret))
 (.skip))))
 (.ops none [⟨(some 15), .p (.mv (.tmp 5))⟩,
 ⟨(some 16), .p (.bin .add (.tmp 15) (.const (.int .i64 (1))))⟩,
 ⟨(some 5), .p (.mv (.tmp 16))⟩]))
noncomputable def c38z5 : ICode := .seq (.ops none [⟨(some 4), .p (.mv (.const (.bool true)))⟩])
 (.ret)
noncomputable def c38 : ICode := .seq (.ops none [⟨(some 4), .p (.mv (.const (.bool false)))⟩])
 (.seq (.seq (.ops none [⟨(some 6), .p (.mv (.tmp 0))⟩,
 ⟨(some 7), .p (.lenSl (.tmp 6))⟩,
 ⟨(some 8), .p (.mv (.tmp 1))⟩,
 ⟨(some 9), .p (.lenSl (.tmp 8))⟩,
 ⟨(some 10), .p (.bin .neq (.tmp 7) (.tmp 9))⟩])
 (.cond (.tmp 10) (.seq (.ops none [⟨(some 4), .p (.mv (.const (.bool false)))⟩])
 (.ret))
 (.skip)))
 (.seq (.seq (.ops none [⟨(some 5), .p (.mv (.const (.int .i64 (0))))⟩])
 (.block 0 (.loop [0, 1] [5] c38z8))) c38z5))
theorem k38 : compFn Tryz.prog 38 [[], [], [], [], [], [0, 1], [5], [], [], [], [], [], [], []] = some (26, c38, [.tmp 4]) := by kernel_rfl
def K38z0 (_P : Program) (K : VK) : Kont := bodyP [.tmp 4] K
def K38z5 : Kont := thenK (iwpP P c38z5 (K38z0 P K)) (K38z0 P K)
def K38z7 : Kont := inBlockK 0 (K38z5 P K)
def K38z8 (a0 c1 : Value) (L1 : LK) : Kont := thenK (fun f' h'' => (([0, 1] : List Nat).map f' : List Value) = [a0, c1] ∧ L1 (([5] : List Nat).map f') h'') (K38z7 P K)
def p38z8 (a0 c1 : Value) (L1 : LK) (xs : List Value) (h : Heap) : Prop := CutP (iwpP P c38z8 (K38z8 P K a0 c1 L1)) ([0, 1] ++ [5]) ([a0, c1] ++ xs) h
theorem q38z8 (a0 c1 : Value) (L1 : LK) (i5 : Value) (h : Heap) : p38z8 P K a0 c1 L1 [i5] h =
 (OP (iLenSl a0) fun x13 =>
 OP (iBin .lss i5 x13) fun x14 =>
 IfP x14
 (OP (iAdrSl 1 a0 i5) fun x19 =>
 OP (iLoad false 1 h x19) fun x20 =>
 (True) ∧
 OP (iAdrSl 1 c1 i5) fun x23 =>
 OP (iLoad false 1 h x23) fun x24 =>
 (True) ∧
 OP (iBin .neq x20 x24) fun x25 =>
 IfP x25
 (K (.bool false) h)
 (OP (iBin .add i5 (.int .i64 (1))) fun x16 =>
 ([a0, c1] : List Value) = [a0, c1] ∧ L1 [x16] h))
 (K (.bool true) h)) := (CutP_def _ _ _ _).trans (by kernel_rfl)
def T38 (a0 c1 : Value) (h : Heap) : Prop :=
 OP (iLenSl a0) fun x7 =>
 OP (iLenSl c1) fun x9 =>
 OP (iBin .neq x7 x9) fun x10 =>
 IfP x10
 (K (.bool false) h)
 (LoopP [(.int .i64 (0))] h fun L1 xs hx =>
 p38z8 P K a0 c1 L1 xs hx)
theorem e38 (a0 c1 : Value) (h : Heap) : iwpP P c38 (bodyP [.tmp 4] K) (frame0 [a0, c1]) h = T38 P K a0 c1 h := by kernel_rfl
theorem f38 {K : VK} {a0 c1 : Value} {h : Heap} (H : T38 Tryz.prog K a0 c1 h) : CallP Tryz.prog 38 [a0, c1] h K :=
 callP_intro k38 (Nat.le_of_ble_eq_true rfl) ((e38 Tryz.prog K a0 c1 h).mpr H)
/-! F39: pommel/pommelref08.Plain -/
noncomputable def c39z20 : ICode := .ops none [⟨(some 18), .p (.mv (.tmp 6))⟩,
 ⟨(some 19), .p (.bin .add (.tmp 18) (.const (.int .i64 (1))))⟩,
 ⟨(some 6), .p (.mv (.tmp 19))⟩]
noncomputable def c39z13 : ICode := .seq (.seq (.ops none [⟨(some 14), .p (.mv (.tmp 6))⟩,
 ⟨(some 15), .p (.mv (.tmp 0))⟩,
 ⟨(some 16), .p (.lenSl (.tmp 15))⟩,
 ⟨(some 17), .p (.bin .lss (.tmp 14) (.tmp 16))⟩])
 (.cond (.tmp 17) (.skip)
 (.exit 2)))
 (.seq (.block 3 (.seq (.ops none [⟨(some 20), .p (.mv (.tmp 0))⟩,
 ⟨(some 21), .p (.mv (.tmp 6))⟩,
 ⟨(some 22), .p (.adrSl 1 (.tmp 20) (.tmp 21))⟩,
 ⟨(some 23), .l (.load false 1 (.tmp 22))⟩,
 ⟨(some 24), .p (.mv (.tmp 5))⟩,
 ⟨(some 25), .p (.bin .eql (.tmp 23) (.tmp 24))⟩])
 (.cond (.tmp 25) (.seq (.ops none [⟨(some 26), .p (.mv (.tmp 3))⟩,
 ⟨(some 27), .p (.mv (.tmp 6))⟩,
 ⟨(some 28), .p (.mv (.tmp 4))⟩,
 ⟨(some 29), .p (.mv (.tmp 5))⟩,
 ⟨(some 30), .call 76 [(.tmp 28), (.tmp 29)]⟩,
 ⟨(some 31), .p (.adrSl 1 (.tmp 26) (.tmp 27))⟩,
 ⟨none, .e (.store 1 (.tmp 31) (.tmp 30))⟩])
 (.ops none [⟨(some 32), .p (.mv (.tmp 4))⟩,
 ⟨(some 33), .p (.mv (.tmp 5))⟩,
 ⟨(some 34), .call 72 [(.tmp 33)]⟩,
 ⟨(some 35), .p (.bin .add (.tmp 32) (.tmp 34))⟩,
 ⟨(some 4), .p (.mv (.tmp 35))⟩]))
 (.skip))))
 (.cut [0, 3, 4, 5, 6] c39z20))
noncomputable def c39z21 : ICode := .ops none [⟨(some 12), .p (.mv (.tmp 5))⟩,
 ⟨(some 13), .p (.bin .add (.tmp 12) (.const (.int .i64 (1))))⟩,
 ⟨(some 5), .p (.mv (.tmp 13))⟩]
noncomputable def c39z9 : ICode := .cut [0, 3, 4, 5] c39z21
noncomputable def c39z6 : ICode := .seq (.seq (.ops none [⟨(some 10), .p (.mv (.tmp 5))⟩,
 ⟨(some 11), .p (.bin .leq (.tmp 10) (.const (.int .i64 (10))))⟩])
 (.cond (.tmp 11) (.skip)
 (.exit 0)))
 (.seq (.block 1 (.seq (.ops none [⟨(some 6), .p (.mv (.const (.int .i64 (0))))⟩])
 (.block 2 (.loop [0, 3, 5] [4, 6] c39z13)))) c39z9)
noncomputable def c39z22 : ICode := .seq (.ops none [⟨(some 36), .p (.mv (.tmp 3))⟩,
 ⟨(some 2), .p (.mv (.tmp 36))⟩])
 (.ret)
noncomputable def c39z3 : ICode := .cut [3] c39z22
noncomputable def c39 : ICode := .seq (.ops none [⟨(some 2), .p (.mv (.const (.slice none 0 0)))⟩])
 (.seq (.ops none [⟨(some 7), .p (.mv (.tmp 0))⟩,
 ⟨(some 8), .p (.lenSl (.tmp 7))⟩,
 ⟨(some 9), .e (.make 9 16 [(.string ⟨#[]⟩)] (.tmp 8) (.tmp 8))⟩,
 ⟨(some 3), .p (.mv (.tmp 9))⟩,
 ⟨(some 4), .p (.mv (.const (.int .i64 (0))))⟩])
 (.seq (.seq (.ops none [⟨(some 5), .p (.mv (.const (.int .i64 (1))))⟩])
 (.block 0 (.loop [0, 3] [4, 5] c39z6))) c39z3))
theorem k39 : compFn Tryz.prog 39 [[], [], [], [0, 3], [4, 5], [], [], [], [0, 3, 5], [4, 6], [], [], [], [], [0, 3, 4, 5, 6], [0, 3, 4, 5], [3], []] = some (37, c39, [.tmp 2]) := by kernel_rfl
def K39z0 (_P : Program) (K : VK) : Kont := bodyP [.tmp 2] K
def K39z3 : Kont := thenK (iwpP P c39z3 (K39z0 P K)) (K39z0 P K)
def K39z5 : Kont := inBlockK 0 (K39z3 P K)
def K39z6 (l0 out3 : Value) (L1 : LK) : Kont := thenK (fun f' h'' => (([0, 3] : List Nat).map f' : List Value) = [l0, out3] ∧ L1 (([4, 5] : List Nat).map f') h'') (K39z5 P K)
def K39z9 (l0 out3 : Value) (L1 : LK) : Kont := thenK (iwpP P c39z9 (K39z6 P K l0 out3 L1)) (K39z6 P K l0 out3 L1)
def K39z10 (l0 out3 : Value) (L1 : LK) : Kont := inBlockK 1 (K39z9 P K l0 out3 L1)
def K39z12 (l0 out3 : Value) (L1 : LK) : Kont := inBlockK 2 (K39z10 P K l0 out3 L1)
def K39z13 (l0 out3 n5 : Value) (L1 L2 : LK) : Kont := thenK (fun f' h'' => (([0, 3, 5] : List Nat).map f' : List Value) = [l0, out3, n5] ∧ L2 (([4, 6] : List Nat).map f') h'') (K39z12 P K l0 out3 L1)
def p39z6 (l0 out3 : Value) (L1 : LK) (xs : List Value) (h : Heap) : Prop := CutP (iwpP P c39z6 (K39z6 P K l0 out3 L1)) ([0, 3] ++ [4, 5]) ([l0, out3] ++ xs) h
def p39z13 (l0 out3 n5 : Value) (L1 L2 : LK) (xs : List Value) (h : Heap) : Prop := CutP (iwpP P c39z13 (K39z13 P K l0 out3 n5 L1 L2)) ([0, 3, 5] ++ [4, 6]) ([l0, out3, n5] ++ xs) h
def p39z20 (l0 out3 at4 n5 i6 : Value) (L1 L2 : LK) (h : Heap) : Prop := CutP (iwpP P c39z20 (K39z13 P K l0 out3 n5 L1 L2)) [0, 3, 4, 5, 6] [l0, out3, at4, n5, i6] h
def p39z21 (l0 out3 at4 n5 : Value) (L1 : LK) (h : Heap) : Prop := CutP (iwpP P c39z21 (K39z6 P K l0 out3 L1)) [0, 3, 4, 5] [l0, out3, at4, n5] h
def p39z22 (out3 : Value) (h : Heap) : Prop := CutP (iwpP P c39z22 (K39z0 P K)) [3] [out3] h
theorem q39z20 (l0 out3 at4 n5 i6 : Value) (L1 L2 : LK) (h : Heap) : p39z20 P K l0 out3 at4 n5 i6 L1 L2 h =
 (OP (iBin .add i6 (.int .i64 (1))) fun x19 =>
 ([l0, out3, n5] : List Value) = [l0, out3, n5] ∧ L2 [at4, x19] h) := (CutP_def _ _ _ _).trans (by kernel_rfl)
theorem q39z13 (l0 out3 n5 : Value) (L1 L2 : LK) (at4 i6 : Value) (h : Heap) : p39z13 P K l0 out3 n5 L1 L2 [at4, i6] h =
 (OP (iLenSl l0) fun x16 =>
 OP (iBin .lss i6 x16) fun x17 =>
 IfP x17
 (OP (iAdrSl 1 l0 i6) fun x22 =>
 OP (iLoad false 1 h x22) fun x23 =>
 OP (iBin .eql x23 n5) fun x25 =>
 IfP x25
 (CallP P 76 [at4, n5] h fun x30 h_1 =>
 OP (iAdrSl 1 out3 i6) fun x31 =>
 OH (oStore 1 h_1 x31 x30) fun _ h_2 =>
 CallP P 72 [n5] h_2 fun x34 h_3 =>
 OP (iBin .add at4 x34) fun x35 =>
 p39z20 P K l0 out3 x35 n5 i6 L1 L2 h_3)
 (p39z20 P K l0 out3 at4 n5 i6 L1 L2 h))
 (p39z21 P K l0 out3 at4 n5 L1 h)) := (CutP_def _ _ _ _).trans (by kernel_rfl)
theorem q39z21 (l0 out3 at4 n5 : Value) (L1 : LK) (h : Heap) : p39z21 P K l0 out3 at4 n5 L1 h =
 (OP (iBin .add n5 (.int .i64 (1))) fun x13 =>
 ([l0, out3] : List Value) = [l0, out3] ∧ L1 [at4, x13] h) := (CutP_def _ _ _ _).trans (by kernel_rfl)
theorem q39z6 (l0 out3 : Value) (L1 : LK) (at4 n5 : Value) (h : Heap) : p39z6 P K l0 out3 L1 [at4, n5] h =
 (OP (iBin .leq n5 (.int .i64 (10))) fun x11 =>
 IfP x11
 (LoopP [at4, (.int .i64 (0))] h fun L2 xs hx =>
 p39z13 P K l0 out3 n5 L1 L2 xs hx)
 (p39z22 P K out3 h)) := (CutP_def _ _ _ _).trans (by kernel_rfl)
theorem q39z22 (out3 : Value) (h : Heap) : p39z22 P K out3 h =
 (K out3 h) := (CutP_def _ _ _ _).trans (by kernel_rfl)
def T39 (l0 : Value) (h : Heap) : Prop :=
 OP (iLenSl l0) fun x8 =>
 OH (iMake 9 16 [(.string ⟨#[]⟩)] h x8 x8) fun x9 h_1 =>
 LoopP [(.int .i64 (0)), (.int .i64 (1))] h_1 fun L1 xs hx =>
 p39z6 P K l0 x9 L1 xs hx
theorem e39 (l0 : Value) (h : Heap) : iwpP P c39 (bodyP [.tmp 2] K) (frame0 [l0]) h = T39 P K l0 h := by kernel_rfl
theorem f39 {K : VK} {l0 : Value} {h : Heap} (H : T39 Tryz.prog K l0 h) : CallP Tryz.prog 39 [l0] h K :=
 callP_intro k39 (Nat.le_of_ble_eq_true rfl) ((e39 Tryz.prog K l0 h).mpr H)
/-! F76: pommel/pommelref08.word -/
noncomputable def c76z6 : ICode := .seq (.seq (.ops none [⟨(some 7), .p (.mv (.tmp 6))⟩,
 ⟨(some 8), .p (.mv (.tmp 1))⟩,
 ⟨(some 9), .p (.bin .leq (.tmp 7) (.tmp 8))⟩])
 (.cond (.tmp 9) (.skip)
 (.exit 0)))
 (.seq (.block 1 (.dops [(none, [⟨(some 12), .p (.mv (.tmp 5)), 0⟩,
 ⟨(some 13), .p (.mv (.tmp 0)), 0⟩,
 ⟨(some 14), .p (.mv (.tmp 6)), 0⟩,
 ⟨(some 15), .p (.bin .sub (.const (.int .i64 (10))) (.tmp 14)), 4⟩,
 ⟨(some 16), .p (.bin .shr (.tmp 13) (.tmp 15)), 14⟩,
 ⟨(some 17), .p (.bin .and (.tmp 16) (.const (.int .i64 (1)))), 30⟩,
 ⟨(some 18), .p (.mv (.tmp 0)), 0⟩,
 ⟨(some 19), .p (.mv (.tmp 6)), 0⟩,
 ⟨(some 20), .p (.bin .sub (.const (.int .i64 (10))) (.tmp 19)), 128⟩,
 ⟨(some 21), .p (.bin .shr (.tmp 18) (.tmp 20)), 448⟩,
 ⟨(some 22), .p (.bin .and (.tmp 21) (.const (.int .i64 (1)))), 960⟩,
 ⟨(some 23), .p (.bin .add (.tmp 22) (.const (.int .i64 (1)))), 1984⟩,
 ⟨(some 24), .p (.slS (.const (.string ⟨#[48, 49]⟩)) (some (.tmp 17)) (some (.tmp 23))), 4094⟩,
 ⟨(some 25), .p (.bin .add (.tmp 12) (.tmp 24)), 8191⟩,
 ⟨(some 5), .p (.mv (.tmp 25)), 16383⟩])]))
 (.ops none [⟨(some 10), .p (.mv (.tmp 6))⟩,
 ⟨(some 11), .p (.bin .add (.tmp 10) (.const (.int .i64 (1))))⟩,
 ⟨(some 6), .p (.mv (.tmp 11))⟩]))
noncomputable def c76z11 : ICode := .seq (.ops none [⟨(some 26), .p (.mv (.tmp 5))⟩,
 ⟨(some 4), .p (.mv (.tmp 26))⟩])
 (.ret)
noncomputable def c76z3 : ICode := .cut [5] c76z11
noncomputable def c76 : ICode := .seq (.ops none [⟨(some 4), .p (.mv (.const (.string ⟨#[]⟩)))⟩])
 (.seq (.ops none [⟨(some 5), .p (.mv (.const (.string ⟨#[]⟩)))⟩])
 (.seq (.seq (.ops none [⟨(some 6), .p (.mv (.const (.int .i64 (1))))⟩])
 (.block 0 (.loop [0, 1] [5, 6] c76z6))) c76z3))
theorem k76 : compFn Tryz.prog 76 [[], [], [], [0, 1], [5, 6], [], [], [], [5], []] = some (27, c76, [.tmp 4]) := by kernel_rfl
def K76z0 (_P : Program) (K : VK) : Kont := bodyP [.tmp 4] K
def K76z3 : Kont := thenK (iwpP P c76z3 (K76z0 P K)) (K76z0 P K)
def K76z5 : Kont := inBlockK 0 (K76z3 P K)
def K76z6 (at0 length1 : Value) (L1 : LK) : Kont := thenK (fun f' h'' => (([0, 1] : List Nat).map f' : List Value) = [at0, length1] ∧ L1 (([5, 6] : List Nat).map f') h'') (K76z5 P K)
def p76z6 (at0 length1 : Value) (L1 : LK) (xs : List Value) (h : Heap) : Prop := CutP (iwpP P c76z6 (K76z6 P K at0 length1 L1)) ([0, 1] ++ [5, 6]) ([at0, length1] ++ xs) h
def p76z11 (s5 : Value) (h : Heap) : Prop := CutP (iwpP P c76z11 (K76z0 P K)) [5] [s5] h
theorem q76z6 (at0 length1 : Value) (L1 : LK) (s5 i6 : Value) (h : Heap) : p76z6 P K at0 length1 L1 [s5, i6] h =
 (OP (iBin .leq i6 length1) fun x9 =>
 IfP x9
 (OP (iBin .sub (.int .i64 (10)) i6) fun x15 =>
 OP (iBin .shr at0 x15) fun x16 =>
 OP (iBin .and x16 (.int .i64 (1))) fun x17 =>
 OP (iBin .sub (.int .i64 (10)) i6) fun x20 =>
 OP (iBin .shr at0 x20) fun x21 =>
 OP (iBin .and x21 (.int .i64 (1))) fun x22 =>
 OP (iBin .add x22 (.int .i64 (1))) fun x23 =>
 OP (iSlS (.string ⟨#[48, 49]⟩) (some x17) (some x23)) fun x24 =>
 OP (iBin .add s5 x24) fun x25 =>
 OP (iBin .add i6 (.int .i64 (1))) fun x11 =>
 ([at0, length1] : List Value) = [at0, length1] ∧ L1 [x25, x11] h)
 (p76z11 P K s5 h)) := (CutP_def _ _ _ _).trans (by kernel_rfl)
theorem q76z11 (s5 : Value) (h : Heap) : p76z11 P K s5 h =
 (K s5 h) := (CutP_def _ _ _ _).trans (by kernel_rfl)
def T76 (at0 length1 : Value) (h : Heap) : Prop :=
 LoopP [(.string ⟨#[]⟩), (.int .i64 (1))] h fun L1 xs hx =>
 p76z6 P K at0 length1 L1 xs hx
theorem e76 (at0 length1 : Value) (h : Heap) : iwpP P c76 (bodyP [.tmp 4] K) (frame0 [at0, length1]) h = T76 P K at0 length1 h := by kernel_rfl
theorem f76 {K : VK} {at0 length1 : Value} {h : Heap} (H : T76 Tryz.prog K at0 length1 h) : CallP Tryz.prog 76 [at0, length1] h K :=
 callP_intro k76 (Nat.le_of_ble_eq_true rfl) ((e76 Tryz.prog K at0 length1 h).mpr H)
end Go.Proofs.YthplaillblmgfaaGreatDoor

namespace Go.Proofs.YthplaillblmgfaaGreatDoor
open Go.Sim

section
variable {h : Heap} {id : Nat}

abbrev hb (h : Heap) (id : Nat) (xs : List UInt8) : Heap := h.set id (.arr 5 (xs.map cv))

theorem hb_get (hid : id < h.length) (xs : List UInt8) : (hb h id xs)[id]? = some (.arr 5 (xs.map cv)) := by simp [hb, hid]

theorem hb_load (hid : id < h.length) {xs : List UInt8} {j : Nat} {c : UInt8} (hj : xs[j]? = some c) : iLoad false 1 (hb h id xs) (pt id j) = some (cv c) := by
  simp [iLoad, objCells, hb_get hid, iPart, hj]

theorem hb_store (hid : id < h.length) {xs : List UInt8} {j : Nat} (c : UInt8) (hj : j < xs.length) : oStore 1 (hb h id xs) (pt id j) (cv c) = some (undef, hb h id (xs.set j c)) := by
  rw [store_at (hb_get hid xs) (by simpa using hj) rfl rfl]
  simp [hb, List.map_set]

end

end Go.Proofs.YthplaillblmgfaaGreatDoor


namespace Go.Proofs.YthplaillblmgfaaGreatDoor
open Go.Sim
variable (P : Program) (K : VK)
/-! F46: pommel/num.Of -/
noncomputable def c46z5 : ICode := .seq (.ops none [⟨(some 10), .p (.mv (.tmp 0))⟩,
 ⟨(some 11), .p (.bin .lss (.tmp 10) (.const (.int .i64 (0))))⟩,
 ⟨(some 12), .p (.mv (.tmp 3))⟩,
 ⟨(some 13), .p (.conv .u32 (.tmp 12))⟩,
 ⟨(some 14), .p (.mv (.tmp 3))⟩,
 ⟨(some 15), .p (.bin .shr (.tmp 14) (.const (.int .u64 (32))))⟩,
 ⟨(some 16), .p (.conv .u32 (.tmp 15))⟩,
 ⟨(some 17), .e (.mkSl 116 2 [(.int .u32 (0))] [(0, 1, (.tmp 13)), (1, 1, (.tmp 16))])⟩,
 ⟨(some 18), .call 83 [(.tmp 17)]⟩,
 ⟨(some 19), .call 82 [(.tmp 11), (.tmp 18)]⟩,
 ⟨none, .e (.store 2 (.tmp 2) (.tmp 19))⟩])
 (.ret)
noncomputable def c46 : ICode := .seq (.ops none [⟨(some 2), .e (.alloc 81 [(.bool false), (.slice none 0 0)])⟩])
 (.seq (.ops none [⟨(some 4), .p (.mv (.tmp 0))⟩,
 ⟨(some 5), .p (.conv .u64 (.tmp 4))⟩,
 ⟨(some 3), .p (.mv (.tmp 5))⟩])
 (.seq (.seq (.ops none [⟨(some 6), .p (.mv (.tmp 0))⟩,
 ⟨(some 7), .p (.bin .lss (.tmp 6) (.const (.int .i64 (0))))⟩])
 (.cond (.tmp 7) (.ops none [⟨(some 8), .p (.mv (.tmp 3))⟩,
 ⟨(some 9), .p (.un .neg (.tmp 8))⟩,
 ⟨(some 3), .p (.mv (.tmp 9))⟩])
 (.skip)))
 (.cut [0, 2, 3] c46z5)))
theorem k46 : compFn Tryz.prog 46 [[], [], [], [0, 2, 3], []] = some (20, c46, [.cell true 2 2]) := by kernel_rfl
def K46z0 (_P : Program) (K : VK) : Kont := bodyP [.cell true 2 2] K
def p46z5 (n0 x2 u3 : Value) (h : Heap) : Prop := CutP (iwpP P c46z5 (K46z0 P K)) [0, 2, 3] [n0, x2, u3] h
theorem q46z5 (n0 x2 u3 : Value) (h : Heap) : p46z5 P K n0 x2 u3 h =
 (OP (iBin .lss n0 (.int .i64 (0))) fun x11 =>
 OP (iConv .u32 u3) fun x13 =>
 OP (iBin .shr u3 (.int .u64 (32))) fun x15 =>
 OP (iConv .u32 x15) fun x16 =>
 OH (iMkSl 116 2 [(.int .u32 (0))] h [(0, 1, x13), (1, 1, x16)]) fun x17 h_1 =>
 CallP P 83 [x17] h_1 fun x18 h_2 =>
 CallP P 82 [x11, x18] h_2 fun x19 h_3 =>
 OH (oStore 2 h_3 x2 x19) fun _ h_4 =>
 OP (iLoad true 2 h_4 x2) fun r0 =>
 K r0 h_4) := (CutP_def _ _ _ _).trans (by kernel_rfl)
def T46 (n0 : Value) (h : Heap) : Prop :=
 OH (iAlloc 81 [(.bool false), (.slice none 0 0)] h) fun x2 h_1 =>
 OP (iConv .u64 n0) fun x5 =>
 OP (iBin .lss n0 (.int .i64 (0))) fun x7 =>
 IfP x7
 (OP (iUn .neg x5) fun x9 =>
 p46z5 P K n0 x2 x9 h_1)
 (p46z5 P K n0 x2 x5 h_1)
theorem e46 (n0 : Value) (h : Heap) : iwpP P c46 (bodyP [.cell true 2 2] K) (frame0 [n0]) h = T46 P K n0 h := by kernel_rfl
theorem f46 {K : VK} {n0 : Value} {h : Heap} (H : T46 Tryz.prog K n0 h) : CallP Tryz.prog 46 [n0] h K :=
 callP_intro k46 (Nat.le_of_ble_eq_true rfl) ((e46 Tryz.prog K n0 h).mpr H)
/-! F48: (pommel/num.Int).Add -/
noncomputable def c48 : ICode := .seq (.ops none [⟨(some 2), .e (.box 81 (.tmp 0))⟩,
 ⟨(some 3), .e (.box 81 (.tmp 1))⟩,
 ⟨(some 4), .e (.alloc 81 [(.bool false), (.slice none 0 0)])⟩])
 (.seq (.block 0 (.seq (.ops none [⟨(some 6), .p (.fadr 0 (.tmp 2))⟩,
 ⟨(some 7), .l (.load false 1 (.tmp 6))⟩,
 ⟨(some 8), .p (.fadr 0 (.tmp 3))⟩,
 ⟨(some 9), .l (.load false 1 (.tmp 8))⟩,
 ⟨(some 10), .p (.eqb false (.tmp 7) (.tmp 9))⟩,
 ⟨(some 5), .p (.mv (.tmp 10))⟩])
 (.cond (.tmp 5) (.seq (.dops [(none, [⟨(some 11), .p (.fadr 0 (.tmp 2)), 0⟩,
 ⟨(some 12), .l (.load false 1 (.tmp 11)), 1⟩,
 ⟨(some 13), .p (.fadr 1 (.tmp 2)), 0⟩,
 ⟨(some 14), .l (.load false 1 (.tmp 13)), 4⟩,
 ⟨(some 15), .p (.fadr 1 (.tmp 3)), 0⟩,
 ⟨(some 16), .l (.load false 1 (.tmp 15)), 16⟩,
 ⟨(some 17), .call 85 [(.tmp 14), (.tmp 16)], 60⟩,
 ⟨(some 18), .call 82 [(.tmp 12), (.tmp 17)], 127⟩,
 ⟨none, .e (.store 2 (.tmp 4) (.tmp 18)), 255⟩])])
 (.ret))
 (.seq (.ops none [⟨(some 20), .p (.fadr 1 (.tmp 2))⟩,
 ⟨(some 21), .l (.load false 1 (.tmp 20))⟩,
 ⟨(some 22), .p (.fadr 1 (.tmp 3))⟩,
 ⟨(some 23), .l (.load false 1 (.tmp 22))⟩,
 ⟨(some 24), .call 86 [(.tmp 21), (.tmp 23)]⟩,
 ⟨(some 25), .p (.bin .geq (.tmp 24) (.const (.int .i64 (0))))⟩,
 ⟨(some 19), .p (.mv (.tmp 25))⟩])
 (.cond (.tmp 19) (.seq (.dops [(none, [⟨(some 26), .p (.fadr 0 (.tmp 2)), 0⟩,
 ⟨(some 27), .l (.load false 1 (.tmp 26)), 1⟩,
 ⟨(some 28), .p (.fadr 1 (.tmp 2)), 0⟩,
 ⟨(some 29), .l (.load false 1 (.tmp 28)), 4⟩,
 ⟨(some 30), .p (.fadr 1 (.tmp 3)), 0⟩,
 ⟨(some 31), .l (.load false 1 (.tmp 30)), 16⟩,
 ⟨(some 32), .call 87 [(.tmp 29), (.tmp 31)], 60⟩,
 ⟨(some 33), .call 82 [(.tmp 27), (.tmp 32)], 127⟩,
 ⟨none, .e (.store 2 (.tmp 4) (.tmp 33)), 255⟩])])
 (.ret))
 (.skip))))))
 (.seq (.dops [(none, [⟨(some 34), .p (.fadr 0 (.tmp 3)), 0⟩,
 ⟨(some 35), .l (.load false 1 (.tmp 34)), 1⟩,
 ⟨(some 36), .p (.fadr 1 (.tmp 3)), 0⟩,
 ⟨(some 37), .l (.load false 1 (.tmp 36)), 4⟩,
 ⟨(some 38), .p (.fadr 1 (.tmp 2)), 0⟩,
 ⟨(some 39), .l (.load false 1 (.tmp 38)), 16⟩,
 ⟨(some 40), .call 87 [(.tmp 37), (.tmp 39)], 60⟩,
 ⟨(some 41), .call 82 [(.tmp 35), (.tmp 40)], 127⟩,
 ⟨none, .e (.store 2 (.tmp 4) (.tmp 41)), 255⟩])])
 (.ret)))
theorem k48 : compFn Tryz.prog 48 [[], [], [], [], [], [], []] = some (42, c48, [.cell true 2 4]) := by kernel_rfl
def T48 (a0 b1 : Value) (h : Heap) : Prop :=
 OH (iBox 81 h a0) fun a2 h_1 =>
 OH (iBox 81 h_1 b1) fun b3 h_2 =>
 OH (iAlloc 81 [(.bool false), (.slice none 0 0)] h_2) fun x4 h_3 =>
 OP (iFadr 0 a2) fun x6 =>
 OP (iLoad false 1 h_3 x6) fun x7 =>
 OP (iFadr 0 b3) fun x8 =>
 OP (iLoad false 1 h_3 x8) fun x9 =>
 OP (iEqb false x7 x9) fun x10 =>
 IfP x10
 (OP (iFadr 0 a2) fun x11 =>
 OP (iLoad false 1 h_3 x11) fun x12 =>
 (True) ∧
 OP (iFadr 1 a2) fun x13 =>
 OP (iLoad false 1 h_3 x13) fun x14 =>
 (True) ∧
 OP (iFadr 1 b3) fun x15 =>
 OP (iLoad false 1 h_3 x15) fun x16 =>
 (True) ∧
 CallP P 85 [x14, x16] h_3 fun x17 h_4 =>
 (iLoad false 1 h_4 x11 = some x12 ∧ True) ∧
 CallP P 82 [x12, x17] h_4 fun x18 h_5 =>
 (True) ∧
 OH (oStore 2 h_5 x4 x18) fun _ h_6 =>
 (True) ∧
 OP (iLoad true 2 h_6 x4) fun r0 =>
 K r0 h_6)
 (OP (iFadr 1 a2) fun x20 =>
 OP (iLoad false 1 h_3 x20) fun x21 =>
 OP (iFadr 1 b3) fun x22 =>
 OP (iLoad false 1 h_3 x22) fun x23 =>
 CallP P 86 [x21, x23] h_3 fun x24 h_4 =>
 OP (iBin .geq x24 (.int .i64 (0))) fun x25 =>
 IfP x25
 (OP (iFadr 0 a2) fun x26 =>
 OP (iLoad false 1 h_4 x26) fun x27 =>
 (True) ∧
 OP (iFadr 1 a2) fun x28 =>
 OP (iLoad false 1 h_4 x28) fun x29 =>
 (True) ∧
 OP (iFadr 1 b3) fun x30 =>
 OP (iLoad false 1 h_4 x30) fun x31 =>
 (True) ∧
 CallP P 87 [x29, x31] h_4 fun x32 h_5 =>
 (iLoad false 1 h_5 x26 = some x27 ∧ True) ∧
 CallP P 82 [x27, x32] h_5 fun x33 h_6 =>
 (True) ∧
 OH (oStore 2 h_6 x4 x33) fun _ h_7 =>
 (True) ∧
 OP (iLoad true 2 h_7 x4) fun r0 =>
 K r0 h_7)
 (OP (iFadr 0 b3) fun x34 =>
 OP (iLoad false 1 h_4 x34) fun x35 =>
 (True) ∧
 OP (iFadr 1 b3) fun x36 =>
 OP (iLoad false 1 h_4 x36) fun x37 =>
 (True) ∧
 OP (iFadr 1 a2) fun x38 =>
 OP (iLoad false 1 h_4 x38) fun x39 =>
 (True) ∧
 CallP P 87 [x37, x39] h_4 fun x40 h_5 =>
 (iLoad false 1 h_5 x34 = some x35 ∧ True) ∧
 CallP P 82 [x35, x40] h_5 fun x41 h_6 =>
 (True) ∧
 OH (oStore 2 h_6 x4 x41) fun _ h_7 =>
 (True) ∧
 OP (iLoad true 2 h_7 x4) fun r0 =>
 K r0 h_7))
theorem e48 (a0 b1 : Value) (h : Heap) : iwpP P c48 (bodyP [.cell true 2 4] K) (frame0 [a0, b1]) h = T48 P K a0 b1 h := by kernel_rfl
theorem f48 {K : VK} {a0 b1 : Value} {h : Heap} (H : T48 Tryz.prog K a0 b1 h) : CallP Tryz.prog 48 [a0, b1] h K :=
 callP_intro k48 (Nat.le_of_ble_eq_true rfl) ((e48 Tryz.prog K a0 b1 h).mpr H)
/-! F49: pommel/num.FromInt -/
/-! F82: pommel/num.made -/
noncomputable def c82z6 : ICode := .ops none [⟨(some 10), .p (.pick (.tmp 6) (.tmp 9) (.const (.bool false)))⟩,
 ⟨(some 11), .p (.mv (.tmp 1))⟩,
 ⟨(some 12), .p (.build [(.bool false), (.slice none 0 0)] [(0, 1, (.tmp 10)), (1, 1, (.tmp 11))])⟩,
 ⟨none, .e (.store 2 (.tmp 4) (.tmp 12))⟩]
noncomputable def c82z4 : ICode := .seq (.ops (some (6, true)) [⟨(some 7), .p (.mv (.tmp 1))⟩,
 ⟨(some 8), .p (.lenSl (.tmp 7))⟩,
 ⟨(some 9), .p (.bin .gtr (.tmp 8) (.const (.int .i64 (0))))⟩])
 (.cut [1, 4, 6, 9] c82z6)
noncomputable def c82z2 : ICode := .ret
noncomputable def c82 : ICode := .seq (.ops none [⟨(some 4), .e (.alloc 81 [(.bool false), (.slice none 0 0)])⟩])
 (.seq (.seq (.ops none [⟨(some 5), .p (.mv (.tmp 0))⟩,
 ⟨(some 6), .p (.mv (.tmp 5))⟩])
 (.cut [1, 4, 6] c82z4)) c82z2)
theorem k82 : compFn Tryz.prog 82 [[], [1, 4, 6], [1, 4, 6, 9], []] = some (13, c82, [.cell true 2 4]) := by kernel_rfl
def K82z0 (_P : Program) (K : VK) : Kont := bodyP [.cell true 2 4] K
def K82z2 : Kont := thenK (iwpP P c82z2 (K82z0 P K)) (K82z0 P K)
def p82z4 (mag1 x4 x6 : Value) (h : Heap) : Prop := CutP (iwpP P c82z4 (K82z2 P K)) [1, 4, 6] [mag1, x4, x6] h
def p82z6 (mag1 x4 x6 x9 : Value) (h : Heap) : Prop := CutP (iwpP P c82z6 (K82z2 P K)) [1, 4, 6, 9] [mag1, x4, x6, x9] h
theorem q82z6 (mag1 x4 x6 x9 : Value) (h : Heap) : p82z6 P K mag1 x4 x6 x9 h =
 (OP (iPick x6 x9 (.bool false)) fun x10 =>
 OP (iBuild [(.bool false), (.slice none 0 0)] [(0, 1, x10), (1, 1, mag1)]) fun x12 =>
 OH (oStore 2 h x4 x12) fun _ h_1 =>
 OP (iLoad true 2 h_1 x4) fun r0 =>
 K r0 h_1) := (CutP_def _ _ _ _).trans (by kernel_rfl)
theorem q82z4 (mag1 x4 x6 : Value) (h : Heap) : p82z4 P K mag1 x4 x6 h =
 (GdP x6 true
 (OP (iLenSl mag1) fun x8 =>
 OP (iBin .gtr x8 (.int .i64 (0))) fun x9 =>
 p82z6 P K mag1 x4 x6 x9 h)
 (p82z6 P K mag1 x4 x6 undef h)) := (CutP_def _ _ _ _).trans (by kernel_rfl)
def T82 (neg0 mag1 : Value) (h : Heap) : Prop :=
 OH (iAlloc 81 [(.bool false), (.slice none 0 0)] h) fun x4 h_1 =>
 p82z4 P K mag1 x4 neg0 h_1
theorem e82 (neg0 mag1 : Value) (h : Heap) : iwpP P c82 (bodyP [.cell true 2 4] K) (frame0 [neg0, mag1]) h = T82 P K neg0 mag1 h := by kernel_rfl
theorem f82 {K : VK} {neg0 mag1 : Value} {h : Heap} (H : T82 Tryz.prog K neg0 mag1 h) : CallP Tryz.prog 82 [neg0, mag1] h K :=
 callP_intro k82 (Nat.le_of_ble_eq_true rfl) ((e82 Tryz.prog K neg0 mag1 h).mpr H)
/-! F83: pommel/num.trim -/
noncomputable def c83z10 : ICode := .ops none [⟨(some 14), .p (.pick (.tmp 6) (.tmp 13) (.const (.bool false)))⟩]
noncomputable def c83z8 : ICode := .seq (.ops (some (6, true)) [⟨(some 7), .p (.mv (.tmp 0))⟩,
 ⟨(some 8), .p (.mv (.tmp 0))⟩,
 ⟨(some 9), .p (.lenSl (.tmp 8))⟩,
 ⟨(some 10), .p (.bin .sub (.tmp 9) (.const (.int .i64 (1))))⟩,
 ⟨(some 11), .p (.adrSl 1 (.tmp 7) (.tmp 10))⟩,
 ⟨(some 12), .l (.load false 1 (.tmp 11))⟩,
 ⟨(some 13), .p (.bin .eql (.tmp 12) (.const (.int .u32 (0))))⟩])
 (.cut [0, 6, 13] c83z10)
noncomputable def c83z6 : ICode := .cond (.tmp 14) (.skip)
 (.exit 0)
noncomputable def c83z5 : ICode := .block 1 (.ops none [⟨(some 15), .p (.mv (.tmp 0))⟩,
 ⟨(some 16), .p (.mv (.tmp 0))⟩,
 ⟨(some 17), .p (.lenSl (.tmp 16))⟩,
 ⟨(some 18), .p (.bin .sub (.tmp 17) (.const (.int .i64 (1))))⟩,
 ⟨(some 19), .p (.slSl 116 1 (.tmp 15) none (some (.tmp 18)))⟩,
 ⟨(some 0), .p (.mv (.tmp 19))⟩])
noncomputable def c83z4 : ICode := .seq (.seq (.seq (.ops none [⟨(some 3), .p (.mv (.tmp 0))⟩,
 ⟨(some 4), .p (.lenSl (.tmp 3))⟩,
 ⟨(some 5), .p (.bin .gtr (.tmp 4) (.const (.int .i64 (0))))⟩,
 ⟨(some 6), .p (.mv (.tmp 5))⟩])
 (.cut [0, 6] c83z8)) c83z6) c83z5
noncomputable def c83z12 : ICode := .seq (.ops none [⟨(some 20), .p (.mv (.tmp 0))⟩,
 ⟨(some 2), .p (.mv (.tmp 20))⟩])
 (.ret)
noncomputable def c83z2 : ICode := .cut [0] c83z12
noncomputable def c83 : ICode := .seq (.ops none [⟨(some 2), .p (.mv (.const (.slice none 0 0)))⟩])
 (.seq (.block 0 (.loop [] [0] c83z4)) c83z2)
theorem k83 : compFn Tryz.prog 83 [[], [], [0], [0, 6], [0, 6, 13], [], [], [0], []] = some (21, c83, [.tmp 2]) := by kernel_rfl
def K83z0 (_P : Program) (K : VK) : Kont := bodyP [.tmp 2] K
def K83z2 : Kont := thenK (iwpP P c83z2 (K83z0 P K)) (K83z0 P K)
def K83z3 : Kont := inBlockK 0 (K83z2 P K)
def K83z4 (L1 : LK) : Kont := thenK (fun f' h'' => (([] : List Nat).map f' : List Value) = [] ∧ L1 (([0] : List Nat).map f') h'') (K83z3 P K)
def K83z5 (L1 : LK) : Kont := thenK (iwpP P c83z5 (K83z4 P K L1)) (K83z4 P K L1)
def K83z6 (L1 : LK) : Kont := thenK (iwpP P c83z6 (K83z5 P K L1)) (K83z5 P K L1)
def p83z4 (L1 : LK) (xs : List Value) (h : Heap) : Prop := CutP (iwpP P c83z4 (K83z4 P K L1)) ([] ++ [0]) ([] ++ xs) h
def p83z8 (x0 x6 : Value) (L1 : LK) (h : Heap) : Prop := CutP (iwpP P c83z8 (K83z6 P K L1)) [0, 6] [x0, x6] h
def p83z10 (x0 x6 x13 : Value) (L1 : LK) (h : Heap) : Prop := CutP (iwpP P c83z10 (K83z6 P K L1)) [0, 6, 13] [x0, x6, x13] h
def p83z12 (x0 : Value) (h : Heap) : Prop := CutP (iwpP P c83z12 (K83z0 P K)) [0] [x0] h
theorem q83z10 (x0 x6 x13 : Value) (L1 : LK) (h : Heap) : p83z10 P K x0 x6 x13 L1 h =
 (OP (iPick x6 x13 (.bool false)) fun x14 =>
 IfP x14
 (OP (iLenSl x0) fun x17 =>
 OP (iBin .sub x17 (.int .i64 (1))) fun x18 =>
 OP (iSlSl 116 1 x0 none (some x18)) fun x19 =>
 ([] : List Value) = [] ∧ L1 [x19] h)
 (p83z12 P K x0 h)) := (CutP_def _ _ _ _).trans (by kernel_rfl)
theorem q83z8 (x0 x6 : Value) (L1 : LK) (h : Heap) : p83z8 P K x0 x6 L1 h =
 (GdP x6 true
 (OP (iLenSl x0) fun x9 =>
 OP (iBin .sub x9 (.int .i64 (1))) fun x10 =>
 OP (iAdrSl 1 x0 x10) fun x11 =>
 OP (iLoad false 1 h x11) fun x12 =>
 OP (iBin .eql x12 (.int .u32 (0))) fun x13 =>
 p83z10 P K x0 x6 x13 L1 h)
 (p83z10 P K x0 x6 undef L1 h)) := (CutP_def _ _ _ _).trans (by kernel_rfl)
theorem q83z4 (L1 : LK) (x0 : Value) (h : Heap) : p83z4 P K L1 [x0] h =
 (OP (iLenSl x0) fun x4 =>
 OP (iBin .gtr x4 (.int .i64 (0))) fun x5 =>
 p83z8 P K x0 x5 L1 h) := (CutP_def _ _ _ _).trans (by kernel_rfl)
theorem q83z12 (x0 : Value) (h : Heap) : p83z12 P K x0 h =
 (K x0 h) := (CutP_def _ _ _ _).trans (by kernel_rfl)
def T83 (x0 : Value) (h : Heap) : Prop :=
 LoopP [x0] h fun L1 xs hx =>
 p83z4 P K L1 xs hx
theorem e83 (x0 : Value) (h : Heap) : iwpP P c83 (bodyP [.tmp 2] K) (frame0 [x0]) h = T83 P K x0 h := by kernel_rfl
theorem f83 {K : VK} {x0 : Value} {h : Heap} (H : T83 Tryz.prog K x0 h) : CallP Tryz.prog 83 [x0] h K :=
 callP_intro k83 (Nat.le_of_ble_eq_true rfl) ((e83 Tryz.prog K x0 h).mpr H)
/-! F85: pommel/num.plus -/
noncomputable def c85z19 : ICode := .ops none [⟨(some 34), .p (.mv (.tmp 5))⟩,
 ⟨(some 35), .p (.mv (.tmp 7))⟩,
 ⟨(some 36), .p (.mv (.tmp 0))⟩,
 ⟨(some 37), .p (.mv (.tmp 7))⟩,
 ⟨(some 38), .p (.adrSl 1 (.tmp 36) (.tmp 37))⟩,
 ⟨(some 39), .l (.load false 1 (.tmp 38))⟩,
 ⟨(some 40), .p (.mv (.tmp 8))⟩,
 ⟨(some 41), .p (.mv (.tmp 6))⟩,
 ⟨(some 42), .call 114 [(.tmp 39), (.tmp 40), (.tmp 41)]⟩,
 ⟨(some 33), .p (.mv (.tmp 42))⟩,
 ⟨(some 43), .p (.ext (.tmp 33) 0)⟩,
 ⟨(some 44), .p (.ext (.tmp 33) 1)⟩,
 ⟨(some 45), .p (.adrSl 1 (.tmp 34) (.tmp 35))⟩,
 ⟨none, .e (.store 1 (.tmp 45) (.tmp 43))⟩,
 ⟨(some 6), .p (.mv (.tmp 44))⟩]
noncomputable def c85z20 : ICode := .ops none [⟨(some 46), .p (.bin .add (.tmp 22) (.const (.int .i64 (1))))⟩,
 ⟨(some 22), .p (.mv (.tmp 46))⟩]
noncomputable def c85z13 : ICode := .cut [0, 1, 5, 6, 21, 22] c85z20
noncomputable def c85z10 : ICode := .seq (.ops none [⟨(some 23), .p (.bin .lss (.tmp 22) (.tmp 21))⟩])
 (.seq (.cond (.tmp 23) (.skip)
 (.exit 0))
 (.seq (.block 1 (.seq (.ops none [⟨(some 24), .p (.mv (.tmp 22))⟩,
 ⟨(some 7), .p (.mv (.tmp 24))⟩])
 (.seq (.ops none [⟨(some 8), .p (.mv (.const (.int .u32 (0))))⟩])
 (.seq (.seq (.ops none [⟨(some 25), .p (.mv (.tmp 7))⟩,
 ⟨(some 26), .p (.mv (.tmp 1))⟩,
 ⟨(some 27), .p (.lenSl (.tmp 26))⟩,
 ⟨(some 28), .p (.bin .lss (.tmp 25) (.tmp 27))⟩])
 (.cond (.tmp 28) (.ops none [⟨(some 29), .p (.mv (.tmp 1))⟩,
 ⟨(some 30), .p (.mv (.tmp 7))⟩,
 ⟨(some 31), .p (.adrSl 1 (.tmp 29) (.tmp 30))⟩,
 ⟨(some 32), .l (.load false 1 (.tmp 31))⟩,
 ⟨(some 8), .p (.mv (.tmp 32))⟩])
 (.skip)))
 (.cut [0, 1, 5, 6, 7, 8, 21, 22] c85z19))))) c85z13))
noncomputable def c85z21 : ICode := .seq (.ops none [⟨(some 47), .p (.mv (.tmp 5))⟩,
 ⟨(some 48), .p (.mv (.tmp 0))⟩,
 ⟨(some 49), .p (.lenSl (.tmp 48))⟩,
 ⟨(some 50), .p (.mv (.tmp 6))⟩,
 ⟨(some 51), .p (.adrSl 1 (.tmp 47) (.tmp 49))⟩,
 ⟨none, .e (.store 1 (.tmp 51) (.tmp 50))⟩])
 (.seq (.ops none [⟨(some 52), .p (.mv (.tmp 5))⟩,
 ⟨(some 53), .call 83 [(.tmp 52)]⟩,
 ⟨(some 4), .p (.mv (.tmp 53))⟩])
 (.ret))
noncomputable def c85z7 : ICode := .cut [0, 5, 6] c85z21
noncomputable def c85z4 : ICode := .seq (.ops none [⟨(some 16), .p (.mv (.tmp 0))⟩,
 ⟨(some 17), .p (.lenSl (.tmp 16))⟩,
 ⟨(some 18), .p (.bin .add (.tmp 17) (.const (.int .i64 (1))))⟩,
 ⟨(some 19), .e (.make 116 4 [(.int .u32 (0))] (.tmp 18) (.tmp 18))⟩,
 ⟨(some 5), .p (.mv (.tmp 19))⟩])
 (.seq (.ops none [⟨(some 6), .p (.mv (.const (.int .u32 (0))))⟩])
 (.seq (.seq (.ops none [⟨(some 20), .p (.mv (.tmp 0))⟩,
 ⟨(some 21), .p (.lenSl (.tmp 20))⟩,
 ⟨(some 22), .p (.mv (.const (.int .i64 (0))))⟩])
 (.block 0 (.loop [0, 1, 5, 21] [6, 22] c85z10))) c85z7))
noncomputable def c85 : ICode := .seq (.ops none [⟨(some 4), .p (.mv (.const (.slice none 0 0)))⟩])
 (.seq (.seq (.ops none [⟨(some 9), .p (.mv (.tmp 0))⟩,
 ⟨(some 10), .p (.lenSl (.tmp 9))⟩,
 ⟨(some 11), .p (.mv (.tmp 1))⟩,
 ⟨(some 12), .p (.lenSl (.tmp 11))⟩,
 ⟨(some 13), .p (.bin .lss (.tmp 10) (.tmp 12))⟩])
 (.cond (.tmp 13) (.ops none [⟨(some 14), .p (.mv (.tmp 1))⟩,
 ⟨(some 15), .p (.mv (.tmp 0))⟩,
 ⟨(some 0), .p (.mv (.tmp 14))⟩,
 ⟨(some 1), .p (.mv (.tmp 15))⟩])
 (.skip)))
 (.cut [0, 1] c85z4))
theorem k85 : compFn Tryz.prog 85 [[], [], [0, 1], [], [], [], [0, 1, 5, 21], [6, 22], [], [], [], [], [], [0, 1, 5, 6, 7, 8, 21, 22], [0, 1, 5, 6, 21, 22], [0, 5, 6], [], []] = some (54, c85, [.tmp 4]) := by kernel_rfl
def K85z0 (_P : Program) (K : VK) : Kont := bodyP [.tmp 4] K
def K85z7 : Kont := thenK (iwpP P c85z7 (K85z0 P K)) (K85z0 P K)
def K85z9 : Kont := inBlockK 0 (K85z7 P K)
def K85z10 (a0 b1 out5 x21 : Value) (L1 : LK) : Kont := thenK (fun f' h'' => (([0, 1, 5, 21] : List Nat).map f' : List Value) = [a0, b1, out5, x21] ∧ L1 (([6, 22] : List Nat).map f') h'') (K85z9 P K)
def K85z13 (a0 b1 out5 x21 : Value) (L1 : LK) : Kont := thenK (iwpP P c85z13 (K85z10 P K a0 b1 out5 x21 L1)) (K85z10 P K a0 b1 out5 x21 L1)
def K85z14 (a0 b1 out5 x21 : Value) (L1 : LK) : Kont := inBlockK 1 (K85z13 P K a0 b1 out5 x21 L1)
def p85z4 (a0 b1 : Value) (h : Heap) : Prop := CutP (iwpP P c85z4 (K85z0 P K)) [0, 1] [a0, b1] h
def p85z10 (a0 b1 out5 x21 : Value) (L1 : LK) (xs : List Value) (h : Heap) : Prop := CutP (iwpP P c85z10 (K85z10 P K a0 b1 out5 x21 L1)) ([0, 1, 5, 21] ++ [6, 22]) ([a0, b1, out5, x21] ++ xs) h
def p85z19 (a0 b1 out5 carry6 i7 y8 x21 x22 : Value) (L1 : LK) (h : Heap) : Prop := CutP (iwpP P c85z19 (K85z14 P K a0 b1 out5 x21 L1)) [0, 1, 5, 6, 7, 8, 21, 22] [a0, b1, out5, carry6, i7, y8, x21, x22] h
def p85z20 (a0 b1 out5 carry6 x21 x22 : Value) (L1 : LK) (h : Heap) : Prop := CutP (iwpP P c85z20 (K85z10 P K a0 b1 out5 x21 L1)) [0, 1, 5, 6, 21, 22] [a0, b1, out5, carry6, x21, x22] h
def p85z21 (a0 out5 carry6 : Value) (h : Heap) : Prop := CutP (iwpP P c85z21 (K85z0 P K)) [0, 5, 6] [a0, out5, carry6] h
theorem q85z19 (a0 b1 out5 carry6 i7 y8 x21 x22 : Value) (L1 : LK) (h : Heap) : p85z19 P K a0 b1 out5 carry6 i7 y8 x21 x22 L1 h =
 (OP (iAdrSl 1 a0 i7) fun x38 =>
 OP (iLoad false 1 h x38) fun x39 =>
 CallP P 114 [x39, y8, carry6] h fun x42 h_1 =>
 OP (iExt 0 x42) fun x43 =>
 OP (iExt 1 x42) fun x44 =>
 OP (iAdrSl 1 out5 i7) fun x45 =>
 OH (oStore 1 h_1 x45 x43) fun _ h_2 =>
 p85z20 P K a0 b1 out5 x44 x21 x22 L1 h_2) := (CutP_def _ _ _ _).trans (by kernel_rfl)
theorem q85z20 (a0 b1 out5 carry6 x21 x22 : Value) (L1 : LK) (h : Heap) : p85z20 P K a0 b1 out5 carry6 x21 x22 L1 h =
 (OP (iBin .add x22 (.int .i64 (1))) fun x46 =>
 ([a0, b1, out5, x21] : List Value) = [a0, b1, out5, x21] ∧ L1 [carry6, x46] h) := (CutP_def _ _ _ _).trans (by kernel_rfl)
theorem q85z10 (a0 b1 out5 x21 : Value) (L1 : LK) (carry6 x22 : Value) (h : Heap) : p85z10 P K a0 b1 out5 x21 L1 [carry6, x22] h =
 (OP (iBin .lss x22 x21) fun x23 =>
 IfP x23
 (OP (iLenSl b1) fun x27 =>
 OP (iBin .lss x22 x27) fun x28 =>
 IfP x28
 (OP (iAdrSl 1 b1 x22) fun x31 =>
 OP (iLoad false 1 h x31) fun x32 =>
 p85z19 P K a0 b1 out5 carry6 x22 x32 x21 x22 L1 h)
 (p85z19 P K a0 b1 out5 carry6 x22 (.int .u32 (0)) x21 x22 L1 h))
 (p85z21 P K a0 out5 carry6 h)) := (CutP_def _ _ _ _).trans (by kernel_rfl)
theorem q85z21 (a0 out5 carry6 : Value) (h : Heap) : p85z21 P K a0 out5 carry6 h =
 (OP (iLenSl a0) fun x49 =>
 OP (iAdrSl 1 out5 x49) fun x51 =>
 OH (oStore 1 h x51 carry6) fun _ h_1 =>
 CallP P 83 [out5] h_1 fun x53 h_2 =>
 K x53 h_2) := (CutP_def _ _ _ _).trans (by kernel_rfl)
theorem q85z4 (a0 b1 : Value) (h : Heap) : p85z4 P K a0 b1 h =
 (OP (iLenSl a0) fun x17 =>
 OP (iBin .add x17 (.int .i64 (1))) fun x18 =>
 OH (iMake 116 4 [(.int .u32 (0))] h x18 x18) fun x19 h_1 =>
 OP (iLenSl a0) fun x21 =>
 LoopP [(.int .u32 (0)), (.int .i64 (0))] h_1 fun L1 xs hx =>
 p85z10 P K a0 b1 x19 x21 L1 xs hx) := (CutP_def _ _ _ _).trans (by kernel_rfl)
def T85 (a0 b1 : Value) (h : Heap) : Prop :=
 OP (iLenSl a0) fun x10 =>
 OP (iLenSl b1) fun x12 =>
 OP (iBin .lss x10 x12) fun x13 =>
 IfP x13
 (p85z4 P K b1 a0 h)
 (p85z4 P K a0 b1 h)
theorem e85 (a0 b1 : Value) (h : Heap) : iwpP P c85 (bodyP [.tmp 4] K) (frame0 [a0, b1]) h = T85 P K a0 b1 h := by kernel_rfl
theorem f85 {K : VK} {a0 b1 : Value} {h : Heap} (H : T85 Tryz.prog K a0 b1 h) : CallP Tryz.prog 85 [a0, b1] h K :=
 callP_intro k85 (Nat.le_of_ble_eq_true rfl) ((e85 Tryz.prog K a0 b1 h).mpr H)
/-! F86: pommel/num.compare -/
noncomputable def c86z11 : ICode := .seq (.seq (.ops none [⟨(some 19), .p (.mv (.tmp 5))⟩,
 ⟨(some 20), .p (.bin .geq (.tmp 19) (.const (.int .i64 (0))))⟩])
 (.cond (.tmp 20) (.skip)
 (.exit 0)))
 (.seq (.block 1 (.seq (.dops [(none, [⟨(some 23), .p (.mv (.tmp 0)), 0⟩,
 ⟨(some 24), .p (.mv (.tmp 5)), 0⟩,
 ⟨(some 25), .p (.adrSl 1 (.tmp 23) (.tmp 24)), 3⟩,
 ⟨(some 26), .l (.load false 1 (.tmp 25)), 7⟩,
 ⟨(some 27), .p (.mv (.tmp 1)), 0⟩,
 ⟨(some 28), .p (.mv (.tmp 5)), 0⟩,
 ⟨(some 29), .p (.adrSl 1 (.tmp 27) (.tmp 28)), 48⟩,
 ⟨(some 30), .l (.load false 1 (.tmp 29)), 112⟩,
 ⟨(some 31), .p (.bin .neq (.tmp 26) (.tmp 30)), 255⟩])])
 (.cond (.tmp 31) (.seq (.seq (.dops [(none, [⟨(some 32), .p (.mv (.tmp 0)), 0⟩,
 ⟨(some 33), .p (.mv (.tmp 5)), 0⟩,
 ⟨(some 34), .p (.adrSl 1 (.tmp 32) (.tmp 33)), 3⟩,
 ⟨(some 35), .l (.load false 1 (.tmp 34)), 7⟩,
 ⟨(some 36), .p (.mv (.tmp 1)), 0⟩,
 ⟨(some 37), .p (.mv (.tmp 5)), 0⟩,
 ⟨(some 38), .p (.adrSl 1 (.tmp 36) (.tmp 37)), 48⟩,
 ⟨(some 39), .l (.load false 1 (.tmp 38)), 112⟩,
 ⟨(some 40), .p (.bin .lss (.tmp 35) (.tmp 39)), 255⟩])])
 (.cond (.tmp 40) (.seq (.ops none [⟨(some 4), .p (.mv (.const (.int .i64 (-1))))⟩])
 (.ret))
 (.skip)))
 (.seq (.ops none [⟨(some 4), .p (.mv (.const (.int .i64 (1))))⟩])
 (.ret)))
 (.skip))))
 (.ops none [⟨(some 21), .p (.mv (.tmp 5))⟩,
 ⟨(some 22), .p (.bin .sub (.tmp 21) (.const (.int .i64 (1))))⟩,
 ⟨(some 5), .p (.mv (.tmp 22))⟩]))
noncomputable def c86z8 : ICode := .seq (.ops none [⟨(some 4), .p (.mv (.const (.int .i64 (0))))⟩])
 (.ret)
noncomputable def c86 : ICode := .seq (.ops none [⟨(some 4), .p (.mv (.const (.int .i64 (0))))⟩])
 (.seq (.seq (.ops none [⟨(some 6), .p (.mv (.tmp 0))⟩,
 ⟨(some 7), .p (.lenSl (.tmp 6))⟩,
 ⟨(some 8), .p (.mv (.tmp 1))⟩,
 ⟨(some 9), .p (.lenSl (.tmp 8))⟩,
 ⟨(some 10), .p (.bin .neq (.tmp 7) (.tmp 9))⟩])
 (.cond (.tmp 10) (.seq (.seq (.ops none [⟨(some 11), .p (.mv (.tmp 0))⟩,
 ⟨(some 12), .p (.lenSl (.tmp 11))⟩,
 ⟨(some 13), .p (.mv (.tmp 1))⟩,
 ⟨(some 14), .p (.lenSl (.tmp 13))⟩,
 ⟨(some 15), .p (.bin .lss (.tmp 12) (.tmp 14))⟩])
 (.cond (.tmp 15) (.seq (.ops none [⟨(some 4), .p (.mv (.const (.int .i64 (-1))))⟩])
 (.ret))
 (.skip)))
 (.seq (.ops none [⟨(some 4), .p (.mv (.const (.int .i64 (1))))⟩])
 (.ret)))
 (.skip)))
 (.seq (.seq (.ops none [⟨(some 16), .p (.mv (.tmp 0))⟩,
 ⟨(some 17), .p (.lenSl (.tmp 16))⟩,
 ⟨(some 18), .p (.bin .sub (.tmp 17) (.const (.int .i64 (1))))⟩,
 ⟨(some 5), .p (.mv (.tmp 18))⟩])
 (.block 0 (.loop [0, 1] [5] c86z11))) c86z8))
theorem k86 : compFn Tryz.prog 86 [[], [], [], [], [], [], [], [], [0, 1], [5], [], [], [], [], [], [], [], [], [], []] = some (41, c86, [.tmp 4]) := by kernel_rfl
def K86z0 (_P : Program) (K : VK) : Kont := bodyP [.tmp 4] K
def K86z8 : Kont := thenK (iwpP P c86z8 (K86z0 P K)) (K86z0 P K)
def K86z10 : Kont := inBlockK 0 (K86z8 P K)
def K86z11 (a0 b1 : Value) (L1 : LK) : Kont := thenK (fun f' h'' => (([0, 1] : List Nat).map f' : List Value) = [a0, b1] ∧ L1 (([5] : List Nat).map f') h'') (K86z10 P K)
def p86z11 (a0 b1 : Value) (L1 : LK) (xs : List Value) (h : Heap) : Prop := CutP (iwpP P c86z11 (K86z11 P K a0 b1 L1)) ([0, 1] ++ [5]) ([a0, b1] ++ xs) h
theorem q86z11 (a0 b1 : Value) (L1 : LK) (i5 : Value) (h : Heap) : p86z11 P K a0 b1 L1 [i5] h =
 (OP (iBin .geq i5 (.int .i64 (0))) fun x20 =>
 IfP x20
 (OP (iAdrSl 1 a0 i5) fun x25 =>
 OP (iLoad false 1 h x25) fun x26 =>
 (True) ∧
 OP (iAdrSl 1 b1 i5) fun x29 =>
 OP (iLoad false 1 h x29) fun x30 =>
 (True) ∧
 OP (iBin .neq x26 x30) fun x31 =>
 IfP x31
 (OP (iAdrSl 1 a0 i5) fun x34 =>
 OP (iLoad false 1 h x34) fun x35 =>
 (True) ∧
 OP (iAdrSl 1 b1 i5) fun x38 =>
 OP (iLoad false 1 h x38) fun x39 =>
 (True) ∧
 OP (iBin .lss x35 x39) fun x40 =>
 IfP x40
 (K (.int .i64 (-1)) h)
 (K (.int .i64 (1)) h))
 (OP (iBin .sub i5 (.int .i64 (1))) fun x22 =>
 ([a0, b1] : List Value) = [a0, b1] ∧ L1 [x22] h))
 (K (.int .i64 (0)) h)) := (CutP_def _ _ _ _).trans (by kernel_rfl)
def T86 (a0 b1 : Value) (h : Heap) : Prop :=
 OP (iLenSl a0) fun x7 =>
 OP (iLenSl b1) fun x9 =>
 OP (iBin .neq x7 x9) fun x10 =>
 IfP x10
 (OP (iLenSl a0) fun x12 =>
 OP (iLenSl b1) fun x14 =>
 OP (iBin .lss x12 x14) fun x15 =>
 IfP x15
 (K (.int .i64 (-1)) h)
 (K (.int .i64 (1)) h))
 (OP (iLenSl a0) fun x17 =>
 OP (iBin .sub x17 (.int .i64 (1))) fun x18 =>
 LoopP [x18] h fun L1 xs hx =>
 p86z11 P K a0 b1 L1 xs hx)
theorem e86 (a0 b1 : Value) (h : Heap) : iwpP P c86 (bodyP [.tmp 4] K) (frame0 [a0, b1]) h = T86 P K a0 b1 h := by kernel_rfl
theorem f86 {K : VK} {a0 b1 : Value} {h : Heap} (H : T86 Tryz.prog K a0 b1 h) : CallP Tryz.prog 86 [a0, b1] h K :=
 callP_intro k86 (Nat.le_of_ble_eq_true rfl) ((e86 Tryz.prog K a0 b1 h).mpr H)
/-! F87: pommel/num.minus -/
noncomputable def c87z16 : ICode := .ops none [⟨(some 26), .p (.mv (.tmp 5))⟩,
 ⟨(some 27), .p (.mv (.tmp 7))⟩,
 ⟨(some 28), .p (.mv (.tmp 0))⟩,
 ⟨(some 29), .p (.mv (.tmp 7))⟩,
 ⟨(some 30), .p (.adrSl 1 (.tmp 28) (.tmp 29))⟩,
 ⟨(some 31), .l (.load false 1 (.tmp 30))⟩,
 ⟨(some 32), .p (.mv (.tmp 8))⟩,
 ⟨(some 33), .p (.mv (.tmp 6))⟩,
 ⟨(some 34), .call 115 [(.tmp 31), (.tmp 32), (.tmp 33)]⟩,
 ⟨(some 25), .p (.mv (.tmp 34))⟩,
 ⟨(some 35), .p (.ext (.tmp 25) 0)⟩,
 ⟨(some 36), .p (.ext (.tmp 25) 1)⟩,
 ⟨(some 37), .p (.adrSl 1 (.tmp 26) (.tmp 27))⟩,
 ⟨none, .e (.store 1 (.tmp 37) (.tmp 35))⟩,
 ⟨(some 6), .p (.mv (.tmp 36))⟩]
noncomputable def c87z17 : ICode := .ops none [⟨(some 38), .p (.bin .add (.tmp 14) (.const (.int .i64 (1))))⟩,
 ⟨(some 14), .p (.mv (.tmp 38))⟩]
noncomputable def c87z10 : ICode := .cut [0, 1, 5, 6, 13, 14] c87z17
noncomputable def c87z7 : ICode := .seq (.ops none [⟨(some 15), .p (.bin .lss (.tmp 14) (.tmp 13))⟩])
 (.seq (.cond (.tmp 15) (.skip)
 (.exit 0))
 (.seq (.block 1 (.seq (.ops none [⟨(some 16), .p (.mv (.tmp 14))⟩,
 ⟨(some 7), .p (.mv (.tmp 16))⟩])
 (.seq (.ops none [⟨(some 8), .p (.mv (.const (.int .u32 (0))))⟩])
 (.seq (.seq (.ops none [⟨(some 17), .p (.mv (.tmp 7))⟩,
 ⟨(some 18), .p (.mv (.tmp 1))⟩,
 ⟨(some 19), .p (.lenSl (.tmp 18))⟩,
 ⟨(some 20), .p (.bin .lss (.tmp 17) (.tmp 19))⟩])
 (.cond (.tmp 20) (.ops none [⟨(some 21), .p (.mv (.tmp 1))⟩,
 ⟨(some 22), .p (.mv (.tmp 7))⟩,
 ⟨(some 23), .p (.adrSl 1 (.tmp 21) (.tmp 22))⟩,
 ⟨(some 24), .l (.load false 1 (.tmp 23))⟩,
 ⟨(some 8), .p (.mv (.tmp 24))⟩])
 (.skip)))
 (.cut [0, 1, 5, 6, 7, 8, 13, 14] c87z16))))) c87z10))
noncomputable def c87z18 : ICode := .seq (.ops none [⟨(some 39), .p (.mv (.tmp 5))⟩,
 ⟨(some 40), .call 83 [(.tmp 39)]⟩,
 ⟨(some 4), .p (.mv (.tmp 40))⟩])
 (.ret)
noncomputable def c87z4 : ICode := .cut [5] c87z18
noncomputable def c87 : ICode := .seq (.ops none [⟨(some 4), .p (.mv (.const (.slice none 0 0)))⟩])
 (.seq (.ops none [⟨(some 9), .p (.mv (.tmp 0))⟩,
 ⟨(some 10), .p (.lenSl (.tmp 9))⟩,
 ⟨(some 11), .e (.make 116 4 [(.int .u32 (0))] (.tmp 10) (.tmp 10))⟩,
 ⟨(some 5), .p (.mv (.tmp 11))⟩])
 (.seq (.ops none [⟨(some 6), .p (.mv (.const (.int .u32 (0))))⟩])
 (.seq (.seq (.ops none [⟨(some 12), .p (.mv (.tmp 0))⟩,
 ⟨(some 13), .p (.lenSl (.tmp 12))⟩,
 ⟨(some 14), .p (.mv (.const (.int .i64 (0))))⟩])
 (.block 0 (.loop [0, 1, 5, 13] [6, 14] c87z7))) c87z4)))
theorem k87 : compFn Tryz.prog 87 [[], [], [], [], [0, 1, 5, 13], [6, 14], [], [], [], [], [], [0, 1, 5, 6, 7, 8, 13, 14], [0, 1, 5, 6, 13, 14], [5], []] = some (41, c87, [.tmp 4]) := by kernel_rfl
def K87z0 (_P : Program) (K : VK) : Kont := bodyP [.tmp 4] K
def K87z4 : Kont := thenK (iwpP P c87z4 (K87z0 P K)) (K87z0 P K)
def K87z6 : Kont := inBlockK 0 (K87z4 P K)
def K87z7 (a0 b1 out5 x13 : Value) (L1 : LK) : Kont := thenK (fun f' h'' => (([0, 1, 5, 13] : List Nat).map f' : List Value) = [a0, b1, out5, x13] ∧ L1 (([6, 14] : List Nat).map f') h'') (K87z6 P K)
def K87z10 (a0 b1 out5 x13 : Value) (L1 : LK) : Kont := thenK (iwpP P c87z10 (K87z7 P K a0 b1 out5 x13 L1)) (K87z7 P K a0 b1 out5 x13 L1)
def K87z11 (a0 b1 out5 x13 : Value) (L1 : LK) : Kont := inBlockK 1 (K87z10 P K a0 b1 out5 x13 L1)
def p87z7 (a0 b1 out5 x13 : Value) (L1 : LK) (xs : List Value) (h : Heap) : Prop := CutP (iwpP P c87z7 (K87z7 P K a0 b1 out5 x13 L1)) ([0, 1, 5, 13] ++ [6, 14]) ([a0, b1, out5, x13] ++ xs) h
def p87z16 (a0 b1 out5 borrow6 i7 y8 x13 x14 : Value) (L1 : LK) (h : Heap) : Prop := CutP (iwpP P c87z16 (K87z11 P K a0 b1 out5 x13 L1)) [0, 1, 5, 6, 7, 8, 13, 14] [a0, b1, out5, borrow6, i7, y8, x13, x14] h
def p87z17 (a0 b1 out5 borrow6 x13 x14 : Value) (L1 : LK) (h : Heap) : Prop := CutP (iwpP P c87z17 (K87z7 P K a0 b1 out5 x13 L1)) [0, 1, 5, 6, 13, 14] [a0, b1, out5, borrow6, x13, x14] h
def p87z18 (out5 : Value) (h : Heap) : Prop := CutP (iwpP P c87z18 (K87z0 P K)) [5] [out5] h
theorem q87z16 (a0 b1 out5 borrow6 i7 y8 x13 x14 : Value) (L1 : LK) (h : Heap) : p87z16 P K a0 b1 out5 borrow6 i7 y8 x13 x14 L1 h =
 (OP (iAdrSl 1 a0 i7) fun x30 =>
 OP (iLoad false 1 h x30) fun x31 =>
 CallP P 115 [x31, y8, borrow6] h fun x34 h_1 =>
 OP (iExt 0 x34) fun x35 =>
 OP (iExt 1 x34) fun x36 =>
 OP (iAdrSl 1 out5 i7) fun x37 =>
 OH (oStore 1 h_1 x37 x35) fun _ h_2 =>
 p87z17 P K a0 b1 out5 x36 x13 x14 L1 h_2) := (CutP_def _ _ _ _).trans (by kernel_rfl)
theorem q87z17 (a0 b1 out5 borrow6 x13 x14 : Value) (L1 : LK) (h : Heap) : p87z17 P K a0 b1 out5 borrow6 x13 x14 L1 h =
 (OP (iBin .add x14 (.int .i64 (1))) fun x38 =>
 ([a0, b1, out5, x13] : List Value) = [a0, b1, out5, x13] ∧ L1 [borrow6, x38] h) := (CutP_def _ _ _ _).trans (by kernel_rfl)
theorem q87z7 (a0 b1 out5 x13 : Value) (L1 : LK) (borrow6 x14 : Value) (h : Heap) : p87z7 P K a0 b1 out5 x13 L1 [borrow6, x14] h =
 (OP (iBin .lss x14 x13) fun x15 =>
 IfP x15
 (OP (iLenSl b1) fun x19 =>
 OP (iBin .lss x14 x19) fun x20 =>
 IfP x20
 (OP (iAdrSl 1 b1 x14) fun x23 =>
 OP (iLoad false 1 h x23) fun x24 =>
 p87z16 P K a0 b1 out5 borrow6 x14 x24 x13 x14 L1 h)
 (p87z16 P K a0 b1 out5 borrow6 x14 (.int .u32 (0)) x13 x14 L1 h))
 (p87z18 P K out5 h)) := (CutP_def _ _ _ _).trans (by kernel_rfl)
theorem q87z18 (out5 : Value) (h : Heap) : p87z18 P K out5 h =
 (CallP P 83 [out5] h fun x40 h_1 =>
 K x40 h_1) := (CutP_def _ _ _ _).trans (by kernel_rfl)
def T87 (a0 b1 : Value) (h : Heap) : Prop :=
 OP (iLenSl a0) fun x10 =>
 OH (iMake 116 4 [(.int .u32 (0))] h x10 x10) fun x11 h_1 =>
 OP (iLenSl a0) fun x13 =>
 LoopP [(.int .u32 (0)), (.int .i64 (0))] h_1 fun L1 xs hx =>
 p87z7 P K a0 b1 x11 x13 L1 xs hx
theorem e87 (a0 b1 : Value) (h : Heap) : iwpP P c87 (bodyP [.tmp 4] K) (frame0 [a0, b1]) h = T87 P K a0 b1 h := by kernel_rfl
theorem f87 {K : VK} {a0 b1 : Value} {h : Heap} (H : T87 Tryz.prog K a0 b1 h) : CallP Tryz.prog 87 [a0, b1] h K :=
 callP_intro k87 (Nat.le_of_ble_eq_true rfl) ((e87 Tryz.prog K a0 b1 h).mpr H)
/-! F105: (pommel/num.Int).Mul -/
noncomputable def c105 : ICode := .seq (.ops none [⟨(some 2), .e (.box 81 (.tmp 0))⟩,
 ⟨(some 3), .e (.box 81 (.tmp 1))⟩,
 ⟨(some 4), .e (.alloc 81 [(.bool false), (.slice none 0 0)])⟩])
 (.seq (.dops [(none, [⟨(some 5), .p (.fadr 0 (.tmp 2)), 0⟩,
 ⟨(some 6), .l (.load false 1 (.tmp 5)), 1⟩,
 ⟨(some 7), .p (.fadr 0 (.tmp 3)), 0⟩,
 ⟨(some 8), .l (.load false 1 (.tmp 7)), 4⟩,
 ⟨(some 9), .p (.eqb true (.tmp 6) (.tmp 8)), 15⟩,
 ⟨(some 10), .p (.fadr 1 (.tmp 2)), 0⟩,
 ⟨(some 11), .l (.load false 1 (.tmp 10)), 32⟩,
 ⟨(some 12), .p (.fadr 1 (.tmp 3)), 0⟩,
 ⟨(some 13), .l (.load false 1 (.tmp 12)), 128⟩,
 ⟨(some 14), .call 124 [(.tmp 11), (.tmp 13)], 480⟩,
 ⟨(some 15), .call 82 [(.tmp 9), (.tmp 14)], 1023⟩,
 ⟨none, .e (.store 2 (.tmp 4) (.tmp 15)), 2047⟩])])
 (.ret))
theorem k105 : compFn Tryz.prog 105 [[], []] = some (16, c105, [.cell true 2 4]) := by kernel_rfl
def T105 (a0 b1 : Value) (h : Heap) : Prop :=
 OH (iBox 81 h a0) fun a2 h_1 =>
 OH (iBox 81 h_1 b1) fun b3 h_2 =>
 OH (iAlloc 81 [(.bool false), (.slice none 0 0)] h_2) fun x4 h_3 =>
 OP (iFadr 0 a2) fun x5 =>
 OP (iLoad false 1 h_3 x5) fun x6 =>
 (True) ∧
 OP (iFadr 0 b3) fun x7 =>
 OP (iLoad false 1 h_3 x7) fun x8 =>
 (True) ∧
 OP (iEqb true x6 x8) fun x9 =>
 OP (iFadr 1 a2) fun x10 =>
 OP (iLoad false 1 h_3 x10) fun x11 =>
 (True) ∧
 OP (iFadr 1 b3) fun x12 =>
 OP (iLoad false 1 h_3 x12) fun x13 =>
 (True) ∧
 CallP P 124 [x11, x13] h_3 fun x14 h_4 =>
 (iLoad false 1 h_4 x5 = some x6 ∧ iLoad false 1 h_4 x7 = some x8 ∧ True) ∧
 CallP P 82 [x9, x14] h_4 fun x15 h_5 =>
 (True) ∧
 OH (oStore 2 h_5 x4 x15) fun _ h_6 =>
 (True) ∧
 OP (iLoad true 2 h_6 x4) fun r0 =>
 K r0 h_6
theorem e105 (a0 b1 : Value) (h : Heap) : iwpP P c105 (bodyP [.cell true 2 4] K) (frame0 [a0, b1]) h = T105 P K a0 b1 h := by kernel_rfl
theorem f105 {K : VK} {a0 b1 : Value} {h : Heap} (H : T105 Tryz.prog K a0 b1 h) : CallP Tryz.prog 105 [a0, b1] h K :=
 callP_intro k105 (Nat.le_of_ble_eq_true rfl) ((e105 Tryz.prog K a0 b1 h).mpr H)
/-! F114: math/bits.Add32 -/
noncomputable def c114 : ICode := .seq (.ops none [⟨(some 6), .p (.mv (.const (.int .u32 (0))))⟩,
 ⟨(some 7), .p (.mv (.const (.int .u32 (0))))⟩])
 (.seq (.ops none [⟨(some 9), .p (.mv (.tmp 0))⟩,
 ⟨(some 10), .p (.conv .u64 (.tmp 9))⟩,
 ⟨(some 11), .p (.mv (.tmp 1))⟩,
 ⟨(some 12), .p (.conv .u64 (.tmp 11))⟩,
 ⟨(some 13), .p (.bin .add (.tmp 10) (.tmp 12))⟩,
 ⟨(some 14), .p (.mv (.tmp 2))⟩,
 ⟨(some 15), .p (.conv .u64 (.tmp 14))⟩,
 ⟨(some 16), .p (.bin .add (.tmp 13) (.tmp 15))⟩,
 ⟨(some 8), .p (.mv (.tmp 16))⟩])
 (.seq (.ops none [⟨(some 17), .p (.mv (.tmp 8))⟩,
 ⟨(some 18), .p (.conv .u32 (.tmp 17))⟩,
 ⟨(some 6), .p (.mv (.tmp 18))⟩])
 (.seq (.ops none [⟨(some 19), .p (.mv (.tmp 8))⟩,
 ⟨(some 20), .p (.bin .shr (.tmp 19) (.const (.int .u64 (32))))⟩,
 ⟨(some 21), .p (.conv .u32 (.tmp 20))⟩,
 ⟨(some 7), .p (.mv (.tmp 21))⟩])
 (.ret))))
theorem k114 : compFn Tryz.prog 114 [[], [], [], []] = some (22, c114, [.tmp 6, .tmp 7]) := by kernel_rfl
def T114 (P : Program) (K : VK) (x0 y1 carry2 : Value) (h : Heap) : Prop :=
 OP (iConv .u64 x0) fun x10 =>
 OP (iConv .u64 y1) fun x12 =>
 OP (iBin .add x10 x12) fun x13 =>
 OP (iConv .u64 carry2) fun x15 =>
 OP (iBin .add x13 x15) fun x16 =>
 OP (iConv .u32 x16) fun x18 =>
 OP (iBin .shr x16 (.int .u64 (32))) fun x20 =>
 OP (iConv .u32 x20) fun x21 =>
 K (.tuple #[x18, x21]) h
theorem e114 (x0 y1 carry2 : Value) (h : Heap) : iwpP P c114 (bodyP [.tmp 6, .tmp 7] K) (frame0 [x0, y1, carry2]) h = T114 P K x0 y1 carry2 h := by kernel_rfl
theorem f114 {K : VK} {x0 y1 carry2 : Value} {h : Heap} (H : T114 Tryz.prog K x0 y1 carry2 h) : CallP Tryz.prog 114 [x0, y1, carry2] h K :=
 callP_intro k114 (Nat.le_of_ble_eq_true rfl) ((e114 Tryz.prog K x0 y1 carry2 h).mpr H)
/-! F115: math/bits.Sub32 -/
noncomputable def c115 : ICode := .seq (.ops none [⟨(some 6), .p (.mv (.const (.int .u32 (0))))⟩,
 ⟨(some 7), .p (.mv (.const (.int .u32 (0))))⟩])
 (.seq (.ops none [⟨(some 8), .p (.mv (.tmp 0))⟩,
 ⟨(some 9), .p (.mv (.tmp 1))⟩,
 ⟨(some 10), .p (.bin .sub (.tmp 8) (.tmp 9))⟩,
 ⟨(some 11), .p (.mv (.tmp 2))⟩,
 ⟨(some 12), .p (.bin .sub (.tmp 10) (.tmp 11))⟩,
 ⟨(some 6), .p (.mv (.tmp 12))⟩])
 (.seq (.ops none [⟨(some 13), .p (.mv (.tmp 0))⟩,
 ⟨(some 14), .p (.un .xor (.tmp 13))⟩,
 ⟨(some 15), .p (.mv (.tmp 1))⟩,
 ⟨(some 16), .p (.bin .and (.tmp 14) (.tmp 15))⟩,
 ⟨(some 17), .p (.mv (.tmp 0))⟩,
 ⟨(some 18), .p (.mv (.tmp 1))⟩,
 ⟨(some 19), .p (.bin .xor (.tmp 17) (.tmp 18))⟩,
 ⟨(some 20), .p (.un .xor (.tmp 19))⟩,
 ⟨(some 21), .p (.mv (.tmp 6))⟩,
 ⟨(some 22), .p (.bin .and (.tmp 20) (.tmp 21))⟩,
 ⟨(some 23), .p (.bin .or (.tmp 16) (.tmp 22))⟩,
 ⟨(some 24), .p (.bin .shr (.tmp 23) (.const (.int .u64 (31))))⟩,
 ⟨(some 7), .p (.mv (.tmp 24))⟩])
 (.ret)))
theorem k115 : compFn Tryz.prog 115 [[], [], []] = some (25, c115, [.tmp 6, .tmp 7]) := by kernel_rfl
def T115 (P : Program) (K : VK) (x0 y1 borrow2 : Value) (h : Heap) : Prop :=
 OP (iBin .sub x0 y1) fun x10 =>
 OP (iBin .sub x10 borrow2) fun x12 =>
 OP (iUn .xor x0) fun x14 =>
 OP (iBin .and x14 y1) fun x16 =>
 OP (iBin .xor x0 y1) fun x19 =>
 OP (iUn .xor x19) fun x20 =>
 OP (iBin .and x20 x12) fun x22 =>
 OP (iBin .or x16 x22) fun x23 =>
 OP (iBin .shr x23 (.int .u64 (31))) fun x24 =>
 K (.tuple #[x12, x24]) h
theorem e115 (x0 y1 borrow2 : Value) (h : Heap) : iwpP P c115 (bodyP [.tmp 6, .tmp 7] K) (frame0 [x0, y1, borrow2]) h = T115 P K x0 y1 borrow2 h := by kernel_rfl
theorem f115 {K : VK} {x0 y1 borrow2 : Value} {h : Heap} (H : T115 Tryz.prog K x0 y1 borrow2 h) : CallP Tryz.prog 115 [x0, y1, borrow2] h K :=
 callP_intro k115 (Nat.le_of_ble_eq_true rfl) ((e115 Tryz.prog K x0 y1 borrow2 h).mpr H)
/-! F116: pommel/num.byWord -/
noncomputable def c116z7 : ICode := .seq (.seq (.ops none [⟨(some 16), .p (.mv (.tmp 8))⟩,
 ⟨(some 17), .p (.bin .geq (.tmp 16) (.const (.int .i64 (0))))⟩])
 (.cond (.tmp 17) (.skip)
 (.exit 0)))
 (.seq (.block 1 (.seq (.ops none [⟨(some 20), .p (.mv (.tmp 7))⟩,
 ⟨(some 21), .p (.bin .shl (.tmp 20) (.const (.int .u64 (32))))⟩,
 ⟨(some 22), .p (.mv (.tmp 0))⟩,
 ⟨(some 23), .p (.mv (.tmp 8))⟩,
 ⟨(some 24), .p (.adrSl 1 (.tmp 22) (.tmp 23))⟩,
 ⟨(some 25), .l (.load false 1 (.tmp 24))⟩,
 ⟨(some 26), .p (.conv .u64 (.tmp 25))⟩,
 ⟨(some 27), .p (.bin .or (.tmp 21) (.tmp 26))⟩,
 ⟨(some 9), .p (.mv (.tmp 27))⟩])
 (.dops [(none, [⟨(some 28), .p (.mv (.tmp 6)), 0⟩,
 ⟨(some 29), .p (.mv (.tmp 8)), 0⟩,
 ⟨(some 30), .p (.mv (.tmp 9)), 0⟩,
 ⟨(some 31), .p (.mv (.tmp 1)), 0⟩,
 ⟨(some 32), .p (.conv .u64 (.tmp 31)), 8⟩,
 ⟨(some 33), .p (.bin .quo (.tmp 30) (.tmp 32)), 28⟩,
 ⟨(some 34), .p (.conv .u32 (.tmp 33)), 60⟩,
 ⟨(some 35), .p (.mv (.tmp 9)), 0⟩,
 ⟨(some 36), .p (.mv (.tmp 1)), 0⟩,
 ⟨(some 37), .p (.conv .u64 (.tmp 36)), 256⟩,
 ⟨(some 38), .p (.bin .rem (.tmp 35) (.tmp 37)), 896⟩,
 ⟨(some 39), .p (.adrSl 1 (.tmp 28) (.tmp 29)), 127⟩,
 ⟨none, .e (.store 1 (.tmp 39) (.tmp 34)), 2175⟩,
 ⟨(some 7), .p (.mv (.tmp 38)), 8191⟩])])))
 (.ops none [⟨(some 18), .p (.mv (.tmp 8))⟩,
 ⟨(some 19), .p (.bin .sub (.tmp 18) (.const (.int .i64 (1))))⟩,
 ⟨(some 8), .p (.mv (.tmp 19))⟩]))
noncomputable def c116z13 : ICode := .seq (.ops none [⟨(some 40), .p (.mv (.tmp 6))⟩,
 ⟨(some 41), .call 83 [(.tmp 40)]⟩,
 ⟨(some 42), .p (.mv (.tmp 7))⟩,
 ⟨(some 43), .p (.conv .u32 (.tmp 42))⟩,
 ⟨(some 4), .p (.mv (.tmp 41))⟩,
 ⟨(some 5), .p (.mv (.tmp 43))⟩])
 (.ret)
noncomputable def c116z4 : ICode := .cut [6, 7] c116z13
noncomputable def c116 : ICode := .seq (.ops none [⟨(some 4), .p (.mv (.const (.slice none 0 0)))⟩,
 ⟨(some 5), .p (.mv (.const (.int .u32 (0))))⟩])
 (.seq (.ops none [⟨(some 10), .p (.mv (.tmp 0))⟩,
 ⟨(some 11), .p (.lenSl (.tmp 10))⟩,
 ⟨(some 12), .e (.make 116 4 [(.int .u32 (0))] (.tmp 11) (.tmp 11))⟩,
 ⟨(some 6), .p (.mv (.tmp 12))⟩])
 (.seq (.ops none [⟨(some 7), .p (.mv (.const (.int .u64 (0))))⟩])
 (.seq (.seq (.ops none [⟨(some 13), .p (.mv (.tmp 0))⟩,
 ⟨(some 14), .p (.lenSl (.tmp 13))⟩,
 ⟨(some 15), .p (.bin .sub (.tmp 14) (.const (.int .i64 (1))))⟩,
 ⟨(some 8), .p (.mv (.tmp 15))⟩])
 (.block 0 (.loop [0, 1, 6] [7, 8] c116z7))) c116z4)))
theorem k116 : compFn Tryz.prog 116 [[], [], [], [], [0, 1, 6], [7, 8], [], [], [], [], [6, 7], []] = some (44, c116, [.tmp 4, .tmp 5]) := by kernel_rfl
def K116z0 (_P : Program) (K : VK) : Kont := bodyP [.tmp 4, .tmp 5] K
def K116z4 : Kont := thenK (iwpP P c116z4 (K116z0 P K)) (K116z0 P K)
def K116z6 : Kont := inBlockK 0 (K116z4 P K)
def K116z7 (a0 w1 out6 : Value) (L1 : LK) : Kont := thenK (fun f' h'' => (([0, 1, 6] : List Nat).map f' : List Value) = [a0, w1, out6] ∧ L1 (([7, 8] : List Nat).map f') h'') (K116z6 P K)
def p116z7 (a0 w1 out6 : Value) (L1 : LK) (xs : List Value) (h : Heap) : Prop := CutP (iwpP P c116z7 (K116z7 P K a0 w1 out6 L1)) ([0, 1, 6] ++ [7, 8]) ([a0, w1, out6] ++ xs) h
def p116z13 (out6 rest7 : Value) (h : Heap) : Prop := CutP (iwpP P c116z13 (K116z0 P K)) [6, 7] [out6, rest7] h
theorem q116z7 (a0 w1 out6 : Value) (L1 : LK) (rest7 i8 : Value) (h : Heap) : p116z7 P K a0 w1 out6 L1 [rest7, i8] h =
 (OP (iBin .geq i8 (.int .i64 (0))) fun x17 =>
 IfP x17
 (OP (iBin .shl rest7 (.int .u64 (32))) fun x21 =>
 OP (iAdrSl 1 a0 i8) fun x24 =>
 OP (iLoad false 1 h x24) fun x25 =>
 OP (iConv .u64 x25) fun x26 =>
 OP (iBin .or x21 x26) fun x27 =>
 OP (iConv .u64 w1) fun x32 =>
 OP (iBin .quo x27 x32) fun x33 =>
 OP (iConv .u32 x33) fun x34 =>
 OP (iConv .u64 w1) fun x37 =>
 OP (iBin .rem x27 x37) fun x38 =>
 OP (iAdrSl 1 out6 i8) fun x39 =>
 OH (oStore 1 h x39 x34) fun _ h_1 =>
 (True) ∧
 OP (iBin .sub i8 (.int .i64 (1))) fun x19 =>
 ([a0, w1, out6] : List Value) = [a0, w1, out6] ∧ L1 [x38, x19] h_1)
 (p116z13 P K out6 rest7 h)) := (CutP_def _ _ _ _).trans (by kernel_rfl)
theorem q116z13 (out6 rest7 : Value) (h : Heap) : p116z13 P K out6 rest7 h =
 (CallP P 83 [out6] h fun x41 h_1 =>
 OP (iConv .u32 rest7) fun x43 =>
 K (.tuple #[x41, x43]) h_1) := (CutP_def _ _ _ _).trans (by kernel_rfl)
def T116 (a0 w1 : Value) (h : Heap) : Prop :=
 OP (iLenSl a0) fun x11 =>
 OH (iMake 116 4 [(.int .u32 (0))] h x11 x11) fun x12 h_1 =>
 OP (iLenSl a0) fun x14 =>
 OP (iBin .sub x14 (.int .i64 (1))) fun x15 =>
 LoopP [(.int .u64 (0)), x15] h_1 fun L1 xs hx =>
 p116z7 P K a0 w1 x12 L1 xs hx
theorem e116 (a0 w1 : Value) (h : Heap) : iwpP P c116 (bodyP [.tmp 4, .tmp 5] K) (frame0 [a0, w1]) h = T116 P K a0 w1 h := by kernel_rfl
theorem f116 {K : VK} {a0 w1 : Value} {h : Heap} (H : T116 Tryz.prog K a0 w1 h) : CallP Tryz.prog 116 [a0, w1] h K :=
 callP_intro k116 (Nat.le_of_ble_eq_true rfl) ((e116 Tryz.prog K a0 w1 h).mpr H)
/-! F117: slices.Reverse[[]byte,byte] -/
noncomputable def c117z3 : ICode := .seq (.seq (.ops none [⟨(some 7), .p (.mv (.tmp 2))⟩,
 ⟨(some 8), .p (.mv (.tmp 3))⟩,
 ⟨(some 9), .p (.bin .lss (.tmp 7) (.tmp 8))⟩])
 (.cond (.tmp 9) (.skip)
 (.exit 0)))
 (.seq (.block 1 (.dops [(none, [⟨(some 14), .p (.mv (.tmp 0)), 0⟩,
 ⟨(some 15), .p (.mv (.tmp 2)), 0⟩,
 ⟨(some 16), .p (.mv (.tmp 0)), 0⟩,
 ⟨(some 17), .p (.mv (.tmp 3)), 0⟩,
 ⟨(some 18), .p (.mv (.tmp 0)), 0⟩,
 ⟨(some 19), .p (.mv (.tmp 3)), 0⟩,
 ⟨(some 20), .p (.adrSl 1 (.tmp 18) (.tmp 19)), 48⟩,
 ⟨(some 21), .l (.load false 1 (.tmp 20)), 112⟩,
 ⟨(some 22), .p (.mv (.tmp 0)), 0⟩,
 ⟨(some 23), .p (.mv (.tmp 2)), 0⟩,
 ⟨(some 24), .p (.adrSl 1 (.tmp 22) (.tmp 23)), 768⟩,
 ⟨(some 25), .l (.load false 1 (.tmp 24)), 1792⟩,
 ⟨(some 26), .p (.adrSl 1 (.tmp 14) (.tmp 15)), 4083⟩,
 ⟨none, .e (.store 1 (.tmp 26) (.tmp 21)), 8179⟩,
 ⟨(some 27), .p (.adrSl 1 (.tmp 16) (.tmp 17)), 16383⟩,
 ⟨none, .e (.store 1 (.tmp 27) (.tmp 25)), 32767⟩])]))
 (.ops none [⟨(some 10), .p (.mv (.tmp 2))⟩,
 ⟨(some 11), .p (.bin .add (.tmp 10) (.const (.int .i64 (1))))⟩,
 ⟨(some 12), .p (.mv (.tmp 3))⟩,
 ⟨(some 13), .p (.bin .sub (.tmp 12) (.const (.int .i64 (1))))⟩,
 ⟨(some 2), .p (.mv (.tmp 11))⟩,
 ⟨(some 3), .p (.mv (.tmp 13))⟩]))
noncomputable def c117 : ICode := .seq (.ops none [⟨(some 4), .p (.mv (.tmp 0))⟩,
 ⟨(some 5), .p (.lenSl (.tmp 4))⟩,
 ⟨(some 6), .p (.bin .sub (.tmp 5) (.const (.int .i64 (1))))⟩,
 ⟨(some 2), .p (.mv (.const (.int .i64 (0))))⟩,
 ⟨(some 3), .p (.mv (.tmp 6))⟩])
 (.block 0 (.loop [0] [2, 3] c117z3))
theorem k117 : compFn Tryz.prog 117 [[], [0], [2, 3], [], [], []] = some (28, c117, []) := by kernel_rfl
def K117z0 (_P : Program) (K : VK) : Kont := bodyP [] K
def K117z2 : Kont := inBlockK 0 (K117z0 P K)
def K117z3 (s0 : Value) (L1 : LK) : Kont := thenK (fun f' h'' => (([0] : List Nat).map f' : List Value) = [s0] ∧ L1 (([2, 3] : List Nat).map f') h'') (K117z2 P K)
def p117z3 (s0 : Value) (L1 : LK) (xs : List Value) (h : Heap) : Prop := CutP (iwpP P c117z3 (K117z3 P K s0 L1)) ([0] ++ [2, 3]) ([s0] ++ xs) h
theorem q117z3 (s0 : Value) (L1 : LK) (i2 j3 : Value) (h : Heap) : p117z3 P K s0 L1 [i2, j3] h =
 (OP (iBin .lss i2 j3) fun x9 =>
 IfP x9
 (OP (iAdrSl 1 s0 j3) fun x20 =>
 OP (iLoad false 1 h x20) fun x21 =>
 (True) ∧
 OP (iAdrSl 1 s0 i2) fun x24 =>
 OP (iLoad false 1 h x24) fun x25 =>
 (True) ∧
 OP (iAdrSl 1 s0 i2) fun x26 =>
 OH (oStore 1 h x26 x21) fun _ h_1 =>
 (True) ∧
 OP (iAdrSl 1 s0 j3) fun x27 =>
 OH (oStore 1 h_1 x27 x25) fun _ h_2 =>
 (True) ∧
 OP (iBin .add i2 (.int .i64 (1))) fun x11 =>
 OP (iBin .sub j3 (.int .i64 (1))) fun x13 =>
 ([s0] : List Value) = [s0] ∧ L1 [x11, x13] h_2)
 (K (.tuple #[]) h)) := (CutP_def _ _ _ _).trans (by kernel_rfl)
def T117 (s0 : Value) (h : Heap) : Prop :=
 OP (iLenSl s0) fun x5 =>
 OP (iBin .sub x5 (.int .i64 (1))) fun x6 =>
 LoopP [(.int .i64 (0)), x6] h fun L1 xs hx =>
 p117z3 P K s0 L1 xs hx
theorem e117 (s0 : Value) (h : Heap) : iwpP P c117 (bodyP [] K) (frame0 [s0]) h = T117 P K s0 h := by kernel_rfl
theorem f117 {K : VK} {s0 : Value} {h : Heap} (H : T117 Tryz.prog K s0 h) : CallP Tryz.prog 117 [s0] h K :=
 callP_intro k117 (Nat.le_of_ble_eq_true rfl) ((e117 Tryz.prog K s0 h).mpr H)
/-! F120: (pommel/num.Int).Neg -/
noncomputable def c120 : ICode := .seq (.ops none [⟨(some 1), .e (.box 81 (.tmp 0))⟩,
 ⟨(some 2), .e (.alloc 81 [(.bool false), (.slice none 0 0)])⟩])
 (.seq (.ops none [⟨(some 3), .p (.fadr 0 (.tmp 1))⟩,
 ⟨(some 4), .l (.load false 1 (.tmp 3))⟩,
 ⟨(some 5), .p (.un .not (.tmp 4))⟩,
 ⟨(some 6), .p (.fadr 1 (.tmp 1))⟩,
 ⟨(some 7), .l (.load false 1 (.tmp 6))⟩,
 ⟨(some 8), .call 82 [(.tmp 5), (.tmp 7)]⟩,
 ⟨none, .e (.store 2 (.tmp 2) (.tmp 8))⟩])
 (.ret))
theorem k120 : compFn Tryz.prog 120 [[], []] = some (9, c120, [.cell true 2 2]) := by kernel_rfl
def T120 (a0 : Value) (h : Heap) : Prop :=
 OH (iBox 81 h a0) fun a1 h_1 =>
 OH (iAlloc 81 [(.bool false), (.slice none 0 0)] h_1) fun x2 h_2 =>
 OP (iFadr 0 a1) fun x3 =>
 OP (iLoad false 1 h_2 x3) fun x4 =>
 OP (iUn .not x4) fun x5 =>
 OP (iFadr 1 a1) fun x6 =>
 OP (iLoad false 1 h_2 x6) fun x7 =>
 CallP P 82 [x5, x7] h_2 fun x8 h_3 =>
 OH (oStore 2 h_3 x2 x8) fun _ h_4 =>
 OP (iLoad true 2 h_4 x2) fun r0 =>
 K r0 h_4
theorem e120 (a0 : Value) (h : Heap) : iwpP P c120 (bodyP [.cell true 2 2] K) (frame0 [a0]) h = T120 P K a0 h := by kernel_rfl
theorem f120 {K : VK} {a0 : Value} {h : Heap} (H : T120 Tryz.prog K a0 h) : CallP Tryz.prog 120 [a0] h K :=
 callP_intro k120 (Nat.le_of_ble_eq_true rfl) ((e120 Tryz.prog K a0 h).mpr H)
/-! F122: (pommel/num.Int).Cmp -/
noncomputable def c122 : ICode := .seq (.ops none [⟨(some 2), .e (.box 81 (.tmp 0))⟩,
 ⟨(some 3), .e (.box 81 (.tmp 1))⟩,
 ⟨(some 4), .p (.mv (.const (.int .i64 (0))))⟩])
 (.seq (.ops none [⟨(some 5), .l (.load true 2 (.tmp 2))⟩,
 ⟨(some 6), .l (.load true 2 (.tmp 3))⟩,
 ⟨(some 7), .call 148 [(.tmp 5), (.tmp 6)]⟩,
 ⟨(some 8), .call 149 [(.tmp 7)]⟩,
 ⟨(some 4), .p (.mv (.tmp 8))⟩])
 (.ret))
theorem k122 : compFn Tryz.prog 122 [[], []] = some (9, c122, [.tmp 4]) := by kernel_rfl
def T122 (a0 b1 : Value) (h : Heap) : Prop :=
 OH (iBox 81 h a0) fun a2 h_1 =>
 OH (iBox 81 h_1 b1) fun b3 h_2 =>
 OP (iLoad true 2 h_2 a2) fun x5 =>
 OP (iLoad true 2 h_2 b3) fun x6 =>
 CallP P 148 [x5, x6] h_2 fun x7 h_3 =>
 CallP P 149 [x7] h_3 fun x8 h_4 =>
 K x8 h_4
theorem e122 (a0 b1 : Value) (h : Heap) : iwpP P c122 (bodyP [.tmp 4] K) (frame0 [a0, b1]) h = T122 P K a0 b1 h := by kernel_rfl
theorem f122 {K : VK} {a0 b1 : Value} {h : Heap} (H : T122 Tryz.prog K a0 b1 h) : CallP Tryz.prog 122 [a0, b1] h K :=
 callP_intro k122 (Nat.le_of_ble_eq_true rfl) ((e122 Tryz.prog K a0 b1 h).mpr H)
/-! F124: pommel/num.times -/
noncomputable def c124z16 : ICode := .seq (.ops none [⟨(some 28), .p (.bin .lss (.tmp 27) (.tmp 26))⟩])
 (.seq (.cond (.tmp 28) (.skip)
 (.exit 2))
 (.seq (.block 3 (.seq (.ops none [⟨(some 29), .p (.mv (.tmp 27))⟩,
 ⟨(some 30), .p (.adrSl 1 (.tmp 25) (.tmp 27))⟩,
 ⟨(some 31), .l (.load false 1 (.tmp 30))⟩,
 ⟨(some 9), .p (.mv (.tmp 29))⟩,
 ⟨(some 10), .p (.mv (.tmp 31))⟩])
 (.seq (.ops none [⟨(some 32), .p (.mv (.tmp 7))⟩,
 ⟨(some 33), .p (.conv .u64 (.tmp 32))⟩,
 ⟨(some 34), .p (.mv (.tmp 10))⟩,
 ⟨(some 35), .p (.conv .u64 (.tmp 34))⟩,
 ⟨(some 36), .p (.bin .mul (.tmp 33) (.tmp 35))⟩,
 ⟨(some 37), .p (.mv (.tmp 5))⟩,
 ⟨(some 38), .p (.mv (.tmp 6))⟩,
 ⟨(some 39), .p (.mv (.tmp 9))⟩,
 ⟨(some 40), .p (.bin .add (.tmp 38) (.tmp 39))⟩,
 ⟨(some 41), .p (.adrSl 1 (.tmp 37) (.tmp 40))⟩,
 ⟨(some 42), .l (.load false 1 (.tmp 41))⟩,
 ⟨(some 43), .p (.conv .u64 (.tmp 42))⟩,
 ⟨(some 44), .p (.bin .add (.tmp 36) (.tmp 43))⟩,
 ⟨(some 45), .p (.mv (.tmp 8))⟩,
 ⟨(some 46), .p (.bin .add (.tmp 44) (.tmp 45))⟩,
 ⟨(some 11), .p (.mv (.tmp 46))⟩])
 (.ops none [⟨(some 47), .p (.mv (.tmp 5))⟩,
 ⟨(some 48), .p (.mv (.tmp 6))⟩,
 ⟨(some 49), .p (.mv (.tmp 9))⟩,
 ⟨(some 50), .p (.bin .add (.tmp 48) (.tmp 49))⟩,
 ⟨(some 51), .p (.mv (.tmp 11))⟩,
 ⟨(some 52), .p (.conv .u32 (.tmp 51))⟩,
 ⟨(some 53), .p (.mv (.tmp 11))⟩,
 ⟨(some 54), .p (.bin .shr (.tmp 53) (.const (.int .u64 (32))))⟩,
 ⟨(some 55), .p (.adrSl 1 (.tmp 47) (.tmp 50))⟩,
 ⟨none, .e (.store 1 (.tmp 55) (.tmp 52))⟩,
 ⟨(some 8), .p (.mv (.tmp 54))⟩]))))
 (.ops none [⟨(some 56), .p (.bin .add (.tmp 27) (.const (.int .i64 (1))))⟩,
 ⟨(some 27), .p (.mv (.tmp 56))⟩])))
noncomputable def c124z23 : ICode := .ops none [⟨(some 57), .p (.mv (.tmp 5))⟩,
 ⟨(some 58), .p (.mv (.tmp 6))⟩,
 ⟨(some 59), .p (.mv (.tmp 1))⟩,
 ⟨(some 60), .p (.lenSl (.tmp 59))⟩,
 ⟨(some 61), .p (.bin .add (.tmp 58) (.tmp 60))⟩,
 ⟨(some 62), .p (.mv (.tmp 8))⟩,
 ⟨(some 63), .p (.conv .u32 (.tmp 62))⟩,
 ⟨(some 64), .p (.adrSl 1 (.tmp 57) (.tmp 61))⟩,
 ⟨none, .e (.store 1 (.tmp 64) (.tmp 63))⟩]
noncomputable def c124z13 : ICode := .cut [1, 5, 6, 8, 18, 19, 20] c124z23
noncomputable def c124z24 : ICode := .ops none [⟨(some 65), .p (.bin .add (.tmp 20) (.const (.int .i64 (1))))⟩,
 ⟨(some 20), .p (.mv (.tmp 65))⟩]
noncomputable def c124z9 : ICode := .cut [1, 5, 18, 19, 20] c124z24
noncomputable def c124z6 : ICode := .seq (.ops none [⟨(some 21), .p (.bin .lss (.tmp 20) (.tmp 19))⟩])
 (.seq (.cond (.tmp 21) (.skip)
 (.exit 0))
 (.seq (.block 1 (.seq (.ops none [⟨(some 22), .p (.mv (.tmp 20))⟩,
 ⟨(some 23), .p (.adrSl 1 (.tmp 18) (.tmp 20))⟩,
 ⟨(some 24), .l (.load false 1 (.tmp 23))⟩,
 ⟨(some 6), .p (.mv (.tmp 22))⟩,
 ⟨(some 7), .p (.mv (.tmp 24))⟩])
 (.seq (.ops none [⟨(some 8), .p (.mv (.const (.int .u64 (0))))⟩])
 (.seq (.seq (.ops none [⟨(some 25), .p (.mv (.tmp 1))⟩,
 ⟨(some 26), .p (.lenSl (.tmp 25))⟩,
 ⟨(some 27), .p (.mv (.const (.int .i64 (0))))⟩])
 (.block 2 (.loop [1, 5, 6, 7, 18, 19, 20, 25, 26] [8, 27] c124z16))) c124z13)))) c124z9))
noncomputable def c124z25 : ICode := .seq (.ops none [⟨(some 66), .p (.mv (.tmp 5))⟩,
 ⟨(some 67), .call 83 [(.tmp 66)]⟩,
 ⟨(some 4), .p (.mv (.tmp 67))⟩])
 (.ret)
noncomputable def c124z3 : ICode := .cut [5] c124z25
noncomputable def c124 : ICode := .seq (.ops none [⟨(some 4), .p (.mv (.const (.slice none 0 0)))⟩])
 (.seq (.ops none [⟨(some 12), .p (.mv (.tmp 0))⟩,
 ⟨(some 13), .p (.lenSl (.tmp 12))⟩,
 ⟨(some 14), .p (.mv (.tmp 1))⟩,
 ⟨(some 15), .p (.lenSl (.tmp 14))⟩,
 ⟨(some 16), .p (.bin .add (.tmp 13) (.tmp 15))⟩,
 ⟨(some 17), .e (.make 116 4 [(.int .u32 (0))] (.tmp 16) (.tmp 16))⟩,
 ⟨(some 5), .p (.mv (.tmp 17))⟩])
 (.seq (.seq (.ops none [⟨(some 18), .p (.mv (.tmp 0))⟩,
 ⟨(some 19), .p (.lenSl (.tmp 18))⟩,
 ⟨(some 20), .p (.mv (.const (.int .i64 (0))))⟩])
 (.block 0 (.loop [1, 5, 18, 19] [20] c124z6))) c124z3))
theorem k124 : compFn Tryz.prog 124 [[], [], [], [1, 5, 18, 19], [20], [], [], [], [], [], [1, 5, 6, 7, 18, 19, 20, 25, 26], [8, 27], [], [], [], [], [], [1, 5, 6, 8, 18, 19, 20], [1, 5, 18, 19, 20], [5], []] = some (68, c124, [.tmp 4]) := by kernel_rfl
def K124z0 (_P : Program) (K : VK) : Kont := bodyP [.tmp 4] K
def K124z3 : Kont := thenK (iwpP P c124z3 (K124z0 P K)) (K124z0 P K)
def K124z5 : Kont := inBlockK 0 (K124z3 P K)
def K124z6 (b1 out5 x18 x19 : Value) (L1 : LK) : Kont := thenK (fun f' h'' => (([1, 5, 18, 19] : List Nat).map f' : List Value) = [b1, out5, x18, x19] ∧ L1 (([20] : List Nat).map f') h'') (K124z5 P K)
def K124z9 (b1 out5 x18 x19 : Value) (L1 : LK) : Kont := thenK (iwpP P c124z9 (K124z6 P K b1 out5 x18 x19 L1)) (K124z6 P K b1 out5 x18 x19 L1)
def K124z10 (b1 out5 x18 x19 : Value) (L1 : LK) : Kont := inBlockK 1 (K124z9 P K b1 out5 x18 x19 L1)
def K124z13 (b1 out5 x18 x19 : Value) (L1 : LK) : Kont := thenK (iwpP P c124z13 (K124z10 P K b1 out5 x18 x19 L1)) (K124z10 P K b1 out5 x18 x19 L1)
def K124z15 (b1 out5 x18 x19 : Value) (L1 : LK) : Kont := inBlockK 2 (K124z13 P K b1 out5 x18 x19 L1)
def K124z16 (b1 out5 i6 x7 x18 x19 x20 x25 x26 : Value) (L1 L2 : LK) : Kont := thenK (fun f' h'' => (([1, 5, 6, 7, 18, 19, 20, 25, 26] : List Nat).map f' : List Value) = [b1, out5, i6, x7, x18, x19, x20, x25, x26] ∧ L2 (([8, 27] : List Nat).map f') h'') (K124z15 P K b1 out5 x18 x19 L1)
def p124z6 (b1 out5 x18 x19 : Value) (L1 : LK) (xs : List Value) (h : Heap) : Prop := CutP (iwpP P c124z6 (K124z6 P K b1 out5 x18 x19 L1)) ([1, 5, 18, 19] ++ [20]) ([b1, out5, x18, x19] ++ xs) h
def p124z16 (b1 out5 i6 x7 x18 x19 x20 x25 x26 : Value) (L1 L2 : LK) (xs : List Value) (h : Heap) : Prop := CutP (iwpP P c124z16 (K124z16 P K b1 out5 i6 x7 x18 x19 x20 x25 x26 L1 L2)) ([1, 5, 6, 7, 18, 19, 20, 25, 26] ++ [8, 27]) ([b1, out5, i6, x7, x18, x19, x20, x25, x26] ++ xs) h
def p124z23 (b1 out5 i6 carry8 x18 x19 x20 : Value) (L1 : LK) (h : Heap) : Prop := CutP (iwpP P c124z23 (K124z10 P K b1 out5 x18 x19 L1)) [1, 5, 6, 8, 18, 19, 20] [b1, out5, i6, carry8, x18, x19, x20] h
def p124z24 (b1 out5 x18 x19 x20 : Value) (L1 : LK) (h : Heap) : Prop := CutP (iwpP P c124z24 (K124z6 P K b1 out5 x18 x19 L1)) [1, 5, 18, 19, 20] [b1, out5, x18, x19, x20] h
def p124z25 (out5 : Value) (h : Heap) : Prop := CutP (iwpP P c124z25 (K124z0 P K)) [5] [out5] h
theorem q124z16 (b1 out5 i6 x7 x18 x19 x20 x25 x26 : Value) (L1 L2 : LK) (carry8 x27 : Value) (h : Heap) : p124z16 P K b1 out5 i6 x7 x18 x19 x20 x25 x26 L1 L2 [carry8, x27] h =
 (OP (iBin .lss x27 x26) fun x28 =>
 IfP x28
 (OP (iAdrSl 1 x25 x27) fun x30 =>
 OP (iLoad false 1 h x30) fun x31 =>
 OP (iConv .u64 x7) fun x33 =>
 OP (iConv .u64 x31) fun x35 =>
 OP (iBin .mul x33 x35) fun x36 =>
 OP (iBin .add i6 x27) fun x40 =>
 OP (iAdrSl 1 out5 x40) fun x41 =>
 OP (iLoad false 1 h x41) fun x42 =>
 OP (iConv .u64 x42) fun x43 =>
 OP (iBin .add x36 x43) fun x44 =>
 OP (iBin .add x44 carry8) fun x46 =>
 OP (iBin .add i6 x27) fun x50 =>
 OP (iConv .u32 x46) fun x52 =>
 OP (iBin .shr x46 (.int .u64 (32))) fun x54 =>
 OP (iAdrSl 1 out5 x50) fun x55 =>
 OH (oStore 1 h x55 x52) fun _ h_1 =>
 OP (iBin .add x27 (.int .i64 (1))) fun x56 =>
 ([b1, out5, i6, x7, x18, x19, x20, x25, x26] : List Value) = [b1, out5, i6, x7, x18, x19, x20, x25, x26] ∧ L2 [x54, x56] h_1)
 (p124z23 P K b1 out5 i6 carry8 x18 x19 x20 L1 h)) := (CutP_def _ _ _ _).trans (by kernel_rfl)
theorem q124z23 (b1 out5 i6 carry8 x18 x19 x20 : Value) (L1 : LK) (h : Heap) : p124z23 P K b1 out5 i6 carry8 x18 x19 x20 L1 h =
 (OP (iLenSl b1) fun x60 =>
 OP (iBin .add i6 x60) fun x61 =>
 OP (iConv .u32 carry8) fun x63 =>
 OP (iAdrSl 1 out5 x61) fun x64 =>
 OH (oStore 1 h x64 x63) fun _ h_1 =>
 p124z24 P K b1 out5 x18 x19 x20 L1 h_1) := (CutP_def _ _ _ _).trans (by kernel_rfl)
theorem q124z24 (b1 out5 x18 x19 x20 : Value) (L1 : LK) (h : Heap) : p124z24 P K b1 out5 x18 x19 x20 L1 h =
 (OP (iBin .add x20 (.int .i64 (1))) fun x65 =>
 ([b1, out5, x18, x19] : List Value) = [b1, out5, x18, x19] ∧ L1 [x65] h) := (CutP_def _ _ _ _).trans (by kernel_rfl)
theorem q124z6 (b1 out5 x18 x19 : Value) (L1 : LK) (x20 : Value) (h : Heap) : p124z6 P K b1 out5 x18 x19 L1 [x20] h =
 (OP (iBin .lss x20 x19) fun x21 =>
 IfP x21
 (OP (iAdrSl 1 x18 x20) fun x23 =>
 OP (iLoad false 1 h x23) fun x24 =>
 OP (iLenSl b1) fun x26 =>
 LoopP [(.int .u64 (0)), (.int .i64 (0))] h fun L2 xs hx =>
 p124z16 P K b1 out5 x20 x24 x18 x19 x20 b1 x26 L1 L2 xs hx)
 (p124z25 P K out5 h)) := (CutP_def _ _ _ _).trans (by kernel_rfl)
theorem q124z25 (out5 : Value) (h : Heap) : p124z25 P K out5 h =
 (CallP P 83 [out5] h fun x67 h_1 =>
 K x67 h_1) := (CutP_def _ _ _ _).trans (by kernel_rfl)
def T124 (a0 b1 : Value) (h : Heap) : Prop :=
 OP (iLenSl a0) fun x13 =>
 OP (iLenSl b1) fun x15 =>
 OP (iBin .add x13 x15) fun x16 =>
 OH (iMake 116 4 [(.int .u32 (0))] h x16 x16) fun x17 h_1 =>
 OP (iLenSl a0) fun x19 =>
 LoopP [(.int .i64 (0))] h_1 fun L1 xs hx =>
 p124z6 P K b1 x17 a0 x19 L1 xs hx
theorem e124 (a0 b1 : Value) (h : Heap) : iwpP P c124 (bodyP [.tmp 4] K) (frame0 [a0, b1]) h = T124 P K a0 b1 h := by kernel_rfl
theorem f124 {K : VK} {a0 b1 : Value} {h : Heap} (H : T124 Tryz.prog K a0 b1 h) : CallP Tryz.prog 124 [a0, b1] h K :=
 callP_intro k124 (Nat.le_of_ble_eq_true rfl) ((e124 Tryz.prog K a0 b1 h).mpr H)
/-! F148: (pommel/num.Int).Sub -/
noncomputable def c148 : ICode := .seq (.ops none [⟨(some 2), .e (.box 81 (.tmp 0))⟩,
 ⟨(some 3), .e (.box 81 (.tmp 1))⟩,
 ⟨(some 4), .e (.alloc 81 [(.bool false), (.slice none 0 0)])⟩])
 (.seq (.dops [(none, [⟨(some 5), .l (.load true 2 (.tmp 2)), 0⟩,
 ⟨(some 6), .l (.load true 2 (.tmp 3)), 0⟩,
 ⟨(some 7), .call 120 [(.tmp 6)], 2⟩,
 ⟨(some 8), .call 48 [(.tmp 5), (.tmp 7)], 7⟩,
 ⟨none, .e (.store 2 (.tmp 4) (.tmp 8)), 15⟩])])
 (.ret))
theorem k148 : compFn Tryz.prog 148 [[], []] = some (9, c148, [.cell true 2 4]) := by kernel_rfl
def T148 (a0 b1 : Value) (h : Heap) : Prop :=
 OH (iBox 81 h a0) fun a2 h_1 =>
 OH (iBox 81 h_1 b1) fun b3 h_2 =>
 OH (iAlloc 81 [(.bool false), (.slice none 0 0)] h_2) fun x4 h_3 =>
 OP (iLoad true 2 h_3 a2) fun x5 =>
 (True) ∧
 OP (iLoad true 2 h_3 b3) fun x6 =>
 (True) ∧
 CallP P 120 [x6] h_3 fun x7 h_4 =>
 (iLoad true 2 h_4 a2 = some x5 ∧ True) ∧
 CallP P 48 [x5, x7] h_4 fun x8 h_5 =>
 (True) ∧
 OH (oStore 2 h_5 x4 x8) fun _ h_6 =>
 (True) ∧
 OP (iLoad true 2 h_6 x4) fun r0 =>
 K r0 h_6
theorem e148 (a0 b1 : Value) (h : Heap) : iwpP P c148 (bodyP [.cell true 2 4] K) (frame0 [a0, b1]) h = T148 P K a0 b1 h := by kernel_rfl
theorem f148 {K : VK} {a0 b1 : Value} {h : Heap} (H : T148 Tryz.prog K a0 b1 h) : CallP Tryz.prog 148 [a0, b1] h K :=
 callP_intro k148 (Nat.le_of_ble_eq_true rfl) ((e148 Tryz.prog K a0 b1 h).mpr H)
/-! F149: (pommel/num.Int).Sign -/
noncomputable def c149 : ICode := .seq (.ops none [⟨(some 1), .e (.box 81 (.tmp 0))⟩,
 ⟨(some 2), .p (.mv (.const (.int .i64 (0))))⟩])
 (.seq (.block 0 (.seq (.ops none [⟨(some 4), .p (.fadr 1 (.tmp 1))⟩,
 ⟨(some 5), .l (.load false 1 (.tmp 4))⟩,
 ⟨(some 6), .p (.lenSl (.tmp 5))⟩,
 ⟨(some 7), .p (.bin .eql (.tmp 6) (.const (.int .i64 (0))))⟩,
 ⟨(some 3), .p (.mv (.tmp 7))⟩])
 (.cond (.tmp 3) (.seq (.ops none [⟨(some 2), .p (.mv (.const (.int .i64 (0))))⟩])
 (.ret))
 (.seq (.ops none [⟨(some 9), .p (.fadr 0 (.tmp 1))⟩,
 ⟨(some 10), .l (.load false 1 (.tmp 9))⟩,
 ⟨(some 8), .p (.mv (.tmp 10))⟩])
 (.cond (.tmp 8) (.seq (.ops none [⟨(some 2), .p (.mv (.const (.int .i64 (-1))))⟩])
 (.ret))
 (.skip))))))
 (.seq (.ops none [⟨(some 2), .p (.mv (.const (.int .i64 (1))))⟩])
 (.ret)))
theorem k149 : compFn Tryz.prog 149 [[], [], [], [], [], [], []] = some (11, c149, [.tmp 2]) := by kernel_rfl
def T149 (P : Program) (K : VK) (a0 : Value) (h : Heap) : Prop :=
 OH (iBox 81 h a0) fun a1 h_1 =>
 OP (iFadr 1 a1) fun x4 =>
 OP (iLoad false 1 h_1 x4) fun x5 =>
 OP (iLenSl x5) fun x6 =>
 OP (iBin .eql x6 (.int .i64 (0))) fun x7 =>
 IfP x7
 (K (.int .i64 (0)) h_1)
 (OP (iFadr 0 a1) fun x9 =>
 OP (iLoad false 1 h_1 x9) fun x10 =>
 IfP x10
 (K (.int .i64 (-1)) h_1)
 (K (.int .i64 (1)) h_1))
theorem e149 (a0 : Value) (h : Heap) : iwpP P c149 (bodyP [.tmp 2] K) (frame0 [a0]) h = T149 P K a0 h := by kernel_rfl
theorem f149 {K : VK} {a0 : Value} {h : Heap} (H : T149 Tryz.prog K a0 h) : CallP Tryz.prog 149 [a0] h K :=
 callP_intro k149 (Nat.le_of_ble_eq_true rfl) ((e149 Tryz.prog K a0 h).mpr H)
end Go.Proofs.YthplaillblmgfaaGreatDoor

namespace Go.Proofs.YthplaillblmgfaaGreatDoor
open Go.Sim
variable (P : Program) (K : VK)
/-! F50: (pommel/num.Rat).Num -/
noncomputable def c50z8 : ICode := .seq (.seq (.ops none [⟨(some 18), .l (.load true 4 (.tmp 1))⟩,
 ⟨(some 19), .call 89 [(.tmp 18)]⟩])
 (.cond (.tmp 19) (.seq (.ops none [⟨(some 20), .p (.mv (.tmp 4))⟩,
 ⟨(some 2), .p (.mv (.tmp 20))⟩,
 ⟨(some 3), .p (.mv (.const (.int .i64 (0))))⟩])
 (.ret))
 (.skip)))
 (.seq (.ops none [⟨(some 21), .p (.fadr 2 (.tmp 1))⟩,
 ⟨(some 22), .p (.fadr 1 (.tmp 21))⟩,
 ⟨(some 23), .l (.load false 1 (.tmp 22))⟩,
 ⟨(some 24), .call 88 [(.tmp 23)]⟩,
 ⟨(some 5), .p (.mv (.tmp 24))⟩])
 (.seq (.seq (.ops none [⟨(some 25), .p (.mv (.tmp 5))⟩,
 ⟨(some 26), .p (.lenS (.tmp 25))⟩,
 ⟨(some 27), .p (.bin .gtr (.tmp 26) (.const (.int .i64 (4000))))⟩])
 (.cond (.tmp 27) (.seq (.ops none [⟨(some 2), .p (.mv (.const (.string ⟨#[]⟩)))⟩,
 ⟨(some 3), .p (.mv (.const (.int .i64 (4))))⟩])
 (.ret))
 (.skip)))
 (.seq (.ops none [⟨(some 28), .p (.mv (.tmp 4))⟩,
 ⟨(some 29), .p (.bin .add (.tmp 28) (.const (.string ⟨#[47]⟩)))⟩,
 ⟨(some 30), .p (.mv (.tmp 5))⟩,
 ⟨(some 31), .p (.bin .add (.tmp 29) (.tmp 30))⟩,
 ⟨(some 2), .p (.mv (.tmp 31))⟩,
 ⟨(some 3), .p (.mv (.const (.int .i64 (0))))⟩])
 (.ret))))
noncomputable def c50 : ICode := .seq (.ops none [⟨(some 1), .e (.box 86 (.tmp 0))⟩,
 ⟨(some 2), .p (.mv (.const (.string ⟨#[]⟩)))⟩,
 ⟨(some 3), .p (.mv (.const (.int .i64 (0))))⟩])
 (.seq (.ops none [⟨(some 6), .p (.fadr 0 (.tmp 1))⟩,
 ⟨(some 7), .p (.fadr 1 (.tmp 6))⟩,
 ⟨(some 8), .l (.load false 1 (.tmp 7))⟩,
 ⟨(some 9), .call 88 [(.tmp 8)]⟩,
 ⟨(some 4), .p (.mv (.tmp 9))⟩])
 (.seq (.seq (.ops none [⟨(some 10), .p (.mv (.tmp 4))⟩,
 ⟨(some 11), .p (.lenS (.tmp 10))⟩,
 ⟨(some 12), .p (.bin .gtr (.tmp 11) (.const (.int .i64 (4000))))⟩])
 (.cond (.tmp 12) (.seq (.ops none [⟨(some 2), .p (.mv (.const (.string ⟨#[]⟩)))⟩,
 ⟨(some 3), .p (.mv (.const (.int .i64 (4))))⟩])
 (.ret))
 (.skip)))
 (.seq (.seq (.ops none [⟨(some 13), .p (.fadr 0 (.tmp 1))⟩,
 ⟨(some 14), .p (.fadr 0 (.tmp 13))⟩,
 ⟨(some 15), .l (.load false 1 (.tmp 14))⟩])
 (.cond (.tmp 15) (.ops none [⟨(some 16), .p (.mv (.tmp 4))⟩,
 ⟨(some 17), .p (.bin .add (.const (.string ⟨#[45]⟩)) (.tmp 16))⟩,
 ⟨(some 4), .p (.mv (.tmp 17))⟩])
 (.skip)))
 (.cut [1, 4] c50z8))))
theorem k50 : compFn Tryz.prog 50 [[], [], [], [], [], [], [1, 4], [], [], [], [], [], [], [], []] = some (32, c50, [.tmp 2, .tmp 3]) := by kernel_rfl
def K50z0 (_P : Program) (K : VK) : Kont := bodyP [.tmp 2, .tmp 3] K
def p50z8 (a1 s4 : Value) (h : Heap) : Prop := CutP (iwpP P c50z8 (K50z0 P K)) [1, 4] [a1, s4] h
theorem q50z8 (a1 s4 : Value) (h : Heap) : p50z8 P K a1 s4 h =
 (OP (iLoad true 4 h a1) fun x18 =>
 CallP P 89 [x18] h fun x19 h_1 =>
 IfP x19
 (K (.tuple #[s4, (.int .i64 (0))]) h_1)
 (OP (iFadr 2 a1) fun x21 =>
 OP (iFadr 1 x21) fun x22 =>
 OP (iLoad false 1 h_1 x22) fun x23 =>
 CallP P 88 [x23] h_1 fun x24 h_2 =>
 OP (iLenS x24) fun x26 =>
 OP (iBin .gtr x26 (.int .i64 (4000))) fun x27 =>
 IfP x27
 (K (.tuple #[(.string ⟨#[]⟩), (.int .i64 (4))]) h_2)
 (OP (iBin .add s4 (.string ⟨#[47]⟩)) fun x29 =>
 OP (iBin .add x29 x24) fun x31 =>
 K (.tuple #[x31, (.int .i64 (0))]) h_2))) := (CutP_def _ _ _ _).trans (by kernel_rfl)
def T50 (a0 : Value) (h : Heap) : Prop :=
 OH (iBox 86 h a0) fun a1 h_1 =>
 OP (iFadr 0 a1) fun x6 =>
 OP (iFadr 1 x6) fun x7 =>
 OP (iLoad false 1 h_1 x7) fun x8 =>
 CallP P 88 [x8] h_1 fun x9 h_2 =>
 OP (iLenS x9) fun x11 =>
 OP (iBin .gtr x11 (.int .i64 (4000))) fun x12 =>
 IfP x12
 (K (.tuple #[(.string ⟨#[]⟩), (.int .i64 (4))]) h_2)
 (OP (iFadr 0 a1) fun x13 =>
 OP (iFadr 0 x13) fun x14 =>
 OP (iLoad false 1 h_2 x14) fun x15 =>
 IfP x15
 (OP (iBin .add (.string ⟨#[45]⟩) x9) fun x17 =>
 p50z8 P K a1 x17 h_2)
 (p50z8 P K a1 x9 h_2))
theorem e50 (a0 : Value) (h : Heap) : iwpP P c50 (bodyP [.tmp 2, .tmp 3] K) (frame0 [a0]) h = T50 P K a0 h := by kernel_rfl
theorem f50 {K : VK} {a0 : Value} {h : Heap} (H : T50 Tryz.prog K a0 h) : CallP Tryz.prog 50 [a0] h K :=
 callP_intro k50 (Nat.le_of_ble_eq_true rfl) ((e50 Tryz.prog K a0 h).mpr H)
/-! F67: pommel/num.Whole -/
noncomputable def c67 : ICode := .seq (.ops none [⟨(some 2), .e (.alloc 86 [(.bool false), (.slice none 0 0), (.bool false), (.slice none 0 0)])⟩])
 (.seq (.ops none [⟨(some 3), .p (.mv (.tmp 0))⟩,
 ⟨(some 4), .call 46 [(.tmp 3)]⟩,
 ⟨(some 5), .call 46 [(.const (.int .i64 (1)))]⟩,
 ⟨(some 6), .p (.build [(.bool false), (.slice none 0 0), (.bool false), (.slice none 0 0)] [(0, 2, (.tmp 4)), (2, 2, (.tmp 5))])⟩,
 ⟨none, .e (.store 4 (.tmp 2) (.tmp 6))⟩])
 (.ret))
theorem k67 : compFn Tryz.prog 67 [[], []] = some (7, c67, [.cell true 4 2]) := by kernel_rfl
def T67 (n0 : Value) (h : Heap) : Prop :=
 OH (iAlloc 86 [(.bool false), (.slice none 0 0), (.bool false), (.slice none 0 0)] h) fun x2 h_1 =>
 CallP P 46 [n0] h_1 fun x4 h_2 =>
 CallP P 46 [(.int .i64 (1))] h_2 fun x5 h_3 =>
 OP (iBuild [(.bool false), (.slice none 0 0), (.bool false), (.slice none 0 0)] [(0, 2, x4), (2, 2, x5)]) fun x6 =>
 OH (oStore 4 h_3 x2 x6) fun _ h_4 =>
 OP (iLoad true 4 h_4 x2) fun r0 =>
 K r0 h_4
theorem e67 (n0 : Value) (h : Heap) : iwpP P c67 (bodyP [.cell true 4 2] K) (frame0 [n0]) h = T67 P K n0 h := by kernel_rfl
theorem f67 {K : VK} {n0 : Value} {h : Heap} (H : T67 Tryz.prog K n0 h) : CallP Tryz.prog 67 [n0] h K :=
 callP_intro k67 (Nat.le_of_ble_eq_true rfl) ((e67 Tryz.prog K n0 h).mpr H)
/-! F68: (pommel/num.Rat).Div -/
noncomputable def c68 : ICode := .seq (.ops none [⟨(some 2), .e (.box 86 (.tmp 0))⟩,
 ⟨(some 3), .e (.box 86 (.tmp 1))⟩,
 ⟨(some 4), .e (.alloc 86 [(.bool false), (.slice none 0 0), (.bool false), (.slice none 0 0)])⟩])
 (.seq (.dops [(none, [⟨(some 5), .p (.fadr 0 (.tmp 2)), 0⟩,
 ⟨(some 6), .l (.load true 2 (.tmp 5)), 1⟩,
 ⟨(some 7), .p (.fadr 2 (.tmp 3)), 0⟩,
 ⟨(some 8), .l (.load true 2 (.tmp 7)), 4⟩,
 ⟨(some 9), .call 105 [(.tmp 6), (.tmp 8)], 15⟩,
 ⟨(some 10), .p (.fadr 2 (.tmp 2)), 0⟩,
 ⟨(some 11), .l (.load true 2 (.tmp 10)), 32⟩,
 ⟨(some 12), .p (.fadr 0 (.tmp 3)), 0⟩,
 ⟨(some 13), .l (.load true 2 (.tmp 12)), 128⟩,
 ⟨(some 14), .call 105 [(.tmp 11), (.tmp 13)], 511⟩,
 ⟨(some 15), .call 104 [(.tmp 9), (.tmp 14)], 1023⟩,
 ⟨none, .e (.store 4 (.tmp 4) (.tmp 15)), 2047⟩])])
 (.ret))
theorem k68 : compFn Tryz.prog 68 [[], []] = some (16, c68, [.cell true 4 4]) := by kernel_rfl
def T68 (a0 b1 : Value) (h : Heap) : Prop :=
 OH (iBox 86 h a0) fun a2 h_1 =>
 OH (iBox 86 h_1 b1) fun b3 h_2 =>
 OH (iAlloc 86 [(.bool false), (.slice none 0 0), (.bool false), (.slice none 0 0)] h_2) fun x4 h_3 =>
 OP (iFadr 0 a2) fun x5 =>
 OP (iLoad true 2 h_3 x5) fun x6 =>
 (True) ∧
 OP (iFadr 2 b3) fun x7 =>
 OP (iLoad true 2 h_3 x7) fun x8 =>
 (True) ∧
 CallP P 105 [x6, x8] h_3 fun x9 h_4 =>
 (True) ∧
 OP (iFadr 2 a2) fun x10 =>
 OP (iLoad true 2 h_4 x10) fun x11 =>
 (iLoad true 2 h_3 x10 = some x11 ∧ True) ∧
 OP (iFadr 0 b3) fun x12 =>
 OP (iLoad true 2 h_4 x12) fun x13 =>
 (iLoad true 2 h_3 x12 = some x13 ∧ True) ∧
 CallP P 105 [x11, x13] h_4 fun x14 h_5 =>
 (True) ∧
 CallP P 104 [x9, x14] h_5 fun x15 h_6 =>
 (True) ∧
 OH (oStore 4 h_6 x4 x15) fun _ h_7 =>
 (True) ∧
 OP (iLoad true 4 h_7 x4) fun r0 =>
 K r0 h_7
theorem e68 (a0 b1 : Value) (h : Heap) : iwpP P c68 (bodyP [.cell true 4 4] K) (frame0 [a0, b1]) h = T68 P K a0 b1 h := by kernel_rfl
theorem f68 {K : VK} {a0 b1 : Value} {h : Heap} (H : T68 Tryz.prog K a0 b1 h) : CallP Tryz.prog 68 [a0, b1] h K :=
 callP_intro k68 (Nat.le_of_ble_eq_true rfl) ((e68 Tryz.prog K a0 b1 h).mpr H)
/-! F88: pommel/num.text -/
noncomputable def c88z26 : ICode := .ops none [⟨(some 28), .p (.pick (.tmp 20) (.tmp 27) (.const (.bool false)))⟩]
noncomputable def c88z24 : ICode := .seq (.ops (some (20, true)) [⟨(some 27), .p (.pick (.tmp 24) (.const (.bool true)) (.tmp 26))⟩])
 (.cut [3, 4, 5, 6, 20, 27] c88z26)
noncomputable def c88z22 : ICode := .seq (.ops (some (24, false)) [⟨(some 25), .p (.mv (.tmp 5))⟩,
 ⟨(some 26), .p (.bin .gtr (.tmp 25) (.const (.int .u32 (0))))⟩])
 (.cut [3, 4, 5, 6, 20, 24, 26] c88z24)
noncomputable def c88z20 : ICode := .seq (.ops (some (20, true)) [⟨(some 21), .p (.mv (.tmp 4))⟩,
 ⟨(some 22), .p (.lenSl (.tmp 21))⟩,
 ⟨(some 23), .p (.bin .gtr (.tmp 22) (.const (.int .i64 (0))))⟩,
 ⟨(some 24), .p (.mv (.tmp 23))⟩])
 (.cut [3, 4, 5, 6, 20, 24] c88z22)
noncomputable def c88z18 : ICode := .cond (.tmp 28) (.skip)
 (.exit 2)
noncomputable def c88z17 : ICode := .seq (.block 3 (.seq (.ops none [⟨(some 31), .p (.mv (.tmp 3))⟩,
 ⟨(some 32), .p (.mv (.tmp 5))⟩,
 ⟨(some 33), .p (.bin .rem (.tmp 32) (.const (.int .u32 (10))))⟩,
 ⟨(some 34), .p (.bin .add (.const (.int .u32 (48))) (.tmp 33))⟩,
 ⟨(some 35), .p (.conv .u8 (.tmp 34))⟩,
 ⟨(some 36), .e (.mkSl 5 1 [(.int .u8 (0))] [(0, 1, (.tmp 35))])⟩,
 ⟨(some 37), .e (.app 5 1 1 (.tmp 31) (.tmp 36))⟩,
 ⟨(some 3), .p (.mv (.tmp 37))⟩])
 (.ops none [⟨(some 38), .p (.mv (.tmp 5))⟩,
 ⟨(some 39), .p (.bin .quo (.tmp 38) (.const (.int .u32 (10))))⟩,
 ⟨(some 5), .p (.mv (.tmp 39))⟩])))
 (.ops none [⟨(some 29), .p (.mv (.tmp 6))⟩,
 ⟨(some 30), .p (.bin .add (.tmp 29) (.const (.int .i64 (1))))⟩,
 ⟨(some 6), .p (.mv (.tmp 30))⟩])
noncomputable def c88z16 : ICode := .seq (.seq (.seq (.ops none [⟨(some 18), .p (.mv (.tmp 6))⟩,
 ⟨(some 19), .p (.bin .lss (.tmp 18) (.const (.int .i64 (9))))⟩,
 ⟨(some 20), .p (.mv (.tmp 19))⟩])
 (.cut [3, 4, 5, 6, 20] c88z20)) c88z18) c88z17
noncomputable def c88z30 : ICode := .ops none [⟨(some 40), .p (.mv (.tmp 4))⟩,
 ⟨(some 0), .p (.mv (.tmp 40))⟩]
noncomputable def c88z13 : ICode := .cut [3, 4] c88z30
noncomputable def c88z8 : ICode := .seq (.seq (.ops none [⟨(some 10), .p (.mv (.tmp 0))⟩,
 ⟨(some 11), .p (.lenSl (.tmp 10))⟩,
 ⟨(some 12), .p (.bin .gtr (.tmp 11) (.const (.int .i64 (0))))⟩])
 (.cond (.tmp 12) (.skip)
 (.exit 0)))
 (.block 1 (.seq (.ops none [⟨(some 14), .p (.mv (.tmp 0))⟩,
 ⟨(some 15), .call 116 [(.tmp 14), (.const (.int .u32 (1000000000)))]⟩,
 ⟨(some 13), .p (.mv (.tmp 15))⟩,
 ⟨(some 16), .p (.ext (.tmp 13) 0)⟩,
 ⟨(some 17), .p (.ext (.tmp 13) 1)⟩,
 ⟨(some 4), .p (.mv (.tmp 16))⟩,
 ⟨(some 5), .p (.mv (.tmp 17))⟩])
 (.seq (.seq (.ops none [⟨(some 6), .p (.mv (.const (.int .i64 (0))))⟩])
 (.block 2 (.loop [4] [3, 5, 6] c88z16))) c88z13)))
noncomputable def c88z31 : ICode := .seq (.ops none [⟨(some 41), .p (.mv (.tmp 3))⟩,
 ⟨(some 42), .call 117 [(.tmp 41)]⟩])
 (.seq (.ops none [⟨(some 43), .p (.mv (.tmp 3))⟩,
 ⟨(some 44), .l (.b2s (.tmp 43))⟩,
 ⟨(some 2), .p (.mv (.tmp 44))⟩])
 (.ret))
noncomputable def c88z6 : ICode := .cut [3] c88z31
noncomputable def c88 : ICode := .seq (.ops none [⟨(some 2), .p (.mv (.const (.string ⟨#[]⟩)))⟩])
 (.seq (.seq (.ops none [⟨(some 7), .p (.mv (.tmp 0))⟩,
 ⟨(some 8), .p (.lenSl (.tmp 7))⟩,
 ⟨(some 9), .p (.bin .eql (.tmp 8) (.const (.int .i64 (0))))⟩])
 (.cond (.tmp 9) (.seq (.ops none [⟨(some 2), .p (.mv (.const (.string ⟨#[48]⟩)))⟩])
 (.ret))
 (.skip)))
 (.seq (.ops none [⟨(some 3), .p (.mv (.const (.slice none 0 0)))⟩])
 (.seq (.block 0 (.loop [] [0, 3] c88z8)) c88z6)))
theorem k88 : compFn Tryz.prog 88 [[], [], [], [], [], [], [0, 3], [], [], [], [], [4], [3, 5, 6], [3, 4, 5, 6, 20], [3, 4, 5, 6, 20, 24], [3, 4, 5, 6, 20, 24, 26], [3, 4, 5, 6, 20, 27], [], [], [], [], [3, 4], [3], [], []] = some (45, c88, [.tmp 2]) := by kernel_rfl
def K88z0 (_P : Program) (K : VK) : Kont := bodyP [.tmp 2] K
def K88z6 : Kont := thenK (iwpP P c88z6 (K88z0 P K)) (K88z0 P K)
def K88z7 : Kont := inBlockK 0 (K88z6 P K)
def K88z8 (L1 : LK) : Kont := thenK (fun f' h'' => (([] : List Nat).map f' : List Value) = [] ∧ L1 (([0, 3] : List Nat).map f') h'') (K88z7 P K)
def K88z11 (L1 : LK) : Kont := inBlockK 1 (K88z8 P K L1)
def K88z13 (L1 : LK) : Kont := thenK (iwpP P c88z13 (K88z11 P K L1)) (K88z11 P K L1)
def K88z15 (L1 : LK) : Kont := inBlockK 2 (K88z13 P K L1)
def K88z16 (q4 : Value) (L1 L2 : LK) : Kont := thenK (fun f' h'' => (([4] : List Nat).map f' : List Value) = [q4] ∧ L2 (([3, 5, 6] : List Nat).map f') h'') (K88z15 P K L1)
def K88z17 (q4 : Value) (L1 L2 : LK) : Kont := thenK (iwpP P c88z17 (K88z16 P K q4 L1 L2)) (K88z16 P K q4 L1 L2)
def K88z18 (q4 : Value) (L1 L2 : LK) : Kont := thenK (iwpP P c88z18 (K88z17 P K q4 L1 L2)) (K88z17 P K q4 L1 L2)
def p88z8 (L1 : LK) (xs : List Value) (h : Heap) : Prop := CutP (iwpP P c88z8 (K88z8 P K L1)) ([] ++ [0, 3]) ([] ++ xs) h
def p88z16 (q4 : Value) (L1 L2 : LK) (xs : List Value) (h : Heap) : Prop := CutP (iwpP P c88z16 (K88z16 P K q4 L1 L2)) ([4] ++ [3, 5, 6]) ([q4] ++ xs) h
def p88z20 (b3 q4 r5 i6 x20 : Value) (L1 L2 : LK) (h : Heap) : Prop := CutP (iwpP P c88z20 (K88z18 P K q4 L1 L2)) [3, 4, 5, 6, 20] [b3, q4, r5, i6, x20] h
def p88z22 (b3 q4 r5 i6 x20 x24 : Value) (L1 L2 : LK) (h : Heap) : Prop := CutP (iwpP P c88z22 (K88z18 P K q4 L1 L2)) [3, 4, 5, 6, 20, 24] [b3, q4, r5, i6, x20, x24] h
def p88z24 (b3 q4 r5 i6 x20 x24 x26 : Value) (L1 L2 : LK) (h : Heap) : Prop := CutP (iwpP P c88z24 (K88z18 P K q4 L1 L2)) [3, 4, 5, 6, 20, 24, 26] [b3, q4, r5, i6, x20, x24, x26] h
def p88z26 (b3 q4 r5 i6 x20 x27 : Value) (L1 L2 : LK) (h : Heap) : Prop := CutP (iwpP P c88z26 (K88z18 P K q4 L1 L2)) [3, 4, 5, 6, 20, 27] [b3, q4, r5, i6, x20, x27] h
def p88z30 (b3 q4 : Value) (L1 : LK) (h : Heap) : Prop := CutP (iwpP P c88z30 (K88z11 P K L1)) [3, 4] [b3, q4] h
def p88z31 (b3 : Value) (h : Heap) : Prop := CutP (iwpP P c88z31 (K88z0 P K)) [3] [b3] h
theorem q88z26 (b3 q4 r5 i6 x20 x27 : Value) (L1 L2 : LK) (h : Heap) : p88z26 P K b3 q4 r5 i6 x20 x27 L1 L2 h =
 (OP (iPick x20 x27 (.bool false)) fun x28 =>
 IfP x28
 (OP (iBin .rem r5 (.int .u32 (10))) fun x33 =>
 OP (iBin .add (.int .u32 (48)) x33) fun x34 =>
 OP (iConv .u8 x34) fun x35 =>
 OH (iMkSl 5 1 [(.int .u8 (0))] h [(0, 1, x35)]) fun x36 h_1 =>
 OH (iApp 5 1 1 h_1 b3 x36) fun x37 h_2 =>
 OP (iBin .quo r5 (.int .u32 (10))) fun x39 =>
 OP (iBin .add i6 (.int .i64 (1))) fun x30 =>
 ([q4] : List Value) = [q4] ∧ L2 [x37, x39, x30] h_2)
 (p88z30 P K b3 q4 L1 h)) := (CutP_def _ _ _ _).trans (by kernel_rfl)
theorem q88z24 (b3 q4 r5 i6 x20 x24 x26 : Value) (L1 L2 : LK) (h : Heap) : p88z24 P K b3 q4 r5 i6 x20 x24 x26 L1 L2 h =
 (GdP x20 true
 (OP (iPick x24 (.bool true) x26) fun x27 =>
 p88z26 P K b3 q4 r5 i6 x20 x27 L1 L2 h)
 (p88z26 P K b3 q4 r5 i6 x20 undef L1 L2 h)) := (CutP_def _ _ _ _).trans (by kernel_rfl)
theorem q88z22 (b3 q4 r5 i6 x20 x24 : Value) (L1 L2 : LK) (h : Heap) : p88z22 P K b3 q4 r5 i6 x20 x24 L1 L2 h =
 (GdP x24 false
 (OP (iBin .gtr r5 (.int .u32 (0))) fun x26 =>
 p88z24 P K b3 q4 r5 i6 x20 x24 x26 L1 L2 h)
 (p88z24 P K b3 q4 r5 i6 x20 x24 undef L1 L2 h)) := (CutP_def _ _ _ _).trans (by kernel_rfl)
theorem q88z20 (b3 q4 r5 i6 x20 : Value) (L1 L2 : LK) (h : Heap) : p88z20 P K b3 q4 r5 i6 x20 L1 L2 h =
 (GdP x20 true
 (OP (iLenSl q4) fun x22 =>
 OP (iBin .gtr x22 (.int .i64 (0))) fun x23 =>
 p88z22 P K b3 q4 r5 i6 x20 x23 L1 L2 h)
 (p88z22 P K b3 q4 r5 i6 x20 undef L1 L2 h)) := (CutP_def _ _ _ _).trans (by kernel_rfl)
theorem q88z16 (q4 : Value) (L1 L2 : LK) (b3 r5 i6 : Value) (h : Heap) : p88z16 P K q4 L1 L2 [b3, r5, i6] h =
 (OP (iBin .lss i6 (.int .i64 (9))) fun x19 =>
 p88z20 P K b3 q4 r5 i6 x19 L1 L2 h) := (CutP_def _ _ _ _).trans (by kernel_rfl)
theorem q88z30 (b3 q4 : Value) (L1 : LK) (h : Heap) : p88z30 P K b3 q4 L1 h =
 (([] : List Value) = [] ∧ L1 [q4, b3] h) := (CutP_def _ _ _ _).trans (by kernel_rfl)
theorem q88z8 (L1 : LK) (x0 b3 : Value) (h : Heap) : p88z8 P K L1 [x0, b3] h =
 (OP (iLenSl x0) fun x11 =>
 OP (iBin .gtr x11 (.int .i64 (0))) fun x12 =>
 IfP x12
 (CallP P 116 [x0, (.int .u32 (1000000000))] h fun x15 h_1 =>
 OP (iExt 0 x15) fun x16 =>
 OP (iExt 1 x15) fun x17 =>
 LoopP [b3, x17, (.int .i64 (0))] h_1 fun L2 xs hx =>
 p88z16 P K x16 L1 L2 xs hx)
 (p88z31 P K b3 h)) := (CutP_def _ _ _ _).trans (by kernel_rfl)
theorem q88z31 (b3 : Value) (h : Heap) : p88z31 P K b3 h =
 (CallP P 117 [b3] h fun x42 h_1 =>
 OP (iB2s h_1 b3) fun x44 =>
 K x44 h_1) := (CutP_def _ _ _ _).trans (by kernel_rfl)
def T88 (x0 : Value) (h : Heap) : Prop :=
 OP (iLenSl x0) fun x8 =>
 OP (iBin .eql x8 (.int .i64 (0))) fun x9 =>
 IfP x9
 (K (.string ⟨#[48]⟩) h)
 (LoopP [x0, (.slice none 0 0)] h fun L1 xs hx =>
 p88z8 P K L1 xs hx)
theorem e88 (x0 : Value) (h : Heap) : iwpP P c88 (bodyP [.tmp 2] K) (frame0 [x0]) h = T88 P K x0 h := by kernel_rfl
theorem f88 {K : VK} {x0 : Value} {h : Heap} (H : T88 Tryz.prog K x0 h) : CallP Tryz.prog 88 [x0] h K :=
 callP_intro k88 (Nat.le_of_ble_eq_true rfl) ((e88 Tryz.prog K x0 h).mpr H)
/-! F89: (pommel/num.Rat).Integer -/
noncomputable def c89z6 : ICode := .ops none [⟨(some 15), .p (.pick (.tmp 8) (.tmp 14) (.const (.bool false)))⟩,
 ⟨(some 2), .p (.mv (.tmp 15))⟩]
noncomputable def c89z4 : ICode := .seq (.ops (some (8, true)) [⟨(some 9), .p (.fadr 2 (.tmp 1))⟩,
 ⟨(some 10), .p (.fadr 1 (.tmp 9))⟩,
 ⟨(some 11), .l (.load false 1 (.tmp 10))⟩,
 ⟨(some 12), .p (.adrSl 1 (.tmp 11) (.const (.int .i64 (0))))⟩,
 ⟨(some 13), .l (.load false 1 (.tmp 12))⟩,
 ⟨(some 14), .p (.bin .eql (.tmp 13) (.const (.int .u32 (1))))⟩])
 (.cut [8, 14] c89z6)
noncomputable def c89z2 : ICode := .ret
noncomputable def c89 : ICode := .seq (.ops none [⟨(some 1), .e (.box 86 (.tmp 0))⟩,
 ⟨(some 2), .p (.mv (.const (.bool false)))⟩])
 (.seq (.seq (.ops none [⟨(some 3), .p (.fadr 2 (.tmp 1))⟩,
 ⟨(some 4), .p (.fadr 1 (.tmp 3))⟩,
 ⟨(some 5), .l (.load false 1 (.tmp 4))⟩,
 ⟨(some 6), .p (.lenSl (.tmp 5))⟩,
 ⟨(some 7), .p (.bin .eql (.tmp 6) (.const (.int .i64 (1))))⟩,
 ⟨(some 8), .p (.mv (.tmp 7))⟩])
 (.cut [1, 8] c89z4)) c89z2)
theorem k89 : compFn Tryz.prog 89 [[], [1, 8], [8, 14], []] = some (16, c89, [.tmp 2]) := by kernel_rfl
def K89z0 (_P : Program) (K : VK) : Kont := bodyP [.tmp 2] K
def K89z2 : Kont := thenK (iwpP P c89z2 (K89z0 P K)) (K89z0 P K)
def p89z4 (a1 x8 : Value) (h : Heap) : Prop := CutP (iwpP P c89z4 (K89z2 P K)) [1, 8] [a1, x8] h
def p89z6 (x8 x14 : Value) (h : Heap) : Prop := CutP (iwpP P c89z6 (K89z2 P K)) [8, 14] [x8, x14] h
theorem q89z6 (x8 x14 : Value) (h : Heap) : p89z6 P K x8 x14 h =
 (OP (iPick x8 x14 (.bool false)) fun x15 =>
 K x15 h) := (CutP_def _ _ _ _).trans (by kernel_rfl)
theorem q89z4 (a1 x8 : Value) (h : Heap) : p89z4 P K a1 x8 h =
 (GdP x8 true
 (OP (iFadr 2 a1) fun x9 =>
 OP (iFadr 1 x9) fun x10 =>
 OP (iLoad false 1 h x10) fun x11 =>
 OP (iAdrSl 1 x11 (.int .i64 (0))) fun x12 =>
 OP (iLoad false 1 h x12) fun x13 =>
 OP (iBin .eql x13 (.int .u32 (1))) fun x14 =>
 p89z6 P K x8 x14 h)
 (p89z6 P K x8 undef h)) := (CutP_def _ _ _ _).trans (by kernel_rfl)
def T89 (a0 : Value) (h : Heap) : Prop :=
 OH (iBox 86 h a0) fun a1 h_1 =>
 OP (iFadr 2 a1) fun x3 =>
 OP (iFadr 1 x3) fun x4 =>
 OP (iLoad false 1 h_1 x4) fun x5 =>
 OP (iLenSl x5) fun x6 =>
 OP (iBin .eql x6 (.int .i64 (1))) fun x7 =>
 p89z4 P K a1 x7 h_1
theorem e89 (a0 : Value) (h : Heap) : iwpP P c89 (bodyP [.tmp 2] K) (frame0 [a0]) h = T89 P K a0 h := by kernel_rfl
theorem f89 {K : VK} {a0 : Value} {h : Heap} (H : T89 Tryz.prog K a0 h) : CallP Tryz.prog 89 [a0] h K :=
 callP_intro k89 (Nat.le_of_ble_eq_true rfl) ((e89 Tryz.prog K a0 h).mpr H)
/-! F104: pommel/num.Ratio -/
noncomputable def c104z4 : ICode := .seq (.ops none [⟨(some 16), .l (.load true 2 (.tmp 2))⟩,
 ⟨(some 17), .l (.load true 2 (.tmp 3))⟩,
 ⟨(some 18), .call 121 [(.tmp 16), (.tmp 17)]⟩,
 ⟨(some 5), .e (.alloc 81 [(.bool false), (.slice none 0 0)])⟩,
 ⟨none, .e (.store 2 (.tmp 5) (.tmp 18))⟩])
 (.seq (.seq (.dops [(none, [⟨(some 19), .l (.load true 2 (.tmp 5)), 0⟩,
 ⟨(some 20), .call 46 [(.const (.int .i64 (1)))], 0⟩,
 ⟨(some 21), .call 122 [(.tmp 19), (.tmp 20)], 3⟩,
 ⟨(some 22), .p (.bin .eql (.tmp 21) (.const (.int .i64 (0)))), 7⟩])])
 (.cond (.tmp 22) (.seq (.ops none [⟨(some 23), .l (.load true 2 (.tmp 2))⟩,
 ⟨(some 24), .l (.load true 2 (.tmp 3))⟩,
 ⟨(some 25), .p (.build [(.bool false), (.slice none 0 0), (.bool false), (.slice none 0 0)] [(0, 2, (.tmp 23)), (2, 2, (.tmp 24))])⟩,
 ⟨none, .e (.store 4 (.tmp 4) (.tmp 25))⟩])
 (.ret))
 (.skip)))
 (.seq (.ops none [⟨(some 27), .l (.load true 2 (.tmp 2))⟩,
 ⟨(some 28), .l (.load true 2 (.tmp 5))⟩,
 ⟨(some 29), .call 123 [(.tmp 27), (.tmp 28)]⟩,
 ⟨(some 26), .p (.mv (.tmp 29))⟩,
 ⟨(some 30), .p (.ext (.tmp 26) 0)⟩,
 ⟨(some 31), .p (.ext (.tmp 26) 1)⟩,
 ⟨(some 6), .e (.alloc 81 [(.bool false), (.slice none 0 0)])⟩,
 ⟨(some 7), .e (.alloc 81 [(.bool false), (.slice none 0 0)])⟩,
 ⟨none, .e (.store 2 (.tmp 6) (.tmp 30))⟩,
 ⟨none, .e (.store 2 (.tmp 7) (.tmp 31))⟩])
 (.seq (.ops none [⟨(some 33), .l (.load true 2 (.tmp 3))⟩,
 ⟨(some 34), .l (.load true 2 (.tmp 5))⟩,
 ⟨(some 35), .call 123 [(.tmp 33), (.tmp 34)]⟩,
 ⟨(some 32), .p (.mv (.tmp 35))⟩,
 ⟨(some 36), .p (.ext (.tmp 32) 0)⟩,
 ⟨(some 37), .p (.ext (.tmp 32) 1)⟩,
 ⟨(some 8), .e (.alloc 81 [(.bool false), (.slice none 0 0)])⟩,
 ⟨(some 9), .e (.alloc 81 [(.bool false), (.slice none 0 0)])⟩,
 ⟨none, .e (.store 2 (.tmp 8) (.tmp 36))⟩,
 ⟨none, .e (.store 2 (.tmp 9) (.tmp 37))⟩])
 (.seq (.ops none [⟨(some 38), .l (.load true 2 (.tmp 6))⟩,
 ⟨(some 39), .l (.load true 2 (.tmp 8))⟩,
 ⟨(some 40), .p (.build [(.bool false), (.slice none 0 0), (.bool false), (.slice none 0 0)] [(0, 2, (.tmp 38)), (2, 2, (.tmp 39))])⟩,
 ⟨none, .e (.store 4 (.tmp 4) (.tmp 40))⟩])
 (.ret)))))
noncomputable def c104 : ICode := .seq (.ops none [⟨(some 2), .e (.box 81 (.tmp 0))⟩,
 ⟨(some 3), .e (.box 81 (.tmp 1))⟩,
 ⟨(some 4), .e (.alloc 86 [(.bool false), (.slice none 0 0), (.bool false), (.slice none 0 0)])⟩])
 (.seq (.seq (.ops none [⟨(some 10), .p (.fadr 0 (.tmp 3))⟩,
 ⟨(some 11), .l (.load false 1 (.tmp 10))⟩])
 (.cond (.tmp 11) (.dops [(none, [⟨(some 12), .l (.load true 2 (.tmp 2)), 0⟩,
 ⟨(some 13), .call 120 [(.tmp 12)], 1⟩,
 ⟨(some 14), .l (.load true 2 (.tmp 3)), 0⟩,
 ⟨(some 15), .call 120 [(.tmp 14)], 7⟩,
 ⟨none, .e (.store 2 (.tmp 2) (.tmp 13)), 15⟩,
 ⟨none, .e (.store 2 (.tmp 3) (.tmp 15)), 31⟩])])
 (.skip)))
 (.cut [2, 3, 4] c104z4))
theorem k104 : compFn Tryz.prog 104 [[], [], [2, 3, 4], [], [], [], [], [], [], []] = some (41, c104, [.cell true 4 4]) := by kernel_rfl
def K104z0 (_P : Program) (K : VK) : Kont := bodyP [.cell true 4 4] K
def p104z4 (num2 den3 x4 : Value) (h : Heap) : Prop := CutP (iwpP P c104z4 (K104z0 P K)) [2, 3, 4] [num2, den3, x4] h
theorem q104z4 (num2 den3 x4 : Value) (h : Heap) : p104z4 P K num2 den3 x4 h =
 (OP (iLoad true 2 h num2) fun x16 =>
 OP (iLoad true 2 h den3) fun x17 =>
 CallP P 121 [x16, x17] h fun x18 h_1 =>
 OH (iAlloc 81 [(.bool false), (.slice none 0 0)] h_1) fun g5 h_2 =>
 OH (oStore 2 h_2 g5 x18) fun _ h_3 =>
 OP (iLoad true 2 h_3 g5) fun x19 =>
 (True) ∧
 CallP P 46 [(.int .i64 (1))] h_3 fun x20 h_4 =>
 (iLoad true 2 h_4 g5 = some x19 ∧ True) ∧
 CallP P 122 [x19, x20] h_4 fun x21 h_5 =>
 (True) ∧
 OP (iBin .eql x21 (.int .i64 (0))) fun x22 =>
 IfP x22
 (OP (iLoad true 2 h_5 num2) fun x23 =>
 OP (iLoad true 2 h_5 den3) fun x24 =>
 OP (iBuild [(.bool false), (.slice none 0 0), (.bool false), (.slice none 0 0)] [(0, 2, x23), (2, 2, x24)]) fun x25 =>
 OH (oStore 4 h_5 x4 x25) fun _ h_6 =>
 OP (iLoad true 4 h_6 x4) fun r0 =>
 K r0 h_6)
 (OP (iLoad true 2 h_5 num2) fun x27 =>
 OP (iLoad true 2 h_5 g5) fun x28 =>
 CallP P 123 [x27, x28] h_5 fun x29 h_6 =>
 OP (iExt 0 x29) fun x30 =>
 OP (iExt 1 x29) fun x31 =>
 OH (iAlloc 81 [(.bool false), (.slice none 0 0)] h_6) fun n6 h_7 =>
 OH (iAlloc 81 [(.bool false), (.slice none 0 0)] h_7) fun x7 h_8 =>
 OH (oStore 2 h_8 n6 x30) fun _ h_9 =>
 OH (oStore 2 h_9 x7 x31) fun _ h_10 =>
 OP (iLoad true 2 h_10 den3) fun x33 =>
 OP (iLoad true 2 h_10 g5) fun x34 =>
 CallP P 123 [x33, x34] h_10 fun x35 h_11 =>
 OP (iExt 0 x35) fun x36 =>
 OP (iExt 1 x35) fun x37 =>
 OH (iAlloc 81 [(.bool false), (.slice none 0 0)] h_11) fun d8 h_12 =>
 OH (iAlloc 81 [(.bool false), (.slice none 0 0)] h_12) fun x9 h_13 =>
 OH (oStore 2 h_13 d8 x36) fun _ h_14 =>
 OH (oStore 2 h_14 x9 x37) fun _ h_15 =>
 OP (iLoad true 2 h_15 n6) fun x38 =>
 OP (iLoad true 2 h_15 d8) fun x39 =>
 OP (iBuild [(.bool false), (.slice none 0 0), (.bool false), (.slice none 0 0)] [(0, 2, x38), (2, 2, x39)]) fun x40 =>
 OH (oStore 4 h_15 x4 x40) fun _ h_16 =>
 OP (iLoad true 4 h_16 x4) fun r0 =>
 K r0 h_16)) := (CutP_def _ _ _ _).trans (by kernel_rfl)
def T104 (num0 den1 : Value) (h : Heap) : Prop :=
 OH (iBox 81 h num0) fun num2 h_1 =>
 OH (iBox 81 h_1 den1) fun den3 h_2 =>
 OH (iAlloc 86 [(.bool false), (.slice none 0 0), (.bool false), (.slice none 0 0)] h_2) fun x4 h_3 =>
 OP (iFadr 0 den3) fun x10 =>
 OP (iLoad false 1 h_3 x10) fun x11 =>
 IfP x11
 (OP (iLoad true 2 h_3 num2) fun x12 =>
 (True) ∧
 CallP P 120 [x12] h_3 fun x13 h_4 =>
 (True) ∧
 OP (iLoad true 2 h_4 den3) fun x14 =>
 (iLoad true 2 h_3 den3 = some x14 ∧ True) ∧
 CallP P 120 [x14] h_4 fun x15 h_5 =>
 (True) ∧
 OH (oStore 2 h_5 num2 x13) fun _ h_6 =>
 (True) ∧
 OH (oStore 2 h_6 den3 x15) fun _ h_7 =>
 (True) ∧
 p104z4 P K num2 den3 x4 h_7)
 (p104z4 P K num2 den3 x4 h_3)
theorem e104 (num0 den1 : Value) (h : Heap) : iwpP P c104 (bodyP [.cell true 4 4] K) (frame0 [num0, den1]) h = T104 P K num0 den1 h := by kernel_rfl
theorem f104 {K : VK} {num0 den1 : Value} {h : Heap} (H : T104 Tryz.prog K num0 den1 h) : CallP Tryz.prog 104 [num0, den1] h K :=
 callP_intro k104 (Nat.le_of_ble_eq_true rfl) ((e104 Tryz.prog K num0 den1 h).mpr H)
/-! F121: (pommel/num.Int).Gcd -/
noncomputable def c121z5 : ICode := .seq (.seq (.ops none [⟨(some 13), .p (.mv (.tmp 6))⟩,
 ⟨(some 14), .p (.lenSl (.tmp 13))⟩,
 ⟨(some 15), .p (.bin .gtr (.tmp 14) (.const (.int .i64 (0))))⟩])
 (.cond (.tmp 15) (.skip)
 (.exit 0)))
 (.block 1 (.seq (.ops none [⟨(some 17), .p (.mv (.tmp 5))⟩,
 ⟨(some 18), .p (.mv (.tmp 6))⟩,
 ⟨(some 19), .call 147 [(.tmp 17), (.tmp 18)]⟩,
 ⟨(some 16), .p (.mv (.tmp 19))⟩,
 ⟨(some 20), .p (.ext (.tmp 16) 0)⟩,
 ⟨(some 21), .p (.ext (.tmp 16) 1)⟩,
 ⟨(some 7), .p (.mv (.tmp 20))⟩,
 ⟨(some 8), .p (.mv (.tmp 21))⟩])
 (.ops none [⟨(some 22), .p (.mv (.tmp 6))⟩,
 ⟨(some 23), .p (.mv (.tmp 8))⟩,
 ⟨(some 5), .p (.mv (.tmp 22))⟩,
 ⟨(some 6), .p (.mv (.tmp 23))⟩])))
noncomputable def c121z10 : ICode := .seq (.ops none [⟨(some 24), .p (.mv (.tmp 5))⟩,
 ⟨(some 25), .call 82 [(.const (.bool false)), (.tmp 24)]⟩,
 ⟨none, .e (.store 2 (.tmp 4) (.tmp 25))⟩])
 (.ret)
noncomputable def c121z3 : ICode := .cut [4, 5] c121z10
noncomputable def c121 : ICode := .seq (.ops none [⟨(some 2), .e (.box 81 (.tmp 0))⟩,
 ⟨(some 3), .e (.box 81 (.tmp 1))⟩,
 ⟨(some 4), .e (.alloc 81 [(.bool false), (.slice none 0 0)])⟩])
 (.seq (.dops [(none, [⟨(some 9), .p (.fadr 1 (.tmp 2)), 0⟩,
 ⟨(some 10), .l (.load false 1 (.tmp 9)), 1⟩,
 ⟨(some 11), .p (.fadr 1 (.tmp 3)), 0⟩,
 ⟨(some 12), .l (.load false 1 (.tmp 11)), 4⟩,
 ⟨(some 5), .p (.mv (.tmp 10)), 3⟩,
 ⟨(some 6), .p (.mv (.tmp 12)), 31⟩])])
 (.seq (.block 0 (.loop [4] [5, 6] c121z5)) c121z3))
theorem k121 : compFn Tryz.prog 121 [[], [], [4], [5, 6], [], [], [], [4, 5], []] = some (26, c121, [.cell true 2 4]) := by kernel_rfl
def K121z0 (_P : Program) (K : VK) : Kont := bodyP [.cell true 2 4] K
def K121z3 : Kont := thenK (iwpP P c121z3 (K121z0 P K)) (K121z0 P K)
def K121z4 : Kont := inBlockK 0 (K121z3 P K)
def K121z5 (x4 : Value) (L1 : LK) : Kont := thenK (fun f' h'' => (([4] : List Nat).map f' : List Value) = [x4] ∧ L1 (([5, 6] : List Nat).map f') h'') (K121z4 P K)
def p121z5 (x4 : Value) (L1 : LK) (xs : List Value) (h : Heap) : Prop := CutP (iwpP P c121z5 (K121z5 P K x4 L1)) ([4] ++ [5, 6]) ([x4] ++ xs) h
def p121z10 (x4 x5 : Value) (h : Heap) : Prop := CutP (iwpP P c121z10 (K121z0 P K)) [4, 5] [x4, x5] h
theorem q121z5 (x4 : Value) (L1 : LK) (x5 y6 : Value) (h : Heap) : p121z5 P K x4 L1 [x5, y6] h =
 (OP (iLenSl y6) fun x14 =>
 OP (iBin .gtr x14 (.int .i64 (0))) fun x15 =>
 IfP x15
 (CallP P 147 [x5, y6] h fun x19 h_1 =>
 OP (iExt 0 x19) fun x20 =>
 OP (iExt 1 x19) fun x21 =>
 ([x4] : List Value) = [x4] ∧ L1 [y6, x21] h_1)
 (p121z10 P K x4 x5 h)) := (CutP_def _ _ _ _).trans (by kernel_rfl)
theorem q121z10 (x4 x5 : Value) (h : Heap) : p121z10 P K x4 x5 h =
 (CallP P 82 [(.bool false), x5] h fun x25 h_1 =>
 OH (oStore 2 h_1 x4 x25) fun _ h_2 =>
 OP (iLoad true 2 h_2 x4) fun r0 =>
 K r0 h_2) := (CutP_def _ _ _ _).trans (by kernel_rfl)
def T121 (a0 b1 : Value) (h : Heap) : Prop :=
 OH (iBox 81 h a0) fun a2 h_1 =>
 OH (iBox 81 h_1 b1) fun b3 h_2 =>
 OH (iAlloc 81 [(.bool false), (.slice none 0 0)] h_2) fun x4 h_3 =>
 OP (iFadr 1 a2) fun x9 =>
 OP (iLoad false 1 h_3 x9) fun x10 =>
 (True) ∧
 OP (iFadr 1 b3) fun x11 =>
 OP (iLoad false 1 h_3 x11) fun x12 =>
 (True) ∧
 LoopP [x10, x12] h_3 fun L1 xs hx =>
 p121z5 P K x4 L1 xs hx
theorem e121 (a0 b1 : Value) (h : Heap) : iwpP P c121 (bodyP [.cell true 2 4] K) (frame0 [a0, b1]) h = T121 P K a0 b1 h := by kernel_rfl
theorem f121 {K : VK} {a0 b1 : Value} {h : Heap} (H : T121 Tryz.prog K a0 b1 h) : CallP Tryz.prog 121 [a0, b1] h K :=
 callP_intro k121 (Nat.le_of_ble_eq_true rfl) ((e121 Tryz.prog K a0 b1 h).mpr H)
/-! F123: (pommel/num.Int).Quo -/
noncomputable def c123z9 : ICode := .ops none [⟨(some 38), .p (.pick (.tmp 32) (.tmp 37) (.const (.bool false)))⟩]
noncomputable def c123z7 : ICode := .seq (.ops (some (32, true)) [⟨(some 33), .p (.fadr 0 (.tmp 2))⟩,
 ⟨(some 34), .l (.load false 1 (.tmp 33))⟩,
 ⟨(some 35), .p (.fadr 0 (.tmp 3))⟩,
 ⟨(some 36), .l (.load false 1 (.tmp 35))⟩,
 ⟨(some 37), .p (.eqb true (.tmp 34) (.tmp 36))⟩])
 (.cut [3, 4, 5, 8, 9, 32, 37] c123z9)
noncomputable def c123z5 : ICode := .cond (.tmp 38) (.dops [(none, [⟨(some 39), .l (.load true 2 (.tmp 8)), 0⟩,
 ⟨(some 40), .call 46 [(.const (.int .i64 (1)))], 0⟩,
 ⟨(some 41), .call 148 [(.tmp 39), (.tmp 40)], 3⟩,
 ⟨(some 42), .l (.load true 2 (.tmp 9)), 0⟩,
 ⟨(some 43), .l (.load true 2 (.tmp 3)), 0⟩,
 ⟨(some 44), .call 48 [(.tmp 42), (.tmp 43)], 31⟩,
 ⟨none, .e (.store 2 (.tmp 8) (.tmp 41)), 63⟩,
 ⟨none, .e (.store 2 (.tmp 9) (.tmp 44)), 127⟩])])
 (.skip)
noncomputable def c123z10 : ICode := .seq (.dops [(none, [⟨(some 45), .l (.load true 2 (.tmp 8)), 0⟩,
 ⟨(some 46), .l (.load true 2 (.tmp 9)), 0⟩,
 ⟨none, .e (.store 2 (.tmp 4) (.tmp 45)), 1⟩,
 ⟨none, .e (.store 2 (.tmp 5) (.tmp 46)), 7⟩])])
 (.ret)
noncomputable def c123z4 : ICode := .cut [4, 5, 8, 9] c123z10
noncomputable def c123 : ICode := .seq (.ops none [⟨(some 2), .e (.box 81 (.tmp 0))⟩,
 ⟨(some 3), .e (.box 81 (.tmp 1))⟩,
 ⟨(some 4), .e (.alloc 81 [(.bool false), (.slice none 0 0)])⟩,
 ⟨(some 5), .e (.alloc 81 [(.bool false), (.slice none 0 0)])⟩])
 (.seq (.ops none [⟨(some 11), .p (.fadr 1 (.tmp 2))⟩,
 ⟨(some 12), .l (.load false 1 (.tmp 11))⟩,
 ⟨(some 13), .p (.fadr 1 (.tmp 3))⟩,
 ⟨(some 14), .l (.load false 1 (.tmp 13))⟩,
 ⟨(some 15), .call 147 [(.tmp 12), (.tmp 14)]⟩,
 ⟨(some 10), .p (.mv (.tmp 15))⟩,
 ⟨(some 16), .p (.ext (.tmp 10) 0)⟩,
 ⟨(some 17), .p (.ext (.tmp 10) 1)⟩,
 ⟨(some 6), .p (.mv (.tmp 16))⟩,
 ⟨(some 7), .p (.mv (.tmp 17))⟩])
 (.seq (.dops [(none, [⟨(some 8), .e (.fl (.alloc 81 [(.bool false), (.slice none 0 0)])), 0⟩,
 ⟨(some 9), .e (.fl (.alloc 81 [(.bool false), (.slice none 0 0)])), 0⟩,
 ⟨(some 18), .p (.fadr 0 (.tmp 2)), 0⟩,
 ⟨(some 19), .l (.load false 1 (.tmp 18)), 4⟩,
 ⟨(some 20), .p (.fadr 0 (.tmp 3)), 0⟩,
 ⟨(some 21), .l (.load false 1 (.tmp 20)), 16⟩,
 ⟨(some 22), .p (.eqb true (.tmp 19) (.tmp 21)), 60⟩,
 ⟨(some 23), .p (.mv (.tmp 6)), 0⟩,
 ⟨(some 24), .call 82 [(.tmp 22), (.tmp 23)], 252⟩,
 ⟨(some 25), .p (.fadr 0 (.tmp 2)), 0⟩,
 ⟨(some 26), .l (.load false 1 (.tmp 25)), 512⟩,
 ⟨(some 27), .p (.mv (.tmp 7)), 0⟩,
 ⟨(some 28), .call 82 [(.tmp 26), (.tmp 27)], 4092⟩,
 ⟨none, .e (.store 2 (.tmp 8) (.tmp 24)), 8191⟩,
 ⟨none, .e (.store 2 (.tmp 9) (.tmp 28)), 16383⟩])])
 (.seq (.seq (.seq (.ops none [⟨(some 29), .p (.mv (.tmp 7))⟩,
 ⟨(some 30), .p (.lenSl (.tmp 29))⟩,
 ⟨(some 31), .p (.bin .gtr (.tmp 30) (.const (.int .i64 (0))))⟩,
 ⟨(some 32), .p (.mv (.tmp 31))⟩])
 (.cut [2, 3, 4, 5, 8, 9, 32] c123z7)) c123z5) c123z4)))
theorem k123 : compFn Tryz.prog 123 [[], [], [], [2, 3, 4, 5, 8, 9, 32], [3, 4, 5, 8, 9, 32, 37], [], [4, 5, 8, 9], []] = some (47, c123, [.cell true 2 4, .cell true 2 5]) := by kernel_rfl
def K123z0 (_P : Program) (K : VK) : Kont := bodyP [.cell true 2 4, .cell true 2 5] K
def K123z4 : Kont := thenK (iwpP P c123z4 (K123z0 P K)) (K123z0 P K)
def K123z5 : Kont := thenK (iwpP P c123z5 (K123z4 P K)) (K123z4 P K)
def p123z7 (a2 b3 quo4 rest5 x8 y9 x32 : Value) (h : Heap) : Prop := CutP (iwpP P c123z7 (K123z5 P K)) [2, 3, 4, 5, 8, 9, 32] [a2, b3, quo4, rest5, x8, y9, x32] h
def p123z9 (b3 quo4 rest5 x8 y9 x32 x37 : Value) (h : Heap) : Prop := CutP (iwpP P c123z9 (K123z5 P K)) [3, 4, 5, 8, 9, 32, 37] [b3, quo4, rest5, x8, y9, x32, x37] h
def p123z10 (quo4 rest5 x8 y9 : Value) (h : Heap) : Prop := CutP (iwpP P c123z10 (K123z0 P K)) [4, 5, 8, 9] [quo4, rest5, x8, y9] h
theorem q123z9 (b3 quo4 rest5 x8 y9 x32 x37 : Value) (h : Heap) : p123z9 P K b3 quo4 rest5 x8 y9 x32 x37 h =
 (OP (iPick x32 x37 (.bool false)) fun x38 =>
 IfP x38
 (OP (iLoad true 2 h x8) fun x39 =>
 (True) ∧
 CallP P 46 [(.int .i64 (1))] h fun x40 h_1 =>
 (iLoad true 2 h_1 x8 = some x39 ∧ True) ∧
 CallP P 148 [x39, x40] h_1 fun x41 h_2 =>
 (True) ∧
 OP (iLoad true 2 h_2 y9) fun x42 =>
 (iLoad true 2 h y9 = some x42 ∧ iLoad true 2 h_1 y9 = some x42 ∧ True) ∧
 OP (iLoad true 2 h_2 b3) fun x43 =>
 (iLoad true 2 h b3 = some x43 ∧ iLoad true 2 h_1 b3 = some x43 ∧ True) ∧
 CallP P 48 [x42, x43] h_2 fun x44 h_3 =>
 (True) ∧
 OH (oStore 2 h_3 x8 x41) fun _ h_4 =>
 (True) ∧
 OH (oStore 2 h_4 y9 x44) fun _ h_5 =>
 (True) ∧
 p123z10 P K quo4 rest5 x8 y9 h_5)
 (p123z10 P K quo4 rest5 x8 y9 h)) := (CutP_def _ _ _ _).trans (by kernel_rfl)
theorem q123z7 (a2 b3 quo4 rest5 x8 y9 x32 : Value) (h : Heap) : p123z7 P K a2 b3 quo4 rest5 x8 y9 x32 h =
 (GdP x32 true
 (OP (iFadr 0 a2) fun x33 =>
 OP (iLoad false 1 h x33) fun x34 =>
 OP (iFadr 0 b3) fun x35 =>
 OP (iLoad false 1 h x35) fun x36 =>
 OP (iEqb true x34 x36) fun x37 =>
 p123z9 P K b3 quo4 rest5 x8 y9 x32 x37 h)
 (p123z9 P K b3 quo4 rest5 x8 y9 x32 undef h)) := (CutP_def _ _ _ _).trans (by kernel_rfl)
theorem q123z10 (quo4 rest5 x8 y9 : Value) (h : Heap) : p123z10 P K quo4 rest5 x8 y9 h =
 (OP (iLoad true 2 h x8) fun x45 =>
 (True) ∧
 OP (iLoad true 2 h y9) fun x46 =>
 (True) ∧
 OH (oStore 2 h quo4 x45) fun _ h_1 =>
 (iLoad true 2 h_1 y9 = some x46 ∧ True) ∧
 OH (oStore 2 h_1 rest5 x46) fun _ h_2 =>
 (True) ∧
 OP (iLoad true 2 h_2 quo4) fun r0 =>
 OP (iLoad true 2 h_2 rest5) fun r1 =>
 K (.tuple #[r0, r1]) h_2) := (CutP_def _ _ _ _).trans (by kernel_rfl)
def T123 (a0 b1 : Value) (h : Heap) : Prop :=
 OH (iBox 81 h a0) fun a2 h_1 =>
 OH (iBox 81 h_1 b1) fun b3 h_2 =>
 OH (iAlloc 81 [(.bool false), (.slice none 0 0)] h_2) fun quo4 h_3 =>
 OH (iAlloc 81 [(.bool false), (.slice none 0 0)] h_3) fun rest5 h_4 =>
 OP (iFadr 1 a2) fun x11 =>
 OP (iLoad false 1 h_4 x11) fun x12 =>
 OP (iFadr 1 b3) fun x13 =>
 OP (iLoad false 1 h_4 x13) fun x14 =>
 CallP P 147 [x12, x14] h_4 fun x15 h_5 =>
 OP (iExt 0 x15) fun x16 =>
 OP (iExt 1 x15) fun x17 =>
 OH (iAlloc 81 [(.bool false), (.slice none 0 0)] h_5) fun x8 h_6 =>
 OP (iObj h_6 x8) fun u =>
 (True) ∧
 OH (iAlloc 81 [(.bool false), (.slice none 0 0)] h_6) fun y9 h_7 =>
 OP (iObj h_7 y9) fun u_1 =>
 (iObj h_7 x8 = some u ∧ True) ∧
 OP (iFadr 0 a2) fun x18 =>
 OP (iLoad false 1 h_7 x18) fun x19 =>
 (iLoad false 1 h_5 x18 = some x19 ∧ iLoad false 1 h_6 x18 = some x19 ∧ True) ∧
 OP (iFadr 0 b3) fun x20 =>
 OP (iLoad false 1 h_7 x20) fun x21 =>
 (iLoad false 1 h_5 x20 = some x21 ∧ iLoad false 1 h_6 x20 = some x21 ∧ True) ∧
 OP (iEqb true x19 x21) fun x22 =>
 CallP P 82 [x22, x16] h_7 fun x24 h_8 =>
 (iObj h_8 x8 = some u ∧ iObj h_8 y9 = some u_1 ∧ True) ∧
 OP (iFadr 0 a2) fun x25 =>
 OP (iLoad false 1 h_8 x25) fun x26 =>
 (iLoad false 1 h_5 x25 = some x26 ∧ iLoad false 1 h_6 x25 = some x26 ∧ iLoad false 1 h_7 x25 = some x26 ∧ True) ∧
 CallP P 82 [x26, x17] h_8 fun x28 h_9 =>
 (iObj h_9 x8 = some u ∧ iObj h_9 y9 = some u_1 ∧ True) ∧
 OH (oStore 2 h_9 x8 x24) fun _ h_10 =>
 (True) ∧
 OH (oStore 2 h_10 y9 x28) fun _ h_11 =>
 (True) ∧
 OP (iLenSl x17) fun x30 =>
 OP (iBin .gtr x30 (.int .i64 (0))) fun x31 =>
 p123z7 P K a2 b3 quo4 rest5 x8 y9 x31 h_11
theorem e123 (a0 b1 : Value) (h : Heap) : iwpP P c123 (bodyP [.cell true 2 4, .cell true 2 5] K) (frame0 [a0, b1]) h = T123 P K a0 b1 h := by kernel_rfl
theorem f123 {K : VK} {a0 b1 : Value} {h : Heap} (H : T123 Tryz.prog K a0 b1 h) : CallP Tryz.prog 123 [a0, b1] h K :=
 callP_intro k123 (Nat.le_of_ble_eq_true rfl) ((e123 Tryz.prog K a0 b1 h).mpr H)
/-! F147: pommel/num.part -/
noncomputable def c147z16 : ICode := .seq (.seq (.ops none [⟨(some 61), .p (.mv (.tmp 13))⟩,
 ⟨(some 62), .p (.bin .geq (.tmp 61) (.const (.int .i64 (0))))⟩])
 (.cond (.tmp 62) (.skip)
 (.exit 0)))
 (.seq (.block 1 (.ops none [⟨(some 65), .p (.mv (.tmp 12))⟩,
 ⟨(some 66), .p (.mv (.tmp 13))⟩,
 ⟨(some 67), .p (.mv (.tmp 10))⟩,
 ⟨(some 68), .p (.mv (.tmp 13))⟩,
 ⟨(some 69), .p (.mv (.tmp 13))⟩,
 ⟨(some 70), .p (.mv (.tmp 11))⟩,
 ⟨(some 71), .p (.bin .add (.tmp 69) (.tmp 70))⟩,
 ⟨(some 72), .p (.bin .add (.tmp 71) (.const (.int .i64 (1))))⟩,
 ⟨(some 73), .p (.slSl 116 1 (.tmp 67) (some (.tmp 68)) (some (.tmp 72)))⟩,
 ⟨(some 74), .p (.mv (.tmp 9))⟩,
 ⟨(some 75), .call 166 [(.tmp 73), (.tmp 74)]⟩,
 ⟨(some 76), .p (.adrSl 1 (.tmp 65) (.tmp 66))⟩,
 ⟨none, .e (.store 1 (.tmp 76) (.tmp 75))⟩]))
 (.ops none [⟨(some 63), .p (.mv (.tmp 13))⟩,
 ⟨(some 64), .p (.bin .sub (.tmp 63) (.const (.int .i64 (1))))⟩,
 ⟨(some 13), .p (.mv (.tmp 64))⟩]))
noncomputable def c147z21 : ICode := .seq (.dops [(none, [⟨(some 77), .p (.mv (.tmp 12)), 0⟩,
 ⟨(some 78), .call 83 [(.tmp 77)], 1⟩,
 ⟨(some 79), .p (.mv (.tmp 10)), 0⟩,
 ⟨(some 80), .p (.mv (.tmp 11)), 0⟩,
 ⟨(some 81), .p (.slSl 116 1 (.tmp 79) none (some (.tmp 80))), 12⟩,
 ⟨(some 82), .call 83 [(.tmp 81)], 31⟩,
 ⟨(some 83), .p (.mv (.tmp 8)), 0⟩,
 ⟨(some 84), .call 167 [(.tmp 82), (.tmp 83)], 127⟩,
 ⟨(some 4), .p (.mv (.tmp 78)), 255⟩,
 ⟨(some 5), .p (.mv (.tmp 84)), 511⟩])])
 (.ret)
noncomputable def c147z13 : ICode := .cut [8, 10, 11, 12] c147z21
noncomputable def c147 : ICode := .seq (.ops none [⟨(some 4), .p (.mv (.const (.slice none 0 0)))⟩,
 ⟨(some 5), .p (.mv (.const (.slice none 0 0)))⟩])
 (.seq (.seq (.ops none [⟨(some 14), .p (.mv (.tmp 0))⟩,
 ⟨(some 15), .p (.mv (.tmp 1))⟩,
 ⟨(some 16), .call 86 [(.tmp 14), (.tmp 15)]⟩,
 ⟨(some 17), .p (.bin .lss (.tmp 16) (.const (.int .i64 (0))))⟩])
 (.cond (.tmp 17) (.seq (.ops none [⟨(some 18), .p (.mv (.tmp 0))⟩,
 ⟨(some 19), .e (.app 116 1 4 (.const (.slice none 0 0)) (.tmp 18))⟩,
 ⟨(some 4), .p (.mv (.const (.slice none 0 0)))⟩,
 ⟨(some 5), .p (.mv (.tmp 19))⟩])
 (.ret))
 (.skip)))
 (.seq (.seq (.ops none [⟨(some 20), .p (.mv (.tmp 1))⟩,
 ⟨(some 21), .p (.lenSl (.tmp 20))⟩,
 ⟨(some 22), .p (.bin .eql (.tmp 21) (.const (.int .i64 (1))))⟩])
 (.cond (.tmp 22) (.seq (.ops none [⟨(some 24), .p (.mv (.tmp 0))⟩,
 ⟨(some 25), .p (.mv (.tmp 1))⟩,
 ⟨(some 26), .p (.adrSl 1 (.tmp 25) (.const (.int .i64 (0))))⟩,
 ⟨(some 27), .l (.load false 1 (.tmp 26))⟩,
 ⟨(some 28), .call 116 [(.tmp 24), (.tmp 27)]⟩,
 ⟨(some 23), .p (.mv (.tmp 28))⟩,
 ⟨(some 29), .p (.ext (.tmp 23) 0)⟩,
 ⟨(some 30), .p (.ext (.tmp 23) 1)⟩,
 ⟨(some 6), .p (.mv (.tmp 29))⟩,
 ⟨(some 7), .p (.mv (.tmp 30))⟩])
 (.seq (.ops none [⟨(some 31), .p (.mv (.tmp 6))⟩,
 ⟨(some 32), .p (.mv (.tmp 7))⟩,
 ⟨(some 33), .e (.mkSl 116 1 [(.int .u32 (0))] [(0, 1, (.tmp 32))])⟩,
 ⟨(some 34), .call 83 [(.tmp 33)]⟩,
 ⟨(some 4), .p (.mv (.tmp 31))⟩,
 ⟨(some 5), .p (.mv (.tmp 34))⟩])
 (.ret)))
 (.skip)))
 (.seq (.ops none [⟨(some 35), .p (.mv (.tmp 1))⟩,
 ⟨(some 36), .p (.mv (.tmp 1))⟩,
 ⟨(some 37), .p (.lenSl (.tmp 36))⟩,
 ⟨(some 38), .p (.bin .sub (.tmp 37) (.const (.int .i64 (1))))⟩,
 ⟨(some 39), .p (.adrSl 1 (.tmp 35) (.tmp 38))⟩,
 ⟨(some 40), .l (.load false 1 (.tmp 39))⟩,
 ⟨(some 41), .call 164 [(.tmp 40)]⟩,
 ⟨(some 8), .p (.mv (.tmp 41))⟩])
 (.seq (.ops none [⟨(some 42), .p (.mv (.tmp 1))⟩,
 ⟨(some 43), .p (.mv (.tmp 8))⟩,
 ⟨(some 44), .call 165 [(.tmp 42), (.tmp 43)]⟩,
 ⟨(some 45), .call 83 [(.tmp 44)]⟩,
 ⟨(some 46), .p (.mv (.tmp 0))⟩,
 ⟨(some 47), .p (.mv (.tmp 8))⟩,
 ⟨(some 48), .call 165 [(.tmp 46), (.tmp 47)]⟩,
 ⟨(some 9), .p (.mv (.tmp 45))⟩,
 ⟨(some 10), .p (.mv (.tmp 48))⟩])
 (.seq (.ops none [⟨(some 49), .p (.mv (.tmp 9))⟩,
 ⟨(some 50), .p (.lenSl (.tmp 49))⟩,
 ⟨(some 11), .p (.mv (.tmp 50))⟩])
 (.seq (.ops none [⟨(some 51), .p (.mv (.tmp 0))⟩,
 ⟨(some 52), .p (.lenSl (.tmp 51))⟩,
 ⟨(some 53), .p (.mv (.tmp 11))⟩,
 ⟨(some 54), .p (.bin .sub (.tmp 52) (.tmp 53))⟩,
 ⟨(some 55), .p (.bin .add (.tmp 54) (.const (.int .i64 (1))))⟩,
 ⟨(some 56), .e (.make 116 4 [(.int .u32 (0))] (.tmp 55) (.tmp 55))⟩,
 ⟨(some 12), .p (.mv (.tmp 56))⟩])
 (.seq (.seq (.ops none [⟨(some 57), .p (.mv (.tmp 0))⟩,
 ⟨(some 58), .p (.lenSl (.tmp 57))⟩,
 ⟨(some 59), .p (.mv (.tmp 11))⟩,
 ⟨(some 60), .p (.bin .sub (.tmp 58) (.tmp 59))⟩,
 ⟨(some 13), .p (.mv (.tmp 60))⟩])
 (.block 0 (.loop [8, 9, 10, 11, 12] [13] c147z16))) c147z13)))))))
theorem k147 : compFn Tryz.prog 147 [[], [], [], [], [], [], [], [], [], [], [], [], [], [8, 9, 10, 11, 12], [13], [], [], [], [8, 10, 11, 12], []] = some (85, c147, [.tmp 4, .tmp 5]) := by kernel_rfl
def K147z0 (_P : Program) (K : VK) : Kont := bodyP [.tmp 4, .tmp 5] K
def K147z13 : Kont := thenK (iwpP P c147z13 (K147z0 P K)) (K147z0 P K)
def K147z15 : Kont := inBlockK 0 (K147z13 P K)
def K147z16 (shift8 v9 u10 n11 q12 : Value) (L1 : LK) : Kont := thenK (fun f' h'' => (([8, 9, 10, 11, 12] : List Nat).map f' : List Value) = [shift8, v9, u10, n11, q12] ∧ L1 (([13] : List Nat).map f') h'') (K147z15 P K)
def p147z16 (shift8 v9 u10 n11 q12 : Value) (L1 : LK) (xs : List Value) (h : Heap) : Prop := CutP (iwpP P c147z16 (K147z16 P K shift8 v9 u10 n11 q12 L1)) ([8, 9, 10, 11, 12] ++ [13]) ([shift8, v9, u10, n11, q12] ++ xs) h
def T147 (a0 b1 : Value) (h : Heap) : Prop :=
 CallP P 86 [a0, b1] h fun x16 h_1 =>
 OP (iBin .lss x16 (.int .i64 (0))) fun x17 =>
 IfP x17
 (OH (iApp 116 1 4 h_1 (.slice none 0 0) a0) fun x19 h_2 =>
 K (.tuple #[(.slice none 0 0), x19]) h_2)
 (OP (iLenSl b1) fun x21 =>
 OP (iBin .eql x21 (.int .i64 (1))) fun x22 =>
 IfP x22
 (OP (iAdrSl 1 b1 (.int .i64 (0))) fun x26 =>
 OP (iLoad false 1 h_1 x26) fun x27 =>
 CallP P 116 [a0, x27] h_1 fun x28 h_2 =>
 OP (iExt 0 x28) fun x29 =>
 OP (iExt 1 x28) fun x30 =>
 OH (iMkSl 116 1 [(.int .u32 (0))] h_2 [(0, 1, x30)]) fun x33 h_3 =>
 CallP P 83 [x33] h_3 fun x34 h_4 =>
 K (.tuple #[x29, x34]) h_4)
 (OP (iLenSl b1) fun x37 =>
 OP (iBin .sub x37 (.int .i64 (1))) fun x38 =>
 OP (iAdrSl 1 b1 x38) fun x39 =>
 OP (iLoad false 1 h_1 x39) fun x40 =>
 CallP P 164 [x40] h_1 fun x41 h_2 =>
 CallP P 165 [b1, x41] h_2 fun x44 h_3 =>
 CallP P 83 [x44] h_3 fun x45 h_4 =>
 CallP P 165 [a0, x41] h_4 fun x48 h_5 =>
 OP (iLenSl x45) fun x50 =>
 OP (iLenSl a0) fun x52 =>
 OP (iBin .sub x52 x50) fun x54 =>
 OP (iBin .add x54 (.int .i64 (1))) fun x55 =>
 OH (iMake 116 4 [(.int .u32 (0))] h_5 x55 x55) fun x56 h_6 =>
 OP (iLenSl a0) fun x58 =>
 OP (iBin .sub x58 x50) fun x60 =>
 LoopP [x60] h_6 fun L1 xs hx =>
 p147z16 P K x41 x45 x48 x50 x56 L1 xs hx))
theorem e147 (a0 b1 : Value) (h : Heap) : iwpP P c147 (bodyP [.tmp 4, .tmp 5] K) (frame0 [a0, b1]) h = T147 P K a0 b1 h := by kernel_rfl
theorem f147 {K : VK} {a0 b1 : Value} {h : Heap} (H : T147 Tryz.prog K a0 b1 h) : CallP Tryz.prog 147 [a0, b1] h K :=
 callP_intro k147 (Nat.le_of_ble_eq_true rfl) ((e147 Tryz.prog K a0 b1 h).mpr H)
end Go.Proofs.YthplaillblmgfaaGreatDoor

namespace Go.Proofs.YthplaillblmgfaaGreatDoor
open Go.Sim

/-- Beyond this no number is followed. -/
def bigW : Nat := 4294967296 ^ 100

theorem lt_bigW {n : Nat} (h : n < 4294967296 ^ 20) : n < bigW := Nat.lt_of_lt_of_le h (Nat.pow_le_pow_right (by decide) (by decide))

theorem canW_len {xs : List Nat} (h : Canon 4294967296 xs) (hv : val 4294967296 xs < bigW) : xs.length ≤ 100 := h.len (by decide) hv

/-- Digits in memory: a slice of the first cells of an object, or nil. -/
def DS (e : TypeId) (k : IntKind) (h : Heap) (v : Value) (xs : List Nat) : Prop :=
  (v = .slice none 0 0 ∧ xs = []) ∨ ∃ i, v = sl e i 0 xs.length ∧ (xs = [] ∨ ∃ rest, objCells h i = some (xs.map (fun d : Nat => Value.int k (d : Int)) ++ rest))

theorem DS.mono {e : TypeId} {k : IntKind} {h h' : Heap} {v : Value} {xs : List Nat} (x : EX h h') (p : DS e k h v xs) : DS e k h' v xs :=
  p.imp id fun ⟨i, a, b⟩ => ⟨i, a, b.imp id fun ⟨r, c⟩ => ⟨r, x.cells c⟩⟩

theorem DS.len {e : TypeId} {k : IntKind} {h : Heap} {v : Value} {xs : List Nat} (p : DS e k h v xs) : iLenSl v = some (I xs.length) := by
  rcases p with ⟨rfl, rfl⟩ | ⟨i, rfl, _⟩ <;> rfl

theorem DS.get {e : TypeId} {k : IntKind} {h : Heap} {v : Value} {xs : List Nat} (p : DS e k h v xs) {j : Nat} (hj : j < xs.length) : ∃ i, iAdrSl 1 v (I j) = some (pt i j) ∧ iLoad false 1 h (pt i j) = some (.int k (xs[j] : Int)) := by
  rcases p with ⟨_, rfl⟩ | ⟨i, rfl, hc⟩
  · simp at hj
  · obtain ⟨r, hc⟩ := hc.resolve_left (by rintro rfl; simp at hj)
    refine ⟨i, adr_sl hj, ?_⟩
    have : (xs.map (fun d : Nat => Value.int k (d : Int)) ++ r)[j]? = some (.int k (xs[j] : Int)) := by rw [List.getElem?_append_left (by simpa using hj)]; simp [hj]
    simp [iLoad, hc, iPart, this]

theorem DS.nil (e : TypeId) (k : IntKind) (h : Heap) : DS e k h (.slice none 0 0) [] := .inl ⟨rfl, rfl⟩

theorem DS.one {e : TypeId} {k : IntKind} {h : Heap} {v : Value} {xs : List Nat} (p : DS e k h v xs) : noTuple v = true ∧ vcells v = [v] := by
  rcases p with ⟨rfl, _⟩ | ⟨i, rfl, _⟩ <;> exact ⟨rfl, rfl⟩

/-- The same without the last digit. -/
theorem DS.pop {e : TypeId} {k : IntKind} {h : Heap} {v : Value} {xs : List Nat} (p : DS e k h v xs) {n : Nat} (hn : n ≤ xs.length) : ∃ v', iSlSl e 1 v none (some (I n)) = some v' ∧ DS e k h v' (xs.take n) := by
  rcases p with ⟨rfl, rfl⟩ | ⟨i, rfl, hc⟩
  · simp at hn; subst hn
    exact ⟨_, rfl, .inl ⟨rfl, rfl⟩⟩
  · refine ⟨sl e i 0 n, ?_, .inr ⟨i, by rw [List.length_take, Nat.min_eq_left hn], ?_⟩⟩
    · simp [iSlSl, sl, iBounds, natOf, hn]
    · rcases hc with rfl | ⟨r, hc⟩
      · left; simp
      · right
        refine ⟨(xs.drop n).map (fun d : Nat => Value.int k (d : Int)) ++ r, ?_⟩
        rw [hc, ← List.append_assoc, ← List.map_append, List.take_append_drop]

/-- A number's size. -/
def MagV (h : Heap) (v : Value) (n : Nat) : Prop := ∃ xs, DS 116 .u32 h v xs ∧ Canon 4294967296 xs ∧ val 4294967296 xs = n

theorem MagV.mono {h h' : Heap} {v : Value} {n : Nat} (x : EX h h') (p : MagV h v n) : MagV h' v n := let ⟨xs, a, b, c⟩ := p; ⟨xs, a.mono x, b, c⟩

theorem C83 {h : Heap} {K : Value → Heap → Prop} {v : Value} {xs : List Nat} (p : DS 116 .u32 h v xs) (hl : Lim 4294967296 xs) (hs : xs.length ≤ 1000) (hk : ∀ v', MagV h v' (val 4294967296 xs) → K v' h) : CallP Tryz.prog 83 [v] h K := by
  refine f83 ?_
  refine loopL (σ := Value × List Nat) (fun p => [p.1]) (fun _ => h) (fun q => DS 116 .u32 h q.1 q.2 ∧ Lim 4294967296 q.2 ∧ val 4294967296 q.2 = val 4294967296 xs ∧ q.2.length ≤ 1000) (fun q => q.2.length) (v, xs) rfl rfl ⟨p, hl, rfl, hs⟩ ?_
  rintro ⟨v, ys⟩ ⟨p, hl, hv, hs⟩ L hL
  simp only at p hl hv hs hL ⊢
  rw [q83z4]
  have done : Canon 4294967296 ys → p83z12 Tryz.prog K v h := by
    intro hc
    rw [q83z12]
    exact hk v ⟨ys, p, hc, hv⟩
  simp only [p.len, OP_some, bin_gtr]
  by_cases h0 : ys.length = 0
  · have : ys = [] := List.length_eq_zero_iff.1 h0
    rw [decide_eq_false (show ¬ (0 : Int) < (ys.length : Int) by omega)]
    simp only [q83z8, GdP_ft, q83z10, iPick_f, OP_some, IfP_false]
    exact done (by rw [this]; exact Canon.nil 4294967296)
  · rw [decide_eq_true (show (0 : Int) < (ys.length : Int) by omega)]
    have e1 : IntKind.wrap .i64 ((ys.length : Int) - 1) = ((ys.length - 1 : Nat) : Int) := by rw [wrap64 (by omega) (by omega)]; omega
    obtain ⟨i, g1, g2⟩ := p.get (j := ys.length - 1) (by omega)
    simp only [q83z8, GdP_tt, p.len, OP_some, bin_sub, e1, g1, g2, bin_eql, q83z10, iPick_t, IfP_dec]
    refine ⟨fun hz => ?_, fun hz => ?_⟩
    · obtain ⟨v', h1, h2⟩ := p.pop (n := ys.length - 1) (by omega)
      simp only [h1, OP_some, true_and]
      have hsplit : ys = ys.take (ys.length - 1) ++ [0] := by
        have := List.take_succ_eq_append_getElem (l := ys) (i := ys.length - 1) (by omega)
        rw [show ys.length - 1 + 1 = ys.length by omega, List.take_length] at this
        have hz' : ys[ys.length - 1] = 0 := by omega
        rw [hz'] at this
        exact this
      refine hL (v', ys.take (ys.length - 1)) ⟨h2, hl.mono fun y hy => List.mem_of_mem_take hy, ?_, by rw [List.length_take]; omega⟩ (by simp; omega)
      rw [← hv]
      conv => rhs; rw [hsplit]
      rw [val_append]
      simp [val]
    · exact done (can_of_last hl fun h1 hc => hz (by rw [hc]; rfl))

/-- Fresh digits at the end of the heap. -/
abbrev hd (h : Heap) (os : List Nat) : Heap := h ++ [.arr 116 (os.map fun d : Nat => Value.int .u32 (d : Int))]

theorem make_hd {h : Heap} {n : Nat} (hn : n ≤ 1000) : iMake 116 4 [.int .u32 0] h (I n) (I n) = some (sl 116 h.length 0 n, hd h (List.replicate n 0)) := by
  have hz : ∀ m, zrep [Value.int .u32 0] m = (List.replicate m 0).map fun d : Nat => Value.int .u32 (d : Int) := by
    intro m
    induction m with
    | zero => rfl
    | succ m ih =>
      have : zrep [Value.int .u32 0] (m + 1) = Value.int .u32 0 :: zrep [Value.int .u32 0] m := by simp [zrep, List.replicate_succ]
      rw [this, ih, List.replicate_succ]; rfl
  simp only [iMake]
  rw [if_pos ⟨by omega, by omega, by omega, by omega⟩, Int.toNat_natCast, hz]

theorem hd_get (h : Heap) (os : List Nat) : (hd h os)[h.length]? = some (.arr 116 (os.map fun d : Nat => Value.int .u32 (d : Int))) := by simp [hd]

theorem hd_store {h : Heap} {os : List Nat} {j : Nat} (d : Nat) (hj : j < os.length) : oStore 1 (hd h os) (pt h.length j) (.int .u32 (d : Int)) = some (undef, hd h (os.set j d)) := by
  rw [store_at (hd_get h os) (by simpa using hj) rfl rfl]
  simp [hd, List.map_set]

theorem hd_load {h : Heap} {os : List Nat} {j : Nat} (hj : j < os.length) : iLoad false 1 (hd h os) (pt h.length j) = some (.int .u32 (os[j] : Int)) := by
  simp [iLoad, objCells, hd_get, iPart, hj]

theorem hd_DS (h : Heap) (os : List Nat) : DS 116 .u32 (hd h os) (sl 116 h.length 0 os.length) os := .inr ⟨h.length, rfl, .inr ⟨[], by simp [objCells, hd]⟩⟩

theorem hd_EX (h : Heap) (os : List Nat) : EX h (hd h os) := EX.append _ _

theorem wrapU64 {n : Int} (h1 : 0 ≤ n) (h2 : n < 18446744073709551616) : IntKind.wrap .u64 n = n := by
  have e : IntKind.wrap .u64 n = n % 18446744073709551616 := by simp [IntKind.wrap, IntKind.bits, IntKind.signed]
  rw [e]; omega
theorem wrapU32e (n : Int) : IntKind.wrap .u32 n = n % 4294967296 := by simp [IntKind.wrap, IntKind.bits, IntKind.signed]
theorem wrapU32 {n : Int} (h1 : 0 ≤ n) (h2 : n < 4294967296) : IntKind.wrap .u32 n = n := by rw [wrapU32e]; omega

theorem shr32 (s : Nat) : iBin .shr (.int .u64 (s : Int)) (.int .u64 32) = some (.int .u64 ((s / 4294967296 : Nat) : Int)) := by
  simp only [iBin, iShift]
  rw [if_neg (by omega)]
  have : (min (32 : Int).toNat IntKind.u64.bits) = 32 := rfl
  rw [this]
  have e2 : (2 : Int) ^ 32 = 4294967296 := by decide
  rw [e2, Int.fdiv_eq_ediv_of_nonneg _ (by omega)]
  congr 2

theorem C114 {x y c : Nat} {h : Heap} {K : Value → Heap → Prop} (hx : x < 4294967296) (hy : y < 4294967296) (hc : c ≤ 1) (hk : K (.tuple #[.int .u32 (((x + y + c) % 4294967296 : Nat) : Int), .int .u32 (((x + y + c) / 4294967296 : Nat) : Int)]) h) :
    CallP Tryz.prog 114 [.int .u32 (x : Int), .int .u32 (y : Int), .int .u32 (c : Int)] h K := by
  refine f114 ?_
  have e1 : IntKind.wrap .u64 ((x : Int) + (y : Int)) = ((x + y : Nat) : Int) := by rw [wrapU64 (by omega) (by omega)]; omega
  have e2 : IntKind.wrap .u64 (((x + y : Nat) : Int) + (c : Int)) = ((x + y + c : Nat) : Int) := by rw [wrapU64 (by omega) (by omega)]; omega
  have e3 : IntKind.wrap .u32 ((x + y + c : Nat) : Int) = (((x + y + c) % 4294967296 : Nat) : Int) := by rw [wrapU32e]; omega
  simp only [T114, conv_int, OP_some, bin_add]
  rw [wrapU64 (n := (x : Int)) (by omega) (by omega), wrapU64 (n := (y : Int)) (by omega) (by omega), e1, wrapU64 (n := (c : Int)) (by omega) (by omega), e2]
  simp only [shr32, OP_some, conv_int, e3]
  rw [wrapU32 (by omega) (by omega)]
  exact hk

/-- A sum, digit by digit. -/
theorem C85s {va vb : Value} {xs ys : List Nat} {h : Heap} {K : Value → Heap → Prop} (hx : DS 116 .u32 h va xs) (hy : DS 116 .u32 h vb ys) (lx : Lim 4294967296 xs) (ly : Lim 4294967296 ys) (hle : ys.length ≤ xs.length) (hlen : xs.length ≤ 200)
    (hk : ∀ v h', EX h h' → MagV h' v (val 4294967296 xs + val 4294967296 ys) → K v h') : p85z4 Tryz.prog K va vb h := by
  rw [q85z4]
  simp only [hx.len, OP_some, bin_add, inc xs.length (by omega), make_hd (show xs.length + 1 ≤ 1000 by omega), OH_some]
  have hW : 0 < 4294967296 := by decide
  refine loopL (σ := Nat × Nat × List Nat) (fun p => [.int .u32 (p.1 : Int), I p.2.1]) (fun p => hd h p.2.2)
    (fun p => p.2.1 ≤ xs.length ∧ p.1 ≤ 1 ∧ p.2.2.length = xs.length + 1 ∧ Lim 4294967296 p.2.2 ∧ (∀ j (hj : j < p.2.2.length), p.2.1 ≤ j → p.2.2[j] = 0) ∧ val 4294967296 p.2.2 + 4294967296 ^ p.2.1 * p.1 = val 4294967296 (xs.take p.2.1) + val 4294967296 (ys.take p.2.1)) (fun p => xs.length - p.2.1)
    (0, 0, List.replicate (xs.length + 1) 0) rfl rfl ⟨by simp, by simp, by simp, Lim.zeros hW _, by simp, by simp [val_zeros, val]⟩ ?_
  rintro ⟨c, i, os⟩ ⟨hi, hc, hol, hlim, hz, hval⟩ L hL
  simp only at hi hc hol hlim hz hval hL ⊢
  rw [q85z10]
  have hx' := hx.mono (hd_EX h os)
  have hy' := hy.mono (hd_EX h os)
  simp only [bin_lss, OP_some, IfP_dec]
  refine ⟨fun hlt => ?_, fun hge => ?_⟩
  · have hil : i < xs.length := by omega
    obtain ⟨ia, a1, a2⟩ := hx'.get hil
    have hxl : xs[i] < 4294967296 := lx _ (List.getElem_mem hil)
    have go : ∀ y : Nat, y < 4294967296 → val 4294967296 (ys.take (i + 1)) = val 4294967296 (ys.take i) + 4294967296 ^ i * y → p85z19 Tryz.prog K va vb (sl 116 h.length 0 (xs.length + 1)) (.int .u32 (c : Int)) (I i) (.int .u32 (y : Int)) (I xs.length) (I i) L (hd h os) := by
      intro y hyl hyv
      rw [q85z19]
      simp only [a1, OP_some, a2]
      refine C114 hxl hyl hc ?_
      simp only [ext_tuple, pair0, pair1, OP_some, adr_sl (show i < xs.length + 1 by omega)]
      rw [hd_store _ (by omega)]
      simp only [OH_some, q85z20, bin_add, OP_some, inc i (by omega), true_and]
      have hmod : (xs[i] + y + c) % 4294967296 < 4294967296 := Nat.mod_lt _ hW
      have hdiv : (xs[i] + y + c) / 4294967296 ≤ 1 := by omega
      refine hL ((xs[i] + y + c) / 4294967296, i + 1, os.set i ((xs[i] + y + c) % 4294967296)) ⟨by show i + 1 ≤ xs.length; omega, hdiv, by show (os.set i _).length = _; rw [List.length_set]; exact hol, hlim.set hmod i, ?_, ?_⟩ (by show xs.length - (i + 1) < xs.length - i; omega)
      · intro j hj hij
        show (os.set i _)[j] = 0
        have hij' : i ≠ j := by have : i + 1 ≤ j := hij; omega
        rw [List.getElem_set_ne hij']
        exact hz j (by simpa using hj) (by have : i + 1 ≤ j := hij; omega)
      · show val 4294967296 (os.set i _) + 4294967296 ^ (i + 1) * _ = val 4294967296 (xs.take (i + 1)) + val 4294967296 (ys.take (i + 1))
        have h1 := val_set 4294967296 os i ((xs[i] + y + c) % 4294967296) (by omega)
        rw [hz i (by omega) (Nat.le_refl _)] at h1
        rw [val_take_succ 4294967296 xs hil, hyv, Nat.pow_succ]
        have h2 := Nat.mod_add_div (xs[i] + y + c) 4294967296
        generalize (xs[i] + y + c) % 4294967296 = m at *
        generalize (xs[i] + y + c) / 4294967296 = q at *
        generalize 4294967296 ^ i = P at *
        generalize hWW : 4294967296 = w at *
        grind
    simp only [hy'.len, OP_some, bin_lss, IfP_dec]
    refine ⟨fun hly => ?_, fun hgy => ?_⟩
    · have hiy : i < ys.length := by omega
      obtain ⟨ib, b1, b2⟩ := hy'.get hiy
      simp only [b1, OP_some, b2]
      exact go _ (ly _ (List.getElem_mem hiy)) (val_take_succ 4294967296 ys hiy)
    · have := go 0 (by decide) (by rw [List.take_of_length_le (by omega), List.take_of_length_le (by omega)]; simp)
      simpa using this
  · have : i = xs.length := by omega
    subst this
    rw [q85z21]
    simp only [hx'.len, OP_some, adr_sl (show xs.length < xs.length + 1 by omega)]
    rw [hd_store _ (by omega)]
    simp only [OH_some]
    have h1 := val_set 4294967296 os xs.length c (by omega)
    rw [hz xs.length (by omega) (Nat.le_refl _)] at h1
    have hv : val 4294967296 (os.set xs.length c) = val 4294967296 xs + val 4294967296 ys := by
      rw [List.take_length, List.take_of_length_le hle] at hval
      omega
    have hcW : c < 4294967296 := Nat.lt_of_le_of_lt hc (by decide)
    have e : sl 116 h.length 0 (xs.length + 1) = sl 116 h.length 0 (os.set xs.length c).length := by rw [List.length_set, hol]
    rw [e]
    refine C83 (hd_DS h _) (hlim.set hcW _) (by rw [List.length_set]; omega) ?_
    intro v' hm
    rw [hv] at hm
    exact hk v' _ (hd_EX h _) hm

theorem C85 {va vb : Value} {a b : Nat} {h : Heap} {K : Value → Heap → Prop} (ha : MagV h va a) (hb : MagV h vb b) (la : a < bigW) (lb : b < bigW) (hk : ∀ v h', EX h h' → MagV h' v (a + b) → K v h') : CallP Tryz.prog 85 [va, vb] h K := by
  obtain ⟨xs, dx, cx, rfl⟩ := ha
  obtain ⟨ys, dy, cy, rfl⟩ := hb
  have l1 := canW_len cx la
  have l2 := canW_len cy lb
  refine f85 ?_
  simp only [T85, dx.len, dy.len, OP_some, bin_lss, IfP_dec]
  refine ⟨fun hlt => ?_, fun hge => ?_⟩
  · refine C85s dy dx cy.1 cx.1 (by omega) (by omega) ?_
    rw [Nat.add_comm (val 4294967296 ys)]
    exact hk
  · exact C85s dx dy cx.1 cy.1 (by omega) (by omega) hk

end Go.Proofs.YthplaillblmgfaaGreatDoor


namespace Go.Proofs.YthplaillblmgfaaGreatDoor
open Go.Sim

theorem bv_of (X : BitVec 32) : BitVec.ofInt IntKind.u32.bits (X.toNat : Int) = X := by
  show BitVec.ofInt 32 (X.toNat : Int) = X
  rw [BitVec.ofInt_natCast, BitVec.ofNat_toNat, BitVec.setWidth_eq]

theorem bv_lt (X : BitVec 32) : X.toNat < 4294967296 := X.isLt

theorem and32 (X Y : BitVec 32) : iBin .and (.int .u32 (X.toNat : Int)) (.int .u32 (Y.toNat : Int)) = some (.int .u32 ((X &&& Y).toNat : Int)) := by
  have h := bv_lt (X &&& Y)
  have e : (BitVec.ofInt IntKind.u32.bits (X.toNat : Int) &&& BitVec.ofInt IntKind.u32.bits (Y.toNat : Int)).toNat = (X &&& Y).toNat := by rw [bv_of, bv_of]; rfl
  simp only [iBin, iInt, if_true]
  rw [e, wrapU32 (by omega) (by omega)]

theorem or32 (X Y : BitVec 32) : iBin .or (.int .u32 (X.toNat : Int)) (.int .u32 (Y.toNat : Int)) = some (.int .u32 ((X ||| Y).toNat : Int)) := by
  have h := bv_lt (X ||| Y)
  have e : (BitVec.ofInt IntKind.u32.bits (X.toNat : Int) ||| BitVec.ofInt IntKind.u32.bits (Y.toNat : Int)).toNat = (X ||| Y).toNat := by rw [bv_of, bv_of]; rfl
  simp only [iBin, iInt, if_true]
  rw [e, wrapU32 (by omega) (by omega)]

theorem xor32 (X Y : BitVec 32) : iBin .xor (.int .u32 (X.toNat : Int)) (.int .u32 (Y.toNat : Int)) = some (.int .u32 ((X ^^^ Y).toNat : Int)) := by
  have h := bv_lt (X ^^^ Y)
  have e : (BitVec.ofInt IntKind.u32.bits (X.toNat : Int) ^^^ BitVec.ofInt IntKind.u32.bits (Y.toNat : Int)).toNat = (X ^^^ Y).toNat := by rw [bv_of, bv_of]; rfl
  simp only [iBin, iInt, if_true]
  rw [e, wrapU32 (by omega) (by omega)]

theorem not32 (X : BitVec 32) : iUn .xor (.int .u32 (X.toNat : Int)) = some (.int .u32 ((~~~X).toNat : Int)) := by
  have h := bv_lt (~~~X)
  have e : (BitVec.ofInt IntKind.u32.bits (if IntKind.u32.signed = true then -1 else IntKind.u32.max) ^^^ BitVec.ofInt IntKind.u32.bits (X.toNat : Int)).toNat = (~~~X).toNat := by
    rw [bv_of]
    show (BitVec.ofInt 32 4294967295 ^^^ X).toNat = _
    rw [show BitVec.ofInt 32 4294967295 = BitVec.allOnes 32 from by decide, BitVec.allOnes_xor]
  simp only [iUn]
  rw [e, wrapU32 (by omega) (by omega)]

theorem top32 (Z : BitVec 32) : iBin .shr (.int .u32 (Z.toNat : Int)) (.int .u64 31) = some (.int .u32 ((if Z.msb then 1 else 0 : Nat) : Int)) := by
  have h := bv_lt Z
  simp only [iBin, iShift]
  rw [if_neg (by omega)]
  have : (min (31 : Int).toNat IntKind.u32.bits) = 31 := rfl
  rw [this]
  have e2 : (2 : Int) ^ 31 = 2147483648 := by decide
  rw [e2, Int.fdiv_eq_ediv_of_nonneg _ (by omega), BitVec.msb_eq_decide]
  congr 2
  by_cases hz : 2 ^ 31 ≤ Z.toNat
  · simp [hz]; omega
  · simp [hz]; omega

theorem C115 {x y b : Nat} {h : Heap} {K : Value → Heap → Prop} (hx : x < 4294967296) (hy : y < 4294967296) (hb : b ≤ 1) (hk : K (.tuple #[.int .u32 (((x + 4294967296 + 4294967296 - y - b) % 4294967296 : Nat) : Int), .int .u32 ((if x < y + b then 1 else 0 : Nat) : Int)]) h) :
    CallP Tryz.prog 115 [.int .u32 (x : Int), .int .u32 (y : Int), .int .u32 (b : Int)] h K := by
  refine f115 ?_
  obtain ⟨X, rfl⟩ : ∃ X : BitVec 32, x = X.toNat := ⟨BitVec.ofNat 32 x, by rw [BitVec.toNat_ofNat]; exact (Nat.mod_eq_of_lt hx).symm⟩
  obtain ⟨Y, rfl⟩ : ∃ Y : BitVec 32, y = Y.toNat := ⟨BitVec.ofNat 32 y, by rw [BitVec.toNat_ofNat]; exact (Nat.mod_eq_of_lt hy).symm⟩
  obtain ⟨D, hD⟩ : ∃ D : BitVec 32, D.toNat = (X.toNat + 4294967296 + 4294967296 - Y.toNat - b) % 4294967296 := ⟨BitVec.ofNat 32 _, by rw [BitVec.toNat_ofNat]⟩
  have e1 : IntKind.wrap .u32 (IntKind.wrap .u32 ((X.toNat : Int) - (Y.toNat : Int)) - (b : Int)) = (D.toNat : Int) := by
    rw [wrapU32e, wrapU32e, hD]; omega
  simp only [T115, bin_sub, OP_some, e1, not32, and32, xor32, or32, top32]
  rw [← hD] at hk
  have e2 : (if (~~~X &&& Y ||| ~~~(X ^^^ Y) &&& D).msb then 1 else 0 : Nat) = if X.toNat < Y.toNat + b then 1 else 0 := by
    rw [BitVec.msb_or, BitVec.msb_and, BitVec.msb_and, BitVec.msb_not, BitVec.msb_not, BitVec.msb_xor, BitVec.msb_eq_decide X, BitVec.msb_eq_decide Y, BitVec.msb_eq_decide D]
    by_cases c1 : 2 ^ (32 - 1) ≤ X.toNat <;> by_cases c2 : 2 ^ (32 - 1) ≤ Y.toNat <;> by_cases c3 : 2 ^ (32 - 1) ≤ D.toNat <;> simp [c1, c2, c3] <;> omega
  rw [e2]
  exact hk

theorem C87 {va vb : Value} {a b : Nat} {h : Heap} {K : Value → Heap → Prop} (ha : MagV h va a) (hb : MagV h vb b) (la : a < bigW) (hab : b ≤ a) (hk : ∀ v h', EX h h' → MagV h' v (a - b) → K v h') : CallP Tryz.prog 87 [va, vb] h K := by
  obtain ⟨xs, hx, cx, rfl⟩ := ha
  obtain ⟨ys, hy, cy, rfl⟩ := hb
  have l1 := canW_len cx la
  have l2 := canW_len cy (Nat.lt_of_le_of_lt hab la)
  have hle : ys.length ≤ xs.length := by
    apply Classical.byContradiction
    intro hc
    have := Canon.lt_of_len (by decide) cx cy (by omega)
    omega
  refine f87 ?_
  simp only [T87, hx.len, OP_some, make_hd (show xs.length ≤ 1000 by omega), OH_some]
  have hW : (0 : Nat) < 4294967296 := by decide
  refine loopL (σ := Nat × Nat × List Nat) (fun p => [.int .u32 (p.1 : Int), I p.2.1]) (fun p => hd h p.2.2)
    (fun p => p.2.1 ≤ xs.length ∧ p.1 ≤ 1 ∧ p.2.2.length = xs.length ∧ Lim 4294967296 p.2.2 ∧ (∀ j (hj : j < p.2.2.length), p.2.1 ≤ j → p.2.2[j] = 0) ∧ val 4294967296 p.2.2 + val 4294967296 (ys.take p.2.1) = val 4294967296 (xs.take p.2.1) + 4294967296 ^ p.2.1 * p.1) (fun p => xs.length - p.2.1)
    (0, 0, List.replicate xs.length 0) rfl rfl ⟨by simp, by simp, by simp, Lim.zeros hW _, by simp, by simp [val_zeros, val]⟩ ?_
  rintro ⟨c, i, os⟩ ⟨hi, hc, hol, hlim, hz, hval⟩ L hL
  simp only at hi hc hol hlim hz hval hL ⊢
  rw [q87z7]
  have hx' := hx.mono (hd_EX h os)
  have hy' := hy.mono (hd_EX h os)
  simp only [bin_lss, OP_some, IfP_dec]
  refine ⟨fun hlt => ?_, fun hge => ?_⟩
  · have hil : i < xs.length := by omega
    obtain ⟨ia, a1, a2⟩ := hx'.get hil
    have hxl : xs[i] < 4294967296 := cx.1 _ (List.getElem_mem hil)
    have go : ∀ y : Nat, y < 4294967296 → val 4294967296 (ys.take (i + 1)) = val 4294967296 (ys.take i) + 4294967296 ^ i * y → p87z16 Tryz.prog K va vb (sl 116 h.length 0 xs.length) (.int .u32 (c : Int)) (I i) (.int .u32 (y : Int)) (I xs.length) (I i) L (hd h os) := by
      intro y hyl hyv
      rw [q87z16]
      simp only [a1, OP_some, a2]
      refine C115 hxl hyl hc ?_
      simp only [ext_tuple, pair0, pair1, OP_some, adr_sl hil]
      rw [hd_store _ (by omega)]
      simp only [OH_some, q87z17, bin_add, OP_some, inc i (by omega), true_and]
      have hmod : (xs[i] + 4294967296 + 4294967296 - y - c) % 4294967296 < 4294967296 := Nat.mod_lt _ hW
      have hb1 : (if xs[i] < y + c then 1 else 0) ≤ 1 := by split <;> omega
      have hs : (xs[i] + 4294967296 + 4294967296 - y - c) % 4294967296 + y + c = xs[i] + 4294967296 * (if xs[i] < y + c then 1 else 0) := by
        split <;> omega
      refine hL ((if xs[i] < y + c then 1 else 0), i + 1, os.set i ((xs[i] + 4294967296 + 4294967296 - y - c) % 4294967296)) ⟨by show i + 1 ≤ xs.length; omega, hb1, by show (os.set i _).length = _; rw [List.length_set]; exact hol, hlim.set hmod i, ?_, ?_⟩ (by show xs.length - (i + 1) < xs.length - i; omega)
      · intro j hj hij
        show (os.set i _)[j] = 0
        have hij' : i ≠ j := by have : i + 1 ≤ j := hij; omega
        rw [List.getElem_set_ne hij']
        exact hz j (by simpa using hj) (by have : i + 1 ≤ j := hij; omega)
      · show val 4294967296 (os.set i _) + val 4294967296 (ys.take (i + 1)) = val 4294967296 (xs.take (i + 1)) + 4294967296 ^ (i + 1) * _
        have h1 := val_set 4294967296 os i ((xs[i] + 4294967296 + 4294967296 - y - c) % 4294967296) (by omega)
        rw [hz i (by omega) (Nat.le_refl _)] at h1
        rw [val_take_succ 4294967296 xs hil, hyv, Nat.pow_succ]
        generalize (xs[i] + 4294967296 + 4294967296 - y - c) % 4294967296 = m at *
        generalize (if xs[i] < y + c then 1 else 0) = q at *
        generalize 4294967296 ^ i = P at *
        generalize (4294967296 : Nat) = w at *
        grind
    simp only [hy'.len, OP_some, bin_lss, IfP_dec]
    refine ⟨fun hly => ?_, fun hgy => ?_⟩
    · have hiy : i < ys.length := by omega
      obtain ⟨ib, b1, b2⟩ := hy'.get hiy
      simp only [b1, OP_some, b2]
      exact go _ (cy.1 _ (List.getElem_mem hiy)) (val_take_succ 4294967296 ys hiy)
    · have := go 0 (by decide) (by rw [List.take_of_length_le (by omega), List.take_of_length_le (by omega)]; simp)
      simpa using this
  · have : i = xs.length := by omega
    subst this
    rw [q87z18]
    rw [List.take_length, List.take_of_length_le hle] at hval
    have hlt := val_lt hlim
    rw [hol] at hlt
    have hc0 : c = 0 := by
      apply Classical.byContradiction
      intro hne
      have : c = 1 := by omega
      subst this
      omega
    subst hc0
    have hv : val 4294967296 os = val 4294967296 xs - val 4294967296 ys := by omega
    have e : sl 116 h.length 0 xs.length = sl 116 h.length 0 os.length := by rw [hol]
    rw [e]
    refine C83 (hd_DS h _) hlim (by omega) ?_
    intro v' hm
    rw [hv] at hm
    exact hk v' _ (hd_EX h _) hm

def sgn (a b : Nat) : Int := if a < b then -1 else if b < a then 1 else 0

/-- The greater one by its first digit from above. -/
theorem val_lt_of_top {B : Nat} {xs ys : List Nat} (lx : Lim B xs) (ly : Lim B ys) (hl : xs.length = ys.length) {i : Nat} (hi : i < xs.length) (hd : xs.drop (i + 1) = ys.drop (i + 1)) (h : xs[i] < ys[i]'(by omega)) : val B xs < val B ys := by
  have e1 : xs = xs.take i ++ xs[i] :: xs.drop (i + 1) := by rw [← List.drop_eq_getElem_cons hi, List.take_append_drop]
  have e2 : ys = ys.take i ++ ys[i]'(by omega) :: ys.drop (i + 1) := by rw [← List.drop_eq_getElem_cons (by omega), List.take_append_drop]
  have v1 : val B xs = val B (xs.take i) + B ^ i * (xs[i] + B * val B (xs.drop (i + 1))) := by
    conv => lhs; rw [e1]
    rw [val_append, List.length_take, Nat.min_eq_left (by omega)]; rfl
  have v2 : val B ys = val B (ys.take i) + B ^ i * (ys[i]'(by omega) + B * val B (ys.drop (i + 1))) := by
    conv => lhs; rw [e2]
    rw [val_append, List.length_take, Nat.min_eq_left (by omega)]; rfl
  rw [v1, v2, hd]
  have h1 := val_lt (lx.mono (ys := xs.take i) fun y hy => List.mem_of_mem_take hy)
  rw [List.length_take, Nat.min_eq_left (by omega)] at h1
  have h2 : B ^ i * (xs[i] + 1 + B * val B (ys.drop (i + 1))) ≤ B ^ i * (ys[i]'(by omega) + B * val B (ys.drop (i + 1))) := Nat.mul_le_mul_left _ (by omega)
  generalize B ^ i = P at *
  generalize B * val B (ys.drop (i + 1)) = Q at *
  generalize val B (xs.take i) = u at *
  generalize val B (ys.take i) = v at *
  have h3 : P * (xs[i] + 1 + Q) = P * (xs[i] + Q) + P := by grind
  omega

theorem C86 {va vb : Value} {a b : Nat} {h : Heap} {K : Value → Heap → Prop} (ha : MagV h va a) (hb : MagV h vb b) (la : a < bigW) (lb : b < bigW) (hk : K (I (sgn a b)) h) : CallP Tryz.prog 86 [va, vb] h K := by
  obtain ⟨xs, hx, cx, rfl⟩ := ha
  obtain ⟨ys, hy, cy, rfl⟩ := hb
  have l1 := canW_len cx la
  have l2 := canW_len cy lb
  have less : val 4294967296 xs < val 4294967296 ys → K (.int .i64 (-1)) h := fun h1 => by unfold sgn at hk; rw [if_pos h1] at hk; exact hk
  have more : val 4294967296 ys < val 4294967296 xs → K (.int .i64 1) h := fun h1 => by unfold sgn at hk; rw [if_neg (by omega), if_pos h1] at hk; exact hk
  have same : val 4294967296 xs = val 4294967296 ys → K (.int .i64 0) h := fun h1 => by unfold sgn at hk; rw [if_neg (by omega), if_neg (by omega)] at hk; exact hk
  refine f86 ?_
  simp only [T86, hx.len, hy.len, OP_some, bin_neq, IfP_ndec, bin_lss, IfP_dec]
  refine ⟨fun hne => ⟨fun hlt => less (Canon.lt_of_len (by decide) cx cy (by omega)), fun hge => more (Canon.lt_of_len (by decide) cy cx (by omega))⟩, fun he => ?_⟩
  have he' : xs.length = ys.length := by omega
  simp only [bin_sub, OP_some]
  have e1 : IntKind.wrap .i64 ((xs.length : Int) - 1) = (xs.length : Int) - 1 := by rw [wrap64 (by omega) (by omega)]
  rw [e1]
  refine loopL (σ := Nat) (fun i => [I ((i : Int) - 1)]) (fun _ => h) (fun i => i ≤ xs.length ∧ xs.drop i = ys.drop i) (fun i => i) xs.length rfl rfl ⟨Nat.le_refl _, by rw [List.drop_length, he', List.drop_length]⟩ ?_
  rintro i ⟨hi, hdr⟩ L hL
  rw [q86z11]
  simp only [bin_geq, OP_some, IfP_dec]
  refine ⟨fun hge => ?_, fun hlt => ?_⟩
  · obtain ⟨j, rfl⟩ : ∃ j, i = j + 1 := ⟨i - 1, by omega⟩
    have ej : (((j + 1 : Nat) : Int) - 1) = (j : Int) := by omega
    rw [ej]
    obtain ⟨ia, a1, a2⟩ := hx.get (j := j) (by omega)
    obtain ⟨ib, b1, b2⟩ := hy.get (j := j) (by omega)
    simp only [a1, a2, b1, b2, OP_some, true_and, bin_neq, IfP_ndec, bin_lss, IfP_dec]
    refine ⟨fun hne => ⟨fun hlt => less (val_lt_of_top cx.1 cy.1 he' (i := j) (by omega) hdr (by omega)), fun hge => more (val_lt_of_top cy.1 cx.1 he'.symm (i := j) (by omega) hdr.symm (by omega))⟩, fun heq => ?_⟩
    simp only [bin_sub, OP_some]
    rw [wrap64 (by omega) (by omega)]
    refine hL j ⟨by omega, ?_⟩ (by omega)
    rw [List.drop_eq_getElem_cons (by omega), List.drop_eq_getElem_cons (show j < ys.length by omega), hdr]
    congr 1
    omega
  · have : i = 0 := by omega
    subst this
    rw [List.drop_zero, List.drop_zero] at hdr
    exact same (by rw [hdr])

end Go.Proofs.YthplaillblmgfaaGreatDoor


namespace Go.Proofs.YthplaillblmgfaaGreatDoor
open Go.Sim

theorem mul_lt32 {x y : Nat} (hx : x < 4294967296) (hy : y < 4294967296) : x * y ≤ 18446744065119617025 := by
  have := Nat.mul_le_mul (show x ≤ 4294967295 by omega) (show y ≤ 4294967295 by omega)
  omega

theorem C124 {va vb : Value} {a b : Nat} {h : Heap} {K : Value → Heap → Prop} (ha : MagV h va a) (hb : MagV h vb b) (la : a < bigW) (lb : b < bigW) (hk : ∀ v h', EX h h' → MagV h' v (a * b) → K v h') : CallP Tryz.prog 124 [va, vb] h K := by
  obtain ⟨xs, hx, cx, rfl⟩ := ha
  obtain ⟨ys, hy, cy, rfl⟩ := hb
  have l1 := canW_len cx la
  have l2 := canW_len cy lb
  have hW : (0 : Nat) < 4294967296 := by decide
  refine f124 ?_
  have e0 : IntKind.wrap .i64 ((xs.length : Int) + (ys.length : Int)) = ((xs.length + ys.length : Nat) : Int) := by rw [wrap64 (by omega) (by omega)]; omega
  simp only [T124, hx.len, hy.len, OP_some, bin_add, e0, make_hd (show xs.length + ys.length ≤ 1000 by omega), OH_some]
  refine loopL (σ := Nat × List Nat) (fun p => [I p.1]) (fun p => hd h p.2)
    (fun p => p.1 ≤ xs.length ∧ p.2.length = xs.length + ys.length ∧ Lim 4294967296 p.2 ∧ (∀ j (hj : j < p.2.length), p.1 + ys.length ≤ j → p.2[j] = 0) ∧ val 4294967296 p.2 = val 4294967296 (xs.take p.1) * val 4294967296 ys) (fun p => xs.length - p.1)
    (0, List.replicate (xs.length + ys.length) 0) rfl rfl ⟨by simp, by simp, Lim.zeros hW _, by simp, by simp [val_zeros, val]⟩ ?_
  rintro ⟨i, os⟩ ⟨hi, hol, hlim, hz, hval⟩ L hL
  simp only at hi hol hlim hz hval hL ⊢
  rw [q124z6]
  have hx' := hx.mono (hd_EX h os)
  simp only [bin_lss, OP_some, IfP_dec]
  refine ⟨fun hlt => ?_, fun hge => ?_⟩
  · have hil : i < xs.length := by omega
    obtain ⟨ia, a1, a2⟩ := hx'.get hil
    have hxl : xs[i] < 4294967296 := cx.1 _ (List.getElem_mem hil)
    simp only [a1, OP_some, a2, (hy.mono (hd_EX h os)).len]
    have hvt := val_take_succ 4294967296 xs hil
    generalize xs[i] = x at hxl hvt
    refine loopL (σ := Nat × Nat × List Nat) (fun p => [.int .u64 (p.1 : Int), I p.2.1]) (fun p => hd h p.2.2)
      (fun p => p.2.1 ≤ ys.length ∧ p.1 < 4294967296 ∧ p.2.2.length = xs.length + ys.length ∧ Lim 4294967296 p.2.2 ∧ (∀ j (hj : j < p.2.2.length), i + ys.length ≤ j → p.2.2[j] = 0) ∧ val 4294967296 p.2.2 + 4294967296 ^ (i + p.2.1) * p.1 = val 4294967296 os + 4294967296 ^ i * (x * val 4294967296 (ys.take p.2.1))) (fun p => ys.length - p.2.1)
      (0, 0, os) rfl rfl ⟨by simp, hW, hol, hlim, hz, by simp [val]⟩ ?_
    rintro ⟨c, j, ps⟩ ⟨hj, hc, hpl, hplim, hpz, hpval⟩ L2 hL2
    simp only at hj hc hpl hplim hpz hpval hL2 ⊢
    rw [q124z16]
    have hy' := hy.mono (hd_EX h ps)
    simp only [bin_lss, OP_some, IfP_dec]
    refine ⟨fun hlt2 => ?_, fun hge2 => ?_⟩
    · have hjl : j < ys.length := by omega
      obtain ⟨ib, b1, b2⟩ := hy'.get hjl
      have hyl : ys[j] < 4294967296 := cy.1 _ (List.getElem_mem hjl)
      have hyt := val_take_succ 4294967296 ys hjl
      generalize ys[j] = y at b2 hyl hyt
      have hpk : i + j < ps.length := by omega
      have hol2 : ps[i + j] < 4294967296 := hplim _ (List.getElem_mem hpk)
      have hxy := mul_lt32 hxl hyl
      have hset := val_set 4294967296 ps (i + j) ((x * y + ps[i + j] + c) % 4294967296) hpk
      have ei : IntKind.wrap .i64 ((i : Int) + (j : Int)) = ((i + j : Nat) : Int) := by rw [wrap64 (by omega) (by omega)]; omega
      have cst : ((x : Int) * (y : Int)) = ((x * y : Nat) : Int) := by simp
      simp only [b1, OP_some, b2, conv_int]
      rw [wrapU64 (n := (x : Int)) (by omega) (by omega), wrapU64 (n := (y : Int)) (by omega) (by omega)]
      simp only [bin_mul, OP_some, cst, bin_add, ei]
      rw [wrapU64 (n := ((x * y : Nat) : Int)) (by omega) (by omega)]
      rw [adr_sl (show i + j < xs.length + ys.length by omega)]
      simp only [OP_some, hd_load hpk, conv_int]
      rw [wrapU64 (n := (ps[i + j] : Int)) (by omega) (by omega)]
      have e1 : IntKind.wrap .u64 (((x * y : Nat) : Int) + (ps[i + j] : Int)) = ((x * y + ps[i + j] : Nat) : Int) := by rw [wrapU64 (by omega) (by omega)]; omega
      have e2 : IntKind.wrap .u64 (((x * y + ps[i + j] : Nat) : Int) + (c : Int)) = ((x * y + ps[i + j] + c : Nat) : Int) := by rw [wrapU64 (by omega) (by omega)]; omega
      have e3 : IntKind.wrap .u32 ((x * y + ps[i + j] + c : Nat) : Int) = (((x * y + ps[i + j] + c) % 4294967296 : Nat) : Int) := by rw [wrapU32e]; omega
      simp only [bin_add, OP_some, e1, e2, conv_int, e3, shr32]
      rw [hd_store _ hpk]
      simp only [OH_some, bin_add, OP_some, inc j (by omega), true_and]
      have hmod : (x * y + ps[i + j] + c) % 4294967296 < 4294967296 := Nat.mod_lt _ hW
      have hdm := Nat.mod_add_div (x * y + ps[i + j] + c) 4294967296
      have hdiv : (x * y + ps[i + j] + c) / 4294967296 < 4294967296 := by omega
      refine hL2 ((x * y + ps[i + j] + c) / 4294967296, j + 1, ps.set (i + j) ((x * y + ps[i + j] + c) % 4294967296)) ⟨by show j + 1 ≤ ys.length; omega, hdiv, by show (ps.set _ _).length = _; rw [List.length_set]; exact hpl, hplim.set hmod _, ?_, ?_⟩ (by show ys.length - (j + 1) < ys.length - j; omega)
      · intro k hk2 hik
        show (ps.set (i + j) _)[k] = 0
        have hne : i + j ≠ k := by omega
        rw [List.getElem_set_ne hne]
        exact hpz k (by simpa using hk2) hik
      · show val 4294967296 (ps.set (i + j) _) + 4294967296 ^ (i + (j + 1)) * _ = val 4294967296 os + 4294967296 ^ i * (x * val 4294967296 (ys.take (j + 1)))
        rw [hyt, ← Nat.add_assoc, Nat.pow_succ]
        rw [Nat.pow_add] at hset hpval ⊢
        generalize ps[i + j] = o at *
        generalize (x * y + o + c) % 4294967296 = m at *
        generalize (x * y + o + c) / 4294967296 = q at *
        generalize val 4294967296 (ys.take j) = v at *
        generalize val 4294967296 (ps.set (i + j) m) = s1 at *
        generalize val 4294967296 ps = s0 at *
        generalize val 4294967296 os = s2 at *
        generalize 4294967296 ^ i = P at *
        generalize 4294967296 ^ j = Q at *
        generalize (4294967296 : Nat) = w at *
        clear hL2 hL hx hy hx' hy' b1 b2
        have h1 : P * Q * (m + w * q) = P * Q * (x * y + o + c) := by rw [hdm]
        grind
    · have : j = ys.length := by omega
      subst this
      rw [q124z23]
      have ei : IntKind.wrap .i64 ((i : Int) + (ys.length : Int)) = ((i + ys.length : Nat) : Int) := by rw [wrap64 (by omega) (by omega)]; omega
      simp only [hy'.len, OP_some, bin_add, ei, conv_int]
      rw [wrapU32 (n := (c : Int)) (by omega) (by omega), adr_sl (show i + ys.length < xs.length + ys.length by omega)]
      simp only [OP_some]
      have hpk : i + ys.length < ps.length := by omega
      rw [hd_store _ hpk]
      simp only [OH_some, q124z24, bin_add, OP_some, inc i (by omega), true_and]
      have hset := val_set 4294967296 ps (i + ys.length) c hpk
      rw [hpz _ hpk (Nat.le_refl _)] at hset
      rw [List.take_length] at hpval
      refine hL (i + 1, ps.set (i + ys.length) c) ⟨by show i + 1 ≤ xs.length; omega, by show (ps.set _ _).length = _; rw [List.length_set]; exact hpl, hplim.set hc _, ?_, ?_⟩ (by show xs.length - (i + 1) < xs.length - i; omega)
      · intro k hk2 hik
        show (ps.set (i + ys.length) _)[k] = 0
        have hik' : i + 1 + ys.length ≤ k := hik
        have hne : i + ys.length ≠ k := by omega
        rw [List.getElem_set_ne hne]
        exact hpz k (by simpa using hk2) (by omega)
      · show val 4294967296 (ps.set (i + ys.length) c) = val 4294967296 (xs.take (i + 1)) * val 4294967296 ys
        rw [hvt, Nat.add_mul, ← hval, Nat.mul_assoc, ← hpval]
        omega
  · have : i = xs.length := by omega
    subst this
    rw [q124z25]
    rw [List.take_length] at hval
    have e : sl 116 h.length 0 (xs.length + ys.length) = sl 116 h.length 0 os.length := by rw [hol]
    rw [e]
    refine C83 (hd_DS h _) hlim (by omega) ?_
    intro v' hm
    rw [hval] at hm
    exact hk v' _ (hd_EX h _) hm

/-! ### With a sign -/

/-- An integer: whether it is below 0, and its size. -/
def IntV (h : Heap) (val : Value) (z : Int) : Prop := ∃ v, val = .agg #[B (decide (z < 0)), v] ∧ MagV h v z.natAbs

theorem IntV.mono {h h' : Heap} {v : Value} {z : Int} (x : EX h h') (p : IntV h v z) : IntV h' v z := let ⟨w, a, b⟩ := p; ⟨w, a, b.mono x⟩

theorem MagV.len0 {h : Heap} {v : Value} {n : Nat} (p : MagV h v n) : ∃ l : Nat, iLenSl v = some (I l) ∧ (0 < l ↔ 0 < n) := by
  obtain ⟨xs, d, c, rfl⟩ := p
  refine ⟨xs.length, d.len, ?_⟩
  constructor
  · intro h0
    have := Canon.low (by decide) c (by rintro rfl; simp at h0)
    have : 0 < 4294967296 ^ (xs.length - 1) := Nat.pow_pos (by decide)
    omega
  · intro h0
    cases xs with
    | nil => simp [val] at h0
    | cons x xs => simp

/-- Nothing of a number is lost if an object that begins with a truth value is written. -/
theorem MagV.setB {h : Heap} {v : Value} {n j : Nat} {e : TypeId} {b : Bool} {r : List Value} (p : MagV h v n) (hj : h[j]? = some (.arr e (.bool b :: r))) (o : IObj) : MagV (h.set j o) v n := by
  obtain ⟨xs, d, c, hv⟩ := p
  refine ⟨xs, ?_, c, hv⟩
  rcases d with d | ⟨i, h1, h2⟩
  · exact .inl d
  · refine .inr ⟨i, h1, ?_⟩
    rcases h2 with h2 | ⟨rest, h2⟩
    · exact .inl h2
    · cases xs with
      | nil => exact .inl rfl
      | cons x xs =>
        right
        refine ⟨rest, ?_⟩
        have hne : j ≠ i := by
          rintro rfl
          unfold objCells at h2
          rw [hj] at h2
          simp at h2
        unfold objCells at h2 ⊢
        rw [List.getElem?_set_ne hne]
        exact h2

theorem IntV.setB {h : Heap} {v : Value} {z : Int} {j : Nat} {e : TypeId} {b : Bool} {r : List Value} (p : IntV h v z) (hj : h[j]? = some (.arr e (.bool b :: r))) (o : IObj) : IntV (h.set j o) v z :=
  let ⟨w, a, q⟩ := p; ⟨w, a, q.setB hj o⟩

theorem store2 {h : Heap} {i : Nat} {e : TypeId} {a b x y : Value} (hg : h[i]? = some (.arr e [a, b])) : oStore 2 h (pt i 0) (.agg #[x, y]) = some (undef, h.set i (.arr e [x, y])) := by
  simp [oStore, iStore, hg, noTuple, vcells, Value.cells, setAt]

theorem load2 {h : Heap} {i : Nat} {e : TypeId} {a b : Value} (hg : h[i]? = some (.arr e [a, b])) : iLoad true 2 h (pt i 0) = some (.agg #[a, b]) := by
  simp [iLoad, objCells, hg, iPart]

theorem set_get {h : Heap} {i : Nat} {o o' : IObj} (hg : h[i]? = some o') : (h.set i o)[i]? = some o := by
  rw [List.getElem?_set_self (List.getElem?_eq_some_iff.1 hg).1]

theorem C82 {v : Value} {n : Nat} {b : Bool} {h : Heap} {K : Value → Heap → Prop} (hm : MagV h v n) (hk : ∀ h', EX h h' → K (.agg #[B (b && decide (0 < n)), v]) h') : CallP Tryz.prog 82 [B b, v] h K := by
  refine f82 ?_
  have al : iAlloc 81 [(.bool false), (.slice none 0 0)] h = some (pt h.length 0, h ++ [.arr 81 [(.bool false), (.slice none 0 0)]]) := rfl
  simp only [T82, al, OH_some]
  obtain ⟨l, h1, h2⟩ := hm.len0
  have hg : (h ++ [IObj.arr 81 [(.bool false), (.slice none 0 0)]])[h.length]? = some (.arr 81 [(.bool false), (.slice none 0 0)]) := get_last
  have hx : EX h (h ++ [IObj.arr 81 [(.bool false), (.slice none 0 0)]]) := EX.append _ _
  have fin : p82z6 Tryz.prog K v (pt h.length 0) (B b) (B (decide (0 < l))) (h ++ [IObj.arr 81 [(.bool false), (.slice none 0 0)]]) ∧ (b = false → p82z6 Tryz.prog K v (pt h.length 0) (B b) undef (h ++ [IObj.arr 81 [(.bool false), (.slice none 0 0)]])) := by
    have one : ∀ c : Bool, c = (b && decide (0 < n)) → OP (iBuild [(.bool false), (.slice none 0 0)] [(0, 1, B c), (1, 1, v)]) fun x12 => OH (oStore 2 (h ++ [IObj.arr 81 [(.bool false), (.slice none 0 0)]]) (pt h.length 0) x12) fun _ h_1 => OP (iLoad true 2 h_1 (pt h.length 0)) fun r0 => K r0 h_1 := by
      rintro c rfl
      have eb : iBuild [(.bool false), (.slice none 0 0)] [(0, 1, B (b && decide (0 < n))), (1, 1, v)] = some (.agg #[B (b && decide (0 < n)), v]) := by
        obtain ⟨xs, d, _, _⟩ := hm
        rcases d with ⟨rfl, _⟩ | ⟨i, rfl, _⟩ <;> rfl
      simp only [eb, OP_some]
      rw [store2 hg]
      simp only [OH_some]
      rw [load2 (set_get hg)]
      simp only [OP_some]
      exact hk _ (hx.set (Nat.le_refl _) _)
    constructor
    · rw [q82z6]
      cases b with
      | true => simp only [iPick_t, OP_some]; exact one _ (by simp [h2])
      | false => simp only [iPick_f, OP_some]; exact one _ (by simp)
    · rintro rfl
      rw [q82z6]
      simp only [iPick_f, OP_some]
      exact one _ (by simp)
  rw [q82z4]
  have e0 : decide ((0 : Int) < (l : Int)) = decide (0 < l) := by
    by_cases h0 : 0 < l
    · simp [h0]
    · simp [h0]
  cases b with
  | true =>
    simp only [GdP_tt, h1, OP_some, bin_gtr, e0]
    exact fin.1
  | false =>
    simp only [GdP_ft]
    exact fin.2 rfl

end Go.Proofs.YthplaillblmgfaaGreatDoor


namespace Go.Proofs.YthplaillblmgfaaGreatDoor
open Go.Sim

theorem fin2 {h' : Heap} {j : Nat} {b0 v0 b v : Value} {K : Value → Heap → Prop} (hg : h'[j]? = some (.arr 81 [b0, v0])) (hk : K (.agg #[b, v]) (h'.set j (.arr 81 [b, v]))) :
    OH (oStore 2 h' (pt j 0) (.agg #[b, v])) fun _ h6 => OP (iLoad true 2 h6 (pt j 0)) fun r0 => K r0 h6 := by
  rw [store2 hg]
  simp only [OH_some]
  rw [load2 (set_get hg)]
  exact OP_some.2 hk

/-- Two integers boxed, and a place for the result. -/
structure Box2 (h : Heap) (va vb : Value) (sa sb : Bool) (h3 : Heap) : Prop where
  ex : EX h h3
  a0 : iLoad false 1 h3 (pt h.length 0) = some (B sa)
  a1 : iLoad false 1 h3 (pt h.length 1) = some va
  b0 : iLoad false 1 h3 (pt (h.length + 1) 0) = some (B sb)
  b1 : iLoad false 1 h3 (pt (h.length + 1) 1) = some vb
  a2 : iLoad true 2 h3 (pt h.length 0) = some (.agg #[B sa, va])
  b2 : iLoad true 2 h3 (pt (h.length + 1) 0) = some (.agg #[B sb, vb])
  out : h3[h.length + 2]? = some (.arr 81 [.bool false, .slice none 0 0])

theorem box2 {h : Heap} {va vb : Value} {sa sb : Bool} {K : Value → Value → Value → Heap → Prop} (hk : ∀ h3, Box2 h va vb sa sb h3 → K (pt h.length 0) (pt (h.length + 1) 0) (pt (h.length + 2) 0) h3) :
    OH (iBox 81 h (.agg #[B sa, va])) fun a2 h_1 => OH (iBox 81 h_1 (.agg #[B sb, vb])) fun b3 h_2 => OH (iAlloc 81 [(.bool false), (.slice none 0 0)] h_2) fun x4 h_3 => K a2 b3 x4 h_3 := by
  have e1 : ∀ (g : Heap) (s : Bool) (v : Value), iBox 81 g (.agg #[B s, v]) = some (pt g.length 0, g ++ [.arr 81 [B s, v]]) := fun _ _ _ => rfl
  have e2 : ∀ (g : Heap), iAlloc 81 [(.bool false), (.slice none 0 0)] g = some (pt g.length 0, g ++ [.arr 81 [(.bool false), (.slice none 0 0)]]) := fun _ => rfl
  simp only [e1, e2, OH_some, List.length_append, List.length_cons, List.length_nil]
  have g0 : (h ++ [IObj.arr 81 [B sa, va]] ++ [IObj.arr 81 [B sb, vb]] ++ [IObj.arr 81 [(.bool false), (.slice none 0 0)]])[h.length]? = some (.arr 81 [B sa, va]) := by simp
  have g1 : (h ++ [IObj.arr 81 [B sa, va]] ++ [IObj.arr 81 [B sb, vb]] ++ [IObj.arr 81 [(.bool false), (.slice none 0 0)]])[h.length + 1]? = some (.arr 81 [B sb, vb]) := by simp
  have g2 : (h ++ [IObj.arr 81 [B sa, va]] ++ [IObj.arr 81 [B sb, vb]] ++ [IObj.arr 81 [(.bool false), (.slice none 0 0)]])[h.length + 2]? = some (.arr 81 [(.bool false), (.slice none 0 0)]) := by simp
  refine hk _ ⟨((EX.append _ _).push _).push _, ?_, ?_, ?_, ?_, load2 g0, load2 g1, g2⟩
  · simp [iLoad, objCells, iPart]
  · simp [iLoad, objCells, iPart]
  · simp [iLoad, objCells, iPart]
  · simp [iLoad, objCells, iPart]

theorem C46 {n : Int} {h : Heap} {K : Value → Heap → Prop} (h1 : -9223372036854775808 ≤ n) (h2 : n < 9223372036854775808) (hk : ∀ r h', EX h h' → IntV h' r n → K r h') : CallP Tryz.prog 46 [I n] h K := by
  refine f46 ?_
  have e2 : iAlloc 81 [(.bool false), (.slice none 0 0)] h = some (pt h.length 0, h ++ [.arr 81 [(.bool false), (.slice none 0 0)]]) := rfl
  simp only [T46, e2, OH_some]
  have x1 : EX h (h ++ [IObj.arr 81 [(.bool false), (.slice none 0 0)]]) := EX.append _ _
  have g1 : (h ++ [IObj.arr 81 [(.bool false), (.slice none 0 0)]])[h.length]? = some (.arr 81 [(.bool false), (.slice none 0 0)]) := get_last
  generalize h ++ [IObj.arr 81 [(.bool false), (.slice none 0 0)]] = hA at x1 g1 ⊢
  have go : ∀ u : Nat, u = n.natAbs → p46z5 Tryz.prog K (I n) (pt h.length 0) (.int .u64 (u : Int)) hA := by
    intro u hu
    rw [q46z5]
    have ew : IntKind.wrap .u32 (u : Int) = ((u % 4294967296 : Nat) : Int) := by rw [wrapU32e]; omega
    simp only [bin_lss, OP_some, conv_int, shr32, ew]
    rw [wrapU32 (n := ((u / 4294967296 : Nat) : Int)) (by omega) (by omega)]
    have mk : iMkSl 116 2 [.int .u32 0] hA [(0, 1, .int .u32 ((u % 4294967296 : Nat) : Int)), (1, 1, .int .u32 ((u / 4294967296 : Nat) : Int))] = some (sl 116 hA.length 0 2, hd hA [u % 4294967296, u / 4294967296]) := rfl
    simp only [mk, OH_some]
    have hl : Lim 4294967296 [u % 4294967296, u / 4294967296] := by
      intro x hx
      simp at hx
      rcases hx with rfl | rfl <;> omega
    refine C83 (hd_DS hA [u % 4294967296, u / 4294967296]) hl (by simp) ?_
    intro v hv
    have hval : val 4294967296 [u % 4294967296, u / 4294967296] = n.natAbs := by simp [val]; omega
    rw [hval] at hv
    refine C82 hv ?_
    intro h' x'
    have xx := (hd_EX hA [u % 4294967296, u / 4294967296]).trans x'
    have g' := xx.get g1
    refine fin2 g' (hk _ _ ((x1.trans xx).set (Nat.le_refl _) _) ⟨v, ?_, (hv.mono x').setB g' _⟩)
    have : (decide (n < 0) && decide (0 < n.natAbs)) = decide (n < 0) := by
      by_cases hn : n < 0
      · simp [hn]; omega
      · simp [hn]
    rw [this]
  simp only [conv_int, OP_some, bin_lss, IfP_dec]
  refine ⟨fun hn => ?_, fun hn => ?_⟩
  · have e3 : iUn .neg (.int .u64 (IntKind.wrap .u64 n)) = some (.int .u64 ((n.natAbs : Nat) : Int)) := by
      have e : ∀ m : Int, IntKind.wrap .u64 m = m % 18446744073709551616 := fun m => by simp [IntKind.wrap, IntKind.bits, IntKind.signed]
      simp only [iUn]
      rw [e, e]
      congr 2
      omega
    simp only [e3, OP_some]
    exact go _ rfl
  · have : IntKind.wrap .u64 n = ((n.natAbs : Nat) : Int) := by rw [wrapU64 (by omega) (by omega)]; omega
    rw [this]
    exact go _ rfl

theorem C120 {va : Value} {a : Int} {h : Heap} {K : Value → Heap → Prop} (ha : IntV h va a) (hk : ∀ r h', EX h h' → IntV h' r (-a) → K r h') : CallP Tryz.prog 120 [va] h K := by
  obtain ⟨v, rfl, hv⟩ := ha
  refine f120 ?_
  have e1 : iBox 81 h (.agg #[B (decide (a < 0)), v]) = some (pt h.length 0, h ++ [.arr 81 [B (decide (a < 0)), v]]) := rfl
  simp only [T120, e1, OH_some]
  have l0 : iLoad false 1 (h ++ [.arr 81 [B (decide (a < 0)), v]]) (pt h.length 0) = some (B (decide (a < 0))) := load_last rfl
  have l1 : iLoad false 1 (h ++ [.arr 81 [B (decide (a < 0)), v]]) (pt h.length 1) = some v := load_last rfl
  have x1 : EX h (h ++ [.arr 81 [B (decide (a < 0)), v]]) := EX.append _ _
  generalize h ++ [IObj.arr 81 [B (decide (a < 0)), v]] = h1 at l0 l1 x1 ⊢
  have e2 : iAlloc 81 [(.bool false), (.slice none 0 0)] h1 = some (pt h1.length 0, h1 ++ [.arr 81 [(.bool false), (.slice none 0 0)]]) := rfl
  have x2 : EX h1 (h1 ++ [IObj.arr 81 [(.bool false), (.slice none 0 0)]]) := EX.append _ _
  have g1 : (h1 ++ [IObj.arr 81 [(.bool false), (.slice none 0 0)]])[h1.length]? = some (.arr 81 [(.bool false), (.slice none 0 0)]) := get_last
  simp only [e2, OH_some]
  generalize h1 ++ [IObj.arr 81 [(.bool false), (.slice none 0 0)]] = h2 at x2 g1 ⊢
  simp only [fadr_pt, Nat.add_zero, Nat.zero_add, OP_some, EX.load x2 l0, EX.load x2 l1, un_not]
  have hv2 := hv.mono (x1.trans x2)
  refine C82 hv2 ?_
  intro h' x'
  have g' := x'.get g1
  refine fin2 g' (hk _ _ (((x1.trans x2).trans x').set x1.1 _) ⟨v, ?_, ?_⟩)
  · have : (!decide (a < 0) && decide (0 < a.natAbs)) = decide (-a < 0) := by
      by_cases h0 : a < 0
      · rw [decide_eq_true h0, decide_eq_false (show ¬ -a < 0 by omega)]; rfl
      · by_cases h3 : a = 0
        · subst h3; rfl
        · rw [decide_eq_false h0, decide_eq_true (show 0 < a.natAbs by omega), decide_eq_true (show -a < 0 by omega)]; rfl
    rw [this]
  · have : (-a).natAbs = a.natAbs := by omega
    rw [this]
    exact (hv2.mono x').setB g' _

theorem C48 {va vb : Value} {a b : Int} {h : Heap} {K : Value → Heap → Prop} (ha : IntV h va a) (hb : IntV h vb b) (la : a.natAbs < bigW) (lb : b.natAbs < bigW) (hk : ∀ r h', EX h h' → IntV h' r (a + b) → K r h') : CallP Tryz.prog 48 [va, vb] h K := by
  obtain ⟨v, rfl, hv⟩ := ha
  obtain ⟨w, rfl, hw⟩ := hb
  refine f48 ?_
  unfold T48
  refine box2 ?_
  intro h3 x
  have hv3 := hv.mono x.ex
  have hw3 := hw.mono x.ex
  simp only [fadr_pt, Nat.add_zero, Nat.zero_add, OP_some, x.a0, x.a1, x.b0, x.b1, eqb_bool, Bool.false_eq_true, if_false]
  refine IfP_of (fun he => ?_) fun hne => ?_
  · have hs : decide (a < 0) = decide (b < 0) := by simpa using he
    have hs' : (a < 0 ↔ b < 0) := by simpa using hs
    simp only [true_and]
    refine C85 hv3 hw3 la lb ?_
    intro u h4 x4 hu
    refine ⟨⟨EX.load x4 x.a0, trivial⟩, ?_⟩
    refine C82 hu ?_
    intro h5 x5
    have g' := (x4.trans x5).get x.out
    refine fin2 g' (hk _ _ (((x.ex.trans x4).trans x5).set (by omega) _) ⟨u, ?_, ?_⟩)
    · have : (decide (a < 0) && decide (0 < a.natAbs + b.natAbs)) = decide (a + b < 0) := by
        by_cases h0 : a < 0
        · rw [decide_eq_true h0, decide_eq_true (show 0 < a.natAbs + b.natAbs by omega), decide_eq_true (show a + b < 0 by omega)]; rfl
        · rw [decide_eq_false h0, decide_eq_false (show ¬ a + b < 0 by omega)]; rfl
      rw [this]
    · have : (a + b).natAbs = a.natAbs + b.natAbs := by omega
      rw [this]
      exact (hu.mono x5).setB g' _
  · have hs : decide (a < 0) ≠ decide (b < 0) := by simpa using hne
    have hs' : ¬ (a < 0 ↔ b < 0) := fun h => hs (decide_eq_decide.2 h)
    refine C86 hv3 hw3 la lb ?_
    simp only [bin_geq, OP_some, IfP_dec]
    refine ⟨fun hge => ?_, fun hlt => ?_⟩
    · have hle : b.natAbs ≤ a.natAbs := by
        apply Classical.byContradiction
        intro hc
        unfold sgn at hge
        rw [if_pos (by omega)] at hge
        omega
      simp only [x.a0, x.a1, x.b1, OP_some, true_and]
      refine C87 hv3 hw3 la hle ?_
      intro u h4 x4 hu
      refine ⟨⟨EX.load x4 x.a0, trivial⟩, ?_⟩
      refine C82 hu ?_
      intro h5 x5
      have g' := (x4.trans x5).get x.out
      refine fin2 g' (hk _ _ (((x.ex.trans x4).trans x5).set (by omega) _) ⟨u, ?_, ?_⟩)
      · have : (decide (a < 0) && decide (0 < a.natAbs - b.natAbs)) = decide (a + b < 0) := by
          by_cases h0 : a < 0
          · by_cases h6 : 0 < a.natAbs - b.natAbs
            · rw [decide_eq_true h0, decide_eq_true h6, decide_eq_true (show a + b < 0 by omega)]; rfl
            · rw [decide_eq_true h0, decide_eq_false h6, decide_eq_false (show ¬ a + b < 0 by omega)]; rfl
          · rw [decide_eq_false h0, decide_eq_false (show ¬ a + b < 0 by omega)]; rfl
        rw [this]
      · have : (a + b).natAbs = a.natAbs - b.natAbs := by omega
        rw [this]
        exact (hu.mono x5).setB g' _
    · have hle : a.natAbs ≤ b.natAbs := by
        apply Classical.byContradiction
        intro hc
        unfold sgn at hlt
        rw [if_neg (by omega), if_pos (by omega)] at hlt
        omega
      simp only [x.b0, x.a1, x.b1, OP_some, true_and]
      refine C87 hw3 hv3 lb hle ?_
      intro u h4 x4 hu
      refine ⟨⟨EX.load x4 x.b0, trivial⟩, ?_⟩
      refine C82 hu ?_
      intro h5 x5
      have g' := (x4.trans x5).get x.out
      refine fin2 g' (hk _ _ (((x.ex.trans x4).trans x5).set (by omega) _) ⟨u, ?_, ?_⟩)
      · have : (decide (b < 0) && decide (0 < b.natAbs - a.natAbs)) = decide (a + b < 0) := by
          by_cases h0 : b < 0
          · by_cases h6 : 0 < b.natAbs - a.natAbs
            · rw [decide_eq_true h0, decide_eq_true h6, decide_eq_true (show a + b < 0 by omega)]; rfl
            · rw [decide_eq_true h0, decide_eq_false h6, decide_eq_false (show ¬ a + b < 0 by omega)]; rfl
          · rw [decide_eq_false h0, decide_eq_false (show ¬ a + b < 0 by omega)]; rfl
        rw [this]
      · have : (a + b).natAbs = b.natAbs - a.natAbs := by omega
        rw [this]
        exact (hu.mono x5).setB g' _

theorem C148 {va vb : Value} {a b : Int} {h : Heap} {K : Value → Heap → Prop} (ha : IntV h va a) (hb : IntV h vb b) (la : a.natAbs < bigW) (lb : b.natAbs < bigW) (hk : ∀ r h', EX h h' → IntV h' r (a - b) → K r h') : CallP Tryz.prog 148 [va, vb] h K := by
  have ha0 := ha
  have hb0 := hb
  obtain ⟨v, rfl, hv⟩ := ha
  obtain ⟨w, rfl, hw⟩ := hb
  refine f148 ?_
  unfold T148
  refine box2 ?_
  intro h3 x
  simp only [OP_some, x.a2, x.b2, true_and]
  refine C120 (hb0.mono x.ex) ?_
  intro r1 h4 x4 i1
  refine ⟨⟨EX.load x4 x.a2, trivial⟩, ?_⟩
  refine C48 (ha0.mono (x.ex.trans x4)) i1 la (by rw [Int.natAbs_neg]; exact lb) ?_
  intro r2 h5 x5 i2
  have g' := (x4.trans x5).get x.out
  obtain ⟨u, rfl, hu⟩ := id i2
  refine fin2 g' (hk _ _ (((x.ex.trans x4).trans x5).set (by omega) _) ?_)
  rw [Int.sub_eq_add_neg]
  exact i2.setB g' _

theorem C105 {va vb : Value} {a b : Int} {h : Heap} {K : Value → Heap → Prop} (ha : IntV h va a) (hb : IntV h vb b) (la : a.natAbs < bigW) (lb : b.natAbs < bigW) (hk : ∀ r h', EX h h' → IntV h' r (a * b) → K r h') : CallP Tryz.prog 105 [va, vb] h K := by
  obtain ⟨v, rfl, hv⟩ := ha
  obtain ⟨w, rfl, hw⟩ := hb
  refine f105 ?_
  unfold T105
  refine box2 ?_
  intro h3 x
  have hv3 := hv.mono x.ex
  have hw3 := hw.mono x.ex
  simp only [fadr_pt, Nat.add_zero, Nat.zero_add, OP_some, x.a0, x.a1, x.b0, x.b1, eqb_bool, if_true, true_and]
  refine C124 hv3 hw3 la lb ?_
  intro u h4 x4 hu
  refine ⟨⟨EX.load x4 x.a0, EX.load x4 x.b0, trivial⟩, ?_⟩
  refine C82 hu ?_
  intro h5 x5
  have g' := (x4.trans x5).get x.out
  refine fin2 g' (hk _ _ (((x.ex.trans x4).trans x5).set (by omega) _) ⟨u, ?_, ?_⟩)
  · have : ((!(decide (a < 0) == decide (b < 0))) && decide (0 < a.natAbs * b.natAbs)) = decide (a * b < 0) := by
      rcases Int.lt_trichotomy a 0 with h1 | h1 | h1
      · rcases Int.lt_trichotomy b 0 with h2 | h2 | h2
        · have := Int.mul_pos_of_neg_of_neg h1 h2
          rw [decide_eq_true h1, decide_eq_true h2, decide_eq_false (show ¬ a * b < 0 by omega)]; rfl
        · subst h2; simp
        · have := Int.mul_neg_of_neg_of_pos h1 h2
          have h3 : 0 < a.natAbs * b.natAbs := Nat.mul_pos (by omega) (by omega)
          rw [decide_eq_true h1, decide_eq_false (show ¬ b < 0 by omega), decide_eq_true h3, decide_eq_true this]; rfl
      · subst h1; simp
      · rcases Int.lt_trichotomy b 0 with h2 | h2 | h2
        · have := Int.mul_neg_of_pos_of_neg h1 h2
          have h3 : 0 < a.natAbs * b.natAbs := Nat.mul_pos (by omega) (by omega)
          rw [decide_eq_false (show ¬ a < 0 by omega), decide_eq_true h2, decide_eq_true h3, decide_eq_true this]; rfl
        · subst h2; simp
        · have := Int.mul_pos h1 h2
          rw [decide_eq_false (show ¬ a < 0 by omega), decide_eq_false (show ¬ b < 0 by omega), decide_eq_false (show ¬ a * b < 0 by omega)]; rfl
    rw [this]
  · rw [Int.natAbs_mul]
    exact (hu.mono x5).setB g' _

end Go.Proofs.YthplaillblmgfaaGreatDoor


namespace Go.Proofs.YthplaillblmgfaaGreatDoor
open Go.Sim

theorem shl32 {r : Nat} (hr : r < 4294967296) : iBin .shl (.int .u64 (r : Int)) (.int .u64 32) = some (.int .u64 ((r * 4294967296 : Nat) : Int)) := by
  simp only [iBin, iShift]
  rw [if_neg (by omega)]
  have : (min (32 : Int).toNat IntKind.u64.bits) = 32 := rfl
  rw [this]
  have e2 : (2 : Int) ^ 32 = 4294967296 := by decide
  rw [e2, wrapU64 (by omega) (by omega)]
  congr 2

theorem or64 {r x : Nat} (hr : r < 4294967296) (hx : x < 4294967296) : iBin .or (.int .u64 ((r * 4294967296 : Nat) : Int)) (.int .u64 (x : Int)) = some (.int .u64 ((r * 4294967296 + x : Nat) : Int)) := by
  have e : (BitVec.ofInt IntKind.u64.bits ((r * 4294967296 : Nat) : Int) ||| BitVec.ofInt IntKind.u64.bits (x : Int)).toNat = r * 4294967296 + x := by
    show (BitVec.ofInt 64 ((r * 4294967296 : Nat) : Int) ||| BitVec.ofInt 64 (x : Int)).toNat = _
    rw [BitVec.ofInt_natCast, BitVec.ofInt_natCast, BitVec.toNat_or, BitVec.toNat_ofNat, BitVec.toNat_ofNat, Nat.mod_eq_of_lt (by omega), Nat.mod_eq_of_lt (by omega)]
    have := Nat.two_pow_add_eq_or_of_lt (i := 32) (b := x) (by omega) r
    rw [Nat.mul_comm r]
    exact this.symm
  simp only [iBin, iInt, if_true]
  rw [e, wrapU64 (by omega) (by omega)]

theorem quo64 {a b : Nat} (hb : b ≠ 0) (ha : a < 18446744073709551616) : iBin .quo (.int .u64 (a : Int)) (.int .u64 (b : Int)) = some (.int .u64 ((a / b : Nat) : Int)) := by
  have h : ¬ ((b : Int) = 0) := by omega
  have h2 : a / b ≤ a := Nat.div_le_self _ _
  simp only [iBin, iInt, if_true, if_neg h]
  have e : (a : Int).tdiv (b : Int) = ((a / b : Nat) : Int) := rfl
  rw [e]
  generalize a / b = q at *
  rw [wrapU64 (by omega) (by omega)]

theorem C116 {va : Value} {a w : Nat} {h : Heap} {K : Value → Heap → Prop} (ha : MagV h va a) (la : a < bigW) (w0 : 0 < w) (wW : w < 4294967296) (hk : ∀ v h', EX h h' → MagV h' v (a / w) → K (.tuple #[v, .int .u32 ((a % w : Nat) : Int)]) h') :
    CallP Tryz.prog 116 [va, .int .u32 (w : Int)] h K := by
  obtain ⟨xs, hx, cx, rfl⟩ := ha
  have l1 := canW_len cx la
  have hW : (0 : Nat) < 4294967296 := by decide
  refine f116 ?_
  have e1 : IntKind.wrap .i64 ((xs.length : Int) - 1) = (xs.length : Int) - 1 := by rw [wrap64 (by omega) (by omega)]
  simp only [T116, hx.len, OP_some, make_hd (show xs.length ≤ 1000 by omega), OH_some, bin_sub, e1]
  refine loopL (σ := Nat × Nat × List Nat) (fun p => [.int .u64 (p.1 : Int), I ((p.2.1 : Int) - 1)]) (fun p => hd h p.2.2)
    (fun p => p.2.1 ≤ xs.length ∧ p.1 < w ∧ p.2.2.length = xs.length ∧ Lim 4294967296 p.2.2 ∧ val 4294967296 (xs.drop p.2.1) = w * val 4294967296 (p.2.2.drop p.2.1) + p.1) (fun p => p.2.1)
    (0, xs.length, List.replicate xs.length 0) rfl rfl ⟨Nat.le_refl _, w0, by simp, Lim.zeros hW _, by simp [val]⟩ ?_
  rintro ⟨r, i, os⟩ ⟨hi, hr, hol, hlim, hval⟩ L hL
  simp only at hi hr hol hlim hval hL ⊢
  rw [q116z7]
  have hx' := hx.mono (hd_EX h os)
  simp only [bin_geq, OP_some, IfP_dec]
  refine ⟨fun hge => ?_, fun hlt => ?_⟩
  · obtain ⟨j, rfl⟩ : ∃ j, i = j + 1 := ⟨i - 1, by omega⟩
    have ej : (((j + 1 : Nat) : Int) - 1) = (j : Int) := by omega
    rw [ej]
    obtain ⟨ia, a1, a2⟩ := hx'.get (j := j) (by omega)
    have hxl : xs[j]'(by omega) < 4294967296 := cx.1 _ (List.getElem_mem _)
    have hdx : xs.drop j = xs[j]'(by omega) :: xs.drop (j + 1) := List.drop_eq_getElem_cons (by omega)
    generalize xs[j]'(by omega) = x at a2 hxl hdx
    simp only [shl32 (show r < 4294967296 by omega), OP_some, a1, a2, conv_int]
    rw [wrapU64 (n := (x : Int)) (by omega) (by omega)]
    simp only [or64 (show r < 4294967296 by omega) hxl, OP_some, conv_int]
    rw [wrapU64 (n := (w : Int)) (by omega) (by omega)]
    have ht : r * 4294967296 + x < w * 4294967296 := by omega
    have hq : (r * 4294967296 + x) / w < 4294967296 := (Nat.div_lt_iff_lt_mul w0).2 (by omega)
    have hm := Nat.mod_lt (r * 4294967296 + x) w0
    have hdm := Nat.div_add_mod (r * 4294967296 + x) w
    rw [quo64 (by omega) (by omega), rem_nat _ _ _ (by omega)]
    generalize (r * 4294967296 + x) / w = q at *
    generalize (r * 4294967296 + x) % w = m at *
    simp only [OP_some, conv_int]
    rw [wrapU32 (n := (q : Int)) (by omega) (by omega), adr_sl (show j < xs.length by omega)]
    simp only [OP_some]
    rw [hd_store _ (by omega)]
    simp only [OH_some, bin_sub, OP_some, true_and]
    rw [wrap64 (n := (j : Int) - 1) (by omega) (by omega)]
    refine hL (m, j, os.set j q) ⟨by show j ≤ xs.length; omega, hm, by show (os.set _ _).length = _; rw [List.length_set]; exact hol, hlim.set hq _, ?_⟩ (by show j < j + 1; omega)
    show val 4294967296 (xs.drop j) = w * val 4294967296 ((os.set j q).drop j) + m
    have hdo : (os.set j q).drop j = q :: os.drop (j + 1) := by
      rw [List.drop_eq_getElem_cons (by rw [List.length_set]; omega), List.getElem_set_self, List.drop_set_of_lt (by omega)]
    rw [hdx, hdo]
    simp only [val]
    rw [hval]
    generalize val 4294967296 (os.drop (j + 1)) = Q at *
    generalize (4294967296 : Nat) = W at *
    clear hL hx hx' a1 a2 hval
    grind
  · have : i = 0 := by omega
    subst this
    rw [List.drop_zero, List.drop_zero] at hval
    rw [q116z13]
    have e : sl 116 h.length 0 xs.length = sl 116 h.length 0 os.length := by rw [hol]
    rw [e]
    refine C83 (hd_DS h _) hlim (by omega) ?_
    intro v' hm
    simp only [conv_int, OP_some]
    rw [wrapU32 (n := (r : Int)) (by omega) (by omega)]
    have h1 : val 4294967296 xs / w = val 4294967296 os := by
      rw [hval, Nat.mul_add_div w0, Nat.div_eq_of_lt hr, Nat.add_zero]
    have h2 : val 4294967296 xs % w = r := by
      rw [hval, Nat.mul_add_mod, Nat.mod_eq_of_lt hr]
    have := hk v' _ (hd_EX h os) (by rw [h1]; exact hm)
    rw [h2] at this
    exact this

theorem C117 {h : Heap} {id : Nat} {xs : List UInt8} {K : Value → Heap → Prop} (hget : h[id]? = some (.arr 5 (xs.map cv))) (hn : xs.length ≤ 100000) (hk : K (.tuple #[]) (hb h id xs.reverse)) : CallP Tryz.prog 117 [sl 5 id 0 xs.length] h K := by
  have hid := (List.getElem?_eq_some_iff.1 hget).1
  have e0 : h = hb h id xs := by
    apply List.ext_getElem?
    intro j
    by_cases hj : id = j
    · subst hj; rw [hb_get hid, hget]
    · rw [List.getElem?_set_ne hj]
  refine f117 ?_
  have e1 : iLenSl (sl 5 id 0 xs.length) = some (I xs.length) := rfl
  have e2 : IntKind.wrap .i64 ((xs.length : Int) - 1) = (xs.length : Int) - 1 := by rw [wrap64 (by omega) (by omega)]
  simp only [T117, e1, OP_some, bin_sub, e2]
  refine loopL (σ := Nat × List UInt8) (fun p => [I p.1, I ((xs.length : Int) - 1 - p.1)]) (fun p => hb h id p.2) (fun p => p.1 ≤ xs.length ∧ p.2.length = xs.length ∧ ∀ k (hk : k < p.2.length) (hk2 : k < xs.length), p.2[k] = if k < p.1 ∨ xs.length - p.1 ≤ k then xs[xs.length - 1 - k]'(by omega) else xs[k]) (fun p => xs.length - p.1)
    (0, xs) (by simp) e0.symm ⟨by simp, rfl, fun k h1 h2 => by simp; intro h3; omega⟩ ?_
  rintro ⟨i, ys⟩ ⟨hi, hl, hy⟩ L hL
  simp only at hi hl hy hL ⊢
  rw [q117z3]
  simp only [bin_lss, OP_some, IfP_dec]
  refine ⟨fun hlt => ?_, fun hge => ?_⟩
  · obtain ⟨j, hj⟩ : ∃ j : Nat, (xs.length : Int) - 1 - i = j := ⟨xs.length - 1 - i, by omega⟩
    rw [hj]
    have hjn : j = xs.length - 1 - i := by omega
    have a1 := adr_sl (id := id) (e := 5) (n := xs.length) (j := j) (by omega)
    have a2 := adr_sl (id := id) (e := 5) (n := xs.length) (j := i) (by omega)
    have g1 : ys[j]? = some (ys[j]'(by omega)) := List.getElem?_eq_getElem (by omega)
    have g2 : ys[i]? = some (ys[i]'(by omega)) := List.getElem?_eq_getElem (by omega)
    simp only [a1, a2, OP_some, hb_load hid g1, hb_load hid g2, true_and]
    rw [hb_store hid _ (by omega)]
    simp only [OH_some]
    rw [hb_store hid _ (by rw [List.length_set]; omega)]
    simp only [OH_some, bin_add, bin_sub, OP_some, inc i (by omega), true_and]
    have ej : IntKind.wrap .i64 ((j : Int) - 1) = (xs.length : Int) - 1 - ((i + 1 : Nat) : Int) := by rw [wrap64 (by omega) (by omega)]; omega
    rw [ej]
    refine hL (i + 1, (ys.set i (ys[j]'(by omega))).set j (ys[i]'(by omega))) ⟨by show i + 1 ≤ xs.length; omega, by simp [hl], ?_⟩ (by show xs.length - (i + 1) < xs.length - i; omega)
    intro k hk1 hk2
    show ((ys.set i (ys[j]'(by omega))).set j (ys[i]'(by omega)))[k] = if k < i + 1 ∨ xs.length - (i + 1) ≤ k then xs[xs.length - 1 - k]'(by omega) else xs[k]
    have hyi := hy i (by omega) (by omega)
    have hyj := hy j (by omega) (by omega)
    rw [if_neg (by omega)] at hyi hyj
    by_cases hkj : j = k
    · subst hkj
      rw [List.getElem_set_self, if_pos (by omega), hyi]
      congr 1; omega
    · rw [List.getElem_set_ne hkj]
      by_cases hki : i = k
      · subst hki
        rw [List.getElem_set_self, if_pos (by omega), hyj]
        congr 1
      · rw [List.getElem_set_ne hki, hy k (by omega) hk2]
        by_cases hc : k < i ∨ xs.length - i ≤ k
        · rw [if_pos hc, if_pos (by omega)]
        · rw [if_neg hc, if_neg (by omega)]
  · have : ys = xs.reverse := by
      apply List.ext_getElem (by simp [hl])
      intro k h1 h2
      rw [hy k h1 (by omega), List.getElem_reverse]
      split
      · rfl
      · congr 1; omega
    rw [this]
    exact hk

/-! ### Decimal digits -/

def dig10 (n : Nat) : List Nat := if h : n = 0 then [] else n % 10 :: dig10 (n / 10)
termination_by n
decreasing_by omega

theorem dig10_canon (n : Nat) : Canon 10 (dig10 n) ∧ val 10 (dig10 n) = n := by
  induction n using Nat.strongRecOn with
  | ind n ih =>
    rw [dig10]
    by_cases h : n = 0
    · subst h; exact ⟨Canon.nil 10, rfl⟩
    · rw [dif_neg h]
      obtain ⟨h1, h2⟩ := ih (n / 10) (by omega)
      refine ⟨⟨?_, ?_⟩, ?_⟩
      · intro x hx
        rcases List.mem_cons.1 hx with rfl | hx
        · omega
        · exact h1.1 x hx
      · cases hd : dig10 (n / 10) with
        | nil =>
          rw [hd] at h2
          simp [val] at h2
          simp
          omega
        | cons y ys =>
          rw [List.getLast?_cons_cons, ← hd]
          exact h1.2
      · simp only [val, h2]; omega

/-- A digit's character. -/
def dch (d : Nat) : UInt8 := UInt8.ofNat (48 + d)
theorem dch_toNat {d : Nat} (h : d < 10) : (dch d).toNat = 48 + d := by simp [dch, UInt8.toNat_ofNat']; omega

/-- A number in decimal digits. -/
def decS (n : Nat) : List UInt8 := if n = 0 then [48] else ((dig10 n).map dch).reverse

def k1000 : Nat := 1000
theorem bigW_10 : bigW ≤ 10 ^ k1000 := by decide +kernel

end Go.Proofs.YthplaillblmgfaaGreatDoor

