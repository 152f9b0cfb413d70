/-
  Part 6 of the texts behind a statement of this seat: DM, Mk23, Mk14, Mk25, Mk26, Mk22, Mk24.
-/
import Derived.Test.YthplaillblmgfaaDoorProg
import Derived.KernelRfl
import Derived.Test.YthplaillblmgfaaDoorPlain5
namespace Go.Proofs.YthplaillblmgfaaDoor
open Go.Sim
variable (P : Program) (K : VK)
/-! F5: pommel/pommellaw08.MarkTurned -/
noncomputable def c5z15 : ICode := .seq (.seq (.ops none [⟨(some 27), .p (.mv (.tmp 7))⟩,
 ⟨(some 28), .p (.bin .geq (.tmp 27) (.const (.int .i64 (0))))⟩])
 (.cond (.tmp 28) (.skip)
 (.exit 2)))
 (.seq (.block 3 (.ops none [⟨(some 31), .p (.mv (.tmp 6))⟩,
 ⟨(some 32), .p (.mv (.tmp 3))⟩,
 ⟨(some 33), .p (.mv (.tmp 5))⟩,
 ⟨(some 34), .p (.adrSl 1 (.tmp 32) (.tmp 33))⟩,
 ⟨(some 35), .l (.load false 1 (.tmp 34))⟩,
 ⟨(some 36), .p (.mv (.tmp 7))⟩,
 ⟨(some 37), .p (.mv (.tmp 7))⟩,
 ⟨(some 38), .p (.bin .add (.tmp 37) (.const (.int .i64 (1))))⟩,
 ⟨(some 39), .p (.slS (.tmp 35) (some (.tmp 36)) (some (.tmp 38)))⟩,
 ⟨(some 40), .p (.bin .add (.tmp 31) (.tmp 39))⟩,
 ⟨(some 6), .p (.mv (.tmp 40))⟩]))
 (.ops none [⟨(some 29), .p (.mv (.tmp 7))⟩,
 ⟨(some 30), .p (.bin .sub (.tmp 29) (.const (.int .i64 (1))))⟩,
 ⟨(some 7), .p (.mv (.tmp 30))⟩]))
noncomputable def c5z20 : ICode := .ops none [⟨(some 41), .p (.mv (.tmp 4))⟩,
 ⟨(some 42), .p (.mv (.tmp 6))⟩,
 ⟨(some 43), .e (.mkSl 9 1 [(.string ⟨#[]⟩)] [(0, 1, (.tmp 42))])⟩,
 ⟨(some 44), .e (.app 9 1 16 (.tmp 41) (.tmp 43))⟩,
 ⟨(some 4), .p (.mv (.tmp 44))⟩]
noncomputable def c5z12 : ICode := .cut [3, 4, 5, 6] c5z20
noncomputable def c5z21 : ICode := .ops none [⟨(some 19), .p (.mv (.tmp 5))⟩,
 ⟨(some 20), .p (.bin .add (.tmp 19) (.const (.int .i64 (1))))⟩,
 ⟨(some 5), .p (.mv (.tmp 20))⟩]
noncomputable def c5z9 : ICode := .cut [3, 4, 5] c5z21
noncomputable def c5z6 : ICode := .seq (.seq (.ops none [⟨(some 15), .p (.mv (.tmp 5))⟩,
 ⟨(some 16), .p (.mv (.tmp 3))⟩,
 ⟨(some 17), .p (.lenSl (.tmp 16))⟩,
 ⟨(some 18), .p (.bin .lss (.tmp 15) (.tmp 17))⟩])
 (.cond (.tmp 18) (.skip)
 (.exit 0)))
 (.seq (.block 1 (.seq (.ops none [⟨(some 6), .p (.mv (.const (.string ⟨#[]⟩)))⟩])
 (.seq (.seq (.ops none [⟨(some 21), .p (.mv (.tmp 3))⟩,
 ⟨(some 22), .p (.mv (.tmp 5))⟩,
 ⟨(some 23), .p (.adrSl 1 (.tmp 21) (.tmp 22))⟩,
 ⟨(some 24), .l (.load false 1 (.tmp 23))⟩,
 ⟨(some 25), .p (.lenS (.tmp 24))⟩,
 ⟨(some 26), .p (.bin .sub (.tmp 25) (.const (.int .i64 (1))))⟩,
 ⟨(some 7), .p (.mv (.tmp 26))⟩])
 (.block 2 (.loop [3, 4, 5] [6, 7] c5z15))) c5z12))) c5z9)
noncomputable def c5z41 : ICode := .ops none [⟨(some 75), .p (.pick (.tmp 73) (.tmp 74) (.const (.bool false)))⟩,
 ⟨(some 2), .p (.mv (.tmp 75))⟩]
noncomputable def c5z39 : ICode := .seq (.ops (some (73, true)) [⟨(some 74), .call 13 []⟩])
 (.cut [73, 74] c5z41)
noncomputable def c5z37 : ICode := .seq (.ops none [⟨(some 72), .p (.pick (.tmp 65) (.tmp 71) (.const (.bool false)))⟩,
 ⟨(some 73), .p (.mv (.tmp 72))⟩])
 (.cut [73] c5z39)
noncomputable def c5z35 : ICode := .seq (.ops (some (65, true)) [⟨(some 71), .p (.pick (.tmp 68) (.const (.bool true)) (.tmp 70))⟩])
 (.cut [65, 71] c5z37)
noncomputable def c5z33 : ICode := .seq (.ops (some (68, false)) [⟨(some 69), .p (.mv (.tmp 9))⟩,
 ⟨(some 70), .p (.bin .eql (.tmp 69) (.const (.int .i64 (5))))⟩])
 (.cut [65, 68, 70] c5z35)
noncomputable def c5z31 : ICode := .seq (.ops (some (65, true)) [⟨(some 66), .p (.mv (.tmp 9))⟩,
 ⟨(some 67), .p (.bin .eql (.tmp 66) (.const (.int .i64 (0))))⟩,
 ⟨(some 68), .p (.mv (.tmp 67))⟩])
 (.cut [9, 65, 68] c5z33)
noncomputable def c5z29 : ICode := .seq (.ops none [⟨(some 64), .p (.pick (.tmp 58) (.tmp 63) (.const (.bool false)))⟩,
 ⟨(some 65), .p (.mv (.tmp 64))⟩])
 (.cut [9, 65] c5z31)
noncomputable def c5z27 : ICode := .seq (.ops (some (58, true)) [⟨(some 59), .p (.mv (.tmp 8))⟩,
 ⟨(some 60), .p (.lenS (.tmp 59))⟩,
 ⟨(some 61), .p (.mv (.tmp 10))⟩,
 ⟨(some 62), .p (.lenS (.tmp 61))⟩,
 ⟨(some 63), .p (.bin .eql (.tmp 60) (.tmp 62))⟩])
 (.cut [9, 58, 63] c5z29)
noncomputable def c5z25 : ICode := .ret
noncomputable def c5z22 : ICode := .seq (.ops none [⟨(some 46), .p (.mv (.tmp 3))⟩,
 ⟨(some 47), .call 18 [(.tmp 46)]⟩,
 ⟨(some 45), .p (.mv (.tmp 47))⟩,
 ⟨(some 48), .p (.ext (.tmp 45) 0)⟩,
 ⟨(some 49), .p (.ext (.tmp 45) 1)⟩,
 ⟨(some 8), .p (.mv (.tmp 48))⟩,
 ⟨(some 9), .p (.mv (.tmp 49))⟩])
 (.seq (.ops none [⟨(some 51), .p (.mv (.tmp 4))⟩,
 ⟨(some 52), .call 18 [(.tmp 51)]⟩,
 ⟨(some 50), .p (.mv (.tmp 52))⟩,
 ⟨(some 53), .p (.ext (.tmp 50) 0)⟩,
 ⟨(some 54), .p (.ext (.tmp 50) 1)⟩,
 ⟨(some 10), .p (.mv (.tmp 53))⟩,
 ⟨(some 11), .p (.mv (.tmp 54))⟩])
 (.seq (.seq (.ops none [⟨(some 55), .p (.mv (.tmp 9))⟩,
 ⟨(some 56), .p (.mv (.tmp 11))⟩,
 ⟨(some 57), .p (.bin .eql (.tmp 55) (.tmp 56))⟩,
 ⟨(some 58), .p (.mv (.tmp 57))⟩])
 (.cut [8, 9, 10, 58] c5z27)) c5z25))
noncomputable def c5z3 : ICode := .cut [3, 4] c5z22
noncomputable def c5 : ICode := .seq (.ops none [⟨(some 2), .p (.mv (.const (.bool false)))⟩])
 (.seq (.ops none [⟨(some 12), .p (.mv (.tmp 0))⟩,
 ⟨(some 13), .call 17 [(.tmp 12)]⟩,
 ⟨(some 14), .e (.mkSl 9 0 [(.string ⟨#[]⟩)] [])⟩,
 ⟨(some 3), .p (.mv (.tmp 13))⟩,
 ⟨(some 4), .p (.mv (.tmp 14))⟩])
 (.seq (.seq (.ops none [⟨(some 5), .p (.mv (.const (.int .i64 (0))))⟩])
 (.block 0 (.loop [3] [4, 5] c5z6))) c5z3))
theorem k5 : compFn Tryd.prog 5 [[], [], [], [3], [4, 5], [], [], [], [], [3, 4, 5], [6, 7], [], [], [], [3, 4, 5, 6], [3, 4, 5], [3, 4], [], [], [8, 9, 10, 58], [9, 58, 63], [9, 65], [9, 65, 68], [65, 68, 70], [65, 71], [73], [73, 74], []] = some (76, c5, [.tmp 2]) := by kernel_rfl
def K5z0 (_P : Program) (K : VK) : Kont := bodyP [.tmp 2] K
def K5z3 : Kont := thenK (iwpP P c5z3 (K5z0 P K)) (K5z0 P K)
def K5z5 : Kont := inBlockK 0 (K5z3 P K)
def K5z6 (l3 : Value) (L1 : LK) : Kont := thenK (fun f' h'' => (([3] : List Nat).map f' : List Value) = [l3] ∧ L1 (([4, 5] : List Nat).map f') h'') (K5z5 P K)
def p5z6 (l3 : Value) (L1 : LK) (xs : List Value) (h : Heap) : Prop := CutP (iwpP P c5z6 (K5z6 P K l3 L1)) ([3] ++ [4, 5]) ([l3] ++ xs) h
def T5 (x0 : Value) (h : Heap) : Prop :=
 CallP P 17 [x0] h fun x13 h_1 =>
 OH (iMkSl 9 0 [(.string ⟨#[]⟩)] h_1 []) fun x14 h_2 =>
 LoopP [x14, (.int .i64 (0))] h_2 fun L1 xs hx =>
 p5z6 P K x13 L1 xs hx
theorem e5 (x0 : Value) (h : Heap) : iwpP P c5 (bodyP [.tmp 2] K) (frame0 [x0]) h = T5 P K x0 h := by kernel_rfl
theorem f5 {K : VK} {x0 : Value} {h : Heap} (H : T5 Tryd.prog K x0 h) : CallP Tryd.prog 5 [x0] h K :=
 callP_intro k5 (Nat.le_of_ble_eq_true rfl) ((e5 Tryd.prog K x0 h).mpr H)
/-! F17: pommel/pommellaw08.made -/
noncomputable def c17z12 : ICode := .ops none [⟨(some 18), .p (.pick (.tmp 14) (.tmp 17) (.const (.bool false)))⟩]
noncomputable def c17z10 : ICode := .seq (.ops (some (14, true)) [⟨(some 15), .p (.mv (.tmp 3))⟩,
 ⟨(some 16), .p (.lenSl (.tmp 15))⟩,
 ⟨(some 17), .p (.bin .lss (.tmp 16) (.const (.int .i64 (12))))⟩])
 (.cut [0, 3, 4, 14, 17] c17z12)
noncomputable def c17z8 : ICode := .cond (.tmp 18) (.skip)
 (.exit 0)
noncomputable def c17z18 : ICode := .seq (.seq (.ops none [⟨(some 28), .p (.mv (.tmp 5))⟩,
 ⟨(some 29), .p (.bin .gtr (.tmp 28) (.const (.int .i64 (1))))⟩])
 (.cond (.tmp 29) (.skip)
 (.exit 2)))
 (.seq (.block 3 (.ops none [⟨(some 32), .p (.mv (.tmp 5))⟩,
 ⟨(some 33), .p (.bin .rem (.tmp 32) (.const (.int .i64 (2))))⟩,
 ⟨(some 34), .p (.mv (.tmp 5))⟩,
 ⟨(some 35), .p (.bin .rem (.tmp 34) (.const (.int .i64 (2))))⟩,
 ⟨(some 36), .p (.bin .add (.tmp 35) (.const (.int .i64 (1))))⟩,
 ⟨(some 37), .p (.slS (.const (.string ⟨#[48, 49]⟩)) (some (.tmp 33)) (some (.tmp 36)))⟩,
 ⟨(some 38), .p (.mv (.tmp 6))⟩,
 ⟨(some 39), .p (.bin .add (.tmp 37) (.tmp 38))⟩,
 ⟨(some 6), .p (.mv (.tmp 39))⟩]))
 (.ops none [⟨(some 30), .p (.mv (.tmp 5))⟩,
 ⟨(some 31), .p (.bin .quo (.tmp 30) (.const (.int .i64 (2))))⟩,
 ⟨(some 5), .p (.mv (.tmp 31))⟩]))
noncomputable def c17z36 : ICode := .ops none [⟨(some 54), .p (.pick (.tmp 47) (.const (.bool true)) (.tmp 53))⟩,
 ⟨(some 7), .p (.mv (.tmp 54))⟩]
noncomputable def c17z34 : ICode := .seq (.ops (some (47, false)) [⟨(some 48), .p (.mv (.tmp 3))⟩,
 ⟨(some 49), .p (.mv (.tmp 8))⟩,
 ⟨(some 50), .p (.adrSl 1 (.tmp 48) (.tmp 49))⟩,
 ⟨(some 51), .l (.load false 1 (.tmp 50))⟩,
 ⟨(some 52), .p (.mv (.tmp 6))⟩,
 ⟨(some 53), .p (.bin .eql (.tmp 51) (.tmp 52))⟩])
 (.cut [0, 3, 4, 6, 8, 47, 53] c17z36)
noncomputable def c17z31 : ICode := .ops none [⟨(some 44), .p (.mv (.tmp 8))⟩,
 ⟨(some 45), .p (.bin .add (.tmp 44) (.const (.int .i64 (1))))⟩,
 ⟨(some 8), .p (.mv (.tmp 45))⟩]
noncomputable def c17z28 : ICode := .seq (.seq (.ops none [⟨(some 40), .p (.mv (.tmp 8))⟩,
 ⟨(some 41), .p (.mv (.tmp 3))⟩,
 ⟨(some 42), .p (.lenSl (.tmp 41))⟩,
 ⟨(some 43), .p (.bin .lss (.tmp 40) (.tmp 42))⟩])
 (.cond (.tmp 43) (.skip)
 (.exit 4)))
 (.seq (.block 5 (.seq (.ops none [⟨(some 46), .p (.mv (.tmp 7))⟩,
 ⟨(some 47), .p (.mv (.tmp 46))⟩])
 (.cut [0, 3, 4, 6, 8, 47] c17z34))) c17z31)
noncomputable def c17z37 : ICode := .seq (.ops none [⟨(some 55), .p (.mv (.tmp 7))⟩,
 ⟨(some 56), .p (.un .not (.tmp 55))⟩])
 (.cond (.tmp 56) (.ops none [⟨(some 57), .p (.mv (.tmp 3))⟩,
 ⟨(some 58), .p (.mv (.tmp 6))⟩,
 ⟨(some 59), .e (.mkSl 9 1 [(.string ⟨#[]⟩)] [(0, 1, (.tmp 58))])⟩,
 ⟨(some 60), .e (.app 9 1 16 (.tmp 57) (.tmp 59))⟩,
 ⟨(some 3), .p (.mv (.tmp 60))⟩])
 (.skip))
noncomputable def c17z25 : ICode := .cut [0, 3, 4, 6, 7] c17z37
noncomputable def c17z23 : ICode := .seq (.ops none [⟨(some 7), .p (.mv (.const (.bool false)))⟩])
 (.seq (.seq (.ops none [⟨(some 8), .p (.mv (.const (.int .i64 (0))))⟩])
 (.block 4 (.loop [0, 3, 4, 6] [7, 8] c17z28))) c17z25)
noncomputable def c17z16 : ICode := .cut [0, 3, 4, 6] c17z23
noncomputable def c17z39 : ICode := .ops none [⟨(some 19), .p (.mv (.tmp 4))⟩,
 ⟨(some 20), .p (.bin .add (.tmp 19) (.const (.int .i64 (1))))⟩,
 ⟨(some 4), .p (.mv (.tmp 20))⟩]
noncomputable def c17z13 : ICode := .cut [0, 3, 4] c17z39
noncomputable def c17z7 : ICode := .seq (.block 1 (.seq (.ops none [⟨(some 21), .p (.mv (.tmp 0))⟩,
 ⟨(some 22), .p (.mv (.tmp 4))⟩,
 ⟨(some 23), .p (.adrSl 1 (.tmp 21) (.tmp 22))⟩,
 ⟨(some 24), .l (.load false 1 (.tmp 23))⟩,
 ⟨(some 25), .p (.conv .i64 (.tmp 24))⟩,
 ⟨(some 26), .p (.bin .rem (.tmp 25) (.const (.int .i64 (2046))))⟩,
 ⟨(some 27), .p (.bin .add (.tmp 26) (.const (.int .i64 (2))))⟩,
 ⟨(some 5), .p (.mv (.tmp 27))⟩,
 ⟨(some 6), .p (.mv (.const (.string ⟨#[]⟩)))⟩])
 (.seq (.block 2 (.loop [0, 3, 4] [5, 6] c17z18)) c17z16))) c17z13
noncomputable def c17z6 : ICode := .seq (.seq (.seq (.ops none [⟨(some 10), .p (.mv (.tmp 4))⟩,
 ⟨(some 11), .p (.mv (.tmp 0))⟩,
 ⟨(some 12), .p (.lenSl (.tmp 11))⟩,
 ⟨(some 13), .p (.bin .lss (.tmp 10) (.tmp 12))⟩,
 ⟨(some 14), .p (.mv (.tmp 13))⟩])
 (.cut [0, 3, 4, 14] c17z10)) c17z8) c17z7
noncomputable def c17z43 : ICode := .seq (.ops none [⟨(some 67), .p (.mv (.tmp 3))⟩,
 ⟨(some 2), .p (.mv (.tmp 67))⟩])
 (.ret)
noncomputable def c17z40 : ICode := .seq (.seq (.ops none [⟨(some 61), .p (.mv (.tmp 3))⟩,
 ⟨(some 62), .p (.lenSl (.tmp 61))⟩,
 ⟨(some 63), .p (.bin .eql (.tmp 62) (.const (.int .i64 (0))))⟩])
 (.cond (.tmp 63) (.ops none [⟨(some 64), .p (.mv (.tmp 3))⟩,
 ⟨(some 65), .e (.mkSl 9 1 [(.string ⟨#[]⟩)] [(0, 1, (.const (.string ⟨#[48]⟩)))])⟩,
 ⟨(some 66), .e (.app 9 1 16 (.tmp 64) (.tmp 65))⟩,
 ⟨(some 3), .p (.mv (.tmp 66))⟩])
 (.skip)))
 (.cut [3] c17z43)
noncomputable def c17z3 : ICode := .cut [3] c17z40
noncomputable def c17 : ICode := .seq (.ops none [⟨(some 2), .p (.mv (.const (.slice none 0 0)))⟩])
 (.seq (.ops none [⟨(some 9), .e (.mkSl 9 0 [(.string ⟨#[]⟩)] [])⟩,
 ⟨(some 3), .p (.mv (.tmp 9))⟩])
 (.seq (.seq (.ops none [⟨(some 4), .p (.mv (.const (.int .i64 (0))))⟩])
 (.block 0 (.loop [0] [3, 4] c17z6))) c17z3))
theorem k17 : compFn Tryd.prog 17 [[], [], [], [0], [3, 4], [0, 3, 4, 14], [0, 3, 4, 14, 17], [], [], [], [0, 3, 4], [5, 6], [], [], [], [0, 3, 4, 6], [], [], [0, 3, 4, 6], [7, 8], [], [], [0, 3, 4, 6, 8, 47], [0, 3, 4, 6, 8, 47, 53], [], [0, 3, 4, 6, 7], [], [0, 3, 4], [3], [], [3], []] = some (68, c17, [.tmp 2]) := by kernel_rfl
def K17z0 (_P : Program) (K : VK) : Kont := bodyP [.tmp 2] K
def K17z3 : Kont := thenK (iwpP P c17z3 (K17z0 P K)) (K17z0 P K)
def K17z5 : Kont := inBlockK 0 (K17z3 P K)
def K17z6 (x0 : Value) (L1 : LK) : Kont := thenK (fun f' h'' => (([0] : List Nat).map f' : List Value) = [x0] ∧ L1 (([3, 4] : List Nat).map f') h'') (K17z5 P K)
def K17z7 (x0 : Value) (L1 : LK) : Kont := thenK (iwpP P c17z7 (K17z6 P K x0 L1)) (K17z6 P K x0 L1)
def K17z8 (x0 : Value) (L1 : LK) : Kont := thenK (iwpP P c17z8 (K17z7 P K x0 L1)) (K17z7 P K x0 L1)
def K17z13 (x0 : Value) (L1 : LK) : Kont := thenK (iwpP P c17z13 (K17z6 P K x0 L1)) (K17z6 P K x0 L1)
def K17z14 (x0 : Value) (L1 : LK) : Kont := inBlockK 1 (K17z13 P K x0 L1)
def K17z16 (x0 : Value) (L1 : LK) : Kont := thenK (iwpP P c17z16 (K17z14 P K x0 L1)) (K17z14 P K x0 L1)
def K17z17 (x0 : Value) (L1 : LK) : Kont := inBlockK 2 (K17z16 P K x0 L1)
def K17z18 (x0 l3 i4 : Value) (L1 L2 : LK) : Kont := thenK (fun f' h'' => (([0, 3, 4] : List Nat).map f' : List Value) = [x0, l3, i4] ∧ L2 (([5, 6] : List Nat).map f') h'') (K17z17 P K x0 L1)
def K17z25 (x0 : Value) (L1 : LK) : Kont := thenK (iwpP P c17z25 (K17z14 P K x0 L1)) (K17z14 P K x0 L1)
def K17z27 (x0 : Value) (L1 : LK) : Kont := inBlockK 4 (K17z25 P K x0 L1)
def K17z28 (x0 l3 i4 s6 : Value) (L1 L2 : LK) : Kont := thenK (fun f' h'' => (([0, 3, 4, 6] : List Nat).map f' : List Value) = [x0, l3, i4, s6] ∧ L2 (([7, 8] : List Nat).map f') h'') (K17z27 P K x0 L1)
def K17z31 (x0 l3 i4 s6 : Value) (L1 L2 : LK) : Kont := thenK (iwpP P c17z31 (K17z28 P K x0 l3 i4 s6 L1 L2)) (K17z28 P K x0 l3 i4 s6 L1 L2)
def K17z32 (x0 l3 i4 s6 : Value) (L1 L2 : LK) : Kont := inBlockK 5 (K17z31 P K x0 l3 i4 s6 L1 L2)
def p17z6 (x0 : Value) (L1 : LK) (xs : List Value) (h : Heap) : Prop := CutP (iwpP P c17z6 (K17z6 P K x0 L1)) ([0] ++ [3, 4]) ([x0] ++ xs) h
def p17z10 (x0 l3 i4 x14 : Value) (L1 : LK) (h : Heap) : Prop := CutP (iwpP P c17z10 (K17z8 P K x0 L1)) [0, 3, 4, 14] [x0, l3, i4, x14] h
def p17z12 (x0 l3 i4 x14 x17 : Value) (L1 : LK) (h : Heap) : Prop := CutP (iwpP P c17z12 (K17z8 P K x0 L1)) [0, 3, 4, 14, 17] [x0, l3, i4, x14, x17] h
def p17z18 (x0 l3 i4 : Value) (L1 L2 : LK) (xs : List Value) (h : Heap) : Prop := CutP (iwpP P c17z18 (K17z18 P K x0 l3 i4 L1 L2)) ([0, 3, 4] ++ [5, 6]) ([x0, l3, i4] ++ xs) h
def p17z23 (x0 l3 i4 s6 : Value) (L1 : LK) (h : Heap) : Prop := CutP (iwpP P c17z23 (K17z14 P K x0 L1)) [0, 3, 4, 6] [x0, l3, i4, s6] h
def p17z28 (x0 l3 i4 s6 : Value) (L1 L2 : LK) (xs : List Value) (h : Heap) : Prop := CutP (iwpP P c17z28 (K17z28 P K x0 l3 i4 s6 L1 L2)) ([0, 3, 4, 6] ++ [7, 8]) ([x0, l3, i4, s6] ++ xs) h
def p17z34 (x0 l3 i4 s6 k8 x47 : Value) (L1 L2 : LK) (h : Heap) : Prop := CutP (iwpP P c17z34 (K17z32 P K x0 l3 i4 s6 L1 L2)) [0, 3, 4, 6, 8, 47] [x0, l3, i4, s6, k8, x47] h
def p17z36 (x0 l3 i4 s6 k8 x47 x53 : Value) (L1 L2 : LK) (h : Heap) : Prop := CutP (iwpP P c17z36 (K17z32 P K x0 l3 i4 s6 L1 L2)) [0, 3, 4, 6, 8, 47, 53] [x0, l3, i4, s6, k8, x47, x53] h
def p17z37 (x0 l3 i4 s6 known7 : Value) (L1 : LK) (h : Heap) : Prop := CutP (iwpP P c17z37 (K17z14 P K x0 L1)) [0, 3, 4, 6, 7] [x0, l3, i4, s6, known7] h
def p17z39 (x0 l3 i4 : Value) (L1 : LK) (h : Heap) : Prop := CutP (iwpP P c17z39 (K17z6 P K x0 L1)) [0, 3, 4] [x0, l3, i4] h
def p17z40 (l3 : Value) (h : Heap) : Prop := CutP (iwpP P c17z40 (K17z0 P K)) [3] [l3] h
def p17z43 (l3 : Value) (h : Heap) : Prop := CutP (iwpP P c17z43 (K17z0 P K)) [3] [l3] h
theorem q17z12 (x0 l3 i4 x14 x17 : Value) (L1 : LK) (h : Heap) : p17z12 P K x0 l3 i4 x14 x17 L1 h =
 (OP (iPick x14 x17 (.bool false)) fun x18 =>
 IfP x18
 (OP (iAdrSl 1 x0 i4) fun x23 =>
 OP (iLoad false 1 h x23) fun x24 =>
 OP (iConv .i64 x24) fun x25 =>
 OP (iBin .rem x25 (.int .i64 (2046))) fun x26 =>
 OP (iBin .add x26 (.int .i64 (2))) fun x27 =>
 LoopP [x27, (.string ⟨#[]⟩)] h fun L2 xs hx =>
 p17z18 P K x0 l3 i4 L1 L2 xs hx)
 (p17z40 P K l3 h)) := (CutP_def _ _ _ _).trans (by kernel_rfl)
theorem q17z10 (x0 l3 i4 x14 : Value) (L1 : LK) (h : Heap) : p17z10 P K x0 l3 i4 x14 L1 h =
 (GdP x14 true
 (OP (iLenSl l3) fun x16 =>
 OP (iBin .lss x16 (.int .i64 (12))) fun x17 =>
 p17z12 P K x0 l3 i4 x14 x17 L1 h)
 (p17z12 P K x0 l3 i4 x14 undef L1 h)) := (CutP_def _ _ _ _).trans (by kernel_rfl)
theorem q17z18 (x0 l3 i4 : Value) (L1 L2 : LK) (v5 s6 : Value) (h : Heap) : p17z18 P K x0 l3 i4 L1 L2 [v5, s6] h =
 (OP (iBin .gtr v5 (.int .i64 (1))) fun x29 =>
 IfP x29
 (OP (iBin .rem v5 (.int .i64 (2))) fun x33 =>
 OP (iBin .rem v5 (.int .i64 (2))) fun x35 =>
 OP (iBin .add x35 (.int .i64 (1))) fun x36 =>
 OP (iSlS (.string ⟨#[48, 49]⟩) (some x33) (some x36)) fun x37 =>
 OP (iBin .add x37 s6) fun x39 =>
 OP (iBin .quo v5 (.int .i64 (2))) fun x31 =>
 ([x0, l3, i4] : List Value) = [x0, l3, i4] ∧ L2 [x31, x39] h)
 (p17z23 P K x0 l3 i4 s6 L1 h)) := (CutP_def _ _ _ _).trans (by kernel_rfl)
theorem q17z36 (x0 l3 i4 s6 k8 x47 x53 : Value) (L1 L2 : LK) (h : Heap) : p17z36 P K x0 l3 i4 s6 k8 x47 x53 L1 L2 h =
 (OP (iPick x47 (.bool true) x53) fun x54 =>
 OP (iBin .add k8 (.int .i64 (1))) fun x45 =>
 ([x0, l3, i4, s6] : List Value) = [x0, l3, i4, s6] ∧ L2 [x54, x45] h) := (CutP_def _ _ _ _).trans (by kernel_rfl)
theorem q17z34 (x0 l3 i4 s6 k8 x47 : Value) (L1 L2 : LK) (h : Heap) : p17z34 P K x0 l3 i4 s6 k8 x47 L1 L2 h =
 (GdP x47 false
 (OP (iAdrSl 1 l3 k8) fun x50 =>
 OP (iLoad false 1 h x50) fun x51 =>
 OP (iBin .eql x51 s6) fun x53 =>
 p17z36 P K x0 l3 i4 s6 k8 x47 x53 L1 L2 h)
 (p17z36 P K x0 l3 i4 s6 k8 x47 undef L1 L2 h)) := (CutP_def _ _ _ _).trans (by kernel_rfl)
theorem q17z28 (x0 l3 i4 s6 : Value) (L1 L2 : LK) (known7 k8 : Value) (h : Heap) : p17z28 P K x0 l3 i4 s6 L1 L2 [known7, k8] h =
 (OP (iLenSl l3) fun x42 =>
 OP (iBin .lss k8 x42) fun x43 =>
 IfP x43
 (p17z34 P K x0 l3 i4 s6 k8 known7 L1 L2 h)
 (p17z37 P K x0 l3 i4 s6 known7 L1 h)) := (CutP_def _ _ _ _).trans (by kernel_rfl)
theorem q17z37 (x0 l3 i4 s6 known7 : Value) (L1 : LK) (h : Heap) : p17z37 P K x0 l3 i4 s6 known7 L1 h =
 (OP (iUn .not known7) fun x56 =>
 IfP x56
 (OH (iMkSl 9 1 [(.string ⟨#[]⟩)] h [(0, 1, s6)]) fun x59 h_1 =>
 OH (iApp 9 1 16 h_1 l3 x59) fun x60 h_2 =>
 p17z39 P K x0 x60 i4 L1 h_2)
 (p17z39 P K x0 l3 i4 L1 h)) := (CutP_def _ _ _ _).trans (by kernel_rfl)
theorem q17z23 (x0 l3 i4 s6 : Value) (L1 : LK) (h : Heap) : p17z23 P K x0 l3 i4 s6 L1 h =
 (LoopP [(.bool false), (.int .i64 (0))] h fun L2 xs hx =>
 p17z28 P K x0 l3 i4 s6 L1 L2 xs hx) := (CutP_def _ _ _ _).trans (by kernel_rfl)
theorem q17z39 (x0 l3 i4 : Value) (L1 : LK) (h : Heap) : p17z39 P K x0 l3 i4 L1 h =
 (OP (iBin .add i4 (.int .i64 (1))) fun x20 =>
 ([x0] : List Value) = [x0] ∧ L1 [l3, x20] h) := (CutP_def _ _ _ _).trans (by kernel_rfl)
theorem q17z6 (x0 : Value) (L1 : LK) (l3 i4 : Value) (h : Heap) : p17z6 P K x0 L1 [l3, i4] h =
 (OP (iLenSl x0) fun x12 =>
 OP (iBin .lss i4 x12) fun x13 =>
 p17z10 P K x0 l3 i4 x13 L1 h) := (CutP_def _ _ _ _).trans (by kernel_rfl)
theorem q17z43 (l3 : Value) (h : Heap) : p17z43 P K l3 h =
 (K l3 h) := (CutP_def _ _ _ _).trans (by kernel_rfl)
theorem q17z40 (l3 : Value) (h : Heap) : p17z40 P K l3 h =
 (OP (iLenSl l3) fun x62 =>
 OP (iBin .eql x62 (.int .i64 (0))) fun x63 =>
 IfP x63
 (OH (iMkSl 9 1 [(.string ⟨#[]⟩)] h [(0, 1, (.string ⟨#[48]⟩))]) fun x65 h_1 =>
 OH (iApp 9 1 16 h_1 l3 x65) fun x66 h_2 =>
 p17z43 P K x66 h_2)
 (p17z43 P K l3 h)) := (CutP_def _ _ _ _).trans (by kernel_rfl)
def T17 (x0 : Value) (h : Heap) : Prop :=
 OH (iMkSl 9 0 [(.string ⟨#[]⟩)] h []) fun x9 h_1 =>
 LoopP [x9, (.int .i64 (0))] h_1 fun L1 xs hx =>
 p17z6 P K x0 L1 xs hx
theorem e17 (x0 : Value) (h : Heap) : iwpP P c17 (bodyP [.tmp 2] K) (frame0 [x0]) h = T17 P K x0 h := by kernel_rfl
theorem f17 {K : VK} {x0 : Value} {h : Heap} (H : T17 Tryd.prog K x0 h) : CallP Tryd.prog 17 [x0] h K :=
 callP_intro k17 (Nat.le_of_ble_eq_true rfl) ((e17 Tryd.prog K x0 h).mpr H)
/-! F20: pommel/mark.IsPlain -/
noncomputable def c20z27 : ICode := .ops none [⟨(some 35), .p (.pick (.tmp 31) (.tmp 34) (.const (.bool false)))⟩]
noncomputable def c20z25 : ICode := .seq (.ops (some (31, true)) [⟨(some 32), .p (.mv (.tmp 8))⟩,
 ⟨(some 33), .p (.mv (.tmp 6))⟩,
 ⟨(some 34), .call 37 [(.tmp 32), (.tmp 33)]⟩])
 (.cut [0, 5, 6, 7, 14, 15, 16, 21, 22, 23, 31, 34] c20z27)
noncomputable def c20z23 : ICode := .cond (.tmp 35) (.seq (.ops none [⟨(some 36), .p (.mv (.tmp 5))⟩,
 ⟨(some 37), .p (.mv (.tmp 7))⟩,
 ⟨(some 38), .e (.mkSl 3 2 [(.int .i64 (0))] [(0, 1, (.tmp 36)), (1, 1, (.tmp 37))])⟩,
 ⟨(some 2), .p (.mv (.tmp 38))⟩,
 ⟨(some 3), .p (.mv (.const (.int .i64 (0))))⟩])
 (.ret))
 (.skip)
noncomputable def c20z20 : ICode := .ops none [⟨(some 39), .p (.bin .add (.tmp 23) (.const (.int .i64 (1))))⟩,
 ⟨(some 23), .p (.mv (.tmp 39))⟩]
noncomputable def c20z17 : ICode := .seq (.ops none [⟨(some 24), .p (.bin .lss (.tmp 23) (.tmp 22))⟩])
 (.seq (.cond (.tmp 24) (.skip)
 (.exit 2))
 (.seq (.block 3 (.seq (.ops none [⟨(some 25), .p (.mv (.tmp 23))⟩,
 ⟨(some 26), .p (.adrSl 1 (.tmp 21) (.tmp 23))⟩,
 ⟨(some 27), .l (.load false 1 (.tmp 26))⟩,
 ⟨(some 7), .p (.mv (.tmp 25))⟩,
 ⟨(some 8), .p (.mv (.tmp 27))⟩])
 (.seq (.seq (.ops none [⟨(some 28), .p (.mv (.tmp 5))⟩,
 ⟨(some 29), .p (.mv (.tmp 7))⟩,
 ⟨(some 30), .p (.bin .neq (.tmp 28) (.tmp 29))⟩,
 ⟨(some 31), .p (.mv (.tmp 30))⟩])
 (.cut [0, 5, 6, 7, 8, 14, 15, 16, 21, 22, 23, 31] c20z25)) c20z23))) c20z20))
noncomputable def c20z29 : ICode := .ops none [⟨(some 40), .p (.bin .add (.tmp 16) (.const (.int .i64 (1))))⟩,
 ⟨(some 16), .p (.mv (.tmp 40))⟩]
noncomputable def c20z12 : ICode := .cut [0, 14, 15, 16] c20z29
noncomputable def c20z9 : ICode := .seq (.ops none [⟨(some 17), .p (.bin .lss (.tmp 16) (.tmp 15))⟩])
 (.seq (.cond (.tmp 17) (.skip)
 (.exit 0))
 (.seq (.block 1 (.seq (.ops none [⟨(some 18), .p (.mv (.tmp 16))⟩,
 ⟨(some 19), .p (.adrSl 1 (.tmp 14) (.tmp 16))⟩,
 ⟨(some 20), .l (.load false 1 (.tmp 19))⟩,
 ⟨(some 5), .p (.mv (.tmp 18))⟩,
 ⟨(some 6), .p (.mv (.tmp 20))⟩])
 (.seq (.ops none [⟨(some 21), .p (.mv (.tmp 0))⟩,
 ⟨(some 22), .p (.lenSl (.tmp 21))⟩,
 ⟨(some 23), .p (.mv (.const (.int .i64 (0))))⟩])
 (.block 2 (.loop [0, 5, 6, 14, 15, 16, 21, 22] [23] c20z17))))) c20z12))
noncomputable def c20z6 : ICode := .seq (.ops none [⟨(some 2), .p (.mv (.const (.slice none 0 0)))⟩,
 ⟨(some 3), .p (.mv (.const (.int .i64 (5))))⟩])
 (.ret)
noncomputable def c20 : ICode := .seq (.ops none [⟨(some 2), .p (.mv (.const (.slice none 0 0)))⟩,
 ⟨(some 3), .p (.mv (.const (.int .i64 (0))))⟩])
 (.seq (.seq (.ops none [⟨(some 9), .p (.mv (.tmp 0))⟩,
 ⟨(some 10), .call 34 [(.tmp 9), (.const (.string ⟨#[]⟩))]⟩,
 ⟨(some 4), .p (.mv (.tmp 10))⟩])
 (.seq (.ops none [⟨(some 11), .p (.mv (.tmp 4))⟩,
 ⟨(some 12), .p (.bin .neq (.tmp 11) (.const (.int .i64 (0))))⟩])
 (.cond (.tmp 12) (.seq (.ops none [⟨(some 13), .p (.mv (.tmp 4))⟩,
 ⟨(some 2), .p (.mv (.const (.slice none 0 0)))⟩,
 ⟨(some 3), .p (.mv (.tmp 13))⟩])
 (.ret))
 (.skip))))
 (.seq (.seq (.ops none [⟨(some 14), .p (.mv (.tmp 0))⟩,
 ⟨(some 15), .p (.lenSl (.tmp 14))⟩,
 ⟨(some 16), .p (.mv (.const (.int .i64 (0))))⟩])
 (.block 0 (.loop [0, 14, 15] [16] c20z9))) c20z6))
theorem k20 : compFn Tryd.prog 20 [[], [], [], [], [], [], [0, 14, 15], [16], [], [], [], [], [0, 5, 6, 14, 15, 16, 21, 22], [23], [], [], [], [0, 5, 6, 7, 8, 14, 15, 16, 21, 22, 23, 31], [0, 5, 6, 7, 14, 15, 16, 21, 22, 23, 31, 34], [], [], [], [0, 14, 15, 16], [], []] = some (41, c20, [.tmp 2, .tmp 3]) := by kernel_rfl
def K20z0 (_P : Program) (K : VK) : Kont := bodyP [.tmp 2, .tmp 3] K
def K20z6 : Kont := thenK (iwpP P c20z6 (K20z0 P K)) (K20z0 P K)
def K20z8 : Kont := inBlockK 0 (K20z6 P K)
def K20z9 (words0 x14 x15 : Value) (L1 : LK) : Kont := thenK (fun f' h'' => (([0, 14, 15] : List Nat).map f' : List Value) = [words0, x14, x15] ∧ L1 (([16] : List Nat).map f') h'') (K20z8 P K)
def K20z12 (words0 x14 x15 : Value) (L1 : LK) : Kont := thenK (iwpP P c20z12 (K20z9 P K words0 x14 x15 L1)) (K20z9 P K words0 x14 x15 L1)
def K20z13 (words0 x14 x15 : Value) (L1 : LK) : Kont := inBlockK 1 (K20z12 P K words0 x14 x15 L1)
def K20z16 (words0 x14 x15 : Value) (L1 : LK) : Kont := inBlockK 2 (K20z13 P K words0 x14 x15 L1)
def K20z17 (words0 i5 v6 x14 x15 x16 x21 x22 : Value) (L1 L2 : LK) : Kont := thenK (fun f' h'' => (([0, 5, 6, 14, 15, 16, 21, 22] : List Nat).map f' : List Value) = [words0, i5, v6, x14, x15, x16, x21, x22] ∧ L2 (([23] : List Nat).map f') h'') (K20z16 P K words0 x14 x15 L1)
def K20z20 (words0 i5 v6 x14 x15 x16 x21 x22 : Value) (L1 L2 : LK) : Kont := thenK (iwpP P c20z20 (K20z17 P K words0 i5 v6 x14 x15 x16 x21 x22 L1 L2)) (K20z17 P K words0 i5 v6 x14 x15 x16 x21 x22 L1 L2)
def K20z21 (words0 i5 v6 x14 x15 x16 x21 x22 : Value) (L1 L2 : LK) : Kont := inBlockK 3 (K20z20 P K words0 i5 v6 x14 x15 x16 x21 x22 L1 L2)
def K20z23 (words0 i5 v6 x14 x15 x16 x21 x22 : Value) (L1 L2 : LK) : Kont := thenK (iwpP P c20z23 (K20z21 P K words0 i5 v6 x14 x15 x16 x21 x22 L1 L2)) (K20z21 P K words0 i5 v6 x14 x15 x16 x21 x22 L1 L2)
def p20z9 (words0 x14 x15 : Value) (L1 : LK) (xs : List Value) (h : Heap) : Prop := CutP (iwpP P c20z9 (K20z9 P K words0 x14 x15 L1)) ([0, 14, 15] ++ [16]) ([words0, x14, x15] ++ xs) h
def p20z17 (words0 i5 v6 x14 x15 x16 x21 x22 : Value) (L1 L2 : LK) (xs : List Value) (h : Heap) : Prop := CutP (iwpP P c20z17 (K20z17 P K words0 i5 v6 x14 x15 x16 x21 x22 L1 L2)) ([0, 5, 6, 14, 15, 16, 21, 22] ++ [23]) ([words0, i5, v6, x14, x15, x16, x21, x22] ++ xs) h
def p20z25 (words0 i5 v6 j7 w8 x14 x15 x16 x21 x22 x23 x31 : Value) (L1 L2 : LK) (h : Heap) : Prop := CutP (iwpP P c20z25 (K20z23 P K words0 i5 v6 x14 x15 x16 x21 x22 L1 L2)) [0, 5, 6, 7, 8, 14, 15, 16, 21, 22, 23, 31] [words0, i5, v6, j7, w8, x14, x15, x16, x21, x22, x23, x31] h
def p20z27 (words0 i5 v6 j7 x14 x15 x16 x21 x22 x23 x31 x34 : Value) (L1 L2 : LK) (h : Heap) : Prop := CutP (iwpP P c20z27 (K20z23 P K words0 i5 v6 x14 x15 x16 x21 x22 L1 L2)) [0, 5, 6, 7, 14, 15, 16, 21, 22, 23, 31, 34] [words0, i5, v6, j7, x14, x15, x16, x21, x22, x23, x31, x34] h
def p20z29 (words0 x14 x15 x16 : Value) (L1 : LK) (h : Heap) : Prop := CutP (iwpP P c20z29 (K20z9 P K words0 x14 x15 L1)) [0, 14, 15, 16] [words0, x14, x15, x16] h
theorem q20z27 (words0 i5 v6 j7 x14 x15 x16 x21 x22 x23 x31 x34 : Value) (L1 L2 : LK) (h : Heap) : p20z27 P K words0 i5 v6 j7 x14 x15 x16 x21 x22 x23 x31 x34 L1 L2 h =
 (OP (iPick x31 x34 (.bool false)) fun x35 =>
 IfP x35
 (OH (iMkSl 3 2 [(.int .i64 (0))] h [(0, 1, i5), (1, 1, j7)]) fun x38 h_1 =>
 K (.tuple #[x38, (.int .i64 (0))]) h_1)
 (OP (iBin .add x23 (.int .i64 (1))) fun x39 =>
 ([words0, i5, v6, x14, x15, x16, x21, x22] : List Value) = [words0, i5, v6, x14, x15, x16, x21, x22] ∧ L2 [x39] h)) := (CutP_def _ _ _ _).trans (by kernel_rfl)
theorem q20z25 (words0 i5 v6 j7 w8 x14 x15 x16 x21 x22 x23 x31 : Value) (L1 L2 : LK) (h : Heap) : p20z25 P K words0 i5 v6 j7 w8 x14 x15 x16 x21 x22 x23 x31 L1 L2 h =
 (GdP x31 true
 (CallP P 37 [w8, v6] h fun x34 h_1 =>
 p20z27 P K words0 i5 v6 j7 x14 x15 x16 x21 x22 x23 x31 x34 L1 L2 h_1)
 (p20z27 P K words0 i5 v6 j7 x14 x15 x16 x21 x22 x23 x31 undef L1 L2 h)) := (CutP_def _ _ _ _).trans (by kernel_rfl)
theorem q20z17 (words0 i5 v6 x14 x15 x16 x21 x22 : Value) (L1 L2 : LK) (x23 : Value) (h : Heap) : p20z17 P K words0 i5 v6 x14 x15 x16 x21 x22 L1 L2 [x23] h =
 (OP (iBin .lss x23 x22) fun x24 =>
 IfP x24
 (OP (iAdrSl 1 x21 x23) fun x26 =>
 OP (iLoad false 1 h x26) fun x27 =>
 OP (iBin .neq i5 x23) fun x30 =>
 p20z25 P K words0 i5 v6 x23 x27 x14 x15 x16 x21 x22 x23 x30 L1 L2 h)
 (p20z29 P K words0 x14 x15 x16 L1 h)) := (CutP_def _ _ _ _).trans (by kernel_rfl)
theorem q20z29 (words0 x14 x15 x16 : Value) (L1 : LK) (h : Heap) : p20z29 P K words0 x14 x15 x16 L1 h =
 (OP (iBin .add x16 (.int .i64 (1))) fun x40 =>
 ([words0, x14, x15] : List Value) = [words0, x14, x15] ∧ L1 [x40] h) := (CutP_def _ _ _ _).trans (by kernel_rfl)
theorem q20z9 (words0 x14 x15 : Value) (L1 : LK) (x16 : Value) (h : Heap) : p20z9 P K words0 x14 x15 L1 [x16] h =
 (OP (iBin .lss x16 x15) fun x17 =>
 IfP x17
 (OP (iAdrSl 1 x14 x16) fun x19 =>
 OP (iLoad false 1 h x19) fun x20 =>
 OP (iLenSl words0) fun x22 =>
 LoopP [(.int .i64 (0))] h fun L2 xs hx =>
 p20z17 P K words0 x16 x20 x14 x15 x16 words0 x22 L1 L2 xs hx)
 (K (.tuple #[(.slice none 0 0), (.int .i64 (5))]) h)) := (CutP_def _ _ _ _).trans (by kernel_rfl)
def T20 (words0 : Value) (h : Heap) : Prop :=
 CallP P 34 [words0, (.string ⟨#[]⟩)] h fun x10 h_1 =>
 OP (iBin .neq x10 (.int .i64 (0))) fun x12 =>
 IfP x12
 (K (.tuple #[(.slice none 0 0), x10]) h_1)
 (OP (iLenSl words0) fun x15 =>
 LoopP [(.int .i64 (0))] h_1 fun L1 xs hx =>
 p20z9 P K words0 words0 x15 L1 xs hx)
theorem e20 (words0 : Value) (h : Heap) : iwpP P c20 (bodyP [.tmp 2, .tmp 3] K) (frame0 [words0]) h = T20 P K words0 h := by kernel_rfl
theorem f20 {K : VK} {words0 : Value} {h : Heap} (H : T20 Tryd.prog K words0 h) : CallP Tryd.prog 20 [words0] h K :=
 callP_intro k20 (Nat.le_of_ble_eq_true rfl) ((e20 Tryd.prog K words0 h).mpr H)
/-! F21: pommel/pommelref08.Code -/
noncomputable def c21z18 : ICode := .ops none [⟨(some 28), .p (.pick (.tmp 21) (.const (.bool true)) (.tmp 27))⟩]
noncomputable def c21z16 : ICode := .seq (.ops (some (21, false)) [⟨(some 22), .p (.mv (.tmp 0))⟩,
 ⟨(some 23), .p (.mv (.tmp 3))⟩,
 ⟨(some 24), .p (.adrSl 1 (.tmp 22) (.tmp 23))⟩,
 ⟨(some 25), .l (.load false 1 (.tmp 24))⟩,
 ⟨(some 26), .call 40 [(.tmp 25)]⟩,
 ⟨(some 27), .p (.un .not (.tmp 26))⟩])
 (.cut [0, 3, 21, 27] c21z18)
noncomputable def c21z14 : ICode := .cond (.tmp 28) (.seq (.ops none [⟨(some 2), .p (.mv (.const (.int .i64 (2))))⟩])
 (.ret))
 (.skip)
noncomputable def c21z22 : ICode := .seq (.seq (.ops none [⟨(some 29), .p (.mv (.tmp 4))⟩,
 ⟨(some 30), .p (.mv (.tmp 3))⟩,
 ⟨(some 31), .p (.bin .lss (.tmp 29) (.tmp 30))⟩])
 (.cond (.tmp 31) (.skip)
 (.exit 2)))
 (.seq (.block 3 (.seq (.dops [(none, [⟨(some 34), .p (.mv (.tmp 0)), 0⟩,
 ⟨(some 35), .p (.mv (.tmp 3)), 0⟩,
 ⟨(some 36), .p (.adrSl 1 (.tmp 34) (.tmp 35)), 3⟩,
 ⟨(some 37), .l (.load false 1 (.tmp 36)), 7⟩,
 ⟨(some 38), .p (.mv (.tmp 0)), 0⟩,
 ⟨(some 39), .p (.mv (.tmp 4)), 0⟩,
 ⟨(some 40), .p (.adrSl 1 (.tmp 38) (.tmp 39)), 48⟩,
 ⟨(some 41), .l (.load false 1 (.tmp 40)), 112⟩,
 ⟨(some 42), .p (.bin .eql (.tmp 37) (.tmp 41)), 255⟩])])
 (.cond (.tmp 42) (.seq (.ops none [⟨(some 2), .p (.mv (.const (.int .i64 (2))))⟩])
 (.ret))
 (.skip))))
 (.ops none [⟨(some 32), .p (.mv (.tmp 4))⟩,
 ⟨(some 33), .p (.bin .add (.tmp 32) (.const (.int .i64 (1))))⟩,
 ⟨(some 4), .p (.mv (.tmp 33))⟩]))
noncomputable def c21z13 : ICode := .seq (.ops none [⟨(some 4), .p (.mv (.const (.int .i64 (0))))⟩])
 (.block 2 (.loop [0, 3] [4] c21z22))
noncomputable def c21z29 : ICode := .ops none [⟨(some 12), .p (.mv (.tmp 3))⟩,
 ⟨(some 13), .p (.bin .add (.tmp 12) (.const (.int .i64 (1))))⟩,
 ⟨(some 3), .p (.mv (.tmp 13))⟩]
noncomputable def c21z11 : ICode := .cut [0, 3] c21z29
noncomputable def c21z8 : ICode := .seq (.seq (.ops none [⟨(some 8), .p (.mv (.tmp 3))⟩,
 ⟨(some 9), .p (.mv (.tmp 0))⟩,
 ⟨(some 10), .p (.lenSl (.tmp 9))⟩,
 ⟨(some 11), .p (.bin .lss (.tmp 8) (.tmp 10))⟩])
 (.cond (.tmp 11) (.skip)
 (.exit 0)))
 (.seq (.block 1 (.seq (.seq (.seq (.ops none [⟨(some 14), .p (.mv (.tmp 0))⟩,
 ⟨(some 15), .p (.mv (.tmp 3))⟩,
 ⟨(some 16), .p (.adrSl 1 (.tmp 14) (.tmp 15))⟩,
 ⟨(some 17), .l (.load false 1 (.tmp 16))⟩,
 ⟨(some 18), .p (.lenS (.tmp 17))⟩,
 ⟨(some 19), .call 28 [(.tmp 18), (.const (.int .i64 (1))), (.const (.int .i64 (10)))]⟩,
 ⟨(some 20), .p (.un .not (.tmp 19))⟩,
 ⟨(some 21), .p (.mv (.tmp 20))⟩])
 (.cut [0, 3, 21] c21z16)) c21z14) c21z13)) c21z11)
noncomputable def c21z30 : ICode := .seq (.seq (.ops none [⟨(some 43), .p (.mv (.tmp 0))⟩,
 ⟨(some 44), .p (.lenSl (.tmp 43))⟩,
 ⟨(some 45), .p (.bin .eql (.tmp 44) (.const (.int .i64 (0))))⟩])
 (.cond (.tmp 45) (.seq (.ops none [⟨(some 2), .p (.mv (.const (.int .i64 (2))))⟩])
 (.ret))
 (.skip)))
 (.seq (.ops none [⟨(some 2), .p (.mv (.const (.int .i64 (0))))⟩])
 (.ret))
noncomputable def c21z5 : ICode := .cut [0] c21z30
noncomputable def c21 : ICode := .seq (.ops none [⟨(some 2), .p (.mv (.const (.int .i64 (0))))⟩])
 (.seq (.seq (.ops none [⟨(some 5), .p (.mv (.tmp 0))⟩,
 ⟨(some 6), .p (.lenSl (.tmp 5))⟩,
 ⟨(some 7), .p (.bin .gtr (.tmp 6) (.const (.int .i64 (12))))⟩])
 (.cond (.tmp 7) (.seq (.ops none [⟨(some 2), .p (.mv (.const (.int .i64 (3))))⟩])
 (.ret))
 (.skip)))
 (.seq (.seq (.ops none [⟨(some 3), .p (.mv (.const (.int .i64 (0))))⟩])
 (.block 0 (.loop [0] [3] c21z8))) c21z5))
theorem k21 : compFn Tryd.prog 21 [[], [], [], [], [], [0], [3], [], [], [0, 3, 21], [0, 3, 21, 27], [], [], [], [], [0, 3], [4], [], [], [], [], [], [0, 3], [0], [], [], [], []] = some (46, c21, [.tmp 2]) := by kernel_rfl
def K21z0 (_P : Program) (K : VK) : Kont := bodyP [.tmp 2] K
def K21z5 : Kont := thenK (iwpP P c21z5 (K21z0 P K)) (K21z0 P K)
def K21z7 : Kont := inBlockK 0 (K21z5 P K)
def K21z8 (l0 : Value) (L1 : LK) : Kont := thenK (fun f' h'' => (([0] : List Nat).map f' : List Value) = [l0] ∧ L1 (([3] : List Nat).map f') h'') (K21z7 P K)
def K21z11 (l0 : Value) (L1 : LK) : Kont := thenK (iwpP P c21z11 (K21z8 P K l0 L1)) (K21z8 P K l0 L1)
def K21z12 (l0 : Value) (L1 : LK) : Kont := inBlockK 1 (K21z11 P K l0 L1)
def K21z13 (l0 : Value) (L1 : LK) : Kont := thenK (iwpP P c21z13 (K21z12 P K l0 L1)) (K21z12 P K l0 L1)
def K21z14 (l0 : Value) (L1 : LK) : Kont := thenK (iwpP P c21z14 (K21z13 P K l0 L1)) (K21z13 P K l0 L1)
def K21z21 (l0 : Value) (L1 : LK) : Kont := inBlockK 2 (K21z12 P K l0 L1)
def K21z22 (l0 i3 : Value) (L1 L2 : LK) : Kont := thenK (fun f' h'' => (([0, 3] : List Nat).map f' : List Value) = [l0, i3] ∧ L2 (([4] : List Nat).map f') h'') (K21z21 P K l0 L1)
def p21z8 (l0 : Value) (L1 : LK) (xs : List Value) (h : Heap) : Prop := CutP (iwpP P c21z8 (K21z8 P K l0 L1)) ([0] ++ [3]) ([l0] ++ xs) h
def p21z16 (l0 i3 x21 : Value) (L1 : LK) (h : Heap) : Prop := CutP (iwpP P c21z16 (K21z14 P K l0 L1)) [0, 3, 21] [l0, i3, x21] h
def p21z18 (l0 i3 x21 x27 : Value) (L1 : LK) (h : Heap) : Prop := CutP (iwpP P c21z18 (K21z14 P K l0 L1)) [0, 3, 21, 27] [l0, i3, x21, x27] h
def p21z22 (l0 i3 : Value) (L1 L2 : LK) (xs : List Value) (h : Heap) : Prop := CutP (iwpP P c21z22 (K21z22 P K l0 i3 L1 L2)) ([0, 3] ++ [4]) ([l0, i3] ++ xs) h
def p21z29 (l0 i3 : Value) (L1 : LK) (h : Heap) : Prop := CutP (iwpP P c21z29 (K21z8 P K l0 L1)) [0, 3] [l0, i3] h
def p21z30 (l0 : Value) (h : Heap) : Prop := CutP (iwpP P c21z30 (K21z0 P K)) [0] [l0] h
theorem q21z18 (l0 i3 x21 x27 : Value) (L1 : LK) (h : Heap) : p21z18 P K l0 i3 x21 x27 L1 h =
 (OP (iPick x21 (.bool true) x27) fun x28 =>
 IfP x28
 (K (.int .i64 (2)) h)
 (LoopP [(.int .i64 (0))] h fun L2 xs hx =>
 p21z22 P K l0 i3 L1 L2 xs hx)) := (CutP_def _ _ _ _).trans (by kernel_rfl)
theorem q21z16 (l0 i3 x21 : Value) (L1 : LK) (h : Heap) : p21z16 P K l0 i3 x21 L1 h =
 (GdP x21 false
 (OP (iAdrSl 1 l0 i3) fun x24 =>
 OP (iLoad false 1 h x24) fun x25 =>
 CallP P 40 [x25] h fun x26 h_1 =>
 OP (iUn .not x26) fun x27 =>
 p21z18 P K l0 i3 x21 x27 L1 h_1)
 (p21z18 P K l0 i3 x21 undef L1 h)) := (CutP_def _ _ _ _).trans (by kernel_rfl)
theorem q21z22 (l0 i3 : Value) (L1 L2 : LK) (k4 : Value) (h : Heap) : p21z22 P K l0 i3 L1 L2 [k4] h =
 (OP (iBin .lss k4 i3) fun x31 =>
 IfP x31
 (OP (iAdrSl 1 l0 i3) fun x36 =>
 OP (iLoad false 1 h x36) fun x37 =>
 (True) ∧
 OP (iAdrSl 1 l0 k4) fun x40 =>
 OP (iLoad false 1 h x40) fun x41 =>
 (True) ∧
 OP (iBin .eql x37 x41) fun x42 =>
 IfP x42
 (K (.int .i64 (2)) h)
 (OP (iBin .add k4 (.int .i64 (1))) fun x33 =>
 ([l0, i3] : List Value) = [l0, i3] ∧ L2 [x33] h))
 (p21z29 P K l0 i3 L1 h)) := (CutP_def _ _ _ _).trans (by kernel_rfl)
theorem q21z29 (l0 i3 : Value) (L1 : LK) (h : Heap) : p21z29 P K l0 i3 L1 h =
 (OP (iBin .add i3 (.int .i64 (1))) fun x13 =>
 ([l0] : List Value) = [l0] ∧ L1 [x13] h) := (CutP_def _ _ _ _).trans (by kernel_rfl)
theorem q21z8 (l0 : Value) (L1 : LK) (i3 : Value) (h : Heap) : p21z8 P K l0 L1 [i3] h =
 (OP (iLenSl l0) fun x10 =>
 OP (iBin .lss i3 x10) fun x11 =>
 IfP x11
 (OP (iAdrSl 1 l0 i3) fun x16 =>
 OP (iLoad false 1 h x16) fun x17 =>
 OP (iLenS x17) fun x18 =>
 CallP P 28 [x18, (.int .i64 (1)), (.int .i64 (10))] h fun x19 h_1 =>
 OP (iUn .not x19) fun x20 =>
 p21z16 P K l0 i3 x20 L1 h_1)
 (p21z30 P K l0 h)) := (CutP_def _ _ _ _).trans (by kernel_rfl)
theorem q21z30 (l0 : Value) (h : Heap) : p21z30 P K l0 h =
 (OP (iLenSl l0) fun x44 =>
 OP (iBin .eql x44 (.int .i64 (0))) fun x45 =>
 IfP x45
 (K (.int .i64 (2)) h)
 (K (.int .i64 (0)) h)) := (CutP_def _ _ _ _).trans (by kernel_rfl)
def T21 (l0 : Value) (h : Heap) : Prop :=
 OP (iLenSl l0) fun x6 =>
 OP (iBin .gtr x6 (.int .i64 (12))) fun x7 =>
 IfP x7
 (K (.int .i64 (3)) h)
 (LoopP [(.int .i64 (0))] h fun L1 xs hx =>
 p21z8 P K l0 L1 xs hx)
theorem e21 (l0 : Value) (h : Heap) : iwpP P c21 (bodyP [.tmp 2] K) (frame0 [l0]) h = T21 P K l0 h := by kernel_rfl
theorem f21 {K : VK} {l0 : Value} {h : Heap} (H : T21 Tryd.prog K l0 h) : CallP Tryd.prog 21 [l0] h K :=
 callP_intro k21 (Nat.le_of_ble_eq_true rfl) ((e21 Tryd.prog K l0 h).mpr H)
/-! F22: pommel/pommelref08.Begins -/
noncomputable def c22z12 : ICode := .seq (.seq (.ops none [⟨(some 11), .p (.mv (.tmp 4))⟩,
 ⟨(some 12), .p (.mv (.tmp 0))⟩,
 ⟨(some 13), .p (.lenSl (.tmp 12))⟩,
 ⟨(some 14), .p (.bin .lss (.tmp 11) (.tmp 13))⟩])
 (.cond (.tmp 14) (.skip)
 (.exit 2)))
 (.seq (.block 3 (.seq (.dops [(none, [⟨(some 17), .p (.mv (.tmp 3)), 0⟩,
 ⟨(some 18), .p (.mv (.tmp 4)), 0⟩,
 ⟨(some 19), .p (.bin .neq (.tmp 17) (.tmp 18)), 3⟩,
 ⟨(some 20), .p (.mv (.tmp 19)), 7⟩]),
 ((some (20, true)), [⟨(some 21), .p (.mv (.tmp 0)), 15⟩,
 ⟨(some 22), .p (.mv (.tmp 3)), 15⟩,
 ⟨(some 23), .p (.adrSl 1 (.tmp 21) (.tmp 22)), 63⟩,
 ⟨(some 24), .l (.load false 1 (.tmp 23)), 127⟩,
 ⟨(some 25), .p (.mv (.tmp 0)), 15⟩,
 ⟨(some 26), .p (.mv (.tmp 4)), 15⟩,
 ⟨(some 27), .p (.adrSl 1 (.tmp 25) (.tmp 26)), 783⟩,
 ⟨(some 28), .l (.load false 1 (.tmp 27)), 1807⟩,
 ⟨(some 29), .call 41 [(.tmp 24), (.tmp 28)], 4095⟩]),
 (none, [⟨(some 30), .p (.pick (.tmp 20) (.tmp 29) (.const (.bool false))), 8191⟩])])
 (.cond (.tmp 30) (.seq (.ops none [⟨(some 31), .p (.mv (.tmp 3))⟩,
 ⟨(some 32), .p (.mv (.tmp 4))⟩,
 ⟨(some 33), .e (.mkSl 3 2 [(.int .i64 (0))] [(0, 1, (.tmp 31)), (1, 1, (.tmp 32))])⟩,
 ⟨(some 2), .p (.mv (.tmp 33))⟩])
 (.ret))
 (.skip))))
 (.ops none [⟨(some 15), .p (.mv (.tmp 4))⟩,
 ⟨(some 16), .p (.bin .add (.tmp 15) (.const (.int .i64 (1))))⟩,
 ⟨(some 4), .p (.mv (.tmp 16))⟩]))
noncomputable def c22z19 : ICode := .ops none [⟨(some 9), .p (.mv (.tmp 3))⟩,
 ⟨(some 10), .p (.bin .add (.tmp 9) (.const (.int .i64 (1))))⟩,
 ⟨(some 3), .p (.mv (.tmp 10))⟩]
noncomputable def c22z8 : ICode := .cut [0, 3] c22z19
noncomputable def c22z5 : ICode := .seq (.seq (.ops none [⟨(some 5), .p (.mv (.tmp 3))⟩,
 ⟨(some 6), .p (.mv (.tmp 0))⟩,
 ⟨(some 7), .p (.lenSl (.tmp 6))⟩,
 ⟨(some 8), .p (.bin .lss (.tmp 5) (.tmp 7))⟩])
 (.cond (.tmp 8) (.skip)
 (.exit 0)))
 (.seq (.block 1 (.seq (.ops none [⟨(some 4), .p (.mv (.const (.int .i64 (0))))⟩])
 (.block 2 (.loop [0, 3] [4] c22z12)))) c22z8)
noncomputable def c22z2 : ICode := .seq (.ops none [⟨(some 2), .p (.mv (.const (.slice none 0 0)))⟩])
 (.ret)
noncomputable def c22 : ICode := .seq (.ops none [⟨(some 2), .p (.mv (.const (.slice none 0 0)))⟩])
 (.seq (.seq (.ops none [⟨(some 3), .p (.mv (.const (.int .i64 (0))))⟩])
 (.block 0 (.loop [0] [3] c22z5))) c22z2)
theorem k22 : compFn Tryd.prog 22 [[], [], [0], [3], [], [], [], [0, 3], [4], [], [], [], [], [], [0, 3], [], []] = some (34, c22, [.tmp 2]) := by kernel_rfl
def K22z0 (_P : Program) (K : VK) : Kont := bodyP [.tmp 2] K
def K22z2 : Kont := thenK (iwpP P c22z2 (K22z0 P K)) (K22z0 P K)
def K22z4 : Kont := inBlockK 0 (K22z2 P K)
def K22z5 (l0 : Value) (L1 : LK) : Kont := thenK (fun f' h'' => (([0] : List Nat).map f' : List Value) = [l0] ∧ L1 (([3] : List Nat).map f') h'') (K22z4 P K)
def K22z8 (l0 : Value) (L1 : LK) : Kont := thenK (iwpP P c22z8 (K22z5 P K l0 L1)) (K22z5 P K l0 L1)
def K22z9 (l0 : Value) (L1 : LK) : Kont := inBlockK 1 (K22z8 P K l0 L1)
def K22z11 (l0 : Value) (L1 : LK) : Kont := inBlockK 2 (K22z9 P K l0 L1)
def K22z12 (l0 i3 : Value) (L1 L2 : LK) : Kont := thenK (fun f' h'' => (([0, 3] : List Nat).map f' : List Value) = [l0, i3] ∧ L2 (([4] : List Nat).map f') h'') (K22z11 P K l0 L1)
def p22z5 (l0 : Value) (L1 : LK) (xs : List Value) (h : Heap) : Prop := CutP (iwpP P c22z5 (K22z5 P K l0 L1)) ([0] ++ [3]) ([l0] ++ xs) h
def p22z12 (l0 i3 : Value) (L1 L2 : LK) (xs : List Value) (h : Heap) : Prop := CutP (iwpP P c22z12 (K22z12 P K l0 i3 L1 L2)) ([0, 3] ++ [4]) ([l0, i3] ++ xs) h
def p22z19 (l0 i3 : Value) (L1 : LK) (h : Heap) : Prop := CutP (iwpP P c22z19 (K22z5 P K l0 L1)) [0, 3] [l0, i3] h
theorem q22z12 (l0 i3 : Value) (L1 L2 : LK) (j4 : Value) (h : Heap) : p22z12 P K l0 i3 L1 L2 [j4] h =
 (OP (iLenSl l0) fun x13 =>
 OP (iBin .lss j4 x13) fun x14 =>
 IfP x14
 (OP (iBin .neq i3 j4) fun x19 =>
 GdP x19 true
 (OP (iAdrSl 1 l0 i3) fun x23 =>
 OP (iLoad false 1 h x23) fun x24 =>
 (True) ∧
 OP (iAdrSl 1 l0 j4) fun x27 =>
 OP (iLoad false 1 h x27) fun x28 =>
 (True) ∧
 CallP P 41 [x24, x28] h fun x29 h_1 =>
 (True) ∧
 OP (iPick x19 x29 (.bool false)) fun x30 =>
 IfP x30
 (OH (iMkSl 3 2 [(.int .i64 (0))] h_1 [(0, 1, i3), (1, 1, j4)]) fun x33 h_2 =>
 K x33 h_2)
 (OP (iBin .add j4 (.int .i64 (1))) fun x16 =>
 ([l0, i3] : List Value) = [l0, i3] ∧ L2 [x16] h_1))
 ((True) ∧
 OP (iPick x19 undef (.bool false)) fun x30 =>
 IfP x30
 (OH (iMkSl 3 2 [(.int .i64 (0))] h [(0, 1, i3), (1, 1, j4)]) fun x33 h_1 =>
 K x33 h_1)
 (OP (iBin .add j4 (.int .i64 (1))) fun x16 =>
 ([l0, i3] : List Value) = [l0, i3] ∧ L2 [x16] h)))
 (p22z19 P K l0 i3 L1 h)) := (CutP_def _ _ _ _).trans (by kernel_rfl)
theorem q22z19 (l0 i3 : Value) (L1 : LK) (h : Heap) : p22z19 P K l0 i3 L1 h =
 (OP (iBin .add i3 (.int .i64 (1))) fun x10 =>
 ([l0] : List Value) = [l0] ∧ L1 [x10] h) := (CutP_def _ _ _ _).trans (by kernel_rfl)
theorem q22z5 (l0 : Value) (L1 : LK) (i3 : Value) (h : Heap) : p22z5 P K l0 L1 [i3] h =
 (OP (iLenSl l0) fun x7 =>
 OP (iBin .lss i3 x7) fun x8 =>
 IfP x8
 (LoopP [(.int .i64 (0))] h fun L2 xs hx =>
 p22z12 P K l0 i3 L1 L2 xs hx)
 (K (.slice none 0 0) h)) := (CutP_def _ _ _ _).trans (by kernel_rfl)
def T22 (l0 : Value) (h : Heap) : Prop :=
 LoopP [(.int .i64 (0))] h fun L1 xs hx =>
 p22z5 P K l0 L1 xs hx
theorem e22 (l0 : Value) (h : Heap) : iwpP P c22 (bodyP [.tmp 2] K) (frame0 [l0]) h = T22 P K l0 h := by kernel_rfl
theorem f22 {K : VK} {l0 : Value} {h : Heap} (H : T22 Tryd.prog K l0 h) : CallP Tryd.prog 22 [l0] h K :=
 callP_intro k22 (Nat.le_of_ble_eq_true rfl) ((e22 Tryd.prog K l0 h).mpr H)
/-! F26: pommel/pommellaw08.lengths -/
noncomputable def c26z6 : ICode := .seq (.seq (.ops none [⟨(some 6), .p (.mv (.tmp 4))⟩,
 ⟨(some 7), .p (.mv (.tmp 0))⟩,
 ⟨(some 8), .p (.lenSl (.tmp 7))⟩,
 ⟨(some 9), .p (.bin .lss (.tmp 6) (.tmp 8))⟩])
 (.cond (.tmp 9) (.skip)
 (.exit 0)))
 (.seq (.block 1 (.ops none [⟨(some 12), .p (.mv (.tmp 3))⟩,
 ⟨(some 13), .p (.mv (.tmp 0))⟩,
 ⟨(some 14), .p (.mv (.tmp 4))⟩,
 ⟨(some 15), .p (.adrSl 1 (.tmp 13) (.tmp 14))⟩,
 ⟨(some 16), .l (.load false 1 (.tmp 15))⟩,
 ⟨(some 17), .p (.lenS (.tmp 16))⟩,
 ⟨(some 18), .e (.mkSl 3 1 [(.int .i64 (0))] [(0, 1, (.tmp 17))])⟩,
 ⟨(some 19), .e (.app 3 1 8 (.tmp 12) (.tmp 18))⟩,
 ⟨(some 3), .p (.mv (.tmp 19))⟩]))
 (.ops none [⟨(some 10), .p (.mv (.tmp 4))⟩,
 ⟨(some 11), .p (.bin .add (.tmp 10) (.const (.int .i64 (1))))⟩,
 ⟨(some 4), .p (.mv (.tmp 11))⟩]))
noncomputable def c26z11 : ICode := .seq (.ops none [⟨(some 20), .p (.mv (.tmp 3))⟩,
 ⟨(some 2), .p (.mv (.tmp 20))⟩])
 (.ret)
noncomputable def c26z3 : ICode := .cut [3] c26z11
noncomputable def c26 : ICode := .seq (.ops none [⟨(some 2), .p (.mv (.const (.slice none 0 0)))⟩])
 (.seq (.ops none [⟨(some 5), .e (.mkSl 3 0 [(.int .i64 (0))] [])⟩,
 ⟨(some 3), .p (.mv (.tmp 5))⟩])
 (.seq (.seq (.ops none [⟨(some 4), .p (.mv (.const (.int .i64 (0))))⟩])
 (.block 0 (.loop [0] [3, 4] c26z6))) c26z3))
theorem k26 : compFn Tryd.prog 26 [[], [], [], [0], [3, 4], [], [], [], [3], []] = some (21, c26, [.tmp 2]) := by kernel_rfl
def K26z0 (_P : Program) (K : VK) : Kont := bodyP [.tmp 2] K
def K26z3 : Kont := thenK (iwpP P c26z3 (K26z0 P K)) (K26z0 P K)
def K26z5 : Kont := inBlockK 0 (K26z3 P K)
def K26z6 (l0 : Value) (L1 : LK) : Kont := thenK (fun f' h'' => (([0] : List Nat).map f' : List Value) = [l0] ∧ L1 (([3, 4] : List Nat).map f') h'') (K26z5 P K)
def p26z6 (l0 : Value) (L1 : LK) (xs : List Value) (h : Heap) : Prop := CutP (iwpP P c26z6 (K26z6 P K l0 L1)) ([0] ++ [3, 4]) ([l0] ++ xs) h
def p26z11 (out3 : Value) (h : Heap) : Prop := CutP (iwpP P c26z11 (K26z0 P K)) [3] [out3] h
theorem q26z6 (l0 : Value) (L1 : LK) (out3 i4 : Value) (h : Heap) : p26z6 P K l0 L1 [out3, i4] h =
 (OP (iLenSl l0) fun x8 =>
 OP (iBin .lss i4 x8) fun x9 =>
 IfP x9
 (OP (iAdrSl 1 l0 i4) fun x15 =>
 OP (iLoad false 1 h x15) fun x16 =>
 OP (iLenS x16) fun x17 =>
 OH (iMkSl 3 1 [(.int .i64 (0))] h [(0, 1, x17)]) fun x18 h_1 =>
 OH (iApp 3 1 8 h_1 out3 x18) fun x19 h_2 =>
 OP (iBin .add i4 (.int .i64 (1))) fun x11 =>
 ([l0] : List Value) = [l0] ∧ L1 [x19, x11] h_2)
 (p26z11 P K out3 h)) := (CutP_def _ _ _ _).trans (by kernel_rfl)
theorem q26z11 (out3 : Value) (h : Heap) : p26z11 P K out3 h =
 (K out3 h) := (CutP_def _ _ _ _).trans (by kernel_rfl)
def T26 (l0 : Value) (h : Heap) : Prop :=
 OH (iMkSl 3 0 [(.int .i64 (0))] h []) fun x5 h_1 =>
 LoopP [x5, (.int .i64 (0))] h_1 fun L1 xs hx =>
 p26z6 P K l0 L1 xs hx
theorem e26 (l0 : Value) (h : Heap) : iwpP P c26 (bodyP [.tmp 2] K) (frame0 [l0]) h = T26 P K l0 h := by kernel_rfl
theorem f26 {K : VK} {l0 : Value} {h : Heap} (H : T26 Tryd.prog K l0 h) : CallP Tryd.prog 26 [l0] h K :=
 callP_intro k26 (Nat.le_of_ble_eq_true rfl) ((e26 Tryd.prog K l0 h).mpr H)
/-! F40: pommel/pommelref08.bits -/
noncomputable def c40z14 : ICode := .ops none [⟨(some 19), .p (.pick (.tmp 14) (.tmp 18) (.const (.bool false)))⟩]
noncomputable def c40z12 : ICode := .seq (.ops (some (14, true)) [⟨(some 15), .p (.mv (.tmp 0))⟩,
 ⟨(some 16), .p (.mv (.tmp 3))⟩,
 ⟨(some 17), .p (.idxS (.tmp 15) (.tmp 16))⟩,
 ⟨(some 18), .p (.bin .neq (.tmp 17) (.const (.int .u8 (49))))⟩])
 (.cut [0, 3, 14, 18] c40z14)
noncomputable def c40z10 : ICode := .cond (.tmp 19) (.seq (.ops none [⟨(some 2), .p (.mv (.const (.bool false)))⟩])
 (.ret))
 (.skip)
noncomputable def c40z8 : ICode := .ops none [⟨(some 8), .p (.mv (.tmp 3))⟩,
 ⟨(some 9), .p (.bin .add (.tmp 8) (.const (.int .i64 (1))))⟩,
 ⟨(some 3), .p (.mv (.tmp 9))⟩]
noncomputable def c40z5 : ICode := .seq (.seq (.ops none [⟨(some 4), .p (.mv (.tmp 3))⟩,
 ⟨(some 5), .p (.mv (.tmp 0))⟩,
 ⟨(some 6), .p (.lenS (.tmp 5))⟩,
 ⟨(some 7), .p (.bin .lss (.tmp 4) (.tmp 6))⟩])
 (.cond (.tmp 7) (.skip)
 (.exit 0)))
 (.seq (.block 1 (.seq (.seq (.ops none [⟨(some 10), .p (.mv (.tmp 0))⟩,
 ⟨(some 11), .p (.mv (.tmp 3))⟩,
 ⟨(some 12), .p (.idxS (.tmp 10) (.tmp 11))⟩,
 ⟨(some 13), .p (.bin .neq (.tmp 12) (.const (.int .u8 (48))))⟩,
 ⟨(some 14), .p (.mv (.tmp 13))⟩])
 (.cut [0, 3, 14] c40z12)) c40z10)) c40z8)
noncomputable def c40z2 : ICode := .seq (.ops none [⟨(some 2), .p (.mv (.const (.bool true)))⟩])
 (.ret)
noncomputable def c40 : ICode := .seq (.ops none [⟨(some 2), .p (.mv (.const (.bool false)))⟩])
 (.seq (.seq (.ops none [⟨(some 3), .p (.mv (.const (.int .i64 (0))))⟩])
 (.block 0 (.loop [0] [3] c40z5))) c40z2)
theorem k40 : compFn Tryd.prog 40 [[], [], [0], [3], [], [], [0, 3, 14], [0, 3, 14, 18], [], [], [], [], []] = some (20, c40, [.tmp 2]) := by kernel_rfl
def K40z0 (_P : Program) (K : VK) : Kont := bodyP [.tmp 2] K
def K40z2 : Kont := thenK (iwpP P c40z2 (K40z0 P K)) (K40z0 P K)
def K40z4 : Kont := inBlockK 0 (K40z2 P K)
def K40z5 (s0 : Value) (L1 : LK) : Kont := thenK (fun f' h'' => (([0] : List Nat).map f' : List Value) = [s0] ∧ L1 (([3] : List Nat).map f') h'') (K40z4 P K)
def K40z8 (s0 : Value) (L1 : LK) : Kont := thenK (iwpP P c40z8 (K40z5 P K s0 L1)) (K40z5 P K s0 L1)
def K40z9 (s0 : Value) (L1 : LK) : Kont := inBlockK 1 (K40z8 P K s0 L1)
def K40z10 (s0 : Value) (L1 : LK) : Kont := thenK (iwpP P c40z10 (K40z9 P K s0 L1)) (K40z9 P K s0 L1)
def p40z5 (s0 : Value) (L1 : LK) (xs : List Value) (h : Heap) : Prop := CutP (iwpP P c40z5 (K40z5 P K s0 L1)) ([0] ++ [3]) ([s0] ++ xs) h
def p40z12 (s0 i3 x14 : Value) (L1 : LK) (h : Heap) : Prop := CutP (iwpP P c40z12 (K40z10 P K s0 L1)) [0, 3, 14] [s0, i3, x14] h
def p40z14 (s0 i3 x14 x18 : Value) (L1 : LK) (h : Heap) : Prop := CutP (iwpP P c40z14 (K40z10 P K s0 L1)) [0, 3, 14, 18] [s0, i3, x14, x18] h
theorem q40z14 (s0 i3 x14 x18 : Value) (L1 : LK) (h : Heap) : p40z14 P K s0 i3 x14 x18 L1 h =
 (OP (iPick x14 x18 (.bool false)) fun x19 =>
 IfP x19
 (K (.bool false) h)
 (OP (iBin .add i3 (.int .i64 (1))) fun x9 =>
 ([s0] : List Value) = [s0] ∧ L1 [x9] h)) := (CutP_def _ _ _ _).trans (by kernel_rfl)
theorem q40z12 (s0 i3 x14 : Value) (L1 : LK) (h : Heap) : p40z12 P K s0 i3 x14 L1 h =
 (GdP x14 true
 (OP (iIdxS s0 i3) fun x17 =>
 OP (iBin .neq x17 (.int .u8 (49))) fun x18 =>
 p40z14 P K s0 i3 x14 x18 L1 h)
 (p40z14 P K s0 i3 x14 undef L1 h)) := (CutP_def _ _ _ _).trans (by kernel_rfl)
theorem q40z5 (s0 : Value) (L1 : LK) (i3 : Value) (h : Heap) : p40z5 P K s0 L1 [i3] h =
 (OP (iLenS s0) fun x6 =>
 OP (iBin .lss i3 x6) fun x7 =>
 IfP x7
 (OP (iIdxS s0 i3) fun x12 =>
 OP (iBin .neq x12 (.int .u8 (48))) fun x13 =>
 p40z12 P K s0 i3 x13 L1 h)
 (K (.bool true) h)) := (CutP_def _ _ _ _).trans (by kernel_rfl)
def T40 (s0 : Value) (h : Heap) : Prop :=
 LoopP [(.int .i64 (0))] h fun L1 xs hx =>
 p40z5 P K s0 L1 xs hx
theorem e40 (s0 : Value) (h : Heap) : iwpP P c40 (bodyP [.tmp 2] K) (frame0 [s0]) h = T40 P K s0 h := by kernel_rfl
theorem f40 {K : VK} {s0 : Value} {h : Heap} (H : T40 Tryd.prog K s0 h) : CallP Tryd.prog 40 [s0] h K :=
 callP_intro k40 (Nat.le_of_ble_eq_true rfl) ((e40 Tryd.prog K s0 h).mpr H)
/-! F41: pommel/pommelref08.begins -/
noncomputable def c41z6 : ICode := .ops none [⟨(some 17), .p (.pick (.tmp 10) (.tmp 16) (.const (.bool false)))⟩,
 ⟨(some 4), .p (.mv (.tmp 17))⟩]
noncomputable def c41z4 : ICode := .seq (.ops (some (10, true)) [⟨(some 11), .p (.mv (.tmp 1))⟩,
 ⟨(some 12), .p (.mv (.tmp 0))⟩,
 ⟨(some 13), .p (.lenS (.tmp 12))⟩,
 ⟨(some 14), .p (.slS (.tmp 11) none (some (.tmp 13)))⟩,
 ⟨(some 15), .p (.mv (.tmp 0))⟩,
 ⟨(some 16), .p (.bin .eql (.tmp 14) (.tmp 15))⟩])
 (.cut [10, 16] c41z6)
noncomputable def c41z2 : ICode := .ret
noncomputable def c41 : ICode := .seq (.ops none [⟨(some 4), .p (.mv (.const (.bool false)))⟩])
 (.seq (.seq (.ops none [⟨(some 5), .p (.mv (.tmp 0))⟩,
 ⟨(some 6), .p (.lenS (.tmp 5))⟩,
 ⟨(some 7), .p (.mv (.tmp 1))⟩,
 ⟨(some 8), .p (.lenS (.tmp 7))⟩,
 ⟨(some 9), .p (.bin .leq (.tmp 6) (.tmp 8))⟩,
 ⟨(some 10), .p (.mv (.tmp 9))⟩])
 (.cut [0, 1, 10] c41z4)) c41z2)
theorem k41 : compFn Tryd.prog 41 [[], [0, 1, 10], [10, 16], []] = some (18, c41, [.tmp 4]) := by kernel_rfl
def K41z0 (_P : Program) (K : VK) : Kont := bodyP [.tmp 4] K
def K41z2 : Kont := thenK (iwpP P c41z2 (K41z0 P K)) (K41z0 P K)
def p41z4 (s0 t1 x10 : Value) (h : Heap) : Prop := CutP (iwpP P c41z4 (K41z2 P K)) [0, 1, 10] [s0, t1, x10] h
def p41z6 (x10 x16 : Value) (h : Heap) : Prop := CutP (iwpP P c41z6 (K41z2 P K)) [10, 16] [x10, x16] h
theorem q41z6 (x10 x16 : Value) (h : Heap) : p41z6 P K x10 x16 h =
 (OP (iPick x10 x16 (.bool false)) fun x17 =>
 K x17 h) := (CutP_def _ _ _ _).trans (by kernel_rfl)
theorem q41z4 (s0 t1 x10 : Value) (h : Heap) : p41z4 P K s0 t1 x10 h =
 (GdP x10 true
 (OP (iLenS s0) fun x13 =>
 OP (iSlS t1 none (some x13)) fun x14 =>
 OP (iBin .eql x14 s0) fun x16 =>
 p41z6 P K x10 x16 h)
 (p41z6 P K x10 undef h)) := (CutP_def _ _ _ _).trans (by kernel_rfl)
def T41 (s0 t1 : Value) (h : Heap) : Prop :=
 OP (iLenS s0) fun x6 =>
 OP (iLenS t1) fun x8 =>
 OP (iBin .leq x6 x8) fun x9 =>
 p41z4 P K s0 t1 x9 h
theorem e41 (s0 t1 : Value) (h : Heap) : iwpP P c41 (bodyP [.tmp 4] K) (frame0 [s0, t1]) h = T41 P K s0 t1 h := by kernel_rfl
theorem f41 {K : VK} {s0 t1 : Value} {h : Heap} (H : T41 Tryd.prog K s0 t1 h) : CallP Tryd.prog 41 [s0, t1] h K :=
 callP_intro k41 (Nat.le_of_ble_eq_true rfl) ((e41 Tryd.prog K s0 t1 h).mpr H)
end Go.Proofs.YthplaillblmgfaaDoor

namespace Go.Proofs.YthplaillblmgfaaDoor
open Go.Sim

theorem mkW0 (h : Heap) : iMkSl 9 0 [(.string ⟨#[]⟩)] h [] = some (sl 9 h.length 0 0, h ++ [.arr 9 []]) := rfl

/-- One number's letters. -/
theorem bitsC {x0 l3 i4 : Value} {L1 : List Value → Heap → Prop} {K : Value → Heap → Prop} {g : Heap} (v0 : Nat) (h1 : 2 ≤ v0) (h2 : v0 ≤ 2047)
    (hk : ∀ s : Tx, s ≠ [] → s.length ≤ 10 → bitsB s = true → p17z23 Tryd.prog K x0 l3 i4 (S s) L1 g) : LoopP [I v0, (.string ⟨#[]⟩)] g fun L2 xs hx => p17z18 Tryd.prog K x0 l3 i4 L1 L2 xs hx := by
  refine loopL (σ := Nat × Tx) (fun q => [I q.1, S q.2]) (fun _ => g) (fun q => 1 ≤ q.1 ∧ q.1 * 2 ^ q.2.length ≤ 2047 ∧ bitsB q.2 = true ∧ (q.2 = [] → 2 ≤ q.1)) (fun q => q.1) (v0, []) rfl rfl ⟨by show 1 ≤ v0; omega, by simpa using h2, rfl, fun _ => h1⟩ ?_
  rintro ⟨v, s⟩ ⟨q1, q2, q3, q4⟩ L hL
  simp only at q1 q2 q3 q4 hL ⊢
  have sl : s.length ≤ 10 := by
    apply Classical.byContradiction
    intro hc
    have := Nat.pow_le_pow_right (n := 2) (by omega) (show 11 ≤ s.length by omega)
    have : v * 2 ^ 11 ≤ v * 2 ^ s.length := Nat.mul_le_mul_left _ this
    have : 1 * 2 ^ 11 ≤ v * 2 ^ 11 := Nat.mul_le_mul_right _ q1
    omega
  have vl : v ≤ 2047 := by
    have := Nat.mul_le_mul_left v (Nat.one_le_two_pow (n := s.length))
    omega
  rw [q17z18]
  simp only [bin_gtr, OP_some, IfP_dec]
  refine ⟨fun hgt => ?_, fun hle => ?_⟩
  · have hv2 : 2 ≤ v := by omega
    have w : IntKind.wrap .i64 (((v % 2 : Nat) : Int) + 1) = ((v % 2 + 1 : Nat) : Int) := by rw [wrap64 (by omega) (by omega)]; omega
    have rm : iBin .rem (I v) (.int .i64 (2)) = some (I ((v % 2 : Nat) : Int)) := rem_nat .i64 v 2 (by omega)
    have qo : iBin .quo (I v) (.int .i64 (2)) = some (I ((v / 2 : Nat) : Int)) := by
      have e : iBin .quo (I v) (I (2 : Nat)) = some (I (IntKind.wrap .i64 ((v : Int).tdiv ((2 : Nat) : Int)))) := by simp [iBin, iInt]
      have e3 : ((v : Int).tdiv ((2 : Nat) : Int)) = ((v / 2 : Nat) : Int) := Int.ofNat_tdiv v 2 |>.symm
      rw [e3, wrap64 (by omega) (by omega)] at e
      exact e
    have sx : iSlS (.string ⟨#[48, 49]⟩) (some (I ((v % 2 : Nat) : Int))) (some (I ((v % 2 + 1 : Nat) : Int))) = some (S [if v % 2 = 0 then 48 else 49]) := by
      rcases Nat.mod_two_eq_zero_or_one v with h | h <;> rw [h] <;> rfl
    simp only [rm, OP_some, bin_add, w, sx, bin_addS (a := [if v % 2 = 0 then 48 else 49]) (b := s) (by simp [maxLen]; omega), qo, true_and]
    refine hL (v / 2, [if v % 2 = 0 then 48 else 49] ++ s) ⟨by show 1 ≤ v / 2; omega, ?_, ?_, fun h => by simp at h⟩ (by show v / 2 < v; omega)
    · show v / 2 * 2 ^ (([if v % 2 = 0 then (48 : UInt8) else 49] ++ s).length) ≤ 2047
      rw [List.length_append, List.length_singleton, Nat.pow_add, ← Nat.mul_assoc]
      refine Nat.le_trans (Nat.mul_le_mul_right _ ?_) q2
      omega
    · show bitsB ([if v % 2 = 0 then (48 : UInt8) else 49] ++ s) = true
      refine bits_app ?_ q3
      split <;> rfl
  · have : v = 1 := by omega
    refine hk s (fun h => by have := q4 h; omega) sl q3

theorem own_len9 {b : Nat} {g : Heap} {v : Value} {ls : List Tx} (own : OwnS b g 9 v (ls.map S)) : iLenSl v = some (I ls.length) := (own_ss own).len

theorem knownC {x0 l3 i4 : Value} {L1 : List Value → Heap → Prop} {K : Value → Heap → Prop} {g : Heap} {ls : List Tx} {s : Tx} (hv : SS g l3 ls) (hl : ls.length ≤ 12)
    (hk : p17z37 Tryd.prog K x0 l3 i4 (S s) (B (decide (s ∈ ls))) L1 g) : p17z23 Tryd.prog K x0 l3 i4 (S s) L1 g := by
  rw [q17z23]
  refine loopL (σ := Nat) (fun k => [B (decide (s ∈ ls.take k)), I k]) (fun _ => g) (fun k => k ≤ ls.length) (fun k => ls.length - k) 0 (by simp) rfl (Nat.zero_le _) ?_
  intro k hk2 L hL
  rw [q17z28]
  simp only [hv.len, OP_some, bin_lss, IfP_dec]
  refine ⟨fun hlt => ?_, fun hge => ?_⟩
  · have hlt : k < ls.length := by omega
    obtain ⟨b, o, a1, a2⟩ := hv.get k hlt
    have key : decide (s ∈ ls.take (k + 1)) = (decide (s ∈ ls.take k) || decide (ls[k] = s)) := by
      rw [List.take_succ_eq_append_getElem hlt, ← Bool.decide_or]
      exact decide_eq_decide.2 (by rw [List.mem_append, List.mem_singleton, eq_comm (a := s)])
    have nx := hL (k + 1) hlt (by omega)
    rw [key] at nx
    rw [q17z34]
    cases hb : decide (s ∈ ls.take k) with
    | true =>
      rw [hb] at nx
      simp only [GdP_tf, q17z36, iPick_t, OP_some, bin_add, incM k (show k < maxLen by simp [maxLen]; omega), true_and]
      exact nx
    | false =>
      rw [hb] at nx
      simp only [GdP_ff, a1, a2, OP_some, bin_eqlS, q17z36, iPick_f, bin_add, incM k (show k < maxLen by simp [maxLen]; omega), true_and]
      exact nx
  · have : k = ls.length := by omega
    subst this
    rw [List.take_length]
    exact hk

structure Ok' (W : List Tx) : Prop where
  nd : W.Nodup
  all : ∀ w ∈ W, w ≠ [] ∧ w.length ≤ 10 ∧ bitsB w = true

theorem C17 {v : Value} {ns : List Int} {h : Heap} {K : Value → Heap → Prop} (hv : INS h 58 .u16 v ns) (hnl : ns.length ≤ maxLen) (hns : ∀ x ∈ ns, 0 ≤ x ∧ x < 65536) (hk : ∀ W u h', Ok W → W ≠ [] → EX h h' → OwnS h.length h' 9 u (W.map S) → K u h') : CallP Tryd.prog 17 [v] h K := by
  refine f17 ?_
  unfold T17
  simp only [mkW0, OH_some]
  have fin : ∀ {vo : Value} {g : Heap} {ls : List Tx}, EX h g → OwnS h.length g 9 vo (ls.map S) → Ok' ls → ls.length ≤ 12 → p17z40 Tryd.prog K vo g := by
    intro vo g ls xg own ok hl
    rw [q17z40]
    simp only [own_len9 own, OP_some, bin_eql, IfP_dec]
    refine ⟨fun h0 => ?_, fun h0 => ?_⟩
    · have : ls = [] := List.length_eq_zero_iff.1 (by omega)
      subst this
      refine app1 own xg (by simp) (by simp [maxLen]) rfl rfl ?_
      intro v' g' x' own'
      rw [q17z43]
      refine hk [[48]] v' g' ⟨by simp, fun w hw => ?_, fun w hw => ?_, fun w hw => ?_, by simp⟩ (by simp) x' own'
      all_goals rw [List.mem_singleton.1 hw]
      · simp
      · simp
      · rfl
    · rw [q17z43]
      exact hk ls vo g ⟨ok.nd, fun w hw => (ok.all w hw).1, fun w hw => (ok.all w hw).2.1, fun w hw => (ok.all w hw).2.2, hl⟩ (by rintro rfl; simp at h0) xg own
  refine loopL (σ := Nat × List Tx × Value × Heap) (fun q => [q.2.2.1, I q.1]) (fun q => q.2.2.2) (fun q => q.1 ≤ ns.length ∧ q.2.1.length ≤ 12 ∧ Ok' q.2.1 ∧ EX h q.2.2.2 ∧ OwnS h.length q.2.2.2 9 q.2.2.1 (q.2.1.map S)) (fun q => ns.length - q.1)
    (0, [], sl 9 h.length 0 0, h ++ [.arr 9 []]) rfl rfl ⟨Nat.zero_le _, Nat.zero_le _, ⟨List.nodup_nil, fun w hw => by simp at hw⟩, EX.append _ _, .inr ⟨h.length, Nat.le_refl _, rfl, get_last⟩⟩ ?_
  rintro ⟨i, ls, vo, g⟩ ⟨hi, hl, ok, xg, own⟩ L hL
  simp only at hi hl ok xg own hL ⊢
  have hv' : INS g 58 .u16 v ns := IS.mono xg hv
  have hvl : iLenSl v = some (I ns.length) := IS.len hv'
  rw [q17z6]
  simp only [hvl, OP_some, bin_lss]
  rw [q17z10]
  by_cases h1 : i < ns.length
  · rw [decide_eq_true (show (i : Int) < ns.length by omega)]
    simp only [GdP_tt, own_len9 own, OP_some, bin_lss]
    rw [q17z12]
    by_cases h2 : ls.length < 12
    · obtain ⟨b, o, g1, g2⟩ := INS.at hv' h1
      have hx := hns _ (List.getElem_mem h1)
      obtain ⟨m, hm⟩ : ∃ m : Nat, ns[i] = (m : Int) := ⟨ns[i].toNat, by omega⟩
      rw [hm] at g2 hx
      have cx : iConv .i64 (.int .u16 (m : Int)) = some (I m) := by rw [conv_int, wrap64 (by omega) (by omega)]
      have rm : iBin .rem (I m) (.int .i64 2046) = some (I ((m % 2046 : Nat) : Int)) := rem_nat .i64 m 2046 (by omega)
      have w : IntKind.wrap .i64 (((m % 2046 : Nat) : Int) + 2) = ((m % 2046 + 2 : Nat) : Int) := by rw [wrap64 (by omega) (by omega)]; omega
      rw [decide_eq_true (show (ls.length : Int) < 12 by omega)]
      simp only [iPick_t, OP_some, IfP_true, g1, g2, cx, rm, bin_add, w]
      refine bitsC _ (by omega) (by omega) ?_
      intro s s1 s2 s3
      refine knownC (own_ss own) hl ?_
      rw [q17z37]
      have w3 : IntKind.wrap .i64 ((i : Int) + 1) = ((i + 1 : Nat) : Int) := incM i (by omega)
      simp only [un_not, OP_some, IfP_ndec]
      refine ⟨fun hni => ?_, fun hin => ?_⟩
      · refine app1 own xg (by simp; omega) (by simp [maxLen]; omega) rfl rfl ?_
        intro v' g' x' own'
        rw [q17z39]
        simp only [bin_add, OP_some, w3, true_and]
        refine hL (i + 1, ls ++ [s], v', g') ⟨by show i + 1 ≤ _; omega, by show (ls ++ [s]).length ≤ 12; simp; omega, ⟨List.nodup_append.2 ⟨ok.nd, by simp, fun a ha b hb e => hni (by rw [← List.mem_singleton.1 hb, ← e]; exact ha)⟩, fun w hw => ?_⟩, x', ?_⟩ (by show ns.length - (i + 1) < ns.length - i; omega)
        · rcases List.mem_append.1 hw with hw | hw
          · exact ok.all w hw
          · rw [List.mem_singleton.1 hw]; exact ⟨s1, s2, s3⟩
        · show OwnS h.length g' 9 v' ((ls ++ [s]).map S)
          rw [List.map_append]
          exact own'
      · rw [q17z39]
        simp only [bin_add, OP_some, w3, true_and]
        exact hL (i + 1, ls, vo, g) ⟨by show i + 1 ≤ _; omega, hl, ok, xg, own⟩ (by show ns.length - (i + 1) < ns.length - i; omega)
    · rw [decide_eq_false (show ¬ (ls.length : Int) < 12 by omega)]
      simp only [iPick_t, OP_some, IfP_false]
      exact fin xg own ok hl
  · rw [decide_eq_false (show ¬ (i : Int) < ns.length by omega)]
    simp only [GdP_ft]
    rw [q17z12]
    simp only [iPick_f, OP_some, IfP_false]
    exact fin xg own ok hl

end Go.Proofs.YthplaillblmgfaaDoor


namespace Go.Proofs.YthplaillblmgfaaDoor
open Go.Sim

theorem mk0 (g : Heap) : iMkSl 3 0 [(.int .i64 (0))] g [] = some (sl 3 g.length 0 0, g ++ [.arr 3 []]) := rfl
theorem mk1 (g : Heap) (x : Int) : iMkSl 3 1 [(.int .i64 (0))] g [(0, 1, I x)] = some (sl 3 g.length 0 1, g ++ [.arr 3 [I x]]) := rfl
end Go.Proofs.YthplaillblmgfaaDoor


namespace Go.Proofs.YthplaillblmgfaaDoor
open Go.Sim

theorem C41 {s t : Tx} {h : Heap} {K : Value → Heap → Prop} (hk : K (B (decide (s <+: t))) h) : CallP Tryd.prog 41 [S s, S t] h K := by
  refine f41 ?_
  unfold T41
  simp only [lenS_S, OP_some, bin_leq]
  rw [q41z4]
  by_cases hl : s.length ≤ t.length
  · rw [decide_eq_true (show (s.length : Int) ≤ t.length by omega)]
    simp only [GdP_tt, lenS_S, OP_some, slS_hi (a := t) hl .i64, bin_eqlS]
    rw [q41z6]
    simp only [iPick_t, OP_some]
    have : decide (t.take s.length = s) = decide (s <+: t) := decide_eq_decide.2 (by rw [List.prefix_iff_eq_take]; exact eq_comm)
    rw [this]
    exact hk
  · rw [decide_eq_false (show ¬ (s.length : Int) ≤ t.length by omega)]
    simp only [GdP_ft, OP_some]
    rw [q41z6]
    simp only [iPick_f, OP_some]
    have : decide (s <+: t) = false := decide_eq_false fun h => hl h.length_le
    rw [this] at hk
    exact hk

def NoBeg (W : List Tx) : Prop := ∀ i j (hi : i < W.length) (hj : j < W.length), i ≠ j → ¬ W[i] <+: W[j]
structure Fst (W : List Tx) (i j : Nat) : Prop where
  hi : i < W.length
  hj : j < W.length
  ne : i ≠ j
  pre : W[i] <+: W[j]
  fst : ∀ i' j' (hi' : i' < W.length) (hj' : j' < W.length), i' ≠ j' → W[i'] <+: W[j'] → i < i' ∨ i = i' ∧ j ≤ j'

theorem Fst.no {W : List Tx} {i j : Nat} (a : Fst W i j) (n : NoBeg W) : False := n i j a.hi a.hj a.ne a.pre

theorem mkI2 (g : Heap) (i j : Nat) : iMkSl 3 2 [(.int .i64 (0))] g [(0, 1, I i), (1, 1, I j)] = some (sl 3 g.length 0 2, g ++ [.arr 3 [I i, I j]]) := by
  have va : ∀ n : Int, vcells (I n) = [I n] := fun _ => rfl
  have na : ∀ n : Int, noTuple (I n) = true := fun _ => rfl
  simp [iMkSl, fillL, zrep, setAt, va, na]

theorem own_two {h g : Heap} (x : EX h g) (i j : Nat) : EX h (g ++ [.arr 3 [I i, I j]]) ∧ OwnS h.length (g ++ [.arr 3 [I i, I j]]) 3 (sl 3 g.length 0 2) [I i, I j] :=
  ⟨x.trans (EX.append _ _), .inr ⟨g.length, x.1, rfl, get_last⟩⟩

theorem C22 {v : Value} {W : List Tx} {h : Heap} {K : Value → Heap → Prop} (hv : SS h v W) (hl : W.length ≤ 1000)
    (hno : NoBeg W → K (.slice none 0 0) h) (hyes : ∀ i j, Fst W i j → ∀ u h', EX h h' → OwnS h.length h' 3 u [I i, I j] → K u h') : CallP Tryd.prog 22 [v] h K := by
  refine f22 ?_
  unfold T22
  refine loopL (σ := Nat) (fun i => [I i]) (fun _ => h) (fun i => i ≤ W.length ∧ ∀ i' j' (hi' : i' < W.length) (hj' : j' < W.length), i' < i → i' ≠ j' → ¬ W[i'] <+: W[j']) (fun i => W.length - i) 0 rfl rfl ⟨Nat.zero_le _, fun _ _ _ _ hi => absurd hi (Nat.not_lt_zero _)⟩ ?_
  rintro i ⟨hi, n1⟩ L hL
  rw [q22z5]
  simp only [hv.len, OP_some, bin_lss, IfP_dec]
  refine ⟨fun hlt => ?_, fun hge => hno fun i' j' hi' hj' hne => n1 i' j' hi' hj' (by omega) hne⟩
  have hlt : i < W.length := by omega
  refine loopL (σ := Nat) (fun i => [I i]) (fun _ => h) (fun j => j ≤ W.length ∧ ∀ j' (hj' : j' < W.length), j' < j → i ≠ j' → ¬ W[i] <+: W[j']) (fun j => W.length - j) 0 rfl rfl ⟨Nat.zero_le _, fun _ _ hi => absurd hi (Nat.not_lt_zero _)⟩ ?_
  rintro j ⟨hj, n2⟩ L2 hL2
  rw [q22z12]
  simp only [hv.len, OP_some, bin_lss, IfP_dec]
  refine ⟨fun hlt2 => ?_, fun hge => ?_⟩
  · have hlt2 : j < W.length := by omega
    have next : ¬ (i ≠ j ∧ W[i] <+: W[j]) → L2 [I ((j + 1 : Nat) : Int)] h := fun hc => hL2 (j + 1) ⟨hlt2, fun j' hj' hlt' hne hp => by
      rcases Nat.lt_succ_iff_lt_or_eq.1 hlt' with h' | h'
      · exact n2 j' hj' h' hne hp
      · subst h'; exact hc ⟨hne, hp⟩⟩ (by omega)
    have w := incM j (show j < maxLen by simp [maxLen]; omega)
    simp only [bin_neq, OP_some]
    by_cases hij : i = j
    · rw [decide_eq_true (show (i : Int) = j by omega)]
      simp only [Bool.not_true, GdP_ft, iPick_f, OP_some, IfP_false, bin_add, w, true_and]
      exact next fun hc => hc.1 hij
    · rw [decide_eq_false (show ¬ (i : Int) = j by omega)]
      obtain ⟨b, o, a1, a2⟩ := hv.get i hlt
      obtain ⟨b', o', a3, a4⟩ := hv.get j hlt2
      simp only [Bool.not_false, GdP_tt, a1, a2, a3, a4, OP_some, true_and]
      refine C41 ?_
      simp only [true_and, iPick_t, OP_some, IfP_dec, bin_add, w, mkI2, OH_some]
      refine ⟨fun hp => ?_, fun hp => next fun hc => hp hc.2⟩
      obtain ⟨x, own⟩ := own_two (EX.refl h) i j
      refine hyes i j ⟨hlt, hlt2, hij, hp, fun i' j' hi' hj' hne hp' => ?_⟩ _ _ x own
      rcases Nat.lt_trichotomy i' i with h' | h' | h'
      · exact absurd hp' (n1 i' j' hi' hj' h' hne)
      · subst h'
        refine .inr ⟨rfl, ?_⟩
        apply Classical.byContradiction
        intro hc
        exact n2 j' hj' (by omega) hne hp'
      · exact .inl h'
  · rw [q22z19]
    simp only [bin_add, OP_some, incM i (show i < maxLen by simp [maxLen]; omega), true_and]
    refine hL (i + 1) ⟨hlt, fun i' j' hi' hj' hlt' hne => ?_⟩ (by omega)
    rcases Nat.lt_succ_iff_lt_or_eq.1 hlt' with h' | h'
    · exact n1 i' j' hi' hj' h' hne
    · subst h'; exact n2 j' hj' (by omega) hne

theorem C20 {b : Nat} {v : Value} {W : List Tx} {h : Heap} {K : Value → Heap → Prop} (hv : OwnS b h 9 v (W.map S)) (hl : W.length ≤ 1000) (hw : ∀ w ∈ W, w.length < 4611686018427387904)
    (he : chkE W [] ≠ 0 → ∀ h', EX h h' → K (.tuple #[.slice none 0 0, I (chkE W [])]) h')
    (hno : chkE W [] = 0 → NoBeg W → ∀ h', EX h h' → K (.tuple #[.slice none 0 0, I 5]) h')
    (hyes : chkE W [] = 0 → ∀ i j, Fst W i j → ∀ u h', EX h h' → OwnS h.length h' 3 u [I i, I j] → K (.tuple #[u, I 0]) h') : CallP Tryd.prog 20 [v] h K := by
  refine f20 ?_
  unfold T20
  have nilS : (.string ⟨#[]⟩ : Value) = S [] := rfl
  rw [nilS]
  refine C34 (s := []) hv (by omega) hw (by simp) ?_
  intro g x
  simp only [bin_neq, OP_some, IfP_ndec]
  refine ⟨fun hc => he hc g x, fun hc => ?_⟩
  have hno := hno hc
  have hyes := hyes hc
  have hs := (own_ss hv).mono x
  simp only [hs.len, OP_some]
  refine loopL (σ := Nat) (fun i => [I i]) (fun _ => g) (fun i => i ≤ W.length ∧ ∀ i' j' (hi' : i' < W.length) (hj' : j' < W.length), i' < i → i' ≠ j' → ¬ W[i'] <+: W[j']) (fun i => W.length - i) 0 rfl rfl ⟨Nat.zero_le _, fun _ _ _ _ hi => absurd hi (Nat.not_lt_zero _)⟩ ?_
  rintro i ⟨hi, n1⟩ L hL
  rw [q20z9]
  simp only [bin_lss, OP_some, IfP_dec]
  refine ⟨fun hlt => ?_, fun hge => hno (fun i' j' hi' hj' hne => n1 i' j' hi' hj' (by omega) hne) g x⟩
  have hlt : i < W.length := by omega
  obtain ⟨b1, o1, a1, a2⟩ := hs.get i hlt
  simp only [a1, a2, OP_some, hs.len]
  refine loopL (σ := Nat) (fun i => [I i]) (fun _ => g) (fun j => j ≤ W.length ∧ ∀ j' (hj' : j' < W.length), j' < j → i ≠ j' → ¬ W[i] <+: W[j']) (fun j => W.length - j) 0 rfl rfl ⟨Nat.zero_le _, fun _ _ hi => absurd hi (Nat.not_lt_zero _)⟩ ?_
  rintro j ⟨hj, n2⟩ L2 hL2
  rw [q20z17]
  simp only [OP_some, bin_lss, IfP_dec]
  refine ⟨fun hlt2 => ?_, fun hge => ?_⟩
  · have hlt2 : j < W.length := by omega
    have next : ¬ (i ≠ j ∧ W[i] <+: W[j]) → L2 [I ((j + 1 : Nat) : Int)] g := fun hc => hL2 (j + 1) ⟨hlt2, fun j' hj' hlt' hne hp => by
      rcases Nat.lt_succ_iff_lt_or_eq.1 hlt' with h' | h'
      · exact n2 j' hj' h' hne hp
      · subst h'; exact hc ⟨hne, hp⟩⟩ (by omega)
    have w := incM j (show j < maxLen by simp [maxLen]; omega)
    obtain ⟨b', o', a3, a4⟩ := hs.get j hlt2
    simp only [bin_neq, OP_some, a3, a4]
    rw [q20z25]
    by_cases hij : i = j
    · rw [decide_eq_true (show (i : Int) = j by omega)]
      simp only [Bool.not_true, GdP_ft, q20z27, iPick_f, OP_some, IfP_false, bin_add, w, true_and]
      exact next fun hc => hc.1 hij
    · rw [decide_eq_false (show ¬ (i : Int) = j by omega)]
      simp only [Bool.not_false, GdP_tt]
      refine C37 ?_
      rw [q20z27]
      simp only [true_and, iPick_t, OP_some, IfP_dec, bin_add, w, mkI2, OH_some]
      refine ⟨fun hp => ?_, fun hp => next fun hc => hp hc.2⟩
      obtain ⟨x', own⟩ := own_two x i j
      refine hyes i j ⟨hlt, hlt2, hij, hp, fun i' j' hi' hj' hne hp' => ?_⟩ _ _ x' own
      rcases Nat.lt_trichotomy i' i with h' | h' | h'
      · exact absurd hp' (n1 i' j' hi' hj' h' hne)
      · subst h'
        refine .inr ⟨rfl, ?_⟩
        apply Classical.byContradiction
        intro hc
        exact n2 j' hj' (by omega) hne hp'
      · exact .inl h'
  · rw [q20z29]
    simp only [bin_add, OP_some, incM i (show i < maxLen by simp [maxLen]; omega), true_and]
    refine hL (i + 1) ⟨hlt, fun i' j' hi' hj' hlt' hne => ?_⟩ (by omega)
    rcases Nat.lt_succ_iff_lt_or_eq.1 hlt' with h' | h'
    · exact n1 i' j' hi' hj' h' hne
    · subst h'; exact n2 j' hj' (by omega) hne

/-- The lengths of words. -/
theorem C26 {v : Value} {W : List Tx} {h : Heap} {K : Value → Heap → Prop} (hv : SS h v W) (hl : W.length ≤ 1000) (hk : ∀ u h', EX h h' → OwnS h.length h' 3 u ((W.map List.length).map fun n : Nat => I n) → K u h') : CallP Tryd.prog 26 [v] h K := by
  refine f26 ?_
  unfold T26
  simp only [mk0, OH_some]
  refine loopL (σ := Nat × Value × Heap) (fun q => [q.2.1, I q.1]) (fun q => q.2.2) (fun q => q.1 ≤ W.length ∧ EX h q.2.2 ∧ OwnS h.length q.2.2 3 q.2.1 (((W.take q.1).map List.length).map fun n : Nat => I n)) (fun q => W.length - q.1)
    (0, sl 3 h.length 0 0, h ++ [.arr 3 []]) rfl rfl ⟨Nat.zero_le _, EX.append _ _, .inr ⟨h.length, Nat.le_refl _, rfl, get_last⟩⟩ ?_
  rintro ⟨i, vo, g⟩ ⟨hi, xg, own⟩ L hL
  simp only at hi xg own hL ⊢
  have hs := hv.mono xg
  rw [q26z6]
  simp only [hs.len, OP_some, bin_lss, IfP_dec]
  refine ⟨fun hlt => ?_, fun hge => ?_⟩
  · have hlt : i < W.length := by omega
    obtain ⟨b, o, a1, a2⟩ := hs.get i hlt
    simp only [a1, a2, OP_some, lenS_S]
    refine app1 own xg (by simp; omega) (by simp [maxLen]; omega) rfl rfl ?_
    intro v' g' x' own'
    simp only [bin_add, OP_some, incM i (show i < maxLen by simp [maxLen]; omega), true_and]
    refine hL (i + 1, v', g') ⟨hlt, x', ?_⟩ (by show W.length - (i + 1) < W.length - i; omega)
    show OwnS h.length g' 3 v' (((W.take (i + 1)).map List.length).map fun n : Nat => I n)
    rw [List.take_succ_eq_append_getElem hlt, List.map_append, List.map_append]
    exact own'
  · have : i = W.length := by omega
    subst this
    rw [List.take_length] at own
    rw [q26z11]
    exact hk vo g xg own

theorem C40 {s : Tx} {h : Heap} {K : Value → Heap → Prop} (hl : s.length < 4611686018427387904) (hk : K (B (bitsB s)) h) : CallP Tryd.prog 40 [S s] h K := by
  refine f40 ?_
  unfold T40
  refine loopL (σ := Nat) (fun i => [I i]) (fun _ => h) (fun i => i ≤ s.length ∧ bitsB (s.take i) = true) (fun i => s.length - i) 0 rfl rfl ⟨Nat.zero_le _, rfl⟩ ?_
  rintro i ⟨hi, hb⟩ L hL
  rw [q40z5]
  simp only [lenS_S, OP_some, bin_lss, IfP_dec]
  refine ⟨fun hlt => ?_, fun hge => ?_⟩
  · have hlt : i < s.length := by omega
    have bad : isBit s[i] = false → K (B false) h := fun hc => by
      have : bitsB s = false := by
        rw [bitsB, List.all_eq_false]
        exact ⟨s[i], List.getElem_mem hlt, by simp [hc]⟩
      rwa [this] at hk
    have next : isBit s[i] = true → L [I ((i + 1 : Nat) : Int)] h := fun hc => hL (i + 1) ⟨hlt, by
      rw [List.take_succ_eq_append_getElem hlt]
      exact bits_app hb (by simp [bitsB, hc])⟩ (by omega)
    have w := incM i (show i < maxLen by simp [maxLen]; omega)
    have c48 : iBin .neq (cv s[i]) (.int .u8 (48)) = some (B (!decide (s[i] = 48))) := by
      have := bin_neq (k := .u8) (a := (s[i].toNat : Int)) (b := ((48 : UInt8).toNat : Int))
      rw [decide_eq_decide.2 (cv_inj s[i] 48)] at this
      exact this
    have c49 : iBin .neq (cv s[i]) (.int .u8 (49)) = some (B (!decide (s[i] = 49))) := by
      have := bin_neq (k := .u8) (a := (s[i].toNat : Int)) (b := ((49 : UInt8).toNat : Int))
      rw [decide_eq_decide.2 (cv_inj s[i] 49)] at this
      exact this
    simp only [idxS_S (a := s) hlt .i64, OP_some, c48]
    rw [q40z12]
    by_cases e1 : s[i] = 48
    · simp only [decide_eq_true e1, Bool.not_true, GdP_ft, q40z14, iPick_f, OP_some, IfP_false, bin_add, w, true_and]
      exact next (by rw [e1]; rfl)
    · simp only [decide_eq_false e1, Bool.not_false, GdP_tt, idxS_S (a := s) hlt .i64, OP_some, c49, q40z14, iPick_t, IfP_ndec, bin_add, w, true_and]
      refine ⟨fun e2 => bad ?_, fun e2 => next (by rw [e2]; rfl)⟩
      simp [isBit, e1, e2]
  · have : i = s.length := by omega
    subst this
    rw [List.take_length] at hb
    rwa [hb] at hk

/-- Why words are no code, by the reference. -/
theorem C21 {v : Value} {W : List Tx} {h : Heap} {K : Value → Heap → Prop} (hv : SS h v W) (hl : W.length ≤ 1000) (hw : ∀ w ∈ W, w.length < 4611686018427387904) (hk : K (I (chkE W [])) h) : CallP Tryd.prog 21 [v] h K := by
  refine f21 ?_
  unfold T21
  simp only [hv.len, OP_some, bin_gtr, IfP_dec]
  have b0 : bitsB [] = true := rfl
  refine ⟨fun h1 => ?_, fun h1 => ?_⟩
  · rw [chkE, if_pos (.inl (by omega))] at hk
    exact hk
  rw [chkE, if_neg (by simp; omega)] at hk
  have bad : ¬ codeOk W → K (I 2) h := fun hc => by
    split at hk
    · exact hk
    · first | exact hk | rwa [if_neg hc] at hk
  refine loopL (σ := Nat) (fun i => [I i]) (fun _ => h) (fun i => i ≤ W.length ∧ ∀ j (hj : j < W.length), j < i → (W[j] ≠ [] ∧ W[j].length ≤ 10 ∧ bitsB W[j] = true) ∧ W[j] ∉ W.take j) (fun i => W.length - i) 0 rfl rfl ⟨Nat.zero_le _, fun _ _ hi => absurd hi (Nat.not_lt_zero _)⟩ ?_
  rintro i ⟨hi, hok⟩ L hL
  rw [q21z8]
  simp only [hv.len, OP_some, bin_lss, IfP_dec]
  refine ⟨fun hlt => ?_, fun hge => ?_⟩
  · have hlt : i < W.length := by omega
    obtain ⟨b, o, a1, a2⟩ := hv.get i hlt
    have mem : W[i] ∈ W := List.getElem_mem hlt
    simp only [a1, a2, OP_some, lenS_S]
    refine C28 ?_
    simp only [un_not, OP_some]
    rw [q21z16]
    by_cases h2 : (1 ≤ W[i].length ∧ W[i].length ≤ 10)
    · rw [decide_eq_true (show (1 : Int) ≤ W[i].length by omega), decide_eq_true (show (W[i].length : Int) ≤ 10 by omega)]
      simp only [Bool.and_true, Bool.not_true, GdP_ff, a1, a2, OP_some]
      refine C40 (hw _ mem) ?_
      simp only [un_not, OP_some]
      rw [q21z18]
      simp only [iPick_f, OP_some]
      cases hb : bitsB W[i] with
      | false =>
        simp only [Bool.not_false, IfP_true]
        exact bad fun hc => by rw [(hc.2 _ mem).2.2] at hb; cases hb
      | true =>
        simp only [Bool.not_true, IfP_false]
        refine loopL (σ := Nat) (fun i => [I i]) (fun _ => h) (fun k => k ≤ i ∧ W[i] ∉ W.take k) (fun k => i - k) 0 rfl rfl ⟨Nat.zero_le _, by simp⟩ ?_
        rintro k ⟨hki, hni⟩ L2 hL2
        rw [q21z22]
        simp only [bin_lss, OP_some, IfP_dec]
        refine ⟨fun hlt2 => ?_, fun hge => ?_⟩
        · have hk2 : k < i := by omega
          obtain ⟨b', o', a3, a4⟩ := hv.get k (by omega)
          simp only [a1, a2, a3, a4, OP_some, true_and, bin_eqlS, IfP_dec, bin_add, incM k (show k < maxLen by simp [maxLen]; omega)]
          refine ⟨fun he => bad fun hc => ?_, fun hne => hL2 (k + 1) ⟨hk2, fun hm => ?_⟩ (by omega)⟩
          · exact (List.pairwise_iff_getElem.1 hc.1) k i (by omega) hlt hk2 he.symm
          · rw [List.take_succ_eq_append_getElem (by omega : k < W.length), List.mem_append, List.mem_singleton] at hm
            exact hm.elim hni hne
        · rw [q21z29]
          simp only [bin_add, OP_some, incM i (show i < maxLen by simp [maxLen]; omega), true_and]
          refine hL (i + 1) ⟨hlt, fun j hj hji => ?_⟩ (by omega)
          rcases Nat.lt_succ_iff_lt_or_eq.1 hji with h' | h'
          · exact hok j hj h'
          · subst h'
            have : k = j := by omega
            subst this
            exact ⟨⟨by intro e; rw [e] at h2; simp at h2, h2.2, hb⟩, hni⟩
    · have e : (decide ((1 : Int) ≤ W[i].length) && decide ((W[i].length : Int) ≤ 10)) = false := by
        rw [Bool.and_eq_false_iff, decide_eq_false_iff_not, decide_eq_false_iff_not]; omega
      rw [e]
      simp only [Bool.not_false, GdP_tf, q21z18, iPick_t, OP_some, IfP_true]
      refine bad fun hc => h2 ⟨?_, (hc.2 _ mem).2.1⟩
      have := List.length_pos_iff.2 (hc.2 _ mem).1
      omega
  · have ok : codeOk W := ⟨List.pairwise_iff_getElem.2 fun a b ha hb hab e => (hok b hb (by omega)).2 (e ▸ List.mem_take_iff_getElem.2 ⟨a, by omega, rfl⟩), fun w hw => by
      obtain ⟨j, hj, rfl⟩ := List.getElem_of_mem hw
      exact (hok j hj (by omega)).1⟩
    rw [q21z30]
    simp only [hv.len, OP_some, bin_eql, IfP_dec]
    refine ⟨fun h0 => ?_, fun h0 => ?_⟩
    · rw [if_pos (.inl (List.length_eq_zero_iff.1 (by omega)))] at hk
      exact hk
    · rw [if_neg, if_pos ok] at hk
      · exact hk
      · rintro (e | e)
        · rw [e] at h0; simp at h0
        · rw [b0] at e; cases e

end Go.Proofs.YthplaillblmgfaaDoor


namespace Go.Proofs.YthplaillblmgfaaDoor
open Go.Sim

theorem rmN_pow {l : Nat} (h : l ≤ 10) : rmN l = 2 ^ (10 - l) := by
  have : l = 0 ∨ l = 1 ∨ l = 2 ∨ l = 3 ∨ l = 4 ∨ l = 5 ∨ l = 6 ∨ l = 7 ∨ l = 8 ∨ l = 9 ∨ l = 10 := by omega
  rcases this with rfl | rfl | rfl | rfl | rfl | rfl | rfl | rfl | rfl | rfl | rfl <;> rfl

/-- Where the texts of `N` letters begin that a word begins. -/
def plc (N : Nat) (w : Tx) : Nat := vl 0 w * 2 ^ (N - w.length)

theorem vl_add : ∀ (t : Tx) (n : Nat), vl n t = n * 2 ^ t.length + vl 0 t
  | [], n => by simp [vl]
  | c :: t, n => by
    have h1 : vl n (c :: t) = vl (2 * n + (if c = 49 then 1 else 0)) t := rfl
    have h2 : vl 0 (c :: t) = vl (2 * 0 + (if c = 49 then 1 else 0)) t := rfl
    rw [h1, h2, vl_add t, vl_add t (2 * 0 + _), List.length_cons, Nat.pow_succ, Nat.add_mul, Nat.mul_comm (2 ^ t.length) 2, ← Nat.mul_assoc, Nat.mul_comm n 2]
    simp only [Nat.mul_zero, Nat.zero_add]
    omega

theorem plc_cons {N : Nat} {c : UInt8} {w : Tx} (h : w.length ≤ N) : plc (N + 1) (c :: w) = (if c = 49 then 2 ^ N else 0) + plc N w := by
  have h2 : vl 0 (c :: w) = vl (2 * 0 + (if c = 49 then 1 else 0)) w := rfl
  unfold plc
  rw [h2, vl_add, List.length_cons, Nat.add_sub_add_right, Nat.add_mul, Nat.mul_assoc, ← Nat.pow_add, Nat.add_sub_of_le h]
  split <;> simp

theorem plc_lt {N : Nat} {w : Tx} (h : w.length ≤ N) : plc N w + 2 ^ (N - w.length) ≤ 2 ^ N := by
  have := (vl_bounds w 0).2
  have e : 2 ^ N = 2 ^ w.length * 2 ^ (N - w.length) := by rw [← Nat.pow_add, Nat.add_sub_of_le h]
  unfold plc
  rw [e, ← Nat.succ_mul]
  exact Nat.mul_le_mul_right _ (by omega)

theorem ord_A : ∀ {N : Nat} {v w : Tx}, v.length ≤ N → w.length ≤ N → bitsB v = true → bitsB w = true → Op.bytesLess v w = true → ¬ v <+: w → plc N v + 2 ^ (N - v.length) ≤ plc N w
  | _, [], _, _, _, _, _, _, hp => absurd (List.nil_prefix) hp
  | _, _ :: _, [], _, _, _, _, h, _ => by simp [Op.bytesLess] at h
  | 0, _ :: _, _, h, _, _, _, _, _ => by simp at h
  | N + 1, c :: v, d :: w, hv, hw, bv, bw, h, hp => by
    simp only [List.length_cons, Nat.add_le_add_iff_right] at hv hw
    simp only [bitsB, List.all_cons, Bool.and_eq_true] at bv bw
    rw [plc_cons hv, plc_cons hw, List.length_cons, Nat.add_sub_add_right]
    simp only [Op.bytesLess, Bool.or_eq_true, Bool.and_eq_true, decide_eq_true_eq, beq_iff_eq] at h
    have h1 := plc_lt hv
    rcases h with h | ⟨rfl, h⟩
    · have e1 : c = 48 := by rcases isBit_or bv.1 with rfl | rfl <;> rcases isBit_or bw.1 with rfl | rfl <;> simp_all
      have e2 : d = 49 := by rcases isBit_or bv.1 with rfl | rfl <;> rcases isBit_or bw.1 with rfl | rfl <;> simp_all
      rw [if_neg (by rw [e1]; decide), if_pos e2]
      omega
    · have := ord_A hv hw bv.2 bw.2 h fun hq => hp (List.cons_prefix_cons.2 ⟨rfl, hq⟩)
      omega

theorem ord_B : ∀ {N : Nat} {v w : Tx}, v.length ≤ N → w.length ≤ N → bitsB v = true → bitsB w = true → plc N v + 2 ^ (N - v.length) ≤ plc N w → Op.bytesLess v w = true ∧ ¬ v <+: w ∧ ¬ w <+: v
  | N, [], w, _, hw, _, _, h => by
    have := plc_lt hw
    have e : plc N [] = 0 := by simp [plc, vl]
    have := Nat.pow_pos (n := N - w.length) (show 0 < 2 by omega)
    rw [e] at h
    simp only [List.length_nil, Nat.sub_zero] at h
    omega
  | N, c :: v, [], _, _, _, _, h => by
    have e : plc N [] = 0 := by simp [plc, vl]
    have := Nat.pow_pos (n := N - (c :: v).length) (show 0 < 2 by omega)
    omega
  | 0, _ :: _, _, h, _, _, _, _ => by simp at h
  | N + 1, c :: v, d :: w, hv, hw, bv, bw, h => by
    simp only [List.length_cons, Nat.add_le_add_iff_right] at hv hw
    simp only [bitsB, List.all_cons, Bool.and_eq_true] at bv bw
    rw [plc_cons hv, plc_cons hw, List.length_cons, Nat.add_sub_add_right] at h
    have h1 := plc_lt hv
    have h2 := plc_lt hw
    have h3 := Nat.pow_pos (n := N - v.length) (show 0 < 2 by omega)
    have h4 := Nat.pow_pos (n := N - w.length) (show 0 < 2 by omega)
    simp only [Op.bytesLess, Bool.or_eq_true, Bool.and_eq_true, decide_eq_true_eq, beq_iff_eq, List.cons_prefix_cons]
    rcases isBit_or bv.1 with rfl | rfl <;> rcases isBit_or bw.1 with rfl | rfl
    · rw [if_neg (by decide)] at h
      obtain ⟨a, b, c⟩ := ord_B hv hw bv.2 bw.2 (by omega)
      exact ⟨.inr ⟨rfl, a⟩, fun q => b q.2, fun q => c q.2⟩
    · exact ⟨.inl (by decide), fun q => absurd q.1 (by decide), fun q => absurd q.1 (by decide)⟩
    · rw [if_pos rfl, if_neg (by decide)] at h
      omega
    · rw [if_pos rfl] at h
      obtain ⟨a, b, c⟩ := ord_B hv hw bv.2 bw.2 (by omega)
      exact ⟨.inr ⟨rfl, a⟩, fun q => b q.2, fun q => c q.2⟩

theorem vl_snoc (n : Nat) (t : Tx) (c : UInt8) : vl n (t ++ [c]) = 2 * vl n t + (if c = 49 then 1 else 0) := by simp [vl, List.foldl_append]

theorem vl_wrd {a : Nat} (ha : a < 1024) : ∀ l, l ≤ 10 → vl 0 (wrd a l) = a / 2 ^ (10 - l)
  | 0, _ => by simp [wrd, vl]; omega
  | l + 1, h => by
    have e : wrd a (l + 1) = wrd a l ++ [if a.testBit (9 - l) then 49 else 48] := by simp [wrd, List.range_succ]
    rw [e, vl_snoc, vl_wrd ha l (by omega), Nat.testBit_eq_decide_div_mod_eq, show 10 - (l + 1) = 9 - l by omega, show 10 - l = (9 - l) + 1 by omega, Nat.pow_succ, ← Nat.div_div_eq_div_mul]
    have : a / 2 ^ (9 - l) % 2 = 0 ∨ a / 2 ^ (9 - l) % 2 = 1 := by omega
    rcases this with h | h <;> rw [h] <;> simp <;> omega

theorem wrd_bits (a l : Nat) : bitsB (wrd a l) = true := by
  simp only [bitsB, wrd, List.all_map, List.all_eq_true, Function.comp_apply]
  intro i _
  split <;> rfl

theorem plc_wrd {k l : Nat} (h : l ≤ 10) (ha : k * rmN l < 1024) : plc 10 (wrd (k * rmN l) l) = k * rmN l := by
  unfold plc
  rw [vl_wrd ha l h, wrd_len, rmN_pow h]
  rw [Nat.mul_div_cancel _ (Nat.pow_pos (by omega))]

/-- Each word ahead of the next. -/
def Ahead (v w : Tx) : Prop := plc 10 v + 2 ^ (10 - v.length) ≤ plc 10 w

theorem risL_words : ∀ {ls : List Nat} {a : Nat} {ws : List Tx}, lenOk ls → risL a ls = some ws → (∀ w ∈ ws, bitsB w = true ∧ a ≤ plc 10 w) ∧ ws.map List.length = ls ∧ ws.Pairwise Ahead
  | [], a, ws, _, h => by
    simp [risL] at h
    subst h
    exact ⟨fun w hw => by simp at hw, rfl, .nil⟩
  | l :: ls, a, ws, hok, h => by
    simp only [risL] at h
    split at h
    · rename_i hf
      simp only [Option.map_eq_some_iff] at h
      obtain ⟨r, hr, rfl⟩ := h
      have h1 := hok l (by simp)
      have bd := fitN_bd (a := a) h1.1 h1.2
      have rp := rmN_range h1.1 h1.2
      obtain ⟨i1, i2, i3⟩ := risL_words (fun x hx => hok x (by simp [hx])) hr
      have pw : plc 10 (wrd (fitN a l) l) = fitN a l := plc_wrd h1.2 (by have := rp.1; show fitN a l < 1024; omega)
      refine ⟨fun w hw => ?_, by simp [wrd_len, i2], List.pairwise_cons.2 ⟨fun w hw => ?_, i3⟩⟩
      · rcases List.mem_cons.1 hw with rfl | hw
        · exact ⟨wrd_bits _ _, by rw [pw]; exact bd.1⟩
        · have := i1 w hw
          exact ⟨this.1, by omega⟩
      · have := (i1 w hw).2
        unfold Ahead
        rw [pw, wrd_len, ← rmN_pow h1.2]
        exact this
    · cases h

theorem risL_fits : ∀ {W : List Tx} {a : Nat}, (∀ w ∈ W, w.length ≤ 10 ∧ 1 ≤ w.length ∧ bitsB w = true ∧ a ≤ plc 10 w) → W.Pairwise Ahead → (risL a (W.map List.length)).isSome = true
  | [], _, _, _ => rfl
  | w :: W, a, h, hp => by
    obtain ⟨l1, l2, _, l4⟩ := h w List.mem_cons_self
    have bd := fitN_bd (a := a) l2 l1
    have rp := rmN_range l2 l1
    have lt := plc_lt l1
    rw [← rmN_pow l1] at lt
    have fit : fitN a w.length ≤ plc 10 w := by
      have e : plc 10 w = vl 0 w * rmN w.length := by rw [plc, rmN_pow l1]
      have : fitN a w.length < (vl 0 w + 1) * rmN w.length := by rw [Nat.succ_mul, ← e]; omega
      rw [e]
      unfold fitN at this ⊢
      exact Nat.mul_le_mul_right _ (by have := Nat.lt_of_mul_lt_mul_right this; omega)
    rw [List.map_cons, risL, if_pos (by have : (2 : Nat) ^ 10 = 1024 := rfl; omega), Option.isSome_map]
    obtain ⟨p1, p2⟩ := List.pairwise_cons.1 hp
    refine risL_fits (fun v hv => ?_) p2
    obtain ⟨m1, m2, m3, _⟩ := h v (List.mem_cons_of_mem _ hv)
    refine ⟨m1, m2, m3, ?_⟩
    have := p1 v hv
    unfold Ahead at this
    rw [← rmN_pow l1] at this
    omega

/-- A list that rises from each to the next is ahead throughout. -/
theorem ahead_of {W : List Tx} (ok : Ok W) (nb : NoBeg W) (hr : ∀ i (hi : i < W.length), 0 < i → Op.bytesLess W[i - 1] W[i] = true) : W.Pairwise Ahead := by
  have step : ∀ i (hi : i + 1 < W.length), Ahead (W[i]'(by omega)) W[i + 1] := fun i hi => by
    have m1 : W[i]'(by omega) ∈ W := List.getElem_mem _
    have m2 : W[i + 1] ∈ W := List.getElem_mem _
    exact ord_A (ok.le _ m1) (ok.le _ m2) (ok.bt _ m1) (ok.bt _ m2) (hr (i + 1) hi (by omega)) (nb i (i + 1) (by omega) hi (by omega))
  have far : ∀ d i (hi : i + 1 + d < W.length), Ahead (W[i]'(by omega)) (W[i + 1 + d]'hi) := by
    intro d
    induction d with
    | zero => intro i hi; exact step i hi
    | succ d ih =>
      intro i hi
      have h1 := ih i (by omega)
      have h2 := step (i + 1 + d) (by omega)
      have hp := Nat.pow_pos (n := 10 - (W[i + 1 + d]'(by omega)).length) (show 0 < 2 by omega)
      unfold Ahead at *
      have : (W[i + 1 + (d + 1)]'hi) = W[i + 1 + d + 1]'(by omega) := rfl
      rw [this]
      omega
  refine List.pairwise_iff_getElem.2 fun i j hi hj hij => ?_
  have := far (j - i - 1) i (by omega)
  have e : i + 1 + (j - i - 1) = j := by omega
  simpa only [e] using this

/-- What the words of a code that rises are. -/
theorem rises {ls : List Nat} {ws : List Tx} (hok : lenOk ls) (hl : ls.length ≤ 12) (h : risL 0 ls = some ws) : Ok ws ∧ NoBeg ws ∧ ws.map List.length = ls ∧ ∀ i (hi : i < ws.length), 0 < i → Op.bytesLess ws[i - 1] ws[i] = true := by
  obtain ⟨h1, h2, h3⟩ := risL_words hok h
  have len : ∀ w ∈ ws, 1 ≤ w.length ∧ w.length ≤ 10 := fun w hw => hok _ (by rw [← h2]; exact List.mem_map.2 ⟨w, hw, rfl⟩)
  have ord : ∀ i j (hi : i < ws.length) (hj : j < ws.length), i < j → Op.bytesLess ws[i] ws[j] = true ∧ ¬ ws[i] <+: ws[j] ∧ ¬ ws[j] <+: ws[i] := fun i j hi hj hij =>
    ord_B (len _ (List.getElem_mem hi)).2 (len _ (List.getElem_mem hj)).2 (h1 _ (List.getElem_mem hi)).1 (h1 _ (List.getElem_mem hj)).1 (List.pairwise_iff_getElem.1 h3 i j hi hj hij)
  refine ⟨⟨List.pairwise_iff_getElem.2 fun i j hi hj hij e => (ord i j hi hj hij).2.1 (e ▸ List.prefix_rfl), fun w hw e => by have := (len w hw).1; rw [e] at this; simp at this, fun w hw => (len w hw).2, fun w hw => (h1 w hw).1, ?_⟩, fun i j hi hj hne => ?_, h2, fun i hi h0 => (ord (i - 1) i (by omega) hi (by omega)).1⟩
  · have := congrArg List.length h2
    rw [List.length_map] at this
    omega
  · rcases Nat.lt_or_gt_of_ne hne with h' | h'
    · exact (ord i j hi hj h').2.1
    · exact (ord j i hj hi h').2.2

end Go.Proofs.YthplaillblmgfaaDoor


namespace Go.Proofs.YthplaillblmgfaaDoor
open Go.Sim

def Rows' (W : List Tx) (x : List Tx) : Prop := ∀ w ∈ x, w ∈ W
def Amb (W : List Tx) (s : Tx) : Prop := ∃ x y, Rows' W x ∧ Rows' W y ∧ x ≠ y ∧ x.flatten = s ∧ y.flatten = s

theorem Rows'.snoc {W x : List Tx} (h : Rows' W x) {w : Tx} (hw : w ∈ W) : Rows' W (x ++ [w]) := fun v hv => by
  rcases List.mem_append.1 hv with hv | hv
  · exact h v hv
  · rw [List.mem_singleton.1 hv]; exact hw

theorem Rc.two {W : List Tx} {a t : Tx} (r : Rc W a t) : ∃ v w x y, v ≠ w ∧ Rows' W (v :: x) ∧ Rows' W (w :: y) ∧ (v :: x).flatten = t ∧ (w :: y).flatten ++ a = t := by
  induction r with
  | @init v w hv hw hne hp =>
    obtain ⟨r, rfl⟩ := hp
    exact ⟨_, v, [], [], Ne.symm hne, fun u hu => by rw [List.mem_singleton.1 hu]; exact hw, fun u hu => by rw [List.mem_singleton.1 hu]; exact hv, by simp, by simp⟩
  | @fwd a t u _ _ hu hp ih =>
    obtain ⟨v, w, x, y, hne, h1, h2, e1, e2⟩ := ih
    obtain ⟨r, rfl⟩ := hp
    refine ⟨w, v, y ++ [a ++ r], x, Ne.symm hne, h2.snoc hu, h1, ?_, ?_⟩
    · rw [← e2]; simp
    · rw [e1]
  | @bwd a t u _ _ hu hp ih =>
    obtain ⟨v, w, x, y, hne, h1, h2, e1, e2⟩ := ih
    obtain ⟨r, rfl⟩ := hp
    refine ⟨v, w, x, y ++ [u], hne, h1, h2.snoc hu, e1, ?_⟩
    rw [← e2]; simp

theorem Rows'.tail {W x : List Tx} {v : Tx} (h : Rows' W (v :: x)) : Rows' W x := fun w hw => h w (List.mem_cons_of_mem _ hw)

theorem run {W : List Tx} : ∀ (n : Nat) {a t : Tx} {x y : List Tx}, x.length + y.length ≤ n → Rc W a t → a ≠ [] → Rows' W x → Rows' W y → a ++ x.flatten = y.flatten → ∃ t', Rc W [] t' ∧ t' <+: t ++ x.flatten := by
  intro n
  induction n with
  | zero =>
    intro a t x y hn r ha hx hy e
    have : y = [] := List.length_eq_zero_iff.1 (by omega)
    subst this
    simp at e
    exact absurd e.1 ha
  | succ n ih =>
    intro a t x y hn r ha hx hy e
    cases y with
    | nil => simp at e; exact absurd e.1 ha
    | cons w y =>
      have hw := hy w List.mem_cons_self
      rw [List.flatten_cons] at e
      simp only [List.length_cons] at hn
      rcases List.prefix_or_prefix_of_prefix (show a <+: a ++ x.flatten from List.prefix_append _ _) (show w <+: a ++ x.flatten from e ▸ List.prefix_append _ _) with hp | hp
      · have r' := Rc.fwd r ha hw hp
        obtain ⟨q, rfl⟩ := hp
        rw [List.drop_left] at r'
        rw [List.append_assoc] at e
        have e' := List.append_cancel_left e
        by_cases hq : q = []
        · subst hq
          exact ⟨_, r', by simp⟩
        · obtain ⟨t', h1, h2⟩ := ih (by omega) r' hq hy.tail hx e'.symm
          refine ⟨t', h1, ?_⟩
          rw [e']
          simpa using h2
      · have r' := Rc.bwd r ha hw hp
        obtain ⟨q, rfl⟩ := hp
        rw [List.drop_left] at r'
        rw [List.append_assoc] at e
        have e' := List.append_cancel_left e
        by_cases hq : q = []
        · subst hq
          exact ⟨_, r', List.prefix_append _ _⟩
        · exact ih (by omega) r' hq hx hy.tail e'

theorem start {W : List Tx} {v w : Tx} {x y : List Tx} (hne : v ≠ w) (hx : Rows' W (v :: x)) (hy : Rows' W (w :: y)) (e : (v :: x).flatten = (w :: y).flatten) : ∃ t', Rc W [] t' ∧ t' <+: (v :: x).flatten := by
  have key : ∀ {v w : Tx} {x y : List Tx}, v ≠ w → Rows' W (v :: x) → Rows' W (w :: y) → v ++ x.flatten = w ++ y.flatten → v <+: w → ∃ t', Rc W [] t' ∧ t' <+: w ++ y.flatten := by
    intro v w x y hne hx hy e hp
    have r := Rc.init (hx v List.mem_cons_self) (hy w List.mem_cons_self) hne hp
    obtain ⟨q, rfl⟩ := hp
    rw [List.drop_left] at r
    rw [List.append_assoc] at e
    have e' := List.append_cancel_left e
    exact run _ (Nat.le_refl _) r (by rintro rfl; simp at hne) hy.tail hx.tail e'.symm
  rw [List.flatten_cons, List.flatten_cons] at e
  rw [List.flatten_cons]
  rcases List.prefix_or_prefix_of_prefix (show v <+: v ++ x.flatten from List.prefix_append _ _) (show w <+: v ++ x.flatten from e ▸ List.prefix_append _ _) with hp | hp
  · rw [e]; exact key hne hx hy e hp
  · exact key (Ne.symm hne) hy hx e.symm hp

theorem Amb.rc {W : List Tx} (hn : ∀ w ∈ W, w ≠ []) {s : Tx} : Amb W s → ∃ t, Rc W [] t ∧ t.length ≤ s.length := by
  rintro ⟨x, y, hx, hy, hne, e1, e2⟩
  induction x generalizing y s with
  | nil =>
    cases y with
    | nil => exact absurd rfl hne
    | cons w y =>
      subst e1
      have := hn w (hy w List.mem_cons_self)
      simp at e2
      exact absurd e2.1 this
  | cons v x ih =>
    cases y with
    | nil =>
      subst e2
      have := hn v (hx v List.mem_cons_self)
      simp at e1
      exact absurd e1.1 this
    | cons w y =>
      by_cases hvw : v = w
      · subst hvw
        rw [List.flatten_cons] at e1 e2
        have e : x.flatten = y.flatten := List.append_cancel_left (e1.trans e2.symm)
        obtain ⟨t, h1, h2⟩ := ih y hx.tail hy.tail (fun h => hne (by rw [h])) rfl e.symm
        exact ⟨t, h1, by rw [← e1, List.length_append]; omega⟩
      · obtain ⟨t, h1, h2⟩ := start hvw hx hy (e1.trans e2.symm)
        exact ⟨t, h1, by rw [← e1]; exact h2.length_le⟩

theorem chk0 {W : List Tx} (ok : Ok W) (h0 : W ≠ []) : chkE W [] = 0 := by
  have := ok.few
  unfold chkE
  rw [if_neg (by simp; omega), if_neg (by simp [h0, bitsB]), if_pos ⟨ok.nd, fun w hw => ⟨ok.ne w hw, ok.le w hw, ok.bt w hw⟩⟩]

end Go.Proofs.YthplaillblmgfaaDoor


namespace Go.Proofs.YthplaillblmgfaaDoor
open Go.Sim

theorem ok_len {W : List Tx} (ok : Ok W) : W.length < 1000000 ∧ ∀ w ∈ W, w.length < 4611686018427387904 := ⟨by have := ok.few; omega, fun w hw => by have := ok.le w hw; omega⟩

/-- Clear of a code. -/
theorem clearC {b : Nat} {v : Value} {W : List Tx} {h : Heap} {K : Value → Heap → Prop} (ok : Ok W) (h0 : W ≠ []) (hv : OwnS b h 9 v (W.map S))
    (hno : (∀ t, ¬ Rc W [] t) → ∀ h', EX h h' → K (.tuple #[S [], I 5]) h')
    (hyes : ∀ t, Rc W [] t → (∀ t', Rc W [] t' → rk t ≤ rk t') → ∀ h', EX h h' → K (.tuple #[S t, I 0]) h') : CallP Tryd.prog 18 [v] h K :=
  C18 hv (ok_len ok).1 (ok_len ok).2 (fun hc => absurd (chk0 ok h0) hc) (fun _ => hno) fun _ => hyes

theorem ins_le {ρ : RMap} {h : Heap} {e : TypeId} {k : IntKind} {v' v : Value} {ns : List Int} (q : INS h e k v' ns) (r : VRel ρ v' v) : ns.length ≤ maxLen := by
  rcases q.2 with ⟨_, h0⟩ | ⟨i, rfl, _⟩
  · rw [h0]; simp
  · obtain ⟨_, _, _, _, _, _, _, h4, h5, _⟩ := slice_inv r
    omega

end Go.Proofs.YthplaillblmgfaaDoor

