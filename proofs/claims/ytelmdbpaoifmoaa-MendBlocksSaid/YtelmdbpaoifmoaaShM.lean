/-
  Ideal code of the functions that the proof reaches, written by program; the kernel holds it against the code.
-/
import Derived.Test.YtelmdbpaoifmoaaProg
import Derived.Test.YtelmdbpaoifmoaaMgd
import Derived.KernelRfl
namespace Go.Proofs.Ytelmdbpaoifmoaa
open Go.Sim
/-! F10: pommel/pommellaw06.made -/
noncomputable def c10z12 : ICode := .ops none [⟨(some 26), .p (.pick (.tmp 22) (.tmp 25) (.const (.bool false)))⟩]
noncomputable def c10z10 : ICode := .seq (.ops (some (22, true)) [⟨(some 23), .p (.mv (.tmp 12))⟩,
    ⟨(some 24), .p (.mv (.tmp 2))⟩,
    ⟨(some 25), .p (.bin .lss (.tmp 23) (.tmp 24))⟩])
 (.cut [0, 1, 2, 3, 10, 11, 12, 22, 25] c10z12)
noncomputable def c10z8 : ICode := .cond (.tmp 26) (.skip)
 (.exit 0)
noncomputable def c10z7 : ICode := .seq (.block 1 (.dops [(none, [⟨(some 29), .p (.mv (.tmp 10)), 0⟩,
     ⟨(some 30), .p (.mv (.tmp 0)), 0⟩,
     ⟨(some 31), .p (.mv (.tmp 12)), 0⟩,
     ⟨(some 32), .p (.adrSl 2 (.tmp 30) (.tmp 31)), 6⟩,
     ⟨(some 33), .p (.adrArr 2 1 (.tmp 32) (.const (.int .i64 (0)))), 14⟩,
     ⟨(some 34), .l (.load false 1 (.tmp 33)), 30⟩,
     ⟨(some 35), .p (.conv .i64 (.tmp 34)), 62⟩,
     ⟨(some 36), .p (.bin .rem (.tmp 35) (.const (.int .i64 (50)))), 126⟩,
     ⟨(some 37), .p (.bin .add (.tmp 36) (.const (.int .i64 (1)))), 254⟩,
     ⟨(some 38), .p (.mv (.tmp 0)), 0⟩,
     ⟨(some 39), .p (.mv (.tmp 12)), 0⟩,
     ⟨(some 40), .p (.adrSl 2 (.tmp 38) (.tmp 39)), 1536⟩,
     ⟨(some 41), .p (.adrArr 2 1 (.tmp 40) (.const (.int .i64 (1)))), 3584⟩,
     ⟨(some 42), .l (.load false 1 (.tmp 41)), 7680⟩,
     ⟨(some 43), .p (.conv .i64 (.tmp 42)), 15872⟩,
     ⟨(some 44), .p (.mv (.tmp 3)), 0⟩,
     ⟨(some 45), .p (.bin .sub (.const (.int .i64 (51))) (.tmp 44)), 32768⟩,
     ⟨(some 46), .p (.bin .rem (.tmp 43) (.tmp 45)), 130560⟩,
     ⟨(some 47), .p (.mv (.tmp 3)), 0⟩,
     ⟨(some 48), .p (.bin .add (.tmp 46) (.tmp 47)), 523776⟩,
     ⟨(some 49), .p (.build [(.int .i64 (0)), (.int .i64 (0))] [(0, 1, (.tmp 37)), (1, 1, (.tmp 48))]), 1048574⟩,
     ⟨(some 50), .e (.mkSl 35 1 [(.int .i64 (0)), (.int .i64 (0))] [(0, 2, (.tmp 49))]), 2097150⟩,
     ⟨(some 51), .e (.app 35 2 16 (.tmp 29) (.tmp 50)), 4194303⟩,
     ⟨(some 10), .p (.mv (.tmp 51)), 8388607⟩])]))
 (.ops none [⟨(some 27), .p (.mv (.tmp 12))⟩,
   ⟨(some 28), .p (.bin .add (.tmp 27) (.const (.int .i64 (1))))⟩,
   ⟨(some 12), .p (.mv (.tmp 28))⟩])
noncomputable def c10z6 : ICode := .seq (.seq (.seq (.ops none [⟨(some 18), .p (.mv (.tmp 12))⟩,
      ⟨(some 19), .p (.mv (.tmp 0))⟩,
      ⟨(some 20), .p (.lenSl (.tmp 19))⟩,
      ⟨(some 21), .p (.bin .lss (.tmp 18) (.tmp 20))⟩,
      ⟨(some 22), .p (.mv (.tmp 21))⟩])
   (.cut [0, 1, 2, 3, 10, 11, 12, 22] c10z10)) c10z8) c10z7
noncomputable def c10z28 : ICode := .ops none [⟨(some 66), .p (.pick (.tmp 63) (.tmp 65) (.const (.bool false)))⟩]
noncomputable def c10z26 : ICode := .seq (.ops (some (63, true)) [⟨(some 64), .p (.mv (.tmp 13))⟩,
    ⟨(some 65), .p (.bin .lss (.tmp 64) (.const (.int .i64 (20))))⟩])
 (.cut [1, 10, 11, 13, 63, 65] c10z28)
noncomputable def c10z24 : ICode := .cond (.tmp 66) (.skip)
 (.exit 2)
noncomputable def c10z35 : ICode := .ops none [⟨(some 67), .p (.mv (.tmp 13))⟩,
   ⟨(some 68), .p (.bin .add (.tmp 67) (.const (.int .i64 (1))))⟩,
   ⟨(some 13), .p (.mv (.tmp 68))⟩]
noncomputable def c10z23 : ICode := .seq (.block 3 (.seq (.dops [(none, [⟨(some 69), .p (.mv (.tmp 1)), 0⟩,
      ⟨(some 70), .p (.mv (.tmp 13)), 0⟩,
      ⟨(some 71), .p (.adrSl 2 (.tmp 69) (.tmp 70)), 3⟩,
      ⟨(some 72), .p (.adrArr 2 1 (.tmp 71) (.const (.int .i64 (0)))), 7⟩,
      ⟨(some 73), .l (.load false 1 (.tmp 72)), 15⟩,
      ⟨(some 74), .p (.conv .i64 (.tmp 73)), 31⟩,
      ⟨(some 75), .p (.mv (.tmp 10)), 0⟩,
      ⟨(some 76), .p (.lenSl (.tmp 75)), 64⟩,
      ⟨(some 77), .p (.bin .rem (.tmp 74) (.tmp 76)), 255⟩,
      ⟨(some 78), .p (.mv (.tmp 1)), 0⟩,
      ⟨(some 79), .p (.mv (.tmp 13)), 0⟩,
      ⟨(some 80), .p (.adrSl 2 (.tmp 78) (.tmp 79)), 1536⟩,
      ⟨(some 81), .p (.adrArr 2 1 (.tmp 80) (.const (.int .i64 (1)))), 3584⟩,
      ⟨(some 82), .l (.load false 1 (.tmp 81)), 7680⟩,
      ⟨(some 83), .p (.conv .i64 (.tmp 82)), 15872⟩,
      ⟨(some 84), .p (.mv (.tmp 10)), 0⟩,
      ⟨(some 85), .p (.lenSl (.tmp 84)), 32768⟩,
      ⟨(some 86), .p (.bin .rem (.tmp 83) (.tmp 85)), 130560⟩,
      ⟨(some 14), .p (.mv (.tmp 77)), 511⟩,
      ⟨(some 15), .p (.mv (.tmp 86)), 524287⟩])])
   (.seq (.seq (.ops none [⟨(some 87), .p (.mv (.tmp 14))⟩,
       ⟨(some 88), .p (.mv (.tmp 15))⟩,
       ⟨(some 89), .p (.bin .eql (.tmp 87) (.tmp 88))⟩])
    (.cond (.tmp 89) (.exit 3)
    (.skip)))
   (.seq (.ops none [⟨(some 90), .p (.mv (.tmp 14))⟩,
      ⟨(some 91), .p (.bin .mul (.const (.int .i64 (7))) (.tmp 90))⟩,
      ⟨(some 92), .p (.bin .rem (.tmp 91) (.const (.int .i64 (11))))⟩,
      ⟨(some 93), .p (.mv (.tmp 15))⟩,
      ⟨(some 94), .p (.bin .mul (.const (.int .i64 (7))) (.tmp 93))⟩,
      ⟨(some 95), .p (.bin .rem (.tmp 94) (.const (.int .i64 (11))))⟩,
      ⟨(some 96), .p (.bin .lss (.tmp 92) (.tmp 95))⟩])
   (.cond (.tmp 96) (.ops none [⟨(some 97), .p (.mv (.tmp 11))⟩,
      ⟨(some 98), .p (.mv (.tmp 14))⟩,
      ⟨(some 99), .p (.mv (.tmp 15))⟩,
      ⟨(some 100), .p (.build [(.int .i64 (0)), (.int .i64 (0))] [(0, 1, (.tmp 98)), (1, 1, (.tmp 99))])⟩,
      ⟨(some 101), .e (.mkSl 54 1 [(.int .i64 (0)), (.int .i64 (0))] [(0, 2, (.tmp 100))])⟩,
      ⟨(some 102), .e (.app 54 2 16 (.tmp 97) (.tmp 101))⟩,
      ⟨(some 11), .p (.mv (.tmp 102))⟩])
   (.ops none [⟨(some 103), .p (.mv (.tmp 11))⟩,
      ⟨(some 104), .p (.mv (.tmp 15))⟩,
      ⟨(some 105), .p (.mv (.tmp 14))⟩,
      ⟨(some 106), .p (.build [(.int .i64 (0)), (.int .i64 (0))] [(0, 1, (.tmp 104)), (1, 1, (.tmp 105))])⟩,
      ⟨(some 107), .e (.mkSl 54 1 [(.int .i64 (0)), (.int .i64 (0))] [(0, 2, (.tmp 106))])⟩,
      ⟨(some 108), .e (.app 54 2 16 (.tmp 103) (.tmp 107))⟩,
      ⟨(some 11), .p (.mv (.tmp 108))⟩]))))))
 (.cut [1, 10, 11, 13] c10z35)
noncomputable def c10z22 : ICode := .seq (.seq (.seq (.ops none [⟨(some 59), .p (.mv (.tmp 13))⟩,
      ⟨(some 60), .p (.mv (.tmp 1))⟩,
      ⟨(some 61), .p (.lenSl (.tmp 60))⟩,
      ⟨(some 62), .p (.bin .lss (.tmp 59) (.tmp 61))⟩,
      ⟨(some 63), .p (.mv (.tmp 62))⟩])
   (.cut [1, 10, 11, 13, 63] c10z26)) c10z24) c10z23
noncomputable def c10z36 : ICode := .seq (.ops none [⟨(some 109), .p (.mv (.tmp 10))⟩,
    ⟨(some 110), .p (.mv (.tmp 11))⟩,
    ⟨(some 8), .p (.mv (.tmp 109))⟩,
    ⟨(some 9), .p (.mv (.tmp 110))⟩])
 (.ret)
noncomputable def c10z19 : ICode := .cut [10, 11] c10z36
noncomputable def c10z18 : ICode := .seq (.seq (.ops none [⟨(some 13), .p (.mv (.const (.int .i64 (0))))⟩])
  (.block 2 (.loop [1, 10] [11, 13] c10z22))) c10z19
noncomputable def c10z15 : ICode := .seq (.seq (.ops none [⟨(some 52), .p (.mv (.tmp 10))⟩,
     ⟨(some 53), .p (.lenSl (.tmp 52))⟩,
     ⟨(some 54), .p (.bin .eql (.tmp 53) (.const (.int .i64 (0))))⟩])
  (.cond (.tmp 54) (.ops none [⟨(some 55), .p (.mv (.tmp 10))⟩,
     ⟨(some 56), .p (.build [(.int .i64 (0)), (.int .i64 (0))] [(0, 1, (.const (.int .i64 (1)))), (1, 1, (.const (.int .i64 (1))))])⟩,
     ⟨(some 57), .e (.mkSl 35 1 [(.int .i64 (0)), (.int .i64 (0))] [(0, 2, (.tmp 56))])⟩,
     ⟨(some 58), .e (.app 35 2 16 (.tmp 55) (.tmp 57))⟩,
     ⟨(some 10), .p (.mv (.tmp 58))⟩])
  (.skip)))
 (.cut [1, 10, 11] c10z18)
noncomputable def c10z3 : ICode := .cut [1, 10, 11] c10z15
noncomputable def c10 : ICode := .seq (.ops none [⟨(some 8), .p (.mv (.const (.slice none 0 0)))⟩,
    ⟨(some 9), .p (.mv (.const (.slice none 0 0)))⟩])
 (.seq (.ops none [⟨(some 16), .e (.mkSl 35 0 [(.int .i64 (0)), (.int .i64 (0))] [])⟩,
    ⟨(some 17), .e (.mkSl 54 0 [(.int .i64 (0)), (.int .i64 (0))] [])⟩,
    ⟨(some 10), .p (.mv (.tmp 16))⟩,
    ⟨(some 11), .p (.mv (.tmp 17))⟩])
 (.seq (.seq (.ops none [⟨(some 12), .p (.mv (.const (.int .i64 (0))))⟩])
  (.block 0 (.loop [0, 1, 2, 3, 11] [10, 12] c10z6))) c10z3))
theorem k10 : compFn Try.prog 10 [[], [], [], [0, 1, 2, 3, 11], [10, 12], [0, 1, 2, 3, 10, 11, 12, 22], [0, 1, 2, 3, 10, 11, 12, 22, 25], [], [], [], [1, 10, 11], [], [1, 10, 11], [], [1, 10], [11, 13], [1, 10, 11, 13, 63], [1, 10, 11, 13, 63, 65], [], [], [], [], [], [], [1, 10, 11, 13], [10, 11], []] = some (111, c10, [.tmp 8, .tmp 9]) := by kernel_rfl
def K10z0 (_P : Program) (K : Value → Heap → Prop) : Exit → (Nat → Value) → Heap → Prop := bodyP [.tmp 8, .tmp 9] K
def K10z3 (P : Program) (K : Value → Heap → Prop) : Exit → (Nat → Value) → Heap → Prop := thenK (iwpP P c10z3 (K10z0 P K)) (K10z0 P K)
def K10z5 (P : Program) (K : Value → Heap → Prop) : Exit → (Nat → Value) → Heap → Prop := inBlockK 0 (K10z3 P K)
def K10z6 (P : Program) (K : Value → Heap → Prop) (x0 y1 most2 least3 p11 : Value) (L1 : List Value → Heap → Prop) : Exit → (Nat → Value) → Heap → Prop := thenK (fun f' h'' => (([0, 1, 2, 3, 11] : List Nat).map f' : List Value) = [x0, y1, most2, least3, p11] ∧ L1 (([10, 12] : List Nat).map f') h'') (K10z5 P K)
def K10z7 (P : Program) (K : Value → Heap → Prop) (x0 y1 most2 least3 p11 : Value) (L1 : List Value → Heap → Prop) : Exit → (Nat → Value) → Heap → Prop := thenK (iwpP P c10z7 (K10z6 P K x0 y1 most2 least3 p11 L1)) (K10z6 P K x0 y1 most2 least3 p11 L1)
def K10z8 (P : Program) (K : Value → Heap → Prop) (x0 y1 most2 least3 p11 : Value) (L1 : List Value → Heap → Prop) : Exit → (Nat → Value) → Heap → Prop := thenK (iwpP P c10z8 (K10z7 P K x0 y1 most2 least3 p11 L1)) (K10z7 P K x0 y1 most2 least3 p11 L1)
def K10z19 (P : Program) (K : Value → Heap → Prop) : Exit → (Nat → Value) → Heap → Prop := thenK (iwpP P c10z19 (K10z0 P K)) (K10z0 P K)
def K10z21 (P : Program) (K : Value → Heap → Prop) : Exit → (Nat → Value) → Heap → Prop := inBlockK 2 (K10z19 P K)
def K10z22 (P : Program) (K : Value → Heap → Prop) (y1 j10 : Value) (L1 : List Value → Heap → Prop) : Exit → (Nat → Value) → Heap → Prop := thenK (fun f' h'' => (([1, 10] : List Nat).map f' : List Value) = [y1, j10] ∧ L1 (([11, 13] : List Nat).map f') h'') (K10z21 P K)
def K10z23 (P : Program) (K : Value → Heap → Prop) (y1 j10 : Value) (L1 : List Value → Heap → Prop) : Exit → (Nat → Value) → Heap → Prop := thenK (iwpP P c10z23 (K10z22 P K y1 j10 L1)) (K10z22 P K y1 j10 L1)
def K10z24 (P : Program) (K : Value → Heap → Prop) (y1 j10 : Value) (L1 : List Value → Heap → Prop) : Exit → (Nat → Value) → Heap → Prop := thenK (iwpP P c10z24 (K10z23 P K y1 j10 L1)) (K10z23 P K y1 j10 L1)
def p10z6 (P : Program) (K : Value → Heap → Prop) (x0 y1 most2 least3 p11 : Value) (L1 : List Value → Heap → Prop) (xs : List Value) (h : Heap) : Prop := CutP (iwpP P c10z6 (K10z6 P K x0 y1 most2 least3 p11 L1)) ([0, 1, 2, 3, 11] ++ [10, 12]) ([x0, y1, most2, least3, p11] ++ xs) h
def p10z10 (P : Program) (K : Value → Heap → Prop) (x0 y1 most2 least3 j10 p11 i12 x22 : Value) (L1 : List Value → Heap → Prop) (h : Heap) : Prop := CutP (iwpP P c10z10 (K10z8 P K x0 y1 most2 least3 p11 L1)) [0, 1, 2, 3, 10, 11, 12, 22] [x0, y1, most2, least3, j10, p11, i12, x22] h
def p10z12 (P : Program) (K : Value → Heap → Prop) (x0 y1 most2 least3 j10 p11 i12 x22 x25 : Value) (L1 : List Value → Heap → Prop) (h : Heap) : Prop := CutP (iwpP P c10z12 (K10z8 P K x0 y1 most2 least3 p11 L1)) [0, 1, 2, 3, 10, 11, 12, 22, 25] [x0, y1, most2, least3, j10, p11, i12, x22, x25] h
def p10z15 (P : Program) (K : Value → Heap → Prop) (y1 j10 p11 : Value) (h : Heap) : Prop := CutP (iwpP P c10z15 (K10z0 P K)) [1, 10, 11] [y1, j10, p11] h
def p10z18 (P : Program) (K : Value → Heap → Prop) (y1 j10 p11 : Value) (h : Heap) : Prop := CutP (iwpP P c10z18 (K10z0 P K)) [1, 10, 11] [y1, j10, p11] h
def p10z22 (P : Program) (K : Value → Heap → Prop) (y1 j10 : Value) (L1 : List Value → Heap → Prop) (xs : List Value) (h : Heap) : Prop := CutP (iwpP P c10z22 (K10z22 P K y1 j10 L1)) ([1, 10] ++ [11, 13]) ([y1, j10] ++ xs) h
def p10z26 (P : Program) (K : Value → Heap → Prop) (y1 j10 p11 i13 x63 : Value) (L1 : List Value → Heap → Prop) (h : Heap) : Prop := CutP (iwpP P c10z26 (K10z24 P K y1 j10 L1)) [1, 10, 11, 13, 63] [y1, j10, p11, i13, x63] h
def p10z28 (P : Program) (K : Value → Heap → Prop) (y1 j10 p11 i13 x63 x65 : Value) (L1 : List Value → Heap → Prop) (h : Heap) : Prop := CutP (iwpP P c10z28 (K10z24 P K y1 j10 L1)) [1, 10, 11, 13, 63, 65] [y1, j10, p11, i13, x63, x65] h
def p10z35 (P : Program) (K : Value → Heap → Prop) (y1 j10 p11 i13 : Value) (L1 : List Value → Heap → Prop) (h : Heap) : Prop := CutP (iwpP P c10z35 (K10z22 P K y1 j10 L1)) [1, 10, 11, 13] [y1, j10, p11, i13] h
def p10z36 (P : Program) (K : Value → Heap → Prop) (j10 p11 : Value) (h : Heap) : Prop := CutP (iwpP P c10z36 (K10z0 P K)) [10, 11] [j10, p11] h
theorem q10z12 (P : Program) (K : Value → Heap → Prop) (x0 y1 most2 least3 j10 p11 i12 x22 x25 : Value) (L1 : List Value → Heap → Prop) (h : Heap) : p10z12 P K x0 y1 most2 least3 j10 p11 i12 x22 x25 L1 h =
  (OP (iPick x22 x25 (.bool false)) fun x26 =>
  IfP x26
    (OP (iAdrSl 2 x0 i12) fun x32 =>
    OP (iAdrArr 2 1 x32 (.int .i64 (0))) fun x33 =>
    OP (iLoad false 1 h x33) fun x34 =>
    (True) ∧
    OP (iConv .i64 x34) fun x35 =>
    OP (iBin .rem x35 (.int .i64 (50))) fun x36 =>
    OP (iBin .add x36 (.int .i64 (1))) fun x37 =>
    OP (iAdrSl 2 x0 i12) fun x40 =>
    OP (iAdrArr 2 1 x40 (.int .i64 (1))) fun x41 =>
    OP (iLoad false 1 h x41) fun x42 =>
    (True) ∧
    OP (iConv .i64 x42) fun x43 =>
    OP (iBin .sub (.int .i64 (51)) least3) fun x45 =>
    OP (iBin .rem x43 x45) fun x46 =>
    OP (iBin .add x46 least3) fun x48 =>
    OP (iBuild [(.int .i64 (0)), (.int .i64 (0))] [(0, 1, x37), (1, 1, x48)]) fun x49 =>
    OH (iMkSl 35 1 [(.int .i64 (0)), (.int .i64 (0))] h [(0, 2, x49)]) fun x50 h_1 =>
    (True) ∧
    OH (iApp 35 2 16 h_1 j10 x50) fun x51 h_2 =>
    (True) ∧
    OP (iBin .add i12 (.int .i64 (1))) fun x28 =>
    ([x0, y1, most2, least3, p11] : List Value) = [x0, y1, most2, least3, p11] ∧ L1 [x51, x28] h_2)
    (p10z15 P K y1 j10 p11 h)) := (CutP_def _ _ _ _).trans (by kernel_rfl)
theorem q10z10 (P : Program) (K : Value → Heap → Prop) (x0 y1 most2 least3 j10 p11 i12 x22 : Value) (L1 : List Value → Heap → Prop) (h : Heap) : p10z10 P K x0 y1 most2 least3 j10 p11 i12 x22 L1 h =
  (GdP x22 true
    (OP (iBin .lss i12 most2) fun x25 =>
    p10z12 P K x0 y1 most2 least3 j10 p11 i12 x22 x25 L1 h)
    (p10z12 P K x0 y1 most2 least3 j10 p11 i12 x22 undef L1 h)) := (CutP_def _ _ _ _).trans (by kernel_rfl)
theorem q10z6 (P : Program) (K : Value → Heap → Prop) (x0 y1 most2 least3 p11 : Value) (L1 : List Value → Heap → Prop) (j10 i12 : Value) (h : Heap) : p10z6 P K x0 y1 most2 least3 p11 L1 [j10, i12] h =
  (OP (iLenSl x0) fun x20 =>
  OP (iBin .lss i12 x20) fun x21 =>
  p10z10 P K x0 y1 most2 least3 j10 p11 i12 x21 L1 h) := (CutP_def _ _ _ _).trans (by kernel_rfl)
theorem q10z28 (P : Program) (K : Value → Heap → Prop) (y1 j10 p11 i13 x63 x65 : Value) (L1 : List Value → Heap → Prop) (h : Heap) : p10z28 P K y1 j10 p11 i13 x63 x65 L1 h =
  (OP (iPick x63 x65 (.bool false)) fun x66 =>
  IfP x66
    (OP (iAdrSl 2 y1 i13) fun x71 =>
    OP (iAdrArr 2 1 x71 (.int .i64 (0))) fun x72 =>
    OP (iLoad false 1 h x72) fun x73 =>
    (True) ∧
    OP (iConv .i64 x73) fun x74 =>
    OP (iLenSl j10) fun x76 =>
    OP (iBin .rem x74 x76) fun x77 =>
    OP (iAdrSl 2 y1 i13) fun x80 =>
    OP (iAdrArr 2 1 x80 (.int .i64 (1))) fun x81 =>
    OP (iLoad false 1 h x81) fun x82 =>
    (True) ∧
    OP (iConv .i64 x82) fun x83 =>
    OP (iLenSl j10) fun x85 =>
    OP (iBin .rem x83 x85) fun x86 =>
    OP (iBin .eql x77 x86) fun x89 =>
    IfP x89
      (p10z35 P K y1 j10 p11 i13 L1 h)
      (OP (iBin .mul (.int .i64 (7)) x77) fun x91 =>
      OP (iBin .rem x91 (.int .i64 (11))) fun x92 =>
      OP (iBin .mul (.int .i64 (7)) x86) fun x94 =>
      OP (iBin .rem x94 (.int .i64 (11))) fun x95 =>
      OP (iBin .lss x92 x95) fun x96 =>
      IfP x96
        (OP (iBuild [(.int .i64 (0)), (.int .i64 (0))] [(0, 1, x77), (1, 1, x86)]) fun x100 =>
        OH (iMkSl 54 1 [(.int .i64 (0)), (.int .i64 (0))] h [(0, 2, x100)]) fun x101 h_1 =>
        OH (iApp 54 2 16 h_1 p11 x101) fun x102 h_2 =>
        p10z35 P K y1 j10 x102 i13 L1 h_2)
        (OP (iBuild [(.int .i64 (0)), (.int .i64 (0))] [(0, 1, x86), (1, 1, x77)]) fun x106 =>
        OH (iMkSl 54 1 [(.int .i64 (0)), (.int .i64 (0))] h [(0, 2, x106)]) fun x107 h_1 =>
        OH (iApp 54 2 16 h_1 p11 x107) fun x108 h_2 =>
        p10z35 P K y1 j10 x108 i13 L1 h_2)))
    (p10z36 P K j10 p11 h)) := (CutP_def _ _ _ _).trans (by kernel_rfl)
theorem q10z26 (P : Program) (K : Value → Heap → Prop) (y1 j10 p11 i13 x63 : Value) (L1 : List Value → Heap → Prop) (h : Heap) : p10z26 P K y1 j10 p11 i13 x63 L1 h =
  (GdP x63 true
    (OP (iBin .lss i13 (.int .i64 (20))) fun x65 =>
    p10z28 P K y1 j10 p11 i13 x63 x65 L1 h)
    (p10z28 P K y1 j10 p11 i13 x63 undef L1 h)) := (CutP_def _ _ _ _).trans (by kernel_rfl)
theorem q10z35 (P : Program) (K : Value → Heap → Prop) (y1 j10 p11 i13 : Value) (L1 : List Value → Heap → Prop) (h : Heap) : p10z35 P K y1 j10 p11 i13 L1 h =
  (OP (iBin .add i13 (.int .i64 (1))) fun x68 =>
  ([y1, j10] : List Value) = [y1, j10] ∧ L1 [p11, x68] h) := (CutP_def _ _ _ _).trans (by kernel_rfl)
theorem q10z22 (P : Program) (K : Value → Heap → Prop) (y1 j10 : Value) (L1 : List Value → Heap → Prop) (p11 i13 : Value) (h : Heap) : p10z22 P K y1 j10 L1 [p11, i13] h =
  (OP (iLenSl y1) fun x61 =>
  OP (iBin .lss i13 x61) fun x62 =>
  p10z26 P K y1 j10 p11 i13 x62 L1 h) := (CutP_def _ _ _ _).trans (by kernel_rfl)
theorem q10z36 (P : Program) (K : Value → Heap → Prop) (j10 p11 : Value) (h : Heap) : p10z36 P K j10 p11 h =
  (K (.tuple #[j10, p11]) h) := (CutP_def _ _ _ _).trans (by kernel_rfl)
theorem q10z18 (P : Program) (K : Value → Heap → Prop) (y1 j10 p11 : Value) (h : Heap) : p10z18 P K y1 j10 p11 h =
  (LoopP [p11, (.int .i64 (0))] h fun L1 xs hx =>
  p10z22 P K y1 j10 L1 xs hx) := (CutP_def _ _ _ _).trans (by kernel_rfl)
theorem q10z15 (P : Program) (K : Value → Heap → Prop) (y1 j10 p11 : Value) (h : Heap) : p10z15 P K y1 j10 p11 h =
  (OP (iLenSl j10) fun x53 =>
  OP (iBin .eql x53 (.int .i64 (0))) fun x54 =>
  IfP x54
    (OP (iBuild [(.int .i64 (0)), (.int .i64 (0))] [(0, 1, (.int .i64 (1))), (1, 1, (.int .i64 (1)))]) fun x56 =>
    OH (iMkSl 35 1 [(.int .i64 (0)), (.int .i64 (0))] h [(0, 2, x56)]) fun x57 h_1 =>
    OH (iApp 35 2 16 h_1 j10 x57) fun x58 h_2 =>
    p10z18 P K y1 x58 p11 h_2)
    (p10z18 P K y1 j10 p11 h)) := (CutP_def _ _ _ _).trans (by kernel_rfl)
def T10 (P : Program) (K : Value → Heap → Prop) (x0 y1 most2 least3 : Value) (h : Heap) : Prop :=
  OH (iMkSl 35 0 [(.int .i64 (0)), (.int .i64 (0))] h []) fun x16 h_1 =>
  OH (iMkSl 54 0 [(.int .i64 (0)), (.int .i64 (0))] h_1 []) fun x17 h_2 =>
  LoopP [x16, (.int .i64 (0))] h_2 fun L1 xs hx =>
  p10z6 P K x0 y1 most2 least3 x17 L1 xs hx
theorem e10 (P : Program) (K : Value → Heap → Prop) (x0 y1 most2 least3 : Value) (h : Heap) : iwpP P c10 (bodyP [.tmp 8, .tmp 9] K) (frame0 [x0, y1, most2, least3]) h = T10 P K x0 y1 most2 least3 h := by kernel_rfl
theorem f10 {K : Value → Heap → Prop} {x0 y1 most2 least3 : Value} {h : Heap} (H : T10 Try.prog K x0 y1 most2 least3 h) : CallP Try.prog 10 [x0, y1, most2, least3] h K :=
  callP_intro k10 (Nat.le_of_ble_eq_true rfl) ((e10 Try.prog K x0 y1 most2 least3 h).mpr H)
end Go.Proofs.Ytelmdbpaoifmoaa
