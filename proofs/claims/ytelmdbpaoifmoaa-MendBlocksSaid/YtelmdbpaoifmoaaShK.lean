/-
  Ideal code of the functions that the proof reaches, written by program; the kernel holds it against the code.
-/
import Derived.Test.YtelmdbpaoifmoaaProg
import Derived.Test.YtelmdbpaoifmoaaMgd
import Derived.KernelRfl
namespace Go.Proofs.Ytelmdbpaoifmoaa
open Go.Sim
/-! F9: pommel/pommellaw06.MendBlocks -/
noncomputable def c9z8 : ICode := .seq (.seq (.ops none [⟨(some 42), .p (.mv (.tmp 13))⟩,
     ⟨(some 43), .p (.mv (.tmp 10))⟩,
     ⟨(some 44), .p (.lenSl (.tmp 43))⟩,
     ⟨(some 45), .p (.bin .lss (.tmp 42) (.tmp 44))⟩])
  (.cond (.tmp 45) (.skip)
  (.exit 0)))
 (.seq (.block 1 (.dops [(none, [⟨(some 48), .p (.mv (.tmp 12)), 0⟩,
     ⟨(some 49), .p (.mv (.tmp 10)), 0⟩,
     ⟨(some 50), .p (.mv (.tmp 13)), 0⟩,
     ⟨(some 51), .p (.adrSl 2 (.tmp 49) (.tmp 50)), 6⟩,
     ⟨(some 52), .p (.fadr 0 (.tmp 51)), 14⟩,
     ⟨(some 53), .l (.load false 1 (.tmp 52)), 30⟩,
     ⟨(some 54), .p (.mv (.tmp 7)), 0⟩,
     ⟨(some 55), .p (.lenSl (.tmp 54)), 64⟩,
     ⟨(some 56), .p (.bin .add (.tmp 53) (.tmp 55)), 254⟩,
     ⟨(some 57), .p (.mv (.tmp 10)), 0⟩,
     ⟨(some 58), .p (.mv (.tmp 13)), 0⟩,
     ⟨(some 59), .p (.adrSl 2 (.tmp 57) (.tmp 58)), 1536⟩,
     ⟨(some 60), .p (.fadr 1 (.tmp 59)), 3584⟩,
     ⟨(some 61), .l (.load false 1 (.tmp 60)), 7680⟩,
     ⟨(some 62), .p (.mv (.tmp 7)), 0⟩,
     ⟨(some 63), .p (.lenSl (.tmp 62)), 16384⟩,
     ⟨(some 64), .p (.bin .add (.tmp 61) (.tmp 63)), 65024⟩,
     ⟨(some 65), .p (.build [(.int .i64 (0)), (.int .i64 (0))] [(0, 1, (.tmp 56)), (1, 1, (.tmp 64))]), 131070⟩,
     ⟨(some 66), .e (.mkSl 54 1 [(.int .i64 (0)), (.int .i64 (0))] [(0, 2, (.tmp 65))]), 262142⟩,
     ⟨(some 67), .e (.app 54 2 16 (.tmp 48) (.tmp 66)), 524287⟩,
     ⟨(some 12), .p (.mv (.tmp 67)), 1048575⟩])]))
 (.ops none [⟨(some 46), .p (.mv (.tmp 13))⟩,
   ⟨(some 47), .p (.bin .add (.tmp 46) (.const (.int .i64 (1))))⟩,
   ⟨(some 13), .p (.mv (.tmp 47))⟩]))
noncomputable def c9z21 : ICode := .seq (.seq (.ops none [⟨(some 90), .p (.mv (.tmp 21))⟩,
     ⟨(some 91), .p (.mv (.tmp 9))⟩,
     ⟨(some 92), .p (.lenSl (.tmp 91))⟩,
     ⟨(some 93), .p (.bin .leq (.tmp 90) (.tmp 92))⟩])
  (.cond (.tmp 93) (.skip)
  (.exit 2)))
 (.seq (.block 3 (.ops none [⟨(some 96), .p (.mv (.tmp 20))⟩,
     ⟨(some 97), .p (.mv (.tmp 7))⟩,
     ⟨(some 98), .p (.lenSl (.tmp 97))⟩,
     ⟨(some 99), .p (.mv (.tmp 21))⟩,
     ⟨(some 100), .p (.bin .add (.tmp 98) (.tmp 99))⟩,
     ⟨(some 101), .p (.bin .mul (.tmp 96) (.tmp 100))⟩,
     ⟨(some 102), .p (.mv (.tmp 21))⟩,
     ⟨(some 103), .p (.bin .quo (.tmp 101) (.tmp 102))⟩,
     ⟨(some 20), .p (.mv (.tmp 103))⟩]))
 (.ops none [⟨(some 94), .p (.mv (.tmp 21))⟩,
   ⟨(some 95), .p (.bin .add (.tmp 94) (.const (.int .i64 (1))))⟩,
   ⟨(some 21), .p (.mv (.tmp 95))⟩]))
noncomputable def c9z43 : ICode := .ops none [⟨(some 125), .p (.pick (.tmp 123) (.tmp 124) (.const (.bool false)))⟩,
   ⟨(some 6), .p (.mv (.tmp 125))⟩]
noncomputable def c9z41 : ICode := .seq (.ops (some (123, true)) [⟨(some 124), .call 14 []⟩])
 (.cut [123, 124] c9z43)
noncomputable def c9z39 : ICode := .seq (.ops none [⟨(some 122), .p (.pick (.tmp 114) (.tmp 121) (.const (.bool false)))⟩,
    ⟨(some 123), .p (.mv (.tmp 122))⟩])
 (.cut [123] c9z41)
noncomputable def c9z37 : ICode := .seq (.ops (some (114, true)) [⟨(some 115), .p (.mv (.tmp 18))⟩,
    ⟨(some 116), .p (.mv (.tmp 14))⟩,
    ⟨(some 117), .p (.mv (.tmp 16))⟩,
    ⟨(some 118), .p (.bin .mul (.tmp 116) (.tmp 117))⟩,
    ⟨(some 119), .p (.mv (.tmp 20))⟩,
    ⟨(some 120), .p (.bin .mul (.tmp 118) (.tmp 119))⟩,
    ⟨(some 121), .p (.bin .eql (.tmp 115) (.tmp 120))⟩])
 (.cut [114, 121] c9z39)
noncomputable def c9z35 : ICode := .seq (.ops none [⟨(some 113), .p (.pick (.tmp 110) (.tmp 112) (.const (.bool false)))⟩,
    ⟨(some 114), .p (.mv (.tmp 113))⟩])
 (.cut [14, 16, 18, 20, 114] c9z37)
noncomputable def c9z33 : ICode := .seq (.ops (some (110, true)) [⟨(some 111), .p (.mv (.tmp 19))⟩,
    ⟨(some 112), .p (.bin .eql (.tmp 111) (.const (.int .i64 (0))))⟩])
 (.cut [14, 16, 18, 20, 110, 112] c9z35)
noncomputable def c9z31 : ICode := .seq (.ops none [⟨(some 109), .p (.pick (.tmp 106) (.tmp 108) (.const (.bool false)))⟩,
    ⟨(some 110), .p (.mv (.tmp 109))⟩])
 (.cut [14, 16, 18, 19, 20, 110] c9z33)
noncomputable def c9z29 : ICode := .seq (.ops (some (106, true)) [⟨(some 107), .p (.mv (.tmp 17))⟩,
    ⟨(some 108), .p (.bin .eql (.tmp 107) (.const (.int .i64 (0))))⟩])
 (.cut [14, 16, 18, 19, 20, 106, 108] c9z31)
noncomputable def c9z27 : ICode := .ret
noncomputable def c9z26 : ICode := .seq (.seq (.ops none [⟨(some 104), .p (.mv (.tmp 15))⟩,
     ⟨(some 105), .p (.bin .eql (.tmp 104) (.const (.int .i64 (0))))⟩,
     ⟨(some 106), .p (.mv (.tmp 105))⟩])
  (.cut [14, 16, 17, 18, 19, 20, 106] c9z29)) c9z27
noncomputable def c9z18 : ICode := .cut [14, 15, 16, 17, 18, 19, 20] c9z26
noncomputable def c9z13 : ICode := .seq (.ops none [⟨(some 69), .p (.mv (.tmp 7))⟩,
    ⟨(some 70), .p (.mv (.tmp 8))⟩,
    ⟨(some 71), .call 18 [(.tmp 69), (.tmp 70)]⟩,
    ⟨(some 68), .p (.mv (.tmp 71))⟩,
    ⟨(some 72), .p (.ext (.tmp 68) 0)⟩,
    ⟨(some 73), .p (.ext (.tmp 68) 1)⟩,
    ⟨(some 14), .p (.mv (.tmp 72))⟩,
    ⟨(some 15), .p (.mv (.tmp 73))⟩])
 (.seq (.ops none [⟨(some 75), .p (.mv (.tmp 9))⟩,
    ⟨(some 76), .p (.mv (.tmp 10))⟩,
    ⟨(some 77), .call 18 [(.tmp 75), (.tmp 76)]⟩,
    ⟨(some 74), .p (.mv (.tmp 77))⟩,
    ⟨(some 78), .p (.ext (.tmp 74) 0)⟩,
    ⟨(some 79), .p (.ext (.tmp 74) 1)⟩,
    ⟨(some 16), .p (.mv (.tmp 78))⟩,
    ⟨(some 17), .p (.mv (.tmp 79))⟩])
 (.seq (.ops none [⟨(some 81), .p (.mv (.tmp 11))⟩,
    ⟨(some 82), .p (.mv (.tmp 12))⟩,
    ⟨(some 83), .p (.mv (.tmp 12))⟩,
    ⟨(some 84), .p (.lenSl (.tmp 83))⟩,
    ⟨(some 85), .p (.minmax false [(.tmp 84), (.const (.int .i64 (40)))])⟩,
    ⟨(some 86), .p (.slSl 54 2 (.tmp 82) none (some (.tmp 85)))⟩,
    ⟨(some 87), .call 18 [(.tmp 81), (.tmp 86)]⟩,
    ⟨(some 80), .p (.mv (.tmp 87))⟩,
    ⟨(some 88), .p (.ext (.tmp 80) 0)⟩,
    ⟨(some 89), .p (.ext (.tmp 80) 1)⟩,
    ⟨(some 18), .p (.mv (.tmp 88))⟩,
    ⟨(some 19), .p (.mv (.tmp 89))⟩])
 (.seq (.ops none [⟨(some 20), .p (.mv (.const (.int .i64 (1))))⟩])
 (.seq (.seq (.ops none [⟨(some 21), .p (.mv (.const (.int .i64 (1))))⟩])
  (.block 2 (.loop [7, 9, 14, 15, 16, 17, 18, 19] [20, 21] c9z21))) c9z18))))
noncomputable def c9z5 : ICode := .cut [7, 8, 9, 10, 11, 12] c9z13
noncomputable def c9 : ICode := .seq (.ops none [⟨(some 6), .p (.mv (.const (.bool false)))⟩])
 (.seq (.ops none [⟨(some 23), .p (.mv (.tmp 0))⟩,
    ⟨(some 24), .p (.mv (.tmp 2))⟩,
    ⟨(some 25), .call 10 [(.tmp 23), (.tmp 24), (.const (.int .i64 (5))), (.const (.int .i64 (0)))]⟩,
    ⟨(some 22), .p (.mv (.tmp 25))⟩,
    ⟨(some 26), .p (.ext (.tmp 22) 0)⟩,
    ⟨(some 27), .p (.ext (.tmp 22) 1)⟩,
    ⟨(some 7), .p (.mv (.tmp 26))⟩,
    ⟨(some 8), .p (.mv (.tmp 27))⟩])
 (.seq (.ops none [⟨(some 29), .p (.mv (.tmp 1))⟩,
    ⟨(some 30), .p (.mv (.tmp 2))⟩,
    ⟨(some 31), .call 10 [(.tmp 29), (.tmp 30), (.const (.int .i64 (5))), (.const (.int .i64 (0)))]⟩,
    ⟨(some 28), .p (.mv (.tmp 31))⟩,
    ⟨(some 32), .p (.ext (.tmp 28) 0)⟩,
    ⟨(some 33), .p (.ext (.tmp 28) 1)⟩,
    ⟨(some 9), .p (.mv (.tmp 32))⟩,
    ⟨(some 10), .p (.mv (.tmp 33))⟩])
 (.seq (.ops none [⟨(some 34), .e (.mkSl 35 0 [(.int .i64 (0)), (.int .i64 (0))] [])⟩,
    ⟨(some 35), .p (.mv (.tmp 7))⟩,
    ⟨(some 36), .e (.app 35 2 16 (.tmp 34) (.tmp 35))⟩,
    ⟨(some 37), .p (.mv (.tmp 9))⟩,
    ⟨(some 38), .e (.app 35 2 16 (.tmp 36) (.tmp 37))⟩,
    ⟨(some 39), .e (.mkSl 54 0 [(.int .i64 (0)), (.int .i64 (0))] [])⟩,
    ⟨(some 40), .p (.mv (.tmp 8))⟩,
    ⟨(some 41), .e (.app 54 2 16 (.tmp 39) (.tmp 40))⟩,
    ⟨(some 11), .p (.mv (.tmp 38))⟩,
    ⟨(some 12), .p (.mv (.tmp 41))⟩])
 (.seq (.seq (.ops none [⟨(some 13), .p (.mv (.const (.int .i64 (0))))⟩])
  (.block 0 (.loop [7, 8, 9, 10, 11] [12, 13] c9z8))) c9z5))))
theorem k9 : compFn Try.prog 9 [[], [], [], [], [], [7, 8, 9, 10, 11], [12, 13], [], [], [], [7, 8, 9, 10, 11, 12], [], [], [], [], [], [7, 9, 14, 15, 16, 17, 18, 19], [20, 21], [], [], [], [14, 15, 16, 17, 18, 19, 20], [14, 16, 17, 18, 19, 20, 106], [14, 16, 18, 19, 20, 106, 108], [14, 16, 18, 19, 20, 110], [14, 16, 18, 20, 110, 112], [14, 16, 18, 20, 114], [114, 121], [123], [123, 124], []] = some (126, c9, [.tmp 6]) := by kernel_rfl
def K9z0 (_P : Program) (K : Value → Heap → Prop) : Exit → (Nat → Value) → Heap → Prop := bodyP [.tmp 6] K
def K9z5 (P : Program) (K : Value → Heap → Prop) : Exit → (Nat → Value) → Heap → Prop := thenK (iwpP P c9z5 (K9z0 P K)) (K9z0 P K)
def K9z7 (P : Program) (K : Value → Heap → Prop) : Exit → (Nat → Value) → Heap → Prop := inBlockK 0 (K9z5 P K)
def K9z8 (P : Program) (K : Value → Heap → Prop) (j7 p8 k9 q10 all11 : Value) (L1 : List Value → Heap → Prop) : Exit → (Nat → Value) → Heap → Prop := thenK (fun f' h'' => (([7, 8, 9, 10, 11] : List Nat).map f' : List Value) = [j7, p8, k9, q10, all11] ∧ L1 (([12, 13] : List Nat).map f') h'') (K9z7 P K)
def K9z18 (P : Program) (K : Value → Heap → Prop) : Exit → (Nat → Value) → Heap → Prop := thenK (iwpP P c9z18 (K9z0 P K)) (K9z0 P K)
def K9z20 (P : Program) (K : Value → Heap → Prop) : Exit → (Nat → Value) → Heap → Prop := inBlockK 2 (K9z18 P K)
def K9z21 (P : Program) (K : Value → Heap → Prop) (j7 k9 a14 e15 c16 f17 d18 g19 : Value) (L1 : List Value → Heap → Prop) : Exit → (Nat → Value) → Heap → Prop := thenK (fun f' h'' => (([7, 9, 14, 15, 16, 17, 18, 19] : List Nat).map f' : List Value) = [j7, k9, a14, e15, c16, f17, d18, g19] ∧ L1 (([20, 21] : List Nat).map f') h'') (K9z20 P K)
def K9z27 (P : Program) (K : Value → Heap → Prop) : Exit → (Nat → Value) → Heap → Prop := thenK (iwpP P c9z27 (K9z0 P K)) (K9z0 P K)
def p9z8 (P : Program) (K : Value → Heap → Prop) (j7 p8 k9 q10 all11 : Value) (L1 : List Value → Heap → Prop) (xs : List Value) (h : Heap) : Prop := CutP (iwpP P c9z8 (K9z8 P K j7 p8 k9 q10 all11 L1)) ([7, 8, 9, 10, 11] ++ [12, 13]) ([j7, p8, k9, q10, all11] ++ xs) h
def p9z13 (P : Program) (K : Value → Heap → Prop) (j7 p8 k9 q10 all11 pairs12 : Value) (h : Heap) : Prop := CutP (iwpP P c9z13 (K9z0 P K)) [7, 8, 9, 10, 11, 12] [j7, p8, k9, q10, all11, pairs12] h
def p9z21 (P : Program) (K : Value → Heap → Prop) (j7 k9 a14 e15 c16 f17 d18 g19 : Value) (L1 : List Value → Heap → Prop) (xs : List Value) (h : Heap) : Prop := CutP (iwpP P c9z21 (K9z21 P K j7 k9 a14 e15 c16 f17 d18 g19 L1)) ([7, 9, 14, 15, 16, 17, 18, 19] ++ [20, 21]) ([j7, k9, a14, e15, c16, f17, d18, g19] ++ xs) h
def p9z26 (P : Program) (K : Value → Heap → Prop) (a14 e15 c16 f17 d18 g19 shuffles20 : Value) (h : Heap) : Prop := CutP (iwpP P c9z26 (K9z0 P K)) [14, 15, 16, 17, 18, 19, 20] [a14, e15, c16, f17, d18, g19, shuffles20] h
def p9z29 (P : Program) (K : Value → Heap → Prop) (a14 c16 f17 d18 g19 shuffles20 x106 : Value) (h : Heap) : Prop := CutP (iwpP P c9z29 (K9z27 P K)) [14, 16, 17, 18, 19, 20, 106] [a14, c16, f17, d18, g19, shuffles20, x106] h
def p9z31 (P : Program) (K : Value → Heap → Prop) (a14 c16 d18 g19 shuffles20 x106 x108 : Value) (h : Heap) : Prop := CutP (iwpP P c9z31 (K9z27 P K)) [14, 16, 18, 19, 20, 106, 108] [a14, c16, d18, g19, shuffles20, x106, x108] h
def p9z33 (P : Program) (K : Value → Heap → Prop) (a14 c16 d18 g19 shuffles20 x110 : Value) (h : Heap) : Prop := CutP (iwpP P c9z33 (K9z27 P K)) [14, 16, 18, 19, 20, 110] [a14, c16, d18, g19, shuffles20, x110] h
def p9z35 (P : Program) (K : Value → Heap → Prop) (a14 c16 d18 shuffles20 x110 x112 : Value) (h : Heap) : Prop := CutP (iwpP P c9z35 (K9z27 P K)) [14, 16, 18, 20, 110, 112] [a14, c16, d18, shuffles20, x110, x112] h
def p9z37 (P : Program) (K : Value → Heap → Prop) (a14 c16 d18 shuffles20 x114 : Value) (h : Heap) : Prop := CutP (iwpP P c9z37 (K9z27 P K)) [14, 16, 18, 20, 114] [a14, c16, d18, shuffles20, x114] h
def p9z39 (P : Program) (K : Value → Heap → Prop) (x114 x121 : Value) (h : Heap) : Prop := CutP (iwpP P c9z39 (K9z27 P K)) [114, 121] [x114, x121] h
def p9z41 (P : Program) (K : Value → Heap → Prop) (x123 : Value) (h : Heap) : Prop := CutP (iwpP P c9z41 (K9z27 P K)) [123] [x123] h
def p9z43 (P : Program) (K : Value → Heap → Prop) (x123 x124 : Value) (h : Heap) : Prop := CutP (iwpP P c9z43 (K9z27 P K)) [123, 124] [x123, x124] h
theorem q9z8 (P : Program) (K : Value → Heap → Prop) (j7 p8 k9 q10 all11 : Value) (L1 : List Value → Heap → Prop) (pairs12 i13 : Value) (h : Heap) : p9z8 P K j7 p8 k9 q10 all11 L1 [pairs12, i13] h =
  (OP (iLenSl q10) fun x44 =>
  OP (iBin .lss i13 x44) fun x45 =>
  IfP x45
    (OP (iAdrSl 2 q10 i13) fun x51 =>
    OP (iFadr 0 x51) fun x52 =>
    OP (iLoad false 1 h x52) fun x53 =>
    (True) ∧
    OP (iLenSl j7) fun x55 =>
    OP (iBin .add x53 x55) fun x56 =>
    OP (iAdrSl 2 q10 i13) fun x59 =>
    OP (iFadr 1 x59) fun x60 =>
    OP (iLoad false 1 h x60) fun x61 =>
    (True) ∧
    OP (iLenSl j7) fun x63 =>
    OP (iBin .add x61 x63) fun x64 =>
    OP (iBuild [(.int .i64 (0)), (.int .i64 (0))] [(0, 1, x56), (1, 1, x64)]) fun x65 =>
    OH (iMkSl 54 1 [(.int .i64 (0)), (.int .i64 (0))] h [(0, 2, x65)]) fun x66 h_1 =>
    (True) ∧
    OH (iApp 54 2 16 h_1 pairs12 x66) fun x67 h_2 =>
    (True) ∧
    OP (iBin .add i13 (.int .i64 (1))) fun x47 =>
    ([j7, p8, k9, q10, all11] : List Value) = [j7, p8, k9, q10, all11] ∧ L1 [x67, x47] h_2)
    (p9z13 P K j7 p8 k9 q10 all11 pairs12 h)) := (CutP_def _ _ _ _).trans (by kernel_rfl)
theorem q9z21 (P : Program) (K : Value → Heap → Prop) (j7 k9 a14 e15 c16 f17 d18 g19 : Value) (L1 : List Value → Heap → Prop) (shuffles20 i21 : Value) (h : Heap) : p9z21 P K j7 k9 a14 e15 c16 f17 d18 g19 L1 [shuffles20, i21] h =
  (OP (iLenSl k9) fun x92 =>
  OP (iBin .leq i21 x92) fun x93 =>
  IfP x93
    (OP (iLenSl j7) fun x98 =>
    OP (iBin .add x98 i21) fun x100 =>
    OP (iBin .mul shuffles20 x100) fun x101 =>
    OP (iBin .quo x101 i21) fun x103 =>
    OP (iBin .add i21 (.int .i64 (1))) fun x95 =>
    ([j7, k9, a14, e15, c16, f17, d18, g19] : List Value) = [j7, k9, a14, e15, c16, f17, d18, g19] ∧ L1 [x103, x95] h)
    (p9z26 P K a14 e15 c16 f17 d18 g19 shuffles20 h)) := (CutP_def _ _ _ _).trans (by kernel_rfl)
theorem q9z43 (P : Program) (K : Value → Heap → Prop) (x123 x124 : Value) (h : Heap) : p9z43 P K x123 x124 h =
  (OP (iPick x123 x124 (.bool false)) fun x125 =>
  K x125 h) := (CutP_def _ _ _ _).trans (by kernel_rfl)
theorem q9z41 (P : Program) (K : Value → Heap → Prop) (x123 : Value) (h : Heap) : p9z41 P K x123 h =
  (GdP x123 true
    (CallP P 14 [] h fun x124 h_1 =>
    p9z43 P K x123 x124 h_1)
    (p9z43 P K x123 undef h)) := (CutP_def _ _ _ _).trans (by kernel_rfl)
theorem q9z39 (P : Program) (K : Value → Heap → Prop) (x114 x121 : Value) (h : Heap) : p9z39 P K x114 x121 h =
  (OP (iPick x114 x121 (.bool false)) fun x122 =>
  p9z41 P K x122 h) := (CutP_def _ _ _ _).trans (by kernel_rfl)
theorem q9z37 (P : Program) (K : Value → Heap → Prop) (a14 c16 d18 shuffles20 x114 : Value) (h : Heap) : p9z37 P K a14 c16 d18 shuffles20 x114 h =
  (GdP x114 true
    (OP (iBin .mul a14 c16) fun x118 =>
    OP (iBin .mul x118 shuffles20) fun x120 =>
    OP (iBin .eql d18 x120) fun x121 =>
    p9z39 P K x114 x121 h)
    (p9z39 P K x114 undef h)) := (CutP_def _ _ _ _).trans (by kernel_rfl)
theorem q9z35 (P : Program) (K : Value → Heap → Prop) (a14 c16 d18 shuffles20 x110 x112 : Value) (h : Heap) : p9z35 P K a14 c16 d18 shuffles20 x110 x112 h =
  (OP (iPick x110 x112 (.bool false)) fun x113 =>
  p9z37 P K a14 c16 d18 shuffles20 x113 h) := (CutP_def _ _ _ _).trans (by kernel_rfl)
theorem q9z33 (P : Program) (K : Value → Heap → Prop) (a14 c16 d18 g19 shuffles20 x110 : Value) (h : Heap) : p9z33 P K a14 c16 d18 g19 shuffles20 x110 h =
  (GdP x110 true
    (OP (iBin .eql g19 (.int .i64 (0))) fun x112 =>
    p9z35 P K a14 c16 d18 shuffles20 x110 x112 h)
    (p9z35 P K a14 c16 d18 shuffles20 x110 undef h)) := (CutP_def _ _ _ _).trans (by kernel_rfl)
theorem q9z31 (P : Program) (K : Value → Heap → Prop) (a14 c16 d18 g19 shuffles20 x106 x108 : Value) (h : Heap) : p9z31 P K a14 c16 d18 g19 shuffles20 x106 x108 h =
  (OP (iPick x106 x108 (.bool false)) fun x109 =>
  p9z33 P K a14 c16 d18 g19 shuffles20 x109 h) := (CutP_def _ _ _ _).trans (by kernel_rfl)
theorem q9z29 (P : Program) (K : Value → Heap → Prop) (a14 c16 f17 d18 g19 shuffles20 x106 : Value) (h : Heap) : p9z29 P K a14 c16 f17 d18 g19 shuffles20 x106 h =
  (GdP x106 true
    (OP (iBin .eql f17 (.int .i64 (0))) fun x108 =>
    p9z31 P K a14 c16 d18 g19 shuffles20 x106 x108 h)
    (p9z31 P K a14 c16 d18 g19 shuffles20 x106 undef h)) := (CutP_def _ _ _ _).trans (by kernel_rfl)
theorem q9z26 (P : Program) (K : Value → Heap → Prop) (a14 e15 c16 f17 d18 g19 shuffles20 : Value) (h : Heap) : p9z26 P K a14 e15 c16 f17 d18 g19 shuffles20 h =
  (OP (iBin .eql e15 (.int .i64 (0))) fun x105 =>
  p9z29 P K a14 c16 f17 d18 g19 shuffles20 x105 h) := (CutP_def _ _ _ _).trans (by kernel_rfl)
theorem q9z13 (P : Program) (K : Value → Heap → Prop) (j7 p8 k9 q10 all11 pairs12 : Value) (h : Heap) : p9z13 P K j7 p8 k9 q10 all11 pairs12 h =
  (CallP P 18 [j7, p8] h fun x71 h_1 =>
  OP (iExt 0 x71) fun x72 =>
  OP (iExt 1 x71) fun x73 =>
  CallP P 18 [k9, q10] h_1 fun x77 h_2 =>
  OP (iExt 0 x77) fun x78 =>
  OP (iExt 1 x77) fun x79 =>
  OP (iLenSl pairs12) fun x84 =>
  OP (iMinmax false [x84, (.int .i64 (40))]) fun x85 =>
  OP (iSlSl 54 2 pairs12 none (some x85)) fun x86 =>
  CallP P 18 [all11, x86] h_2 fun x87 h_3 =>
  OP (iExt 0 x87) fun x88 =>
  OP (iExt 1 x87) fun x89 =>
  LoopP [(.int .i64 (1)), (.int .i64 (1))] h_3 fun L1 xs hx =>
  p9z21 P K j7 k9 x72 x73 x78 x79 x88 x89 L1 xs hx) := (CutP_def _ _ _ _).trans (by kernel_rfl)
def T9 (P : Program) (K : Value → Heap → Prop) (x0 y1 z2 : Value) (h : Heap) : Prop :=
  CallP P 10 [x0, z2, (.int .i64 (5)), (.int .i64 (0))] h fun x25 h_1 =>
  OP (iExt 0 x25) fun x26 =>
  OP (iExt 1 x25) fun x27 =>
  CallP P 10 [y1, z2, (.int .i64 (5)), (.int .i64 (0))] h_1 fun x31 h_2 =>
  OP (iExt 0 x31) fun x32 =>
  OP (iExt 1 x31) fun x33 =>
  OH (iMkSl 35 0 [(.int .i64 (0)), (.int .i64 (0))] h_2 []) fun x34 h_3 =>
  OH (iApp 35 2 16 h_3 x34 x26) fun x36 h_4 =>
  OH (iApp 35 2 16 h_4 x36 x32) fun x38 h_5 =>
  OH (iMkSl 54 0 [(.int .i64 (0)), (.int .i64 (0))] h_5 []) fun x39 h_6 =>
  OH (iApp 54 2 16 h_6 x39 x27) fun x41 h_7 =>
  LoopP [x41, (.int .i64 (0))] h_7 fun L1 xs hx =>
  p9z8 P K x26 x27 x32 x33 x38 L1 xs hx
theorem e9 (P : Program) (K : Value → Heap → Prop) (x0 y1 z2 : Value) (h : Heap) : iwpP P c9 (bodyP [.tmp 6] K) (frame0 [x0, y1, z2]) h = T9 P K x0 y1 z2 h := by kernel_rfl
theorem f9 {K : Value → Heap → Prop} {x0 y1 z2 : Value} {h : Heap} (H : T9 Try.prog K x0 y1 z2 h) : CallP Try.prog 9 [x0, y1, z2] h K :=
  callP_intro k9 (Nat.le_of_ble_eq_true rfl) ((e9 Try.prog K x0 y1 z2 h).mpr H)
end Go.Proofs.Ytelmdbpaoifmoaa
