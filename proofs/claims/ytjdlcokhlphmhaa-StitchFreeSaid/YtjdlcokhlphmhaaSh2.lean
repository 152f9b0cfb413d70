/-
  Ideal code of the functions that the proof reaches, written by program; the kernel holds it against the code.
-/
import Derived.Test.YtjdlcokhlphmhaaProg
import Derived.Test.YtjdlcokhlphmhaaSim20
import Derived.KernelRfl
namespace Go.Proofs.Ytjdlcokhlphmhaa
open Go.Sim
/-! F5: pommel/pommellaw03.StitchPairs -/
def c5z10 : ICode := .ops none [⟨(some 37), .p (.pick (.tmp 33) (.tmp 36) (.const (.bool false)))⟩]
def c5z8 : ICode := .seq (.ops (some (33, true)) [⟨(some 34), .p (.mv (.tmp 9))⟩,
    ⟨(some 35), .p (.lenS (.tmp 34))⟩,
    ⟨(some 36), .p (.bin .gtr (.tmp 35) (.const (.int .i64 (1))))⟩])
 (.cut [2, 7, 8, 9, 10, 33, 36] c5z10)
def c5z6 : ICode := .cond (.tmp 37) (.seq (.ops none [⟨(some 38), .p (.mv (.tmp 2))⟩,
     ⟨(some 39), .p (.lenSl (.tmp 38))⟩,
     ⟨(some 40), .p (.mv (.tmp 9))⟩,
     ⟨(some 41), .p (.lenS (.tmp 40))⟩,
     ⟨(some 42), .p (.bin .sub (.tmp 41) (.const (.int .i64 (1))))⟩,
     ⟨(some 43), .p (.bin .rem (.tmp 39) (.tmp 42))⟩,
     ⟨(some 11), .p (.mv (.tmp 43))⟩])
  (.dops [(none, [⟨(some 44), .p (.mv (.tmp 10)), 0⟩,
    ⟨(some 45), .p (.mv (.tmp 11)), 0⟩,
    ⟨(some 46), .p (.slS (.tmp 44) none (some (.tmp 45))), 3⟩,
    ⟨(some 47), .p (.mv (.tmp 10)), 0⟩,
    ⟨(some 48), .p (.mv (.tmp 11)), 0⟩,
    ⟨(some 49), .p (.bin .add (.tmp 48) (.const (.int .i64 (1)))), 16⟩,
    ⟨(some 50), .p (.mv (.tmp 11)), 0⟩,
    ⟨(some 51), .p (.bin .add (.tmp 50) (.const (.int .i64 (2)))), 64⟩,
    ⟨(some 52), .p (.slS (.tmp 47) (some (.tmp 49)) (some (.tmp 51))), 248⟩,
    ⟨(some 53), .p (.bin .add (.tmp 46) (.tmp 52)), 511⟩,
    ⟨(some 54), .p (.mv (.tmp 10)), 0⟩,
    ⟨(some 55), .p (.mv (.tmp 11)), 0⟩,
    ⟨(some 56), .p (.mv (.tmp 11)), 0⟩,
    ⟨(some 57), .p (.bin .add (.tmp 56) (.const (.int .i64 (1)))), 4096⟩,
    ⟨(some 58), .p (.slS (.tmp 54) (some (.tmp 55)) (some (.tmp 57))), 15360⟩,
    ⟨(some 59), .p (.bin .add (.tmp 53) (.tmp 58)), 32767⟩,
    ⟨(some 60), .p (.mv (.tmp 10)), 0⟩,
    ⟨(some 61), .p (.mv (.tmp 11)), 0⟩,
    ⟨(some 62), .p (.bin .add (.tmp 61) (.const (.int .i64 (2)))), 131072⟩,
    ⟨(some 63), .p (.slS (.tmp 60) (some (.tmp 62)) none), 458752⟩,
    ⟨(some 64), .p (.bin .add (.tmp 59) (.tmp 63)), 1048575⟩,
    ⟨(some 10), .p (.mv (.tmp 64)), 2097151⟩])]))
 (.skip)
def c5z34 : ICode := .ops none [⟨(some 97), .p (.pick (.tmp 91) (.const (.bool true)) (.tmp 96))⟩]
def c5z32 : ICode := .seq (.ops (some (91, false)) [⟨(some 92), .p (.mv (.tmp 8))⟩,
    ⟨(some 93), .p (.mv (.tmp 15))⟩,
    ⟨(some 94), .p (.mv (.tmp 16))⟩,
    ⟨(some 95), .call 33 [(.tmp 92), (.tmp 93), (.tmp 94)]⟩,
    ⟨(some 96), .p (.un .not (.tmp 95))⟩])
 (.cut [7, 8, 9, 10, 12, 13, 14, 15, 16, 91, 96] c5z34)
def c5z38 : ICode := .ops none [⟨(some 109), .p (.pick (.tmp 99) (.tmp 108) (.const (.bool false)))⟩,
   ⟨(some 14), .p (.mv (.tmp 109))⟩]
def c5z36 : ICode := .seq (.ops (some (99, true)) [⟨(some 100), .p (.mv (.tmp 9))⟩,
    ⟨(some 101), .p (.mv (.tmp 15))⟩,
    ⟨(some 102), .p (.mv (.tmp 16))⟩,
    ⟨(some 103), .call 34 [(.tmp 100), (.tmp 101), (.tmp 102)]⟩,
    ⟨(some 104), .p (.mv (.tmp 10))⟩,
    ⟨(some 105), .p (.mv (.tmp 15))⟩,
    ⟨(some 106), .p (.mv (.tmp 16))⟩,
    ⟨(some 107), .call 34 [(.tmp 104), (.tmp 105), (.tmp 106)]⟩,
    ⟨(some 108), .p (.bin .eql (.tmp 103) (.tmp 107))⟩])
 (.cut [7, 8, 9, 10, 12, 13, 15, 16, 99, 108] c5z38)
def c5z30 : ICode := .cond (.tmp 97) (.seq (.ops none [⟨(some 98), .p (.mv (.tmp 14))⟩,
     ⟨(some 99), .p (.mv (.tmp 98))⟩])
  (.cut [7, 8, 9, 10, 12, 13, 15, 16, 99] c5z36))
 (.skip)
def c5z39 : ICode := .ops none [⟨(some 86), .p (.mv (.tmp 16))⟩,
   ⟨(some 87), .p (.bin .add (.tmp 86) (.const (.int .u8 (1))))⟩,
   ⟨(some 16), .p (.mv (.tmp 87))⟩]
def c5z28 : ICode := .cut [7, 8, 9, 10, 12, 13, 14, 15, 16] c5z39
def c5z25 : ICode := .seq (.seq (.ops none [⟨(some 81), .p (.mv (.tmp 16))⟩,
     ⟨(some 82), .p (.bin .sub (.tmp 81) (.const (.int .u8 (97))))⟩,
     ⟨(some 83), .p (.conv .i64 (.tmp 82))⟩,
     ⟨(some 84), .p (.mv (.tmp 7))⟩,
     ⟨(some 85), .p (.bin .lss (.tmp 83) (.tmp 84))⟩])
  (.cond (.tmp 85) (.skip)
  (.exit 2)))
 (.seq (.block 3 (.seq (.seq (.ops none [⟨(some 88), .p (.mv (.tmp 15))⟩,
       ⟨(some 89), .p (.mv (.tmp 16))⟩,
       ⟨(some 90), .p (.bin .eql (.tmp 88) (.tmp 89))⟩,
       ⟨(some 91), .p (.mv (.tmp 90))⟩])
    (.cut [7, 8, 9, 10, 12, 13, 14, 15, 16, 91] c5z32)) c5z30)) c5z28)
def c5z40 : ICode := .ops none [⟨(some 78), .p (.mv (.tmp 15))⟩,
   ⟨(some 79), .p (.bin .add (.tmp 78) (.const (.int .u8 (1))))⟩,
   ⟨(some 15), .p (.mv (.tmp 79))⟩]
def c5z21 : ICode := .cut [7, 8, 9, 10, 12, 13, 14, 15] c5z40
def c5z18 : ICode := .seq (.seq (.ops none [⟨(some 73), .p (.mv (.tmp 15))⟩,
     ⟨(some 74), .p (.bin .sub (.tmp 73) (.const (.int .u8 (97))))⟩,
     ⟨(some 75), .p (.conv .i64 (.tmp 74))⟩,
     ⟨(some 76), .p (.mv (.tmp 7))⟩,
     ⟨(some 77), .p (.bin .lss (.tmp 75) (.tmp 76))⟩])
  (.cond (.tmp 77) (.skip)
  (.exit 0)))
 (.seq (.block 1 (.seq (.ops none [⟨(some 80), .p (.mv (.tmp 15))⟩,
      ⟨(some 16), .p (.mv (.tmp 80))⟩])
   (.block 2 (.loop [7, 8, 9, 10, 12, 13, 15] [14, 16] c5z25)))) c5z21)
def c5z50 : ICode := .ops none [⟨(some 119), .p (.pick (.tmp 117) (.tmp 118) (.const (.bool false)))⟩,
   ⟨(some 6), .p (.mv (.tmp 119))⟩]
def c5z48 : ICode := .seq (.ops (some (117, true)) [⟨(some 118), .call 20 []⟩])
 (.cut [117, 118] c5z50)
def c5z46 : ICode := .seq (.ops none [⟨(some 116), .p (.pick (.tmp 113) (.tmp 115) (.const (.bool false)))⟩,
    ⟨(some 117), .p (.mv (.tmp 116))⟩])
 (.cut [117] c5z48)
def c5z44 : ICode := .seq (.ops (some (113, true)) [⟨(some 114), .p (.mv (.tmp 13))⟩,
    ⟨(some 115), .p (.bin .eql (.tmp 114) (.const (.int .i64 (0))))⟩])
 (.cut [113, 115] c5z46)
def c5z42 : ICode := .ret
def c5z41 : ICode := .seq (.seq (.ops none [⟨(some 110), .p (.mv (.tmp 12))⟩,
     ⟨(some 111), .p (.mv (.tmp 14))⟩,
     ⟨(some 112), .p (.eqb false (.tmp 110) (.tmp 111))⟩,
     ⟨(some 113), .p (.mv (.tmp 112))⟩])
  (.cut [13, 113] c5z44)) c5z42
def c5z15 : ICode := .cut [12, 13, 14] c5z41
def c5z12 : ICode := .seq (.ops none [⟨(some 66), .p (.mv (.tmp 7))⟩,
    ⟨(some 67), .p (.mv (.tmp 8))⟩,
    ⟨(some 68), .p (.mv (.tmp 9))⟩,
    ⟨(some 69), .p (.mv (.tmp 10))⟩,
    ⟨(some 70), .call 18 [(.tmp 66), (.tmp 67), (.tmp 68), (.tmp 69)]⟩,
    ⟨(some 65), .p (.mv (.tmp 70))⟩,
    ⟨(some 71), .p (.ext (.tmp 65) 0)⟩,
    ⟨(some 72), .p (.ext (.tmp 65) 1)⟩,
    ⟨(some 12), .p (.mv (.tmp 71))⟩,
    ⟨(some 13), .p (.mv (.tmp 72))⟩])
 (.seq (.ops none [⟨(some 14), .p (.mv (.const (.bool true)))⟩])
 (.seq (.seq (.ops none [⟨(some 15), .p (.mv (.const (.int .u8 (97))))⟩])
  (.block 0 (.loop [7, 8, 9, 10, 12, 13] [14, 15] c5z18))) c5z15))
def c5z5 : ICode := .cut [7, 8, 9, 10] c5z12
def c5 : ICode := .seq (.ops none [⟨(some 3), .e (.box 54 (.tmp 0))⟩,
    ⟨(some 6), .p (.mv (.const (.bool false)))⟩])
 (.seq (.ops none [⟨(some 18), .l (.load true 2 (.tmp 3))⟩,
    ⟨(some 19), .call 30 [(.tmp 18)]⟩,
    ⟨(some 17), .p (.mv (.tmp 19))⟩,
    ⟨(some 20), .p (.ext (.tmp 17) 0)⟩,
    ⟨(some 21), .p (.ext (.tmp 17) 1)⟩,
    ⟨(some 7), .p (.mv (.tmp 20))⟩,
    ⟨(some 8), .p (.mv (.tmp 21))⟩])
 (.seq (.ops none [⟨(some 22), .p (.mv (.tmp 7))⟩,
    ⟨(some 23), .p (.mv (.tmp 1))⟩,
    ⟨(some 24), .call 31 [(.tmp 22), (.tmp 23), (.const (.int .i64 (40)))]⟩,
    ⟨(some 9), .p (.mv (.tmp 24))⟩])
 (.seq (.ops none [⟨(some 25), .p (.mv (.tmp 8))⟩,
    ⟨(some 26), .p (.mv (.tmp 9))⟩,
    ⟨(some 27), .p (.mv (.tmp 2))⟩,
    ⟨(some 28), .call 32 [(.tmp 25), (.tmp 26), (.tmp 27)]⟩,
    ⟨(some 10), .p (.mv (.tmp 28))⟩])
 (.seq (.seq (.seq (.ops none [⟨(some 29), .p (.mv (.tmp 2))⟩,
      ⟨(some 30), .p (.lenSl (.tmp 29))⟩,
      ⟨(some 31), .p (.bin .rem (.tmp 30) (.const (.int .i64 (3))))⟩,
      ⟨(some 32), .p (.bin .eql (.tmp 31) (.const (.int .i64 (0))))⟩,
      ⟨(some 33), .p (.mv (.tmp 32))⟩])
   (.cut [2, 7, 8, 9, 10, 33] c5z8)) c5z6) c5z5))))
theorem k5 : compFn Try.prog 5 [[], [], [], [], [2, 7, 8, 9, 10, 33], [2, 7, 8, 9, 10, 33, 36], [], [], [7, 8, 9, 10], [], [], [], [7, 8, 9, 10, 12, 13], [14, 15], [], [], [], [7, 8, 9, 10, 12, 13, 15], [14, 16], [], [], [7, 8, 9, 10, 12, 13, 14, 15, 16, 91], [7, 8, 9, 10, 12, 13, 14, 15, 16, 91, 96], [], [7, 8, 9, 10, 12, 13, 15, 16, 99], [7, 8, 9, 10, 12, 13, 15, 16, 99, 108], [7, 8, 9, 10, 12, 13, 14, 15, 16], [7, 8, 9, 10, 12, 13, 14, 15], [12, 13, 14], [13, 113], [113, 115], [117], [117, 118], []] = some (120, c5, [.tmp 6]) := by kernel_rfl
def K5z0 (_P : Program) (K : Value → Heap → Prop) : Exit → (Nat → Value) → Heap → Prop := bodyP [.tmp 6] K
def K5z5 (P : Program) (K : Value → Heap → Prop) : Exit → (Nat → Value) → Heap → Prop := thenK (iwpP P c5z5 (K5z0 P K)) (K5z0 P K)
def K5z6 (P : Program) (K : Value → Heap → Prop) : Exit → (Nat → Value) → Heap → Prop := thenK (iwpP P c5z6 (K5z5 P K)) (K5z5 P K)
def K5z15 (P : Program) (K : Value → Heap → Prop) : Exit → (Nat → Value) → Heap → Prop := thenK (iwpP P c5z15 (K5z0 P K)) (K5z0 P K)
def K5z17 (P : Program) (K : Value → Heap → Prop) : Exit → (Nat → Value) → Heap → Prop := inBlockK 0 (K5z15 P K)
def K5z18 (P : Program) (K : Value → Heap → Prop) (k7 p8 s9 t10 is12 e13 : Value) (L1 : List Value → Heap → Prop) : Exit → (Nat → Value) → Heap → Prop := thenK (fun f' h'' => (([7, 8, 9, 10, 12, 13] : List Nat).map f' : List Value) = [k7, p8, s9, t10, is12, e13] ∧ L1 (([14, 15] : List Nat).map f') h'') (K5z17 P K)
def K5z21 (P : Program) (K : Value → Heap → Prop) (k7 p8 s9 t10 is12 e13 : Value) (L1 : List Value → Heap → Prop) : Exit → (Nat → Value) → Heap → Prop := thenK (iwpP P c5z21 (K5z18 P K k7 p8 s9 t10 is12 e13 L1)) (K5z18 P K k7 p8 s9 t10 is12 e13 L1)
def K5z22 (P : Program) (K : Value → Heap → Prop) (k7 p8 s9 t10 is12 e13 : Value) (L1 : List Value → Heap → Prop) : Exit → (Nat → Value) → Heap → Prop := inBlockK 1 (K5z21 P K k7 p8 s9 t10 is12 e13 L1)
def K5z24 (P : Program) (K : Value → Heap → Prop) (k7 p8 s9 t10 is12 e13 : Value) (L1 : List Value → Heap → Prop) : Exit → (Nat → Value) → Heap → Prop := inBlockK 2 (K5z22 P K k7 p8 s9 t10 is12 e13 L1)
def K5z25 (P : Program) (K : Value → Heap → Prop) (k7 p8 s9 t10 is12 e13 a15 : Value) (L1 L2 : List Value → Heap → Prop) : Exit → (Nat → Value) → Heap → Prop := thenK (fun f' h'' => (([7, 8, 9, 10, 12, 13, 15] : List Nat).map f' : List Value) = [k7, p8, s9, t10, is12, e13, a15] ∧ L2 (([14, 16] : List Nat).map f') h'') (K5z24 P K k7 p8 s9 t10 is12 e13 L1)
def K5z28 (P : Program) (K : Value → Heap → Prop) (k7 p8 s9 t10 is12 e13 a15 : Value) (L1 L2 : List Value → Heap → Prop) : Exit → (Nat → Value) → Heap → Prop := thenK (iwpP P c5z28 (K5z25 P K k7 p8 s9 t10 is12 e13 a15 L1 L2)) (K5z25 P K k7 p8 s9 t10 is12 e13 a15 L1 L2)
def K5z29 (P : Program) (K : Value → Heap → Prop) (k7 p8 s9 t10 is12 e13 a15 : Value) (L1 L2 : List Value → Heap → Prop) : Exit → (Nat → Value) → Heap → Prop := inBlockK 3 (K5z28 P K k7 p8 s9 t10 is12 e13 a15 L1 L2)
def K5z30 (P : Program) (K : Value → Heap → Prop) (k7 p8 s9 t10 is12 e13 a15 : Value) (L1 L2 : List Value → Heap → Prop) : Exit → (Nat → Value) → Heap → Prop := thenK (iwpP P c5z30 (K5z29 P K k7 p8 s9 t10 is12 e13 a15 L1 L2)) (K5z29 P K k7 p8 s9 t10 is12 e13 a15 L1 L2)
def K5z42 (P : Program) (K : Value → Heap → Prop) : Exit → (Nat → Value) → Heap → Prop := thenK (iwpP P c5z42 (K5z0 P K)) (K5z0 P K)
def p5z8 (P : Program) (K : Value → Heap → Prop) (by2 k7 p8 s9 t10 x33 : Value) (h : Heap) : Prop := CutP (iwpP P c5z8 (K5z6 P K)) [2, 7, 8, 9, 10, 33] [by2, k7, p8, s9, t10, x33] h
def p5z10 (P : Program) (K : Value → Heap → Prop) (by2 k7 p8 s9 t10 x33 x36 : Value) (h : Heap) : Prop := CutP (iwpP P c5z10 (K5z6 P K)) [2, 7, 8, 9, 10, 33, 36] [by2, k7, p8, s9, t10, x33, x36] h
def p5z12 (P : Program) (K : Value → Heap → Prop) (k7 p8 s9 t10 : Value) (h : Heap) : Prop := CutP (iwpP P c5z12 (K5z0 P K)) [7, 8, 9, 10] [k7, p8, s9, t10] h
def p5z18 (P : Program) (K : Value → Heap → Prop) (k7 p8 s9 t10 is12 e13 : Value) (L1 : List Value → Heap → Prop) (xs : List Value) (h : Heap) : Prop := CutP (iwpP P c5z18 (K5z18 P K k7 p8 s9 t10 is12 e13 L1)) ([7, 8, 9, 10, 12, 13] ++ [14, 15]) ([k7, p8, s9, t10, is12, e13] ++ xs) h
def p5z25 (P : Program) (K : Value → Heap → Prop) (k7 p8 s9 t10 is12 e13 a15 : Value) (L1 L2 : List Value → Heap → Prop) (xs : List Value) (h : Heap) : Prop := CutP (iwpP P c5z25 (K5z25 P K k7 p8 s9 t10 is12 e13 a15 L1 L2)) ([7, 8, 9, 10, 12, 13, 15] ++ [14, 16]) ([k7, p8, s9, t10, is12, e13, a15] ++ xs) h
def p5z32 (P : Program) (K : Value → Heap → Prop) (k7 p8 s9 t10 is12 e13 want14 a15 d16 x91 : Value) (L1 L2 : List Value → Heap → Prop) (h : Heap) : Prop := CutP (iwpP P c5z32 (K5z30 P K k7 p8 s9 t10 is12 e13 a15 L1 L2)) [7, 8, 9, 10, 12, 13, 14, 15, 16, 91] [k7, p8, s9, t10, is12, e13, want14, a15, d16, x91] h
def p5z34 (P : Program) (K : Value → Heap → Prop) (k7 p8 s9 t10 is12 e13 want14 a15 d16 x91 x96 : Value) (L1 L2 : List Value → Heap → Prop) (h : Heap) : Prop := CutP (iwpP P c5z34 (K5z30 P K k7 p8 s9 t10 is12 e13 a15 L1 L2)) [7, 8, 9, 10, 12, 13, 14, 15, 16, 91, 96] [k7, p8, s9, t10, is12, e13, want14, a15, d16, x91, x96] h
def p5z36 (P : Program) (K : Value → Heap → Prop) (k7 p8 s9 t10 is12 e13 a15 d16 x99 : Value) (L1 L2 : List Value → Heap → Prop) (h : Heap) : Prop := CutP (iwpP P c5z36 (K5z29 P K k7 p8 s9 t10 is12 e13 a15 L1 L2)) [7, 8, 9, 10, 12, 13, 15, 16, 99] [k7, p8, s9, t10, is12, e13, a15, d16, x99] h
def p5z38 (P : Program) (K : Value → Heap → Prop) (k7 p8 s9 t10 is12 e13 a15 d16 x99 x108 : Value) (L1 L2 : List Value → Heap → Prop) (h : Heap) : Prop := CutP (iwpP P c5z38 (K5z29 P K k7 p8 s9 t10 is12 e13 a15 L1 L2)) [7, 8, 9, 10, 12, 13, 15, 16, 99, 108] [k7, p8, s9, t10, is12, e13, a15, d16, x99, x108] h
def p5z39 (P : Program) (K : Value → Heap → Prop) (k7 p8 s9 t10 is12 e13 want14 a15 d16 : Value) (L1 L2 : List Value → Heap → Prop) (h : Heap) : Prop := CutP (iwpP P c5z39 (K5z25 P K k7 p8 s9 t10 is12 e13 a15 L1 L2)) [7, 8, 9, 10, 12, 13, 14, 15, 16] [k7, p8, s9, t10, is12, e13, want14, a15, d16] h
def p5z40 (P : Program) (K : Value → Heap → Prop) (k7 p8 s9 t10 is12 e13 want14 a15 : Value) (L1 : List Value → Heap → Prop) (h : Heap) : Prop := CutP (iwpP P c5z40 (K5z18 P K k7 p8 s9 t10 is12 e13 L1)) [7, 8, 9, 10, 12, 13, 14, 15] [k7, p8, s9, t10, is12, e13, want14, a15] h
def p5z41 (P : Program) (K : Value → Heap → Prop) (is12 e13 want14 : Value) (h : Heap) : Prop := CutP (iwpP P c5z41 (K5z0 P K)) [12, 13, 14] [is12, e13, want14] h
def p5z44 (P : Program) (K : Value → Heap → Prop) (e13 x113 : Value) (h : Heap) : Prop := CutP (iwpP P c5z44 (K5z42 P K)) [13, 113] [e13, x113] h
def p5z46 (P : Program) (K : Value → Heap → Prop) (x113 x115 : Value) (h : Heap) : Prop := CutP (iwpP P c5z46 (K5z42 P K)) [113, 115] [x113, x115] h
def p5z48 (P : Program) (K : Value → Heap → Prop) (x117 : Value) (h : Heap) : Prop := CutP (iwpP P c5z48 (K5z42 P K)) [117] [x117] h
def p5z50 (P : Program) (K : Value → Heap → Prop) (x117 x118 : Value) (h : Heap) : Prop := CutP (iwpP P c5z50 (K5z42 P K)) [117, 118] [x117, x118] h
theorem q5z10 (P : Program) (K : Value → Heap → Prop) (by2 k7 p8 s9 t10 x33 x36 : Value) (h : Heap) : p5z10 P K by2 k7 p8 s9 t10 x33 x36 h =
  (OP (iPick x33 x36 (.bool false)) fun x37 =>
  IfP x37
    (OP (iLenSl by2) fun x39 =>
    OP (iLenS s9) fun x41 =>
    OP (iBin .sub x41 (.int .i64 (1))) fun x42 =>
    OP (iBin .rem x39 x42) fun x43 =>
    OP (iSlS t10 none (some x43)) fun x46 =>
    OP (iBin .add x43 (.int .i64 (1))) fun x49 =>
    OP (iBin .add x43 (.int .i64 (2))) fun x51 =>
    OP (iSlS t10 (some x49) (some x51)) fun x52 =>
    OP (iBin .add x46 x52) fun x53 =>
    OP (iBin .add x43 (.int .i64 (1))) fun x57 =>
    OP (iSlS t10 (some x43) (some x57)) fun x58 =>
    OP (iBin .add x53 x58) fun x59 =>
    OP (iBin .add x43 (.int .i64 (2))) fun x62 =>
    OP (iSlS t10 (some x62) none) fun x63 =>
    OP (iBin .add x59 x63) fun x64 =>
    p5z12 P K k7 p8 s9 x64 h)
    (p5z12 P K k7 p8 s9 t10 h)) := (CutP_def _ _ _ _).trans (by kernel_rfl)
theorem q5z8 (P : Program) (K : Value → Heap → Prop) (by2 k7 p8 s9 t10 x33 : Value) (h : Heap) : p5z8 P K by2 k7 p8 s9 t10 x33 h =
  (GdP x33 true
    (OP (iLenS s9) fun x35 =>
    OP (iBin .gtr x35 (.int .i64 (1))) fun x36 =>
    p5z10 P K by2 k7 p8 s9 t10 x33 x36 h)
    (p5z10 P K by2 k7 p8 s9 t10 x33 undef h)) := (CutP_def _ _ _ _).trans (by kernel_rfl)
theorem q5z34 (P : Program) (K : Value → Heap → Prop) (k7 p8 s9 t10 is12 e13 want14 a15 d16 x91 x96 : Value) (L1 L2 : List Value → Heap → Prop) (h : Heap) : p5z34 P K k7 p8 s9 t10 is12 e13 want14 a15 d16 x91 x96 L1 L2 h =
  (OP (iPick x91 (.bool true) x96) fun x97 =>
  IfP x97
    (p5z36 P K k7 p8 s9 t10 is12 e13 a15 d16 want14 L1 L2 h)
    (p5z39 P K k7 p8 s9 t10 is12 e13 want14 a15 d16 L1 L2 h)) := (CutP_def _ _ _ _).trans (by kernel_rfl)
theorem q5z32 (P : Program) (K : Value → Heap → Prop) (k7 p8 s9 t10 is12 e13 want14 a15 d16 x91 : Value) (L1 L2 : List Value → Heap → Prop) (h : Heap) : p5z32 P K k7 p8 s9 t10 is12 e13 want14 a15 d16 x91 L1 L2 h =
  (GdP x91 false
    (CallP P 33 [p8, a15, d16] h fun x95 h_1 =>
    OP (iUn .not x95) fun x96 =>
    p5z34 P K k7 p8 s9 t10 is12 e13 want14 a15 d16 x91 x96 L1 L2 h_1)
    (p5z34 P K k7 p8 s9 t10 is12 e13 want14 a15 d16 x91 undef L1 L2 h)) := (CutP_def _ _ _ _).trans (by kernel_rfl)
theorem q5z38 (P : Program) (K : Value → Heap → Prop) (k7 p8 s9 t10 is12 e13 a15 d16 x99 x108 : Value) (L1 L2 : List Value → Heap → Prop) (h : Heap) : p5z38 P K k7 p8 s9 t10 is12 e13 a15 d16 x99 x108 L1 L2 h =
  (OP (iPick x99 x108 (.bool false)) fun x109 =>
  p5z39 P K k7 p8 s9 t10 is12 e13 x109 a15 d16 L1 L2 h) := (CutP_def _ _ _ _).trans (by kernel_rfl)
theorem q5z36 (P : Program) (K : Value → Heap → Prop) (k7 p8 s9 t10 is12 e13 a15 d16 x99 : Value) (L1 L2 : List Value → Heap → Prop) (h : Heap) : p5z36 P K k7 p8 s9 t10 is12 e13 a15 d16 x99 L1 L2 h =
  (GdP x99 true
    (CallP P 34 [s9, a15, d16] h fun x103 h_1 =>
    CallP P 34 [t10, a15, d16] h_1 fun x107 h_2 =>
    OP (iBin .eql x103 x107) fun x108 =>
    p5z38 P K k7 p8 s9 t10 is12 e13 a15 d16 x99 x108 L1 L2 h_2)
    (p5z38 P K k7 p8 s9 t10 is12 e13 a15 d16 x99 undef L1 L2 h)) := (CutP_def _ _ _ _).trans (by kernel_rfl)
theorem q5z39 (P : Program) (K : Value → Heap → Prop) (k7 p8 s9 t10 is12 e13 want14 a15 d16 : Value) (L1 L2 : List Value → Heap → Prop) (h : Heap) : p5z39 P K k7 p8 s9 t10 is12 e13 want14 a15 d16 L1 L2 h =
  (OP (iBin .add d16 (.int .u8 (1))) fun x87 =>
  ([k7, p8, s9, t10, is12, e13, a15] : List Value) = [k7, p8, s9, t10, is12, e13, a15] ∧ L2 [want14, x87] h) := (CutP_def _ _ _ _).trans (by kernel_rfl)
theorem q5z25 (P : Program) (K : Value → Heap → Prop) (k7 p8 s9 t10 is12 e13 a15 : Value) (L1 L2 : List Value → Heap → Prop) (want14 d16 : Value) (h : Heap) : p5z25 P K k7 p8 s9 t10 is12 e13 a15 L1 L2 [want14, d16] h =
  (OP (iBin .sub d16 (.int .u8 (97))) fun x82 =>
  OP (iConv .i64 x82) fun x83 =>
  OP (iBin .lss x83 k7) fun x85 =>
  IfP x85
    (OP (iBin .eql a15 d16) fun x90 =>
    p5z32 P K k7 p8 s9 t10 is12 e13 want14 a15 d16 x90 L1 L2 h)
    (p5z40 P K k7 p8 s9 t10 is12 e13 want14 a15 L1 h)) := (CutP_def _ _ _ _).trans (by kernel_rfl)
theorem q5z40 (P : Program) (K : Value → Heap → Prop) (k7 p8 s9 t10 is12 e13 want14 a15 : Value) (L1 : List Value → Heap → Prop) (h : Heap) : p5z40 P K k7 p8 s9 t10 is12 e13 want14 a15 L1 h =
  (OP (iBin .add a15 (.int .u8 (1))) fun x79 =>
  ([k7, p8, s9, t10, is12, e13] : List Value) = [k7, p8, s9, t10, is12, e13] ∧ L1 [want14, x79] h) := (CutP_def _ _ _ _).trans (by kernel_rfl)
theorem q5z18 (P : Program) (K : Value → Heap → Prop) (k7 p8 s9 t10 is12 e13 : Value) (L1 : List Value → Heap → Prop) (want14 a15 : Value) (h : Heap) : p5z18 P K k7 p8 s9 t10 is12 e13 L1 [want14, a15] h =
  (OP (iBin .sub a15 (.int .u8 (97))) fun x74 =>
  OP (iConv .i64 x74) fun x75 =>
  OP (iBin .lss x75 k7) fun x77 =>
  IfP x77
    (LoopP [want14, a15] h fun L2 xs hx =>
    p5z25 P K k7 p8 s9 t10 is12 e13 a15 L1 L2 xs hx)
    (p5z41 P K is12 e13 want14 h)) := (CutP_def _ _ _ _).trans (by kernel_rfl)
theorem q5z50 (P : Program) (K : Value → Heap → Prop) (x117 x118 : Value) (h : Heap) : p5z50 P K x117 x118 h =
  (OP (iPick x117 x118 (.bool false)) fun x119 =>
  K x119 h) := (CutP_def _ _ _ _).trans (by kernel_rfl)
theorem q5z48 (P : Program) (K : Value → Heap → Prop) (x117 : Value) (h : Heap) : p5z48 P K x117 h =
  (GdP x117 true
    (CallP P 20 [] h fun x118 h_1 =>
    p5z50 P K x117 x118 h_1)
    (p5z50 P K x117 undef h)) := (CutP_def _ _ _ _).trans (by kernel_rfl)
theorem q5z46 (P : Program) (K : Value → Heap → Prop) (x113 x115 : Value) (h : Heap) : p5z46 P K x113 x115 h =
  (OP (iPick x113 x115 (.bool false)) fun x116 =>
  p5z48 P K x116 h) := (CutP_def _ _ _ _).trans (by kernel_rfl)
theorem q5z44 (P : Program) (K : Value → Heap → Prop) (e13 x113 : Value) (h : Heap) : p5z44 P K e13 x113 h =
  (GdP x113 true
    (OP (iBin .eql e13 (.int .i64 (0))) fun x115 =>
    p5z46 P K x113 x115 h)
    (p5z46 P K x113 undef h)) := (CutP_def _ _ _ _).trans (by kernel_rfl)
theorem q5z41 (P : Program) (K : Value → Heap → Prop) (is12 e13 want14 : Value) (h : Heap) : p5z41 P K is12 e13 want14 h =
  (OP (iEqb false is12 want14) fun x112 =>
  p5z44 P K e13 x112 h) := (CutP_def _ _ _ _).trans (by kernel_rfl)
theorem q5z12 (P : Program) (K : Value → Heap → Prop) (k7 p8 s9 t10 : Value) (h : Heap) : p5z12 P K k7 p8 s9 t10 h =
  (CallP P 18 [k7, p8, s9, t10] h fun x70 h_1 =>
  OP (iExt 0 x70) fun x71 =>
  OP (iExt 1 x70) fun x72 =>
  LoopP [(.bool true), (.int .u8 (97))] h_1 fun L1 xs hx =>
  p5z18 P K k7 p8 s9 t10 x71 x72 L1 xs hx) := (CutP_def _ _ _ _).trans (by kernel_rfl)
def T5 (P : Program) (K : Value → Heap → Prop) (c0 x1 by2 : Value) (h : Heap) : Prop :=
  OH (iBox 54 h c0) fun c3 h_1 =>
  OP (iLoad true 2 h_1 c3) fun x18 =>
  CallP P 30 [x18] h_1 fun x19 h_2 =>
  OP (iExt 0 x19) fun x20 =>
  OP (iExt 1 x19) fun x21 =>
  CallP P 31 [x20, x1, (.int .i64 (40))] h_2 fun x24 h_3 =>
  CallP P 32 [x21, x24, by2] h_3 fun x28 h_4 =>
  OP (iLenSl by2) fun x30 =>
  OP (iBin .rem x30 (.int .i64 (3))) fun x31 =>
  OP (iBin .eql x31 (.int .i64 (0))) fun x32 =>
  p5z8 P K by2 x20 x21 x24 x28 x32 h_4
theorem e5 (P : Program) (K : Value → Heap → Prop) (c0 x1 by2 : Value) (h : Heap) : iwpP P c5 (bodyP [.tmp 6] K) (frame0 [c0, x1, by2]) h = T5 P K c0 x1 by2 h := by kernel_rfl
theorem f5 {K : Value → Heap → Prop} {c0 x1 by2 : Value} {h : Heap} (H : T5 Try.prog K c0 x1 by2 h) : CallP Try.prog 5 [c0, x1, by2] h K :=
  callP_intro k5 (Nat.le_of_ble_eq_true rfl) ((e5 Try.prog K c0 x1 by2 h).mpr H)
/-! F10: pommel/pommellaw03.StitchRests -/
def c10z19 : ICode := .ops none [⟨(some 58), .p (.pick (.tmp 56) (.tmp 57) (.const (.bool false)))⟩,
   ⟨(some 6), .p (.mv (.tmp 58))⟩]
def c10z17 : ICode := .seq (.ops (some (56, true)) [⟨(some 57), .call 20 []⟩])
 (.cut [56, 57] c10z19)
def c10z15 : ICode := .seq (.ops none [⟨(some 55), .p (.pick (.tmp 52) (.tmp 54) (.const (.bool false)))⟩,
    ⟨(some 56), .p (.mv (.tmp 55))⟩])
 (.cut [56] c10z17)
def c10z13 : ICode := .seq (.ops (some (52, true)) [⟨(some 53), .p (.mv (.tmp 12))⟩,
    ⟨(some 54), .p (.bin .eql (.tmp 53) (.const (.int .i64 (0))))⟩])
 (.cut [52, 54] c10z15)
def c10z11 : ICode := .ret
def c10z9 : ICode := .ops none [⟨(some 13), .p (.mv (.const (.int .i64 (5))))⟩]
def c10z29 : ICode := .ops none [⟨(some 68), .p (.pick (.tmp 66) (.tmp 67) (.const (.bool false)))⟩,
   ⟨(some 6), .p (.mv (.tmp 68))⟩]
def c10z27 : ICode := .seq (.ops (some (66, true)) [⟨(some 67), .call 20 []⟩])
 (.cut [66, 67] c10z29)
def c10z25 : ICode := .seq (.ops none [⟨(some 65), .p (.pick (.tmp 61) (.tmp 64) (.const (.bool false)))⟩,
    ⟨(some 66), .p (.mv (.tmp 65))⟩])
 (.cut [66] c10z27)
def c10z23 : ICode := .seq (.ops (some (61, true)) [⟨(some 62), .p (.mv (.tmp 12))⟩,
    ⟨(some 63), .p (.mv (.tmp 13))⟩,
    ⟨(some 64), .p (.bin .eql (.tmp 62) (.tmp 63))⟩])
 (.cut [61, 64] c10z25)
def c10z21 : ICode := .ret
def c10z20 : ICode := .seq (.seq (.ops none [⟨(some 59), .p (.mv (.tmp 11))⟩,
     ⟨(some 60), .p (.bin .eql (.tmp 59) (.const (.string ⟨#[]⟩)))⟩,
     ⟨(some 61), .p (.mv (.tmp 60))⟩])
  (.cut [12, 13, 61] c10z23)) c10z21
def c10z6 : ICode := .cut [11, 12, 13] c10z20
def c10 : ICode := .seq (.ops none [⟨(some 3), .e (.box 24 (.tmp 0))⟩,
    ⟨(some 6), .p (.mv (.const (.bool false)))⟩])
 (.seq (.ops none [⟨(some 17), .l (.load true 2 (.tmp 3))⟩,
    ⟨(some 18), .call 16 [(.tmp 17)]⟩,
    ⟨(some 16), .p (.mv (.tmp 18))⟩,
    ⟨(some 19), .p (.ext (.tmp 16) 0)⟩,
    ⟨(some 20), .p (.ext (.tmp 16) 1)⟩,
    ⟨(some 7), .p (.mv (.tmp 19))⟩,
    ⟨(some 8), .p (.mv (.tmp 20))⟩])
 (.seq (.ops none [⟨(some 21), .p (.mv (.tmp 1))⟩,
    ⟨(some 22), .call 17 [(.tmp 21), (.const (.int .i64 (41)))]⟩,
    ⟨(some 23), .p (.mv (.tmp 2))⟩,
    ⟨(some 24), .call 17 [(.tmp 23), (.const (.int .i64 (41)))]⟩,
    ⟨(some 9), .p (.mv (.tmp 22))⟩,
    ⟨(some 10), .p (.mv (.tmp 24))⟩])
 (.seq (.ops none [⟨(some 26), .p (.mv (.tmp 7))⟩,
    ⟨(some 27), .p (.mv (.tmp 8))⟩,
    ⟨(some 28), .p (.mv (.tmp 9))⟩,
    ⟨(some 29), .p (.mv (.tmp 10))⟩,
    ⟨(some 30), .call 51 [(.tmp 26), (.tmp 27), (.tmp 28), (.tmp 29)]⟩,
    ⟨(some 25), .p (.mv (.tmp 30))⟩,
    ⟨(some 31), .p (.ext (.tmp 25) 0)⟩,
    ⟨(some 32), .p (.ext (.tmp 25) 1)⟩,
    ⟨(some 11), .p (.mv (.tmp 31))⟩,
    ⟨(some 12), .p (.mv (.tmp 32))⟩])
 (.seq (.ops none [⟨(some 33), .p (.mv (.tmp 7))⟩,
    ⟨(some 34), .p (.mv (.tmp 8))⟩,
    ⟨(some 35), .p (.mv (.tmp 9))⟩,
    ⟨(some 36), .p (.mv (.tmp 10))⟩,
    ⟨(some 37), .e (.mkSl 9 2 [(.string ⟨#[]⟩)] [(0, 1, (.tmp 35)), (1, 1, (.tmp 36))])⟩,
    ⟨(some 38), .call 19 [(.tmp 33), (.tmp 34), (.const (.int .i64 (40))), (.tmp 37)]⟩,
    ⟨(some 13), .p (.mv (.tmp 38))⟩])
 (.seq (.seq (.ops none [⟨(some 39), .p (.mv (.tmp 13))⟩,
     ⟨(some 40), .p (.bin .eql (.tmp 39) (.const (.int .i64 (0))))⟩])
  (.cond (.tmp 40) (.seq (.ops none [⟨(some 42), .p (.mv (.tmp 8))⟩,
      ⟨(some 43), .p (.mv (.tmp 9))⟩,
      ⟨(some 44), .p (.mv (.tmp 10))⟩,
      ⟨(some 45), .call 52 [(.tmp 42), (.tmp 43), (.tmp 44)]⟩,
      ⟨(some 41), .p (.mv (.tmp 45))⟩,
      ⟨(some 46), .p (.ext (.tmp 41) 0)⟩,
      ⟨(some 47), .p (.ext (.tmp 41) 1)⟩,
      ⟨(some 14), .p (.mv (.tmp 46))⟩,
      ⟨(some 15), .p (.mv (.tmp 47))⟩])
   (.seq (.seq (.ops none [⟨(some 48), .p (.mv (.tmp 15))⟩])
    (.cond (.tmp 48) (.seq (.seq (.ops none [⟨(some 49), .p (.mv (.tmp 11))⟩,
         ⟨(some 50), .p (.mv (.tmp 14))⟩,
         ⟨(some 51), .p (.bin .eql (.tmp 49) (.tmp 50))⟩,
         ⟨(some 52), .p (.mv (.tmp 51))⟩])
      (.cut [12, 52] c10z13)) c10z11)
    (.skip))) c10z9))
  (.skip))) c10z6)))))
theorem k10 : compFn Try.prog 10 [[], [], [], [], [], [], [], [], [12, 52], [52, 54], [56], [56, 57], [], [], [11, 12, 13], [12, 13, 61], [61, 64], [66], [66, 67], []] = some (69, c10, [.tmp 6]) := by kernel_rfl
def K10z0 (_P : Program) (K : Value → Heap → Prop) : Exit → (Nat → Value) → Heap → Prop := bodyP [.tmp 6] K
def K10z6 (P : Program) (K : Value → Heap → Prop) : Exit → (Nat → Value) → Heap → Prop := thenK (iwpP P c10z6 (K10z0 P K)) (K10z0 P K)
def K10z9 (P : Program) (K : Value → Heap → Prop) : Exit → (Nat → Value) → Heap → Prop := thenK (iwpP P c10z9 (K10z6 P K)) (K10z6 P K)
def K10z11 (P : Program) (K : Value → Heap → Prop) : Exit → (Nat → Value) → Heap → Prop := thenK (iwpP P c10z11 (K10z9 P K)) (K10z9 P K)
def K10z21 (P : Program) (K : Value → Heap → Prop) : Exit → (Nat → Value) → Heap → Prop := thenK (iwpP P c10z21 (K10z0 P K)) (K10z0 P K)
def p10z13 (P : Program) (K : Value → Heap → Prop) (e12 x52 : Value) (h : Heap) : Prop := CutP (iwpP P c10z13 (K10z11 P K)) [12, 52] [e12, x52] h
def p10z15 (P : Program) (K : Value → Heap → Prop) (x52 x54 : Value) (h : Heap) : Prop := CutP (iwpP P c10z15 (K10z11 P K)) [52, 54] [x52, x54] h
def p10z17 (P : Program) (K : Value → Heap → Prop) (x56 : Value) (h : Heap) : Prop := CutP (iwpP P c10z17 (K10z11 P K)) [56] [x56] h
def p10z19 (P : Program) (K : Value → Heap → Prop) (x56 x57 : Value) (h : Heap) : Prop := CutP (iwpP P c10z19 (K10z11 P K)) [56, 57] [x56, x57] h
def p10z20 (P : Program) (K : Value → Heap → Prop) (r11 e12 bad13 : Value) (h : Heap) : Prop := CutP (iwpP P c10z20 (K10z0 P K)) [11, 12, 13] [r11, e12, bad13] h
def p10z23 (P : Program) (K : Value → Heap → Prop) (e12 bad13 x61 : Value) (h : Heap) : Prop := CutP (iwpP P c10z23 (K10z21 P K)) [12, 13, 61] [e12, bad13, x61] h
def p10z25 (P : Program) (K : Value → Heap → Prop) (x61 x64 : Value) (h : Heap) : Prop := CutP (iwpP P c10z25 (K10z21 P K)) [61, 64] [x61, x64] h
def p10z27 (P : Program) (K : Value → Heap → Prop) (x66 : Value) (h : Heap) : Prop := CutP (iwpP P c10z27 (K10z21 P K)) [66] [x66] h
def p10z29 (P : Program) (K : Value → Heap → Prop) (x66 x67 : Value) (h : Heap) : Prop := CutP (iwpP P c10z29 (K10z21 P K)) [66, 67] [x66, x67] h
theorem q10z19 (P : Program) (K : Value → Heap → Prop) (x56 x57 : Value) (h : Heap) : p10z19 P K x56 x57 h =
  (OP (iPick x56 x57 (.bool false)) fun x58 =>
  K x58 h) := (CutP_def _ _ _ _).trans (by kernel_rfl)
theorem q10z17 (P : Program) (K : Value → Heap → Prop) (x56 : Value) (h : Heap) : p10z17 P K x56 h =
  (GdP x56 true
    (CallP P 20 [] h fun x57 h_1 =>
    p10z19 P K x56 x57 h_1)
    (p10z19 P K x56 undef h)) := (CutP_def _ _ _ _).trans (by kernel_rfl)
theorem q10z15 (P : Program) (K : Value → Heap → Prop) (x52 x54 : Value) (h : Heap) : p10z15 P K x52 x54 h =
  (OP (iPick x52 x54 (.bool false)) fun x55 =>
  p10z17 P K x55 h) := (CutP_def _ _ _ _).trans (by kernel_rfl)
theorem q10z13 (P : Program) (K : Value → Heap → Prop) (e12 x52 : Value) (h : Heap) : p10z13 P K e12 x52 h =
  (GdP x52 true
    (OP (iBin .eql e12 (.int .i64 (0))) fun x54 =>
    p10z15 P K x52 x54 h)
    (p10z15 P K x52 undef h)) := (CutP_def _ _ _ _).trans (by kernel_rfl)
theorem q10z29 (P : Program) (K : Value → Heap → Prop) (x66 x67 : Value) (h : Heap) : p10z29 P K x66 x67 h =
  (OP (iPick x66 x67 (.bool false)) fun x68 =>
  K x68 h) := (CutP_def _ _ _ _).trans (by kernel_rfl)
theorem q10z27 (P : Program) (K : Value → Heap → Prop) (x66 : Value) (h : Heap) : p10z27 P K x66 h =
  (GdP x66 true
    (CallP P 20 [] h fun x67 h_1 =>
    p10z29 P K x66 x67 h_1)
    (p10z29 P K x66 undef h)) := (CutP_def _ _ _ _).trans (by kernel_rfl)
theorem q10z25 (P : Program) (K : Value → Heap → Prop) (x61 x64 : Value) (h : Heap) : p10z25 P K x61 x64 h =
  (OP (iPick x61 x64 (.bool false)) fun x65 =>
  p10z27 P K x65 h) := (CutP_def _ _ _ _).trans (by kernel_rfl)
theorem q10z23 (P : Program) (K : Value → Heap → Prop) (e12 bad13 x61 : Value) (h : Heap) : p10z23 P K e12 bad13 x61 h =
  (GdP x61 true
    (OP (iBin .eql e12 bad13) fun x64 =>
    p10z25 P K x61 x64 h)
    (p10z25 P K x61 undef h)) := (CutP_def _ _ _ _).trans (by kernel_rfl)
theorem q10z20 (P : Program) (K : Value → Heap → Prop) (r11 e12 bad13 : Value) (h : Heap) : p10z20 P K r11 e12 bad13 h =
  (OP (iBin .eql r11 (.string ⟨#[]⟩)) fun x60 =>
  p10z23 P K e12 bad13 x60 h) := (CutP_def _ _ _ _).trans (by kernel_rfl)
def T10 (P : Program) (K : Value → Heap → Prop) (t0 x1 y2 : Value) (h : Heap) : Prop :=
  OH (iBox 24 h t0) fun t3 h_1 =>
  OP (iLoad true 2 h_1 t3) fun x17 =>
  CallP P 16 [x17] h_1 fun x18 h_2 =>
  OP (iExt 0 x18) fun x19 =>
  OP (iExt 1 x18) fun x20 =>
  CallP P 17 [x1, (.int .i64 (41))] h_2 fun x22 h_3 =>
  CallP P 17 [y2, (.int .i64 (41))] h_3 fun x24 h_4 =>
  CallP P 51 [x19, x20, x22, x24] h_4 fun x30 h_5 =>
  OP (iExt 0 x30) fun x31 =>
  OP (iExt 1 x30) fun x32 =>
  OH (iMkSl 9 2 [(.string ⟨#[]⟩)] h_5 [(0, 1, x22), (1, 1, x24)]) fun x37 h_6 =>
  CallP P 19 [x19, x20, (.int .i64 (40)), x37] h_6 fun x38 h_7 =>
  OP (iBin .eql x38 (.int .i64 (0))) fun x40 =>
  IfP x40
    (CallP P 52 [x20, x22, x24] h_7 fun x45 h_8 =>
    OP (iExt 0 x45) fun x46 =>
    OP (iExt 1 x45) fun x47 =>
    IfP x47
      (OP (iBin .eql x31 x46) fun x51 =>
      p10z13 P K x32 x51 h_8)
      (p10z20 P K x31 x32 (.int .i64 (5)) h_8))
    (p10z20 P K x31 x32 x38 h_7)
theorem e10 (P : Program) (K : Value → Heap → Prop) (t0 x1 y2 : Value) (h : Heap) : iwpP P c10 (bodyP [.tmp 6] K) (frame0 [t0, x1, y2]) h = T10 P K t0 x1 y2 h := by kernel_rfl
theorem f10 {K : Value → Heap → Prop} {t0 x1 y2 : Value} {h : Heap} (H : T10 Try.prog K t0 x1 y2 h) : CallP Try.prog 10 [t0, x1, y2] h K :=
  callP_intro k10 (Nat.le_of_ble_eq_true rfl) ((e10 Try.prog K t0 x1 y2 h).mpr H)
/-! F30: (pommel/pommellaw03.Cloth).made -/
def c30z20 : ICode := .ops none [⟨(some 39), .p (.mv (.tmp 6))⟩,
   ⟨(some 40), .p (.bin .add (.tmp 39) (.const (.int .i64 (1))))⟩,
   ⟨(some 6), .p (.mv (.tmp 40))⟩]
def c30z21 : ICode := .ops none [⟨(some 25), .p (.mv (.tmp 8))⟩,
   ⟨(some 26), .p (.bin .add (.tmp 25) (.const (.int .i64 (1))))⟩,
   ⟨(some 8), .p (.mv (.tmp 26))⟩]
def c30z16 : ICode := .cut [1, 4, 5, 6, 7, 8] c30z21
def c30z13 : ICode := .seq (.seq (.ops none [⟨(some 22), .p (.mv (.tmp 8))⟩,
     ⟨(some 23), .p (.mv (.tmp 4))⟩,
     ⟨(some 24), .p (.bin .lss (.tmp 22) (.tmp 23))⟩])
  (.cond (.tmp 24) (.skip)
  (.exit 2)))
 (.seq (.block 3 (.seq (.seq (.ops none [⟨(some 27), .p (.fadr 1 (.tmp 1))⟩,
       ⟨(some 28), .l (.load false 1 (.tmp 27))⟩,
       ⟨(some 29), .p (.mv (.tmp 6))⟩,
       ⟨(some 30), .p (.bin .shr (.tmp 28) (.tmp 29))⟩,
       ⟨(some 31), .p (.bin .and (.tmp 30) (.const (.int .u16 (1))))⟩,
       ⟨(some 32), .p (.bin .eql (.tmp 31) (.const (.int .u16 (1))))⟩])
    (.cond (.tmp 32) (.ops none [⟨(some 33), .p (.mv (.tmp 5))⟩,
       ⟨(some 34), .p (.mv (.tmp 8))⟩,
       ⟨(some 35), .p (.mv (.tmp 7))⟩,
       ⟨(some 36), .p (.build [(.int .i64 (0)), (.int .i64 (0))] [(0, 1, (.tmp 34)), (1, 1, (.tmp 35))])⟩,
       ⟨(some 37), .e (.mkSl 98 1 [(.int .i64 (0)), (.int .i64 (0))] [(0, 2, (.tmp 36))])⟩,
       ⟨(some 38), .e (.app 98 2 16 (.tmp 33) (.tmp 37))⟩,
       ⟨(some 5), .p (.mv (.tmp 38))⟩])
    (.skip)))
   (.cut [1, 4, 5, 6, 7, 8] c30z20))) c30z16)
def c30z22 : ICode := .ops none [⟨(some 18), .p (.mv (.tmp 7))⟩,
   ⟨(some 19), .p (.bin .add (.tmp 18) (.const (.int .i64 (1))))⟩,
   ⟨(some 7), .p (.mv (.tmp 19))⟩]
def c30z9 : ICode := .cut [1, 4, 5, 6, 7] c30z22
def c30z6 : ICode := .seq (.seq (.ops none [⟨(some 15), .p (.mv (.tmp 7))⟩,
     ⟨(some 16), .p (.mv (.tmp 4))⟩,
     ⟨(some 17), .p (.bin .lss (.tmp 15) (.tmp 16))⟩])
  (.cond (.tmp 17) (.skip)
  (.exit 0)))
 (.seq (.block 1 (.seq (.ops none [⟨(some 20), .p (.mv (.tmp 7))⟩,
      ⟨(some 21), .p (.bin .add (.tmp 20) (.const (.int .i64 (1))))⟩,
      ⟨(some 8), .p (.mv (.tmp 21))⟩])
   (.block 2 (.loop [1, 4, 7] [5, 6, 8] c30z13)))) c30z9)
def c30z23 : ICode := .seq (.ops none [⟨(some 41), .p (.mv (.tmp 4))⟩,
    ⟨(some 42), .p (.mv (.tmp 5))⟩,
    ⟨(some 2), .p (.mv (.tmp 41))⟩,
    ⟨(some 3), .p (.mv (.tmp 42))⟩])
 (.ret)
def c30z3 : ICode := .cut [4, 5] c30z23
def c30 : ICode := .seq (.ops none [⟨(some 1), .e (.box 54 (.tmp 0))⟩,
    ⟨(some 2), .p (.mv (.const (.int .i64 (0))))⟩,
    ⟨(some 3), .p (.mv (.const (.slice none 0 0)))⟩])
 (.seq (.ops none [⟨(some 9), .p (.fadr 0 (.tmp 1))⟩,
    ⟨(some 10), .l (.load false 1 (.tmp 9))⟩,
    ⟨(some 11), .p (.conv .i64 (.tmp 10))⟩,
    ⟨(some 12), .p (.bin .rem (.tmp 11) (.const (.int .i64 (6))))⟩,
    ⟨(some 13), .p (.bin .add (.tmp 12) (.const (.int .i64 (1))))⟩,
    ⟨(some 14), .e (.mkSl 98 0 [(.int .i64 (0)), (.int .i64 (0))] [])⟩,
    ⟨(some 4), .p (.mv (.tmp 13))⟩,
    ⟨(some 5), .p (.mv (.tmp 14))⟩,
    ⟨(some 6), .p (.mv (.const (.int .i64 (0))))⟩])
 (.seq (.seq (.ops none [⟨(some 7), .p (.mv (.const (.int .i64 (0))))⟩])
  (.block 0 (.loop [1, 4] [5, 6, 7] c30z6))) c30z3))
theorem k30 : compFn Try.prog 30 [[], [], [], [1, 4], [5, 6, 7], [], [], [], [1, 4, 7], [5, 6, 8], [], [], [], [1, 4, 5, 6, 7, 8], [1, 4, 5, 6, 7, 8], [1, 4, 5, 6, 7], [4, 5], []] = some (43, c30, [.tmp 2, .tmp 3]) := by kernel_rfl
def K30z0 (_P : Program) (K : Value → Heap → Prop) : Exit → (Nat → Value) → Heap → Prop := bodyP [.tmp 2, .tmp 3] K
def K30z3 (P : Program) (K : Value → Heap → Prop) : Exit → (Nat → Value) → Heap → Prop := thenK (iwpP P c30z3 (K30z0 P K)) (K30z0 P K)
def K30z5 (P : Program) (K : Value → Heap → Prop) : Exit → (Nat → Value) → Heap → Prop := inBlockK 0 (K30z3 P K)
def K30z6 (P : Program) (K : Value → Heap → Prop) (c1 k4 : Value) (L1 : List Value → Heap → Prop) : Exit → (Nat → Value) → Heap → Prop := thenK (fun f' h'' => (([1, 4] : List Nat).map f' : List Value) = [c1, k4] ∧ L1 (([5, 6, 7] : List Nat).map f') h'') (K30z5 P K)
def K30z9 (P : Program) (K : Value → Heap → Prop) (c1 k4 : Value) (L1 : List Value → Heap → Prop) : Exit → (Nat → Value) → Heap → Prop := thenK (iwpP P c30z9 (K30z6 P K c1 k4 L1)) (K30z6 P K c1 k4 L1)
def K30z10 (P : Program) (K : Value → Heap → Prop) (c1 k4 : Value) (L1 : List Value → Heap → Prop) : Exit → (Nat → Value) → Heap → Prop := inBlockK 1 (K30z9 P K c1 k4 L1)
def K30z12 (P : Program) (K : Value → Heap → Prop) (c1 k4 : Value) (L1 : List Value → Heap → Prop) : Exit → (Nat → Value) → Heap → Prop := inBlockK 2 (K30z10 P K c1 k4 L1)
def K30z13 (P : Program) (K : Value → Heap → Prop) (c1 k4 i7 : Value) (L1 L2 : List Value → Heap → Prop) : Exit → (Nat → Value) → Heap → Prop := thenK (fun f' h'' => (([1, 4, 7] : List Nat).map f' : List Value) = [c1, k4, i7] ∧ L2 (([5, 6, 8] : List Nat).map f') h'') (K30z12 P K c1 k4 L1)
def K30z16 (P : Program) (K : Value → Heap → Prop) (c1 k4 i7 : Value) (L1 L2 : List Value → Heap → Prop) : Exit → (Nat → Value) → Heap → Prop := thenK (iwpP P c30z16 (K30z13 P K c1 k4 i7 L1 L2)) (K30z13 P K c1 k4 i7 L1 L2)
def K30z17 (P : Program) (K : Value → Heap → Prop) (c1 k4 i7 : Value) (L1 L2 : List Value → Heap → Prop) : Exit → (Nat → Value) → Heap → Prop := inBlockK 3 (K30z16 P K c1 k4 i7 L1 L2)
def p30z6 (P : Program) (K : Value → Heap → Prop) (c1 k4 : Value) (L1 : List Value → Heap → Prop) (xs : List Value) (h : Heap) : Prop := CutP (iwpP P c30z6 (K30z6 P K c1 k4 L1)) ([1, 4] ++ [5, 6, 7]) ([c1, k4] ++ xs) h
def p30z13 (P : Program) (K : Value → Heap → Prop) (c1 k4 i7 : Value) (L1 L2 : List Value → Heap → Prop) (xs : List Value) (h : Heap) : Prop := CutP (iwpP P c30z13 (K30z13 P K c1 k4 i7 L1 L2)) ([1, 4, 7] ++ [5, 6, 8]) ([c1, k4, i7] ++ xs) h
def p30z20 (P : Program) (K : Value → Heap → Prop) (c1 k4 p5 at6 i7 j8 : Value) (L1 L2 : List Value → Heap → Prop) (h : Heap) : Prop := CutP (iwpP P c30z20 (K30z17 P K c1 k4 i7 L1 L2)) [1, 4, 5, 6, 7, 8] [c1, k4, p5, at6, i7, j8] h
def p30z21 (P : Program) (K : Value → Heap → Prop) (c1 k4 p5 at6 i7 j8 : Value) (L1 L2 : List Value → Heap → Prop) (h : Heap) : Prop := CutP (iwpP P c30z21 (K30z13 P K c1 k4 i7 L1 L2)) [1, 4, 5, 6, 7, 8] [c1, k4, p5, at6, i7, j8] h
def p30z22 (P : Program) (K : Value → Heap → Prop) (c1 k4 p5 at6 i7 : Value) (L1 : List Value → Heap → Prop) (h : Heap) : Prop := CutP (iwpP P c30z22 (K30z6 P K c1 k4 L1)) [1, 4, 5, 6, 7] [c1, k4, p5, at6, i7] h
def p30z23 (P : Program) (K : Value → Heap → Prop) (k4 p5 : Value) (h : Heap) : Prop := CutP (iwpP P c30z23 (K30z0 P K)) [4, 5] [k4, p5] h
theorem q30z20 (P : Program) (K : Value → Heap → Prop) (c1 k4 p5 at6 i7 j8 : Value) (L1 L2 : List Value → Heap → Prop) (h : Heap) : p30z20 P K c1 k4 p5 at6 i7 j8 L1 L2 h =
  (OP (iBin .add at6 (.int .i64 (1))) fun x40 =>
  p30z21 P K c1 k4 p5 x40 i7 j8 L1 L2 h) := (CutP_def _ _ _ _).trans (by kernel_rfl)
theorem q30z21 (P : Program) (K : Value → Heap → Prop) (c1 k4 p5 at6 i7 j8 : Value) (L1 L2 : List Value → Heap → Prop) (h : Heap) : p30z21 P K c1 k4 p5 at6 i7 j8 L1 L2 h =
  (OP (iBin .add j8 (.int .i64 (1))) fun x26 =>
  ([c1, k4, i7] : List Value) = [c1, k4, i7] ∧ L2 [p5, at6, x26] h) := (CutP_def _ _ _ _).trans (by kernel_rfl)
theorem q30z13 (P : Program) (K : Value → Heap → Prop) (c1 k4 i7 : Value) (L1 L2 : List Value → Heap → Prop) (p5 at6 j8 : Value) (h : Heap) : p30z13 P K c1 k4 i7 L1 L2 [p5, at6, j8] h =
  (OP (iBin .lss j8 k4) fun x24 =>
  IfP x24
    (OP (iFadr 1 c1) fun x27 =>
    OP (iLoad false 1 h x27) fun x28 =>
    OP (iBin .shr x28 at6) fun x30 =>
    OP (iBin .and x30 (.int .u16 (1))) fun x31 =>
    OP (iBin .eql x31 (.int .u16 (1))) fun x32 =>
    IfP x32
      (OP (iBuild [(.int .i64 (0)), (.int .i64 (0))] [(0, 1, j8), (1, 1, i7)]) fun x36 =>
      OH (iMkSl 98 1 [(.int .i64 (0)), (.int .i64 (0))] h [(0, 2, x36)]) fun x37 h_1 =>
      OH (iApp 98 2 16 h_1 p5 x37) fun x38 h_2 =>
      p30z20 P K c1 k4 x38 at6 i7 j8 L1 L2 h_2)
      (p30z20 P K c1 k4 p5 at6 i7 j8 L1 L2 h))
    (p30z22 P K c1 k4 p5 at6 i7 L1 h)) := (CutP_def _ _ _ _).trans (by kernel_rfl)
theorem q30z22 (P : Program) (K : Value → Heap → Prop) (c1 k4 p5 at6 i7 : Value) (L1 : List Value → Heap → Prop) (h : Heap) : p30z22 P K c1 k4 p5 at6 i7 L1 h =
  (OP (iBin .add i7 (.int .i64 (1))) fun x19 =>
  ([c1, k4] : List Value) = [c1, k4] ∧ L1 [p5, at6, x19] h) := (CutP_def _ _ _ _).trans (by kernel_rfl)
theorem q30z6 (P : Program) (K : Value → Heap → Prop) (c1 k4 : Value) (L1 : List Value → Heap → Prop) (p5 at6 i7 : Value) (h : Heap) : p30z6 P K c1 k4 L1 [p5, at6, i7] h =
  (OP (iBin .lss i7 k4) fun x17 =>
  IfP x17
    (OP (iBin .add i7 (.int .i64 (1))) fun x21 =>
    LoopP [p5, at6, x21] h fun L2 xs hx =>
    p30z13 P K c1 k4 i7 L1 L2 xs hx)
    (p30z23 P K k4 p5 h)) := (CutP_def _ _ _ _).trans (by kernel_rfl)
theorem q30z23 (P : Program) (K : Value → Heap → Prop) (k4 p5 : Value) (h : Heap) : p30z23 P K k4 p5 h =
  (K (.tuple #[k4, p5]) h) := (CutP_def _ _ _ _).trans (by kernel_rfl)
def T30 (P : Program) (K : Value → Heap → Prop) (c0 : Value) (h : Heap) : Prop :=
  OH (iBox 54 h c0) fun c1 h_1 =>
  OP (iFadr 0 c1) fun x9 =>
  OP (iLoad false 1 h_1 x9) fun x10 =>
  OP (iConv .i64 x10) fun x11 =>
  OP (iBin .rem x11 (.int .i64 (6))) fun x12 =>
  OP (iBin .add x12 (.int .i64 (1))) fun x13 =>
  OH (iMkSl 98 0 [(.int .i64 (0)), (.int .i64 (0))] h_1 []) fun x14 h_2 =>
  LoopP [x14, (.int .i64 (0)), (.int .i64 (0))] h_2 fun L1 xs hx =>
  p30z6 P K c1 x13 L1 xs hx
theorem e30 (P : Program) (K : Value → Heap → Prop) (c0 : Value) (h : Heap) : iwpP P c30 (bodyP [.tmp 2, .tmp 3] K) (frame0 [c0]) h = T30 P K c0 h := by kernel_rfl
theorem f30 {K : Value → Heap → Prop} {c0 : Value} {h : Heap} (H : T30 Try.prog K c0 h) : CallP Try.prog 30 [c0] h K :=
  callP_intro k30 (Nat.le_of_ble_eq_true rfl) ((e30 Try.prog K c0 h).mpr H)
/-! F31: pommel/pommellaw03.seam -/
def c31z12 : ICode := .ops none [⟨(some 17), .p (.pick (.tmp 13) (.tmp 16) (.const (.bool false)))⟩]
def c31z10 : ICode := .seq (.ops (some (13, true)) [⟨(some 14), .p (.mv (.tmp 8))⟩,
    ⟨(some 15), .p (.mv (.tmp 2))⟩,
    ⟨(some 16), .p (.bin .lss (.tmp 14) (.tmp 15))⟩])
 (.cut [0, 1, 2, 7, 8, 13, 16] c31z12)
def c31z8 : ICode := .cond (.tmp 17) (.skip)
 (.exit 0)
def c31z7 : ICode := .seq (.block 1 (.dops [(none, [⟨(some 20), .p (.mv (.tmp 7)), 0⟩,
     ⟨(some 21), .p (.mv (.tmp 1)), 0⟩,
     ⟨(some 22), .p (.mv (.tmp 8)), 0⟩,
     ⟨(some 23), .p (.adrSl 1 (.tmp 21) (.tmp 22)), 6⟩,
     ⟨(some 24), .l (.load false 1 (.tmp 23)), 14⟩,
     ⟨(some 25), .p (.conv .i64 (.tmp 24)), 30⟩,
     ⟨(some 26), .p (.mv (.tmp 0)), 0⟩,
     ⟨(some 27), .p (.bin .rem (.tmp 25) (.tmp 26)), 126⟩,
     ⟨(some 28), .p (.mv (.tmp 1)), 0⟩,
     ⟨(some 29), .p (.mv (.tmp 8)), 0⟩,
     ⟨(some 30), .p (.adrSl 1 (.tmp 28) (.tmp 29)), 768⟩,
     ⟨(some 31), .l (.load false 1 (.tmp 30)), 1792⟩,
     ⟨(some 32), .p (.conv .i64 (.tmp 31)), 3840⟩,
     ⟨(some 33), .p (.mv (.tmp 0)), 0⟩,
     ⟨(some 34), .p (.bin .rem (.tmp 32) (.tmp 33)), 16128⟩,
     ⟨(some 35), .p (.bin .add (.tmp 34) (.const (.int .i64 (1)))), 32512⟩,
     ⟨(some 36), .p (.slS (.const (.string ⟨#[97, 98, 99, 100, 101, 102]⟩)) (some (.tmp 27)) (some (.tmp 35))), 65534⟩,
     ⟨(some 37), .p (.bin .add (.tmp 20) (.tmp 36)), 131071⟩,
     ⟨(some 7), .p (.mv (.tmp 37)), 262143⟩])]))
 (.ops none [⟨(some 18), .p (.mv (.tmp 8))⟩,
   ⟨(some 19), .p (.bin .add (.tmp 18) (.const (.int .i64 (1))))⟩,
   ⟨(some 8), .p (.mv (.tmp 19))⟩])
def c31z6 : ICode := .seq (.seq (.seq (.ops none [⟨(some 9), .p (.mv (.tmp 8))⟩,
      ⟨(some 10), .p (.mv (.tmp 1))⟩,
      ⟨(some 11), .p (.lenSl (.tmp 10))⟩,
      ⟨(some 12), .p (.bin .lss (.tmp 9) (.tmp 11))⟩,
      ⟨(some 13), .p (.mv (.tmp 12))⟩])
   (.cut [0, 1, 2, 7, 8, 13] c31z10)) c31z8) c31z7
def c31z15 : ICode := .seq (.ops none [⟨(some 38), .p (.mv (.tmp 7))⟩,
    ⟨(some 6), .p (.mv (.tmp 38))⟩])
 (.ret)
def c31z3 : ICode := .cut [7] c31z15
def c31 : ICode := .seq (.ops none [⟨(some 6), .p (.mv (.const (.string ⟨#[]⟩)))⟩])
 (.seq (.ops none [⟨(some 7), .p (.mv (.const (.string ⟨#[]⟩)))⟩])
 (.seq (.seq (.ops none [⟨(some 8), .p (.mv (.const (.int .i64 (0))))⟩])
  (.block 0 (.loop [0, 1, 2] [7, 8] c31z6))) c31z3))
theorem k31 : compFn Try.prog 31 [[], [], [], [0, 1, 2], [7, 8], [0, 1, 2, 7, 8, 13], [0, 1, 2, 7, 8, 13, 16], [], [], [], [7], []] = some (39, c31, [.tmp 6]) := by kernel_rfl
def K31z0 (_P : Program) (K : Value → Heap → Prop) : Exit → (Nat → Value) → Heap → Prop := bodyP [.tmp 6] K
def K31z3 (P : Program) (K : Value → Heap → Prop) : Exit → (Nat → Value) → Heap → Prop := thenK (iwpP P c31z3 (K31z0 P K)) (K31z0 P K)
def K31z5 (P : Program) (K : Value → Heap → Prop) : Exit → (Nat → Value) → Heap → Prop := inBlockK 0 (K31z3 P K)
def K31z6 (P : Program) (K : Value → Heap → Prop) (k0 l1 most2 : Value) (L1 : List Value → Heap → Prop) : Exit → (Nat → Value) → Heap → Prop := thenK (fun f' h'' => (([0, 1, 2] : List Nat).map f' : List Value) = [k0, l1, most2] ∧ L1 (([7, 8] : List Nat).map f') h'') (K31z5 P K)
def K31z7 (P : Program) (K : Value → Heap → Prop) (k0 l1 most2 : Value) (L1 : List Value → Heap → Prop) : Exit → (Nat → Value) → Heap → Prop := thenK (iwpP P c31z7 (K31z6 P K k0 l1 most2 L1)) (K31z6 P K k0 l1 most2 L1)
def K31z8 (P : Program) (K : Value → Heap → Prop) (k0 l1 most2 : Value) (L1 : List Value → Heap → Prop) : Exit → (Nat → Value) → Heap → Prop := thenK (iwpP P c31z8 (K31z7 P K k0 l1 most2 L1)) (K31z7 P K k0 l1 most2 L1)
def p31z6 (P : Program) (K : Value → Heap → Prop) (k0 l1 most2 : Value) (L1 : List Value → Heap → Prop) (xs : List Value) (h : Heap) : Prop := CutP (iwpP P c31z6 (K31z6 P K k0 l1 most2 L1)) ([0, 1, 2] ++ [7, 8]) ([k0, l1, most2] ++ xs) h
def p31z10 (P : Program) (K : Value → Heap → Prop) (k0 l1 most2 s7 i8 x13 : Value) (L1 : List Value → Heap → Prop) (h : Heap) : Prop := CutP (iwpP P c31z10 (K31z8 P K k0 l1 most2 L1)) [0, 1, 2, 7, 8, 13] [k0, l1, most2, s7, i8, x13] h
def p31z12 (P : Program) (K : Value → Heap → Prop) (k0 l1 most2 s7 i8 x13 x16 : Value) (L1 : List Value → Heap → Prop) (h : Heap) : Prop := CutP (iwpP P c31z12 (K31z8 P K k0 l1 most2 L1)) [0, 1, 2, 7, 8, 13, 16] [k0, l1, most2, s7, i8, x13, x16] h
def p31z15 (P : Program) (K : Value → Heap → Prop) (s7 : Value) (h : Heap) : Prop := CutP (iwpP P c31z15 (K31z0 P K)) [7] [s7] h
theorem q31z12 (P : Program) (K : Value → Heap → Prop) (k0 l1 most2 s7 i8 x13 x16 : Value) (L1 : List Value → Heap → Prop) (h : Heap) : p31z12 P K k0 l1 most2 s7 i8 x13 x16 L1 h =
  (OP (iPick x13 x16 (.bool false)) fun x17 =>
  IfP x17
    (OP (iAdrSl 1 l1 i8) fun x23 =>
    OP (iLoad false 1 h x23) fun x24 =>
    (True) ∧
    OP (iConv .i64 x24) fun x25 =>
    OP (iBin .rem x25 k0) fun x27 =>
    OP (iAdrSl 1 l1 i8) fun x30 =>
    OP (iLoad false 1 h x30) fun x31 =>
    (True) ∧
    OP (iConv .i64 x31) fun x32 =>
    OP (iBin .rem x32 k0) fun x34 =>
    OP (iBin .add x34 (.int .i64 (1))) fun x35 =>
    OP (iSlS (.string ⟨#[97, 98, 99, 100, 101, 102]⟩) (some x27) (some x35)) fun x36 =>
    OP (iBin .add s7 x36) fun x37 =>
    OP (iBin .add i8 (.int .i64 (1))) fun x19 =>
    ([k0, l1, most2] : List Value) = [k0, l1, most2] ∧ L1 [x37, x19] h)
    (p31z15 P K s7 h)) := (CutP_def _ _ _ _).trans (by kernel_rfl)
theorem q31z10 (P : Program) (K : Value → Heap → Prop) (k0 l1 most2 s7 i8 x13 : Value) (L1 : List Value → Heap → Prop) (h : Heap) : p31z10 P K k0 l1 most2 s7 i8 x13 L1 h =
  (GdP x13 true
    (OP (iBin .lss i8 most2) fun x16 =>
    p31z12 P K k0 l1 most2 s7 i8 x13 x16 L1 h)
    (p31z12 P K k0 l1 most2 s7 i8 x13 undef L1 h)) := (CutP_def _ _ _ _).trans (by kernel_rfl)
theorem q31z6 (P : Program) (K : Value → Heap → Prop) (k0 l1 most2 : Value) (L1 : List Value → Heap → Prop) (s7 i8 : Value) (h : Heap) : p31z6 P K k0 l1 most2 L1 [s7, i8] h =
  (OP (iLenSl l1) fun x11 =>
  OP (iBin .lss i8 x11) fun x12 =>
  p31z10 P K k0 l1 most2 s7 i8 x12 L1 h) := (CutP_def _ _ _ _).trans (by kernel_rfl)
theorem q31z15 (P : Program) (K : Value → Heap → Prop) (s7 : Value) (h : Heap) : p31z15 P K s7 h =
  (K s7 h) := (CutP_def _ _ _ _).trans (by kernel_rfl)
def T31 (P : Program) (K : Value → Heap → Prop) (k0 l1 most2 : Value) (h : Heap) : Prop :=
  LoopP [(.string ⟨#[]⟩), (.int .i64 (0))] h fun L1 xs hx =>
  p31z6 P K k0 l1 most2 L1 xs hx
theorem e31 (P : Program) (K : Value → Heap → Prop) (k0 l1 most2 : Value) (h : Heap) : iwpP P c31 (bodyP [.tmp 6] K) (frame0 [k0, l1, most2]) h = T31 P K k0 l1 most2 h := by kernel_rfl
theorem f31 {K : Value → Heap → Prop} {k0 l1 most2 : Value} {h : Heap} (H : T31 Try.prog K k0 l1 most2 h) : CallP Try.prog 31 [k0, l1, most2] h K :=
  callP_intro k31 (Nat.le_of_ble_eq_true rfl) ((e31 Try.prog K k0 l1 most2 h).mpr H)
/-! F32: pommel/pommellaw03.shuffled -/
def c32z11 : ICode := .ops none [⟨(some 17), .p (.pick (.tmp 13) (.tmp 16) (.const (.bool false)))⟩]
def c32z9 : ICode := .seq (.ops (some (13, true)) [⟨(some 14), .p (.mv (.tmp 1))⟩,
    ⟨(some 15), .p (.lenS (.tmp 14))⟩,
    ⟨(some 16), .p (.bin .gtr (.tmp 15) (.const (.int .i64 (1))))⟩])
 (.cut [0, 1, 2, 7, 13, 16] c32z11)
def c32z7 : ICode := .cond (.tmp 17) (.skip)
 (.exit 0)
def c32z16 : ICode := .ops none [⟨(some 18), .p (.mv (.tmp 7))⟩,
   ⟨(some 19), .p (.bin .add (.tmp 18) (.const (.int .i64 (1))))⟩,
   ⟨(some 7), .p (.mv (.tmp 19))⟩]
def c32z6 : ICode := .seq (.block 1 (.seq (.ops none [⟨(some 20), .p (.mv (.tmp 2))⟩,
      ⟨(some 21), .p (.mv (.tmp 7))⟩,
      ⟨(some 22), .p (.adrSl 1 (.tmp 20) (.tmp 21))⟩,
      ⟨(some 23), .l (.load false 1 (.tmp 22))⟩,
      ⟨(some 24), .p (.conv .i64 (.tmp 23))⟩,
      ⟨(some 25), .p (.mv (.tmp 1))⟩,
      ⟨(some 26), .p (.lenS (.tmp 25))⟩,
      ⟨(some 27), .p (.bin .sub (.tmp 26) (.const (.int .i64 (1))))⟩,
      ⟨(some 28), .p (.bin .rem (.tmp 24) (.tmp 27))⟩,
      ⟨(some 8), .p (.mv (.tmp 28))⟩])
   (.seq (.dops [(none, [⟨(some 29), .p (.mv (.tmp 0)), 0⟩,
      ⟨(some 30), .p (.mv (.tmp 1)), 0⟩,
      ⟨(some 31), .p (.mv (.tmp 8)), 0⟩,
      ⟨(some 32), .p (.idxS (.tmp 30) (.tmp 31)), 6⟩,
      ⟨(some 33), .p (.mv (.tmp 1)), 0⟩,
      ⟨(some 34), .p (.mv (.tmp 8)), 0⟩,
      ⟨(some 35), .p (.bin .add (.tmp 34) (.const (.int .i64 (1)))), 32⟩,
      ⟨(some 36), .p (.idxS (.tmp 33) (.tmp 35)), 112⟩,
      ⟨(some 37), .call 33 [(.tmp 29), (.tmp 32), (.tmp 36)], 255⟩])])
   (.cond (.tmp 37) (.dops [(none, [⟨(some 38), .p (.mv (.tmp 1)), 0⟩,
      ⟨(some 39), .p (.mv (.tmp 8)), 0⟩,
      ⟨(some 40), .p (.slS (.tmp 38) none (some (.tmp 39))), 3⟩,
      ⟨(some 41), .p (.mv (.tmp 1)), 0⟩,
      ⟨(some 42), .p (.mv (.tmp 8)), 0⟩,
      ⟨(some 43), .p (.bin .add (.tmp 42) (.const (.int .i64 (1)))), 16⟩,
      ⟨(some 44), .p (.mv (.tmp 8)), 0⟩,
      ⟨(some 45), .p (.bin .add (.tmp 44) (.const (.int .i64 (2)))), 64⟩,
      ⟨(some 46), .p (.slS (.tmp 41) (some (.tmp 43)) (some (.tmp 45))), 248⟩,
      ⟨(some 47), .p (.bin .add (.tmp 40) (.tmp 46)), 511⟩,
      ⟨(some 48), .p (.mv (.tmp 1)), 0⟩,
      ⟨(some 49), .p (.mv (.tmp 8)), 0⟩,
      ⟨(some 50), .p (.mv (.tmp 8)), 0⟩,
      ⟨(some 51), .p (.bin .add (.tmp 50) (.const (.int .i64 (1)))), 4096⟩,
      ⟨(some 52), .p (.slS (.tmp 48) (some (.tmp 49)) (some (.tmp 51))), 15360⟩,
      ⟨(some 53), .p (.bin .add (.tmp 47) (.tmp 52)), 32767⟩,
      ⟨(some 54), .p (.mv (.tmp 1)), 0⟩,
      ⟨(some 55), .p (.mv (.tmp 8)), 0⟩,
      ⟨(some 56), .p (.bin .add (.tmp 55) (.const (.int .i64 (2)))), 131072⟩,
      ⟨(some 57), .p (.slS (.tmp 54) (some (.tmp 56)) none), 458752⟩,
      ⟨(some 58), .p (.bin .add (.tmp 53) (.tmp 57)), 1048575⟩,
      ⟨(some 1), .p (.mv (.tmp 58)), 2097151⟩])])
   (.skip)))))
 (.cut [0, 1, 2, 7] c32z16)
def c32z5 : ICode := .seq (.seq (.seq (.ops none [⟨(some 9), .p (.mv (.tmp 7))⟩,
      ⟨(some 10), .p (.mv (.tmp 2))⟩,
      ⟨(some 11), .p (.lenSl (.tmp 10))⟩,
      ⟨(some 12), .p (.bin .lss (.tmp 9) (.tmp 11))⟩,
      ⟨(some 13), .p (.mv (.tmp 12))⟩])
   (.cut [0, 1, 2, 7, 13] c32z9)) c32z7) c32z6
def c32z17 : ICode := .seq (.ops none [⟨(some 59), .p (.mv (.tmp 1))⟩,
    ⟨(some 6), .p (.mv (.tmp 59))⟩])
 (.ret)
def c32z2 : ICode := .cut [1] c32z17
def c32 : ICode := .seq (.ops none [⟨(some 6), .p (.mv (.const (.string ⟨#[]⟩)))⟩])
 (.seq (.seq (.ops none [⟨(some 7), .p (.mv (.const (.int .i64 (0))))⟩])
  (.block 0 (.loop [0, 2] [1, 7] c32z5))) c32z2)
theorem k32 : compFn Try.prog 32 [[], [], [0, 2], [1, 7], [0, 1, 2, 7, 13], [0, 1, 2, 7, 13, 16], [], [], [], [], [0, 1, 2, 7], [1], []] = some (60, c32, [.tmp 6]) := by kernel_rfl
def K32z0 (_P : Program) (K : Value → Heap → Prop) : Exit → (Nat → Value) → Heap → Prop := bodyP [.tmp 6] K
def K32z2 (P : Program) (K : Value → Heap → Prop) : Exit → (Nat → Value) → Heap → Prop := thenK (iwpP P c32z2 (K32z0 P K)) (K32z0 P K)
def K32z4 (P : Program) (K : Value → Heap → Prop) : Exit → (Nat → Value) → Heap → Prop := inBlockK 0 (K32z2 P K)
def K32z5 (P : Program) (K : Value → Heap → Prop) (p0 by2 : Value) (L1 : List Value → Heap → Prop) : Exit → (Nat → Value) → Heap → Prop := thenK (fun f' h'' => (([0, 2] : List Nat).map f' : List Value) = [p0, by2] ∧ L1 (([1, 7] : List Nat).map f') h'') (K32z4 P K)
def K32z6 (P : Program) (K : Value → Heap → Prop) (p0 by2 : Value) (L1 : List Value → Heap → Prop) : Exit → (Nat → Value) → Heap → Prop := thenK (iwpP P c32z6 (K32z5 P K p0 by2 L1)) (K32z5 P K p0 by2 L1)
def K32z7 (P : Program) (K : Value → Heap → Prop) (p0 by2 : Value) (L1 : List Value → Heap → Prop) : Exit → (Nat → Value) → Heap → Prop := thenK (iwpP P c32z7 (K32z6 P K p0 by2 L1)) (K32z6 P K p0 by2 L1)
def p32z5 (P : Program) (K : Value → Heap → Prop) (p0 by2 : Value) (L1 : List Value → Heap → Prop) (xs : List Value) (h : Heap) : Prop := CutP (iwpP P c32z5 (K32z5 P K p0 by2 L1)) ([0, 2] ++ [1, 7]) ([p0, by2] ++ xs) h
def p32z9 (P : Program) (K : Value → Heap → Prop) (p0 s1 by2 i7 x13 : Value) (L1 : List Value → Heap → Prop) (h : Heap) : Prop := CutP (iwpP P c32z9 (K32z7 P K p0 by2 L1)) [0, 1, 2, 7, 13] [p0, s1, by2, i7, x13] h
def p32z11 (P : Program) (K : Value → Heap → Prop) (p0 s1 by2 i7 x13 x16 : Value) (L1 : List Value → Heap → Prop) (h : Heap) : Prop := CutP (iwpP P c32z11 (K32z7 P K p0 by2 L1)) [0, 1, 2, 7, 13, 16] [p0, s1, by2, i7, x13, x16] h
def p32z16 (P : Program) (K : Value → Heap → Prop) (p0 s1 by2 i7 : Value) (L1 : List Value → Heap → Prop) (h : Heap) : Prop := CutP (iwpP P c32z16 (K32z5 P K p0 by2 L1)) [0, 1, 2, 7] [p0, s1, by2, i7] h
def p32z17 (P : Program) (K : Value → Heap → Prop) (s1 : Value) (h : Heap) : Prop := CutP (iwpP P c32z17 (K32z0 P K)) [1] [s1] h
theorem q32z11 (P : Program) (K : Value → Heap → Prop) (p0 s1 by2 i7 x13 x16 : Value) (L1 : List Value → Heap → Prop) (h : Heap) : p32z11 P K p0 s1 by2 i7 x13 x16 L1 h =
  (OP (iPick x13 x16 (.bool false)) fun x17 =>
  IfP x17
    (OP (iAdrSl 1 by2 i7) fun x22 =>
    OP (iLoad false 1 h x22) fun x23 =>
    OP (iConv .i64 x23) fun x24 =>
    OP (iLenS s1) fun x26 =>
    OP (iBin .sub x26 (.int .i64 (1))) fun x27 =>
    OP (iBin .rem x24 x27) fun x28 =>
    OP (iIdxS s1 x28) fun x32 =>
    OP (iBin .add x28 (.int .i64 (1))) fun x35 =>
    OP (iIdxS s1 x35) fun x36 =>
    CallP P 33 [p0, x32, x36] h fun x37 h_1 =>
    (True) ∧
    IfP x37
      (OP (iSlS s1 none (some x28)) fun x40 =>
      OP (iBin .add x28 (.int .i64 (1))) fun x43 =>
      OP (iBin .add x28 (.int .i64 (2))) fun x45 =>
      OP (iSlS s1 (some x43) (some x45)) fun x46 =>
      OP (iBin .add x40 x46) fun x47 =>
      OP (iBin .add x28 (.int .i64 (1))) fun x51 =>
      OP (iSlS s1 (some x28) (some x51)) fun x52 =>
      OP (iBin .add x47 x52) fun x53 =>
      OP (iBin .add x28 (.int .i64 (2))) fun x56 =>
      OP (iSlS s1 (some x56) none) fun x57 =>
      OP (iBin .add x53 x57) fun x58 =>
      p32z16 P K p0 x58 by2 i7 L1 h_1)
      (p32z16 P K p0 s1 by2 i7 L1 h_1))
    (p32z17 P K s1 h)) := (CutP_def _ _ _ _).trans (by kernel_rfl)
theorem q32z9 (P : Program) (K : Value → Heap → Prop) (p0 s1 by2 i7 x13 : Value) (L1 : List Value → Heap → Prop) (h : Heap) : p32z9 P K p0 s1 by2 i7 x13 L1 h =
  (GdP x13 true
    (OP (iLenS s1) fun x15 =>
    OP (iBin .gtr x15 (.int .i64 (1))) fun x16 =>
    p32z11 P K p0 s1 by2 i7 x13 x16 L1 h)
    (p32z11 P K p0 s1 by2 i7 x13 undef L1 h)) := (CutP_def _ _ _ _).trans (by kernel_rfl)
theorem q32z16 (P : Program) (K : Value → Heap → Prop) (p0 s1 by2 i7 : Value) (L1 : List Value → Heap → Prop) (h : Heap) : p32z16 P K p0 s1 by2 i7 L1 h =
  (OP (iBin .add i7 (.int .i64 (1))) fun x19 =>
  ([p0, by2] : List Value) = [p0, by2] ∧ L1 [s1, x19] h) := (CutP_def _ _ _ _).trans (by kernel_rfl)
theorem q32z5 (P : Program) (K : Value → Heap → Prop) (p0 by2 : Value) (L1 : List Value → Heap → Prop) (s1 i7 : Value) (h : Heap) : p32z5 P K p0 by2 L1 [s1, i7] h =
  (OP (iLenSl by2) fun x11 =>
  OP (iBin .lss i7 x11) fun x12 =>
  p32z9 P K p0 s1 by2 i7 x12 L1 h) := (CutP_def _ _ _ _).trans (by kernel_rfl)
theorem q32z17 (P : Program) (K : Value → Heap → Prop) (s1 : Value) (h : Heap) : p32z17 P K s1 h =
  (K s1 h) := (CutP_def _ _ _ _).trans (by kernel_rfl)
def T32 (P : Program) (K : Value → Heap → Prop) (p0 s1 by2 : Value) (h : Heap) : Prop :=
  LoopP [s1, (.int .i64 (0))] h fun L1 xs hx =>
  p32z5 P K p0 by2 L1 xs hx
theorem e32 (P : Program) (K : Value → Heap → Prop) (p0 s1 by2 : Value) (h : Heap) : iwpP P c32 (bodyP [.tmp 6] K) (frame0 [p0, s1, by2]) h = T32 P K p0 s1 by2 h := by kernel_rfl
theorem f32 {K : Value → Heap → Prop} {p0 s1 by2 : Value} {h : Heap} (H : T32 Try.prog K p0 s1 by2 h) : CallP Try.prog 32 [p0, s1, by2] h K :=
  callP_intro k32 (Nat.le_of_ble_eq_true rfl) ((e32 Try.prog K p0 s1 by2 h).mpr H)
/-! F34: pommel/pommelref03.Only -/
def c34z15 : ICode := .ops none [⟨(some 26), .p (.pick (.tmp 20) (.const (.bool true)) (.tmp 25))⟩]
def c34z13 : ICode := .seq (.ops (some (20, false)) [⟨(some 21), .p (.mv (.tmp 0))⟩,
    ⟨(some 22), .p (.mv (.tmp 8))⟩,
    ⟨(some 23), .p (.idxS (.tmp 21) (.tmp 22))⟩,
    ⟨(some 24), .p (.mv (.tmp 2))⟩,
    ⟨(some 25), .p (.bin .eql (.tmp 23) (.tmp 24))⟩])
 (.cut [0, 1, 2, 7, 8, 20, 25] c34z15)
def c34z11 : ICode := .cond (.tmp 26) (.ops none [⟨(some 27), .p (.mv (.tmp 7))⟩,
    ⟨(some 28), .p (.mv (.tmp 0))⟩,
    ⟨(some 29), .p (.mv (.tmp 8))⟩,
    ⟨(some 30), .p (.mv (.tmp 8))⟩,
    ⟨(some 31), .p (.bin .add (.tmp 30) (.const (.int .i64 (1))))⟩,
    ⟨(some 32), .p (.slS (.tmp 28) (some (.tmp 29)) (some (.tmp 31)))⟩,
    ⟨(some 33), .p (.bin .add (.tmp 27) (.tmp 32))⟩,
    ⟨(some 7), .p (.mv (.tmp 33))⟩])
 (.skip)
def c34z16 : ICode := .ops none [⟨(some 13), .p (.mv (.tmp 8))⟩,
   ⟨(some 14), .p (.bin .add (.tmp 13) (.const (.int .i64 (1))))⟩,
   ⟨(some 8), .p (.mv (.tmp 14))⟩]
def c34z9 : ICode := .cut [0, 1, 2, 7, 8] c34z16
def c34z6 : ICode := .seq (.seq (.ops none [⟨(some 9), .p (.mv (.tmp 8))⟩,
     ⟨(some 10), .p (.mv (.tmp 0))⟩,
     ⟨(some 11), .p (.lenS (.tmp 10))⟩,
     ⟨(some 12), .p (.bin .lss (.tmp 9) (.tmp 11))⟩])
  (.cond (.tmp 12) (.skip)
  (.exit 0)))
 (.seq (.block 1 (.seq (.seq (.ops none [⟨(some 15), .p (.mv (.tmp 0))⟩,
       ⟨(some 16), .p (.mv (.tmp 8))⟩,
       ⟨(some 17), .p (.idxS (.tmp 15) (.tmp 16))⟩,
       ⟨(some 18), .p (.mv (.tmp 1))⟩,
       ⟨(some 19), .p (.bin .eql (.tmp 17) (.tmp 18))⟩,
       ⟨(some 20), .p (.mv (.tmp 19))⟩])
    (.cut [0, 1, 2, 7, 8, 20] c34z13)) c34z11)) c34z9)
def c34z17 : ICode := .seq (.ops none [⟨(some 34), .p (.mv (.tmp 7))⟩,
    ⟨(some 6), .p (.mv (.tmp 34))⟩])
 (.ret)
def c34z3 : ICode := .cut [7] c34z17
def c34 : ICode := .seq (.ops none [⟨(some 6), .p (.mv (.const (.string ⟨#[]⟩)))⟩])
 (.seq (.ops none [⟨(some 7), .p (.mv (.const (.string ⟨#[]⟩)))⟩])
 (.seq (.seq (.ops none [⟨(some 8), .p (.mv (.const (.int .i64 (0))))⟩])
  (.block 0 (.loop [0, 1, 2] [7, 8] c34z6))) c34z3))
theorem k34 : compFn Try.prog 34 [[], [], [], [0, 1, 2], [7, 8], [], [], [0, 1, 2, 7, 8, 20], [0, 1, 2, 7, 8, 20, 25], [], [0, 1, 2, 7, 8], [7], []] = some (35, c34, [.tmp 6]) := by kernel_rfl
def K34z0 (_P : Program) (K : Value → Heap → Prop) : Exit → (Nat → Value) → Heap → Prop := bodyP [.tmp 6] K
def K34z3 (P : Program) (K : Value → Heap → Prop) : Exit → (Nat → Value) → Heap → Prop := thenK (iwpP P c34z3 (K34z0 P K)) (K34z0 P K)
def K34z5 (P : Program) (K : Value → Heap → Prop) : Exit → (Nat → Value) → Heap → Prop := inBlockK 0 (K34z3 P K)
def K34z6 (P : Program) (K : Value → Heap → Prop) (s0 x1 y2 : Value) (L1 : List Value → Heap → Prop) : Exit → (Nat → Value) → Heap → Prop := thenK (fun f' h'' => (([0, 1, 2] : List Nat).map f' : List Value) = [s0, x1, y2] ∧ L1 (([7, 8] : List Nat).map f') h'') (K34z5 P K)
def K34z9 (P : Program) (K : Value → Heap → Prop) (s0 x1 y2 : Value) (L1 : List Value → Heap → Prop) : Exit → (Nat → Value) → Heap → Prop := thenK (iwpP P c34z9 (K34z6 P K s0 x1 y2 L1)) (K34z6 P K s0 x1 y2 L1)
def K34z10 (P : Program) (K : Value → Heap → Prop) (s0 x1 y2 : Value) (L1 : List Value → Heap → Prop) : Exit → (Nat → Value) → Heap → Prop := inBlockK 1 (K34z9 P K s0 x1 y2 L1)
def K34z11 (P : Program) (K : Value → Heap → Prop) (s0 x1 y2 : Value) (L1 : List Value → Heap → Prop) : Exit → (Nat → Value) → Heap → Prop := thenK (iwpP P c34z11 (K34z10 P K s0 x1 y2 L1)) (K34z10 P K s0 x1 y2 L1)
def p34z6 (P : Program) (K : Value → Heap → Prop) (s0 x1 y2 : Value) (L1 : List Value → Heap → Prop) (xs : List Value) (h : Heap) : Prop := CutP (iwpP P c34z6 (K34z6 P K s0 x1 y2 L1)) ([0, 1, 2] ++ [7, 8]) ([s0, x1, y2] ++ xs) h
def p34z13 (P : Program) (K : Value → Heap → Prop) (s0 x1 y2 out7 i8 x20 : Value) (L1 : List Value → Heap → Prop) (h : Heap) : Prop := CutP (iwpP P c34z13 (K34z11 P K s0 x1 y2 L1)) [0, 1, 2, 7, 8, 20] [s0, x1, y2, out7, i8, x20] h
def p34z15 (P : Program) (K : Value → Heap → Prop) (s0 x1 y2 out7 i8 x20 x25 : Value) (L1 : List Value → Heap → Prop) (h : Heap) : Prop := CutP (iwpP P c34z15 (K34z11 P K s0 x1 y2 L1)) [0, 1, 2, 7, 8, 20, 25] [s0, x1, y2, out7, i8, x20, x25] h
def p34z16 (P : Program) (K : Value → Heap → Prop) (s0 x1 y2 out7 i8 : Value) (L1 : List Value → Heap → Prop) (h : Heap) : Prop := CutP (iwpP P c34z16 (K34z6 P K s0 x1 y2 L1)) [0, 1, 2, 7, 8] [s0, x1, y2, out7, i8] h
def p34z17 (P : Program) (K : Value → Heap → Prop) (out7 : Value) (h : Heap) : Prop := CutP (iwpP P c34z17 (K34z0 P K)) [7] [out7] h
theorem q34z15 (P : Program) (K : Value → Heap → Prop) (s0 x1 y2 out7 i8 x20 x25 : Value) (L1 : List Value → Heap → Prop) (h : Heap) : p34z15 P K s0 x1 y2 out7 i8 x20 x25 L1 h =
  (OP (iPick x20 (.bool true) x25) fun x26 =>
  IfP x26
    (OP (iBin .add i8 (.int .i64 (1))) fun x31 =>
    OP (iSlS s0 (some i8) (some x31)) fun x32 =>
    OP (iBin .add out7 x32) fun x33 =>
    p34z16 P K s0 x1 y2 x33 i8 L1 h)
    (p34z16 P K s0 x1 y2 out7 i8 L1 h)) := (CutP_def _ _ _ _).trans (by kernel_rfl)
theorem q34z13 (P : Program) (K : Value → Heap → Prop) (s0 x1 y2 out7 i8 x20 : Value) (L1 : List Value → Heap → Prop) (h : Heap) : p34z13 P K s0 x1 y2 out7 i8 x20 L1 h =
  (GdP x20 false
    (OP (iIdxS s0 i8) fun x23 =>
    OP (iBin .eql x23 y2) fun x25 =>
    p34z15 P K s0 x1 y2 out7 i8 x20 x25 L1 h)
    (p34z15 P K s0 x1 y2 out7 i8 x20 undef L1 h)) := (CutP_def _ _ _ _).trans (by kernel_rfl)
theorem q34z16 (P : Program) (K : Value → Heap → Prop) (s0 x1 y2 out7 i8 : Value) (L1 : List Value → Heap → Prop) (h : Heap) : p34z16 P K s0 x1 y2 out7 i8 L1 h =
  (OP (iBin .add i8 (.int .i64 (1))) fun x14 =>
  ([s0, x1, y2] : List Value) = [s0, x1, y2] ∧ L1 [out7, x14] h) := (CutP_def _ _ _ _).trans (by kernel_rfl)
theorem q34z6 (P : Program) (K : Value → Heap → Prop) (s0 x1 y2 : Value) (L1 : List Value → Heap → Prop) (out7 i8 : Value) (h : Heap) : p34z6 P K s0 x1 y2 L1 [out7, i8] h =
  (OP (iLenS s0) fun x11 =>
  OP (iBin .lss i8 x11) fun x12 =>
  IfP x12
    (OP (iIdxS s0 i8) fun x17 =>
    OP (iBin .eql x17 x1) fun x19 =>
    p34z13 P K s0 x1 y2 out7 i8 x19 L1 h)
    (p34z17 P K out7 h)) := (CutP_def _ _ _ _).trans (by kernel_rfl)
theorem q34z17 (P : Program) (K : Value → Heap → Prop) (out7 : Value) (h : Heap) : p34z17 P K out7 h =
  (K out7 h) := (CutP_def _ _ _ _).trans (by kernel_rfl)
def T34 (P : Program) (K : Value → Heap → Prop) (s0 x1 y2 : Value) (h : Heap) : Prop :=
  LoopP [(.string ⟨#[]⟩), (.int .i64 (0))] h fun L1 xs hx =>
  p34z6 P K s0 x1 y2 L1 xs hx
theorem e34 (P : Program) (K : Value → Heap → Prop) (s0 x1 y2 : Value) (h : Heap) : iwpP P c34 (bodyP [.tmp 6] K) (frame0 [s0, x1, y2]) h = T34 P K s0 x1 y2 h := by kernel_rfl
theorem f34 {K : Value → Heap → Prop} {s0 x1 y2 : Value} {h : Heap} (H : T34 Try.prog K s0 x1 y2 h) : CallP Try.prog 34 [s0, x1, y2] h K :=
  callP_intro k34 (Nat.le_of_ble_eq_true rfl) ((e34 Try.prog K s0 x1 y2 h).mpr H)
/-! F51: pommel/stitch.Rest -/
def c51 : ICode := .seq (.ops none [⟨(some 8), .p (.mv (.const (.string ⟨#[]⟩)))⟩,
    ⟨(some 9), .p (.mv (.const (.int .i64 (0))))⟩])
 (.seq (.ops none [⟨(some 15), .p (.mv (.tmp 0))⟩,
    ⟨(some 16), .p (.mv (.tmp 1))⟩,
    ⟨(some 17), .p (.mv (.tmp 2))⟩,
    ⟨(some 18), .p (.mv (.tmp 3))⟩,
    ⟨(some 19), .e (.mkSl 9 2 [(.string ⟨#[]⟩)] [(0, 1, (.tmp 17)), (1, 1, (.tmp 18))])⟩,
    ⟨(some 20), .call 56 [(.tmp 15), (.tmp 16), (.const (.int .i64 (40))), (.tmp 19)]⟩,
    ⟨(some 14), .p (.mv (.tmp 20))⟩,
    ⟨(some 21), .p (.ext (.tmp 14) 0)⟩,
    ⟨(some 22), .p (.ext (.tmp 14) 1)⟩,
    ⟨(some 10), .p (.mv (.tmp 21))⟩,
    ⟨(some 11), .p (.mv (.tmp 22))⟩])
 (.seq (.seq (.ops none [⟨(some 23), .p (.mv (.tmp 11))⟩,
     ⟨(some 24), .p (.bin .neq (.tmp 23) (.const (.int .i64 (0))))⟩])
  (.cond (.tmp 24) (.seq (.ops none [⟨(some 25), .p (.mv (.tmp 11))⟩,
      ⟨(some 8), .p (.mv (.const (.string ⟨#[]⟩)))⟩,
      ⟨(some 9), .p (.mv (.tmp 25))⟩])
   (.ret))
  (.skip)))
 (.seq (.ops none [⟨(some 27), .p (.mv (.tmp 10))⟩,
    ⟨(some 28), .p (.mv (.tmp 2))⟩,
    ⟨(some 29), .p (.mv (.tmp 3))⟩,
    ⟨(some 30), .call 82 [(.tmp 27), (.tmp 28), (.tmp 29)]⟩,
    ⟨(some 26), .p (.mv (.tmp 30))⟩,
    ⟨(some 31), .p (.ext (.tmp 26) 0)⟩,
    ⟨(some 32), .p (.ext (.tmp 26) 1)⟩,
    ⟨(some 12), .p (.mv (.tmp 31))⟩,
    ⟨(some 13), .p (.mv (.tmp 32))⟩])
 (.seq (.seq (.ops none [⟨(some 33), .p (.mv (.tmp 13))⟩,
     ⟨(some 34), .p (.un .not (.tmp 33))⟩])
  (.cond (.tmp 34) (.seq (.ops none [⟨(some 8), .p (.mv (.const (.string ⟨#[]⟩)))⟩,
      ⟨(some 9), .p (.mv (.const (.int .i64 (5))))⟩])
   (.ret))
  (.skip)))
 (.seq (.ops none [⟨(some 35), .p (.mv (.tmp 10))⟩,
    ⟨(some 36), .p (.mv (.tmp 12))⟩,
    ⟨(some 37), .call 57 [(.tmp 35), (.tmp 36)]⟩,
    ⟨(some 8), .p (.mv (.tmp 37))⟩,
    ⟨(some 9), .p (.mv (.const (.int .i64 (0))))⟩])
 (.ret))))))
theorem k51 : compFn Try.prog 51 [[], [], [], [], [], [], [], [], [], []] = some (38, c51, [.tmp 8, .tmp 9]) := by kernel_rfl
def K51z0 (_P : Program) (K : Value → Heap → Prop) : Exit → (Nat → Value) → Heap → Prop := bodyP [.tmp 8, .tmp 9] K
def T51 (P : Program) (K : Value → Heap → Prop) (k0 pairs1 s2 u3 : Value) (h : Heap) : Prop :=
  OH (iMkSl 9 2 [(.string ⟨#[]⟩)] h [(0, 1, s2), (1, 1, u3)]) fun x19 h_1 =>
  CallP P 56 [k0, pairs1, (.int .i64 (40)), x19] h_1 fun x20 h_2 =>
  OP (iExt 0 x20) fun x21 =>
  OP (iExt 1 x20) fun x22 =>
  OP (iBin .neq x22 (.int .i64 (0))) fun x24 =>
  IfP x24
    (K (.tuple #[(.string ⟨#[]⟩), x22]) h_2)
    (CallP P 82 [x21, s2, u3] h_2 fun x30 h_3 =>
    OP (iExt 0 x30) fun x31 =>
    OP (iExt 1 x30) fun x32 =>
    OP (iUn .not x32) fun x34 =>
    IfP x34
      (K (.tuple #[(.string ⟨#[]⟩), (.int .i64 (5))]) h_3)
      (CallP P 57 [x21, x31] h_3 fun x37 h_4 =>
      K (.tuple #[x37, (.int .i64 (0))]) h_4))
theorem e51 (P : Program) (K : Value → Heap → Prop) (k0 pairs1 s2 u3 : Value) (h : Heap) : iwpP P c51 (bodyP [.tmp 8, .tmp 9] K) (frame0 [k0, pairs1, s2, u3]) h = T51 P K k0 pairs1 s2 u3 h := by kernel_rfl
theorem f51 {K : Value → Heap → Prop} {k0 pairs1 s2 u3 : Value} {h : Heap} (H : T51 Try.prog K k0 pairs1 s2 u3 h) : CallP Try.prog 51 [k0, pairs1, s2, u3] h K :=
  callP_intro k51 (Nat.le_of_ble_eq_true rfl) ((e51 Try.prog K k0 pairs1 s2 u3 h).mpr H)
/-! F52: pommel/pommelref03.Rest -/
def c52z5 : ICode := .seq (.seq (.ops none [⟨(some 10), .p (.mv (.tmp 8))⟩,
     ⟨(some 11), .p (.mv (.tmp 1))⟩,
     ⟨(some 12), .p (.lenS (.tmp 11))⟩,
     ⟨(some 13), .p (.bin .lss (.tmp 10) (.tmp 12))⟩])
  (.cond (.tmp 13) (.skip)
  (.exit 0)))
 (.seq (.block 1 (.seq (.ops none [⟨(some 16), .p (.mv (.tmp 0))⟩,
      ⟨(some 17), .p (.mv (.tmp 2))⟩,
      ⟨(some 18), .p (.mv (.tmp 1))⟩,
      ⟨(some 19), .p (.mv (.tmp 8))⟩,
      ⟨(some 20), .p (.idxS (.tmp 18) (.tmp 19))⟩,
      ⟨(some 21), .call 59 [(.tmp 16), (.tmp 17), (.tmp 20)]⟩,
      ⟨(some 9), .p (.mv (.tmp 21))⟩])
   (.seq (.seq (.ops none [⟨(some 22), .p (.mv (.tmp 9))⟩,
       ⟨(some 23), .p (.bin .lss (.tmp 22) (.const (.int .i64 (0))))⟩])
    (.cond (.tmp 23) (.seq (.ops none [⟨(some 6), .p (.mv (.const (.string ⟨#[]⟩)))⟩,
        ⟨(some 7), .p (.mv (.const (.bool false)))⟩])
     (.ret))
    (.skip)))
   (.ops none [⟨(some 24), .p (.mv (.tmp 2))⟩,
     ⟨(some 25), .p (.mv (.tmp 9))⟩,
     ⟨(some 26), .call 60 [(.tmp 24), (.tmp 25)]⟩,
     ⟨(some 2), .p (.mv (.tmp 26))⟩]))))
 (.ops none [⟨(some 14), .p (.mv (.tmp 8))⟩,
   ⟨(some 15), .p (.bin .add (.tmp 14) (.const (.int .i64 (1))))⟩,
   ⟨(some 8), .p (.mv (.tmp 15))⟩]))
def c52z14 : ICode := .seq (.ops none [⟨(some 27), .p (.mv (.tmp 0))⟩,
    ⟨(some 28), .p (.mv (.tmp 2))⟩,
    ⟨(some 29), .call 21 [(.tmp 27), (.tmp 28)]⟩,
    ⟨(some 6), .p (.mv (.tmp 29))⟩,
    ⟨(some 7), .p (.mv (.const (.bool true)))⟩])
 (.ret)
def c52z2 : ICode := .cut [0, 2] c52z14
def c52 : ICode := .seq (.ops none [⟨(some 6), .p (.mv (.const (.string ⟨#[]⟩)))⟩,
    ⟨(some 7), .p (.mv (.const (.bool false)))⟩])
 (.seq (.seq (.ops none [⟨(some 8), .p (.mv (.const (.int .i64 (0))))⟩])
  (.block 0 (.loop [0, 1] [2, 8] c52z5))) c52z2)
theorem k52 : compFn Try.prog 52 [[], [], [0, 1], [2, 8], [], [], [], [], [], [], [], [0, 2], []] = some (30, c52, [.tmp 6, .tmp 7]) := by kernel_rfl
def K52z0 (_P : Program) (K : Value → Heap → Prop) : Exit → (Nat → Value) → Heap → Prop := bodyP [.tmp 6, .tmp 7] K
def K52z2 (P : Program) (K : Value → Heap → Prop) : Exit → (Nat → Value) → Heap → Prop := thenK (iwpP P c52z2 (K52z0 P K)) (K52z0 P K)
def K52z4 (P : Program) (K : Value → Heap → Prop) : Exit → (Nat → Value) → Heap → Prop := inBlockK 0 (K52z2 P K)
def K52z5 (P : Program) (K : Value → Heap → Prop) (pairs0 s1 : Value) (L1 : List Value → Heap → Prop) : Exit → (Nat → Value) → Heap → Prop := thenK (fun f' h'' => (([0, 1] : List Nat).map f' : List Value) = [pairs0, s1] ∧ L1 (([2, 8] : List Nat).map f') h'') (K52z4 P K)
def p52z5 (P : Program) (K : Value → Heap → Prop) (pairs0 s1 : Value) (L1 : List Value → Heap → Prop) (xs : List Value) (h : Heap) : Prop := CutP (iwpP P c52z5 (K52z5 P K pairs0 s1 L1)) ([0, 1] ++ [2, 8]) ([pairs0, s1] ++ xs) h
def p52z14 (P : Program) (K : Value → Heap → Prop) (pairs0 t2 : Value) (h : Heap) : Prop := CutP (iwpP P c52z14 (K52z0 P K)) [0, 2] [pairs0, t2] h
theorem q52z5 (P : Program) (K : Value → Heap → Prop) (pairs0 s1 : Value) (L1 : List Value → Heap → Prop) (t2 i8 : Value) (h : Heap) : p52z5 P K pairs0 s1 L1 [t2, i8] h =
  (OP (iLenS s1) fun x12 =>
  OP (iBin .lss i8 x12) fun x13 =>
  IfP x13
    (OP (iIdxS s1 i8) fun x20 =>
    CallP P 59 [pairs0, t2, x20] h fun x21 h_1 =>
    OP (iBin .lss x21 (.int .i64 (0))) fun x23 =>
    IfP x23
      (K (.tuple #[(.string ⟨#[]⟩), (.bool false)]) h_1)
      (CallP P 60 [t2, x21] h_1 fun x26 h_2 =>
      OP (iBin .add i8 (.int .i64 (1))) fun x15 =>
      ([pairs0, s1] : List Value) = [pairs0, s1] ∧ L1 [x26, x15] h_2))
    (p52z14 P K pairs0 t2 h)) := (CutP_def _ _ _ _).trans (by kernel_rfl)
theorem q52z14 (P : Program) (K : Value → Heap → Prop) (pairs0 t2 : Value) (h : Heap) : p52z14 P K pairs0 t2 h =
  (CallP P 21 [pairs0, t2] h fun x29 h_1 =>
  K (.tuple #[x29, (.bool true)]) h_1) := (CutP_def _ _ _ _).trans (by kernel_rfl)
def T52 (P : Program) (K : Value → Heap → Prop) (pairs0 s1 t2 : Value) (h : Heap) : Prop :=
  LoopP [t2, (.int .i64 (0))] h fun L1 xs hx =>
  p52z5 P K pairs0 s1 L1 xs hx
theorem e52 (P : Program) (K : Value → Heap → Prop) (pairs0 s1 t2 : Value) (h : Heap) : iwpP P c52 (bodyP [.tmp 6, .tmp 7] K) (frame0 [pairs0, s1, t2]) h = T52 P K pairs0 s1 t2 h := by kernel_rfl
theorem f52 {K : Value → Heap → Prop} {pairs0 s1 t2 : Value} {h : Heap} (H : T52 Try.prog K pairs0 s1 t2 h) : CallP Try.prog 52 [pairs0, s1, t2] h K :=
  callP_intro k52 (Nat.le_of_ble_eq_true rfl) ((e52 Try.prog K pairs0 s1 t2 h).mpr H)
/-! F82: (*pommel/stitch.threads).divide -/
def c82z5 : ICode := .seq (.ops none [⟨(some 13), .p (.bin .lss (.tmp 12) (.tmp 11))⟩])
 (.seq (.cond (.tmp 13) (.skip)
  (.exit 0))
 (.seq (.block 1 (.seq (.ops none [⟨(some 14), .p (.mv (.tmp 12))⟩,
      ⟨(some 8), .p (.mv (.tmp 14))⟩])
   (.seq (.ops none [⟨(some 15), .p (.mv (.tmp 0))⟩,
      ⟨(some 16), .p (.mv (.tmp 2))⟩,
      ⟨(some 17), .p (.mv (.tmp 1))⟩,
      ⟨(some 18), .p (.mv (.tmp 8))⟩,
      ⟨(some 19), .p (.idxS (.tmp 17) (.tmp 18))⟩,
      ⟨(some 20), .call 84 [(.tmp 15), (.tmp 16), (.tmp 19)]⟩,
      ⟨(some 9), .p (.mv (.tmp 20))⟩])
   (.seq (.seq (.ops none [⟨(some 21), .p (.mv (.tmp 9))⟩,
       ⟨(some 22), .p (.bin .lss (.tmp 21) (.const (.int .i64 (0))))⟩])
    (.cond (.tmp 22) (.seq (.ops none [⟨(some 6), .p (.mv (.const (.string ⟨#[]⟩)))⟩,
        ⟨(some 7), .p (.mv (.const (.bool false)))⟩])
     (.ret))
    (.skip)))
   (.ops none [⟨(some 23), .p (.mv (.tmp 2))⟩,
     ⟨(some 24), .p (.mv (.tmp 9))⟩,
     ⟨(some 25), .call 85 [(.tmp 23), (.tmp 24)]⟩,
     ⟨(some 2), .p (.mv (.tmp 25))⟩])))))
 (.ops none [⟨(some 26), .p (.bin .add (.tmp 12) (.const (.int .i64 (1))))⟩,
   ⟨(some 12), .p (.mv (.tmp 26))⟩])))
def c82z15 : ICode := .seq (.ops none [⟨(some 27), .p (.mv (.tmp 2))⟩,
    ⟨(some 6), .p (.mv (.tmp 27))⟩,
    ⟨(some 7), .p (.mv (.const (.bool true)))⟩])
 (.ret)
def c82z2 : ICode := .cut [2] c82z15
def c82 : ICode := .seq (.ops none [⟨(some 6), .p (.mv (.const (.string ⟨#[]⟩)))⟩,
    ⟨(some 7), .p (.mv (.const (.bool false)))⟩])
 (.seq (.seq (.ops none [⟨(some 10), .p (.mv (.tmp 1))⟩,
     ⟨(some 11), .p (.lenS (.tmp 10))⟩,
     ⟨(some 12), .p (.mv (.const (.int .i64 (0))))⟩])
  (.block 0 (.loop [0, 1, 11] [2, 12] c82z5))) c82z2)
theorem k82 : compFn Try.prog 82 [[], [], [0, 1, 11], [2, 12], [], [], [], [], [], [], [], [], [2], []] = some (28, c82, [.tmp 6, .tmp 7]) := by kernel_rfl
def K82z0 (_P : Program) (K : Value → Heap → Prop) : Exit → (Nat → Value) → Heap → Prop := bodyP [.tmp 6, .tmp 7] K
def K82z2 (P : Program) (K : Value → Heap → Prop) : Exit → (Nat → Value) → Heap → Prop := thenK (iwpP P c82z2 (K82z0 P K)) (K82z0 P K)
def K82z4 (P : Program) (K : Value → Heap → Prop) : Exit → (Nat → Value) → Heap → Prop := inBlockK 0 (K82z2 P K)
def K82z5 (P : Program) (K : Value → Heap → Prop) (t0 s1 x11 : Value) (L1 : List Value → Heap → Prop) : Exit → (Nat → Value) → Heap → Prop := thenK (fun f' h'' => (([0, 1, 11] : List Nat).map f' : List Value) = [t0, s1, x11] ∧ L1 (([2, 12] : List Nat).map f') h'') (K82z4 P K)
def p82z5 (P : Program) (K : Value → Heap → Prop) (t0 s1 x11 : Value) (L1 : List Value → Heap → Prop) (xs : List Value) (h : Heap) : Prop := CutP (iwpP P c82z5 (K82z5 P K t0 s1 x11 L1)) ([0, 1, 11] ++ [2, 12]) ([t0, s1, x11] ++ xs) h
def p82z15 (P : Program) (K : Value → Heap → Prop) (u2 : Value) (h : Heap) : Prop := CutP (iwpP P c82z15 (K82z0 P K)) [2] [u2] h
theorem q82z5 (P : Program) (K : Value → Heap → Prop) (t0 s1 x11 : Value) (L1 : List Value → Heap → Prop) (u2 x12 : Value) (h : Heap) : p82z5 P K t0 s1 x11 L1 [u2, x12] h =
  (OP (iBin .lss x12 x11) fun x13 =>
  IfP x13
    (OP (iIdxS s1 x12) fun x19 =>
    CallP P 84 [t0, u2, x19] h fun x20 h_1 =>
    OP (iBin .lss x20 (.int .i64 (0))) fun x22 =>
    IfP x22
      (K (.tuple #[(.string ⟨#[]⟩), (.bool false)]) h_1)
      (CallP P 85 [u2, x20] h_1 fun x25 h_2 =>
      OP (iBin .add x12 (.int .i64 (1))) fun x26 =>
      ([t0, s1, x11] : List Value) = [t0, s1, x11] ∧ L1 [x25, x26] h_2))
    (p82z15 P K u2 h)) := (CutP_def _ _ _ _).trans (by kernel_rfl)
theorem q82z15 (P : Program) (K : Value → Heap → Prop) (u2 : Value) (h : Heap) : p82z15 P K u2 h =
  (K (.tuple #[u2, (.bool true)]) h) := (CutP_def _ _ _ _).trans (by kernel_rfl)
def T82 (P : Program) (K : Value → Heap → Prop) (t0 s1 u2 : Value) (h : Heap) : Prop :=
  OP (iLenS s1) fun x11 =>
  LoopP [u2, (.int .i64 (0))] h fun L1 xs hx =>
  p82z5 P K t0 s1 x11 L1 xs hx
theorem e82 (P : Program) (K : Value → Heap → Prop) (t0 s1 u2 : Value) (h : Heap) : iwpP P c82 (bodyP [.tmp 6, .tmp 7] K) (frame0 [t0, s1, u2]) h = T82 P K t0 s1 u2 h := by kernel_rfl
theorem f82 {K : Value → Heap → Prop} {t0 s1 u2 : Value} {h : Heap} (H : T82 Try.prog K t0 s1 u2 h) : CallP Try.prog 82 [t0, s1, u2] h K :=
  callP_intro k82 (Nat.le_of_ble_eq_true rfl) ((e82 Try.prog K t0 s1 u2 h).mpr H)
end Go.Proofs.Ytjdlcokhlphmhaa
