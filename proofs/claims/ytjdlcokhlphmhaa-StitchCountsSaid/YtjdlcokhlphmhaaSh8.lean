/-
  Ideal code of the functions that the proof reaches, written by program; the kernel holds it against the code.
-/
import Derived.Test.YtjdlcokhlphmhaaProg
import Derived.Test.YtjdlcokhlphmhaaSim20
import Derived.KernelRfl
namespace Go.Proofs.Ytjdlcokhlphmhaa
open Go.Sim
/-! F6: pommel/pommellaw03.StitchCartier -/
noncomputable def c6z22 : ICode := .ops none [⟨(some 52), .p (.pick (.tmp 49) (.const (.bool true)) (.tmp 51))⟩]
noncomputable def c6z20 : ICode := .seq (.ops (some (49, false)) [⟨(some 50), .call 20 []⟩,
    ⟨(some 51), .p (.un .not (.tmp 50))⟩])
 (.cut [5, 6, 7, 8, 49, 51] c6z22)
noncomputable def c6z18 : ICode := .seq (.ops none [⟨(some 48), .p (.pick (.tmp 42) (.const (.bool true)) (.tmp 47))⟩,
    ⟨(some 49), .p (.mv (.tmp 48))⟩])
 (.cut [5, 6, 7, 8, 49] c6z20)
noncomputable def c6z16 : ICode := .seq (.ops (some (42, false)) [⟨(some 43), .p (.mv (.tmp 8))⟩,
    ⟨(some 44), .p (.adrSl 1 (.tmp 43) (.const (.int .i64 (1))))⟩,
    ⟨(some 45), .l (.load false 1 (.tmp 44))⟩,
    ⟨(some 46), .p (.mv (.tmp 5))⟩,
    ⟨(some 47), .p (.bin .neq (.tmp 45) (.tmp 46))⟩])
 (.cut [5, 6, 7, 8, 42, 47] c6z18)
noncomputable def c6z14 : ICode := .seq (.ops none [⟨(some 41), .p (.pick (.tmp 36) (.const (.bool true)) (.tmp 40))⟩,
    ⟨(some 42), .p (.mv (.tmp 41))⟩])
 (.cut [5, 6, 7, 8, 42] c6z16)
noncomputable def c6z12 : ICode := .seq (.ops (some (36, false)) [⟨(some 37), .p (.mv (.tmp 8))⟩,
    ⟨(some 38), .p (.adrSl 1 (.tmp 37) (.const (.int .i64 (0))))⟩,
    ⟨(some 39), .l (.load false 1 (.tmp 38))⟩,
    ⟨(some 40), .p (.bin .neq (.tmp 39) (.const (.int .i64 (1))))⟩])
 (.cut [5, 6, 7, 8, 36, 40] c6z14)
noncomputable def c6z10 : ICode := .seq (.ops none [⟨(some 35), .p (.pick (.tmp 31) (.const (.bool true)) (.tmp 34))⟩,
    ⟨(some 36), .p (.mv (.tmp 35))⟩])
 (.cut [5, 6, 7, 8, 36] c6z12)
noncomputable def c6z8 : ICode := .seq (.ops (some (31, false)) [⟨(some 32), .p (.mv (.tmp 8))⟩,
    ⟨(some 33), .p (.lenSl (.tmp 32))⟩,
    ⟨(some 34), .p (.bin .lss (.tmp 33) (.const (.int .i64 (2))))⟩])
 (.cut [5, 6, 7, 8, 31, 34] c6z10)
noncomputable def c6z6 : ICode := .cond (.tmp 52) (.seq (.ops none [⟨(some 4), .p (.mv (.const (.bool false)))⟩])
  (.ret))
 (.skip)
noncomputable def c6z34 : ICode := .ops none [⟨(some 62), .p (.pick (.tmp 58) (.tmp 61) (.const (.bool false)))⟩]
noncomputable def c6z32 : ICode := .seq (.ops (some (58, true)) [⟨(some 59), .p (.mv (.tmp 11))⟩,
    ⟨(some 60), .p (.mv (.tmp 7))⟩,
    ⟨(some 61), .p (.bin .leq (.tmp 59) (.tmp 60))⟩])
 (.cut [5, 6, 7, 8, 10, 11, 58, 61] c6z34)
noncomputable def c6z30 : ICode := .cond (.tmp 62) (.skip)
 (.exit 0)
noncomputable def c6z43 : ICode := .ops none [⟨(some 80), .p (.pick (.tmp 76) (.const (.bool true)) (.tmp 79))⟩]
noncomputable def c6z41 : ICode := .seq (.ops (some (76, false)) [⟨(some 77), .p (.mv (.tmp 12))⟩,
    ⟨(some 78), .call 36 [(.tmp 77)]⟩,
    ⟨(some 79), .p (.un .not (.tmp 78))⟩])
 (.cut [5, 6, 7, 8, 10, 11, 12, 76, 79] c6z43)
noncomputable def c6z39 : ICode := .cond (.tmp 80) (.seq (.ops none [⟨(some 4), .p (.mv (.const (.bool false)))⟩])
  (.ret))
 (.skip)
noncomputable def c6z38 : ICode := .dops [(none, [⟨(some 81), .l (.load true 4 (.tmp 10)), 0⟩,
   ⟨(some 82), .p (.mv (.tmp 8)), 0⟩,
   ⟨(some 83), .p (.mv (.tmp 11)), 0⟩,
   ⟨(some 84), .p (.adrSl 1 (.tmp 82) (.tmp 83)), 6⟩,
   ⟨(some 85), .l (.load false 1 (.tmp 84)), 14⟩,
   ⟨(some 86), .p (.mv (.tmp 11)), 0⟩,
   ⟨(some 87), .p (.bin .rem (.tmp 86) (.const (.int .i64 (2)))), 32⟩,
   ⟨(some 88), .p (.bin .mul (.const (.int .i64 (2))) (.tmp 87)), 96⟩,
   ⟨(some 89), .p (.bin .sub (.const (.int .i64 (1))) (.tmp 88)), 224⟩,
   ⟨(some 90), .p (.bin .mul (.tmp 85) (.tmp 89)), 510⟩,
   ⟨(some 91), .call 35 [(.tmp 90)], 1022⟩,
   ⟨(some 92), .p (.mv (.tmp 12)), 0⟩,
   ⟨(some 93), .call 39 [(.tmp 92)], 4094⟩,
   ⟨(some 94), .call 38 [(.tmp 91), (.tmp 93)], 8190⟩,
   ⟨(some 95), .call 37 [(.tmp 81), (.tmp 94)], 16383⟩,
   ⟨none, .e (.store 4 (.tmp 10) (.tmp 95)), 32767⟩])]
noncomputable def c6z35 : ICode := .ops none [⟨(some 63), .p (.mv (.tmp 11))⟩,
   ⟨(some 64), .p (.bin .add (.tmp 63) (.const (.int .i64 (1))))⟩,
   ⟨(some 11), .p (.mv (.tmp 64))⟩]
noncomputable def c6z29 : ICode := .seq (.block 1 (.seq (.ops none [⟨(some 66), .p (.mv (.tmp 5))⟩,
      ⟨(some 67), .p (.mv (.tmp 6))⟩,
      ⟨(some 68), .p (.mv (.tmp 7))⟩,
      ⟨(some 69), .p (.mv (.tmp 11))⟩,
      ⟨(some 70), .p (.bin .sub (.tmp 68) (.tmp 69))⟩,
      ⟨(some 71), .call 22 [(.tmp 66), (.tmp 67), (.tmp 70)]⟩,
      ⟨(some 65), .p (.mv (.tmp 71))⟩,
      ⟨(some 72), .p (.ext (.tmp 65) 0)⟩,
      ⟨(some 73), .p (.ext (.tmp 65) 1)⟩,
      ⟨(some 12), .p (.mv (.tmp 72))⟩,
      ⟨(some 13), .p (.mv (.tmp 73))⟩])
   (.seq (.seq (.seq (.ops none [⟨(some 74), .p (.mv (.tmp 13))⟩,
        ⟨(some 75), .p (.bin .neq (.tmp 74) (.const (.int .i64 (0))))⟩,
        ⟨(some 76), .p (.mv (.tmp 75))⟩])
     (.cut [5, 6, 7, 8, 10, 11, 12, 76] c6z41)) c6z39) c6z38))) c6z35
noncomputable def c6z28 : ICode := .seq (.seq (.seq (.ops none [⟨(some 54), .p (.mv (.tmp 11))⟩,
      ⟨(some 55), .p (.mv (.tmp 8))⟩,
      ⟨(some 56), .p (.lenSl (.tmp 55))⟩,
      ⟨(some 57), .p (.bin .lss (.tmp 54) (.tmp 56))⟩,
      ⟨(some 58), .p (.mv (.tmp 57))⟩])
   (.cut [5, 6, 7, 8, 10, 11, 58] c6z32)) c6z30) c6z29
noncomputable def c6z45 : ICode := .seq (.ops none [⟨(some 96), .p (.fadr 0 (.tmp 10))⟩,
    ⟨(some 97), .l (.load true 2 (.tmp 96))⟩,
    ⟨(some 98), .call 40 [(.tmp 97)]⟩,
    ⟨(some 99), .p (.bin .eql (.tmp 98) (.const (.int .i64 (0))))⟩,
    ⟨(some 4), .p (.mv (.tmp 99))⟩])
 (.ret)
noncomputable def c6z25 : ICode := .cut [10] c6z45
noncomputable def c6z5 : ICode := .seq (.ops none [⟨(some 53), .call 35 [(.const (.int .i64 (0)))]⟩,
    ⟨(some 10), .e (.alloc 50 [(.bool false), (.slice none 0 0), (.bool false), (.slice none 0 0)])⟩,
    ⟨none, .e (.store 4 (.tmp 10) (.tmp 53))⟩])
 (.seq (.seq (.ops none [⟨(some 11), .p (.mv (.const (.int .i64 (0))))⟩])
  (.block 0 (.loop [5, 6, 7, 8, 10] [11] c6z28))) c6z25)
noncomputable def c6 : ICode := .seq (.ops none [⟨(some 2), .e (.box 54 (.tmp 0))⟩,
    ⟨(some 4), .p (.mv (.const (.bool false)))⟩])
 (.seq (.ops none [⟨(some 15), .l (.load true 2 (.tmp 2))⟩,
    ⟨(some 16), .call 30 [(.tmp 15)]⟩,
    ⟨(some 14), .p (.mv (.tmp 16))⟩,
    ⟨(some 17), .p (.ext (.tmp 14) 0)⟩,
    ⟨(some 18), .p (.ext (.tmp 14) 1)⟩,
    ⟨(some 5), .p (.mv (.tmp 17))⟩,
    ⟨(some 6), .p (.mv (.tmp 18))⟩])
 (.seq (.ops none [⟨(some 19), .p (.mv (.tmp 1))⟩,
    ⟨(some 20), .p (.conv .i64 (.tmp 19))⟩,
    ⟨(some 21), .p (.bin .rem (.tmp 20) (.const (.int .i64 (24))))⟩,
    ⟨(some 22), .p (.bin .add (.tmp 21) (.const (.int .i64 (1))))⟩,
    ⟨(some 7), .p (.mv (.tmp 22))⟩])
 (.seq (.ops none [⟨(some 24), .p (.mv (.tmp 5))⟩,
    ⟨(some 25), .p (.mv (.tmp 6))⟩,
    ⟨(some 26), .call 23 [(.tmp 24), (.tmp 25)]⟩,
    ⟨(some 23), .p (.mv (.tmp 26))⟩,
    ⟨(some 27), .p (.ext (.tmp 23) 0)⟩,
    ⟨(some 28), .p (.ext (.tmp 23) 1)⟩,
    ⟨(some 8), .p (.mv (.tmp 27))⟩,
    ⟨(some 9), .p (.mv (.tmp 28))⟩])
 (.seq (.seq (.seq (.ops none [⟨(some 29), .p (.mv (.tmp 9))⟩,
      ⟨(some 30), .p (.bin .neq (.tmp 29) (.const (.int .i64 (0))))⟩,
      ⟨(some 31), .p (.mv (.tmp 30))⟩])
   (.cut [5, 6, 7, 8, 31] c6z8)) c6z6) c6z5))))
theorem k6 : compFn Try.prog 6 [[], [], [], [], [5, 6, 7, 8, 31], [5, 6, 7, 8, 31, 34], [5, 6, 7, 8, 36], [5, 6, 7, 8, 36, 40], [5, 6, 7, 8, 42], [5, 6, 7, 8, 42, 47], [5, 6, 7, 8, 49], [5, 6, 7, 8, 49, 51], [], [], [], [], [], [5, 6, 7, 8, 10], [11], [5, 6, 7, 8, 10, 11, 58], [5, 6, 7, 8, 10, 11, 58, 61], [], [], [], [5, 6, 7, 8, 10, 11, 12, 76], [5, 6, 7, 8, 10, 11, 12, 76, 79], [], [], [], [], [10], []] = some (100, c6, [.tmp 4]) := by kernel_rfl
def K6z0 (_P : Program) (K : Value → Heap → Prop) : Exit → (Nat → Value) → Heap → Prop := bodyP [.tmp 4] K
def K6z5 (P : Program) (K : Value → Heap → Prop) : Exit → (Nat → Value) → Heap → Prop := thenK (iwpP P c6z5 (K6z0 P K)) (K6z0 P K)
def K6z6 (P : Program) (K : Value → Heap → Prop) : Exit → (Nat → Value) → Heap → Prop := thenK (iwpP P c6z6 (K6z5 P K)) (K6z5 P K)
def K6z25 (P : Program) (K : Value → Heap → Prop) : Exit → (Nat → Value) → Heap → Prop := thenK (iwpP P c6z25 (K6z0 P K)) (K6z0 P K)
def K6z27 (P : Program) (K : Value → Heap → Prop) : Exit → (Nat → Value) → Heap → Prop := inBlockK 0 (K6z25 P K)
def K6z28 (P : Program) (K : Value → Heap → Prop) (k5 p6 size7 l8 sum10 : Value) (L1 : List Value → Heap → Prop) : Exit → (Nat → Value) → Heap → Prop := thenK (fun f' h'' => (([5, 6, 7, 8, 10] : List Nat).map f' : List Value) = [k5, p6, size7, l8, sum10] ∧ L1 (([11] : List Nat).map f') h'') (K6z27 P K)
def K6z29 (P : Program) (K : Value → Heap → Prop) (k5 p6 size7 l8 sum10 : Value) (L1 : List Value → Heap → Prop) : Exit → (Nat → Value) → Heap → Prop := thenK (iwpP P c6z29 (K6z28 P K k5 p6 size7 l8 sum10 L1)) (K6z28 P K k5 p6 size7 l8 sum10 L1)
def K6z30 (P : Program) (K : Value → Heap → Prop) (k5 p6 size7 l8 sum10 : Value) (L1 : List Value → Heap → Prop) : Exit → (Nat → Value) → Heap → Prop := thenK (iwpP P c6z30 (K6z29 P K k5 p6 size7 l8 sum10 L1)) (K6z29 P K k5 p6 size7 l8 sum10 L1)
def K6z35 (P : Program) (K : Value → Heap → Prop) (k5 p6 size7 l8 sum10 : Value) (L1 : List Value → Heap → Prop) : Exit → (Nat → Value) → Heap → Prop := thenK (iwpP P c6z35 (K6z28 P K k5 p6 size7 l8 sum10 L1)) (K6z28 P K k5 p6 size7 l8 sum10 L1)
def K6z36 (P : Program) (K : Value → Heap → Prop) (k5 p6 size7 l8 sum10 : Value) (L1 : List Value → Heap → Prop) : Exit → (Nat → Value) → Heap → Prop := inBlockK 1 (K6z35 P K k5 p6 size7 l8 sum10 L1)
def K6z38 (P : Program) (K : Value → Heap → Prop) (k5 p6 size7 l8 sum10 : Value) (L1 : List Value → Heap → Prop) : Exit → (Nat → Value) → Heap → Prop := thenK (iwpP P c6z38 (K6z36 P K k5 p6 size7 l8 sum10 L1)) (K6z36 P K k5 p6 size7 l8 sum10 L1)
def K6z39 (P : Program) (K : Value → Heap → Prop) (k5 p6 size7 l8 sum10 : Value) (L1 : List Value → Heap → Prop) : Exit → (Nat → Value) → Heap → Prop := thenK (iwpP P c6z39 (K6z38 P K k5 p6 size7 l8 sum10 L1)) (K6z38 P K k5 p6 size7 l8 sum10 L1)
def p6z8 (P : Program) (K : Value → Heap → Prop) (k5 p6 size7 l8 x31 : Value) (h : Heap) : Prop := CutP (iwpP P c6z8 (K6z6 P K)) [5, 6, 7, 8, 31] [k5, p6, size7, l8, x31] h
def p6z10 (P : Program) (K : Value → Heap → Prop) (k5 p6 size7 l8 x31 x34 : Value) (h : Heap) : Prop := CutP (iwpP P c6z10 (K6z6 P K)) [5, 6, 7, 8, 31, 34] [k5, p6, size7, l8, x31, x34] h
def p6z12 (P : Program) (K : Value → Heap → Prop) (k5 p6 size7 l8 x36 : Value) (h : Heap) : Prop := CutP (iwpP P c6z12 (K6z6 P K)) [5, 6, 7, 8, 36] [k5, p6, size7, l8, x36] h
def p6z14 (P : Program) (K : Value → Heap → Prop) (k5 p6 size7 l8 x36 x40 : Value) (h : Heap) : Prop := CutP (iwpP P c6z14 (K6z6 P K)) [5, 6, 7, 8, 36, 40] [k5, p6, size7, l8, x36, x40] h
def p6z16 (P : Program) (K : Value → Heap → Prop) (k5 p6 size7 l8 x42 : Value) (h : Heap) : Prop := CutP (iwpP P c6z16 (K6z6 P K)) [5, 6, 7, 8, 42] [k5, p6, size7, l8, x42] h
def p6z18 (P : Program) (K : Value → Heap → Prop) (k5 p6 size7 l8 x42 x47 : Value) (h : Heap) : Prop := CutP (iwpP P c6z18 (K6z6 P K)) [5, 6, 7, 8, 42, 47] [k5, p6, size7, l8, x42, x47] h
def p6z20 (P : Program) (K : Value → Heap → Prop) (k5 p6 size7 l8 x49 : Value) (h : Heap) : Prop := CutP (iwpP P c6z20 (K6z6 P K)) [5, 6, 7, 8, 49] [k5, p6, size7, l8, x49] h
def p6z22 (P : Program) (K : Value → Heap → Prop) (k5 p6 size7 l8 x49 x51 : Value) (h : Heap) : Prop := CutP (iwpP P c6z22 (K6z6 P K)) [5, 6, 7, 8, 49, 51] [k5, p6, size7, l8, x49, x51] h
def p6z28 (P : Program) (K : Value → Heap → Prop) (k5 p6 size7 l8 sum10 : Value) (L1 : List Value → Heap → Prop) (xs : List Value) (h : Heap) : Prop := CutP (iwpP P c6z28 (K6z28 P K k5 p6 size7 l8 sum10 L1)) ([5, 6, 7, 8, 10] ++ [11]) ([k5, p6, size7, l8, sum10] ++ xs) h
def p6z32 (P : Program) (K : Value → Heap → Prop) (k5 p6 size7 l8 sum10 i11 x58 : Value) (L1 : List Value → Heap → Prop) (h : Heap) : Prop := CutP (iwpP P c6z32 (K6z30 P K k5 p6 size7 l8 sum10 L1)) [5, 6, 7, 8, 10, 11, 58] [k5, p6, size7, l8, sum10, i11, x58] h
def p6z34 (P : Program) (K : Value → Heap → Prop) (k5 p6 size7 l8 sum10 i11 x58 x61 : Value) (L1 : List Value → Heap → Prop) (h : Heap) : Prop := CutP (iwpP P c6z34 (K6z30 P K k5 p6 size7 l8 sum10 L1)) [5, 6, 7, 8, 10, 11, 58, 61] [k5, p6, size7, l8, sum10, i11, x58, x61] h
def p6z41 (P : Program) (K : Value → Heap → Prop) (k5 p6 size7 l8 sum10 i11 v12 x76 : Value) (L1 : List Value → Heap → Prop) (h : Heap) : Prop := CutP (iwpP P c6z41 (K6z39 P K k5 p6 size7 l8 sum10 L1)) [5, 6, 7, 8, 10, 11, 12, 76] [k5, p6, size7, l8, sum10, i11, v12, x76] h
def p6z43 (P : Program) (K : Value → Heap → Prop) (k5 p6 size7 l8 sum10 i11 v12 x76 x79 : Value) (L1 : List Value → Heap → Prop) (h : Heap) : Prop := CutP (iwpP P c6z43 (K6z39 P K k5 p6 size7 l8 sum10 L1)) [5, 6, 7, 8, 10, 11, 12, 76, 79] [k5, p6, size7, l8, sum10, i11, v12, x76, x79] h
def p6z45 (P : Program) (K : Value → Heap → Prop) (sum10 : Value) (h : Heap) : Prop := CutP (iwpP P c6z45 (K6z0 P K)) [10] [sum10] h
theorem q6z22 (P : Program) (K : Value → Heap → Prop) (k5 p6 size7 l8 x49 x51 : Value) (h : Heap) : p6z22 P K k5 p6 size7 l8 x49 x51 h =
  (OP (iPick x49 (.bool true) x51) fun x52 =>
  IfP x52
    (K (.bool false) h)
    (CallP P 35 [(.int .i64 (0))] h fun x53 h_1 =>
    OH (iAlloc 50 [(.bool false), (.slice none 0 0), (.bool false), (.slice none 0 0)] h_1) fun sum10 h_2 =>
    OH (oStore 4 h_2 sum10 x53) fun _ h_3 =>
    LoopP [(.int .i64 (0))] h_3 fun L1 xs hx =>
    p6z28 P K k5 p6 size7 l8 sum10 L1 xs hx)) := (CutP_def _ _ _ _).trans (by kernel_rfl)
theorem q6z20 (P : Program) (K : Value → Heap → Prop) (k5 p6 size7 l8 x49 : Value) (h : Heap) : p6z20 P K k5 p6 size7 l8 x49 h =
  (GdP x49 false
    (CallP P 20 [] h fun x50 h_1 =>
    OP (iUn .not x50) fun x51 =>
    p6z22 P K k5 p6 size7 l8 x49 x51 h_1)
    (p6z22 P K k5 p6 size7 l8 x49 undef h)) := (CutP_def _ _ _ _).trans (by kernel_rfl)
theorem q6z18 (P : Program) (K : Value → Heap → Prop) (k5 p6 size7 l8 x42 x47 : Value) (h : Heap) : p6z18 P K k5 p6 size7 l8 x42 x47 h =
  (OP (iPick x42 (.bool true) x47) fun x48 =>
  p6z20 P K k5 p6 size7 l8 x48 h) := (CutP_def _ _ _ _).trans (by kernel_rfl)
theorem q6z16 (P : Program) (K : Value → Heap → Prop) (k5 p6 size7 l8 x42 : Value) (h : Heap) : p6z16 P K k5 p6 size7 l8 x42 h =
  (GdP x42 false
    (OP (iAdrSl 1 l8 (.int .i64 (1))) fun x44 =>
    OP (iLoad false 1 h x44) fun x45 =>
    OP (iBin .neq x45 k5) fun x47 =>
    p6z18 P K k5 p6 size7 l8 x42 x47 h)
    (p6z18 P K k5 p6 size7 l8 x42 undef h)) := (CutP_def _ _ _ _).trans (by kernel_rfl)
theorem q6z14 (P : Program) (K : Value → Heap → Prop) (k5 p6 size7 l8 x36 x40 : Value) (h : Heap) : p6z14 P K k5 p6 size7 l8 x36 x40 h =
  (OP (iPick x36 (.bool true) x40) fun x41 =>
  p6z16 P K k5 p6 size7 l8 x41 h) := (CutP_def _ _ _ _).trans (by kernel_rfl)
theorem q6z12 (P : Program) (K : Value → Heap → Prop) (k5 p6 size7 l8 x36 : Value) (h : Heap) : p6z12 P K k5 p6 size7 l8 x36 h =
  (GdP x36 false
    (OP (iAdrSl 1 l8 (.int .i64 (0))) fun x38 =>
    OP (iLoad false 1 h x38) fun x39 =>
    OP (iBin .neq x39 (.int .i64 (1))) fun x40 =>
    p6z14 P K k5 p6 size7 l8 x36 x40 h)
    (p6z14 P K k5 p6 size7 l8 x36 undef h)) := (CutP_def _ _ _ _).trans (by kernel_rfl)
theorem q6z10 (P : Program) (K : Value → Heap → Prop) (k5 p6 size7 l8 x31 x34 : Value) (h : Heap) : p6z10 P K k5 p6 size7 l8 x31 x34 h =
  (OP (iPick x31 (.bool true) x34) fun x35 =>
  p6z12 P K k5 p6 size7 l8 x35 h) := (CutP_def _ _ _ _).trans (by kernel_rfl)
theorem q6z8 (P : Program) (K : Value → Heap → Prop) (k5 p6 size7 l8 x31 : Value) (h : Heap) : p6z8 P K k5 p6 size7 l8 x31 h =
  (GdP x31 false
    (OP (iLenSl l8) fun x33 =>
    OP (iBin .lss x33 (.int .i64 (2))) fun x34 =>
    p6z10 P K k5 p6 size7 l8 x31 x34 h)
    (p6z10 P K k5 p6 size7 l8 x31 undef h)) := (CutP_def _ _ _ _).trans (by kernel_rfl)
theorem q6z34 (P : Program) (K : Value → Heap → Prop) (k5 p6 size7 l8 sum10 i11 x58 x61 : Value) (L1 : List Value → Heap → Prop) (h : Heap) : p6z34 P K k5 p6 size7 l8 sum10 i11 x58 x61 L1 h =
  (OP (iPick x58 x61 (.bool false)) fun x62 =>
  IfP x62
    (OP (iBin .sub size7 i11) fun x70 =>
    CallP P 22 [k5, p6, x70] h fun x71 h_1 =>
    OP (iExt 0 x71) fun x72 =>
    OP (iExt 1 x71) fun x73 =>
    OP (iBin .neq x73 (.int .i64 (0))) fun x75 =>
    p6z41 P K k5 p6 size7 l8 sum10 i11 x72 x75 L1 h_1)
    (p6z45 P K sum10 h)) := (CutP_def _ _ _ _).trans (by kernel_rfl)
theorem q6z32 (P : Program) (K : Value → Heap → Prop) (k5 p6 size7 l8 sum10 i11 x58 : Value) (L1 : List Value → Heap → Prop) (h : Heap) : p6z32 P K k5 p6 size7 l8 sum10 i11 x58 L1 h =
  (GdP x58 true
    (OP (iBin .leq i11 size7) fun x61 =>
    p6z34 P K k5 p6 size7 l8 sum10 i11 x58 x61 L1 h)
    (p6z34 P K k5 p6 size7 l8 sum10 i11 x58 undef L1 h)) := (CutP_def _ _ _ _).trans (by kernel_rfl)
theorem q6z43 (P : Program) (K : Value → Heap → Prop) (k5 p6 size7 l8 sum10 i11 v12 x76 x79 : Value) (L1 : List Value → Heap → Prop) (h : Heap) : p6z43 P K k5 p6 size7 l8 sum10 i11 v12 x76 x79 L1 h =
  (OP (iPick x76 (.bool true) x79) fun x80 =>
  IfP x80
    (K (.bool false) h)
    (OP (iLoad true 4 h sum10) fun x81 =>
    (True) ∧
    OP (iAdrSl 1 l8 i11) fun x84 =>
    OP (iLoad false 1 h x84) fun x85 =>
    (True) ∧
    OP (iBin .rem i11 (.int .i64 (2))) fun x87 =>
    OP (iBin .mul (.int .i64 (2)) x87) fun x88 =>
    OP (iBin .sub (.int .i64 (1)) x88) fun x89 =>
    OP (iBin .mul x85 x89) fun x90 =>
    CallP P 35 [x90] h fun x91 h_1 =>
    (iLoad true 4 h_1 sum10 = some x81 ∧ True) ∧
    CallP P 39 [v12] h_1 fun x93 h_2 =>
    (iLoad true 4 h_2 sum10 = some x81 ∧ True) ∧
    CallP P 38 [x91, x93] h_2 fun x94 h_3 =>
    (iLoad true 4 h_3 sum10 = some x81 ∧ True) ∧
    CallP P 37 [x81, x94] h_3 fun x95 h_4 =>
    (True) ∧
    OH (oStore 4 h_4 sum10 x95) fun _ h_5 =>
    (True) ∧
    OP (iBin .add i11 (.int .i64 (1))) fun x64 =>
    ([k5, p6, size7, l8, sum10] : List Value) = [k5, p6, size7, l8, sum10] ∧ L1 [x64] h_5)) := (CutP_def _ _ _ _).trans (by kernel_rfl)
theorem q6z41 (P : Program) (K : Value → Heap → Prop) (k5 p6 size7 l8 sum10 i11 v12 x76 : Value) (L1 : List Value → Heap → Prop) (h : Heap) : p6z41 P K k5 p6 size7 l8 sum10 i11 v12 x76 L1 h =
  (GdP x76 false
    (CallP P 36 [v12] h fun x78 h_1 =>
    OP (iUn .not x78) fun x79 =>
    p6z43 P K k5 p6 size7 l8 sum10 i11 v12 x76 x79 L1 h_1)
    (p6z43 P K k5 p6 size7 l8 sum10 i11 v12 x76 undef L1 h)) := (CutP_def _ _ _ _).trans (by kernel_rfl)
theorem q6z28 (P : Program) (K : Value → Heap → Prop) (k5 p6 size7 l8 sum10 : Value) (L1 : List Value → Heap → Prop) (i11 : Value) (h : Heap) : p6z28 P K k5 p6 size7 l8 sum10 L1 [i11] h =
  (OP (iLenSl l8) fun x56 =>
  OP (iBin .lss i11 x56) fun x57 =>
  p6z32 P K k5 p6 size7 l8 sum10 i11 x57 L1 h) := (CutP_def _ _ _ _).trans (by kernel_rfl)
theorem q6z45 (P : Program) (K : Value → Heap → Prop) (sum10 : Value) (h : Heap) : p6z45 P K sum10 h =
  (OP (iFadr 0 sum10) fun x96 =>
  OP (iLoad true 2 h x96) fun x97 =>
  CallP P 40 [x97] h fun x98 h_1 =>
  OP (iBin .eql x98 (.int .i64 (0))) fun x99 =>
  K x99 h_1) := (CutP_def _ _ _ _).trans (by kernel_rfl)
def T6 (P : Program) (K : Value → Heap → Prop) (c0 n1 : Value) (h : Heap) : Prop :=
  OH (iBox 54 h c0) fun c2 h_1 =>
  OP (iLoad true 2 h_1 c2) fun x15 =>
  CallP P 30 [x15] h_1 fun x16 h_2 =>
  OP (iExt 0 x16) fun x17 =>
  OP (iExt 1 x16) fun x18 =>
  OP (iConv .i64 n1) fun x20 =>
  OP (iBin .rem x20 (.int .i64 (24))) fun x21 =>
  OP (iBin .add x21 (.int .i64 (1))) fun x22 =>
  CallP P 23 [x17, x18] h_2 fun x26 h_3 =>
  OP (iExt 0 x26) fun x27 =>
  OP (iExt 1 x26) fun x28 =>
  OP (iBin .neq x28 (.int .i64 (0))) fun x30 =>
  p6z8 P K x17 x18 x22 x27 x30 h_3
theorem e6 (P : Program) (K : Value → Heap → Prop) (c0 n1 : Value) (h : Heap) : iwpP P c6 (bodyP [.tmp 4] K) (frame0 [c0, n1]) h = T6 P K c0 n1 h := by kernel_rfl
theorem f6 {K : Value → Heap → Prop} {c0 n1 : Value} {h : Heap} (H : T6 Try.prog K c0 n1 h) : CallP Try.prog 6 [c0, n1] h K :=
  callP_intro k6 (Nat.le_of_ble_eq_true rfl) ((e6 Try.prog K c0 n1 h).mpr H)
/-! F35: pommel/pommelref01.Whole -/
noncomputable def c35 : ICode := .seq (.ops none [⟨(some 2), .e (.alloc 50 [(.bool false), (.slice none 0 0), (.bool false), (.slice none 0 0)])⟩])
 (.seq (.ops none [⟨(some 3), .p (.mv (.tmp 0))⟩,
    ⟨(some 4), .call 29 [(.tmp 3)]⟩,
    ⟨(some 5), .call 29 [(.const (.int .i64 (1)))]⟩,
    ⟨(some 6), .p (.build [(.bool false), (.slice none 0 0), (.bool false), (.slice none 0 0)] [(0, 2, (.tmp 4)), (2, 2, (.tmp 5))])⟩,
    ⟨none, .e (.store 4 (.tmp 2) (.tmp 6))⟩])
 (.ret))
theorem k35 : compFn Try.prog 35 [[], []] = some (7, c35, [.cell true 4 2]) := by kernel_rfl
def K35z0 (_P : Program) (K : Value → Heap → Prop) : Exit → (Nat → Value) → Heap → Prop := bodyP [.cell true 4 2] K
def T35 (P : Program) (K : Value → Heap → Prop) (v0 : Value) (h : Heap) : Prop :=
  OH (iAlloc 50 [(.bool false), (.slice none 0 0), (.bool false), (.slice none 0 0)] h) fun x2 h_1 =>
  CallP P 29 [v0] h_1 fun x4 h_2 =>
  CallP P 29 [(.int .i64 (1))] h_2 fun x5 h_3 =>
  OP (iBuild [(.bool false), (.slice none 0 0), (.bool false), (.slice none 0 0)] [(0, 2, x4), (2, 2, x5)]) fun x6 =>
  OH (oStore 4 h_3 x2 x6) fun _ h_4 =>
  OP (iLoad true 4 h_4 x2) fun r0 =>
  K r0 h_4
theorem e35 (P : Program) (K : Value → Heap → Prop) (v0 : Value) (h : Heap) : iwpP P c35 (bodyP [.cell true 4 2] K) (frame0 [v0]) h = T35 P K v0 h := by kernel_rfl
theorem f35 {K : Value → Heap → Prop} {v0 : Value} {h : Heap} (H : T35 Try.prog K v0 h) : CallP Try.prog 35 [v0] h K :=
  callP_intro k35 (Nat.le_of_ble_eq_true rfl) ((e35 Try.prog K v0 h).mpr H)
/-! F36: pommel/pommelref01.Integer -/
noncomputable def c36 : ICode := .seq (.ops none [⟨(some 2), .p (.mv (.const (.bool false)))⟩])
 (.seq (.ops none [⟨(some 6), .p (.mv (.tmp 0))⟩,
    ⟨(some 7), .call 75 [(.tmp 6)]⟩,
    ⟨(some 5), .p (.mv (.tmp 7))⟩,
    ⟨(some 8), .p (.ext (.tmp 5) 0)⟩,
    ⟨(some 9), .p (.ext (.tmp 5) 1)⟩,
    ⟨(some 3), .e (.alloc 50 [(.bool false), (.slice none 0 0), (.bool false), (.slice none 0 0)])⟩,
    ⟨none, .e (.store 4 (.tmp 3) (.tmp 8))⟩,
    ⟨(some 4), .p (.mv (.tmp 9))⟩])
 (.seq (.dops [(none, [⟨(some 10), .p (.mv (.tmp 4)), 0⟩,
    ⟨(some 11), .p (.mv (.tmp 10)), 1⟩]),
   ((some (11, true)), [⟨(some 12), .p (.fadr 2 (.tmp 3)), 3⟩,
    ⟨(some 13), .l (.load true 2 (.tmp 12)), 7⟩,
    ⟨(some 14), .call 29 [(.const (.int .i64 (1)))], 3⟩,
    ⟨(some 15), .call 76 [(.tmp 13), (.tmp 14)], 31⟩,
    ⟨(some 16), .p (.bin .eql (.tmp 15) (.const (.int .i64 (0)))), 63⟩]),
   (none, [⟨(some 17), .p (.pick (.tmp 11) (.tmp 16) (.const (.bool false))), 127⟩,
    ⟨(some 2), .p (.mv (.tmp 17)), 255⟩])])
 (.ret)))
theorem k36 : compFn Try.prog 36 [[], [], []] = some (18, c36, [.tmp 2]) := by kernel_rfl
def K36z0 (_P : Program) (K : Value → Heap → Prop) : Exit → (Nat → Value) → Heap → Prop := bodyP [.tmp 2] K
def T36 (P : Program) (K : Value → Heap → Prop) (x0 : Value) (h : Heap) : Prop :=
  CallP P 75 [x0] h fun x7 h_1 =>
  OP (iExt 0 x7) fun x8 =>
  OP (iExt 1 x7) fun x9 =>
  OH (iAlloc 50 [(.bool false), (.slice none 0 0), (.bool false), (.slice none 0 0)] h_1) fun q3 h_2 =>
  OH (oStore 4 h_2 q3 x8) fun _ h_3 =>
  GdP x9 true
    (OP (iFadr 2 q3) fun x12 =>
    OP (iLoad true 2 h_3 x12) fun x13 =>
    (True) ∧
    CallP P 29 [(.int .i64 (1))] h_3 fun x14 h_4 =>
    (iLoad true 2 h_4 x12 = some x13 ∧ True) ∧
    CallP P 76 [x13, x14] h_4 fun x15 h_5 =>
    (True) ∧
    OP (iBin .eql x15 (.int .i64 (0))) fun x16 =>
    OP (iPick x9 x16 (.bool false)) fun x17 =>
    K x17 h_5)
    ((True) ∧
    (True) ∧
    OP (iPick x9 undef (.bool false)) fun x17 =>
    K x17 h_3)
theorem e36 (P : Program) (K : Value → Heap → Prop) (x0 : Value) (h : Heap) : iwpP P c36 (bodyP [.tmp 2] K) (frame0 [x0]) h = T36 P K x0 h := by kernel_rfl
theorem f36 {K : Value → Heap → Prop} {x0 : Value} {h : Heap} (H : T36 Try.prog K x0 h) : CallP Try.prog 36 [x0] h K :=
  callP_intro k36 (Nat.le_of_ble_eq_true rfl) ((e36 Try.prog K x0 h).mpr H)
/-! F37: pommel/pommelref01.AddQ -/
noncomputable def c37 : ICode := .seq (.ops none [⟨(some 2), .e (.box 50 (.tmp 0))⟩,
    ⟨(some 3), .e (.box 50 (.tmp 1))⟩,
    ⟨(some 4), .e (.alloc 50 [(.bool false), (.slice none 0 0), (.bool false), (.slice none 0 0)])⟩])
 (.seq (.dops [(none, [⟨(some 5), .p (.fadr 0 (.tmp 2)), 0⟩,
    ⟨(some 6), .l (.load true 2 (.tmp 5)), 1⟩,
    ⟨(some 7), .p (.fadr 2 (.tmp 3)), 0⟩,
    ⟨(some 8), .l (.load true 2 (.tmp 7)), 4⟩,
    ⟨(some 9), .call 77 [(.tmp 6), (.tmp 8)], 15⟩,
    ⟨(some 10), .p (.fadr 0 (.tmp 3)), 0⟩,
    ⟨(some 11), .l (.load true 2 (.tmp 10)), 32⟩,
    ⟨(some 12), .p (.fadr 2 (.tmp 2)), 0⟩,
    ⟨(some 13), .l (.load true 2 (.tmp 12)), 128⟩,
    ⟨(some 14), .call 77 [(.tmp 11), (.tmp 13)], 511⟩,
    ⟨(some 15), .call 74 [(.tmp 9), (.tmp 14)], 1023⟩,
    ⟨(some 16), .p (.fadr 2 (.tmp 2)), 0⟩,
    ⟨(some 17), .l (.load true 2 (.tmp 16)), 2048⟩,
    ⟨(some 18), .p (.fadr 2 (.tmp 3)), 0⟩,
    ⟨(some 19), .l (.load true 2 (.tmp 18)), 8192⟩,
    ⟨(some 20), .call 77 [(.tmp 17), (.tmp 19)], 32767⟩,
    ⟨(some 21), .p (.build [(.bool false), (.slice none 0 0), (.bool false), (.slice none 0 0)] [(0, 2, (.tmp 15)), (2, 2, (.tmp 20))]), 65535⟩,
    ⟨none, .e (.store 4 (.tmp 4) (.tmp 21)), 131071⟩])])
 (.ret))
theorem k37 : compFn Try.prog 37 [[], []] = some (22, c37, [.cell true 4 4]) := by kernel_rfl
def K37z0 (_P : Program) (K : Value → Heap → Prop) : Exit → (Nat → Value) → Heap → Prop := bodyP [.cell true 4 4] K
def T37 (P : Program) (K : Value → Heap → Prop) (a0 b1 : Value) (h : Heap) : Prop :=
  OH (iBox 50 h a0) fun a2 h_1 =>
  OH (iBox 50 h_1 b1) fun b3 h_2 =>
  OH (iAlloc 50 [(.bool false), (.slice none 0 0), (.bool false), (.slice none 0 0)] h_2) fun x4 h_3 =>
  OP (iFadr 0 a2) fun x5 =>
  OP (iLoad true 2 h_3 x5) fun x6 =>
  (True) ∧
  OP (iFadr 2 b3) fun x7 =>
  OP (iLoad true 2 h_3 x7) fun x8 =>
  (True) ∧
  CallP P 77 [x6, x8] h_3 fun x9 h_4 =>
  (True) ∧
  OP (iFadr 0 b3) fun x10 =>
  OP (iLoad true 2 h_4 x10) fun x11 =>
  (iLoad true 2 h_3 x10 = some x11 ∧ True) ∧
  OP (iFadr 2 a2) fun x12 =>
  OP (iLoad true 2 h_4 x12) fun x13 =>
  (iLoad true 2 h_3 x12 = some x13 ∧ True) ∧
  CallP P 77 [x11, x13] h_4 fun x14 h_5 =>
  (True) ∧
  CallP P 74 [x9, x14] h_5 fun x15 h_6 =>
  (True) ∧
  OP (iFadr 2 a2) fun x16 =>
  OP (iLoad true 2 h_6 x16) fun x17 =>
  (iLoad true 2 h_3 x16 = some x17 ∧ iLoad true 2 h_4 x16 = some x17 ∧ iLoad true 2 h_5 x16 = some x17 ∧ True) ∧
  OP (iFadr 2 b3) fun x18 =>
  OP (iLoad true 2 h_6 x18) fun x19 =>
  (iLoad true 2 h_3 x18 = some x19 ∧ iLoad true 2 h_4 x18 = some x19 ∧ iLoad true 2 h_5 x18 = some x19 ∧ True) ∧
  CallP P 77 [x17, x19] h_6 fun x20 h_7 =>
  (True) ∧
  OP (iBuild [(.bool false), (.slice none 0 0), (.bool false), (.slice none 0 0)] [(0, 2, x15), (2, 2, x20)]) fun x21 =>
  OH (oStore 4 h_7 x4 x21) fun _ h_8 =>
  (True) ∧
  OP (iLoad true 4 h_8 x4) fun r0 =>
  K r0 h_8
theorem e37 (P : Program) (K : Value → Heap → Prop) (a0 b1 : Value) (h : Heap) : iwpP P c37 (bodyP [.cell true 4 4] K) (frame0 [a0, b1]) h = T37 P K a0 b1 h := by kernel_rfl
theorem f37 {K : Value → Heap → Prop} {a0 b1 : Value} {h : Heap} (H : T37 Try.prog K a0 b1 h) : CallP Try.prog 37 [a0, b1] h K :=
  callP_intro k37 (Nat.le_of_ble_eq_true rfl) ((e37 Try.prog K a0 b1 h).mpr H)
/-! F38: pommel/pommelref01.MulQ -/
noncomputable def c38 : ICode := .seq (.ops none [⟨(some 2), .e (.box 50 (.tmp 0))⟩,
    ⟨(some 3), .e (.box 50 (.tmp 1))⟩,
    ⟨(some 4), .e (.alloc 50 [(.bool false), (.slice none 0 0), (.bool false), (.slice none 0 0)])⟩])
 (.seq (.dops [(none, [⟨(some 5), .p (.fadr 0 (.tmp 2)), 0⟩,
    ⟨(some 6), .l (.load true 2 (.tmp 5)), 1⟩,
    ⟨(some 7), .p (.fadr 0 (.tmp 3)), 0⟩,
    ⟨(some 8), .l (.load true 2 (.tmp 7)), 4⟩,
    ⟨(some 9), .call 77 [(.tmp 6), (.tmp 8)], 15⟩,
    ⟨(some 10), .p (.fadr 2 (.tmp 2)), 0⟩,
    ⟨(some 11), .l (.load true 2 (.tmp 10)), 32⟩,
    ⟨(some 12), .p (.fadr 2 (.tmp 3)), 0⟩,
    ⟨(some 13), .l (.load true 2 (.tmp 12)), 128⟩,
    ⟨(some 14), .call 77 [(.tmp 11), (.tmp 13)], 511⟩,
    ⟨(some 15), .p (.build [(.bool false), (.slice none 0 0), (.bool false), (.slice none 0 0)] [(0, 2, (.tmp 9)), (2, 2, (.tmp 14))]), 1023⟩,
    ⟨none, .e (.store 4 (.tmp 4) (.tmp 15)), 2047⟩])])
 (.ret))
theorem k38 : compFn Try.prog 38 [[], []] = some (16, c38, [.cell true 4 4]) := by kernel_rfl
def K38z0 (_P : Program) (K : Value → Heap → Prop) : Exit → (Nat → Value) → Heap → Prop := bodyP [.cell true 4 4] K
def T38 (P : Program) (K : Value → Heap → Prop) (a0 b1 : Value) (h : Heap) : Prop :=
  OH (iBox 50 h a0) fun a2 h_1 =>
  OH (iBox 50 h_1 b1) fun b3 h_2 =>
  OH (iAlloc 50 [(.bool false), (.slice none 0 0), (.bool false), (.slice none 0 0)] h_2) fun x4 h_3 =>
  OP (iFadr 0 a2) fun x5 =>
  OP (iLoad true 2 h_3 x5) fun x6 =>
  (True) ∧
  OP (iFadr 0 b3) fun x7 =>
  OP (iLoad true 2 h_3 x7) fun x8 =>
  (True) ∧
  CallP P 77 [x6, x8] h_3 fun x9 h_4 =>
  (True) ∧
  OP (iFadr 2 a2) fun x10 =>
  OP (iLoad true 2 h_4 x10) fun x11 =>
  (iLoad true 2 h_3 x10 = some x11 ∧ True) ∧
  OP (iFadr 2 b3) fun x12 =>
  OP (iLoad true 2 h_4 x12) fun x13 =>
  (iLoad true 2 h_3 x12 = some x13 ∧ True) ∧
  CallP P 77 [x11, x13] h_4 fun x14 h_5 =>
  (True) ∧
  OP (iBuild [(.bool false), (.slice none 0 0), (.bool false), (.slice none 0 0)] [(0, 2, x9), (2, 2, x14)]) fun x15 =>
  OH (oStore 4 h_5 x4 x15) fun _ h_6 =>
  (True) ∧
  OP (iLoad true 4 h_6 x4) fun r0 =>
  K r0 h_6
theorem e38 (P : Program) (K : Value → Heap → Prop) (a0 b1 : Value) (h : Heap) : iwpP P c38 (bodyP [.cell true 4 4] K) (frame0 [a0, b1]) h = T38 P K a0 b1 h := by kernel_rfl
theorem f38 {K : Value → Heap → Prop} {a0 b1 : Value} {h : Heap} (H : T38 Try.prog K a0 b1 h) : CallP Try.prog 38 [a0, b1] h K :=
  callP_intro k38 (Nat.le_of_ble_eq_true rfl) ((e38 Try.prog K a0 b1 h).mpr H)
/-! F39: pommel/pommelref01.Of -/
noncomputable def c39 : ICode := .seq (.ops none [⟨(some 2), .e (.alloc 50 [(.bool false), (.slice none 0 0), (.bool false), (.slice none 0 0)])⟩])
 (.seq (.ops none [⟨(some 6), .p (.mv (.tmp 0))⟩,
    ⟨(some 7), .call 75 [(.tmp 6)]⟩,
    ⟨(some 5), .p (.mv (.tmp 7))⟩,
    ⟨(some 8), .p (.ext (.tmp 5) 0)⟩,
    ⟨(some 9), .p (.ext (.tmp 5) 1)⟩,
    ⟨(some 3), .e (.alloc 50 [(.bool false), (.slice none 0 0), (.bool false), (.slice none 0 0)])⟩,
    ⟨none, .e (.store 4 (.tmp 3) (.tmp 8))⟩,
    ⟨(some 4), .p (.mv (.tmp 9))⟩])
 (.seq (.ops none [⟨(some 10), .l (.load true 4 (.tmp 3))⟩,
    ⟨none, .e (.store 4 (.tmp 2) (.tmp 10))⟩])
 (.ret)))
theorem k39 : compFn Try.prog 39 [[], [], []] = some (11, c39, [.cell true 4 2]) := by kernel_rfl
def K39z0 (_P : Program) (K : Value → Heap → Prop) : Exit → (Nat → Value) → Heap → Prop := bodyP [.cell true 4 2] K
def T39 (P : Program) (K : Value → Heap → Prop) (x0 : Value) (h : Heap) : Prop :=
  OH (iAlloc 50 [(.bool false), (.slice none 0 0), (.bool false), (.slice none 0 0)] h) fun x2 h_1 =>
  CallP P 75 [x0] h_1 fun x7 h_2 =>
  OP (iExt 0 x7) fun x8 =>
  OP (iExt 1 x7) fun x9 =>
  OH (iAlloc 50 [(.bool false), (.slice none 0 0), (.bool false), (.slice none 0 0)] h_2) fun q3 h_3 =>
  OH (oStore 4 h_3 q3 x8) fun _ h_4 =>
  OP (iLoad true 4 h_4 q3) fun x10 =>
  OH (oStore 4 h_4 x2 x10) fun _ h_5 =>
  OP (iLoad true 4 h_5 x2) fun r0 =>
  K r0 h_5
theorem e39 (P : Program) (K : Value → Heap → Prop) (x0 : Value) (h : Heap) : iwpP P c39 (bodyP [.cell true 4 2] K) (frame0 [x0]) h = T39 P K x0 h := by kernel_rfl
theorem f39 {K : Value → Heap → Prop} {x0 : Value} {h : Heap} (H : T39 Try.prog K x0 h) : CallP Try.prog 39 [x0] h K :=
  callP_intro k39 (Nat.le_of_ble_eq_true rfl) ((e39 Try.prog K x0 h).mpr H)
/-! F40: pommel/pommelref01.Sign -/
noncomputable def c40 : ICode := .seq (.ops none [⟨(some 1), .e (.box 46 (.tmp 0))⟩,
    ⟨(some 2), .p (.mv (.const (.int .i64 (0))))⟩])
 (.seq (.seq (.ops none [⟨(some 3), .p (.fadr 1 (.tmp 1))⟩,
     ⟨(some 4), .l (.load false 1 (.tmp 3))⟩,
     ⟨(some 5), .p (.lenSl (.tmp 4))⟩,
     ⟨(some 6), .p (.bin .eql (.tmp 5) (.const (.int .i64 (0))))⟩])
  (.cond (.tmp 6) (.seq (.ops none [⟨(some 2), .p (.mv (.const (.int .i64 (0))))⟩])
   (.ret))
  (.skip)))
 (.seq (.seq (.ops none [⟨(some 7), .p (.fadr 0 (.tmp 1))⟩,
     ⟨(some 8), .l (.load false 1 (.tmp 7))⟩])
  (.cond (.tmp 8) (.seq (.ops none [⟨(some 2), .p (.mv (.const (.int .i64 (-1))))⟩])
   (.ret))
  (.skip)))
 (.seq (.ops none [⟨(some 2), .p (.mv (.const (.int .i64 (1))))⟩])
 (.ret))))
theorem k40 : compFn Try.prog 40 [[], [], [], [], [], [], [], []] = some (9, c40, [.tmp 2]) := by kernel_rfl
def K40z0 (_P : Program) (K : Value → Heap → Prop) : Exit → (Nat → Value) → Heap → Prop := bodyP [.tmp 2] K
def T40 (P : Program) (K : Value → Heap → Prop) (a0 : Value) (h : Heap) : Prop :=
  OH (iBox 46 h a0) fun a1 h_1 =>
  OP (iFadr 1 a1) fun x3 =>
  OP (iLoad false 1 h_1 x3) fun x4 =>
  OP (iLenSl x4) fun x5 =>
  OP (iBin .eql x5 (.int .i64 (0))) fun x6 =>
  IfP x6
    (K (.int .i64 (0)) h_1)
    (OP (iFadr 0 a1) fun x7 =>
    OP (iLoad false 1 h_1 x7) fun x8 =>
    IfP x8
      (K (.int .i64 (-1)) h_1)
      (K (.int .i64 (1)) h_1))
theorem e40 (P : Program) (K : Value → Heap → Prop) (a0 : Value) (h : Heap) : iwpP P c40 (bodyP [.tmp 2] K) (frame0 [a0]) h = T40 P K a0 h := by kernel_rfl
theorem f40 {K : Value → Heap → Prop} {a0 : Value} {h : Heap} (H : T40 Try.prog K a0 h) : CallP Try.prog 40 [a0] h K :=
  callP_intro k40 (Nat.le_of_ble_eq_true rfl) ((e40 Try.prog K a0 h).mpr H)
/-! F74: pommel/pommelref01.Add -/
noncomputable def c74 : ICode := .seq (.ops none [⟨(some 2), .e (.box 46 (.tmp 0))⟩,
    ⟨(some 3), .e (.box 46 (.tmp 1))⟩,
    ⟨(some 4), .e (.alloc 46 [(.bool false), (.slice none 0 0)])⟩])
 (.seq (.seq (.ops none [⟨(some 5), .p (.fadr 0 (.tmp 2))⟩,
     ⟨(some 6), .l (.load false 1 (.tmp 5))⟩,
     ⟨(some 7), .p (.fadr 0 (.tmp 3))⟩,
     ⟨(some 8), .l (.load false 1 (.tmp 7))⟩,
     ⟨(some 9), .p (.eqb false (.tmp 6) (.tmp 8))⟩])
  (.cond (.tmp 9) (.seq (.dops [(none, [⟨(some 10), .p (.fadr 0 (.tmp 2)), 0⟩,
      ⟨(some 11), .l (.load false 1 (.tmp 10)), 1⟩,
      ⟨(some 12), .p (.fadr 1 (.tmp 2)), 0⟩,
      ⟨(some 13), .l (.load false 1 (.tmp 12)), 4⟩,
      ⟨(some 14), .p (.fadr 1 (.tmp 3)), 0⟩,
      ⟨(some 15), .l (.load false 1 (.tmp 14)), 16⟩,
      ⟨(some 16), .call 99 [(.tmp 13), (.tmp 15)], 60⟩,
      ⟨(some 17), .p (.build [(.bool false), (.slice none 0 0)] [(0, 1, (.tmp 11)), (1, 1, (.tmp 16))]), 127⟩,
      ⟨(some 18), .call 98 [(.tmp 17)], 255⟩,
      ⟨none, .e (.store 2 (.tmp 4) (.tmp 18)), 511⟩])])
   (.ret))
  (.skip)))
 (.seq (.seq (.ops none [⟨(some 19), .p (.fadr 1 (.tmp 2))⟩,
     ⟨(some 20), .l (.load false 1 (.tmp 19))⟩,
     ⟨(some 21), .p (.fadr 1 (.tmp 3))⟩,
     ⟨(some 22), .l (.load false 1 (.tmp 21))⟩,
     ⟨(some 23), .call 100 [(.tmp 20), (.tmp 22)]⟩,
     ⟨(some 24), .p (.bin .geq (.tmp 23) (.const (.int .i64 (0))))⟩])
  (.cond (.tmp 24) (.seq (.dops [(none, [⟨(some 25), .p (.fadr 0 (.tmp 2)), 0⟩,
      ⟨(some 26), .l (.load false 1 (.tmp 25)), 1⟩,
      ⟨(some 27), .p (.fadr 1 (.tmp 2)), 0⟩,
      ⟨(some 28), .l (.load false 1 (.tmp 27)), 4⟩,
      ⟨(some 29), .p (.fadr 1 (.tmp 3)), 0⟩,
      ⟨(some 30), .l (.load false 1 (.tmp 29)), 16⟩,
      ⟨(some 31), .call 101 [(.tmp 28), (.tmp 30)], 60⟩,
      ⟨(some 32), .p (.build [(.bool false), (.slice none 0 0)] [(0, 1, (.tmp 26)), (1, 1, (.tmp 31))]), 127⟩,
      ⟨(some 33), .call 98 [(.tmp 32)], 255⟩,
      ⟨none, .e (.store 2 (.tmp 4) (.tmp 33)), 511⟩])])
   (.ret))
  (.skip)))
 (.seq (.dops [(none, [⟨(some 34), .p (.fadr 0 (.tmp 3)), 0⟩,
    ⟨(some 35), .l (.load false 1 (.tmp 34)), 1⟩,
    ⟨(some 36), .p (.fadr 1 (.tmp 3)), 0⟩,
    ⟨(some 37), .l (.load false 1 (.tmp 36)), 4⟩,
    ⟨(some 38), .p (.fadr 1 (.tmp 2)), 0⟩,
    ⟨(some 39), .l (.load false 1 (.tmp 38)), 16⟩,
    ⟨(some 40), .call 101 [(.tmp 37), (.tmp 39)], 60⟩,
    ⟨(some 41), .p (.build [(.bool false), (.slice none 0 0)] [(0, 1, (.tmp 35)), (1, 1, (.tmp 40))]), 127⟩,
    ⟨(some 42), .call 98 [(.tmp 41)], 255⟩,
    ⟨none, .e (.store 2 (.tmp 4) (.tmp 42)), 511⟩])])
 (.ret))))
theorem k74 : compFn Try.prog 74 [[], [], [], [], [], [], [], []] = some (43, c74, [.cell true 2 4]) := by kernel_rfl
def K74z0 (_P : Program) (K : Value → Heap → Prop) : Exit → (Nat → Value) → Heap → Prop := bodyP [.cell true 2 4] K
def T74 (P : Program) (K : Value → Heap → Prop) (a0 b1 : Value) (h : Heap) : Prop :=
  OH (iBox 46 h a0) fun a2 h_1 =>
  OH (iBox 46 h_1 b1) fun b3 h_2 =>
  OH (iAlloc 46 [(.bool false), (.slice none 0 0)] h_2) fun x4 h_3 =>
  OP (iFadr 0 a2) fun x5 =>
  OP (iLoad false 1 h_3 x5) fun x6 =>
  OP (iFadr 0 b3) fun x7 =>
  OP (iLoad false 1 h_3 x7) fun x8 =>
  OP (iEqb false x6 x8) fun x9 =>
  IfP x9
    (OP (iFadr 0 a2) fun x10 =>
    OP (iLoad false 1 h_3 x10) fun x11 =>
    (True) ∧
    OP (iFadr 1 a2) fun x12 =>
    OP (iLoad false 1 h_3 x12) fun x13 =>
    (True) ∧
    OP (iFadr 1 b3) fun x14 =>
    OP (iLoad false 1 h_3 x14) fun x15 =>
    (True) ∧
    CallP P 99 [x13, x15] h_3 fun x16 h_4 =>
    (iLoad false 1 h_4 x10 = some x11 ∧ True) ∧
    OP (iBuild [(.bool false), (.slice none 0 0)] [(0, 1, x11), (1, 1, x16)]) fun x17 =>
    CallP P 98 [x17] h_4 fun x18 h_5 =>
    (True) ∧
    OH (oStore 2 h_5 x4 x18) fun _ h_6 =>
    (True) ∧
    OP (iLoad true 2 h_6 x4) fun r0 =>
    K r0 h_6)
    (OP (iFadr 1 a2) fun x19 =>
    OP (iLoad false 1 h_3 x19) fun x20 =>
    OP (iFadr 1 b3) fun x21 =>
    OP (iLoad false 1 h_3 x21) fun x22 =>
    CallP P 100 [x20, x22] h_3 fun x23 h_4 =>
    OP (iBin .geq x23 (.int .i64 (0))) fun x24 =>
    IfP x24
      (OP (iFadr 0 a2) fun x25 =>
      OP (iLoad false 1 h_4 x25) fun x26 =>
      (True) ∧
      OP (iFadr 1 a2) fun x27 =>
      OP (iLoad false 1 h_4 x27) fun x28 =>
      (True) ∧
      OP (iFadr 1 b3) fun x29 =>
      OP (iLoad false 1 h_4 x29) fun x30 =>
      (True) ∧
      CallP P 101 [x28, x30] h_4 fun x31 h_5 =>
      (iLoad false 1 h_5 x25 = some x26 ∧ True) ∧
      OP (iBuild [(.bool false), (.slice none 0 0)] [(0, 1, x26), (1, 1, x31)]) fun x32 =>
      CallP P 98 [x32] h_5 fun x33 h_6 =>
      (True) ∧
      OH (oStore 2 h_6 x4 x33) fun _ h_7 =>
      (True) ∧
      OP (iLoad true 2 h_7 x4) fun r0 =>
      K r0 h_7)
      (OP (iFadr 0 b3) fun x34 =>
      OP (iLoad false 1 h_4 x34) fun x35 =>
      (True) ∧
      OP (iFadr 1 b3) fun x36 =>
      OP (iLoad false 1 h_4 x36) fun x37 =>
      (True) ∧
      OP (iFadr 1 a2) fun x38 =>
      OP (iLoad false 1 h_4 x38) fun x39 =>
      (True) ∧
      CallP P 101 [x37, x39] h_4 fun x40 h_5 =>
      (iLoad false 1 h_5 x34 = some x35 ∧ True) ∧
      OP (iBuild [(.bool false), (.slice none 0 0)] [(0, 1, x35), (1, 1, x40)]) fun x41 =>
      CallP P 98 [x41] h_5 fun x42 h_6 =>
      (True) ∧
      OH (oStore 2 h_6 x4 x42) fun _ h_7 =>
      (True) ∧
      OP (iLoad true 2 h_7 x4) fun r0 =>
      K r0 h_7))
theorem e74 (P : Program) (K : Value → Heap → Prop) (a0 b1 : Value) (h : Heap) : iwpP P c74 (bodyP [.cell true 2 4] K) (frame0 [a0, b1]) h = T74 P K a0 b1 h := by kernel_rfl
theorem f74 {K : Value → Heap → Prop} {a0 b1 : Value} {h : Heap} (H : T74 Try.prog K a0 b1 h) : CallP Try.prog 74 [a0, b1] h K :=
  callP_intro k74 (Nat.le_of_ble_eq_true rfl) ((e74 Try.prog K a0 b1 h).mpr H)
/-! F75: pommel/pommelref01.Parse -/
noncomputable def c75z11 : ICode := .ops none [⟨(some 25), .p (.pick (.tmp 21) (.tmp 24) (.const (.bool false)))⟩]
noncomputable def c75z9 : ICode := .seq (.ops (some (21, true)) [⟨(some 22), .p (.mv (.tmp 4))⟩,
    ⟨(some 23), .p (.idxS (.tmp 22) (.const (.int .i64 (0))))⟩,
    ⟨(some 24), .p (.bin .eql (.tmp 23) (.const (.int .u8 (45))))⟩])
 (.cut [2, 4, 5, 21, 24] c75z11)
noncomputable def c75z7 : ICode := .cond (.tmp 25) (.ops none [⟨(some 26), .p (.mv (.tmp 4))⟩,
    ⟨(some 27), .p (.slS (.tmp 26) (some (.const (.int .i64 (1)))) none)⟩,
    ⟨(some 4), .p (.mv (.tmp 27))⟩,
    ⟨(some 5), .p (.mv (.const (.bool true)))⟩])
 (.skip)
noncomputable def c75z23 : ICode := .ops none [⟨(some 35), .p (.mv (.tmp 7))⟩,
   ⟨(some 36), .p (.bin .sub (.tmp 35) (.const (.int .i64 (1))))⟩,
   ⟨(some 7), .p (.mv (.tmp 36))⟩]
noncomputable def c75z17 : ICode := .seq (.seq (.ops none [⟨(some 33), .p (.mv (.tmp 7))⟩,
     ⟨(some 34), .p (.bin .geq (.tmp 33) (.const (.int .i64 (0))))⟩])
  (.cond (.tmp 34) (.skip)
  (.exit 0)))
 (.seq (.block 1 (.seq (.ops none [⟨(some 37), .p (.mv (.tmp 4))⟩,
      ⟨(some 38), .p (.mv (.tmp 7))⟩,
      ⟨(some 39), .p (.idxS (.tmp 37) (.tmp 38))⟩,
      ⟨(some 40), .p (.bin .eql (.tmp 39) (.const (.int .u8 (47))))⟩])
   (.cond (.tmp 40) (.ops none [⟨(some 41), .p (.mv (.tmp 7))⟩,
      ⟨(some 6), .p (.mv (.tmp 41))⟩])
   (.skip))))
 (.cut [2, 4, 5, 6, 7] c75z23))
noncomputable def c75z43 : ICode := .ops none [⟨(some 90), .p (.pick (.tmp 82) (.const (.bool true)) (.tmp 89))⟩]
noncomputable def c75z41 : ICode := .seq (.ops (some (82, false)) [⟨(some 89), .p (.pick (.tmp 84) (.tmp 88) (.const (.bool false)))⟩])
 (.cut [2, 5, 8, 10, 82, 89] c75z43)
noncomputable def c75z39 : ICode := .seq (.ops (some (84, true)) [⟨(some 85), .p (.fadr 1 (.tmp 8))⟩,
    ⟨(some 86), .l (.load false 1 (.tmp 85))⟩,
    ⟨(some 87), .p (.lenSl (.tmp 86))⟩,
    ⟨(some 88), .p (.bin .eql (.tmp 87) (.const (.int .i64 (0))))⟩])
 (.cut [2, 5, 8, 10, 82, 84, 88] c75z41)
noncomputable def c75z37 : ICode := .seq (.ops (some (82, false)) [⟨(some 83), .p (.mv (.tmp 5))⟩,
    ⟨(some 84), .p (.mv (.tmp 83))⟩])
 (.cut [2, 5, 8, 10, 82, 84] c75z39)
noncomputable def c75z35 : ICode := .cond (.tmp 90) (.seq (.ops none [⟨(some 91), .p (.build [(.bool false), (.slice none 0 0), (.bool false), (.slice none 0 0)] [])⟩,
     ⟨none, .e (.store 4 (.tmp 2) (.tmp 91))⟩,
     ⟨(some 3), .p (.mv (.const (.bool false)))⟩])
  (.ret))
 (.skip)
noncomputable def c75z47 : ICode := .seq (.ops none [⟨(some 95), .l (.load true 2 (.tmp 8))⟩,
    ⟨(some 96), .l (.load true 2 (.tmp 10))⟩,
    ⟨(some 97), .p (.build [(.bool false), (.slice none 0 0), (.bool false), (.slice none 0 0)] [(0, 2, (.tmp 95)), (2, 2, (.tmp 96))])⟩,
    ⟨none, .e (.store 4 (.tmp 2) (.tmp 97))⟩,
    ⟨(some 3), .p (.mv (.const (.bool true)))⟩])
 (.ret)
noncomputable def c75z34 : ICode := .seq (.seq (.ops none [⟨(some 92), .p (.mv (.tmp 5))⟩])
  (.cond (.tmp 92) (.ops none [⟨(some 93), .l (.load true 2 (.tmp 8))⟩,
     ⟨(some 94), .call 104 [(.tmp 93)]⟩,
     ⟨none, .e (.store 2 (.tmp 8) (.tmp 94))⟩])
  (.skip)))
 (.cut [2, 8, 10] c75z47)
noncomputable def c75z33 : ICode := .seq (.seq (.seq (.ops none [⟨(some 80), .p (.mv (.tmp 9))⟩,
      ⟨(some 81), .p (.un .not (.tmp 80))⟩,
      ⟨(some 82), .p (.mv (.tmp 81))⟩])
   (.cut [2, 5, 8, 10, 82] c75z37)) c75z35) c75z34
noncomputable def c75z24 : ICode := .seq (.ops none [⟨(some 43), .p (.mv (.tmp 4))⟩,
    ⟨(some 44), .p (.mv (.tmp 6))⟩,
    ⟨(some 45), .p (.slS (.tmp 43) none (some (.tmp 44)))⟩,
    ⟨(some 46), .call 102 [(.tmp 45)]⟩,
    ⟨(some 42), .p (.mv (.tmp 46))⟩,
    ⟨(some 47), .p (.ext (.tmp 42) 0)⟩,
    ⟨(some 48), .p (.ext (.tmp 42) 1)⟩,
    ⟨(some 8), .e (.alloc 46 [(.bool false), (.slice none 0 0)])⟩,
    ⟨none, .e (.store 2 (.tmp 8) (.tmp 47))⟩,
    ⟨(some 9), .p (.mv (.tmp 48))⟩])
 (.seq (.ops none [⟨(some 49), .call 29 [(.const (.int .i64 (1)))]⟩,
    ⟨(some 10), .e (.alloc 46 [(.bool false), (.slice none 0 0)])⟩,
    ⟨none, .e (.store 2 (.tmp 10) (.tmp 49))⟩])
 (.seq (.seq (.ops none [⟨(some 50), .p (.mv (.tmp 6))⟩,
     ⟨(some 51), .p (.mv (.tmp 4))⟩,
     ⟨(some 52), .p (.lenS (.tmp 51))⟩,
     ⟨(some 53), .p (.bin .lss (.tmp 50) (.tmp 52))⟩])
  (.cond (.tmp 53) (.seq (.ops none [⟨(some 55), .p (.mv (.tmp 4))⟩,
      ⟨(some 56), .p (.mv (.tmp 6))⟩,
      ⟨(some 57), .p (.bin .add (.tmp 56) (.const (.int .i64 (1))))⟩,
      ⟨(some 58), .p (.slS (.tmp 55) (some (.tmp 57)) none)⟩,
      ⟨(some 59), .call 102 [(.tmp 58)]⟩,
      ⟨(some 54), .p (.mv (.tmp 59))⟩,
      ⟨(some 60), .p (.ext (.tmp 54) 0)⟩,
      ⟨(some 61), .p (.ext (.tmp 54) 1)⟩,
      ⟨(some 11), .e (.alloc 46 [(.bool false), (.slice none 0 0)])⟩,
      ⟨none, .e (.store 2 (.tmp 11) (.tmp 60))⟩,
      ⟨(some 12), .p (.mv (.tmp 61))⟩])
   (.seq (.seq (.dops [(none, [⟨(some 62), .p (.mv (.tmp 12)), 0⟩,
       ⟨(some 63), .p (.un .not (.tmp 62)), 1⟩,
       ⟨(some 64), .p (.mv (.tmp 63)), 3⟩]),
      ((some (64, false)), [⟨(some 65), .l (.load true 2 (.tmp 11)), 7⟩,
       ⟨(some 66), .call 29 [(.const (.int .i64 (2)))], 7⟩,
       ⟨(some 67), .call 76 [(.tmp 65), (.tmp 66)], 31⟩,
       ⟨(some 68), .p (.bin .lss (.tmp 67) (.const (.int .i64 (0)))), 63⟩]),
      (none, [⟨(some 69), .p (.pick (.tmp 64) (.const (.bool true)) (.tmp 68)), 127⟩,
       ⟨(some 70), .p (.mv (.tmp 69)), 255⟩]),
      ((some (70, false)), [⟨(some 71), .l (.load true 2 (.tmp 8)), 511⟩,
       ⟨(some 72), .l (.load true 2 (.tmp 11)), 511⟩,
       ⟨(some 73), .call 103 [(.tmp 71), (.tmp 72)], 2047⟩,
       ⟨(some 74), .call 29 [(.const (.int .i64 (1)))], 4095⟩,
       ⟨(some 75), .call 76 [(.tmp 73), (.tmp 74)], 8191⟩,
       ⟨(some 76), .p (.bin .neq (.tmp 75) (.const (.int .i64 (0)))), 16383⟩]),
      (none, [⟨(some 77), .p (.pick (.tmp 70) (.const (.bool true)) (.tmp 76)), 32767⟩])])
    (.cond (.tmp 77) (.seq (.ops none [⟨(some 78), .p (.build [(.bool false), (.slice none 0 0), (.bool false), (.slice none 0 0)] [])⟩,
        ⟨none, .e (.store 4 (.tmp 2) (.tmp 78))⟩,
        ⟨(some 3), .p (.mv (.const (.bool false)))⟩])
     (.ret))
    (.skip)))
   (.ops none [⟨(some 79), .l (.load true 2 (.tmp 11))⟩,
     ⟨none, .e (.store 2 (.tmp 10) (.tmp 79))⟩])))
  (.skip)))
 (.cut [2, 5, 8, 9, 10] c75z33)))
noncomputable def c75z14 : ICode := .cut [2, 4, 5, 6] c75z24
noncomputable def c75z12 : ICode := .seq (.ops none [⟨(some 28), .p (.mv (.tmp 4))⟩,
    ⟨(some 29), .p (.lenS (.tmp 28))⟩,
    ⟨(some 6), .p (.mv (.tmp 29))⟩])
 (.seq (.seq (.ops none [⟨(some 30), .p (.mv (.tmp 4))⟩,
     ⟨(some 31), .p (.lenS (.tmp 30))⟩,
     ⟨(some 32), .p (.bin .sub (.tmp 31) (.const (.int .i64 (1))))⟩,
     ⟨(some 7), .p (.mv (.tmp 32))⟩])
  (.block 0 (.loop [2, 4, 5] [6, 7] c75z17))) c75z14)
noncomputable def c75z6 : ICode := .cut [2, 4, 5] c75z12
noncomputable def c75 : ICode := .seq (.ops none [⟨(some 2), .e (.alloc 50 [(.bool false), (.slice none 0 0), (.bool false), (.slice none 0 0)])⟩,
    ⟨(some 3), .p (.mv (.const (.bool false)))⟩])
 (.seq (.ops none [⟨(some 13), .p (.mv (.tmp 0))⟩,
    ⟨(some 4), .p (.mv (.tmp 13))⟩,
    ⟨(some 5), .p (.mv (.const (.bool false)))⟩])
 (.seq (.seq (.ops none [⟨(some 14), .p (.mv (.tmp 4))⟩,
     ⟨(some 15), .p (.lenS (.tmp 14))⟩,
     ⟨(some 16), .p (.bin .gtr (.tmp 15) (.const (.int .i64 (8002))))⟩])
  (.cond (.tmp 16) (.seq (.ops none [⟨(some 17), .p (.build [(.bool false), (.slice none 0 0), (.bool false), (.slice none 0 0)] [])⟩,
      ⟨none, .e (.store 4 (.tmp 2) (.tmp 17))⟩,
      ⟨(some 3), .p (.mv (.const (.bool false)))⟩])
   (.ret))
  (.skip)))
 (.seq (.seq (.seq (.ops none [⟨(some 18), .p (.mv (.tmp 4))⟩,
      ⟨(some 19), .p (.lenS (.tmp 18))⟩,
      ⟨(some 20), .p (.bin .gtr (.tmp 19) (.const (.int .i64 (0))))⟩,
      ⟨(some 21), .p (.mv (.tmp 20))⟩])
   (.cut [2, 4, 5, 21] c75z9)) c75z7) c75z6)))
theorem k75 : compFn Try.prog 75 [[], [], [], [], [], [2, 4, 5, 21], [2, 4, 5, 21, 24], [], [2, 4, 5], [], [], [2, 4, 5], [6, 7], [], [], [], [2, 4, 5, 6, 7], [2, 4, 5, 6], [], [], [], [], [], [], [], [2, 5, 8, 9, 10], [2, 5, 8, 10, 82], [2, 5, 8, 10, 82, 84], [2, 5, 8, 10, 82, 84, 88], [2, 5, 8, 10, 82, 89], [], [], [], [], [2, 8, 10], []] = some (98, c75, [.cell true 4 2, .tmp 3]) := by kernel_rfl
def K75z0 (_P : Program) (K : Value → Heap → Prop) : Exit → (Nat → Value) → Heap → Prop := bodyP [.cell true 4 2, .tmp 3] K
def K75z6 (P : Program) (K : Value → Heap → Prop) : Exit → (Nat → Value) → Heap → Prop := thenK (iwpP P c75z6 (K75z0 P K)) (K75z0 P K)
def K75z7 (P : Program) (K : Value → Heap → Prop) : Exit → (Nat → Value) → Heap → Prop := thenK (iwpP P c75z7 (K75z6 P K)) (K75z6 P K)
def K75z14 (P : Program) (K : Value → Heap → Prop) : Exit → (Nat → Value) → Heap → Prop := thenK (iwpP P c75z14 (K75z0 P K)) (K75z0 P K)
def K75z16 (P : Program) (K : Value → Heap → Prop) : Exit → (Nat → Value) → Heap → Prop := inBlockK 0 (K75z14 P K)
def K75z17 (P : Program) (K : Value → Heap → Prop) (x2 s4 minus5 : Value) (L1 : List Value → Heap → Prop) : Exit → (Nat → Value) → Heap → Prop := thenK (fun f' h'' => (([2, 4, 5] : List Nat).map f' : List Value) = [x2, s4, minus5] ∧ L1 (([6, 7] : List Nat).map f') h'') (K75z16 P K)
def K75z34 (P : Program) (K : Value → Heap → Prop) : Exit → (Nat → Value) → Heap → Prop := thenK (iwpP P c75z34 (K75z0 P K)) (K75z0 P K)
def K75z35 (P : Program) (K : Value → Heap → Prop) : Exit → (Nat → Value) → Heap → Prop := thenK (iwpP P c75z35 (K75z34 P K)) (K75z34 P K)
def p75z9 (P : Program) (K : Value → Heap → Prop) (x2 s4 minus5 x21 : Value) (h : Heap) : Prop := CutP (iwpP P c75z9 (K75z7 P K)) [2, 4, 5, 21] [x2, s4, minus5, x21] h
def p75z11 (P : Program) (K : Value → Heap → Prop) (x2 s4 minus5 x21 x24 : Value) (h : Heap) : Prop := CutP (iwpP P c75z11 (K75z7 P K)) [2, 4, 5, 21, 24] [x2, s4, minus5, x21, x24] h
def p75z12 (P : Program) (K : Value → Heap → Prop) (x2 s4 minus5 : Value) (h : Heap) : Prop := CutP (iwpP P c75z12 (K75z0 P K)) [2, 4, 5] [x2, s4, minus5] h
def p75z17 (P : Program) (K : Value → Heap → Prop) (x2 s4 minus5 : Value) (L1 : List Value → Heap → Prop) (xs : List Value) (h : Heap) : Prop := CutP (iwpP P c75z17 (K75z17 P K x2 s4 minus5 L1)) ([2, 4, 5] ++ [6, 7]) ([x2, s4, minus5] ++ xs) h
def p75z23 (P : Program) (K : Value → Heap → Prop) (x2 s4 minus5 slash6 i7 : Value) (L1 : List Value → Heap → Prop) (h : Heap) : Prop := CutP (iwpP P c75z23 (K75z17 P K x2 s4 minus5 L1)) [2, 4, 5, 6, 7] [x2, s4, minus5, slash6, i7] h
def p75z24 (P : Program) (K : Value → Heap → Prop) (x2 s4 minus5 slash6 : Value) (h : Heap) : Prop := CutP (iwpP P c75z24 (K75z0 P K)) [2, 4, 5, 6] [x2, s4, minus5, slash6] h
def p75z33 (P : Program) (K : Value → Heap → Prop) (x2 minus5 n8 ok9 d10 : Value) (h : Heap) : Prop := CutP (iwpP P c75z33 (K75z0 P K)) [2, 5, 8, 9, 10] [x2, minus5, n8, ok9, d10] h
def p75z37 (P : Program) (K : Value → Heap → Prop) (x2 minus5 n8 d10 x82 : Value) (h : Heap) : Prop := CutP (iwpP P c75z37 (K75z35 P K)) [2, 5, 8, 10, 82] [x2, minus5, n8, d10, x82] h
def p75z39 (P : Program) (K : Value → Heap → Prop) (x2 minus5 n8 d10 x82 x84 : Value) (h : Heap) : Prop := CutP (iwpP P c75z39 (K75z35 P K)) [2, 5, 8, 10, 82, 84] [x2, minus5, n8, d10, x82, x84] h
def p75z41 (P : Program) (K : Value → Heap → Prop) (x2 minus5 n8 d10 x82 x84 x88 : Value) (h : Heap) : Prop := CutP (iwpP P c75z41 (K75z35 P K)) [2, 5, 8, 10, 82, 84, 88] [x2, minus5, n8, d10, x82, x84, x88] h
def p75z43 (P : Program) (K : Value → Heap → Prop) (x2 minus5 n8 d10 x82 x89 : Value) (h : Heap) : Prop := CutP (iwpP P c75z43 (K75z35 P K)) [2, 5, 8, 10, 82, 89] [x2, minus5, n8, d10, x82, x89] h
def p75z47 (P : Program) (K : Value → Heap → Prop) (x2 n8 d10 : Value) (h : Heap) : Prop := CutP (iwpP P c75z47 (K75z0 P K)) [2, 8, 10] [x2, n8, d10] h
theorem q75z11 (P : Program) (K : Value → Heap → Prop) (x2 s4 minus5 x21 x24 : Value) (h : Heap) : p75z11 P K x2 s4 minus5 x21 x24 h =
  (OP (iPick x21 x24 (.bool false)) fun x25 =>
  IfP x25
    (OP (iSlS s4 (some (.int .i64 (1))) none) fun x27 =>
    p75z12 P K x2 x27 (.bool true) h)
    (p75z12 P K x2 s4 minus5 h)) := (CutP_def _ _ _ _).trans (by kernel_rfl)
theorem q75z9 (P : Program) (K : Value → Heap → Prop) (x2 s4 minus5 x21 : Value) (h : Heap) : p75z9 P K x2 s4 minus5 x21 h =
  (GdP x21 true
    (OP (iIdxS s4 (.int .i64 (0))) fun x23 =>
    OP (iBin .eql x23 (.int .u8 (45))) fun x24 =>
    p75z11 P K x2 s4 minus5 x21 x24 h)
    (p75z11 P K x2 s4 minus5 x21 undef h)) := (CutP_def _ _ _ _).trans (by kernel_rfl)
theorem q75z23 (P : Program) (K : Value → Heap → Prop) (x2 s4 minus5 slash6 i7 : Value) (L1 : List Value → Heap → Prop) (h : Heap) : p75z23 P K x2 s4 minus5 slash6 i7 L1 h =
  (OP (iBin .sub i7 (.int .i64 (1))) fun x36 =>
  ([x2, s4, minus5] : List Value) = [x2, s4, minus5] ∧ L1 [slash6, x36] h) := (CutP_def _ _ _ _).trans (by kernel_rfl)
theorem q75z17 (P : Program) (K : Value → Heap → Prop) (x2 s4 minus5 : Value) (L1 : List Value → Heap → Prop) (slash6 i7 : Value) (h : Heap) : p75z17 P K x2 s4 minus5 L1 [slash6, i7] h =
  (OP (iBin .geq i7 (.int .i64 (0))) fun x34 =>
  IfP x34
    (OP (iIdxS s4 i7) fun x39 =>
    OP (iBin .eql x39 (.int .u8 (47))) fun x40 =>
    IfP x40
      (p75z23 P K x2 s4 minus5 i7 i7 L1 h)
      (p75z23 P K x2 s4 minus5 slash6 i7 L1 h))
    (p75z24 P K x2 s4 minus5 slash6 h)) := (CutP_def _ _ _ _).trans (by kernel_rfl)
theorem q75z43 (P : Program) (K : Value → Heap → Prop) (x2 minus5 n8 d10 x82 x89 : Value) (h : Heap) : p75z43 P K x2 minus5 n8 d10 x82 x89 h =
  (OP (iPick x82 (.bool true) x89) fun x90 =>
  IfP x90
    (OP (iBuild [(.bool false), (.slice none 0 0), (.bool false), (.slice none 0 0)] []) fun x91 =>
    OH (oStore 4 h x2 x91) fun _ h_1 =>
    OP (iLoad true 4 h_1 x2) fun r0 =>
    K (.tuple #[r0, (.bool false)]) h_1)
    (IfP minus5
      (OP (iLoad true 2 h n8) fun x93 =>
      CallP P 104 [x93] h fun x94 h_1 =>
      OH (oStore 2 h_1 n8 x94) fun _ h_2 =>
      p75z47 P K x2 n8 d10 h_2)
      (p75z47 P K x2 n8 d10 h))) := (CutP_def _ _ _ _).trans (by kernel_rfl)
theorem q75z41 (P : Program) (K : Value → Heap → Prop) (x2 minus5 n8 d10 x82 x84 x88 : Value) (h : Heap) : p75z41 P K x2 minus5 n8 d10 x82 x84 x88 h =
  (GdP x82 false
    (OP (iPick x84 x88 (.bool false)) fun x89 =>
    p75z43 P K x2 minus5 n8 d10 x82 x89 h)
    (p75z43 P K x2 minus5 n8 d10 x82 undef h)) := (CutP_def _ _ _ _).trans (by kernel_rfl)
theorem q75z39 (P : Program) (K : Value → Heap → Prop) (x2 minus5 n8 d10 x82 x84 : Value) (h : Heap) : p75z39 P K x2 minus5 n8 d10 x82 x84 h =
  (GdP x84 true
    (OP (iFadr 1 n8) fun x85 =>
    OP (iLoad false 1 h x85) fun x86 =>
    OP (iLenSl x86) fun x87 =>
    OP (iBin .eql x87 (.int .i64 (0))) fun x88 =>
    p75z41 P K x2 minus5 n8 d10 x82 x84 x88 h)
    (p75z41 P K x2 minus5 n8 d10 x82 x84 undef h)) := (CutP_def _ _ _ _).trans (by kernel_rfl)
theorem q75z37 (P : Program) (K : Value → Heap → Prop) (x2 minus5 n8 d10 x82 : Value) (h : Heap) : p75z37 P K x2 minus5 n8 d10 x82 h =
  (GdP x82 false
    (p75z39 P K x2 minus5 n8 d10 x82 minus5 h)
    (p75z39 P K x2 minus5 n8 d10 x82 undef h)) := (CutP_def _ _ _ _).trans (by kernel_rfl)
theorem q75z47 (P : Program) (K : Value → Heap → Prop) (x2 n8 d10 : Value) (h : Heap) : p75z47 P K x2 n8 d10 h =
  (OP (iLoad true 2 h n8) fun x95 =>
  OP (iLoad true 2 h d10) fun x96 =>
  OP (iBuild [(.bool false), (.slice none 0 0), (.bool false), (.slice none 0 0)] [(0, 2, x95), (2, 2, x96)]) fun x97 =>
  OH (oStore 4 h x2 x97) fun _ h_1 =>
  OP (iLoad true 4 h_1 x2) fun r0 =>
  K (.tuple #[r0, (.bool true)]) h_1) := (CutP_def _ _ _ _).trans (by kernel_rfl)
theorem q75z33 (P : Program) (K : Value → Heap → Prop) (x2 minus5 n8 ok9 d10 : Value) (h : Heap) : p75z33 P K x2 minus5 n8 ok9 d10 h =
  (OP (iUn .not ok9) fun x81 =>
  p75z37 P K x2 minus5 n8 d10 x81 h) := (CutP_def _ _ _ _).trans (by kernel_rfl)
theorem q75z24 (P : Program) (K : Value → Heap → Prop) (x2 s4 minus5 slash6 : Value) (h : Heap) : p75z24 P K x2 s4 minus5 slash6 h =
  (OP (iSlS s4 none (some slash6)) fun x45 =>
  CallP P 102 [x45] h fun x46 h_1 =>
  OP (iExt 0 x46) fun x47 =>
  OP (iExt 1 x46) fun x48 =>
  OH (iAlloc 46 [(.bool false), (.slice none 0 0)] h_1) fun n8 h_2 =>
  OH (oStore 2 h_2 n8 x47) fun _ h_3 =>
  CallP P 29 [(.int .i64 (1))] h_3 fun x49 h_4 =>
  OH (iAlloc 46 [(.bool false), (.slice none 0 0)] h_4) fun d10 h_5 =>
  OH (oStore 2 h_5 d10 x49) fun _ h_6 =>
  OP (iLenS s4) fun x52 =>
  OP (iBin .lss slash6 x52) fun x53 =>
  IfP x53
    (OP (iBin .add slash6 (.int .i64 (1))) fun x57 =>
    OP (iSlS s4 (some x57) none) fun x58 =>
    CallP P 102 [x58] h_6 fun x59 h_7 =>
    OP (iExt 0 x59) fun x60 =>
    OP (iExt 1 x59) fun x61 =>
    OH (iAlloc 46 [(.bool false), (.slice none 0 0)] h_7) fun den11 h_8 =>
    OH (oStore 2 h_8 den11 x60) fun _ h_9 =>
    OP (iUn .not x61) fun x63 =>
    GdP x63 false
      (OP (iLoad true 2 h_9 den11) fun x65 =>
      (True) ∧
      CallP P 29 [(.int .i64 (2))] h_9 fun x66 h_10 =>
      (iLoad true 2 h_10 den11 = some x65 ∧ True) ∧
      CallP P 76 [x65, x66] h_10 fun x67 h_11 =>
      (True) ∧
      OP (iBin .lss x67 (.int .i64 (0))) fun x68 =>
      OP (iPick x63 (.bool true) x68) fun x69 =>
      GdP x69 false
        (OP (iLoad true 2 h_11 n8) fun x71 =>
        (True) ∧
        OP (iLoad true 2 h_11 den11) fun x72 =>
        (True) ∧
        CallP P 103 [x71, x72] h_11 fun x73 h_12 =>
        (True) ∧
        CallP P 29 [(.int .i64 (1))] h_12 fun x74 h_13 =>
        (True) ∧
        CallP P 76 [x73, x74] h_13 fun x75 h_14 =>
        (True) ∧
        OP (iBin .neq x75 (.int .i64 (0))) fun x76 =>
        OP (iPick x69 (.bool true) x76) fun x77 =>
        IfP x77
          (OP (iBuild [(.bool false), (.slice none 0 0), (.bool false), (.slice none 0 0)] []) fun x78 =>
          OH (oStore 4 h_14 x2 x78) fun _ h_15 =>
          OP (iLoad true 4 h_15 x2) fun r0 =>
          K (.tuple #[r0, (.bool false)]) h_15)
          (OP (iLoad true 2 h_14 den11) fun x79 =>
          OH (oStore 2 h_14 d10 x79) fun _ h_15 =>
          p75z33 P K x2 minus5 n8 x48 d10 h_15))
        ((True) ∧
        (True) ∧
        (True) ∧
        OP (iPick x69 (.bool true) undef) fun x77 =>
        IfP x77
          (OP (iBuild [(.bool false), (.slice none 0 0), (.bool false), (.slice none 0 0)] []) fun x78 =>
          OH (oStore 4 h_11 x2 x78) fun _ h_12 =>
          OP (iLoad true 4 h_12 x2) fun r0 =>
          K (.tuple #[r0, (.bool false)]) h_12)
          (OP (iLoad true 2 h_11 den11) fun x79 =>
          OH (oStore 2 h_11 d10 x79) fun _ h_12 =>
          p75z33 P K x2 minus5 n8 x48 d10 h_12)))
      ((True) ∧
      (True) ∧
      OP (iPick x63 (.bool true) undef) fun x69 =>
      GdP x69 false
        (OP (iLoad true 2 h_9 n8) fun x71 =>
        (True) ∧
        OP (iLoad true 2 h_9 den11) fun x72 =>
        (True) ∧
        CallP P 103 [x71, x72] h_9 fun x73 h_10 =>
        (True) ∧
        CallP P 29 [(.int .i64 (1))] h_10 fun x74 h_11 =>
        (True) ∧
        CallP P 76 [x73, x74] h_11 fun x75 h_12 =>
        (True) ∧
        OP (iBin .neq x75 (.int .i64 (0))) fun x76 =>
        OP (iPick x69 (.bool true) x76) fun x77 =>
        IfP x77
          (OP (iBuild [(.bool false), (.slice none 0 0), (.bool false), (.slice none 0 0)] []) fun x78 =>
          OH (oStore 4 h_12 x2 x78) fun _ h_13 =>
          OP (iLoad true 4 h_13 x2) fun r0 =>
          K (.tuple #[r0, (.bool false)]) h_13)
          (OP (iLoad true 2 h_12 den11) fun x79 =>
          OH (oStore 2 h_12 d10 x79) fun _ h_13 =>
          p75z33 P K x2 minus5 n8 x48 d10 h_13))
        ((True) ∧
        (True) ∧
        (True) ∧
        OP (iPick x69 (.bool true) undef) fun x77 =>
        IfP x77
          (OP (iBuild [(.bool false), (.slice none 0 0), (.bool false), (.slice none 0 0)] []) fun x78 =>
          OH (oStore 4 h_9 x2 x78) fun _ h_10 =>
          OP (iLoad true 4 h_10 x2) fun r0 =>
          K (.tuple #[r0, (.bool false)]) h_10)
          (OP (iLoad true 2 h_9 den11) fun x79 =>
          OH (oStore 2 h_9 d10 x79) fun _ h_10 =>
          p75z33 P K x2 minus5 n8 x48 d10 h_10))))
    (p75z33 P K x2 minus5 n8 x48 d10 h_6)) := (CutP_def _ _ _ _).trans (by kernel_rfl)
theorem q75z12 (P : Program) (K : Value → Heap → Prop) (x2 s4 minus5 : Value) (h : Heap) : p75z12 P K x2 s4 minus5 h =
  (OP (iLenS s4) fun x29 =>
  OP (iLenS s4) fun x31 =>
  OP (iBin .sub x31 (.int .i64 (1))) fun x32 =>
  LoopP [x29, x32] h fun L1 xs hx =>
  p75z17 P K x2 s4 minus5 L1 xs hx) := (CutP_def _ _ _ _).trans (by kernel_rfl)
def T75 (P : Program) (K : Value → Heap → Prop) (x0 : Value) (h : Heap) : Prop :=
  OH (iAlloc 50 [(.bool false), (.slice none 0 0), (.bool false), (.slice none 0 0)] h) fun x2 h_1 =>
  OP (iLenS x0) fun x15 =>
  OP (iBin .gtr x15 (.int .i64 (8002))) fun x16 =>
  IfP x16
    (OP (iBuild [(.bool false), (.slice none 0 0), (.bool false), (.slice none 0 0)] []) fun x17 =>
    OH (oStore 4 h_1 x2 x17) fun _ h_2 =>
    OP (iLoad true 4 h_2 x2) fun r0 =>
    K (.tuple #[r0, (.bool false)]) h_2)
    (OP (iLenS x0) fun x19 =>
    OP (iBin .gtr x19 (.int .i64 (0))) fun x20 =>
    p75z9 P K x2 x0 (.bool false) x20 h_1)
theorem e75 (P : Program) (K : Value → Heap → Prop) (x0 : Value) (h : Heap) : iwpP P c75 (bodyP [.cell true 4 2, .tmp 3] K) (frame0 [x0]) h = T75 P K x0 h := by kernel_rfl
theorem f75 {K : Value → Heap → Prop} {x0 : Value} {h : Heap} (H : T75 Try.prog K x0 h) : CallP Try.prog 75 [x0] h K :=
  callP_intro k75 (Nat.le_of_ble_eq_true rfl) ((e75 Try.prog K x0 h).mpr H)
/-! F76: pommel/pommelref01.Cmp -/
noncomputable def c76 : ICode := .seq (.ops none [⟨(some 2), .e (.box 46 (.tmp 0))⟩,
    ⟨(some 3), .e (.box 46 (.tmp 1))⟩,
    ⟨(some 4), .p (.mv (.const (.int .i64 (0))))⟩])
 (.seq (.ops none [⟨(some 5), .l (.load true 2 (.tmp 2))⟩,
    ⟨(some 6), .l (.load true 2 (.tmp 3))⟩,
    ⟨(some 7), .call 105 [(.tmp 5), (.tmp 6)]⟩,
    ⟨(some 8), .call 40 [(.tmp 7)]⟩,
    ⟨(some 4), .p (.mv (.tmp 8))⟩])
 (.ret))
theorem k76 : compFn Try.prog 76 [[], []] = some (9, c76, [.tmp 4]) := by kernel_rfl
def K76z0 (_P : Program) (K : Value → Heap → Prop) : Exit → (Nat → Value) → Heap → Prop := bodyP [.tmp 4] K
def T76 (P : Program) (K : Value → Heap → Prop) (a0 b1 : Value) (h : Heap) : Prop :=
  OH (iBox 46 h a0) fun a2 h_1 =>
  OH (iBox 46 h_1 b1) fun b3 h_2 =>
  OP (iLoad true 2 h_2 a2) fun x5 =>
  OP (iLoad true 2 h_2 b3) fun x6 =>
  CallP P 105 [x5, x6] h_2 fun x7 h_3 =>
  CallP P 40 [x7] h_3 fun x8 h_4 =>
  K x8 h_4
theorem e76 (P : Program) (K : Value → Heap → Prop) (a0 b1 : Value) (h : Heap) : iwpP P c76 (bodyP [.tmp 4] K) (frame0 [a0, b1]) h = T76 P K a0 b1 h := by kernel_rfl
theorem f76 {K : Value → Heap → Prop} {a0 b1 : Value} {h : Heap} (H : T76 Try.prog K a0 b1 h) : CallP Try.prog 76 [a0, b1] h K :=
  callP_intro k76 (Nat.le_of_ble_eq_true rfl) ((e76 Try.prog K a0 b1 h).mpr H)
/-! F77: pommel/pommelref01.Mul -/
noncomputable def c77z20 : ICode := .ops none [⟨(some 34), .p (.pick (.tmp 31) (.const (.bool true)) (.tmp 33))⟩]
noncomputable def c77z18 : ICode := .seq (.ops (some (31, false)) [⟨(some 32), .p (.mv (.tmp 7))⟩,
    ⟨(some 33), .p (.bin .gtr (.tmp 32) (.const (.int .i64 (0))))⟩])
 (.cut [2, 3, 4, 5, 6, 7, 8, 31, 33] c77z20)
noncomputable def c77z16 : ICode := .cond (.tmp 34) (.skip)
 (.exit 2)
noncomputable def c77z26 : ICode := .ops none [⟨(some 63), .p (.mv (.tmp 5))⟩,
   ⟨(some 64), .p (.mv (.tmp 6))⟩,
   ⟨(some 65), .p (.mv (.tmp 8))⟩,
   ⟨(some 66), .p (.bin .add (.tmp 64) (.tmp 65))⟩,
   ⟨(some 67), .p (.mv (.tmp 9))⟩,
   ⟨(some 68), .p (.bin .rem (.tmp 67) (.const (.int .i64 (10000))))⟩,
   ⟨(some 69), .p (.mv (.tmp 9))⟩,
   ⟨(some 70), .p (.bin .quo (.tmp 69) (.const (.int .i64 (10000))))⟩,
   ⟨(some 71), .p (.adrSl 1 (.tmp 63) (.tmp 66))⟩,
   ⟨none, .e (.store 1 (.tmp 71) (.tmp 68))⟩,
   ⟨(some 7), .p (.mv (.tmp 70))⟩]
noncomputable def c77z27 : ICode := .ops none [⟨(some 35), .p (.mv (.tmp 8))⟩,
   ⟨(some 36), .p (.bin .add (.tmp 35) (.const (.int .i64 (1))))⟩,
   ⟨(some 8), .p (.mv (.tmp 36))⟩]
noncomputable def c77z21 : ICode := .cut [2, 3, 4, 5, 6, 7, 8] c77z27
noncomputable def c77z15 : ICode := .seq (.block 3 (.seq (.ops none [⟨(some 37), .p (.mv (.tmp 5))⟩,
      ⟨(some 38), .p (.mv (.tmp 6))⟩,
      ⟨(some 39), .p (.mv (.tmp 8))⟩,
      ⟨(some 40), .p (.bin .add (.tmp 38) (.tmp 39))⟩,
      ⟨(some 41), .p (.adrSl 1 (.tmp 37) (.tmp 40))⟩,
      ⟨(some 42), .l (.load false 1 (.tmp 41))⟩,
      ⟨(some 43), .p (.mv (.tmp 7))⟩,
      ⟨(some 44), .p (.bin .add (.tmp 42) (.tmp 43))⟩,
      ⟨(some 9), .p (.mv (.tmp 44))⟩])
   (.seq (.seq (.ops none [⟨(some 45), .p (.mv (.tmp 8))⟩,
       ⟨(some 46), .p (.fadr 1 (.tmp 3))⟩,
       ⟨(some 47), .l (.load false 1 (.tmp 46))⟩,
       ⟨(some 48), .p (.lenSl (.tmp 47))⟩,
       ⟨(some 49), .p (.bin .lss (.tmp 45) (.tmp 48))⟩])
    (.cond (.tmp 49) (.dops [(none, [⟨(some 50), .p (.mv (.tmp 9)), 0⟩,
       ⟨(some 51), .p (.fadr 1 (.tmp 2)), 0⟩,
       ⟨(some 52), .l (.load false 1 (.tmp 51)), 2⟩,
       ⟨(some 53), .p (.mv (.tmp 6)), 0⟩,
       ⟨(some 54), .p (.adrSl 1 (.tmp 52) (.tmp 53)), 14⟩,
       ⟨(some 55), .l (.load false 1 (.tmp 54)), 30⟩,
       ⟨(some 56), .p (.fadr 1 (.tmp 3)), 0⟩,
       ⟨(some 57), .l (.load false 1 (.tmp 56)), 64⟩,
       ⟨(some 58), .p (.mv (.tmp 8)), 0⟩,
       ⟨(some 59), .p (.adrSl 1 (.tmp 57) (.tmp 58)), 448⟩,
       ⟨(some 60), .l (.load false 1 (.tmp 59)), 960⟩,
       ⟨(some 61), .p (.bin .mul (.tmp 55) (.tmp 60)), 2046⟩,
       ⟨(some 62), .p (.bin .add (.tmp 50) (.tmp 61)), 4095⟩,
       ⟨(some 9), .p (.mv (.tmp 62)), 8191⟩])])
    (.skip)))
   (.cut [2, 3, 4, 5, 6, 8, 9] c77z26)))) c77z21
noncomputable def c77z14 : ICode := .seq (.seq (.seq (.ops none [⟨(some 26), .p (.mv (.tmp 8))⟩,
      ⟨(some 27), .p (.fadr 1 (.tmp 3))⟩,
      ⟨(some 28), .l (.load false 1 (.tmp 27))⟩,
      ⟨(some 29), .p (.lenSl (.tmp 28))⟩,
      ⟨(some 30), .p (.bin .lss (.tmp 26) (.tmp 29))⟩,
      ⟨(some 31), .p (.mv (.tmp 30))⟩])
   (.cut [2, 3, 4, 5, 6, 7, 8, 31] c77z18)) c77z16) c77z15
noncomputable def c77z28 : ICode := .ops none [⟨(some 24), .p (.mv (.tmp 6))⟩,
   ⟨(some 25), .p (.bin .add (.tmp 24) (.const (.int .i64 (1))))⟩,
   ⟨(some 6), .p (.mv (.tmp 25))⟩]
noncomputable def c77z9 : ICode := .cut [2, 3, 4, 5, 6] c77z28
noncomputable def c77z6 : ICode := .seq (.seq (.ops none [⟨(some 19), .p (.mv (.tmp 6))⟩,
     ⟨(some 20), .p (.fadr 1 (.tmp 2))⟩,
     ⟨(some 21), .l (.load false 1 (.tmp 20))⟩,
     ⟨(some 22), .p (.lenSl (.tmp 21))⟩,
     ⟨(some 23), .p (.bin .lss (.tmp 19) (.tmp 22))⟩])
  (.cond (.tmp 23) (.skip)
  (.exit 0)))
 (.seq (.block 1 (.seq (.ops none [⟨(some 7), .p (.mv (.const (.int .i64 (0))))⟩])
   (.seq (.ops none [⟨(some 8), .p (.mv (.const (.int .i64 (0))))⟩])
   (.block 2 (.loop [2, 3, 4, 5, 6] [7, 8] c77z14))))) c77z9)
noncomputable def c77z29 : ICode := .seq (.ops none [⟨(some 72), .p (.fadr 0 (.tmp 2))⟩,
    ⟨(some 73), .l (.load false 1 (.tmp 72))⟩,
    ⟨(some 74), .p (.fadr 0 (.tmp 3))⟩,
    ⟨(some 75), .l (.load false 1 (.tmp 74))⟩,
    ⟨(some 76), .p (.eqb true (.tmp 73) (.tmp 75))⟩,
    ⟨(some 77), .p (.mv (.tmp 5))⟩,
    ⟨(some 78), .p (.build [(.bool false), (.slice none 0 0)] [(0, 1, (.tmp 76)), (1, 1, (.tmp 77))])⟩,
    ⟨(some 79), .call 98 [(.tmp 78)]⟩,
    ⟨none, .e (.store 2 (.tmp 4) (.tmp 79))⟩])
 (.ret)
noncomputable def c77z3 : ICode := .cut [2, 3, 4, 5] c77z29
noncomputable def c77 : ICode := .seq (.ops none [⟨(some 2), .e (.box 46 (.tmp 0))⟩,
    ⟨(some 3), .e (.box 46 (.tmp 1))⟩,
    ⟨(some 4), .e (.alloc 46 [(.bool false), (.slice none 0 0)])⟩])
 (.seq (.ops none [⟨(some 10), .p (.fadr 1 (.tmp 2))⟩,
    ⟨(some 11), .l (.load false 1 (.tmp 10))⟩,
    ⟨(some 12), .p (.lenSl (.tmp 11))⟩,
    ⟨(some 13), .p (.fadr 1 (.tmp 3))⟩,
    ⟨(some 14), .l (.load false 1 (.tmp 13))⟩,
    ⟨(some 15), .p (.lenSl (.tmp 14))⟩,
    ⟨(some 16), .p (.bin .add (.tmp 12) (.tmp 15))⟩,
    ⟨(some 17), .p (.bin .add (.tmp 16) (.const (.int .i64 (1))))⟩,
    ⟨(some 18), .e (.make 3 8 [(.int .i64 (0))] (.tmp 17) (.tmp 17))⟩,
    ⟨(some 5), .p (.mv (.tmp 18))⟩])
 (.seq (.seq (.ops none [⟨(some 6), .p (.mv (.const (.int .i64 (0))))⟩])
  (.block 0 (.loop [2, 3, 4, 5] [6] c77z6))) c77z3))
theorem k77 : compFn Try.prog 77 [[], [], [], [2, 3, 4, 5], [6], [], [], [], [], [2, 3, 4, 5, 6], [7, 8], [2, 3, 4, 5, 6, 7, 8, 31], [2, 3, 4, 5, 6, 7, 8, 31, 33], [], [], [], [], [2, 3, 4, 5, 6, 8, 9], [2, 3, 4, 5, 6, 7, 8], [2, 3, 4, 5, 6], [2, 3, 4, 5], []] = some (80, c77, [.cell true 2 4]) := by kernel_rfl
def K77z0 (_P : Program) (K : Value → Heap → Prop) : Exit → (Nat → Value) → Heap → Prop := bodyP [.cell true 2 4] K
def K77z3 (P : Program) (K : Value → Heap → Prop) : Exit → (Nat → Value) → Heap → Prop := thenK (iwpP P c77z3 (K77z0 P K)) (K77z0 P K)
def K77z5 (P : Program) (K : Value → Heap → Prop) : Exit → (Nat → Value) → Heap → Prop := inBlockK 0 (K77z3 P K)
def K77z6 (P : Program) (K : Value → Heap → Prop) (a2 b3 x4 out5 : Value) (L1 : List Value → Heap → Prop) : Exit → (Nat → Value) → Heap → Prop := thenK (fun f' h'' => (([2, 3, 4, 5] : List Nat).map f' : List Value) = [a2, b3, x4, out5] ∧ L1 (([6] : List Nat).map f') h'') (K77z5 P K)
def K77z9 (P : Program) (K : Value → Heap → Prop) (a2 b3 x4 out5 : Value) (L1 : List Value → Heap → Prop) : Exit → (Nat → Value) → Heap → Prop := thenK (iwpP P c77z9 (K77z6 P K a2 b3 x4 out5 L1)) (K77z6 P K a2 b3 x4 out5 L1)
def K77z10 (P : Program) (K : Value → Heap → Prop) (a2 b3 x4 out5 : Value) (L1 : List Value → Heap → Prop) : Exit → (Nat → Value) → Heap → Prop := inBlockK 1 (K77z9 P K a2 b3 x4 out5 L1)
def K77z13 (P : Program) (K : Value → Heap → Prop) (a2 b3 x4 out5 : Value) (L1 : List Value → Heap → Prop) : Exit → (Nat → Value) → Heap → Prop := inBlockK 2 (K77z10 P K a2 b3 x4 out5 L1)
def K77z14 (P : Program) (K : Value → Heap → Prop) (a2 b3 x4 out5 i6 : Value) (L1 L2 : List Value → Heap → Prop) : Exit → (Nat → Value) → Heap → Prop := thenK (fun f' h'' => (([2, 3, 4, 5, 6] : List Nat).map f' : List Value) = [a2, b3, x4, out5, i6] ∧ L2 (([7, 8] : List Nat).map f') h'') (K77z13 P K a2 b3 x4 out5 L1)
def K77z15 (P : Program) (K : Value → Heap → Prop) (a2 b3 x4 out5 i6 : Value) (L1 L2 : List Value → Heap → Prop) : Exit → (Nat → Value) → Heap → Prop := thenK (iwpP P c77z15 (K77z14 P K a2 b3 x4 out5 i6 L1 L2)) (K77z14 P K a2 b3 x4 out5 i6 L1 L2)
def K77z16 (P : Program) (K : Value → Heap → Prop) (a2 b3 x4 out5 i6 : Value) (L1 L2 : List Value → Heap → Prop) : Exit → (Nat → Value) → Heap → Prop := thenK (iwpP P c77z16 (K77z15 P K a2 b3 x4 out5 i6 L1 L2)) (K77z15 P K a2 b3 x4 out5 i6 L1 L2)
def K77z21 (P : Program) (K : Value → Heap → Prop) (a2 b3 x4 out5 i6 : Value) (L1 L2 : List Value → Heap → Prop) : Exit → (Nat → Value) → Heap → Prop := thenK (iwpP P c77z21 (K77z14 P K a2 b3 x4 out5 i6 L1 L2)) (K77z14 P K a2 b3 x4 out5 i6 L1 L2)
def K77z22 (P : Program) (K : Value → Heap → Prop) (a2 b3 x4 out5 i6 : Value) (L1 L2 : List Value → Heap → Prop) : Exit → (Nat → Value) → Heap → Prop := inBlockK 3 (K77z21 P K a2 b3 x4 out5 i6 L1 L2)
def p77z6 (P : Program) (K : Value → Heap → Prop) (a2 b3 x4 out5 : Value) (L1 : List Value → Heap → Prop) (xs : List Value) (h : Heap) : Prop := CutP (iwpP P c77z6 (K77z6 P K a2 b3 x4 out5 L1)) ([2, 3, 4, 5] ++ [6]) ([a2, b3, x4, out5] ++ xs) h
def p77z14 (P : Program) (K : Value → Heap → Prop) (a2 b3 x4 out5 i6 : Value) (L1 L2 : List Value → Heap → Prop) (xs : List Value) (h : Heap) : Prop := CutP (iwpP P c77z14 (K77z14 P K a2 b3 x4 out5 i6 L1 L2)) ([2, 3, 4, 5, 6] ++ [7, 8]) ([a2, b3, x4, out5, i6] ++ xs) h
def p77z18 (P : Program) (K : Value → Heap → Prop) (a2 b3 x4 out5 i6 carry7 k8 x31 : Value) (L1 L2 : List Value → Heap → Prop) (h : Heap) : Prop := CutP (iwpP P c77z18 (K77z16 P K a2 b3 x4 out5 i6 L1 L2)) [2, 3, 4, 5, 6, 7, 8, 31] [a2, b3, x4, out5, i6, carry7, k8, x31] h
def p77z20 (P : Program) (K : Value → Heap → Prop) (a2 b3 x4 out5 i6 carry7 k8 x31 x33 : Value) (L1 L2 : List Value → Heap → Prop) (h : Heap) : Prop := CutP (iwpP P c77z20 (K77z16 P K a2 b3 x4 out5 i6 L1 L2)) [2, 3, 4, 5, 6, 7, 8, 31, 33] [a2, b3, x4, out5, i6, carry7, k8, x31, x33] h
def p77z26 (P : Program) (K : Value → Heap → Prop) (a2 b3 x4 out5 i6 k8 s9 : Value) (L1 L2 : List Value → Heap → Prop) (h : Heap) : Prop := CutP (iwpP P c77z26 (K77z22 P K a2 b3 x4 out5 i6 L1 L2)) [2, 3, 4, 5, 6, 8, 9] [a2, b3, x4, out5, i6, k8, s9] h
def p77z27 (P : Program) (K : Value → Heap → Prop) (a2 b3 x4 out5 i6 carry7 k8 : Value) (L1 L2 : List Value → Heap → Prop) (h : Heap) : Prop := CutP (iwpP P c77z27 (K77z14 P K a2 b3 x4 out5 i6 L1 L2)) [2, 3, 4, 5, 6, 7, 8] [a2, b3, x4, out5, i6, carry7, k8] h
def p77z28 (P : Program) (K : Value → Heap → Prop) (a2 b3 x4 out5 i6 : Value) (L1 : List Value → Heap → Prop) (h : Heap) : Prop := CutP (iwpP P c77z28 (K77z6 P K a2 b3 x4 out5 L1)) [2, 3, 4, 5, 6] [a2, b3, x4, out5, i6] h
def p77z29 (P : Program) (K : Value → Heap → Prop) (a2 b3 x4 out5 : Value) (h : Heap) : Prop := CutP (iwpP P c77z29 (K77z0 P K)) [2, 3, 4, 5] [a2, b3, x4, out5] h
theorem q77z20 (P : Program) (K : Value → Heap → Prop) (a2 b3 x4 out5 i6 carry7 k8 x31 x33 : Value) (L1 L2 : List Value → Heap → Prop) (h : Heap) : p77z20 P K a2 b3 x4 out5 i6 carry7 k8 x31 x33 L1 L2 h =
  (OP (iPick x31 (.bool true) x33) fun x34 =>
  IfP x34
    (OP (iBin .add i6 k8) fun x40 =>
    OP (iAdrSl 1 out5 x40) fun x41 =>
    OP (iLoad false 1 h x41) fun x42 =>
    OP (iBin .add x42 carry7) fun x44 =>
    OP (iFadr 1 b3) fun x46 =>
    OP (iLoad false 1 h x46) fun x47 =>
    OP (iLenSl x47) fun x48 =>
    OP (iBin .lss k8 x48) fun x49 =>
    IfP x49
      (OP (iFadr 1 a2) fun x51 =>
      OP (iLoad false 1 h x51) fun x52 =>
      (True) ∧
      OP (iAdrSl 1 x52 i6) fun x54 =>
      OP (iLoad false 1 h x54) fun x55 =>
      (True) ∧
      OP (iFadr 1 b3) fun x56 =>
      OP (iLoad false 1 h x56) fun x57 =>
      (True) ∧
      OP (iAdrSl 1 x57 k8) fun x59 =>
      OP (iLoad false 1 h x59) fun x60 =>
      (True) ∧
      OP (iBin .mul x55 x60) fun x61 =>
      OP (iBin .add x44 x61) fun x62 =>
      p77z26 P K a2 b3 x4 out5 i6 k8 x62 L1 L2 h)
      (p77z26 P K a2 b3 x4 out5 i6 k8 x44 L1 L2 h))
    (p77z28 P K a2 b3 x4 out5 i6 L1 h)) := (CutP_def _ _ _ _).trans (by kernel_rfl)
theorem q77z18 (P : Program) (K : Value → Heap → Prop) (a2 b3 x4 out5 i6 carry7 k8 x31 : Value) (L1 L2 : List Value → Heap → Prop) (h : Heap) : p77z18 P K a2 b3 x4 out5 i6 carry7 k8 x31 L1 L2 h =
  (GdP x31 false
    (OP (iBin .gtr carry7 (.int .i64 (0))) fun x33 =>
    p77z20 P K a2 b3 x4 out5 i6 carry7 k8 x31 x33 L1 L2 h)
    (p77z20 P K a2 b3 x4 out5 i6 carry7 k8 x31 undef L1 L2 h)) := (CutP_def _ _ _ _).trans (by kernel_rfl)
theorem q77z26 (P : Program) (K : Value → Heap → Prop) (a2 b3 x4 out5 i6 k8 s9 : Value) (L1 L2 : List Value → Heap → Prop) (h : Heap) : p77z26 P K a2 b3 x4 out5 i6 k8 s9 L1 L2 h =
  (OP (iBin .add i6 k8) fun x66 =>
  OP (iBin .rem s9 (.int .i64 (10000))) fun x68 =>
  OP (iBin .quo s9 (.int .i64 (10000))) fun x70 =>
  OP (iAdrSl 1 out5 x66) fun x71 =>
  OH (oStore 1 h x71 x68) fun _ h_1 =>
  p77z27 P K a2 b3 x4 out5 i6 x70 k8 L1 L2 h_1) := (CutP_def _ _ _ _).trans (by kernel_rfl)
theorem q77z27 (P : Program) (K : Value → Heap → Prop) (a2 b3 x4 out5 i6 carry7 k8 : Value) (L1 L2 : List Value → Heap → Prop) (h : Heap) : p77z27 P K a2 b3 x4 out5 i6 carry7 k8 L1 L2 h =
  (OP (iBin .add k8 (.int .i64 (1))) fun x36 =>
  ([a2, b3, x4, out5, i6] : List Value) = [a2, b3, x4, out5, i6] ∧ L2 [carry7, x36] h) := (CutP_def _ _ _ _).trans (by kernel_rfl)
theorem q77z14 (P : Program) (K : Value → Heap → Prop) (a2 b3 x4 out5 i6 : Value) (L1 L2 : List Value → Heap → Prop) (carry7 k8 : Value) (h : Heap) : p77z14 P K a2 b3 x4 out5 i6 L1 L2 [carry7, k8] h =
  (OP (iFadr 1 b3) fun x27 =>
  OP (iLoad false 1 h x27) fun x28 =>
  OP (iLenSl x28) fun x29 =>
  OP (iBin .lss k8 x29) fun x30 =>
  p77z18 P K a2 b3 x4 out5 i6 carry7 k8 x30 L1 L2 h) := (CutP_def _ _ _ _).trans (by kernel_rfl)
theorem q77z28 (P : Program) (K : Value → Heap → Prop) (a2 b3 x4 out5 i6 : Value) (L1 : List Value → Heap → Prop) (h : Heap) : p77z28 P K a2 b3 x4 out5 i6 L1 h =
  (OP (iBin .add i6 (.int .i64 (1))) fun x25 =>
  ([a2, b3, x4, out5] : List Value) = [a2, b3, x4, out5] ∧ L1 [x25] h) := (CutP_def _ _ _ _).trans (by kernel_rfl)
theorem q77z6 (P : Program) (K : Value → Heap → Prop) (a2 b3 x4 out5 : Value) (L1 : List Value → Heap → Prop) (i6 : Value) (h : Heap) : p77z6 P K a2 b3 x4 out5 L1 [i6] h =
  (OP (iFadr 1 a2) fun x20 =>
  OP (iLoad false 1 h x20) fun x21 =>
  OP (iLenSl x21) fun x22 =>
  OP (iBin .lss i6 x22) fun x23 =>
  IfP x23
    (LoopP [(.int .i64 (0)), (.int .i64 (0))] h fun L2 xs hx =>
    p77z14 P K a2 b3 x4 out5 i6 L1 L2 xs hx)
    (p77z29 P K a2 b3 x4 out5 h)) := (CutP_def _ _ _ _).trans (by kernel_rfl)
theorem q77z29 (P : Program) (K : Value → Heap → Prop) (a2 b3 x4 out5 : Value) (h : Heap) : p77z29 P K a2 b3 x4 out5 h =
  (OP (iFadr 0 a2) fun x72 =>
  OP (iLoad false 1 h x72) fun x73 =>
  OP (iFadr 0 b3) fun x74 =>
  OP (iLoad false 1 h x74) fun x75 =>
  OP (iEqb true x73 x75) fun x76 =>
  OP (iBuild [(.bool false), (.slice none 0 0)] [(0, 1, x76), (1, 1, out5)]) fun x78 =>
  CallP P 98 [x78] h fun x79 h_1 =>
  OH (oStore 2 h_1 x4 x79) fun _ h_2 =>
  OP (iLoad true 2 h_2 x4) fun r0 =>
  K r0 h_2) := (CutP_def _ _ _ _).trans (by kernel_rfl)
def T77 (P : Program) (K : Value → Heap → Prop) (a0 b1 : Value) (h : Heap) : Prop :=
  OH (iBox 46 h a0) fun a2 h_1 =>
  OH (iBox 46 h_1 b1) fun b3 h_2 =>
  OH (iAlloc 46 [(.bool false), (.slice none 0 0)] h_2) fun x4 h_3 =>
  OP (iFadr 1 a2) fun x10 =>
  OP (iLoad false 1 h_3 x10) fun x11 =>
  OP (iLenSl x11) fun x12 =>
  OP (iFadr 1 b3) fun x13 =>
  OP (iLoad false 1 h_3 x13) fun x14 =>
  OP (iLenSl x14) fun x15 =>
  OP (iBin .add x12 x15) fun x16 =>
  OP (iBin .add x16 (.int .i64 (1))) fun x17 =>
  OH (iMake 3 8 [(.int .i64 (0))] h_3 x17 x17) fun x18 h_4 =>
  LoopP [(.int .i64 (0))] h_4 fun L1 xs hx =>
  p77z6 P K a2 b3 x4 x18 L1 xs hx
theorem e77 (P : Program) (K : Value → Heap → Prop) (a0 b1 : Value) (h : Heap) : iwpP P c77 (bodyP [.cell true 2 4] K) (frame0 [a0, b1]) h = T77 P K a0 b1 h := by kernel_rfl
theorem f77 {K : Value → Heap → Prop} {a0 b1 : Value} {h : Heap} (H : T77 Try.prog K a0 b1 h) : CallP Try.prog 77 [a0, b1] h K :=
  callP_intro k77 (Nat.le_of_ble_eq_true rfl) ((e77 Try.prog K a0 b1 h).mpr H)
/-! F98: pommel/pommelref01.lean -/
noncomputable def c98z11 : ICode := .ops none [⟨(some 17), .p (.pick (.tmp 9) (.tmp 16) (.const (.bool false)))⟩]
noncomputable def c98z9 : ICode := .seq (.ops (some (9, true)) [⟨(some 10), .p (.fadr 1 (.tmp 1))⟩,
    ⟨(some 11), .l (.load false 1 (.tmp 10))⟩,
    ⟨(some 12), .p (.mv (.tmp 3))⟩,
    ⟨(some 13), .p (.bin .sub (.tmp 12) (.const (.int .i64 (1))))⟩,
    ⟨(some 14), .p (.adrSl 1 (.tmp 11) (.tmp 13))⟩,
    ⟨(some 15), .l (.load false 1 (.tmp 14))⟩,
    ⟨(some 16), .p (.bin .eql (.tmp 15) (.const (.int .i64 (0))))⟩])
 (.cut [1, 2, 3, 9, 16] c98z11)
noncomputable def c98z7 : ICode := .cond (.tmp 17) (.skip)
 (.exit 0)
noncomputable def c98z6 : ICode := .block 1 (.ops none [⟨(some 18), .p (.mv (.tmp 3))⟩,
    ⟨(some 19), .p (.bin .sub (.tmp 18) (.const (.int .i64 (1))))⟩,
    ⟨(some 3), .p (.mv (.tmp 19))⟩])
noncomputable def c98z5 : ICode := .seq (.seq (.seq (.ops none [⟨(some 7), .p (.mv (.tmp 3))⟩,
      ⟨(some 8), .p (.bin .gtr (.tmp 7) (.const (.int .i64 (0))))⟩,
      ⟨(some 9), .p (.mv (.tmp 8))⟩])
   (.cut [1, 2, 3, 9] c98z9)) c98z7) c98z6
noncomputable def c98z19 : ICode := .ops none [⟨(some 32), .p (.pick (.tmp 29) (.tmp 31) (.const (.bool false)))⟩,
   ⟨(some 33), .p (.fadr 0 (.tmp 1))⟩,
   ⟨none, .e (.store 1 (.tmp 33) (.tmp 32))⟩]
noncomputable def c98z17 : ICode := .seq (.ops (some (29, true)) [⟨(some 30), .p (.mv (.tmp 3))⟩,
    ⟨(some 31), .p (.bin .gtr (.tmp 30) (.const (.int .i64 (0))))⟩])
 (.cut [1, 2, 29, 31] c98z19)
noncomputable def c98z15 : ICode := .seq (.ops none [⟨(some 34), .l (.load true 2 (.tmp 1))⟩,
    ⟨none, .e (.store 2 (.tmp 2) (.tmp 34))⟩])
 (.ret)
noncomputable def c98z13 : ICode := .seq (.ops none [⟨(some 20), .e (.mkSl 3 0 [(.int .i64 (0))] [])⟩,
    ⟨(some 21), .p (.fadr 1 (.tmp 1))⟩,
    ⟨(some 22), .l (.load false 1 (.tmp 21))⟩,
    ⟨(some 23), .p (.mv (.tmp 3))⟩,
    ⟨(some 24), .p (.slSl 3 1 (.tmp 22) none (some (.tmp 23)))⟩,
    ⟨(some 25), .e (.app 3 1 8 (.tmp 20) (.tmp 24))⟩,
    ⟨(some 26), .p (.fadr 1 (.tmp 1))⟩,
    ⟨none, .e (.store 1 (.tmp 26) (.tmp 25))⟩])
 (.seq (.seq (.ops none [⟨(some 27), .p (.fadr 0 (.tmp 1))⟩,
     ⟨(some 28), .l (.load false 1 (.tmp 27))⟩,
     ⟨(some 29), .p (.mv (.tmp 28))⟩])
  (.cut [1, 2, 3, 29] c98z17)) c98z15)
noncomputable def c98z3 : ICode := .cut [1, 2, 3] c98z13
noncomputable def c98 : ICode := .seq (.ops none [⟨(some 1), .e (.box 46 (.tmp 0))⟩,
    ⟨(some 2), .e (.alloc 46 [(.bool false), (.slice none 0 0)])⟩])
 (.seq (.ops none [⟨(some 4), .p (.fadr 1 (.tmp 1))⟩,
    ⟨(some 5), .l (.load false 1 (.tmp 4))⟩,
    ⟨(some 6), .p (.lenSl (.tmp 5))⟩,
    ⟨(some 3), .p (.mv (.tmp 6))⟩])
 (.seq (.block 0 (.loop [1, 2] [3] c98z5)) c98z3))
theorem k98 : compFn Try.prog 98 [[], [], [1, 2], [3], [1, 2, 3, 9], [1, 2, 3, 9, 16], [], [], [1, 2, 3], [], [1, 2, 3, 29], [1, 2, 29, 31], [], []] = some (35, c98, [.cell true 2 2]) := by kernel_rfl
def K98z0 (_P : Program) (K : Value → Heap → Prop) : Exit → (Nat → Value) → Heap → Prop := bodyP [.cell true 2 2] K
def K98z3 (P : Program) (K : Value → Heap → Prop) : Exit → (Nat → Value) → Heap → Prop := thenK (iwpP P c98z3 (K98z0 P K)) (K98z0 P K)
def K98z4 (P : Program) (K : Value → Heap → Prop) : Exit → (Nat → Value) → Heap → Prop := inBlockK 0 (K98z3 P K)
def K98z5 (P : Program) (K : Value → Heap → Prop) (z1 x2 : Value) (L1 : List Value → Heap → Prop) : Exit → (Nat → Value) → Heap → Prop := thenK (fun f' h'' => (([1, 2] : List Nat).map f' : List Value) = [z1, x2] ∧ L1 (([3] : List Nat).map f') h'') (K98z4 P K)
def K98z6 (P : Program) (K : Value → Heap → Prop) (z1 x2 : Value) (L1 : List Value → Heap → Prop) : Exit → (Nat → Value) → Heap → Prop := thenK (iwpP P c98z6 (K98z5 P K z1 x2 L1)) (K98z5 P K z1 x2 L1)
def K98z7 (P : Program) (K : Value → Heap → Prop) (z1 x2 : Value) (L1 : List Value → Heap → Prop) : Exit → (Nat → Value) → Heap → Prop := thenK (iwpP P c98z7 (K98z6 P K z1 x2 L1)) (K98z6 P K z1 x2 L1)
def K98z15 (P : Program) (K : Value → Heap → Prop) : Exit → (Nat → Value) → Heap → Prop := thenK (iwpP P c98z15 (K98z0 P K)) (K98z0 P K)
def p98z5 (P : Program) (K : Value → Heap → Prop) (z1 x2 : Value) (L1 : List Value → Heap → Prop) (xs : List Value) (h : Heap) : Prop := CutP (iwpP P c98z5 (K98z5 P K z1 x2 L1)) ([1, 2] ++ [3]) ([z1, x2] ++ xs) h
def p98z9 (P : Program) (K : Value → Heap → Prop) (z1 x2 n3 x9 : Value) (L1 : List Value → Heap → Prop) (h : Heap) : Prop := CutP (iwpP P c98z9 (K98z7 P K z1 x2 L1)) [1, 2, 3, 9] [z1, x2, n3, x9] h
def p98z11 (P : Program) (K : Value → Heap → Prop) (z1 x2 n3 x9 x16 : Value) (L1 : List Value → Heap → Prop) (h : Heap) : Prop := CutP (iwpP P c98z11 (K98z7 P K z1 x2 L1)) [1, 2, 3, 9, 16] [z1, x2, n3, x9, x16] h
def p98z13 (P : Program) (K : Value → Heap → Prop) (z1 x2 n3 : Value) (h : Heap) : Prop := CutP (iwpP P c98z13 (K98z0 P K)) [1, 2, 3] [z1, x2, n3] h
def p98z17 (P : Program) (K : Value → Heap → Prop) (z1 x2 n3 x29 : Value) (h : Heap) : Prop := CutP (iwpP P c98z17 (K98z15 P K)) [1, 2, 3, 29] [z1, x2, n3, x29] h
def p98z19 (P : Program) (K : Value → Heap → Prop) (z1 x2 x29 x31 : Value) (h : Heap) : Prop := CutP (iwpP P c98z19 (K98z15 P K)) [1, 2, 29, 31] [z1, x2, x29, x31] h
theorem q98z11 (P : Program) (K : Value → Heap → Prop) (z1 x2 n3 x9 x16 : Value) (L1 : List Value → Heap → Prop) (h : Heap) : p98z11 P K z1 x2 n3 x9 x16 L1 h =
  (OP (iPick x9 x16 (.bool false)) fun x17 =>
  IfP x17
    (OP (iBin .sub n3 (.int .i64 (1))) fun x19 =>
    ([z1, x2] : List Value) = [z1, x2] ∧ L1 [x19] h)
    (p98z13 P K z1 x2 n3 h)) := (CutP_def _ _ _ _).trans (by kernel_rfl)
theorem q98z9 (P : Program) (K : Value → Heap → Prop) (z1 x2 n3 x9 : Value) (L1 : List Value → Heap → Prop) (h : Heap) : p98z9 P K z1 x2 n3 x9 L1 h =
  (GdP x9 true
    (OP (iFadr 1 z1) fun x10 =>
    OP (iLoad false 1 h x10) fun x11 =>
    OP (iBin .sub n3 (.int .i64 (1))) fun x13 =>
    OP (iAdrSl 1 x11 x13) fun x14 =>
    OP (iLoad false 1 h x14) fun x15 =>
    OP (iBin .eql x15 (.int .i64 (0))) fun x16 =>
    p98z11 P K z1 x2 n3 x9 x16 L1 h)
    (p98z11 P K z1 x2 n3 x9 undef L1 h)) := (CutP_def _ _ _ _).trans (by kernel_rfl)
theorem q98z5 (P : Program) (K : Value → Heap → Prop) (z1 x2 : Value) (L1 : List Value → Heap → Prop) (n3 : Value) (h : Heap) : p98z5 P K z1 x2 L1 [n3] h =
  (OP (iBin .gtr n3 (.int .i64 (0))) fun x8 =>
  p98z9 P K z1 x2 n3 x8 L1 h) := (CutP_def _ _ _ _).trans (by kernel_rfl)
theorem q98z19 (P : Program) (K : Value → Heap → Prop) (z1 x2 x29 x31 : Value) (h : Heap) : p98z19 P K z1 x2 x29 x31 h =
  (OP (iPick x29 x31 (.bool false)) fun x32 =>
  OP (iFadr 0 z1) fun x33 =>
  OH (oStore 1 h x33 x32) fun _ h_1 =>
  OP (iLoad true 2 h_1 z1) fun x34 =>
  OH (oStore 2 h_1 x2 x34) fun _ h_2 =>
  OP (iLoad true 2 h_2 x2) fun r0 =>
  K r0 h_2) := (CutP_def _ _ _ _).trans (by kernel_rfl)
theorem q98z17 (P : Program) (K : Value → Heap → Prop) (z1 x2 n3 x29 : Value) (h : Heap) : p98z17 P K z1 x2 n3 x29 h =
  (GdP x29 true
    (OP (iBin .gtr n3 (.int .i64 (0))) fun x31 =>
    p98z19 P K z1 x2 x29 x31 h)
    (p98z19 P K z1 x2 x29 undef h)) := (CutP_def _ _ _ _).trans (by kernel_rfl)
theorem q98z13 (P : Program) (K : Value → Heap → Prop) (z1 x2 n3 : Value) (h : Heap) : p98z13 P K z1 x2 n3 h =
  (OH (iMkSl 3 0 [(.int .i64 (0))] h []) fun x20 h_1 =>
  OP (iFadr 1 z1) fun x21 =>
  OP (iLoad false 1 h_1 x21) fun x22 =>
  OP (iSlSl 3 1 x22 none (some n3)) fun x24 =>
  OH (iApp 3 1 8 h_1 x20 x24) fun x25 h_2 =>
  OP (iFadr 1 z1) fun x26 =>
  OH (oStore 1 h_2 x26 x25) fun _ h_3 =>
  OP (iFadr 0 z1) fun x27 =>
  OP (iLoad false 1 h_3 x27) fun x28 =>
  p98z17 P K z1 x2 n3 x28 h_3) := (CutP_def _ _ _ _).trans (by kernel_rfl)
def T98 (P : Program) (K : Value → Heap → Prop) (z0 : Value) (h : Heap) : Prop :=
  OH (iBox 46 h z0) fun z1 h_1 =>
  OH (iAlloc 46 [(.bool false), (.slice none 0 0)] h_1) fun x2 h_2 =>
  OP (iFadr 1 z1) fun x4 =>
  OP (iLoad false 1 h_2 x4) fun x5 =>
  OP (iLenSl x5) fun x6 =>
  LoopP [x6] h_2 fun L1 xs hx =>
  p98z5 P K z1 x2 L1 xs hx
theorem e98 (P : Program) (K : Value → Heap → Prop) (z0 : Value) (h : Heap) : iwpP P c98 (bodyP [.cell true 2 2] K) (frame0 [z0]) h = T98 P K z0 h := by kernel_rfl
theorem f98 {K : Value → Heap → Prop} {z0 : Value} {h : Heap} (H : T98 Try.prog K z0 h) : CallP Try.prog 98 [z0] h K :=
  callP_intro k98 (Nat.le_of_ble_eq_true rfl) ((e98 Try.prog K z0 h).mpr H)
/-! F99: pommel/pommelref01.plus -/
noncomputable def c99z16 : ICode := .ops none [⟨(some 23), .p (.pick (.tmp 20) (.const (.bool true)) (.tmp 22))⟩]
noncomputable def c99z14 : ICode := .seq (.ops (some (20, false)) [⟨(some 21), .p (.mv (.tmp 6))⟩,
    ⟨(some 22), .p (.bin .gtr (.tmp 21) (.const (.int .i64 (0))))⟩])
 (.cut [0, 1, 5, 6, 7, 20, 22] c99z16)
noncomputable def c99z12 : ICode := .seq (.ops none [⟨(some 19), .p (.pick (.tmp 14) (.const (.bool true)) (.tmp 18))⟩,
    ⟨(some 20), .p (.mv (.tmp 19))⟩])
 (.cut [0, 1, 5, 6, 7, 20] c99z14)
noncomputable def c99z10 : ICode := .seq (.ops (some (14, false)) [⟨(some 15), .p (.mv (.tmp 7))⟩,
    ⟨(some 16), .p (.mv (.tmp 1))⟩,
    ⟨(some 17), .p (.lenSl (.tmp 16))⟩,
    ⟨(some 18), .p (.bin .lss (.tmp 15) (.tmp 17))⟩])
 (.cut [0, 1, 5, 6, 7, 14, 18] c99z12)
noncomputable def c99z8 : ICode := .cond (.tmp 23) (.skip)
 (.exit 0)
noncomputable def c99z25 : ICode := .ops none [⟨(some 47), .p (.mv (.tmp 5))⟩,
   ⟨(some 48), .p (.mv (.tmp 8))⟩,
   ⟨(some 49), .p (.bin .rem (.tmp 48) (.const (.int .i64 (10000))))⟩,
   ⟨(some 50), .e (.mkSl 3 1 [(.int .i64 (0))] [(0, 1, (.tmp 49))])⟩,
   ⟨(some 51), .e (.app 3 1 8 (.tmp 47) (.tmp 50))⟩,
   ⟨(some 52), .p (.mv (.tmp 8))⟩,
   ⟨(some 53), .p (.bin .quo (.tmp 52) (.const (.int .i64 (10000))))⟩,
   ⟨(some 5), .p (.mv (.tmp 51))⟩,
   ⟨(some 6), .p (.mv (.tmp 53))⟩]
noncomputable def c99z22 : ICode := .seq (.seq (.ops none [⟨(some 37), .p (.mv (.tmp 7))⟩,
     ⟨(some 38), .p (.mv (.tmp 1))⟩,
     ⟨(some 39), .p (.lenSl (.tmp 38))⟩,
     ⟨(some 40), .p (.bin .lss (.tmp 37) (.tmp 39))⟩])
  (.cond (.tmp 40) (.ops none [⟨(some 41), .p (.mv (.tmp 8))⟩,
     ⟨(some 42), .p (.mv (.tmp 1))⟩,
     ⟨(some 43), .p (.mv (.tmp 7))⟩,
     ⟨(some 44), .p (.adrSl 1 (.tmp 42) (.tmp 43))⟩,
     ⟨(some 45), .l (.load false 1 (.tmp 44))⟩,
     ⟨(some 46), .p (.bin .add (.tmp 41) (.tmp 45))⟩,
     ⟨(some 8), .p (.mv (.tmp 46))⟩])
  (.skip)))
 (.cut [0, 1, 5, 7, 8] c99z25)
noncomputable def c99z26 : ICode := .ops none [⟨(some 24), .p (.mv (.tmp 7))⟩,
   ⟨(some 25), .p (.bin .add (.tmp 24) (.const (.int .i64 (1))))⟩,
   ⟨(some 7), .p (.mv (.tmp 25))⟩]
noncomputable def c99z17 : ICode := .cut [0, 1, 5, 6, 7] c99z26
noncomputable def c99z7 : ICode := .seq (.block 1 (.seq (.ops none [⟨(some 26), .p (.mv (.tmp 6))⟩,
      ⟨(some 8), .p (.mv (.tmp 26))⟩])
   (.seq (.seq (.ops none [⟨(some 27), .p (.mv (.tmp 7))⟩,
       ⟨(some 28), .p (.mv (.tmp 0))⟩,
       ⟨(some 29), .p (.lenSl (.tmp 28))⟩,
       ⟨(some 30), .p (.bin .lss (.tmp 27) (.tmp 29))⟩])
    (.cond (.tmp 30) (.ops none [⟨(some 31), .p (.mv (.tmp 8))⟩,
       ⟨(some 32), .p (.mv (.tmp 0))⟩,
       ⟨(some 33), .p (.mv (.tmp 7))⟩,
       ⟨(some 34), .p (.adrSl 1 (.tmp 32) (.tmp 33))⟩,
       ⟨(some 35), .l (.load false 1 (.tmp 34))⟩,
       ⟨(some 36), .p (.bin .add (.tmp 31) (.tmp 35))⟩,
       ⟨(some 8), .p (.mv (.tmp 36))⟩])
    (.skip)))
   (.cut [0, 1, 5, 7, 8] c99z22)))) c99z17
noncomputable def c99z6 : ICode := .seq (.seq (.seq (.ops none [⟨(some 10), .p (.mv (.tmp 7))⟩,
      ⟨(some 11), .p (.mv (.tmp 0))⟩,
      ⟨(some 12), .p (.lenSl (.tmp 11))⟩,
      ⟨(some 13), .p (.bin .lss (.tmp 10) (.tmp 12))⟩,
      ⟨(some 14), .p (.mv (.tmp 13))⟩])
   (.cut [0, 1, 5, 6, 7, 14] c99z10)) c99z8) c99z7
noncomputable def c99z27 : ICode := .seq (.ops none [⟨(some 54), .p (.mv (.tmp 5))⟩,
    ⟨(some 4), .p (.mv (.tmp 54))⟩])
 (.ret)
noncomputable def c99z3 : ICode := .cut [5] c99z27
noncomputable def c99 : ICode := .seq (.ops none [⟨(some 4), .p (.mv (.const (.slice none 0 0)))⟩])
 (.seq (.ops none [⟨(some 9), .e (.mkSl 3 0 [(.int .i64 (0))] [])⟩,
    ⟨(some 5), .p (.mv (.tmp 9))⟩,
    ⟨(some 6), .p (.mv (.const (.int .i64 (0))))⟩])
 (.seq (.seq (.ops none [⟨(some 7), .p (.mv (.const (.int .i64 (0))))⟩])
  (.block 0 (.loop [0, 1] [5, 6, 7] c99z6))) c99z3))
theorem k99 : compFn Try.prog 99 [[], [], [], [0, 1], [5, 6, 7], [0, 1, 5, 6, 7, 14], [0, 1, 5, 6, 7, 14, 18], [0, 1, 5, 6, 7, 20], [0, 1, 5, 6, 7, 20, 22], [], [], [], [], [0, 1, 5, 7, 8], [], [0, 1, 5, 7, 8], [0, 1, 5, 6, 7], [5], []] = some (55, c99, [.tmp 4]) := by kernel_rfl
def K99z0 (_P : Program) (K : Value → Heap → Prop) : Exit → (Nat → Value) → Heap → Prop := bodyP [.tmp 4] K
def K99z3 (P : Program) (K : Value → Heap → Prop) : Exit → (Nat → Value) → Heap → Prop := thenK (iwpP P c99z3 (K99z0 P K)) (K99z0 P K)
def K99z5 (P : Program) (K : Value → Heap → Prop) : Exit → (Nat → Value) → Heap → Prop := inBlockK 0 (K99z3 P K)
def K99z6 (P : Program) (K : Value → Heap → Prop) (a0 b1 : Value) (L1 : List Value → Heap → Prop) : Exit → (Nat → Value) → Heap → Prop := thenK (fun f' h'' => (([0, 1] : List Nat).map f' : List Value) = [a0, b1] ∧ L1 (([5, 6, 7] : List Nat).map f') h'') (K99z5 P K)
def K99z7 (P : Program) (K : Value → Heap → Prop) (a0 b1 : Value) (L1 : List Value → Heap → Prop) : Exit → (Nat → Value) → Heap → Prop := thenK (iwpP P c99z7 (K99z6 P K a0 b1 L1)) (K99z6 P K a0 b1 L1)
def K99z8 (P : Program) (K : Value → Heap → Prop) (a0 b1 : Value) (L1 : List Value → Heap → Prop) : Exit → (Nat → Value) → Heap → Prop := thenK (iwpP P c99z8 (K99z7 P K a0 b1 L1)) (K99z7 P K a0 b1 L1)
def K99z17 (P : Program) (K : Value → Heap → Prop) (a0 b1 : Value) (L1 : List Value → Heap → Prop) : Exit → (Nat → Value) → Heap → Prop := thenK (iwpP P c99z17 (K99z6 P K a0 b1 L1)) (K99z6 P K a0 b1 L1)
def K99z18 (P : Program) (K : Value → Heap → Prop) (a0 b1 : Value) (L1 : List Value → Heap → Prop) : Exit → (Nat → Value) → Heap → Prop := inBlockK 1 (K99z17 P K a0 b1 L1)
def p99z6 (P : Program) (K : Value → Heap → Prop) (a0 b1 : Value) (L1 : List Value → Heap → Prop) (xs : List Value) (h : Heap) : Prop := CutP (iwpP P c99z6 (K99z6 P K a0 b1 L1)) ([0, 1] ++ [5, 6, 7]) ([a0, b1] ++ xs) h
def p99z10 (P : Program) (K : Value → Heap → Prop) (a0 b1 out5 carry6 i7 x14 : Value) (L1 : List Value → Heap → Prop) (h : Heap) : Prop := CutP (iwpP P c99z10 (K99z8 P K a0 b1 L1)) [0, 1, 5, 6, 7, 14] [a0, b1, out5, carry6, i7, x14] h
def p99z12 (P : Program) (K : Value → Heap → Prop) (a0 b1 out5 carry6 i7 x14 x18 : Value) (L1 : List Value → Heap → Prop) (h : Heap) : Prop := CutP (iwpP P c99z12 (K99z8 P K a0 b1 L1)) [0, 1, 5, 6, 7, 14, 18] [a0, b1, out5, carry6, i7, x14, x18] h
def p99z14 (P : Program) (K : Value → Heap → Prop) (a0 b1 out5 carry6 i7 x20 : Value) (L1 : List Value → Heap → Prop) (h : Heap) : Prop := CutP (iwpP P c99z14 (K99z8 P K a0 b1 L1)) [0, 1, 5, 6, 7, 20] [a0, b1, out5, carry6, i7, x20] h
def p99z16 (P : Program) (K : Value → Heap → Prop) (a0 b1 out5 carry6 i7 x20 x22 : Value) (L1 : List Value → Heap → Prop) (h : Heap) : Prop := CutP (iwpP P c99z16 (K99z8 P K a0 b1 L1)) [0, 1, 5, 6, 7, 20, 22] [a0, b1, out5, carry6, i7, x20, x22] h
def p99z22 (P : Program) (K : Value → Heap → Prop) (a0 b1 out5 i7 s8 : Value) (L1 : List Value → Heap → Prop) (h : Heap) : Prop := CutP (iwpP P c99z22 (K99z18 P K a0 b1 L1)) [0, 1, 5, 7, 8] [a0, b1, out5, i7, s8] h
def p99z25 (P : Program) (K : Value → Heap → Prop) (a0 b1 out5 i7 s8 : Value) (L1 : List Value → Heap → Prop) (h : Heap) : Prop := CutP (iwpP P c99z25 (K99z18 P K a0 b1 L1)) [0, 1, 5, 7, 8] [a0, b1, out5, i7, s8] h
def p99z26 (P : Program) (K : Value → Heap → Prop) (a0 b1 out5 carry6 i7 : Value) (L1 : List Value → Heap → Prop) (h : Heap) : Prop := CutP (iwpP P c99z26 (K99z6 P K a0 b1 L1)) [0, 1, 5, 6, 7] [a0, b1, out5, carry6, i7] h
def p99z27 (P : Program) (K : Value → Heap → Prop) (out5 : Value) (h : Heap) : Prop := CutP (iwpP P c99z27 (K99z0 P K)) [5] [out5] h
theorem q99z16 (P : Program) (K : Value → Heap → Prop) (a0 b1 out5 carry6 i7 x20 x22 : Value) (L1 : List Value → Heap → Prop) (h : Heap) : p99z16 P K a0 b1 out5 carry6 i7 x20 x22 L1 h =
  (OP (iPick x20 (.bool true) x22) fun x23 =>
  IfP x23
    (OP (iLenSl a0) fun x29 =>
    OP (iBin .lss i7 x29) fun x30 =>
    IfP x30
      (OP (iAdrSl 1 a0 i7) fun x34 =>
      OP (iLoad false 1 h x34) fun x35 =>
      OP (iBin .add carry6 x35) fun x36 =>
      p99z22 P K a0 b1 out5 i7 x36 L1 h)
      (p99z22 P K a0 b1 out5 i7 carry6 L1 h))
    (p99z27 P K out5 h)) := (CutP_def _ _ _ _).trans (by kernel_rfl)
theorem q99z14 (P : Program) (K : Value → Heap → Prop) (a0 b1 out5 carry6 i7 x20 : Value) (L1 : List Value → Heap → Prop) (h : Heap) : p99z14 P K a0 b1 out5 carry6 i7 x20 L1 h =
  (GdP x20 false
    (OP (iBin .gtr carry6 (.int .i64 (0))) fun x22 =>
    p99z16 P K a0 b1 out5 carry6 i7 x20 x22 L1 h)
    (p99z16 P K a0 b1 out5 carry6 i7 x20 undef L1 h)) := (CutP_def _ _ _ _).trans (by kernel_rfl)
theorem q99z12 (P : Program) (K : Value → Heap → Prop) (a0 b1 out5 carry6 i7 x14 x18 : Value) (L1 : List Value → Heap → Prop) (h : Heap) : p99z12 P K a0 b1 out5 carry6 i7 x14 x18 L1 h =
  (OP (iPick x14 (.bool true) x18) fun x19 =>
  p99z14 P K a0 b1 out5 carry6 i7 x19 L1 h) := (CutP_def _ _ _ _).trans (by kernel_rfl)
theorem q99z10 (P : Program) (K : Value → Heap → Prop) (a0 b1 out5 carry6 i7 x14 : Value) (L1 : List Value → Heap → Prop) (h : Heap) : p99z10 P K a0 b1 out5 carry6 i7 x14 L1 h =
  (GdP x14 false
    (OP (iLenSl b1) fun x17 =>
    OP (iBin .lss i7 x17) fun x18 =>
    p99z12 P K a0 b1 out5 carry6 i7 x14 x18 L1 h)
    (p99z12 P K a0 b1 out5 carry6 i7 x14 undef L1 h)) := (CutP_def _ _ _ _).trans (by kernel_rfl)
theorem q99z25 (P : Program) (K : Value → Heap → Prop) (a0 b1 out5 i7 s8 : Value) (L1 : List Value → Heap → Prop) (h : Heap) : p99z25 P K a0 b1 out5 i7 s8 L1 h =
  (OP (iBin .rem s8 (.int .i64 (10000))) fun x49 =>
  OH (iMkSl 3 1 [(.int .i64 (0))] h [(0, 1, x49)]) fun x50 h_1 =>
  OH (iApp 3 1 8 h_1 out5 x50) fun x51 h_2 =>
  OP (iBin .quo s8 (.int .i64 (10000))) fun x53 =>
  p99z26 P K a0 b1 x51 x53 i7 L1 h_2) := (CutP_def _ _ _ _).trans (by kernel_rfl)
theorem q99z22 (P : Program) (K : Value → Heap → Prop) (a0 b1 out5 i7 s8 : Value) (L1 : List Value → Heap → Prop) (h : Heap) : p99z22 P K a0 b1 out5 i7 s8 L1 h =
  (OP (iLenSl b1) fun x39 =>
  OP (iBin .lss i7 x39) fun x40 =>
  IfP x40
    (OP (iAdrSl 1 b1 i7) fun x44 =>
    OP (iLoad false 1 h x44) fun x45 =>
    OP (iBin .add s8 x45) fun x46 =>
    p99z25 P K a0 b1 out5 i7 x46 L1 h)
    (p99z25 P K a0 b1 out5 i7 s8 L1 h)) := (CutP_def _ _ _ _).trans (by kernel_rfl)
theorem q99z26 (P : Program) (K : Value → Heap → Prop) (a0 b1 out5 carry6 i7 : Value) (L1 : List Value → Heap → Prop) (h : Heap) : p99z26 P K a0 b1 out5 carry6 i7 L1 h =
  (OP (iBin .add i7 (.int .i64 (1))) fun x25 =>
  ([a0, b1] : List Value) = [a0, b1] ∧ L1 [out5, carry6, x25] h) := (CutP_def _ _ _ _).trans (by kernel_rfl)
theorem q99z6 (P : Program) (K : Value → Heap → Prop) (a0 b1 : Value) (L1 : List Value → Heap → Prop) (out5 carry6 i7 : Value) (h : Heap) : p99z6 P K a0 b1 L1 [out5, carry6, i7] h =
  (OP (iLenSl a0) fun x12 =>
  OP (iBin .lss i7 x12) fun x13 =>
  p99z10 P K a0 b1 out5 carry6 i7 x13 L1 h) := (CutP_def _ _ _ _).trans (by kernel_rfl)
theorem q99z27 (P : Program) (K : Value → Heap → Prop) (out5 : Value) (h : Heap) : p99z27 P K out5 h =
  (K out5 h) := (CutP_def _ _ _ _).trans (by kernel_rfl)
def T99 (P : Program) (K : Value → Heap → Prop) (a0 b1 : Value) (h : Heap) : Prop :=
  OH (iMkSl 3 0 [(.int .i64 (0))] h []) fun x9 h_1 =>
  LoopP [x9, (.int .i64 (0)), (.int .i64 (0))] h_1 fun L1 xs hx =>
  p99z6 P K a0 b1 L1 xs hx
theorem e99 (P : Program) (K : Value → Heap → Prop) (a0 b1 : Value) (h : Heap) : iwpP P c99 (bodyP [.tmp 4] K) (frame0 [a0, b1]) h = T99 P K a0 b1 h := by kernel_rfl
theorem f99 {K : Value → Heap → Prop} {a0 b1 : Value} {h : Heap} (H : T99 Try.prog K a0 b1 h) : CallP Try.prog 99 [a0, b1] h K :=
  callP_intro k99 (Nat.le_of_ble_eq_true rfl) ((e99 Try.prog K a0 b1 h).mpr H)
/-! F100: pommel/pommelref01.sizes -/
noncomputable def c100z11 : ICode := .seq (.seq (.ops none [⟨(some 19), .p (.mv (.tmp 5))⟩,
     ⟨(some 20), .p (.bin .geq (.tmp 19) (.const (.int .i64 (0))))⟩])
  (.cond (.tmp 20) (.skip)
  (.exit 0)))
 (.seq (.block 1 (.seq (.seq (.dops [(none, [⟨(some 23), .p (.mv (.tmp 0)), 0⟩,
       ⟨(some 24), .p (.mv (.tmp 5)), 0⟩,
       ⟨(some 25), .p (.adrSl 1 (.tmp 23) (.tmp 24)), 3⟩,
       ⟨(some 26), .l (.load false 1 (.tmp 25)), 7⟩,
       ⟨(some 27), .p (.mv (.tmp 1)), 0⟩,
       ⟨(some 28), .p (.mv (.tmp 5)), 0⟩,
       ⟨(some 29), .p (.adrSl 1 (.tmp 27) (.tmp 28)), 48⟩,
       ⟨(some 30), .l (.load false 1 (.tmp 29)), 112⟩,
       ⟨(some 31), .p (.bin .lss (.tmp 26) (.tmp 30)), 255⟩])])
    (.cond (.tmp 31) (.seq (.ops none [⟨(some 4), .p (.mv (.const (.int .i64 (-1))))⟩])
     (.ret))
    (.skip)))
   (.seq (.dops [(none, [⟨(some 32), .p (.mv (.tmp 0)), 0⟩,
      ⟨(some 33), .p (.mv (.tmp 5)), 0⟩,
      ⟨(some 34), .p (.adrSl 1 (.tmp 32) (.tmp 33)), 3⟩,
      ⟨(some 35), .l (.load false 1 (.tmp 34)), 7⟩,
      ⟨(some 36), .p (.mv (.tmp 1)), 0⟩,
      ⟨(some 37), .p (.mv (.tmp 5)), 0⟩,
      ⟨(some 38), .p (.adrSl 1 (.tmp 36) (.tmp 37)), 48⟩,
      ⟨(some 39), .l (.load false 1 (.tmp 38)), 112⟩,
      ⟨(some 40), .p (.bin .gtr (.tmp 35) (.tmp 39)), 255⟩])])
   (.cond (.tmp 40) (.seq (.ops none [⟨(some 4), .p (.mv (.const (.int .i64 (1))))⟩])
    (.ret))
   (.skip)))))
 (.ops none [⟨(some 21), .p (.mv (.tmp 5))⟩,
   ⟨(some 22), .p (.bin .sub (.tmp 21) (.const (.int .i64 (1))))⟩,
   ⟨(some 5), .p (.mv (.tmp 22))⟩]))
noncomputable def c100z8 : ICode := .seq (.ops none [⟨(some 4), .p (.mv (.const (.int .i64 (0))))⟩])
 (.ret)
noncomputable def c100 : ICode := .seq (.ops none [⟨(some 4), .p (.mv (.const (.int .i64 (0))))⟩])
 (.seq (.seq (.ops none [⟨(some 6), .p (.mv (.tmp 0))⟩,
     ⟨(some 7), .p (.lenSl (.tmp 6))⟩,
     ⟨(some 8), .p (.mv (.tmp 1))⟩,
     ⟨(some 9), .p (.lenSl (.tmp 8))⟩,
     ⟨(some 10), .p (.bin .neq (.tmp 7) (.tmp 9))⟩])
  (.cond (.tmp 10) (.seq (.seq (.ops none [⟨(some 11), .p (.mv (.tmp 0))⟩,
       ⟨(some 12), .p (.lenSl (.tmp 11))⟩,
       ⟨(some 13), .p (.mv (.tmp 1))⟩,
       ⟨(some 14), .p (.lenSl (.tmp 13))⟩,
       ⟨(some 15), .p (.bin .lss (.tmp 12) (.tmp 14))⟩])
    (.cond (.tmp 15) (.seq (.ops none [⟨(some 4), .p (.mv (.const (.int .i64 (-1))))⟩])
     (.ret))
    (.skip)))
   (.seq (.ops none [⟨(some 4), .p (.mv (.const (.int .i64 (1))))⟩])
   (.ret)))
  (.skip)))
 (.seq (.seq (.ops none [⟨(some 16), .p (.mv (.tmp 0))⟩,
     ⟨(some 17), .p (.lenSl (.tmp 16))⟩,
     ⟨(some 18), .p (.bin .sub (.tmp 17) (.const (.int .i64 (1))))⟩,
     ⟨(some 5), .p (.mv (.tmp 18))⟩])
  (.block 0 (.loop [0, 1] [5] c100z11))) c100z8))
theorem k100 : compFn Try.prog 100 [[], [], [], [], [], [], [], [], [0, 1], [5], [], [], [], [], [], [], [], [], [], []] = some (41, c100, [.tmp 4]) := by kernel_rfl
def K100z0 (_P : Program) (K : Value → Heap → Prop) : Exit → (Nat → Value) → Heap → Prop := bodyP [.tmp 4] K
def K100z8 (P : Program) (K : Value → Heap → Prop) : Exit → (Nat → Value) → Heap → Prop := thenK (iwpP P c100z8 (K100z0 P K)) (K100z0 P K)
def K100z10 (P : Program) (K : Value → Heap → Prop) : Exit → (Nat → Value) → Heap → Prop := inBlockK 0 (K100z8 P K)
def K100z11 (P : Program) (K : Value → Heap → Prop) (a0 b1 : Value) (L1 : List Value → Heap → Prop) : Exit → (Nat → Value) → Heap → Prop := thenK (fun f' h'' => (([0, 1] : List Nat).map f' : List Value) = [a0, b1] ∧ L1 (([5] : List Nat).map f') h'') (K100z10 P K)
def p100z11 (P : Program) (K : Value → Heap → Prop) (a0 b1 : Value) (L1 : List Value → Heap → Prop) (xs : List Value) (h : Heap) : Prop := CutP (iwpP P c100z11 (K100z11 P K a0 b1 L1)) ([0, 1] ++ [5]) ([a0, b1] ++ xs) h
theorem q100z11 (P : Program) (K : Value → Heap → Prop) (a0 b1 : Value) (L1 : List Value → Heap → Prop) (i5 : Value) (h : Heap) : p100z11 P K a0 b1 L1 [i5] h =
  (OP (iBin .geq i5 (.int .i64 (0))) fun x20 =>
  IfP x20
    (OP (iAdrSl 1 a0 i5) fun x25 =>
    OP (iLoad false 1 h x25) fun x26 =>
    (True) ∧
    OP (iAdrSl 1 b1 i5) fun x29 =>
    OP (iLoad false 1 h x29) fun x30 =>
    (True) ∧
    OP (iBin .lss x26 x30) fun x31 =>
    IfP x31
      (K (.int .i64 (-1)) h)
      (OP (iAdrSl 1 a0 i5) fun x34 =>
      OP (iLoad false 1 h x34) fun x35 =>
      (True) ∧
      OP (iAdrSl 1 b1 i5) fun x38 =>
      OP (iLoad false 1 h x38) fun x39 =>
      (True) ∧
      OP (iBin .gtr x35 x39) fun x40 =>
      IfP x40
        (K (.int .i64 (1)) h)
        (OP (iBin .sub i5 (.int .i64 (1))) fun x22 =>
        ([a0, b1] : List Value) = [a0, b1] ∧ L1 [x22] h)))
    (K (.int .i64 (0)) h)) := (CutP_def _ _ _ _).trans (by kernel_rfl)
def T100 (P : Program) (K : Value → Heap → Prop) (a0 b1 : Value) (h : Heap) : Prop :=
  OP (iLenSl a0) fun x7 =>
  OP (iLenSl b1) fun x9 =>
  OP (iBin .neq x7 x9) fun x10 =>
  IfP x10
    (OP (iLenSl a0) fun x12 =>
    OP (iLenSl b1) fun x14 =>
    OP (iBin .lss x12 x14) fun x15 =>
    IfP x15
      (K (.int .i64 (-1)) h)
      (K (.int .i64 (1)) h))
    (OP (iLenSl a0) fun x17 =>
    OP (iBin .sub x17 (.int .i64 (1))) fun x18 =>
    LoopP [x18] h fun L1 xs hx =>
    p100z11 P K a0 b1 L1 xs hx)
theorem e100 (P : Program) (K : Value → Heap → Prop) (a0 b1 : Value) (h : Heap) : iwpP P c100 (bodyP [.tmp 4] K) (frame0 [a0, b1]) h = T100 P K a0 b1 h := by kernel_rfl
theorem f100 {K : Value → Heap → Prop} {a0 b1 : Value} {h : Heap} (H : T100 Try.prog K a0 b1 h) : CallP Try.prog 100 [a0, b1] h K :=
  callP_intro k100 (Nat.le_of_ble_eq_true rfl) ((e100 Try.prog K a0 b1 h).mpr H)
/-! F101: pommel/pommelref01.less -/
noncomputable def c101z18 : ICode := .ops none [⟨(some 36), .p (.mv (.tmp 5))⟩,
   ⟨(some 37), .p (.mv (.tmp 8))⟩,
   ⟨(some 38), .e (.mkSl 3 1 [(.int .i64 (0))] [(0, 1, (.tmp 37))])⟩,
   ⟨(some 39), .e (.app 3 1 8 (.tmp 36) (.tmp 38))⟩,
   ⟨(some 5), .p (.mv (.tmp 39))⟩]
noncomputable def c101z14 : ICode := .seq (.ops none [⟨(some 6), .p (.mv (.const (.int .i64 (0))))⟩])
 (.seq (.seq (.ops none [⟨(some 32), .p (.mv (.tmp 8))⟩,
     ⟨(some 33), .p (.bin .lss (.tmp 32) (.const (.int .i64 (0))))⟩])
  (.cond (.tmp 33) (.ops none [⟨(some 34), .p (.mv (.tmp 8))⟩,
     ⟨(some 35), .p (.bin .add (.tmp 34) (.const (.int .i64 (10000))))⟩,
     ⟨(some 8), .p (.mv (.tmp 35))⟩,
     ⟨(some 6), .p (.mv (.const (.int .i64 (1))))⟩])
  (.skip)))
 (.cut [0, 1, 5, 6, 7, 8] c101z18))
noncomputable def c101z19 : ICode := .ops none [⟨(some 14), .p (.mv (.tmp 7))⟩,
   ⟨(some 15), .p (.bin .add (.tmp 14) (.const (.int .i64 (1))))⟩,
   ⟨(some 7), .p (.mv (.tmp 15))⟩]
noncomputable def c101z9 : ICode := .cut [0, 1, 5, 6, 7] c101z19
noncomputable def c101z6 : ICode := .seq (.seq (.ops none [⟨(some 10), .p (.mv (.tmp 7))⟩,
     ⟨(some 11), .p (.mv (.tmp 0))⟩,
     ⟨(some 12), .p (.lenSl (.tmp 11))⟩,
     ⟨(some 13), .p (.bin .lss (.tmp 10) (.tmp 12))⟩])
  (.cond (.tmp 13) (.skip)
  (.exit 0)))
 (.seq (.block 1 (.seq (.ops none [⟨(some 16), .p (.mv (.tmp 0))⟩,
      ⟨(some 17), .p (.mv (.tmp 7))⟩,
      ⟨(some 18), .p (.adrSl 1 (.tmp 16) (.tmp 17))⟩,
      ⟨(some 19), .l (.load false 1 (.tmp 18))⟩,
      ⟨(some 20), .p (.mv (.tmp 6))⟩,
      ⟨(some 21), .p (.bin .sub (.tmp 19) (.tmp 20))⟩,
      ⟨(some 8), .p (.mv (.tmp 21))⟩])
   (.seq (.seq (.ops none [⟨(some 22), .p (.mv (.tmp 7))⟩,
       ⟨(some 23), .p (.mv (.tmp 1))⟩,
       ⟨(some 24), .p (.lenSl (.tmp 23))⟩,
       ⟨(some 25), .p (.bin .lss (.tmp 22) (.tmp 24))⟩])
    (.cond (.tmp 25) (.ops none [⟨(some 26), .p (.mv (.tmp 8))⟩,
       ⟨(some 27), .p (.mv (.tmp 1))⟩,
       ⟨(some 28), .p (.mv (.tmp 7))⟩,
       ⟨(some 29), .p (.adrSl 1 (.tmp 27) (.tmp 28))⟩,
       ⟨(some 30), .l (.load false 1 (.tmp 29))⟩,
       ⟨(some 31), .p (.bin .sub (.tmp 26) (.tmp 30))⟩,
       ⟨(some 8), .p (.mv (.tmp 31))⟩])
    (.skip)))
   (.cut [0, 1, 5, 7, 8] c101z14)))) c101z9)
noncomputable def c101z20 : ICode := .seq (.ops none [⟨(some 40), .p (.mv (.tmp 5))⟩,
    ⟨(some 4), .p (.mv (.tmp 40))⟩])
 (.ret)
noncomputable def c101z3 : ICode := .cut [5] c101z20
noncomputable def c101 : ICode := .seq (.ops none [⟨(some 4), .p (.mv (.const (.slice none 0 0)))⟩])
 (.seq (.ops none [⟨(some 9), .e (.mkSl 3 0 [(.int .i64 (0))] [])⟩,
    ⟨(some 5), .p (.mv (.tmp 9))⟩,
    ⟨(some 6), .p (.mv (.const (.int .i64 (0))))⟩])
 (.seq (.seq (.ops none [⟨(some 7), .p (.mv (.const (.int .i64 (0))))⟩])
  (.block 0 (.loop [0, 1] [5, 6, 7] c101z6))) c101z3))
theorem k101 : compFn Try.prog 101 [[], [], [], [0, 1], [5, 6, 7], [], [], [], [], [0, 1, 5, 7, 8], [], [], [0, 1, 5, 6, 7, 8], [0, 1, 5, 6, 7], [5], []] = some (41, c101, [.tmp 4]) := by kernel_rfl
def K101z0 (_P : Program) (K : Value → Heap → Prop) : Exit → (Nat → Value) → Heap → Prop := bodyP [.tmp 4] K
def K101z3 (P : Program) (K : Value → Heap → Prop) : Exit → (Nat → Value) → Heap → Prop := thenK (iwpP P c101z3 (K101z0 P K)) (K101z0 P K)
def K101z5 (P : Program) (K : Value → Heap → Prop) : Exit → (Nat → Value) → Heap → Prop := inBlockK 0 (K101z3 P K)
def K101z6 (P : Program) (K : Value → Heap → Prop) (a0 b1 : Value) (L1 : List Value → Heap → Prop) : Exit → (Nat → Value) → Heap → Prop := thenK (fun f' h'' => (([0, 1] : List Nat).map f' : List Value) = [a0, b1] ∧ L1 (([5, 6, 7] : List Nat).map f') h'') (K101z5 P K)
def K101z9 (P : Program) (K : Value → Heap → Prop) (a0 b1 : Value) (L1 : List Value → Heap → Prop) : Exit → (Nat → Value) → Heap → Prop := thenK (iwpP P c101z9 (K101z6 P K a0 b1 L1)) (K101z6 P K a0 b1 L1)
def K101z10 (P : Program) (K : Value → Heap → Prop) (a0 b1 : Value) (L1 : List Value → Heap → Prop) : Exit → (Nat → Value) → Heap → Prop := inBlockK 1 (K101z9 P K a0 b1 L1)
def p101z6 (P : Program) (K : Value → Heap → Prop) (a0 b1 : Value) (L1 : List Value → Heap → Prop) (xs : List Value) (h : Heap) : Prop := CutP (iwpP P c101z6 (K101z6 P K a0 b1 L1)) ([0, 1] ++ [5, 6, 7]) ([a0, b1] ++ xs) h
def p101z14 (P : Program) (K : Value → Heap → Prop) (a0 b1 out5 i7 s8 : Value) (L1 : List Value → Heap → Prop) (h : Heap) : Prop := CutP (iwpP P c101z14 (K101z10 P K a0 b1 L1)) [0, 1, 5, 7, 8] [a0, b1, out5, i7, s8] h
def p101z18 (P : Program) (K : Value → Heap → Prop) (a0 b1 out5 borrow6 i7 s8 : Value) (L1 : List Value → Heap → Prop) (h : Heap) : Prop := CutP (iwpP P c101z18 (K101z10 P K a0 b1 L1)) [0, 1, 5, 6, 7, 8] [a0, b1, out5, borrow6, i7, s8] h
def p101z19 (P : Program) (K : Value → Heap → Prop) (a0 b1 out5 borrow6 i7 : Value) (L1 : List Value → Heap → Prop) (h : Heap) : Prop := CutP (iwpP P c101z19 (K101z6 P K a0 b1 L1)) [0, 1, 5, 6, 7] [a0, b1, out5, borrow6, i7] h
def p101z20 (P : Program) (K : Value → Heap → Prop) (out5 : Value) (h : Heap) : Prop := CutP (iwpP P c101z20 (K101z0 P K)) [5] [out5] h
theorem q101z18 (P : Program) (K : Value → Heap → Prop) (a0 b1 out5 borrow6 i7 s8 : Value) (L1 : List Value → Heap → Prop) (h : Heap) : p101z18 P K a0 b1 out5 borrow6 i7 s8 L1 h =
  (OH (iMkSl 3 1 [(.int .i64 (0))] h [(0, 1, s8)]) fun x38 h_1 =>
  OH (iApp 3 1 8 h_1 out5 x38) fun x39 h_2 =>
  p101z19 P K a0 b1 x39 borrow6 i7 L1 h_2) := (CutP_def _ _ _ _).trans (by kernel_rfl)
theorem q101z14 (P : Program) (K : Value → Heap → Prop) (a0 b1 out5 i7 s8 : Value) (L1 : List Value → Heap → Prop) (h : Heap) : p101z14 P K a0 b1 out5 i7 s8 L1 h =
  (OP (iBin .lss s8 (.int .i64 (0))) fun x33 =>
  IfP x33
    (OP (iBin .add s8 (.int .i64 (10000))) fun x35 =>
    p101z18 P K a0 b1 out5 (.int .i64 (1)) i7 x35 L1 h)
    (p101z18 P K a0 b1 out5 (.int .i64 (0)) i7 s8 L1 h)) := (CutP_def _ _ _ _).trans (by kernel_rfl)
theorem q101z19 (P : Program) (K : Value → Heap → Prop) (a0 b1 out5 borrow6 i7 : Value) (L1 : List Value → Heap → Prop) (h : Heap) : p101z19 P K a0 b1 out5 borrow6 i7 L1 h =
  (OP (iBin .add i7 (.int .i64 (1))) fun x15 =>
  ([a0, b1] : List Value) = [a0, b1] ∧ L1 [out5, borrow6, x15] h) := (CutP_def _ _ _ _).trans (by kernel_rfl)
theorem q101z6 (P : Program) (K : Value → Heap → Prop) (a0 b1 : Value) (L1 : List Value → Heap → Prop) (out5 borrow6 i7 : Value) (h : Heap) : p101z6 P K a0 b1 L1 [out5, borrow6, i7] h =
  (OP (iLenSl a0) fun x12 =>
  OP (iBin .lss i7 x12) fun x13 =>
  IfP x13
    (OP (iAdrSl 1 a0 i7) fun x18 =>
    OP (iLoad false 1 h x18) fun x19 =>
    OP (iBin .sub x19 borrow6) fun x21 =>
    OP (iLenSl b1) fun x24 =>
    OP (iBin .lss i7 x24) fun x25 =>
    IfP x25
      (OP (iAdrSl 1 b1 i7) fun x29 =>
      OP (iLoad false 1 h x29) fun x30 =>
      OP (iBin .sub x21 x30) fun x31 =>
      p101z14 P K a0 b1 out5 i7 x31 L1 h)
      (p101z14 P K a0 b1 out5 i7 x21 L1 h))
    (p101z20 P K out5 h)) := (CutP_def _ _ _ _).trans (by kernel_rfl)
theorem q101z20 (P : Program) (K : Value → Heap → Prop) (out5 : Value) (h : Heap) : p101z20 P K out5 h =
  (K out5 h) := (CutP_def _ _ _ _).trans (by kernel_rfl)
def T101 (P : Program) (K : Value → Heap → Prop) (a0 b1 : Value) (h : Heap) : Prop :=
  OH (iMkSl 3 0 [(.int .i64 (0))] h []) fun x9 h_1 =>
  LoopP [x9, (.int .i64 (0)), (.int .i64 (0))] h_1 fun L1 xs hx =>
  p101z6 P K a0 b1 L1 xs hx
theorem e101 (P : Program) (K : Value → Heap → Prop) (a0 b1 : Value) (h : Heap) : iwpP P c101 (bodyP [.tmp 4] K) (frame0 [a0, b1]) h = T101 P K a0 b1 h := by kernel_rfl
theorem f101 {K : Value → Heap → Prop} {a0 b1 : Value} {h : Heap} (H : T101 Try.prog K a0 b1 h) : CallP Try.prog 101 [a0, b1] h K :=
  callP_intro k101 (Nat.le_of_ble_eq_true rfl) ((e101 Try.prog K a0 b1 h).mpr H)
/-! F102: pommel/pommelref01.digits -/
noncomputable def c102z15 : ICode := .ops none [⟨(some 25), .p (.pick (.tmp 16) (.const (.bool true)) (.tmp 24))⟩]
noncomputable def c102z13 : ICode := .seq (.ops (some (16, false)) [⟨(some 24), .p (.pick (.tmp 20) (.tmp 23) (.const (.bool false)))⟩])
 (.cut [0, 2, 16, 24] c102z15)
noncomputable def c102z11 : ICode := .seq (.ops (some (20, true)) [⟨(some 21), .p (.mv (.tmp 0))⟩,
    ⟨(some 22), .p (.lenS (.tmp 21))⟩,
    ⟨(some 23), .p (.bin .gtr (.tmp 22) (.const (.int .i64 (1))))⟩])
 (.cut [0, 2, 16, 20, 23] c102z13)
noncomputable def c102z9 : ICode := .seq (.ops (some (16, false)) [⟨(some 17), .p (.mv (.tmp 0))⟩,
    ⟨(some 18), .p (.idxS (.tmp 17) (.const (.int .i64 (0))))⟩,
    ⟨(some 19), .p (.bin .eql (.tmp 18) (.const (.int .u8 (48))))⟩,
    ⟨(some 20), .p (.mv (.tmp 19))⟩])
 (.cut [0, 2, 16, 20] c102z11)
noncomputable def c102z7 : ICode := .seq (.ops none [⟨(some 15), .p (.pick (.tmp 11) (.const (.bool true)) (.tmp 14))⟩,
    ⟨(some 16), .p (.mv (.tmp 15))⟩])
 (.cut [0, 2, 16] c102z9)
noncomputable def c102z5 : ICode := .seq (.ops (some (11, false)) [⟨(some 12), .p (.mv (.tmp 0))⟩,
    ⟨(some 13), .p (.lenS (.tmp 12))⟩,
    ⟨(some 14), .p (.bin .gtr (.tmp 13) (.const (.int .i64 (4000))))⟩])
 (.cut [0, 2, 11, 14] c102z7)
noncomputable def c102z3 : ICode := .cond (.tmp 25) (.seq (.ops none [⟨(some 26), .p (.build [(.bool false), (.slice none 0 0)] [])⟩,
     ⟨none, .e (.store 2 (.tmp 2) (.tmp 26))⟩,
     ⟨(some 3), .p (.mv (.const (.bool false)))⟩])
  (.ret))
 (.skip)
noncomputable def c102z40 : ICode := .ops none [⟨(some 51), .p (.pick (.tmp 46) (.const (.bool true)) (.tmp 50))⟩]
noncomputable def c102z38 : ICode := .seq (.ops (some (46, false)) [⟨(some 47), .p (.mv (.tmp 0))⟩,
    ⟨(some 48), .p (.mv (.tmp 7))⟩,
    ⟨(some 49), .p (.idxS (.tmp 47) (.tmp 48))⟩,
    ⟨(some 50), .p (.bin .gtr (.tmp 49) (.const (.int .u8 (57))))⟩])
 (.cut [0, 2, 4, 5, 6, 7, 46, 50] c102z40)
noncomputable def c102z36 : ICode := .cond (.tmp 51) (.seq (.ops none [⟨(some 52), .p (.build [(.bool false), (.slice none 0 0)] [])⟩,
     ⟨none, .e (.store 2 (.tmp 2) (.tmp 52))⟩,
     ⟨(some 3), .p (.mv (.const (.bool false)))⟩])
  (.ret))
 (.skip)
noncomputable def c102z35 : ICode := .ops none [⟨(some 53), .p (.mv (.tmp 6))⟩,
   ⟨(some 54), .p (.bin .mul (.const (.int .i64 (10))) (.tmp 53))⟩,
   ⟨(some 55), .p (.mv (.tmp 0))⟩,
   ⟨(some 56), .p (.mv (.tmp 7))⟩,
   ⟨(some 57), .p (.idxS (.tmp 55) (.tmp 56))⟩,
   ⟨(some 58), .p (.bin .sub (.tmp 57) (.const (.int .u8 (48))))⟩,
   ⟨(some 59), .p (.conv .i64 (.tmp 58))⟩,
   ⟨(some 60), .p (.bin .add (.tmp 54) (.tmp 59))⟩,
   ⟨(some 6), .p (.mv (.tmp 60))⟩]
noncomputable def c102z33 : ICode := .ops none [⟨(some 40), .p (.mv (.tmp 7))⟩,
   ⟨(some 41), .p (.bin .add (.tmp 40) (.const (.int .i64 (1))))⟩,
   ⟨(some 7), .p (.mv (.tmp 41))⟩]
noncomputable def c102z30 : ICode := .seq (.seq (.ops none [⟨(some 37), .p (.mv (.tmp 7))⟩,
     ⟨(some 38), .p (.mv (.tmp 5))⟩,
     ⟨(some 39), .p (.bin .lss (.tmp 37) (.tmp 38))⟩])
  (.cond (.tmp 39) (.skip)
  (.exit 2)))
 (.seq (.block 3 (.seq (.seq (.seq (.ops none [⟨(some 42), .p (.mv (.tmp 0))⟩,
        ⟨(some 43), .p (.mv (.tmp 7))⟩,
        ⟨(some 44), .p (.idxS (.tmp 42) (.tmp 43))⟩,
        ⟨(some 45), .p (.bin .lss (.tmp 44) (.const (.int .u8 (48))))⟩,
        ⟨(some 46), .p (.mv (.tmp 45))⟩])
     (.cut [0, 2, 4, 5, 6, 7, 46] c102z38)) c102z36) c102z35)) c102z33)
noncomputable def c102z42 : ICode := .ops none [⟨(some 61), .p (.fadr 1 (.tmp 4))⟩,
   ⟨(some 62), .l (.load false 1 (.tmp 61))⟩,
   ⟨(some 63), .p (.mv (.tmp 6))⟩,
   ⟨(some 64), .e (.mkSl 3 1 [(.int .i64 (0))] [(0, 1, (.tmp 63))])⟩,
   ⟨(some 65), .e (.app 3 1 8 (.tmp 62) (.tmp 64))⟩,
   ⟨(some 66), .p (.fadr 1 (.tmp 4))⟩,
   ⟨none, .e (.store 1 (.tmp 66) (.tmp 65))⟩]
noncomputable def c102z27 : ICode := .cut [0, 2, 4, 5, 6] c102z42
noncomputable def c102z43 : ICode := .ops none [⟨(some 32), .p (.mv (.tmp 5))⟩,
   ⟨(some 33), .p (.bin .sub (.tmp 32) (.const (.int .i64 (4))))⟩,
   ⟨(some 5), .p (.mv (.tmp 33))⟩]
noncomputable def c102z24 : ICode := .cut [0, 2, 4, 5] c102z43
noncomputable def c102z21 : ICode := .seq (.seq (.ops none [⟨(some 30), .p (.mv (.tmp 5))⟩,
     ⟨(some 31), .p (.bin .gtr (.tmp 30) (.const (.int .i64 (0))))⟩])
  (.cond (.tmp 31) (.skip)
  (.exit 0)))
 (.seq (.block 1 (.seq (.ops none [⟨(some 6), .p (.mv (.const (.int .i64 (0))))⟩])
   (.seq (.seq (.ops none [⟨(some 34), .p (.mv (.tmp 5))⟩,
       ⟨(some 35), .p (.bin .sub (.tmp 34) (.const (.int .i64 (4))))⟩,
       ⟨(some 36), .p (.minmax true [(.const (.int .i64 (0))), (.tmp 35)])⟩,
       ⟨(some 7), .p (.mv (.tmp 36))⟩])
    (.block 2 (.loop [0, 2, 4, 5] [6, 7] c102z30))) c102z27))) c102z24)
noncomputable def c102z44 : ICode := .seq (.ops none [⟨(some 67), .l (.load true 2 (.tmp 4))⟩,
    ⟨(some 68), .call 98 [(.tmp 67)]⟩,
    ⟨none, .e (.store 2 (.tmp 2) (.tmp 68))⟩,
    ⟨(some 3), .p (.mv (.const (.bool true)))⟩])
 (.ret)
noncomputable def c102z18 : ICode := .cut [2, 4] c102z44
noncomputable def c102z2 : ICode := .seq (.ops none [⟨(some 27), .p (.build [(.bool false), (.slice none 0 0)] [])⟩,
    ⟨(some 4), .e (.alloc 46 [(.bool false), (.slice none 0 0)])⟩,
    ⟨none, .e (.store 2 (.tmp 4) (.tmp 27))⟩])
 (.seq (.seq (.ops none [⟨(some 28), .p (.mv (.tmp 0))⟩,
     ⟨(some 29), .p (.lenS (.tmp 28))⟩,
     ⟨(some 5), .p (.mv (.tmp 29))⟩])
  (.block 0 (.loop [0, 2, 4] [5] c102z21))) c102z18)
noncomputable def c102 : ICode := .seq (.ops none [⟨(some 2), .e (.alloc 46 [(.bool false), (.slice none 0 0)])⟩,
    ⟨(some 3), .p (.mv (.const (.bool false)))⟩])
 (.seq (.seq (.seq (.ops none [⟨(some 8), .p (.mv (.tmp 0))⟩,
      ⟨(some 9), .p (.lenS (.tmp 8))⟩,
      ⟨(some 10), .p (.bin .lss (.tmp 9) (.const (.int .i64 (1))))⟩,
      ⟨(some 11), .p (.mv (.tmp 10))⟩])
   (.cut [0, 2, 11] c102z5)) c102z3) c102z2)
theorem k102 : compFn Try.prog 102 [[], [0, 2, 11], [0, 2, 11, 14], [0, 2, 16], [0, 2, 16, 20], [0, 2, 16, 20, 23], [0, 2, 16, 24], [], [], [], [], [], [0, 2, 4], [5], [], [], [], [], [0, 2, 4, 5], [6, 7], [], [], [0, 2, 4, 5, 6, 7, 46], [0, 2, 4, 5, 6, 7, 46, 50], [], [], [], [], [0, 2, 4, 5, 6], [0, 2, 4, 5], [2, 4], []] = some (69, c102, [.cell true 2 2, .tmp 3]) := by kernel_rfl
def K102z0 (_P : Program) (K : Value → Heap → Prop) : Exit → (Nat → Value) → Heap → Prop := bodyP [.cell true 2 2, .tmp 3] K
def K102z2 (P : Program) (K : Value → Heap → Prop) : Exit → (Nat → Value) → Heap → Prop := thenK (iwpP P c102z2 (K102z0 P K)) (K102z0 P K)
def K102z3 (P : Program) (K : Value → Heap → Prop) : Exit → (Nat → Value) → Heap → Prop := thenK (iwpP P c102z3 (K102z2 P K)) (K102z2 P K)
def K102z18 (P : Program) (K : Value → Heap → Prop) : Exit → (Nat → Value) → Heap → Prop := thenK (iwpP P c102z18 (K102z0 P K)) (K102z0 P K)
def K102z20 (P : Program) (K : Value → Heap → Prop) : Exit → (Nat → Value) → Heap → Prop := inBlockK 0 (K102z18 P K)
def K102z21 (P : Program) (K : Value → Heap → Prop) (s0 x2 z4 : Value) (L1 : List Value → Heap → Prop) : Exit → (Nat → Value) → Heap → Prop := thenK (fun f' h'' => (([0, 2, 4] : List Nat).map f' : List Value) = [s0, x2, z4] ∧ L1 (([5] : List Nat).map f') h'') (K102z20 P K)
def K102z24 (P : Program) (K : Value → Heap → Prop) (s0 x2 z4 : Value) (L1 : List Value → Heap → Prop) : Exit → (Nat → Value) → Heap → Prop := thenK (iwpP P c102z24 (K102z21 P K s0 x2 z4 L1)) (K102z21 P K s0 x2 z4 L1)
def K102z25 (P : Program) (K : Value → Heap → Prop) (s0 x2 z4 : Value) (L1 : List Value → Heap → Prop) : Exit → (Nat → Value) → Heap → Prop := inBlockK 1 (K102z24 P K s0 x2 z4 L1)
def K102z27 (P : Program) (K : Value → Heap → Prop) (s0 x2 z4 : Value) (L1 : List Value → Heap → Prop) : Exit → (Nat → Value) → Heap → Prop := thenK (iwpP P c102z27 (K102z25 P K s0 x2 z4 L1)) (K102z25 P K s0 x2 z4 L1)
def K102z29 (P : Program) (K : Value → Heap → Prop) (s0 x2 z4 : Value) (L1 : List Value → Heap → Prop) : Exit → (Nat → Value) → Heap → Prop := inBlockK 2 (K102z27 P K s0 x2 z4 L1)
def K102z30 (P : Program) (K : Value → Heap → Prop) (s0 x2 z4 at5 : Value) (L1 L2 : List Value → Heap → Prop) : Exit → (Nat → Value) → Heap → Prop := thenK (fun f' h'' => (([0, 2, 4, 5] : List Nat).map f' : List Value) = [s0, x2, z4, at5] ∧ L2 (([6, 7] : List Nat).map f') h'') (K102z29 P K s0 x2 z4 L1)
def K102z33 (P : Program) (K : Value → Heap → Prop) (s0 x2 z4 at5 : Value) (L1 L2 : List Value → Heap → Prop) : Exit → (Nat → Value) → Heap → Prop := thenK (iwpP P c102z33 (K102z30 P K s0 x2 z4 at5 L1 L2)) (K102z30 P K s0 x2 z4 at5 L1 L2)
def K102z34 (P : Program) (K : Value → Heap → Prop) (s0 x2 z4 at5 : Value) (L1 L2 : List Value → Heap → Prop) : Exit → (Nat → Value) → Heap → Prop := inBlockK 3 (K102z33 P K s0 x2 z4 at5 L1 L2)
def K102z35 (P : Program) (K : Value → Heap → Prop) (s0 x2 z4 at5 : Value) (L1 L2 : List Value → Heap → Prop) : Exit → (Nat → Value) → Heap → Prop := thenK (iwpP P c102z35 (K102z34 P K s0 x2 z4 at5 L1 L2)) (K102z34 P K s0 x2 z4 at5 L1 L2)
def K102z36 (P : Program) (K : Value → Heap → Prop) (s0 x2 z4 at5 : Value) (L1 L2 : List Value → Heap → Prop) : Exit → (Nat → Value) → Heap → Prop := thenK (iwpP P c102z36 (K102z35 P K s0 x2 z4 at5 L1 L2)) (K102z35 P K s0 x2 z4 at5 L1 L2)
def p102z5 (P : Program) (K : Value → Heap → Prop) (s0 x2 x11 : Value) (h : Heap) : Prop := CutP (iwpP P c102z5 (K102z3 P K)) [0, 2, 11] [s0, x2, x11] h
def p102z7 (P : Program) (K : Value → Heap → Prop) (s0 x2 x11 x14 : Value) (h : Heap) : Prop := CutP (iwpP P c102z7 (K102z3 P K)) [0, 2, 11, 14] [s0, x2, x11, x14] h
def p102z9 (P : Program) (K : Value → Heap → Prop) (s0 x2 x16 : Value) (h : Heap) : Prop := CutP (iwpP P c102z9 (K102z3 P K)) [0, 2, 16] [s0, x2, x16] h
def p102z11 (P : Program) (K : Value → Heap → Prop) (s0 x2 x16 x20 : Value) (h : Heap) : Prop := CutP (iwpP P c102z11 (K102z3 P K)) [0, 2, 16, 20] [s0, x2, x16, x20] h
def p102z13 (P : Program) (K : Value → Heap → Prop) (s0 x2 x16 x20 x23 : Value) (h : Heap) : Prop := CutP (iwpP P c102z13 (K102z3 P K)) [0, 2, 16, 20, 23] [s0, x2, x16, x20, x23] h
def p102z15 (P : Program) (K : Value → Heap → Prop) (s0 x2 x16 x24 : Value) (h : Heap) : Prop := CutP (iwpP P c102z15 (K102z3 P K)) [0, 2, 16, 24] [s0, x2, x16, x24] h
def p102z21 (P : Program) (K : Value → Heap → Prop) (s0 x2 z4 : Value) (L1 : List Value → Heap → Prop) (xs : List Value) (h : Heap) : Prop := CutP (iwpP P c102z21 (K102z21 P K s0 x2 z4 L1)) ([0, 2, 4] ++ [5]) ([s0, x2, z4] ++ xs) h
def p102z30 (P : Program) (K : Value → Heap → Prop) (s0 x2 z4 at5 : Value) (L1 L2 : List Value → Heap → Prop) (xs : List Value) (h : Heap) : Prop := CutP (iwpP P c102z30 (K102z30 P K s0 x2 z4 at5 L1 L2)) ([0, 2, 4, 5] ++ [6, 7]) ([s0, x2, z4, at5] ++ xs) h
def p102z38 (P : Program) (K : Value → Heap → Prop) (s0 x2 z4 at5 d6 i7 x46 : Value) (L1 L2 : List Value → Heap → Prop) (h : Heap) : Prop := CutP (iwpP P c102z38 (K102z36 P K s0 x2 z4 at5 L1 L2)) [0, 2, 4, 5, 6, 7, 46] [s0, x2, z4, at5, d6, i7, x46] h
def p102z40 (P : Program) (K : Value → Heap → Prop) (s0 x2 z4 at5 d6 i7 x46 x50 : Value) (L1 L2 : List Value → Heap → Prop) (h : Heap) : Prop := CutP (iwpP P c102z40 (K102z36 P K s0 x2 z4 at5 L1 L2)) [0, 2, 4, 5, 6, 7, 46, 50] [s0, x2, z4, at5, d6, i7, x46, x50] h
def p102z42 (P : Program) (K : Value → Heap → Prop) (s0 x2 z4 at5 d6 : Value) (L1 : List Value → Heap → Prop) (h : Heap) : Prop := CutP (iwpP P c102z42 (K102z25 P K s0 x2 z4 L1)) [0, 2, 4, 5, 6] [s0, x2, z4, at5, d6] h
def p102z43 (P : Program) (K : Value → Heap → Prop) (s0 x2 z4 at5 : Value) (L1 : List Value → Heap → Prop) (h : Heap) : Prop := CutP (iwpP P c102z43 (K102z21 P K s0 x2 z4 L1)) [0, 2, 4, 5] [s0, x2, z4, at5] h
def p102z44 (P : Program) (K : Value → Heap → Prop) (x2 z4 : Value) (h : Heap) : Prop := CutP (iwpP P c102z44 (K102z0 P K)) [2, 4] [x2, z4] h
theorem q102z15 (P : Program) (K : Value → Heap → Prop) (s0 x2 x16 x24 : Value) (h : Heap) : p102z15 P K s0 x2 x16 x24 h =
  (OP (iPick x16 (.bool true) x24) fun x25 =>
  IfP x25
    (OP (iBuild [(.bool false), (.slice none 0 0)] []) fun x26 =>
    OH (oStore 2 h x2 x26) fun _ h_1 =>
    OP (iLoad true 2 h_1 x2) fun r0 =>
    K (.tuple #[r0, (.bool false)]) h_1)
    (OP (iBuild [(.bool false), (.slice none 0 0)] []) fun x27 =>
    OH (iAlloc 46 [(.bool false), (.slice none 0 0)] h) fun z4 h_1 =>
    OH (oStore 2 h_1 z4 x27) fun _ h_2 =>
    OP (iLenS s0) fun x29 =>
    LoopP [x29] h_2 fun L1 xs hx =>
    p102z21 P K s0 x2 z4 L1 xs hx)) := (CutP_def _ _ _ _).trans (by kernel_rfl)
theorem q102z13 (P : Program) (K : Value → Heap → Prop) (s0 x2 x16 x20 x23 : Value) (h : Heap) : p102z13 P K s0 x2 x16 x20 x23 h =
  (GdP x16 false
    (OP (iPick x20 x23 (.bool false)) fun x24 =>
    p102z15 P K s0 x2 x16 x24 h)
    (p102z15 P K s0 x2 x16 undef h)) := (CutP_def _ _ _ _).trans (by kernel_rfl)
theorem q102z11 (P : Program) (K : Value → Heap → Prop) (s0 x2 x16 x20 : Value) (h : Heap) : p102z11 P K s0 x2 x16 x20 h =
  (GdP x20 true
    (OP (iLenS s0) fun x22 =>
    OP (iBin .gtr x22 (.int .i64 (1))) fun x23 =>
    p102z13 P K s0 x2 x16 x20 x23 h)
    (p102z13 P K s0 x2 x16 x20 undef h)) := (CutP_def _ _ _ _).trans (by kernel_rfl)
theorem q102z9 (P : Program) (K : Value → Heap → Prop) (s0 x2 x16 : Value) (h : Heap) : p102z9 P K s0 x2 x16 h =
  (GdP x16 false
    (OP (iIdxS s0 (.int .i64 (0))) fun x18 =>
    OP (iBin .eql x18 (.int .u8 (48))) fun x19 =>
    p102z11 P K s0 x2 x16 x19 h)
    (p102z11 P K s0 x2 x16 undef h)) := (CutP_def _ _ _ _).trans (by kernel_rfl)
theorem q102z7 (P : Program) (K : Value → Heap → Prop) (s0 x2 x11 x14 : Value) (h : Heap) : p102z7 P K s0 x2 x11 x14 h =
  (OP (iPick x11 (.bool true) x14) fun x15 =>
  p102z9 P K s0 x2 x15 h) := (CutP_def _ _ _ _).trans (by kernel_rfl)
theorem q102z5 (P : Program) (K : Value → Heap → Prop) (s0 x2 x11 : Value) (h : Heap) : p102z5 P K s0 x2 x11 h =
  (GdP x11 false
    (OP (iLenS s0) fun x13 =>
    OP (iBin .gtr x13 (.int .i64 (4000))) fun x14 =>
    p102z7 P K s0 x2 x11 x14 h)
    (p102z7 P K s0 x2 x11 undef h)) := (CutP_def _ _ _ _).trans (by kernel_rfl)
theorem q102z40 (P : Program) (K : Value → Heap → Prop) (s0 x2 z4 at5 d6 i7 x46 x50 : Value) (L1 L2 : List Value → Heap → Prop) (h : Heap) : p102z40 P K s0 x2 z4 at5 d6 i7 x46 x50 L1 L2 h =
  (OP (iPick x46 (.bool true) x50) fun x51 =>
  IfP x51
    (OP (iBuild [(.bool false), (.slice none 0 0)] []) fun x52 =>
    OH (oStore 2 h x2 x52) fun _ h_1 =>
    OP (iLoad true 2 h_1 x2) fun r0 =>
    K (.tuple #[r0, (.bool false)]) h_1)
    (OP (iBin .mul (.int .i64 (10)) d6) fun x54 =>
    OP (iIdxS s0 i7) fun x57 =>
    OP (iBin .sub x57 (.int .u8 (48))) fun x58 =>
    OP (iConv .i64 x58) fun x59 =>
    OP (iBin .add x54 x59) fun x60 =>
    OP (iBin .add i7 (.int .i64 (1))) fun x41 =>
    ([s0, x2, z4, at5] : List Value) = [s0, x2, z4, at5] ∧ L2 [x60, x41] h)) := (CutP_def _ _ _ _).trans (by kernel_rfl)
theorem q102z38 (P : Program) (K : Value → Heap → Prop) (s0 x2 z4 at5 d6 i7 x46 : Value) (L1 L2 : List Value → Heap → Prop) (h : Heap) : p102z38 P K s0 x2 z4 at5 d6 i7 x46 L1 L2 h =
  (GdP x46 false
    (OP (iIdxS s0 i7) fun x49 =>
    OP (iBin .gtr x49 (.int .u8 (57))) fun x50 =>
    p102z40 P K s0 x2 z4 at5 d6 i7 x46 x50 L1 L2 h)
    (p102z40 P K s0 x2 z4 at5 d6 i7 x46 undef L1 L2 h)) := (CutP_def _ _ _ _).trans (by kernel_rfl)
theorem q102z30 (P : Program) (K : Value → Heap → Prop) (s0 x2 z4 at5 : Value) (L1 L2 : List Value → Heap → Prop) (d6 i7 : Value) (h : Heap) : p102z30 P K s0 x2 z4 at5 L1 L2 [d6, i7] h =
  (OP (iBin .lss i7 at5) fun x39 =>
  IfP x39
    (OP (iIdxS s0 i7) fun x44 =>
    OP (iBin .lss x44 (.int .u8 (48))) fun x45 =>
    p102z38 P K s0 x2 z4 at5 d6 i7 x45 L1 L2 h)
    (p102z42 P K s0 x2 z4 at5 d6 L1 h)) := (CutP_def _ _ _ _).trans (by kernel_rfl)
theorem q102z42 (P : Program) (K : Value → Heap → Prop) (s0 x2 z4 at5 d6 : Value) (L1 : List Value → Heap → Prop) (h : Heap) : p102z42 P K s0 x2 z4 at5 d6 L1 h =
  (OP (iFadr 1 z4) fun x61 =>
  OP (iLoad false 1 h x61) fun x62 =>
  OH (iMkSl 3 1 [(.int .i64 (0))] h [(0, 1, d6)]) fun x64 h_1 =>
  OH (iApp 3 1 8 h_1 x62 x64) fun x65 h_2 =>
  OP (iFadr 1 z4) fun x66 =>
  OH (oStore 1 h_2 x66 x65) fun _ h_3 =>
  p102z43 P K s0 x2 z4 at5 L1 h_3) := (CutP_def _ _ _ _).trans (by kernel_rfl)
theorem q102z43 (P : Program) (K : Value → Heap → Prop) (s0 x2 z4 at5 : Value) (L1 : List Value → Heap → Prop) (h : Heap) : p102z43 P K s0 x2 z4 at5 L1 h =
  (OP (iBin .sub at5 (.int .i64 (4))) fun x33 =>
  ([s0, x2, z4] : List Value) = [s0, x2, z4] ∧ L1 [x33] h) := (CutP_def _ _ _ _).trans (by kernel_rfl)
theorem q102z21 (P : Program) (K : Value → Heap → Prop) (s0 x2 z4 : Value) (L1 : List Value → Heap → Prop) (at5 : Value) (h : Heap) : p102z21 P K s0 x2 z4 L1 [at5] h =
  (OP (iBin .gtr at5 (.int .i64 (0))) fun x31 =>
  IfP x31
    (OP (iBin .sub at5 (.int .i64 (4))) fun x35 =>
    OP (iMinmax true [(.int .i64 (0)), x35]) fun x36 =>
    LoopP [(.int .i64 (0)), x36] h fun L2 xs hx =>
    p102z30 P K s0 x2 z4 at5 L1 L2 xs hx)
    (p102z44 P K x2 z4 h)) := (CutP_def _ _ _ _).trans (by kernel_rfl)
theorem q102z44 (P : Program) (K : Value → Heap → Prop) (x2 z4 : Value) (h : Heap) : p102z44 P K x2 z4 h =
  (OP (iLoad true 2 h z4) fun x67 =>
  CallP P 98 [x67] h fun x68 h_1 =>
  OH (oStore 2 h_1 x2 x68) fun _ h_2 =>
  OP (iLoad true 2 h_2 x2) fun r0 =>
  K (.tuple #[r0, (.bool true)]) h_2) := (CutP_def _ _ _ _).trans (by kernel_rfl)
def T102 (P : Program) (K : Value → Heap → Prop) (s0 : Value) (h : Heap) : Prop :=
  OH (iAlloc 46 [(.bool false), (.slice none 0 0)] h) fun x2 h_1 =>
  OP (iLenS s0) fun x9 =>
  OP (iBin .lss x9 (.int .i64 (1))) fun x10 =>
  p102z5 P K s0 x2 x10 h_1
theorem e102 (P : Program) (K : Value → Heap → Prop) (s0 : Value) (h : Heap) : iwpP P c102 (bodyP [.cell true 2 2, .tmp 3] K) (frame0 [s0]) h = T102 P K s0 h := by kernel_rfl
theorem f102 {K : Value → Heap → Prop} {s0 : Value} {h : Heap} (H : T102 Try.prog K s0 h) : CallP Try.prog 102 [s0] h K :=
  callP_intro k102 (Nat.le_of_ble_eq_true rfl) ((e102 Try.prog K s0 h).mpr H)
/-! F104: pommel/pommelref01.Neg -/
noncomputable def c104z6 : ICode := .ops none [⟨(some 11), .p (.pick (.tmp 6) (.tmp 10) (.const (.bool false)))⟩,
   ⟨(some 12), .p (.fadr 0 (.tmp 1))⟩,
   ⟨none, .e (.store 1 (.tmp 12) (.tmp 11))⟩]
noncomputable def c104z4 : ICode := .seq (.ops (some (6, true)) [⟨(some 7), .p (.fadr 1 (.tmp 1))⟩,
    ⟨(some 8), .l (.load false 1 (.tmp 7))⟩,
    ⟨(some 9), .p (.lenSl (.tmp 8))⟩,
    ⟨(some 10), .p (.bin .gtr (.tmp 9) (.const (.int .i64 (0))))⟩])
 (.cut [1, 2, 6, 10] c104z6)
noncomputable def c104z2 : ICode := .seq (.ops none [⟨(some 13), .l (.load true 2 (.tmp 1))⟩,
    ⟨none, .e (.store 2 (.tmp 2) (.tmp 13))⟩])
 (.ret)
noncomputable def c104 : ICode := .seq (.ops none [⟨(some 1), .e (.box 46 (.tmp 0))⟩,
    ⟨(some 2), .e (.alloc 46 [(.bool false), (.slice none 0 0)])⟩])
 (.seq (.seq (.ops none [⟨(some 3), .p (.fadr 0 (.tmp 1))⟩,
     ⟨(some 4), .l (.load false 1 (.tmp 3))⟩,
     ⟨(some 5), .p (.un .not (.tmp 4))⟩,
     ⟨(some 6), .p (.mv (.tmp 5))⟩])
  (.cut [1, 2, 6] c104z4)) c104z2)
theorem k104 : compFn Try.prog 104 [[], [1, 2, 6], [1, 2, 6, 10], [], []] = some (14, c104, [.cell true 2 2]) := by kernel_rfl
def K104z0 (_P : Program) (K : Value → Heap → Prop) : Exit → (Nat → Value) → Heap → Prop := bodyP [.cell true 2 2] K
def K104z2 (P : Program) (K : Value → Heap → Prop) : Exit → (Nat → Value) → Heap → Prop := thenK (iwpP P c104z2 (K104z0 P K)) (K104z0 P K)
def p104z4 (P : Program) (K : Value → Heap → Prop) (a1 x2 x6 : Value) (h : Heap) : Prop := CutP (iwpP P c104z4 (K104z2 P K)) [1, 2, 6] [a1, x2, x6] h
def p104z6 (P : Program) (K : Value → Heap → Prop) (a1 x2 x6 x10 : Value) (h : Heap) : Prop := CutP (iwpP P c104z6 (K104z2 P K)) [1, 2, 6, 10] [a1, x2, x6, x10] h
theorem q104z6 (P : Program) (K : Value → Heap → Prop) (a1 x2 x6 x10 : Value) (h : Heap) : p104z6 P K a1 x2 x6 x10 h =
  (OP (iPick x6 x10 (.bool false)) fun x11 =>
  OP (iFadr 0 a1) fun x12 =>
  OH (oStore 1 h x12 x11) fun _ h_1 =>
  OP (iLoad true 2 h_1 a1) fun x13 =>
  OH (oStore 2 h_1 x2 x13) fun _ h_2 =>
  OP (iLoad true 2 h_2 x2) fun r0 =>
  K r0 h_2) := (CutP_def _ _ _ _).trans (by kernel_rfl)
theorem q104z4 (P : Program) (K : Value → Heap → Prop) (a1 x2 x6 : Value) (h : Heap) : p104z4 P K a1 x2 x6 h =
  (GdP x6 true
    (OP (iFadr 1 a1) fun x7 =>
    OP (iLoad false 1 h x7) fun x8 =>
    OP (iLenSl x8) fun x9 =>
    OP (iBin .gtr x9 (.int .i64 (0))) fun x10 =>
    p104z6 P K a1 x2 x6 x10 h)
    (p104z6 P K a1 x2 x6 undef h)) := (CutP_def _ _ _ _).trans (by kernel_rfl)
def T104 (P : Program) (K : Value → Heap → Prop) (a0 : Value) (h : Heap) : Prop :=
  OH (iBox 46 h a0) fun a1 h_1 =>
  OH (iAlloc 46 [(.bool false), (.slice none 0 0)] h_1) fun x2 h_2 =>
  OP (iFadr 0 a1) fun x3 =>
  OP (iLoad false 1 h_2 x3) fun x4 =>
  OP (iUn .not x4) fun x5 =>
  p104z4 P K a1 x2 x5 h_2
theorem e104 (P : Program) (K : Value → Heap → Prop) (a0 : Value) (h : Heap) : iwpP P c104 (bodyP [.cell true 2 2] K) (frame0 [a0]) h = T104 P K a0 h := by kernel_rfl
theorem f104 {K : Value → Heap → Prop} {a0 : Value} {h : Heap} (H : T104 Try.prog K a0 h) : CallP Try.prog 104 [a0] h K :=
  callP_intro k104 (Nat.le_of_ble_eq_true rfl) ((e104 Try.prog K a0 h).mpr H)
/-! F105: pommel/pommelref01.Sub -/
noncomputable def c105 : ICode := .seq (.ops none [⟨(some 2), .e (.box 46 (.tmp 0))⟩,
    ⟨(some 3), .e (.box 46 (.tmp 1))⟩,
    ⟨(some 4), .e (.alloc 46 [(.bool false), (.slice none 0 0)])⟩])
 (.seq (.dops [(none, [⟨(some 5), .l (.load true 2 (.tmp 2)), 0⟩,
    ⟨(some 6), .l (.load true 2 (.tmp 3)), 0⟩,
    ⟨(some 7), .call 104 [(.tmp 6)], 2⟩,
    ⟨(some 8), .call 74 [(.tmp 5), (.tmp 7)], 7⟩,
    ⟨none, .e (.store 2 (.tmp 4) (.tmp 8)), 15⟩])])
 (.ret))
theorem k105 : compFn Try.prog 105 [[], []] = some (9, c105, [.cell true 2 4]) := by kernel_rfl
def K105z0 (_P : Program) (K : Value → Heap → Prop) : Exit → (Nat → Value) → Heap → Prop := bodyP [.cell true 2 4] K
def T105 (P : Program) (K : Value → Heap → Prop) (a0 b1 : Value) (h : Heap) : Prop :=
  OH (iBox 46 h a0) fun a2 h_1 =>
  OH (iBox 46 h_1 b1) fun b3 h_2 =>
  OH (iAlloc 46 [(.bool false), (.slice none 0 0)] h_2) fun x4 h_3 =>
  OP (iLoad true 2 h_3 a2) fun x5 =>
  (True) ∧
  OP (iLoad true 2 h_3 b3) fun x6 =>
  (True) ∧
  CallP P 104 [x6] h_3 fun x7 h_4 =>
  (iLoad true 2 h_4 a2 = some x5 ∧ True) ∧
  CallP P 74 [x5, x7] h_4 fun x8 h_5 =>
  (True) ∧
  OH (oStore 2 h_5 x4 x8) fun _ h_6 =>
  (True) ∧
  OP (iLoad true 2 h_6 x4) fun r0 =>
  K r0 h_6
theorem e105 (P : Program) (K : Value → Heap → Prop) (a0 b1 : Value) (h : Heap) : iwpP P c105 (bodyP [.cell true 2 4] K) (frame0 [a0, b1]) h = T105 P K a0 b1 h := by kernel_rfl
theorem f105 {K : Value → Heap → Prop} {a0 b1 : Value} {h : Heap} (H : T105 Try.prog K a0 b1 h) : CallP Try.prog 105 [a0, b1] h K :=
  callP_intro k105 (Nat.le_of_ble_eq_true rfl) ((e105 Try.prog K a0 b1 h).mpr H)
end Go.Proofs.Ytjdlcokhlphmhaa
