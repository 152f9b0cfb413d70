/-
  Ideal code of the functions that the proof reaches, written by program; the kernel holds it against the code.
-/
import Derived.Test.YtjdlcokhlphmhaaProg
import Derived.Test.YtjdlcokhlphmhaaSim20
import Derived.KernelRfl
namespace Go.Proofs.Ytjdlcokhlphmhaa
open Go.Sim
/-! F22: pommel/stitch.Count -/
noncomputable def c22z12 : ICode := .ops none [⟨(some 30), .p (.pick (.tmp 27) (.const (.bool true)) (.tmp 29))⟩]
noncomputable def c22z10 : ICode := .seq (.ops (some (27, false)) [⟨(some 28), .p (.mv (.tmp 2))⟩,
    ⟨(some 29), .p (.bin .gtr (.tmp 28) (.const (.int .i64 (60))))⟩])
 (.cut [2, 8, 27, 29] c22z12)
noncomputable def c22z8 : ICode := .seq (.ops none [⟨(some 26), .p (.pick (.tmp 23) (.const (.bool true)) (.tmp 25))⟩,
    ⟨(some 27), .p (.mv (.tmp 26))⟩])
 (.cut [2, 8, 27] c22z10)
noncomputable def c22z6 : ICode := .seq (.ops (some (23, false)) [⟨(some 24), .p (.mv (.tmp 2))⟩,
    ⟨(some 25), .p (.bin .lss (.tmp 24) (.const (.int .i64 (0))))⟩])
 (.cut [2, 8, 23, 25] c22z8)
noncomputable def c22z4 : ICode := .cond (.tmp 30) (.seq (.ops none [⟨(some 6), .p (.mv (.const (.string ⟨#[]⟩)))⟩,
     ⟨(some 7), .p (.mv (.const (.int .i64 (1))))⟩])
  (.ret))
 (.skip)
noncomputable def c22z38 : ICode := .ops none [⟨(some 65), .p (.pick (.tmp 61) (.const (.bool true)) (.tmp 64))⟩,
   ⟨(some 58), .p (.mv (.tmp 65))⟩]
noncomputable def c22z36 : ICode := .seq (.ops (some (61, false)) [⟨(some 62), .p (.mv (.tmp 13))⟩,
    ⟨(some 63), .p (.mv (.tmp 11))⟩,
    ⟨(some 64), .p (.bin .gtr (.tmp 62) (.tmp 63))⟩])
 (.cut [2, 8, 10, 11, 12, 13, 14, 40, 41, 42, 61, 64] c22z38)
noncomputable def c22z34 : ICode := .cond (.tmp 58) (.skip)
 (.seq (.ops none [⟨(some 67), .p (.mv (.tmp 13))⟩,
     ⟨(some 68), .p (.bin .rem (.tmp 67) (.const (.int .i64 (2))))⟩,
     ⟨(some 69), .p (.bin .eql (.tmp 68) (.const (.int .i64 (1))))⟩,
     ⟨(some 66), .p (.mv (.tmp 69))⟩])
  (.cond (.tmp 66) (.dops [(none, [⟨(some 70), .l (.load true 2 (.tmp 12)), 0⟩,
     ⟨(some 71), .p (.mv (.tmp 10)), 0⟩,
     ⟨(some 72), .p (.mv (.tmp 11)), 0⟩,
     ⟨(some 73), .p (.mv (.tmp 13)), 0⟩,
     ⟨(some 74), .p (.bin .sub (.tmp 72) (.tmp 73)), 12⟩,
     ⟨(some 75), .p (.adrSl 2 (.tmp 71) (.tmp 74)), 30⟩,
     ⟨(some 76), .l (.load true 2 (.tmp 75)), 62⟩,
     ⟨(some 77), .p (.mv (.tmp 14)), 0⟩,
     ⟨(some 78), .call 62 [(.tmp 77)], 128⟩,
     ⟨(some 79), .call 65 [(.tmp 76), (.tmp 78)], 510⟩,
     ⟨(some 80), .call 64 [(.tmp 70), (.tmp 79)], 1023⟩,
     ⟨none, .e (.store 2 (.tmp 12) (.tmp 80)), 2047⟩])])
  (.dops [(none, [⟨(some 47), .l (.load true 2 (.tmp 12)), 0⟩,
     ⟨(some 48), .p (.mv (.tmp 10)), 0⟩,
     ⟨(some 49), .p (.mv (.tmp 11)), 0⟩,
     ⟨(some 50), .p (.mv (.tmp 13)), 0⟩,
     ⟨(some 51), .p (.bin .sub (.tmp 49) (.tmp 50)), 12⟩,
     ⟨(some 52), .p (.adrSl 2 (.tmp 48) (.tmp 51)), 30⟩,
     ⟨(some 53), .l (.load true 2 (.tmp 52)), 62⟩,
     ⟨(some 54), .p (.mv (.tmp 14)), 0⟩,
     ⟨(some 55), .call 62 [(.tmp 54)], 128⟩,
     ⟨(some 56), .call 65 [(.tmp 53), (.tmp 55)], 510⟩,
     ⟨(some 57), .call 66 [(.tmp 47), (.tmp 56)], 1023⟩,
     ⟨none, .e (.store 2 (.tmp 12) (.tmp 57)), 2047⟩])])))
noncomputable def c22z40 : ICode := .ops none [⟨(some 81), .p (.bin .add (.tmp 42) (.const (.int .i64 (1))))⟩,
   ⟨(some 42), .p (.mv (.tmp 81))⟩]
noncomputable def c22z30 : ICode := .cut [2, 8, 10, 11, 12, 40, 41, 42] c22z40
noncomputable def c22z27 : ICode := .seq (.ops none [⟨(some 43), .p (.bin .lss (.tmp 42) (.tmp 41))⟩])
 (.seq (.cond (.tmp 43) (.skip)
  (.exit 2))
 (.seq (.block 3 (.seq (.ops none [⟨(some 44), .p (.mv (.tmp 42))⟩,
      ⟨(some 45), .p (.adrSl 1 (.tmp 40) (.tmp 42))⟩,
      ⟨(some 46), .l (.load false 1 (.tmp 45))⟩,
      ⟨(some 13), .p (.mv (.tmp 44))⟩,
      ⟨(some 14), .p (.mv (.tmp 46))⟩])
   (.block 4 (.seq (.seq (.ops none [⟨(some 59), .p (.mv (.tmp 13))⟩,
        ⟨(some 60), .p (.bin .eql (.tmp 59) (.const (.int .i64 (0))))⟩,
        ⟨(some 61), .p (.mv (.tmp 60))⟩])
     (.cut [2, 8, 10, 11, 12, 13, 14, 40, 41, 42, 61] c22z36)) c22z34)))) c22z30))
noncomputable def c22z41 : ICode := .ops none [⟨(some 82), .p (.mv (.tmp 10))⟩,
   ⟨(some 83), .l (.load true 2 (.tmp 12))⟩,
   ⟨(some 84), .e (.mkSl 104 1 [(.bool false), (.slice none 0 0)] [(0, 2, (.tmp 83))])⟩,
   ⟨(some 85), .e (.app 104 2 32 (.tmp 82) (.tmp 84))⟩,
   ⟨(some 10), .p (.mv (.tmp 85))⟩]
noncomputable def c22z24 : ICode := .cut [2, 8, 10, 11, 12] c22z41
noncomputable def c22z42 : ICode := .ops none [⟨(some 36), .p (.mv (.tmp 11))⟩,
   ⟨(some 37), .p (.bin .add (.tmp 36) (.const (.int .i64 (1))))⟩,
   ⟨(some 11), .p (.mv (.tmp 37))⟩]
noncomputable def c22z21 : ICode := .cut [2, 8, 10, 11] c22z42
noncomputable def c22z18 : ICode := .seq (.seq (.ops none [⟨(some 33), .p (.mv (.tmp 11))⟩,
     ⟨(some 34), .p (.mv (.tmp 2))⟩,
     ⟨(some 35), .p (.bin .leq (.tmp 33) (.tmp 34))⟩])
  (.cond (.tmp 35) (.skip)
  (.exit 0)))
 (.seq (.block 1 (.seq (.ops none [⟨(some 38), .call 62 [(.const (.int .i64 (0)))]⟩,
      ⟨(some 12), .e (.alloc 104 [(.bool false), (.slice none 0 0)])⟩,
      ⟨none, .e (.store 2 (.tmp 12) (.tmp 38))⟩])
   (.seq (.seq (.ops none [⟨(some 39), .p (.mv (.tmp 8))⟩,
       ⟨(some 40), .call 63 [(.tmp 39)]⟩,
       ⟨(some 41), .p (.lenSl (.tmp 40))⟩,
       ⟨(some 42), .p (.mv (.const (.int .i64 (0))))⟩])
    (.block 2 (.loop [2, 8, 10, 11, 12, 40, 41] [42] c22z27))) c22z24))) c22z21)
noncomputable def c22z43 : ICode := .seq (.ops none [⟨(some 86), .p (.mv (.tmp 10))⟩,
    ⟨(some 87), .p (.mv (.tmp 2))⟩,
    ⟨(some 88), .p (.adrSl 2 (.tmp 86) (.tmp 87))⟩,
    ⟨(some 89), .l (.load true 2 (.tmp 88))⟩,
    ⟨(some 90), .call 67 [(.tmp 89)]⟩,
    ⟨(some 91), .call 68 [(.tmp 90)]⟩,
    ⟨(some 92), .p (.ext (.tmp 91) 0)⟩,
    ⟨(some 93), .p (.ext (.tmp 91) 1)⟩,
    ⟨(some 6), .p (.mv (.tmp 92))⟩,
    ⟨(some 7), .p (.mv (.tmp 93))⟩])
 (.ret)
noncomputable def c22z15 : ICode := .cut [2, 10] c22z43
noncomputable def c22z3 : ICode := .seq (.ops none [⟨(some 31), .call 62 [(.const (.int .i64 (1)))]⟩,
    ⟨(some 32), .e (.mkSl 104 1 [(.bool false), (.slice none 0 0)] [(0, 2, (.tmp 31))])⟩,
    ⟨(some 10), .p (.mv (.tmp 32))⟩])
 (.seq (.seq (.ops none [⟨(some 11), .p (.mv (.const (.int .i64 (1))))⟩])
  (.block 0 (.loop [2, 8] [10, 11] c22z18))) c22z15)
noncomputable def c22 : ICode := .seq (.ops none [⟨(some 6), .p (.mv (.const (.string ⟨#[]⟩)))⟩,
    ⟨(some 7), .p (.mv (.const (.int .i64 (0))))⟩])
 (.seq (.ops none [⟨(some 16), .p (.mv (.tmp 0))⟩,
    ⟨(some 17), .p (.mv (.tmp 1))⟩,
    ⟨(some 18), .call 61 [(.tmp 16), (.tmp 17)]⟩,
    ⟨(some 15), .p (.mv (.tmp 18))⟩,
    ⟨(some 19), .p (.ext (.tmp 15) 0)⟩,
    ⟨(some 20), .p (.ext (.tmp 15) 1)⟩,
    ⟨(some 8), .p (.mv (.tmp 19))⟩,
    ⟨(some 9), .p (.mv (.tmp 20))⟩])
 (.seq (.seq (.seq (.ops none [⟨(some 21), .p (.mv (.tmp 9))⟩,
      ⟨(some 22), .p (.un .not (.tmp 21))⟩,
      ⟨(some 23), .p (.mv (.tmp 22))⟩])
   (.cut [2, 8, 23] c22z6)) c22z4) c22z3))
theorem k22 : compFn Try.prog 22 [[], [], [2, 8, 23], [2, 8, 23, 25], [2, 8, 27], [2, 8, 27, 29], [], [], [], [], [], [2, 8], [10, 11], [], [], [], [], [2, 8, 10, 11, 12, 40, 41], [42], [], [], [], [2, 8, 10, 11, 12, 13, 14, 40, 41, 42, 61], [2, 8, 10, 11, 12, 13, 14, 40, 41, 42, 61, 64], [], [], [2, 8, 10, 11, 12, 40, 41, 42], [2, 8, 10, 11, 12], [2, 8, 10, 11], [2, 10], []] = some (94, c22, [.tmp 6, .tmp 7]) := by kernel_rfl
def K22z0 (_P : Program) (K : Value → Heap → Prop) : Exit → (Nat → Value) → Heap → Prop := bodyP [.tmp 6, .tmp 7] K
def K22z3 (P : Program) (K : Value → Heap → Prop) : Exit → (Nat → Value) → Heap → Prop := thenK (iwpP P c22z3 (K22z0 P K)) (K22z0 P K)
def K22z4 (P : Program) (K : Value → Heap → Prop) : Exit → (Nat → Value) → Heap → Prop := thenK (iwpP P c22z4 (K22z3 P K)) (K22z3 P K)
def K22z15 (P : Program) (K : Value → Heap → Prop) : Exit → (Nat → Value) → Heap → Prop := thenK (iwpP P c22z15 (K22z0 P K)) (K22z0 P K)
def K22z17 (P : Program) (K : Value → Heap → Prop) : Exit → (Nat → Value) → Heap → Prop := inBlockK 0 (K22z15 P K)
def K22z18 (P : Program) (K : Value → Heap → Prop) (n2 t8 : Value) (L1 : List Value → Heap → Prop) : Exit → (Nat → Value) → Heap → Prop := thenK (fun f' h'' => (([2, 8] : List Nat).map f' : List Value) = [n2, t8] ∧ L1 (([10, 11] : List Nat).map f') h'') (K22z17 P K)
def K22z21 (P : Program) (K : Value → Heap → Prop) (n2 t8 : Value) (L1 : List Value → Heap → Prop) : Exit → (Nat → Value) → Heap → Prop := thenK (iwpP P c22z21 (K22z18 P K n2 t8 L1)) (K22z18 P K n2 t8 L1)
def K22z22 (P : Program) (K : Value → Heap → Prop) (n2 t8 : Value) (L1 : List Value → Heap → Prop) : Exit → (Nat → Value) → Heap → Prop := inBlockK 1 (K22z21 P K n2 t8 L1)
def K22z24 (P : Program) (K : Value → Heap → Prop) (n2 t8 : Value) (L1 : List Value → Heap → Prop) : Exit → (Nat → Value) → Heap → Prop := thenK (iwpP P c22z24 (K22z22 P K n2 t8 L1)) (K22z22 P K n2 t8 L1)
def K22z26 (P : Program) (K : Value → Heap → Prop) (n2 t8 : Value) (L1 : List Value → Heap → Prop) : Exit → (Nat → Value) → Heap → Prop := inBlockK 2 (K22z24 P K n2 t8 L1)
def K22z27 (P : Program) (K : Value → Heap → Prop) (n2 t8 counts10 m11 sum12 x40 x41 : Value) (L1 L2 : List Value → Heap → Prop) : Exit → (Nat → Value) → Heap → Prop := thenK (fun f' h'' => (([2, 8, 10, 11, 12, 40, 41] : List Nat).map f' : List Value) = [n2, t8, counts10, m11, sum12, x40, x41] ∧ L2 (([42] : List Nat).map f') h'') (K22z26 P K n2 t8 L1)
def K22z30 (P : Program) (K : Value → Heap → Prop) (n2 t8 counts10 m11 sum12 x40 x41 : Value) (L1 L2 : List Value → Heap → Prop) : Exit → (Nat → Value) → Heap → Prop := thenK (iwpP P c22z30 (K22z27 P K n2 t8 counts10 m11 sum12 x40 x41 L1 L2)) (K22z27 P K n2 t8 counts10 m11 sum12 x40 x41 L1 L2)
def K22z31 (P : Program) (K : Value → Heap → Prop) (n2 t8 counts10 m11 sum12 x40 x41 : Value) (L1 L2 : List Value → Heap → Prop) : Exit → (Nat → Value) → Heap → Prop := inBlockK 3 (K22z30 P K n2 t8 counts10 m11 sum12 x40 x41 L1 L2)
def K22z33 (P : Program) (K : Value → Heap → Prop) (n2 t8 counts10 m11 sum12 x40 x41 : Value) (L1 L2 : List Value → Heap → Prop) : Exit → (Nat → Value) → Heap → Prop := inBlockK 4 (K22z31 P K n2 t8 counts10 m11 sum12 x40 x41 L1 L2)
def K22z34 (P : Program) (K : Value → Heap → Prop) (n2 t8 counts10 m11 sum12 x40 x41 : Value) (L1 L2 : List Value → Heap → Prop) : Exit → (Nat → Value) → Heap → Prop := thenK (iwpP P c22z34 (K22z33 P K n2 t8 counts10 m11 sum12 x40 x41 L1 L2)) (K22z33 P K n2 t8 counts10 m11 sum12 x40 x41 L1 L2)
def p22z6 (P : Program) (K : Value → Heap → Prop) (n2 t8 x23 : Value) (h : Heap) : Prop := CutP (iwpP P c22z6 (K22z4 P K)) [2, 8, 23] [n2, t8, x23] h
def p22z8 (P : Program) (K : Value → Heap → Prop) (n2 t8 x23 x25 : Value) (h : Heap) : Prop := CutP (iwpP P c22z8 (K22z4 P K)) [2, 8, 23, 25] [n2, t8, x23, x25] h
def p22z10 (P : Program) (K : Value → Heap → Prop) (n2 t8 x27 : Value) (h : Heap) : Prop := CutP (iwpP P c22z10 (K22z4 P K)) [2, 8, 27] [n2, t8, x27] h
def p22z12 (P : Program) (K : Value → Heap → Prop) (n2 t8 x27 x29 : Value) (h : Heap) : Prop := CutP (iwpP P c22z12 (K22z4 P K)) [2, 8, 27, 29] [n2, t8, x27, x29] h
def p22z18 (P : Program) (K : Value → Heap → Prop) (n2 t8 : Value) (L1 : List Value → Heap → Prop) (xs : List Value) (h : Heap) : Prop := CutP (iwpP P c22z18 (K22z18 P K n2 t8 L1)) ([2, 8] ++ [10, 11]) ([n2, t8] ++ xs) h
def p22z27 (P : Program) (K : Value → Heap → Prop) (n2 t8 counts10 m11 sum12 x40 x41 : Value) (L1 L2 : List Value → Heap → Prop) (xs : List Value) (h : Heap) : Prop := CutP (iwpP P c22z27 (K22z27 P K n2 t8 counts10 m11 sum12 x40 x41 L1 L2)) ([2, 8, 10, 11, 12, 40, 41] ++ [42]) ([n2, t8, counts10, m11, sum12, x40, x41] ++ xs) h
def p22z36 (P : Program) (K : Value → Heap → Prop) (n2 t8 counts10 m11 sum12 i13 c14 x40 x41 x42 x61 : Value) (L1 L2 : List Value → Heap → Prop) (h : Heap) : Prop := CutP (iwpP P c22z36 (K22z34 P K n2 t8 counts10 m11 sum12 x40 x41 L1 L2)) [2, 8, 10, 11, 12, 13, 14, 40, 41, 42, 61] [n2, t8, counts10, m11, sum12, i13, c14, x40, x41, x42, x61] h
def p22z38 (P : Program) (K : Value → Heap → Prop) (n2 t8 counts10 m11 sum12 i13 c14 x40 x41 x42 x61 x64 : Value) (L1 L2 : List Value → Heap → Prop) (h : Heap) : Prop := CutP (iwpP P c22z38 (K22z34 P K n2 t8 counts10 m11 sum12 x40 x41 L1 L2)) [2, 8, 10, 11, 12, 13, 14, 40, 41, 42, 61, 64] [n2, t8, counts10, m11, sum12, i13, c14, x40, x41, x42, x61, x64] h
def p22z40 (P : Program) (K : Value → Heap → Prop) (n2 t8 counts10 m11 sum12 x40 x41 x42 : Value) (L1 L2 : List Value → Heap → Prop) (h : Heap) : Prop := CutP (iwpP P c22z40 (K22z27 P K n2 t8 counts10 m11 sum12 x40 x41 L1 L2)) [2, 8, 10, 11, 12, 40, 41, 42] [n2, t8, counts10, m11, sum12, x40, x41, x42] h
def p22z41 (P : Program) (K : Value → Heap → Prop) (n2 t8 counts10 m11 sum12 : Value) (L1 : List Value → Heap → Prop) (h : Heap) : Prop := CutP (iwpP P c22z41 (K22z22 P K n2 t8 L1)) [2, 8, 10, 11, 12] [n2, t8, counts10, m11, sum12] h
def p22z42 (P : Program) (K : Value → Heap → Prop) (n2 t8 counts10 m11 : Value) (L1 : List Value → Heap → Prop) (h : Heap) : Prop := CutP (iwpP P c22z42 (K22z18 P K n2 t8 L1)) [2, 8, 10, 11] [n2, t8, counts10, m11] h
def p22z43 (P : Program) (K : Value → Heap → Prop) (n2 counts10 : Value) (h : Heap) : Prop := CutP (iwpP P c22z43 (K22z0 P K)) [2, 10] [n2, counts10] h
theorem q22z12 (P : Program) (K : Value → Heap → Prop) (n2 t8 x27 x29 : Value) (h : Heap) : p22z12 P K n2 t8 x27 x29 h =
  (OP (iPick x27 (.bool true) x29) fun x30 =>
  IfP x30
    (K (.tuple #[(.string ⟨#[]⟩), (.int .i64 (1))]) h)
    (CallP P 62 [(.int .i64 (1))] h fun x31 h_1 =>
    OH (iMkSl 104 1 [(.bool false), (.slice none 0 0)] h_1 [(0, 2, x31)]) fun x32 h_2 =>
    LoopP [x32, (.int .i64 (1))] h_2 fun L1 xs hx =>
    p22z18 P K n2 t8 L1 xs hx)) := (CutP_def _ _ _ _).trans (by kernel_rfl)
theorem q22z10 (P : Program) (K : Value → Heap → Prop) (n2 t8 x27 : Value) (h : Heap) : p22z10 P K n2 t8 x27 h =
  (GdP x27 false
    (OP (iBin .gtr n2 (.int .i64 (60))) fun x29 =>
    p22z12 P K n2 t8 x27 x29 h)
    (p22z12 P K n2 t8 x27 undef h)) := (CutP_def _ _ _ _).trans (by kernel_rfl)
theorem q22z8 (P : Program) (K : Value → Heap → Prop) (n2 t8 x23 x25 : Value) (h : Heap) : p22z8 P K n2 t8 x23 x25 h =
  (OP (iPick x23 (.bool true) x25) fun x26 =>
  p22z10 P K n2 t8 x26 h) := (CutP_def _ _ _ _).trans (by kernel_rfl)
theorem q22z6 (P : Program) (K : Value → Heap → Prop) (n2 t8 x23 : Value) (h : Heap) : p22z6 P K n2 t8 x23 h =
  (GdP x23 false
    (OP (iBin .lss n2 (.int .i64 (0))) fun x25 =>
    p22z8 P K n2 t8 x23 x25 h)
    (p22z8 P K n2 t8 x23 undef h)) := (CutP_def _ _ _ _).trans (by kernel_rfl)
theorem q22z38 (P : Program) (K : Value → Heap → Prop) (n2 t8 counts10 m11 sum12 i13 c14 x40 x41 x42 x61 x64 : Value) (L1 L2 : List Value → Heap → Prop) (h : Heap) : p22z38 P K n2 t8 counts10 m11 sum12 i13 c14 x40 x41 x42 x61 x64 L1 L2 h =
  (OP (iPick x61 (.bool true) x64) fun x65 =>
  IfP x65
    (p22z40 P K n2 t8 counts10 m11 sum12 x40 x41 x42 L1 L2 h)
    (OP (iBin .rem i13 (.int .i64 (2))) fun x68 =>
    OP (iBin .eql x68 (.int .i64 (1))) fun x69 =>
    IfP x69
      (OP (iLoad true 2 h sum12) fun x70 =>
      (True) ∧
      OP (iBin .sub m11 i13) fun x74 =>
      OP (iAdrSl 2 counts10 x74) fun x75 =>
      OP (iLoad true 2 h x75) fun x76 =>
      (True) ∧
      CallP P 62 [c14] h fun x78 h_1 =>
      (iLoad true 2 h_1 sum12 = some x70 ∧ iLoad true 2 h_1 x75 = some x76 ∧ True) ∧
      CallP P 65 [x76, x78] h_1 fun x79 h_2 =>
      (iLoad true 2 h_2 sum12 = some x70 ∧ True) ∧
      CallP P 64 [x70, x79] h_2 fun x80 h_3 =>
      (True) ∧
      OH (oStore 2 h_3 sum12 x80) fun _ h_4 =>
      (True) ∧
      p22z40 P K n2 t8 counts10 m11 sum12 x40 x41 x42 L1 L2 h_4)
      (OP (iLoad true 2 h sum12) fun x47 =>
      (True) ∧
      OP (iBin .sub m11 i13) fun x51 =>
      OP (iAdrSl 2 counts10 x51) fun x52 =>
      OP (iLoad true 2 h x52) fun x53 =>
      (True) ∧
      CallP P 62 [c14] h fun x55 h_1 =>
      (iLoad true 2 h_1 sum12 = some x47 ∧ iLoad true 2 h_1 x52 = some x53 ∧ True) ∧
      CallP P 65 [x53, x55] h_1 fun x56 h_2 =>
      (iLoad true 2 h_2 sum12 = some x47 ∧ True) ∧
      CallP P 66 [x47, x56] h_2 fun x57 h_3 =>
      (True) ∧
      OH (oStore 2 h_3 sum12 x57) fun _ h_4 =>
      (True) ∧
      p22z40 P K n2 t8 counts10 m11 sum12 x40 x41 x42 L1 L2 h_4))) := (CutP_def _ _ _ _).trans (by kernel_rfl)
theorem q22z36 (P : Program) (K : Value → Heap → Prop) (n2 t8 counts10 m11 sum12 i13 c14 x40 x41 x42 x61 : Value) (L1 L2 : List Value → Heap → Prop) (h : Heap) : p22z36 P K n2 t8 counts10 m11 sum12 i13 c14 x40 x41 x42 x61 L1 L2 h =
  (GdP x61 false
    (OP (iBin .gtr i13 m11) fun x64 =>
    p22z38 P K n2 t8 counts10 m11 sum12 i13 c14 x40 x41 x42 x61 x64 L1 L2 h)
    (p22z38 P K n2 t8 counts10 m11 sum12 i13 c14 x40 x41 x42 x61 undef L1 L2 h)) := (CutP_def _ _ _ _).trans (by kernel_rfl)
theorem q22z40 (P : Program) (K : Value → Heap → Prop) (n2 t8 counts10 m11 sum12 x40 x41 x42 : Value) (L1 L2 : List Value → Heap → Prop) (h : Heap) : p22z40 P K n2 t8 counts10 m11 sum12 x40 x41 x42 L1 L2 h =
  (OP (iBin .add x42 (.int .i64 (1))) fun x81 =>
  ([n2, t8, counts10, m11, sum12, x40, x41] : List Value) = [n2, t8, counts10, m11, sum12, x40, x41] ∧ L2 [x81] h) := (CutP_def _ _ _ _).trans (by kernel_rfl)
theorem q22z27 (P : Program) (K : Value → Heap → Prop) (n2 t8 counts10 m11 sum12 x40 x41 : Value) (L1 L2 : List Value → Heap → Prop) (x42 : Value) (h : Heap) : p22z27 P K n2 t8 counts10 m11 sum12 x40 x41 L1 L2 [x42] h =
  (OP (iBin .lss x42 x41) fun x43 =>
  IfP x43
    (OP (iAdrSl 1 x40 x42) fun x45 =>
    OP (iLoad false 1 h x45) fun x46 =>
    OP (iBin .eql x42 (.int .i64 (0))) fun x60 =>
    p22z36 P K n2 t8 counts10 m11 sum12 x42 x46 x40 x41 x42 x60 L1 L2 h)
    (p22z41 P K n2 t8 counts10 m11 sum12 L1 h)) := (CutP_def _ _ _ _).trans (by kernel_rfl)
theorem q22z41 (P : Program) (K : Value → Heap → Prop) (n2 t8 counts10 m11 sum12 : Value) (L1 : List Value → Heap → Prop) (h : Heap) : p22z41 P K n2 t8 counts10 m11 sum12 L1 h =
  (OP (iLoad true 2 h sum12) fun x83 =>
  OH (iMkSl 104 1 [(.bool false), (.slice none 0 0)] h [(0, 2, x83)]) fun x84 h_1 =>
  OH (iApp 104 2 32 h_1 counts10 x84) fun x85 h_2 =>
  p22z42 P K n2 t8 x85 m11 L1 h_2) := (CutP_def _ _ _ _).trans (by kernel_rfl)
theorem q22z42 (P : Program) (K : Value → Heap → Prop) (n2 t8 counts10 m11 : Value) (L1 : List Value → Heap → Prop) (h : Heap) : p22z42 P K n2 t8 counts10 m11 L1 h =
  (OP (iBin .add m11 (.int .i64 (1))) fun x37 =>
  ([n2, t8] : List Value) = [n2, t8] ∧ L1 [counts10, x37] h) := (CutP_def _ _ _ _).trans (by kernel_rfl)
theorem q22z18 (P : Program) (K : Value → Heap → Prop) (n2 t8 : Value) (L1 : List Value → Heap → Prop) (counts10 m11 : Value) (h : Heap) : p22z18 P K n2 t8 L1 [counts10, m11] h =
  (OP (iBin .leq m11 n2) fun x35 =>
  IfP x35
    (CallP P 62 [(.int .i64 (0))] h fun x38 h_1 =>
    OH (iAlloc 104 [(.bool false), (.slice none 0 0)] h_1) fun sum12 h_2 =>
    OH (oStore 2 h_2 sum12 x38) fun _ h_3 =>
    CallP P 63 [t8] h_3 fun x40 h_4 =>
    OP (iLenSl x40) fun x41 =>
    LoopP [(.int .i64 (0))] h_4 fun L2 xs hx =>
    p22z27 P K n2 t8 counts10 m11 sum12 x40 x41 L1 L2 xs hx)
    (p22z43 P K n2 counts10 h)) := (CutP_def _ _ _ _).trans (by kernel_rfl)
theorem q22z43 (P : Program) (K : Value → Heap → Prop) (n2 counts10 : Value) (h : Heap) : p22z43 P K n2 counts10 h =
  (OP (iAdrSl 2 counts10 n2) fun x88 =>
  OP (iLoad true 2 h x88) fun x89 =>
  CallP P 67 [x89] h fun x90 h_1 =>
  CallP P 68 [x90] h_1 fun x91 h_2 =>
  OP (iExt 0 x91) fun x92 =>
  OP (iExt 1 x91) fun x93 =>
  K (.tuple #[x92, x93]) h_2) := (CutP_def _ _ _ _).trans (by kernel_rfl)
def T22 (P : Program) (K : Value → Heap → Prop) (k0 pairs1 n2 : Value) (h : Heap) : Prop :=
  CallP P 61 [k0, pairs1] h fun x18 h_1 =>
  OP (iExt 0 x18) fun x19 =>
  OP (iExt 1 x18) fun x20 =>
  OP (iUn .not x20) fun x22 =>
  p22z6 P K n2 x19 x22 h_1
theorem e22 (P : Program) (K : Value → Heap → Prop) (k0 pairs1 n2 : Value) (h : Heap) : iwpP P c22 (bodyP [.tmp 6, .tmp 7] K) (frame0 [k0, pairs1, n2]) h = T22 P K k0 pairs1 n2 h := by kernel_rfl
theorem f22 {K : Value → Heap → Prop} {k0 pairs1 n2 : Value} {h : Heap} (H : T22 Try.prog K k0 pairs1 n2 h) : CallP Try.prog 22 [k0, pairs1, n2] h K :=
  callP_intro k22 (Nat.le_of_ble_eq_true rfl) ((e22 Try.prog K k0 pairs1 n2 h).mpr H)
/-! F23: pommel/stitch.Cliques -/
noncomputable def c23 : ICode := .seq (.ops none [⟨(some 4), .p (.mv (.const (.slice none 0 0)))⟩,
    ⟨(some 5), .p (.mv (.const (.int .i64 (0))))⟩])
 (.seq (.ops none [⟨(some 9), .p (.mv (.tmp 0))⟩,
    ⟨(some 10), .p (.mv (.tmp 1))⟩,
    ⟨(some 11), .call 61 [(.tmp 9), (.tmp 10)]⟩,
    ⟨(some 8), .p (.mv (.tmp 11))⟩,
    ⟨(some 12), .p (.ext (.tmp 8) 0)⟩,
    ⟨(some 13), .p (.ext (.tmp 8) 1)⟩,
    ⟨(some 6), .p (.mv (.tmp 12))⟩,
    ⟨(some 7), .p (.mv (.tmp 13))⟩])
 (.seq (.seq (.ops none [⟨(some 14), .p (.mv (.tmp 7))⟩,
     ⟨(some 15), .p (.un .not (.tmp 14))⟩])
  (.cond (.tmp 15) (.seq (.ops none [⟨(some 4), .p (.mv (.const (.slice none 0 0)))⟩,
      ⟨(some 5), .p (.mv (.const (.int .i64 (1))))⟩])
   (.ret))
  (.skip)))
 (.seq (.ops none [⟨(some 16), .p (.mv (.tmp 6))⟩,
    ⟨(some 17), .call 63 [(.tmp 16)]⟩,
    ⟨(some 4), .p (.mv (.tmp 17))⟩,
    ⟨(some 5), .p (.mv (.const (.int .i64 (0))))⟩])
 (.ret))))
theorem k23 : compFn Try.prog 23 [[], [], [], [], [], []] = some (18, c23, [.tmp 4, .tmp 5]) := by kernel_rfl
def K23z0 (_P : Program) (K : Value → Heap → Prop) : Exit → (Nat → Value) → Heap → Prop := bodyP [.tmp 4, .tmp 5] K
def T23 (P : Program) (K : Value → Heap → Prop) (k0 pairs1 : Value) (h : Heap) : Prop :=
  CallP P 61 [k0, pairs1] h fun x11 h_1 =>
  OP (iExt 0 x11) fun x12 =>
  OP (iExt 1 x11) fun x13 =>
  OP (iUn .not x13) fun x15 =>
  IfP x15
    (K (.tuple #[(.slice none 0 0), (.int .i64 (1))]) h_1)
    (CallP P 63 [x12] h_1 fun x17 h_2 =>
    K (.tuple #[x17, (.int .i64 (0))]) h_2)
theorem e23 (P : Program) (K : Value → Heap → Prop) (k0 pairs1 : Value) (h : Heap) : iwpP P c23 (bodyP [.tmp 4, .tmp 5] K) (frame0 [k0, pairs1]) h = T23 P K k0 pairs1 h := by kernel_rfl
theorem f23 {K : Value → Heap → Prop} {k0 pairs1 : Value} {h : Heap} (H : T23 Try.prog K k0 pairs1 h) : CallP Try.prog 23 [k0, pairs1] h K :=
  callP_intro k23 (Nat.le_of_ble_eq_true rfl) ((e23 Try.prog K k0 pairs1 h).mpr H)
/-! F62: pommel/num.Of -/
noncomputable def c62z5 : ICode := .seq (.ops none [⟨(some 10), .p (.mv (.tmp 0))⟩,
    ⟨(some 11), .p (.bin .lss (.tmp 10) (.const (.int .i64 (0))))⟩,
    ⟨(some 12), .p (.mv (.tmp 3))⟩,
    ⟨(some 13), .p (.conv .u32 (.tmp 12))⟩,
    ⟨(some 14), .p (.mv (.tmp 3))⟩,
    ⟨(some 15), .p (.bin .shr (.tmp 14) (.const (.int .u64 (32))))⟩,
    ⟨(some 16), .p (.conv .u32 (.tmp 15))⟩,
    ⟨(some 17), .e (.mkSl 143 2 [(.int .u32 (0))] [(0, 1, (.tmp 13)), (1, 1, (.tmp 16))])⟩,
    ⟨(some 18), .call 87 [(.tmp 17)]⟩,
    ⟨(some 19), .call 86 [(.tmp 11), (.tmp 18)]⟩,
    ⟨none, .e (.store 2 (.tmp 2) (.tmp 19))⟩])
 (.ret)
noncomputable def c62 : ICode := .seq (.ops none [⟨(some 2), .e (.alloc 104 [(.bool false), (.slice none 0 0)])⟩])
 (.seq (.ops none [⟨(some 4), .p (.mv (.tmp 0))⟩,
    ⟨(some 5), .p (.conv .u64 (.tmp 4))⟩,
    ⟨(some 3), .p (.mv (.tmp 5))⟩])
 (.seq (.seq (.ops none [⟨(some 6), .p (.mv (.tmp 0))⟩,
     ⟨(some 7), .p (.bin .lss (.tmp 6) (.const (.int .i64 (0))))⟩])
  (.cond (.tmp 7) (.ops none [⟨(some 8), .p (.mv (.tmp 3))⟩,
     ⟨(some 9), .p (.un .neg (.tmp 8))⟩,
     ⟨(some 3), .p (.mv (.tmp 9))⟩])
  (.skip)))
 (.cut [0, 2, 3] c62z5)))
theorem k62 : compFn Try.prog 62 [[], [], [], [0, 2, 3], []] = some (20, c62, [.cell true 2 2]) := by kernel_rfl
def K62z0 (_P : Program) (K : Value → Heap → Prop) : Exit → (Nat → Value) → Heap → Prop := bodyP [.cell true 2 2] K
def p62z5 (P : Program) (K : Value → Heap → Prop) (n0 x2 u3 : Value) (h : Heap) : Prop := CutP (iwpP P c62z5 (K62z0 P K)) [0, 2, 3] [n0, x2, u3] h
theorem q62z5 (P : Program) (K : Value → Heap → Prop) (n0 x2 u3 : Value) (h : Heap) : p62z5 P K n0 x2 u3 h =
  (OP (iBin .lss n0 (.int .i64 (0))) fun x11 =>
  OP (iConv .u32 u3) fun x13 =>
  OP (iBin .shr u3 (.int .u64 (32))) fun x15 =>
  OP (iConv .u32 x15) fun x16 =>
  OH (iMkSl 143 2 [(.int .u32 (0))] h [(0, 1, x13), (1, 1, x16)]) fun x17 h_1 =>
  CallP P 87 [x17] h_1 fun x18 h_2 =>
  CallP P 86 [x11, x18] h_2 fun x19 h_3 =>
  OH (oStore 2 h_3 x2 x19) fun _ h_4 =>
  OP (iLoad true 2 h_4 x2) fun r0 =>
  K r0 h_4) := (CutP_def _ _ _ _).trans (by kernel_rfl)
def T62 (P : Program) (K : Value → Heap → Prop) (n0 : Value) (h : Heap) : Prop :=
  OH (iAlloc 104 [(.bool false), (.slice none 0 0)] h) fun x2 h_1 =>
  OP (iConv .u64 n0) fun x5 =>
  OP (iBin .lss n0 (.int .i64 (0))) fun x7 =>
  IfP x7
    (OP (iUn .neg x5) fun x9 =>
    p62z5 P K n0 x2 x9 h_1)
    (p62z5 P K n0 x2 x5 h_1)
theorem e62 (P : Program) (K : Value → Heap → Prop) (n0 : Value) (h : Heap) : iwpP P c62 (bodyP [.cell true 2 2] K) (frame0 [n0]) h = T62 P K n0 h := by kernel_rfl
theorem f62 {K : Value → Heap → Prop} {n0 : Value} {h : Heap} (H : T62 Try.prog K n0 h) : CallP Try.prog 62 [n0] h K :=
  callP_intro k62 (Nat.le_of_ble_eq_true rfl) ((e62 Try.prog K n0 h).mpr H)
/-! F63: (*pommel/stitch.threads).cliques -/
noncomputable def c63z40 : ICode := .ops none [⟨(some 58), .p (.pick (.tmp 42) (.tmp 57) (.const (.bool false)))⟩,
   ⟨(some 6), .p (.mv (.tmp 58))⟩]
noncomputable def c63z38 : ICode := .seq (.ops (some (42, true)) [⟨(some 57), .p (.pick (.tmp 48) (.const (.bool true)) (.tmp 56))⟩])
 (.cut [0, 3, 4, 5, 7, 19, 20, 26, 27, 37, 38, 42, 57] c63z40)
noncomputable def c63z36 : ICode := .seq (.ops (some (48, false)) [⟨(some 49), .p (.mv (.tmp 0))⟩,
    ⟨(some 50), .p (.mv (.tmp 7))⟩,
    ⟨(some 51), .p (.mv (.tmp 8))⟩,
    ⟨(some 52), .p (.nilck (.tmp 49))⟩,
    ⟨(some 53), .p (.fadr 1 (.tmp 52))⟩,
    ⟨(some 54), .p (.adrArr 6 6 (.tmp 53) (.tmp 50))⟩,
    ⟨(some 55), .p (.adrArr 6 1 (.tmp 54) (.tmp 51))⟩,
    ⟨(some 56), .l (.load false 1 (.tmp 55))⟩])
 (.cut [0, 3, 4, 5, 7, 19, 20, 26, 27, 37, 38, 42, 48, 56] c63z38)
noncomputable def c63z34 : ICode := .seq (.ops (some (42, true)) [⟨(some 43), .p (.mv (.tmp 4))⟩,
    ⟨(some 44), .p (.mv (.tmp 8))⟩,
    ⟨(some 45), .p (.bin .shr (.tmp 43) (.tmp 44))⟩,
    ⟨(some 46), .p (.bin .and (.tmp 45) (.const (.int .i64 (1))))⟩,
    ⟨(some 47), .p (.bin .eql (.tmp 46) (.const (.int .i64 (0))))⟩,
    ⟨(some 48), .p (.mv (.tmp 47))⟩])
 (.cut [0, 3, 4, 5, 7, 8, 19, 20, 26, 27, 37, 38, 42, 48] c63z36)
noncomputable def c63z30 : ICode := .ops none [⟨(some 59), .p (.bin .add (.tmp 38) (.const (.int .i64 (1))))⟩,
   ⟨(some 38), .p (.mv (.tmp 59))⟩]
noncomputable def c63z27 : ICode := .seq (.ops none [⟨(some 39), .p (.bin .lss (.tmp 38) (.tmp 37))⟩])
 (.seq (.cond (.tmp 39) (.skip)
  (.exit 4))
 (.seq (.block 5 (.seq (.ops none [⟨(some 40), .p (.mv (.tmp 38))⟩,
      ⟨(some 8), .p (.mv (.tmp 40))⟩])
   (.seq (.ops none [⟨(some 41), .p (.mv (.tmp 6))⟩,
      ⟨(some 42), .p (.mv (.tmp 41))⟩])
   (.cut [0, 3, 4, 5, 7, 8, 19, 20, 26, 27, 37, 38, 42] c63z34)))) c63z30))
noncomputable def c63z41 : ICode := .ops none [⟨(some 60), .p (.bin .add (.tmp 27) (.const (.int .i64 (1))))⟩,
   ⟨(some 27), .p (.mv (.tmp 60))⟩]
noncomputable def c63z19 : ICode := .cut [0, 3, 4, 5, 6, 19, 20, 26, 27] c63z41
noncomputable def c63z16 : ICode := .seq (.ops none [⟨(some 28), .p (.bin .lss (.tmp 27) (.tmp 26))⟩])
 (.seq (.cond (.tmp 28) (.skip)
  (.exit 2))
 (.seq (.block 3 (.seq (.ops none [⟨(some 29), .p (.mv (.tmp 27))⟩,
      ⟨(some 7), .p (.mv (.tmp 29))⟩])
   (.seq (.seq (.ops none [⟨(some 30), .p (.mv (.tmp 4))⟩,
       ⟨(some 31), .p (.mv (.tmp 7))⟩,
       ⟨(some 32), .p (.bin .shr (.tmp 30) (.tmp 31))⟩,
       ⟨(some 33), .p (.bin .and (.tmp 32) (.const (.int .i64 (1))))⟩,
       ⟨(some 34), .p (.bin .eql (.tmp 33) (.const (.int .i64 (0))))⟩])
    (.cond (.tmp 34) (.exit 3)
    (.skip)))
   (.seq (.ops none [⟨(some 35), .p (.mv (.tmp 5))⟩,
      ⟨(some 36), .p (.bin .add (.tmp 35) (.const (.int .i64 (1))))⟩,
      ⟨(some 5), .p (.mv (.tmp 36))⟩])
   (.seq (.ops none [⟨(some 37), .p (.mv (.tmp 7))⟩,
      ⟨(some 38), .p (.mv (.const (.int .i64 (0))))⟩])
   (.block 4 (.loop [0, 3, 4, 5, 7, 19, 20, 26, 27, 37] [6, 38] c63z27))))))) c63z19))
noncomputable def c63z42 : ICode := .seq (.ops none [⟨(some 61), .p (.mv (.tmp 6))⟩])
 (.cond (.tmp 61) (.ops none [⟨(some 62), .p (.mv (.tmp 3))⟩,
    ⟨(some 63), .p (.mv (.tmp 5))⟩,
    ⟨(some 64), .p (.adrSl 1 (.tmp 62) (.tmp 63))⟩,
    ⟨(some 65), .l (.load false 1 (.tmp 64))⟩,
    ⟨(some 66), .p (.bin .add (.tmp 65) (.const (.int .i64 (1))))⟩,
    ⟨(some 67), .p (.adrSl 1 (.tmp 62) (.tmp 63))⟩,
    ⟨none, .e (.store 1 (.tmp 67) (.tmp 66))⟩])
 (.skip))
noncomputable def c63z13 : ICode := .cut [0, 3, 5, 6, 19, 20] c63z42
noncomputable def c63z44 : ICode := .ops none [⟨(some 68), .p (.bin .add (.tmp 20) (.const (.int .i64 (1))))⟩,
   ⟨(some 20), .p (.mv (.tmp 68))⟩]
noncomputable def c63z9 : ICode := .cut [0, 3, 19, 20] c63z44
noncomputable def c63z6 : ICode := .seq (.ops none [⟨(some 21), .p (.bin .lss (.tmp 20) (.tmp 19))⟩])
 (.seq (.cond (.tmp 21) (.skip)
  (.exit 0))
 (.seq (.block 1 (.seq (.ops none [⟨(some 22), .p (.mv (.tmp 20))⟩,
      ⟨(some 4), .p (.mv (.tmp 22))⟩])
   (.seq (.ops none [⟨(some 5), .p (.mv (.const (.int .i64 (0))))⟩,
      ⟨(some 6), .p (.mv (.const (.bool true)))⟩])
   (.seq (.seq (.ops none [⟨(some 23), .p (.mv (.tmp 0))⟩,
       ⟨(some 24), .p (.nilck (.tmp 23))⟩,
       ⟨(some 25), .p (.fadr 0 (.tmp 24))⟩,
       ⟨(some 26), .l (.load false 1 (.tmp 25))⟩,
       ⟨(some 27), .p (.mv (.const (.int .i64 (0))))⟩])
    (.block 2 (.loop [0, 3, 4, 19, 20, 26] [5, 6, 27] c63z16))) c63z13)))) c63z9))
noncomputable def c63z48 : ICode := .seq (.seq (.ops none [⟨(some 69), .p (.mv (.tmp 3))⟩,
     ⟨(some 70), .p (.mv (.tmp 3))⟩,
     ⟨(some 71), .p (.lenSl (.tmp 70))⟩,
     ⟨(some 72), .p (.bin .sub (.tmp 71) (.const (.int .i64 (1))))⟩,
     ⟨(some 73), .p (.adrSl 1 (.tmp 69) (.tmp 72))⟩,
     ⟨(some 74), .l (.load false 1 (.tmp 73))⟩,
     ⟨(some 75), .p (.bin .eql (.tmp 74) (.const (.int .i64 (0))))⟩])
  (.cond (.tmp 75) (.skip)
  (.exit 6)))
 (.block 7 (.ops none [⟨(some 76), .p (.mv (.tmp 3))⟩,
    ⟨(some 77), .p (.mv (.tmp 3))⟩,
    ⟨(some 78), .p (.lenSl (.tmp 77))⟩,
    ⟨(some 79), .p (.bin .sub (.tmp 78) (.const (.int .i64 (1))))⟩,
    ⟨(some 80), .p (.slSl 3 1 (.tmp 76) none (some (.tmp 79)))⟩,
    ⟨(some 3), .p (.mv (.tmp 80))⟩]))
noncomputable def c63z52 : ICode := .seq (.ops none [⟨(some 81), .p (.mv (.tmp 3))⟩,
    ⟨(some 2), .p (.mv (.tmp 81))⟩])
 (.ret)
noncomputable def c63z46 : ICode := .cut [3] c63z52
noncomputable def c63z45 : ICode := .seq (.block 6 (.loop [] [3] c63z48)) c63z46
noncomputable def c63z3 : ICode := .cut [3] c63z45
noncomputable def c63 : ICode := .seq (.ops none [⟨(some 2), .p (.mv (.const (.slice none 0 0)))⟩])
 (.seq (.ops none [⟨(some 9), .p (.mv (.tmp 0))⟩,
    ⟨(some 10), .p (.nilck (.tmp 9))⟩,
    ⟨(some 11), .p (.fadr 0 (.tmp 10))⟩,
    ⟨(some 12), .l (.load false 1 (.tmp 11))⟩,
    ⟨(some 13), .p (.bin .add (.tmp 12) (.const (.int .i64 (1))))⟩,
    ⟨(some 14), .e (.make 3 8 [(.int .i64 (0))] (.tmp 13) (.tmp 13))⟩,
    ⟨(some 3), .p (.mv (.tmp 14))⟩])
 (.seq (.seq (.ops none [⟨(some 15), .p (.mv (.tmp 0))⟩,
     ⟨(some 16), .p (.nilck (.tmp 15))⟩,
     ⟨(some 17), .p (.fadr 0 (.tmp 16))⟩,
     ⟨(some 18), .l (.load false 1 (.tmp 17))⟩,
     ⟨(some 19), .p (.bin .shl (.const (.int .i64 (1))) (.tmp 18))⟩,
     ⟨(some 20), .p (.mv (.const (.int .i64 (0))))⟩])
  (.block 0 (.loop [0, 3, 19] [20] c63z6))) c63z3))
theorem k63 : compFn Try.prog 63 [[], [], [], [0, 3, 19], [20], [], [], [], [], [], [0, 3, 4, 19, 20, 26], [5, 6, 27], [], [], [], [], [], [], [], [0, 3, 4, 5, 7, 19, 20, 26, 27, 37], [6, 38], [], [], [], [0, 3, 4, 5, 7, 8, 19, 20, 26, 27, 37, 38, 42], [0, 3, 4, 5, 7, 8, 19, 20, 26, 27, 37, 38, 42, 48], [0, 3, 4, 5, 7, 19, 20, 26, 27, 37, 38, 42, 48, 56], [0, 3, 4, 5, 7, 19, 20, 26, 27, 37, 38, 42, 57], [], [0, 3, 4, 5, 6, 19, 20, 26, 27], [0, 3, 5, 6, 19, 20], [], [0, 3, 19, 20], [3], [], [3], [], [], [3], []] = some (82, c63, [.tmp 2]) := by kernel_rfl
def K63z0 (_P : Program) (K : Value → Heap → Prop) : Exit → (Nat → Value) → Heap → Prop := bodyP [.tmp 2] K
def K63z3 (P : Program) (K : Value → Heap → Prop) : Exit → (Nat → Value) → Heap → Prop := thenK (iwpP P c63z3 (K63z0 P K)) (K63z0 P K)
def K63z5 (P : Program) (K : Value → Heap → Prop) : Exit → (Nat → Value) → Heap → Prop := inBlockK 0 (K63z3 P K)
def K63z6 (P : Program) (K : Value → Heap → Prop) (t0 out3 x19 : Value) (L1 : List Value → Heap → Prop) : Exit → (Nat → Value) → Heap → Prop := thenK (fun f' h'' => (([0, 3, 19] : List Nat).map f' : List Value) = [t0, out3, x19] ∧ L1 (([20] : List Nat).map f') h'') (K63z5 P K)
def K63z9 (P : Program) (K : Value → Heap → Prop) (t0 out3 x19 : Value) (L1 : List Value → Heap → Prop) : Exit → (Nat → Value) → Heap → Prop := thenK (iwpP P c63z9 (K63z6 P K t0 out3 x19 L1)) (K63z6 P K t0 out3 x19 L1)
def K63z10 (P : Program) (K : Value → Heap → Prop) (t0 out3 x19 : Value) (L1 : List Value → Heap → Prop) : Exit → (Nat → Value) → Heap → Prop := inBlockK 1 (K63z9 P K t0 out3 x19 L1)
def K63z13 (P : Program) (K : Value → Heap → Prop) (t0 out3 x19 : Value) (L1 : List Value → Heap → Prop) : Exit → (Nat → Value) → Heap → Prop := thenK (iwpP P c63z13 (K63z10 P K t0 out3 x19 L1)) (K63z10 P K t0 out3 x19 L1)
def K63z15 (P : Program) (K : Value → Heap → Prop) (t0 out3 x19 : Value) (L1 : List Value → Heap → Prop) : Exit → (Nat → Value) → Heap → Prop := inBlockK 2 (K63z13 P K t0 out3 x19 L1)
def K63z16 (P : Program) (K : Value → Heap → Prop) (t0 out3 set4 x19 x20 x26 : Value) (L1 L2 : List Value → Heap → Prop) : Exit → (Nat → Value) → Heap → Prop := thenK (fun f' h'' => (([0, 3, 4, 19, 20, 26] : List Nat).map f' : List Value) = [t0, out3, set4, x19, x20, x26] ∧ L2 (([5, 6, 27] : List Nat).map f') h'') (K63z15 P K t0 out3 x19 L1)
def K63z19 (P : Program) (K : Value → Heap → Prop) (t0 out3 set4 x19 x20 x26 : Value) (L1 L2 : List Value → Heap → Prop) : Exit → (Nat → Value) → Heap → Prop := thenK (iwpP P c63z19 (K63z16 P K t0 out3 set4 x19 x20 x26 L1 L2)) (K63z16 P K t0 out3 set4 x19 x20 x26 L1 L2)
def K63z20 (P : Program) (K : Value → Heap → Prop) (t0 out3 set4 x19 x20 x26 : Value) (L1 L2 : List Value → Heap → Prop) : Exit → (Nat → Value) → Heap → Prop := inBlockK 3 (K63z19 P K t0 out3 set4 x19 x20 x26 L1 L2)
def K63z26 (P : Program) (K : Value → Heap → Prop) (t0 out3 set4 x19 x20 x26 : Value) (L1 L2 : List Value → Heap → Prop) : Exit → (Nat → Value) → Heap → Prop := inBlockK 4 (K63z20 P K t0 out3 set4 x19 x20 x26 L1 L2)
def K63z27 (P : Program) (K : Value → Heap → Prop) (t0 out3 set4 size5 a7 x19 x20 x26 x27 x37 : Value) (L1 L2 L3 : List Value → Heap → Prop) : Exit → (Nat → Value) → Heap → Prop := thenK (fun f' h'' => (([0, 3, 4, 5, 7, 19, 20, 26, 27, 37] : List Nat).map f' : List Value) = [t0, out3, set4, size5, a7, x19, x20, x26, x27, x37] ∧ L3 (([6, 38] : List Nat).map f') h'') (K63z26 P K t0 out3 set4 x19 x20 x26 L1 L2)
def K63z30 (P : Program) (K : Value → Heap → Prop) (t0 out3 set4 size5 a7 x19 x20 x26 x27 x37 : Value) (L1 L2 L3 : List Value → Heap → Prop) : Exit → (Nat → Value) → Heap → Prop := thenK (iwpP P c63z30 (K63z27 P K t0 out3 set4 size5 a7 x19 x20 x26 x27 x37 L1 L2 L3)) (K63z27 P K t0 out3 set4 size5 a7 x19 x20 x26 x27 x37 L1 L2 L3)
def K63z31 (P : Program) (K : Value → Heap → Prop) (t0 out3 set4 size5 a7 x19 x20 x26 x27 x37 : Value) (L1 L2 L3 : List Value → Heap → Prop) : Exit → (Nat → Value) → Heap → Prop := inBlockK 5 (K63z30 P K t0 out3 set4 size5 a7 x19 x20 x26 x27 x37 L1 L2 L3)
def K63z46 (P : Program) (K : Value → Heap → Prop) : Exit → (Nat → Value) → Heap → Prop := thenK (iwpP P c63z46 (K63z0 P K)) (K63z0 P K)
def K63z47 (P : Program) (K : Value → Heap → Prop) : Exit → (Nat → Value) → Heap → Prop := inBlockK 6 (K63z46 P K)
def K63z48 (P : Program) (K : Value → Heap → Prop) (L1 : List Value → Heap → Prop) : Exit → (Nat → Value) → Heap → Prop := thenK (fun f' h'' => (([] : List Nat).map f' : List Value) = [] ∧ L1 (([3] : List Nat).map f') h'') (K63z47 P K)
def p63z6 (P : Program) (K : Value → Heap → Prop) (t0 out3 x19 : Value) (L1 : List Value → Heap → Prop) (xs : List Value) (h : Heap) : Prop := CutP (iwpP P c63z6 (K63z6 P K t0 out3 x19 L1)) ([0, 3, 19] ++ [20]) ([t0, out3, x19] ++ xs) h
def p63z16 (P : Program) (K : Value → Heap → Prop) (t0 out3 set4 x19 x20 x26 : Value) (L1 L2 : List Value → Heap → Prop) (xs : List Value) (h : Heap) : Prop := CutP (iwpP P c63z16 (K63z16 P K t0 out3 set4 x19 x20 x26 L1 L2)) ([0, 3, 4, 19, 20, 26] ++ [5, 6, 27]) ([t0, out3, set4, x19, x20, x26] ++ xs) h
def p63z27 (P : Program) (K : Value → Heap → Prop) (t0 out3 set4 size5 a7 x19 x20 x26 x27 x37 : Value) (L1 L2 L3 : List Value → Heap → Prop) (xs : List Value) (h : Heap) : Prop := CutP (iwpP P c63z27 (K63z27 P K t0 out3 set4 size5 a7 x19 x20 x26 x27 x37 L1 L2 L3)) ([0, 3, 4, 5, 7, 19, 20, 26, 27, 37] ++ [6, 38]) ([t0, out3, set4, size5, a7, x19, x20, x26, x27, x37] ++ xs) h
def p63z34 (P : Program) (K : Value → Heap → Prop) (t0 out3 set4 size5 a7 b8 x19 x20 x26 x27 x37 x38 x42 : Value) (L1 L2 L3 : List Value → Heap → Prop) (h : Heap) : Prop := CutP (iwpP P c63z34 (K63z31 P K t0 out3 set4 size5 a7 x19 x20 x26 x27 x37 L1 L2 L3)) [0, 3, 4, 5, 7, 8, 19, 20, 26, 27, 37, 38, 42] [t0, out3, set4, size5, a7, b8, x19, x20, x26, x27, x37, x38, x42] h
def p63z36 (P : Program) (K : Value → Heap → Prop) (t0 out3 set4 size5 a7 b8 x19 x20 x26 x27 x37 x38 x42 x48 : Value) (L1 L2 L3 : List Value → Heap → Prop) (h : Heap) : Prop := CutP (iwpP P c63z36 (K63z31 P K t0 out3 set4 size5 a7 x19 x20 x26 x27 x37 L1 L2 L3)) [0, 3, 4, 5, 7, 8, 19, 20, 26, 27, 37, 38, 42, 48] [t0, out3, set4, size5, a7, b8, x19, x20, x26, x27, x37, x38, x42, x48] h
def p63z38 (P : Program) (K : Value → Heap → Prop) (t0 out3 set4 size5 a7 x19 x20 x26 x27 x37 x38 x42 x48 x56 : Value) (L1 L2 L3 : List Value → Heap → Prop) (h : Heap) : Prop := CutP (iwpP P c63z38 (K63z31 P K t0 out3 set4 size5 a7 x19 x20 x26 x27 x37 L1 L2 L3)) [0, 3, 4, 5, 7, 19, 20, 26, 27, 37, 38, 42, 48, 56] [t0, out3, set4, size5, a7, x19, x20, x26, x27, x37, x38, x42, x48, x56] h
def p63z40 (P : Program) (K : Value → Heap → Prop) (t0 out3 set4 size5 a7 x19 x20 x26 x27 x37 x38 x42 x57 : Value) (L1 L2 L3 : List Value → Heap → Prop) (h : Heap) : Prop := CutP (iwpP P c63z40 (K63z31 P K t0 out3 set4 size5 a7 x19 x20 x26 x27 x37 L1 L2 L3)) [0, 3, 4, 5, 7, 19, 20, 26, 27, 37, 38, 42, 57] [t0, out3, set4, size5, a7, x19, x20, x26, x27, x37, x38, x42, x57] h
def p63z41 (P : Program) (K : Value → Heap → Prop) (t0 out3 set4 size5 ok6 x19 x20 x26 x27 : Value) (L1 L2 : List Value → Heap → Prop) (h : Heap) : Prop := CutP (iwpP P c63z41 (K63z16 P K t0 out3 set4 x19 x20 x26 L1 L2)) [0, 3, 4, 5, 6, 19, 20, 26, 27] [t0, out3, set4, size5, ok6, x19, x20, x26, x27] h
def p63z42 (P : Program) (K : Value → Heap → Prop) (t0 out3 size5 ok6 x19 x20 : Value) (L1 : List Value → Heap → Prop) (h : Heap) : Prop := CutP (iwpP P c63z42 (K63z10 P K t0 out3 x19 L1)) [0, 3, 5, 6, 19, 20] [t0, out3, size5, ok6, x19, x20] h
def p63z44 (P : Program) (K : Value → Heap → Prop) (t0 out3 x19 x20 : Value) (L1 : List Value → Heap → Prop) (h : Heap) : Prop := CutP (iwpP P c63z44 (K63z6 P K t0 out3 x19 L1)) [0, 3, 19, 20] [t0, out3, x19, x20] h
def p63z45 (P : Program) (K : Value → Heap → Prop) (out3 : Value) (h : Heap) : Prop := CutP (iwpP P c63z45 (K63z0 P K)) [3] [out3] h
def p63z48 (P : Program) (K : Value → Heap → Prop) (L1 : List Value → Heap → Prop) (xs : List Value) (h : Heap) : Prop := CutP (iwpP P c63z48 (K63z48 P K L1)) ([] ++ [3]) ([] ++ xs) h
def p63z52 (P : Program) (K : Value → Heap → Prop) (out3 : Value) (h : Heap) : Prop := CutP (iwpP P c63z52 (K63z0 P K)) [3] [out3] h
theorem q63z40 (P : Program) (K : Value → Heap → Prop) (t0 out3 set4 size5 a7 x19 x20 x26 x27 x37 x38 x42 x57 : Value) (L1 L2 L3 : List Value → Heap → Prop) (h : Heap) : p63z40 P K t0 out3 set4 size5 a7 x19 x20 x26 x27 x37 x38 x42 x57 L1 L2 L3 h =
  (OP (iPick x42 x57 (.bool false)) fun x58 =>
  OP (iBin .add x38 (.int .i64 (1))) fun x59 =>
  ([t0, out3, set4, size5, a7, x19, x20, x26, x27, x37] : List Value) = [t0, out3, set4, size5, a7, x19, x20, x26, x27, x37] ∧ L3 [x58, x59] h) := (CutP_def _ _ _ _).trans (by kernel_rfl)
theorem q63z38 (P : Program) (K : Value → Heap → Prop) (t0 out3 set4 size5 a7 x19 x20 x26 x27 x37 x38 x42 x48 x56 : Value) (L1 L2 L3 : List Value → Heap → Prop) (h : Heap) : p63z38 P K t0 out3 set4 size5 a7 x19 x20 x26 x27 x37 x38 x42 x48 x56 L1 L2 L3 h =
  (GdP x42 true
    (OP (iPick x48 (.bool true) x56) fun x57 =>
    p63z40 P K t0 out3 set4 size5 a7 x19 x20 x26 x27 x37 x38 x42 x57 L1 L2 L3 h)
    (p63z40 P K t0 out3 set4 size5 a7 x19 x20 x26 x27 x37 x38 x42 undef L1 L2 L3 h)) := (CutP_def _ _ _ _).trans (by kernel_rfl)
theorem q63z36 (P : Program) (K : Value → Heap → Prop) (t0 out3 set4 size5 a7 b8 x19 x20 x26 x27 x37 x38 x42 x48 : Value) (L1 L2 L3 : List Value → Heap → Prop) (h : Heap) : p63z36 P K t0 out3 set4 size5 a7 b8 x19 x20 x26 x27 x37 x38 x42 x48 L1 L2 L3 h =
  (GdP x48 false
    (OP (iNilck t0) fun x52 =>
    OP (iFadr 1 x52) fun x53 =>
    OP (iAdrArr 6 6 x53 a7) fun x54 =>
    OP (iAdrArr 6 1 x54 b8) fun x55 =>
    OP (iLoad false 1 h x55) fun x56 =>
    p63z38 P K t0 out3 set4 size5 a7 x19 x20 x26 x27 x37 x38 x42 x48 x56 L1 L2 L3 h)
    (p63z38 P K t0 out3 set4 size5 a7 x19 x20 x26 x27 x37 x38 x42 x48 undef L1 L2 L3 h)) := (CutP_def _ _ _ _).trans (by kernel_rfl)
theorem q63z34 (P : Program) (K : Value → Heap → Prop) (t0 out3 set4 size5 a7 b8 x19 x20 x26 x27 x37 x38 x42 : Value) (L1 L2 L3 : List Value → Heap → Prop) (h : Heap) : p63z34 P K t0 out3 set4 size5 a7 b8 x19 x20 x26 x27 x37 x38 x42 L1 L2 L3 h =
  (GdP x42 true
    (OP (iBin .shr set4 b8) fun x45 =>
    OP (iBin .and x45 (.int .i64 (1))) fun x46 =>
    OP (iBin .eql x46 (.int .i64 (0))) fun x47 =>
    p63z36 P K t0 out3 set4 size5 a7 b8 x19 x20 x26 x27 x37 x38 x42 x47 L1 L2 L3 h)
    (p63z36 P K t0 out3 set4 size5 a7 b8 x19 x20 x26 x27 x37 x38 x42 undef L1 L2 L3 h)) := (CutP_def _ _ _ _).trans (by kernel_rfl)
theorem q63z27 (P : Program) (K : Value → Heap → Prop) (t0 out3 set4 size5 a7 x19 x20 x26 x27 x37 : Value) (L1 L2 L3 : List Value → Heap → Prop) (ok6 x38 : Value) (h : Heap) : p63z27 P K t0 out3 set4 size5 a7 x19 x20 x26 x27 x37 L1 L2 L3 [ok6, x38] h =
  (OP (iBin .lss x38 x37) fun x39 =>
  IfP x39
    (p63z34 P K t0 out3 set4 size5 a7 x38 x19 x20 x26 x27 x37 x38 ok6 L1 L2 L3 h)
    (p63z41 P K t0 out3 set4 size5 ok6 x19 x20 x26 x27 L1 L2 h)) := (CutP_def _ _ _ _).trans (by kernel_rfl)
theorem q63z41 (P : Program) (K : Value → Heap → Prop) (t0 out3 set4 size5 ok6 x19 x20 x26 x27 : Value) (L1 L2 : List Value → Heap → Prop) (h : Heap) : p63z41 P K t0 out3 set4 size5 ok6 x19 x20 x26 x27 L1 L2 h =
  (OP (iBin .add x27 (.int .i64 (1))) fun x60 =>
  ([t0, out3, set4, x19, x20, x26] : List Value) = [t0, out3, set4, x19, x20, x26] ∧ L2 [size5, ok6, x60] h) := (CutP_def _ _ _ _).trans (by kernel_rfl)
theorem q63z16 (P : Program) (K : Value → Heap → Prop) (t0 out3 set4 x19 x20 x26 : Value) (L1 L2 : List Value → Heap → Prop) (size5 ok6 x27 : Value) (h : Heap) : p63z16 P K t0 out3 set4 x19 x20 x26 L1 L2 [size5, ok6, x27] h =
  (OP (iBin .lss x27 x26) fun x28 =>
  IfP x28
    (OP (iBin .shr set4 x27) fun x32 =>
    OP (iBin .and x32 (.int .i64 (1))) fun x33 =>
    OP (iBin .eql x33 (.int .i64 (0))) fun x34 =>
    IfP x34
      (p63z41 P K t0 out3 set4 size5 ok6 x19 x20 x26 x27 L1 L2 h)
      (OP (iBin .add size5 (.int .i64 (1))) fun x36 =>
      LoopP [ok6, (.int .i64 (0))] h fun L3 xs hx =>
      p63z27 P K t0 out3 set4 x36 x27 x19 x20 x26 x27 x27 L1 L2 L3 xs hx))
    (p63z42 P K t0 out3 size5 ok6 x19 x20 L1 h)) := (CutP_def _ _ _ _).trans (by kernel_rfl)
theorem q63z42 (P : Program) (K : Value → Heap → Prop) (t0 out3 size5 ok6 x19 x20 : Value) (L1 : List Value → Heap → Prop) (h : Heap) : p63z42 P K t0 out3 size5 ok6 x19 x20 L1 h =
  (IfP ok6
    (OP (iAdrSl 1 out3 size5) fun x64 =>
    OP (iLoad false 1 h x64) fun x65 =>
    OP (iBin .add x65 (.int .i64 (1))) fun x66 =>
    OP (iAdrSl 1 out3 size5) fun x67 =>
    OH (oStore 1 h x67 x66) fun _ h_1 =>
    p63z44 P K t0 out3 x19 x20 L1 h_1)
    (p63z44 P K t0 out3 x19 x20 L1 h)) := (CutP_def _ _ _ _).trans (by kernel_rfl)
theorem q63z44 (P : Program) (K : Value → Heap → Prop) (t0 out3 x19 x20 : Value) (L1 : List Value → Heap → Prop) (h : Heap) : p63z44 P K t0 out3 x19 x20 L1 h =
  (OP (iBin .add x20 (.int .i64 (1))) fun x68 =>
  ([t0, out3, x19] : List Value) = [t0, out3, x19] ∧ L1 [x68] h) := (CutP_def _ _ _ _).trans (by kernel_rfl)
theorem q63z6 (P : Program) (K : Value → Heap → Prop) (t0 out3 x19 : Value) (L1 : List Value → Heap → Prop) (x20 : Value) (h : Heap) : p63z6 P K t0 out3 x19 L1 [x20] h =
  (OP (iBin .lss x20 x19) fun x21 =>
  IfP x21
    (OP (iNilck t0) fun x24 =>
    OP (iFadr 0 x24) fun x25 =>
    OP (iLoad false 1 h x25) fun x26 =>
    LoopP [(.int .i64 (0)), (.bool true), (.int .i64 (0))] h fun L2 xs hx =>
    p63z16 P K t0 out3 x20 x19 x20 x26 L1 L2 xs hx)
    (p63z45 P K out3 h)) := (CutP_def _ _ _ _).trans (by kernel_rfl)
theorem q63z48 (P : Program) (K : Value → Heap → Prop) (L1 : List Value → Heap → Prop) (out3 : Value) (h : Heap) : p63z48 P K L1 [out3] h =
  (OP (iLenSl out3) fun x71 =>
  OP (iBin .sub x71 (.int .i64 (1))) fun x72 =>
  OP (iAdrSl 1 out3 x72) fun x73 =>
  OP (iLoad false 1 h x73) fun x74 =>
  OP (iBin .eql x74 (.int .i64 (0))) fun x75 =>
  IfP x75
    (OP (iLenSl out3) fun x78 =>
    OP (iBin .sub x78 (.int .i64 (1))) fun x79 =>
    OP (iSlSl 3 1 out3 none (some x79)) fun x80 =>
    ([] : List Value) = [] ∧ L1 [x80] h)
    (p63z52 P K out3 h)) := (CutP_def _ _ _ _).trans (by kernel_rfl)
theorem q63z52 (P : Program) (K : Value → Heap → Prop) (out3 : Value) (h : Heap) : p63z52 P K out3 h =
  (K out3 h) := (CutP_def _ _ _ _).trans (by kernel_rfl)
theorem q63z45 (P : Program) (K : Value → Heap → Prop) (out3 : Value) (h : Heap) : p63z45 P K out3 h =
  (LoopP [out3] h fun L1 xs hx =>
  p63z48 P K L1 xs hx) := (CutP_def _ _ _ _).trans (by kernel_rfl)
def T63 (P : Program) (K : Value → Heap → Prop) (t0 : Value) (h : Heap) : Prop :=
  OP (iNilck t0) fun x10 =>
  OP (iFadr 0 x10) fun x11 =>
  OP (iLoad false 1 h x11) fun x12 =>
  OP (iBin .add x12 (.int .i64 (1))) fun x13 =>
  OH (iMake 3 8 [(.int .i64 (0))] h x13 x13) fun x14 h_1 =>
  OP (iNilck t0) fun x16 =>
  OP (iFadr 0 x16) fun x17 =>
  OP (iLoad false 1 h_1 x17) fun x18 =>
  OP (iBin .shl (.int .i64 (1)) x18) fun x19 =>
  LoopP [(.int .i64 (0))] h_1 fun L1 xs hx =>
  p63z6 P K t0 x14 x19 L1 xs hx
theorem e63 (P : Program) (K : Value → Heap → Prop) (t0 : Value) (h : Heap) : iwpP P c63 (bodyP [.tmp 2] K) (frame0 [t0]) h = T63 P K t0 h := by kernel_rfl
theorem f63 {K : Value → Heap → Prop} {t0 : Value} {h : Heap} (H : T63 Try.prog K t0 h) : CallP Try.prog 63 [t0] h K :=
  callP_intro k63 (Nat.le_of_ble_eq_true rfl) ((e63 Try.prog K t0 h).mpr H)
/-! F64: (pommel/num.Int).Add -/
noncomputable def c64 : ICode := .seq (.ops none [⟨(some 2), .e (.box 104 (.tmp 0))⟩,
    ⟨(some 3), .e (.box 104 (.tmp 1))⟩,
    ⟨(some 4), .e (.alloc 104 [(.bool false), (.slice none 0 0)])⟩])
 (.seq (.block 0 (.seq (.ops none [⟨(some 6), .p (.fadr 0 (.tmp 2))⟩,
      ⟨(some 7), .l (.load false 1 (.tmp 6))⟩,
      ⟨(some 8), .p (.fadr 0 (.tmp 3))⟩,
      ⟨(some 9), .l (.load false 1 (.tmp 8))⟩,
      ⟨(some 10), .p (.eqb false (.tmp 7) (.tmp 9))⟩,
      ⟨(some 5), .p (.mv (.tmp 10))⟩])
   (.cond (.tmp 5) (.seq (.dops [(none, [⟨(some 11), .p (.fadr 0 (.tmp 2)), 0⟩,
       ⟨(some 12), .l (.load false 1 (.tmp 11)), 1⟩,
       ⟨(some 13), .p (.fadr 1 (.tmp 2)), 0⟩,
       ⟨(some 14), .l (.load false 1 (.tmp 13)), 4⟩,
       ⟨(some 15), .p (.fadr 1 (.tmp 3)), 0⟩,
       ⟨(some 16), .l (.load false 1 (.tmp 15)), 16⟩,
       ⟨(some 17), .call 88 [(.tmp 14), (.tmp 16)], 60⟩,
       ⟨(some 18), .call 86 [(.tmp 12), (.tmp 17)], 127⟩,
       ⟨none, .e (.store 2 (.tmp 4) (.tmp 18)), 255⟩])])
    (.ret))
   (.seq (.ops none [⟨(some 20), .p (.fadr 1 (.tmp 2))⟩,
       ⟨(some 21), .l (.load false 1 (.tmp 20))⟩,
       ⟨(some 22), .p (.fadr 1 (.tmp 3))⟩,
       ⟨(some 23), .l (.load false 1 (.tmp 22))⟩,
       ⟨(some 24), .call 89 [(.tmp 21), (.tmp 23)]⟩,
       ⟨(some 25), .p (.bin .geq (.tmp 24) (.const (.int .i64 (0))))⟩,
       ⟨(some 19), .p (.mv (.tmp 25))⟩])
    (.cond (.tmp 19) (.seq (.dops [(none, [⟨(some 26), .p (.fadr 0 (.tmp 2)), 0⟩,
        ⟨(some 27), .l (.load false 1 (.tmp 26)), 1⟩,
        ⟨(some 28), .p (.fadr 1 (.tmp 2)), 0⟩,
        ⟨(some 29), .l (.load false 1 (.tmp 28)), 4⟩,
        ⟨(some 30), .p (.fadr 1 (.tmp 3)), 0⟩,
        ⟨(some 31), .l (.load false 1 (.tmp 30)), 16⟩,
        ⟨(some 32), .call 90 [(.tmp 29), (.tmp 31)], 60⟩,
        ⟨(some 33), .call 86 [(.tmp 27), (.tmp 32)], 127⟩,
        ⟨none, .e (.store 2 (.tmp 4) (.tmp 33)), 255⟩])])
     (.ret))
    (.skip))))))
 (.seq (.dops [(none, [⟨(some 34), .p (.fadr 0 (.tmp 3)), 0⟩,
    ⟨(some 35), .l (.load false 1 (.tmp 34)), 1⟩,
    ⟨(some 36), .p (.fadr 1 (.tmp 3)), 0⟩,
    ⟨(some 37), .l (.load false 1 (.tmp 36)), 4⟩,
    ⟨(some 38), .p (.fadr 1 (.tmp 2)), 0⟩,
    ⟨(some 39), .l (.load false 1 (.tmp 38)), 16⟩,
    ⟨(some 40), .call 90 [(.tmp 37), (.tmp 39)], 60⟩,
    ⟨(some 41), .call 86 [(.tmp 35), (.tmp 40)], 127⟩,
    ⟨none, .e (.store 2 (.tmp 4) (.tmp 41)), 255⟩])])
 (.ret)))
theorem k64 : compFn Try.prog 64 [[], [], [], [], [], [], []] = some (42, c64, [.cell true 2 4]) := by kernel_rfl
def K64z0 (_P : Program) (K : Value → Heap → Prop) : Exit → (Nat → Value) → Heap → Prop := bodyP [.cell true 2 4] K
def T64 (P : Program) (K : Value → Heap → Prop) (a0 b1 : Value) (h : Heap) : Prop :=
  OH (iBox 104 h a0) fun a2 h_1 =>
  OH (iBox 104 h_1 b1) fun b3 h_2 =>
  OH (iAlloc 104 [(.bool false), (.slice none 0 0)] h_2) fun x4 h_3 =>
  OP (iFadr 0 a2) fun x6 =>
  OP (iLoad false 1 h_3 x6) fun x7 =>
  OP (iFadr 0 b3) fun x8 =>
  OP (iLoad false 1 h_3 x8) fun x9 =>
  OP (iEqb false x7 x9) fun x10 =>
  IfP x10
    (OP (iFadr 0 a2) fun x11 =>
    OP (iLoad false 1 h_3 x11) fun x12 =>
    (True) ∧
    OP (iFadr 1 a2) fun x13 =>
    OP (iLoad false 1 h_3 x13) fun x14 =>
    (True) ∧
    OP (iFadr 1 b3) fun x15 =>
    OP (iLoad false 1 h_3 x15) fun x16 =>
    (True) ∧
    CallP P 88 [x14, x16] h_3 fun x17 h_4 =>
    (iLoad false 1 h_4 x11 = some x12 ∧ True) ∧
    CallP P 86 [x12, x17] h_4 fun x18 h_5 =>
    (True) ∧
    OH (oStore 2 h_5 x4 x18) fun _ h_6 =>
    (True) ∧
    OP (iLoad true 2 h_6 x4) fun r0 =>
    K r0 h_6)
    (OP (iFadr 1 a2) fun x20 =>
    OP (iLoad false 1 h_3 x20) fun x21 =>
    OP (iFadr 1 b3) fun x22 =>
    OP (iLoad false 1 h_3 x22) fun x23 =>
    CallP P 89 [x21, x23] h_3 fun x24 h_4 =>
    OP (iBin .geq x24 (.int .i64 (0))) fun x25 =>
    IfP x25
      (OP (iFadr 0 a2) fun x26 =>
      OP (iLoad false 1 h_4 x26) fun x27 =>
      (True) ∧
      OP (iFadr 1 a2) fun x28 =>
      OP (iLoad false 1 h_4 x28) fun x29 =>
      (True) ∧
      OP (iFadr 1 b3) fun x30 =>
      OP (iLoad false 1 h_4 x30) fun x31 =>
      (True) ∧
      CallP P 90 [x29, x31] h_4 fun x32 h_5 =>
      (iLoad false 1 h_5 x26 = some x27 ∧ True) ∧
      CallP P 86 [x27, x32] h_5 fun x33 h_6 =>
      (True) ∧
      OH (oStore 2 h_6 x4 x33) fun _ h_7 =>
      (True) ∧
      OP (iLoad true 2 h_7 x4) fun r0 =>
      K r0 h_7)
      (OP (iFadr 0 b3) fun x34 =>
      OP (iLoad false 1 h_4 x34) fun x35 =>
      (True) ∧
      OP (iFadr 1 b3) fun x36 =>
      OP (iLoad false 1 h_4 x36) fun x37 =>
      (True) ∧
      OP (iFadr 1 a2) fun x38 =>
      OP (iLoad false 1 h_4 x38) fun x39 =>
      (True) ∧
      CallP P 90 [x37, x39] h_4 fun x40 h_5 =>
      (iLoad false 1 h_5 x34 = some x35 ∧ True) ∧
      CallP P 86 [x35, x40] h_5 fun x41 h_6 =>
      (True) ∧
      OH (oStore 2 h_6 x4 x41) fun _ h_7 =>
      (True) ∧
      OP (iLoad true 2 h_7 x4) fun r0 =>
      K r0 h_7))
theorem e64 (P : Program) (K : Value → Heap → Prop) (a0 b1 : Value) (h : Heap) : iwpP P c64 (bodyP [.cell true 2 4] K) (frame0 [a0, b1]) h = T64 P K a0 b1 h := by kernel_rfl
theorem f64 {K : Value → Heap → Prop} {a0 b1 : Value} {h : Heap} (H : T64 Try.prog K a0 b1 h) : CallP Try.prog 64 [a0, b1] h K :=
  callP_intro k64 (Nat.le_of_ble_eq_true rfl) ((e64 Try.prog K a0 b1 h).mpr H)
/-! F65: (pommel/num.Int).Mul -/
noncomputable def c65 : ICode := .seq (.ops none [⟨(some 2), .e (.box 104 (.tmp 0))⟩,
    ⟨(some 3), .e (.box 104 (.tmp 1))⟩,
    ⟨(some 4), .e (.alloc 104 [(.bool false), (.slice none 0 0)])⟩])
 (.seq (.dops [(none, [⟨(some 5), .p (.fadr 0 (.tmp 2)), 0⟩,
    ⟨(some 6), .l (.load false 1 (.tmp 5)), 1⟩,
    ⟨(some 7), .p (.fadr 0 (.tmp 3)), 0⟩,
    ⟨(some 8), .l (.load false 1 (.tmp 7)), 4⟩,
    ⟨(some 9), .p (.eqb true (.tmp 6) (.tmp 8)), 15⟩,
    ⟨(some 10), .p (.fadr 1 (.tmp 2)), 0⟩,
    ⟨(some 11), .l (.load false 1 (.tmp 10)), 32⟩,
    ⟨(some 12), .p (.fadr 1 (.tmp 3)), 0⟩,
    ⟨(some 13), .l (.load false 1 (.tmp 12)), 128⟩,
    ⟨(some 14), .call 91 [(.tmp 11), (.tmp 13)], 480⟩,
    ⟨(some 15), .call 86 [(.tmp 9), (.tmp 14)], 1023⟩,
    ⟨none, .e (.store 2 (.tmp 4) (.tmp 15)), 2047⟩])])
 (.ret))
theorem k65 : compFn Try.prog 65 [[], []] = some (16, c65, [.cell true 2 4]) := by kernel_rfl
def K65z0 (_P : Program) (K : Value → Heap → Prop) : Exit → (Nat → Value) → Heap → Prop := bodyP [.cell true 2 4] K
def T65 (P : Program) (K : Value → Heap → Prop) (a0 b1 : Value) (h : Heap) : Prop :=
  OH (iBox 104 h a0) fun a2 h_1 =>
  OH (iBox 104 h_1 b1) fun b3 h_2 =>
  OH (iAlloc 104 [(.bool false), (.slice none 0 0)] h_2) fun x4 h_3 =>
  OP (iFadr 0 a2) fun x5 =>
  OP (iLoad false 1 h_3 x5) fun x6 =>
  (True) ∧
  OP (iFadr 0 b3) fun x7 =>
  OP (iLoad false 1 h_3 x7) fun x8 =>
  (True) ∧
  OP (iEqb true x6 x8) fun x9 =>
  OP (iFadr 1 a2) fun x10 =>
  OP (iLoad false 1 h_3 x10) fun x11 =>
  (True) ∧
  OP (iFadr 1 b3) fun x12 =>
  OP (iLoad false 1 h_3 x12) fun x13 =>
  (True) ∧
  CallP P 91 [x11, x13] h_3 fun x14 h_4 =>
  (iLoad false 1 h_4 x5 = some x6 ∧ iLoad false 1 h_4 x7 = some x8 ∧ True) ∧
  CallP P 86 [x9, x14] h_4 fun x15 h_5 =>
  (True) ∧
  OH (oStore 2 h_5 x4 x15) fun _ h_6 =>
  (True) ∧
  OP (iLoad true 2 h_6 x4) fun r0 =>
  K r0 h_6
theorem e65 (P : Program) (K : Value → Heap → Prop) (a0 b1 : Value) (h : Heap) : iwpP P c65 (bodyP [.cell true 2 4] K) (frame0 [a0, b1]) h = T65 P K a0 b1 h := by kernel_rfl
theorem f65 {K : Value → Heap → Prop} {a0 b1 : Value} {h : Heap} (H : T65 Try.prog K a0 b1 h) : CallP Try.prog 65 [a0, b1] h K :=
  callP_intro k65 (Nat.le_of_ble_eq_true rfl) ((e65 Try.prog K a0 b1 h).mpr H)
/-! F66: (pommel/num.Int).Sub -/
noncomputable def c66 : ICode := .seq (.ops none [⟨(some 2), .e (.box 104 (.tmp 0))⟩,
    ⟨(some 3), .e (.box 104 (.tmp 1))⟩,
    ⟨(some 4), .e (.alloc 104 [(.bool false), (.slice none 0 0)])⟩])
 (.seq (.dops [(none, [⟨(some 5), .l (.load true 2 (.tmp 2)), 0⟩,
    ⟨(some 6), .l (.load true 2 (.tmp 3)), 0⟩,
    ⟨(some 7), .call 92 [(.tmp 6)], 2⟩,
    ⟨(some 8), .call 64 [(.tmp 5), (.tmp 7)], 7⟩,
    ⟨none, .e (.store 2 (.tmp 4) (.tmp 8)), 15⟩])])
 (.ret))
theorem k66 : compFn Try.prog 66 [[], []] = some (9, c66, [.cell true 2 4]) := by kernel_rfl
def K66z0 (_P : Program) (K : Value → Heap → Prop) : Exit → (Nat → Value) → Heap → Prop := bodyP [.cell true 2 4] K
def T66 (P : Program) (K : Value → Heap → Prop) (a0 b1 : Value) (h : Heap) : Prop :=
  OH (iBox 104 h a0) fun a2 h_1 =>
  OH (iBox 104 h_1 b1) fun b3 h_2 =>
  OH (iAlloc 104 [(.bool false), (.slice none 0 0)] h_2) fun x4 h_3 =>
  OP (iLoad true 2 h_3 a2) fun x5 =>
  (True) ∧
  OP (iLoad true 2 h_3 b3) fun x6 =>
  (True) ∧
  CallP P 92 [x6] h_3 fun x7 h_4 =>
  (iLoad true 2 h_4 a2 = some x5 ∧ True) ∧
  CallP P 64 [x5, x7] h_4 fun x8 h_5 =>
  (True) ∧
  OH (oStore 2 h_5 x4 x8) fun _ h_6 =>
  (True) ∧
  OP (iLoad true 2 h_6 x4) fun r0 =>
  K r0 h_6
theorem e66 (P : Program) (K : Value → Heap → Prop) (a0 b1 : Value) (h : Heap) : iwpP P c66 (bodyP [.cell true 2 4] K) (frame0 [a0, b1]) h = T66 P K a0 b1 h := by kernel_rfl
theorem f66 {K : Value → Heap → Prop} {a0 b1 : Value} {h : Heap} (H : T66 Try.prog K a0 b1 h) : CallP Try.prog 66 [a0, b1] h K :=
  callP_intro k66 (Nat.le_of_ble_eq_true rfl) ((e66 Try.prog K a0 b1 h).mpr H)
/-! F67: pommel/num.FromInt -/
noncomputable def c67 : ICode := .seq (.ops none [⟨(some 1), .e (.box 104 (.tmp 0))⟩,
    ⟨(some 2), .e (.alloc 110 [(.bool false), (.slice none 0 0), (.bool false), (.slice none 0 0)])⟩])
 (.seq (.dops [(none, [⟨(some 3), .l (.load true 2 (.tmp 1)), 0⟩,
    ⟨(some 4), .call 62 [(.const (.int .i64 (1)))], 0⟩,
    ⟨(some 5), .p (.build [(.bool false), (.slice none 0 0), (.bool false), (.slice none 0 0)] [(0, 2, (.tmp 3)), (2, 2, (.tmp 4))]), 3⟩,
    ⟨none, .e (.store 4 (.tmp 2) (.tmp 5)), 7⟩])])
 (.ret))
theorem k67 : compFn Try.prog 67 [[], []] = some (6, c67, [.cell true 4 2]) := by kernel_rfl
def K67z0 (_P : Program) (K : Value → Heap → Prop) : Exit → (Nat → Value) → Heap → Prop := bodyP [.cell true 4 2] K
def T67 (P : Program) (K : Value → Heap → Prop) (n0 : Value) (h : Heap) : Prop :=
  OH (iBox 104 h n0) fun n1 h_1 =>
  OH (iAlloc 110 [(.bool false), (.slice none 0 0), (.bool false), (.slice none 0 0)] h_1) fun x2 h_2 =>
  OP (iLoad true 2 h_2 n1) fun x3 =>
  (True) ∧
  CallP P 62 [(.int .i64 (1))] h_2 fun x4 h_3 =>
  (iLoad true 2 h_3 n1 = some x3 ∧ True) ∧
  OP (iBuild [(.bool false), (.slice none 0 0), (.bool false), (.slice none 0 0)] [(0, 2, x3), (2, 2, x4)]) fun x5 =>
  OH (oStore 4 h_3 x2 x5) fun _ h_4 =>
  (True) ∧
  OP (iLoad true 4 h_4 x2) fun r0 =>
  K r0 h_4
theorem e67 (P : Program) (K : Value → Heap → Prop) (n0 : Value) (h : Heap) : iwpP P c67 (bodyP [.cell true 4 2] K) (frame0 [n0]) h = T67 P K n0 h := by kernel_rfl
theorem f67 {K : Value → Heap → Prop} {n0 : Value} {h : Heap} (H : T67 Try.prog K n0 h) : CallP Try.prog 67 [n0] h K :=
  callP_intro k67 (Nat.le_of_ble_eq_true rfl) ((e67 Try.prog K n0 h).mpr H)
/-! F68: (pommel/num.Rat).Num -/
noncomputable def c68z8 : ICode := .seq (.seq (.ops none [⟨(some 18), .l (.load true 4 (.tmp 1))⟩,
     ⟨(some 19), .call 94 [(.tmp 18)]⟩])
  (.cond (.tmp 19) (.seq (.ops none [⟨(some 20), .p (.mv (.tmp 4))⟩,
      ⟨(some 2), .p (.mv (.tmp 20))⟩,
      ⟨(some 3), .p (.mv (.const (.int .i64 (0))))⟩])
   (.ret))
  (.skip)))
 (.seq (.ops none [⟨(some 21), .p (.fadr 2 (.tmp 1))⟩,
    ⟨(some 22), .p (.fadr 1 (.tmp 21))⟩,
    ⟨(some 23), .l (.load false 1 (.tmp 22))⟩,
    ⟨(some 24), .call 93 [(.tmp 23)]⟩,
    ⟨(some 5), .p (.mv (.tmp 24))⟩])
 (.seq (.seq (.ops none [⟨(some 25), .p (.mv (.tmp 5))⟩,
     ⟨(some 26), .p (.lenS (.tmp 25))⟩,
     ⟨(some 27), .p (.bin .gtr (.tmp 26) (.const (.int .i64 (4000))))⟩])
  (.cond (.tmp 27) (.seq (.ops none [⟨(some 2), .p (.mv (.const (.string ⟨#[]⟩)))⟩,
      ⟨(some 3), .p (.mv (.const (.int .i64 (4))))⟩])
   (.ret))
  (.skip)))
 (.seq (.ops none [⟨(some 28), .p (.mv (.tmp 4))⟩,
    ⟨(some 29), .p (.bin .add (.tmp 28) (.const (.string ⟨#[47]⟩)))⟩,
    ⟨(some 30), .p (.mv (.tmp 5))⟩,
    ⟨(some 31), .p (.bin .add (.tmp 29) (.tmp 30))⟩,
    ⟨(some 2), .p (.mv (.tmp 31))⟩,
    ⟨(some 3), .p (.mv (.const (.int .i64 (0))))⟩])
 (.ret))))
noncomputable def c68 : ICode := .seq (.ops none [⟨(some 1), .e (.box 110 (.tmp 0))⟩,
    ⟨(some 2), .p (.mv (.const (.string ⟨#[]⟩)))⟩,
    ⟨(some 3), .p (.mv (.const (.int .i64 (0))))⟩])
 (.seq (.ops none [⟨(some 6), .p (.fadr 0 (.tmp 1))⟩,
    ⟨(some 7), .p (.fadr 1 (.tmp 6))⟩,
    ⟨(some 8), .l (.load false 1 (.tmp 7))⟩,
    ⟨(some 9), .call 93 [(.tmp 8)]⟩,
    ⟨(some 4), .p (.mv (.tmp 9))⟩])
 (.seq (.seq (.ops none [⟨(some 10), .p (.mv (.tmp 4))⟩,
     ⟨(some 11), .p (.lenS (.tmp 10))⟩,
     ⟨(some 12), .p (.bin .gtr (.tmp 11) (.const (.int .i64 (4000))))⟩])
  (.cond (.tmp 12) (.seq (.ops none [⟨(some 2), .p (.mv (.const (.string ⟨#[]⟩)))⟩,
      ⟨(some 3), .p (.mv (.const (.int .i64 (4))))⟩])
   (.ret))
  (.skip)))
 (.seq (.seq (.ops none [⟨(some 13), .p (.fadr 0 (.tmp 1))⟩,
     ⟨(some 14), .p (.fadr 0 (.tmp 13))⟩,
     ⟨(some 15), .l (.load false 1 (.tmp 14))⟩])
  (.cond (.tmp 15) (.ops none [⟨(some 16), .p (.mv (.tmp 4))⟩,
     ⟨(some 17), .p (.bin .add (.const (.string ⟨#[45]⟩)) (.tmp 16))⟩,
     ⟨(some 4), .p (.mv (.tmp 17))⟩])
  (.skip)))
 (.cut [1, 4] c68z8))))
theorem k68 : compFn Try.prog 68 [[], [], [], [], [], [], [1, 4], [], [], [], [], [], [], [], []] = some (32, c68, [.tmp 2, .tmp 3]) := by kernel_rfl
def K68z0 (_P : Program) (K : Value → Heap → Prop) : Exit → (Nat → Value) → Heap → Prop := bodyP [.tmp 2, .tmp 3] K
def p68z8 (P : Program) (K : Value → Heap → Prop) (a1 s4 : Value) (h : Heap) : Prop := CutP (iwpP P c68z8 (K68z0 P K)) [1, 4] [a1, s4] h
theorem q68z8 (P : Program) (K : Value → Heap → Prop) (a1 s4 : Value) (h : Heap) : p68z8 P K a1 s4 h =
  (OP (iLoad true 4 h a1) fun x18 =>
  CallP P 94 [x18] h fun x19 h_1 =>
  IfP x19
    (K (.tuple #[s4, (.int .i64 (0))]) h_1)
    (OP (iFadr 2 a1) fun x21 =>
    OP (iFadr 1 x21) fun x22 =>
    OP (iLoad false 1 h_1 x22) fun x23 =>
    CallP P 93 [x23] h_1 fun x24 h_2 =>
    OP (iLenS x24) fun x26 =>
    OP (iBin .gtr x26 (.int .i64 (4000))) fun x27 =>
    IfP x27
      (K (.tuple #[(.string ⟨#[]⟩), (.int .i64 (4))]) h_2)
      (OP (iBin .add s4 (.string ⟨#[47]⟩)) fun x29 =>
      OP (iBin .add x29 x24) fun x31 =>
      K (.tuple #[x31, (.int .i64 (0))]) h_2))) := (CutP_def _ _ _ _).trans (by kernel_rfl)
def T68 (P : Program) (K : Value → Heap → Prop) (a0 : Value) (h : Heap) : Prop :=
  OH (iBox 110 h a0) fun a1 h_1 =>
  OP (iFadr 0 a1) fun x6 =>
  OP (iFadr 1 x6) fun x7 =>
  OP (iLoad false 1 h_1 x7) fun x8 =>
  CallP P 93 [x8] h_1 fun x9 h_2 =>
  OP (iLenS x9) fun x11 =>
  OP (iBin .gtr x11 (.int .i64 (4000))) fun x12 =>
  IfP x12
    (K (.tuple #[(.string ⟨#[]⟩), (.int .i64 (4))]) h_2)
    (OP (iFadr 0 a1) fun x13 =>
    OP (iFadr 0 x13) fun x14 =>
    OP (iLoad false 1 h_2 x14) fun x15 =>
    IfP x15
      (OP (iBin .add (.string ⟨#[45]⟩) x9) fun x17 =>
      p68z8 P K a1 x17 h_2)
      (p68z8 P K a1 x9 h_2))
theorem e68 (P : Program) (K : Value → Heap → Prop) (a0 : Value) (h : Heap) : iwpP P c68 (bodyP [.tmp 2, .tmp 3] K) (frame0 [a0]) h = T68 P K a0 h := by kernel_rfl
theorem f68 {K : Value → Heap → Prop} {a0 : Value} {h : Heap} (H : T68 Try.prog K a0 h) : CallP Try.prog 68 [a0] h K :=
  callP_intro k68 (Nat.le_of_ble_eq_true rfl) ((e68 Try.prog K a0 h).mpr H)
/-! F86: pommel/num.made -/
noncomputable def c86z6 : ICode := .ops none [⟨(some 10), .p (.pick (.tmp 6) (.tmp 9) (.const (.bool false)))⟩,
   ⟨(some 11), .p (.mv (.tmp 1))⟩,
   ⟨(some 12), .p (.build [(.bool false), (.slice none 0 0)] [(0, 1, (.tmp 10)), (1, 1, (.tmp 11))])⟩,
   ⟨none, .e (.store 2 (.tmp 4) (.tmp 12))⟩]
noncomputable def c86z4 : ICode := .seq (.ops (some (6, true)) [⟨(some 7), .p (.mv (.tmp 1))⟩,
    ⟨(some 8), .p (.lenSl (.tmp 7))⟩,
    ⟨(some 9), .p (.bin .gtr (.tmp 8) (.const (.int .i64 (0))))⟩])
 (.cut [1, 4, 6, 9] c86z6)
noncomputable def c86z2 : ICode := .ret
noncomputable def c86 : ICode := .seq (.ops none [⟨(some 4), .e (.alloc 104 [(.bool false), (.slice none 0 0)])⟩])
 (.seq (.seq (.ops none [⟨(some 5), .p (.mv (.tmp 0))⟩,
     ⟨(some 6), .p (.mv (.tmp 5))⟩])
  (.cut [1, 4, 6] c86z4)) c86z2)
theorem k86 : compFn Try.prog 86 [[], [1, 4, 6], [1, 4, 6, 9], []] = some (13, c86, [.cell true 2 4]) := by kernel_rfl
def K86z0 (_P : Program) (K : Value → Heap → Prop) : Exit → (Nat → Value) → Heap → Prop := bodyP [.cell true 2 4] K
def K86z2 (P : Program) (K : Value → Heap → Prop) : Exit → (Nat → Value) → Heap → Prop := thenK (iwpP P c86z2 (K86z0 P K)) (K86z0 P K)
def p86z4 (P : Program) (K : Value → Heap → Prop) (mag1 x4 x6 : Value) (h : Heap) : Prop := CutP (iwpP P c86z4 (K86z2 P K)) [1, 4, 6] [mag1, x4, x6] h
def p86z6 (P : Program) (K : Value → Heap → Prop) (mag1 x4 x6 x9 : Value) (h : Heap) : Prop := CutP (iwpP P c86z6 (K86z2 P K)) [1, 4, 6, 9] [mag1, x4, x6, x9] h
theorem q86z6 (P : Program) (K : Value → Heap → Prop) (mag1 x4 x6 x9 : Value) (h : Heap) : p86z6 P K mag1 x4 x6 x9 h =
  (OP (iPick x6 x9 (.bool false)) fun x10 =>
  OP (iBuild [(.bool false), (.slice none 0 0)] [(0, 1, x10), (1, 1, mag1)]) fun x12 =>
  OH (oStore 2 h x4 x12) fun _ h_1 =>
  OP (iLoad true 2 h_1 x4) fun r0 =>
  K r0 h_1) := (CutP_def _ _ _ _).trans (by kernel_rfl)
theorem q86z4 (P : Program) (K : Value → Heap → Prop) (mag1 x4 x6 : Value) (h : Heap) : p86z4 P K mag1 x4 x6 h =
  (GdP x6 true
    (OP (iLenSl mag1) fun x8 =>
    OP (iBin .gtr x8 (.int .i64 (0))) fun x9 =>
    p86z6 P K mag1 x4 x6 x9 h)
    (p86z6 P K mag1 x4 x6 undef h)) := (CutP_def _ _ _ _).trans (by kernel_rfl)
def T86 (P : Program) (K : Value → Heap → Prop) (neg0 mag1 : Value) (h : Heap) : Prop :=
  OH (iAlloc 104 [(.bool false), (.slice none 0 0)] h) fun x4 h_1 =>
  p86z4 P K mag1 x4 neg0 h_1
theorem e86 (P : Program) (K : Value → Heap → Prop) (neg0 mag1 : Value) (h : Heap) : iwpP P c86 (bodyP [.cell true 2 4] K) (frame0 [neg0, mag1]) h = T86 P K neg0 mag1 h := by kernel_rfl
theorem f86 {K : Value → Heap → Prop} {neg0 mag1 : Value} {h : Heap} (H : T86 Try.prog K neg0 mag1 h) : CallP Try.prog 86 [neg0, mag1] h K :=
  callP_intro k86 (Nat.le_of_ble_eq_true rfl) ((e86 Try.prog K neg0 mag1 h).mpr H)
/-! F87: pommel/num.trim -/
noncomputable def c87z10 : ICode := .ops none [⟨(some 14), .p (.pick (.tmp 6) (.tmp 13) (.const (.bool false)))⟩]
noncomputable def c87z8 : ICode := .seq (.ops (some (6, true)) [⟨(some 7), .p (.mv (.tmp 0))⟩,
    ⟨(some 8), .p (.mv (.tmp 0))⟩,
    ⟨(some 9), .p (.lenSl (.tmp 8))⟩,
    ⟨(some 10), .p (.bin .sub (.tmp 9) (.const (.int .i64 (1))))⟩,
    ⟨(some 11), .p (.adrSl 1 (.tmp 7) (.tmp 10))⟩,
    ⟨(some 12), .l (.load false 1 (.tmp 11))⟩,
    ⟨(some 13), .p (.bin .eql (.tmp 12) (.const (.int .u32 (0))))⟩])
 (.cut [0, 6, 13] c87z10)
noncomputable def c87z6 : ICode := .cond (.tmp 14) (.skip)
 (.exit 0)
noncomputable def c87z5 : ICode := .block 1 (.ops none [⟨(some 15), .p (.mv (.tmp 0))⟩,
    ⟨(some 16), .p (.mv (.tmp 0))⟩,
    ⟨(some 17), .p (.lenSl (.tmp 16))⟩,
    ⟨(some 18), .p (.bin .sub (.tmp 17) (.const (.int .i64 (1))))⟩,
    ⟨(some 19), .p (.slSl 143 1 (.tmp 15) none (some (.tmp 18)))⟩,
    ⟨(some 0), .p (.mv (.tmp 19))⟩])
noncomputable def c87z4 : ICode := .seq (.seq (.seq (.ops none [⟨(some 3), .p (.mv (.tmp 0))⟩,
      ⟨(some 4), .p (.lenSl (.tmp 3))⟩,
      ⟨(some 5), .p (.bin .gtr (.tmp 4) (.const (.int .i64 (0))))⟩,
      ⟨(some 6), .p (.mv (.tmp 5))⟩])
   (.cut [0, 6] c87z8)) c87z6) c87z5
noncomputable def c87z12 : ICode := .seq (.ops none [⟨(some 20), .p (.mv (.tmp 0))⟩,
    ⟨(some 2), .p (.mv (.tmp 20))⟩])
 (.ret)
noncomputable def c87z2 : ICode := .cut [0] c87z12
noncomputable def c87 : ICode := .seq (.ops none [⟨(some 2), .p (.mv (.const (.slice none 0 0)))⟩])
 (.seq (.block 0 (.loop [] [0] c87z4)) c87z2)
theorem k87 : compFn Try.prog 87 [[], [], [0], [0, 6], [0, 6, 13], [], [], [0], []] = some (21, c87, [.tmp 2]) := by kernel_rfl
def K87z0 (_P : Program) (K : Value → Heap → Prop) : Exit → (Nat → Value) → Heap → Prop := bodyP [.tmp 2] K
def K87z2 (P : Program) (K : Value → Heap → Prop) : Exit → (Nat → Value) → Heap → Prop := thenK (iwpP P c87z2 (K87z0 P K)) (K87z0 P K)
def K87z3 (P : Program) (K : Value → Heap → Prop) : Exit → (Nat → Value) → Heap → Prop := inBlockK 0 (K87z2 P K)
def K87z4 (P : Program) (K : Value → Heap → Prop) (L1 : List Value → Heap → Prop) : Exit → (Nat → Value) → Heap → Prop := thenK (fun f' h'' => (([] : List Nat).map f' : List Value) = [] ∧ L1 (([0] : List Nat).map f') h'') (K87z3 P K)
def K87z5 (P : Program) (K : Value → Heap → Prop) (L1 : List Value → Heap → Prop) : Exit → (Nat → Value) → Heap → Prop := thenK (iwpP P c87z5 (K87z4 P K L1)) (K87z4 P K L1)
def K87z6 (P : Program) (K : Value → Heap → Prop) (L1 : List Value → Heap → Prop) : Exit → (Nat → Value) → Heap → Prop := thenK (iwpP P c87z6 (K87z5 P K L1)) (K87z5 P K L1)
def p87z4 (P : Program) (K : Value → Heap → Prop) (L1 : List Value → Heap → Prop) (xs : List Value) (h : Heap) : Prop := CutP (iwpP P c87z4 (K87z4 P K L1)) ([] ++ [0]) ([] ++ xs) h
def p87z8 (P : Program) (K : Value → Heap → Prop) (x0 x6 : Value) (L1 : List Value → Heap → Prop) (h : Heap) : Prop := CutP (iwpP P c87z8 (K87z6 P K L1)) [0, 6] [x0, x6] h
def p87z10 (P : Program) (K : Value → Heap → Prop) (x0 x6 x13 : Value) (L1 : List Value → Heap → Prop) (h : Heap) : Prop := CutP (iwpP P c87z10 (K87z6 P K L1)) [0, 6, 13] [x0, x6, x13] h
def p87z12 (P : Program) (K : Value → Heap → Prop) (x0 : Value) (h : Heap) : Prop := CutP (iwpP P c87z12 (K87z0 P K)) [0] [x0] h
theorem q87z10 (P : Program) (K : Value → Heap → Prop) (x0 x6 x13 : Value) (L1 : List Value → Heap → Prop) (h : Heap) : p87z10 P K x0 x6 x13 L1 h =
  (OP (iPick x6 x13 (.bool false)) fun x14 =>
  IfP x14
    (OP (iLenSl x0) fun x17 =>
    OP (iBin .sub x17 (.int .i64 (1))) fun x18 =>
    OP (iSlSl 143 1 x0 none (some x18)) fun x19 =>
    ([] : List Value) = [] ∧ L1 [x19] h)
    (p87z12 P K x0 h)) := (CutP_def _ _ _ _).trans (by kernel_rfl)
theorem q87z8 (P : Program) (K : Value → Heap → Prop) (x0 x6 : Value) (L1 : List Value → Heap → Prop) (h : Heap) : p87z8 P K x0 x6 L1 h =
  (GdP x6 true
    (OP (iLenSl x0) fun x9 =>
    OP (iBin .sub x9 (.int .i64 (1))) fun x10 =>
    OP (iAdrSl 1 x0 x10) fun x11 =>
    OP (iLoad false 1 h x11) fun x12 =>
    OP (iBin .eql x12 (.int .u32 (0))) fun x13 =>
    p87z10 P K x0 x6 x13 L1 h)
    (p87z10 P K x0 x6 undef L1 h)) := (CutP_def _ _ _ _).trans (by kernel_rfl)
theorem q87z4 (P : Program) (K : Value → Heap → Prop) (L1 : List Value → Heap → Prop) (x0 : Value) (h : Heap) : p87z4 P K L1 [x0] h =
  (OP (iLenSl x0) fun x4 =>
  OP (iBin .gtr x4 (.int .i64 (0))) fun x5 =>
  p87z8 P K x0 x5 L1 h) := (CutP_def _ _ _ _).trans (by kernel_rfl)
theorem q87z12 (P : Program) (K : Value → Heap → Prop) (x0 : Value) (h : Heap) : p87z12 P K x0 h =
  (K x0 h) := (CutP_def _ _ _ _).trans (by kernel_rfl)
def T87 (P : Program) (K : Value → Heap → Prop) (x0 : Value) (h : Heap) : Prop :=
  LoopP [x0] h fun L1 xs hx =>
  p87z4 P K L1 xs hx
theorem e87 (P : Program) (K : Value → Heap → Prop) (x0 : Value) (h : Heap) : iwpP P c87 (bodyP [.tmp 2] K) (frame0 [x0]) h = T87 P K x0 h := by kernel_rfl
theorem f87 {K : Value → Heap → Prop} {x0 : Value} {h : Heap} (H : T87 Try.prog K x0 h) : CallP Try.prog 87 [x0] h K :=
  callP_intro k87 (Nat.le_of_ble_eq_true rfl) ((e87 Try.prog K x0 h).mpr H)
/-! F88: pommel/num.plus -/
noncomputable def c88z19 : ICode := .ops none [⟨(some 34), .p (.mv (.tmp 5))⟩,
   ⟨(some 35), .p (.mv (.tmp 7))⟩,
   ⟨(some 36), .p (.mv (.tmp 0))⟩,
   ⟨(some 37), .p (.mv (.tmp 7))⟩,
   ⟨(some 38), .p (.adrSl 1 (.tmp 36) (.tmp 37))⟩,
   ⟨(some 39), .l (.load false 1 (.tmp 38))⟩,
   ⟨(some 40), .p (.mv (.tmp 8))⟩,
   ⟨(some 41), .p (.mv (.tmp 6))⟩,
   ⟨(some 42), .call 109 [(.tmp 39), (.tmp 40), (.tmp 41)]⟩,
   ⟨(some 33), .p (.mv (.tmp 42))⟩,
   ⟨(some 43), .p (.ext (.tmp 33) 0)⟩,
   ⟨(some 44), .p (.ext (.tmp 33) 1)⟩,
   ⟨(some 45), .p (.adrSl 1 (.tmp 34) (.tmp 35))⟩,
   ⟨none, .e (.store 1 (.tmp 45) (.tmp 43))⟩,
   ⟨(some 6), .p (.mv (.tmp 44))⟩]
noncomputable def c88z20 : ICode := .ops none [⟨(some 46), .p (.bin .add (.tmp 22) (.const (.int .i64 (1))))⟩,
   ⟨(some 22), .p (.mv (.tmp 46))⟩]
noncomputable def c88z13 : ICode := .cut [0, 1, 5, 6, 21, 22] c88z20
noncomputable def c88z10 : ICode := .seq (.ops none [⟨(some 23), .p (.bin .lss (.tmp 22) (.tmp 21))⟩])
 (.seq (.cond (.tmp 23) (.skip)
  (.exit 0))
 (.seq (.block 1 (.seq (.ops none [⟨(some 24), .p (.mv (.tmp 22))⟩,
      ⟨(some 7), .p (.mv (.tmp 24))⟩])
   (.seq (.ops none [⟨(some 8), .p (.mv (.const (.int .u32 (0))))⟩])
   (.seq (.seq (.ops none [⟨(some 25), .p (.mv (.tmp 7))⟩,
       ⟨(some 26), .p (.mv (.tmp 1))⟩,
       ⟨(some 27), .p (.lenSl (.tmp 26))⟩,
       ⟨(some 28), .p (.bin .lss (.tmp 25) (.tmp 27))⟩])
    (.cond (.tmp 28) (.ops none [⟨(some 29), .p (.mv (.tmp 1))⟩,
       ⟨(some 30), .p (.mv (.tmp 7))⟩,
       ⟨(some 31), .p (.adrSl 1 (.tmp 29) (.tmp 30))⟩,
       ⟨(some 32), .l (.load false 1 (.tmp 31))⟩,
       ⟨(some 8), .p (.mv (.tmp 32))⟩])
    (.skip)))
   (.cut [0, 1, 5, 6, 7, 8, 21, 22] c88z19))))) c88z13))
noncomputable def c88z21 : ICode := .seq (.ops none [⟨(some 47), .p (.mv (.tmp 5))⟩,
    ⟨(some 48), .p (.mv (.tmp 0))⟩,
    ⟨(some 49), .p (.lenSl (.tmp 48))⟩,
    ⟨(some 50), .p (.mv (.tmp 6))⟩,
    ⟨(some 51), .p (.adrSl 1 (.tmp 47) (.tmp 49))⟩,
    ⟨none, .e (.store 1 (.tmp 51) (.tmp 50))⟩])
 (.seq (.ops none [⟨(some 52), .p (.mv (.tmp 5))⟩,
    ⟨(some 53), .call 87 [(.tmp 52)]⟩,
    ⟨(some 4), .p (.mv (.tmp 53))⟩])
 (.ret))
noncomputable def c88z7 : ICode := .cut [0, 5, 6] c88z21
noncomputable def c88z4 : ICode := .seq (.ops none [⟨(some 16), .p (.mv (.tmp 0))⟩,
    ⟨(some 17), .p (.lenSl (.tmp 16))⟩,
    ⟨(some 18), .p (.bin .add (.tmp 17) (.const (.int .i64 (1))))⟩,
    ⟨(some 19), .e (.make 143 4 [(.int .u32 (0))] (.tmp 18) (.tmp 18))⟩,
    ⟨(some 5), .p (.mv (.tmp 19))⟩])
 (.seq (.ops none [⟨(some 6), .p (.mv (.const (.int .u32 (0))))⟩])
 (.seq (.seq (.ops none [⟨(some 20), .p (.mv (.tmp 0))⟩,
     ⟨(some 21), .p (.lenSl (.tmp 20))⟩,
     ⟨(some 22), .p (.mv (.const (.int .i64 (0))))⟩])
  (.block 0 (.loop [0, 1, 5, 21] [6, 22] c88z10))) c88z7))
noncomputable def c88 : ICode := .seq (.ops none [⟨(some 4), .p (.mv (.const (.slice none 0 0)))⟩])
 (.seq (.seq (.ops none [⟨(some 9), .p (.mv (.tmp 0))⟩,
     ⟨(some 10), .p (.lenSl (.tmp 9))⟩,
     ⟨(some 11), .p (.mv (.tmp 1))⟩,
     ⟨(some 12), .p (.lenSl (.tmp 11))⟩,
     ⟨(some 13), .p (.bin .lss (.tmp 10) (.tmp 12))⟩])
  (.cond (.tmp 13) (.ops none [⟨(some 14), .p (.mv (.tmp 1))⟩,
     ⟨(some 15), .p (.mv (.tmp 0))⟩,
     ⟨(some 0), .p (.mv (.tmp 14))⟩,
     ⟨(some 1), .p (.mv (.tmp 15))⟩])
  (.skip)))
 (.cut [0, 1] c88z4))
theorem k88 : compFn Try.prog 88 [[], [], [0, 1], [], [], [], [0, 1, 5, 21], [6, 22], [], [], [], [], [], [0, 1, 5, 6, 7, 8, 21, 22], [0, 1, 5, 6, 21, 22], [0, 5, 6], [], []] = some (54, c88, [.tmp 4]) := by kernel_rfl
def K88z0 (_P : Program) (K : Value → Heap → Prop) : Exit → (Nat → Value) → Heap → Prop := bodyP [.tmp 4] K
def K88z7 (P : Program) (K : Value → Heap → Prop) : Exit → (Nat → Value) → Heap → Prop := thenK (iwpP P c88z7 (K88z0 P K)) (K88z0 P K)
def K88z9 (P : Program) (K : Value → Heap → Prop) : Exit → (Nat → Value) → Heap → Prop := inBlockK 0 (K88z7 P K)
def K88z10 (P : Program) (K : Value → Heap → Prop) (a0 b1 out5 x21 : Value) (L1 : List Value → Heap → Prop) : Exit → (Nat → Value) → Heap → Prop := thenK (fun f' h'' => (([0, 1, 5, 21] : List Nat).map f' : List Value) = [a0, b1, out5, x21] ∧ L1 (([6, 22] : List Nat).map f') h'') (K88z9 P K)
def K88z13 (P : Program) (K : Value → Heap → Prop) (a0 b1 out5 x21 : Value) (L1 : List Value → Heap → Prop) : Exit → (Nat → Value) → Heap → Prop := thenK (iwpP P c88z13 (K88z10 P K a0 b1 out5 x21 L1)) (K88z10 P K a0 b1 out5 x21 L1)
def K88z14 (P : Program) (K : Value → Heap → Prop) (a0 b1 out5 x21 : Value) (L1 : List Value → Heap → Prop) : Exit → (Nat → Value) → Heap → Prop := inBlockK 1 (K88z13 P K a0 b1 out5 x21 L1)
def p88z4 (P : Program) (K : Value → Heap → Prop) (a0 b1 : Value) (h : Heap) : Prop := CutP (iwpP P c88z4 (K88z0 P K)) [0, 1] [a0, b1] h
def p88z10 (P : Program) (K : Value → Heap → Prop) (a0 b1 out5 x21 : Value) (L1 : List Value → Heap → Prop) (xs : List Value) (h : Heap) : Prop := CutP (iwpP P c88z10 (K88z10 P K a0 b1 out5 x21 L1)) ([0, 1, 5, 21] ++ [6, 22]) ([a0, b1, out5, x21] ++ xs) h
def p88z19 (P : Program) (K : Value → Heap → Prop) (a0 b1 out5 carry6 i7 y8 x21 x22 : Value) (L1 : List Value → Heap → Prop) (h : Heap) : Prop := CutP (iwpP P c88z19 (K88z14 P K a0 b1 out5 x21 L1)) [0, 1, 5, 6, 7, 8, 21, 22] [a0, b1, out5, carry6, i7, y8, x21, x22] h
def p88z20 (P : Program) (K : Value → Heap → Prop) (a0 b1 out5 carry6 x21 x22 : Value) (L1 : List Value → Heap → Prop) (h : Heap) : Prop := CutP (iwpP P c88z20 (K88z10 P K a0 b1 out5 x21 L1)) [0, 1, 5, 6, 21, 22] [a0, b1, out5, carry6, x21, x22] h
def p88z21 (P : Program) (K : Value → Heap → Prop) (a0 out5 carry6 : Value) (h : Heap) : Prop := CutP (iwpP P c88z21 (K88z0 P K)) [0, 5, 6] [a0, out5, carry6] h
theorem q88z19 (P : Program) (K : Value → Heap → Prop) (a0 b1 out5 carry6 i7 y8 x21 x22 : Value) (L1 : List Value → Heap → Prop) (h : Heap) : p88z19 P K a0 b1 out5 carry6 i7 y8 x21 x22 L1 h =
  (OP (iAdrSl 1 a0 i7) fun x38 =>
  OP (iLoad false 1 h x38) fun x39 =>
  CallP P 109 [x39, y8, carry6] h fun x42 h_1 =>
  OP (iExt 0 x42) fun x43 =>
  OP (iExt 1 x42) fun x44 =>
  OP (iAdrSl 1 out5 i7) fun x45 =>
  OH (oStore 1 h_1 x45 x43) fun _ h_2 =>
  p88z20 P K a0 b1 out5 x44 x21 x22 L1 h_2) := (CutP_def _ _ _ _).trans (by kernel_rfl)
theorem q88z20 (P : Program) (K : Value → Heap → Prop) (a0 b1 out5 carry6 x21 x22 : Value) (L1 : List Value → Heap → Prop) (h : Heap) : p88z20 P K a0 b1 out5 carry6 x21 x22 L1 h =
  (OP (iBin .add x22 (.int .i64 (1))) fun x46 =>
  ([a0, b1, out5, x21] : List Value) = [a0, b1, out5, x21] ∧ L1 [carry6, x46] h) := (CutP_def _ _ _ _).trans (by kernel_rfl)
theorem q88z10 (P : Program) (K : Value → Heap → Prop) (a0 b1 out5 x21 : Value) (L1 : List Value → Heap → Prop) (carry6 x22 : Value) (h : Heap) : p88z10 P K a0 b1 out5 x21 L1 [carry6, x22] h =
  (OP (iBin .lss x22 x21) fun x23 =>
  IfP x23
    (OP (iLenSl b1) fun x27 =>
    OP (iBin .lss x22 x27) fun x28 =>
    IfP x28
      (OP (iAdrSl 1 b1 x22) fun x31 =>
      OP (iLoad false 1 h x31) fun x32 =>
      p88z19 P K a0 b1 out5 carry6 x22 x32 x21 x22 L1 h)
      (p88z19 P K a0 b1 out5 carry6 x22 (.int .u32 (0)) x21 x22 L1 h))
    (p88z21 P K a0 out5 carry6 h)) := (CutP_def _ _ _ _).trans (by kernel_rfl)
theorem q88z21 (P : Program) (K : Value → Heap → Prop) (a0 out5 carry6 : Value) (h : Heap) : p88z21 P K a0 out5 carry6 h =
  (OP (iLenSl a0) fun x49 =>
  OP (iAdrSl 1 out5 x49) fun x51 =>
  OH (oStore 1 h x51 carry6) fun _ h_1 =>
  CallP P 87 [out5] h_1 fun x53 h_2 =>
  K x53 h_2) := (CutP_def _ _ _ _).trans (by kernel_rfl)
theorem q88z4 (P : Program) (K : Value → Heap → Prop) (a0 b1 : Value) (h : Heap) : p88z4 P K a0 b1 h =
  (OP (iLenSl a0) fun x17 =>
  OP (iBin .add x17 (.int .i64 (1))) fun x18 =>
  OH (iMake 143 4 [(.int .u32 (0))] h x18 x18) fun x19 h_1 =>
  OP (iLenSl a0) fun x21 =>
  LoopP [(.int .u32 (0)), (.int .i64 (0))] h_1 fun L1 xs hx =>
  p88z10 P K a0 b1 x19 x21 L1 xs hx) := (CutP_def _ _ _ _).trans (by kernel_rfl)
def T88 (P : Program) (K : Value → Heap → Prop) (a0 b1 : Value) (h : Heap) : Prop :=
  OP (iLenSl a0) fun x10 =>
  OP (iLenSl b1) fun x12 =>
  OP (iBin .lss x10 x12) fun x13 =>
  IfP x13
    (p88z4 P K b1 a0 h)
    (p88z4 P K a0 b1 h)
theorem e88 (P : Program) (K : Value → Heap → Prop) (a0 b1 : Value) (h : Heap) : iwpP P c88 (bodyP [.tmp 4] K) (frame0 [a0, b1]) h = T88 P K a0 b1 h := by kernel_rfl
theorem f88 {K : Value → Heap → Prop} {a0 b1 : Value} {h : Heap} (H : T88 Try.prog K a0 b1 h) : CallP Try.prog 88 [a0, b1] h K :=
  callP_intro k88 (Nat.le_of_ble_eq_true rfl) ((e88 Try.prog K a0 b1 h).mpr H)
/-! F89: pommel/num.compare -/
noncomputable def c89z11 : ICode := .seq (.seq (.ops none [⟨(some 19), .p (.mv (.tmp 5))⟩,
     ⟨(some 20), .p (.bin .geq (.tmp 19) (.const (.int .i64 (0))))⟩])
  (.cond (.tmp 20) (.skip)
  (.exit 0)))
 (.seq (.block 1 (.seq (.dops [(none, [⟨(some 23), .p (.mv (.tmp 0)), 0⟩,
      ⟨(some 24), .p (.mv (.tmp 5)), 0⟩,
      ⟨(some 25), .p (.adrSl 1 (.tmp 23) (.tmp 24)), 3⟩,
      ⟨(some 26), .l (.load false 1 (.tmp 25)), 7⟩,
      ⟨(some 27), .p (.mv (.tmp 1)), 0⟩,
      ⟨(some 28), .p (.mv (.tmp 5)), 0⟩,
      ⟨(some 29), .p (.adrSl 1 (.tmp 27) (.tmp 28)), 48⟩,
      ⟨(some 30), .l (.load false 1 (.tmp 29)), 112⟩,
      ⟨(some 31), .p (.bin .neq (.tmp 26) (.tmp 30)), 255⟩])])
   (.cond (.tmp 31) (.seq (.seq (.dops [(none, [⟨(some 32), .p (.mv (.tmp 0)), 0⟩,
        ⟨(some 33), .p (.mv (.tmp 5)), 0⟩,
        ⟨(some 34), .p (.adrSl 1 (.tmp 32) (.tmp 33)), 3⟩,
        ⟨(some 35), .l (.load false 1 (.tmp 34)), 7⟩,
        ⟨(some 36), .p (.mv (.tmp 1)), 0⟩,
        ⟨(some 37), .p (.mv (.tmp 5)), 0⟩,
        ⟨(some 38), .p (.adrSl 1 (.tmp 36) (.tmp 37)), 48⟩,
        ⟨(some 39), .l (.load false 1 (.tmp 38)), 112⟩,
        ⟨(some 40), .p (.bin .lss (.tmp 35) (.tmp 39)), 255⟩])])
     (.cond (.tmp 40) (.seq (.ops none [⟨(some 4), .p (.mv (.const (.int .i64 (-1))))⟩])
      (.ret))
     (.skip)))
    (.seq (.ops none [⟨(some 4), .p (.mv (.const (.int .i64 (1))))⟩])
    (.ret)))
   (.skip))))
 (.ops none [⟨(some 21), .p (.mv (.tmp 5))⟩,
   ⟨(some 22), .p (.bin .sub (.tmp 21) (.const (.int .i64 (1))))⟩,
   ⟨(some 5), .p (.mv (.tmp 22))⟩]))
noncomputable def c89z8 : ICode := .seq (.ops none [⟨(some 4), .p (.mv (.const (.int .i64 (0))))⟩])
 (.ret)
noncomputable def c89 : ICode := .seq (.ops none [⟨(some 4), .p (.mv (.const (.int .i64 (0))))⟩])
 (.seq (.seq (.ops none [⟨(some 6), .p (.mv (.tmp 0))⟩,
     ⟨(some 7), .p (.lenSl (.tmp 6))⟩,
     ⟨(some 8), .p (.mv (.tmp 1))⟩,
     ⟨(some 9), .p (.lenSl (.tmp 8))⟩,
     ⟨(some 10), .p (.bin .neq (.tmp 7) (.tmp 9))⟩])
  (.cond (.tmp 10) (.seq (.seq (.ops none [⟨(some 11), .p (.mv (.tmp 0))⟩,
       ⟨(some 12), .p (.lenSl (.tmp 11))⟩,
       ⟨(some 13), .p (.mv (.tmp 1))⟩,
       ⟨(some 14), .p (.lenSl (.tmp 13))⟩,
       ⟨(some 15), .p (.bin .lss (.tmp 12) (.tmp 14))⟩])
    (.cond (.tmp 15) (.seq (.ops none [⟨(some 4), .p (.mv (.const (.int .i64 (-1))))⟩])
     (.ret))
    (.skip)))
   (.seq (.ops none [⟨(some 4), .p (.mv (.const (.int .i64 (1))))⟩])
   (.ret)))
  (.skip)))
 (.seq (.seq (.ops none [⟨(some 16), .p (.mv (.tmp 0))⟩,
     ⟨(some 17), .p (.lenSl (.tmp 16))⟩,
     ⟨(some 18), .p (.bin .sub (.tmp 17) (.const (.int .i64 (1))))⟩,
     ⟨(some 5), .p (.mv (.tmp 18))⟩])
  (.block 0 (.loop [0, 1] [5] c89z11))) c89z8))
theorem k89 : compFn Try.prog 89 [[], [], [], [], [], [], [], [], [0, 1], [5], [], [], [], [], [], [], [], [], [], []] = some (41, c89, [.tmp 4]) := by kernel_rfl
def K89z0 (_P : Program) (K : Value → Heap → Prop) : Exit → (Nat → Value) → Heap → Prop := bodyP [.tmp 4] K
def K89z8 (P : Program) (K : Value → Heap → Prop) : Exit → (Nat → Value) → Heap → Prop := thenK (iwpP P c89z8 (K89z0 P K)) (K89z0 P K)
def K89z10 (P : Program) (K : Value → Heap → Prop) : Exit → (Nat → Value) → Heap → Prop := inBlockK 0 (K89z8 P K)
def K89z11 (P : Program) (K : Value → Heap → Prop) (a0 b1 : Value) (L1 : List Value → Heap → Prop) : Exit → (Nat → Value) → Heap → Prop := thenK (fun f' h'' => (([0, 1] : List Nat).map f' : List Value) = [a0, b1] ∧ L1 (([5] : List Nat).map f') h'') (K89z10 P K)
def p89z11 (P : Program) (K : Value → Heap → Prop) (a0 b1 : Value) (L1 : List Value → Heap → Prop) (xs : List Value) (h : Heap) : Prop := CutP (iwpP P c89z11 (K89z11 P K a0 b1 L1)) ([0, 1] ++ [5]) ([a0, b1] ++ xs) h
theorem q89z11 (P : Program) (K : Value → Heap → Prop) (a0 b1 : Value) (L1 : List Value → Heap → Prop) (i5 : Value) (h : Heap) : p89z11 P K a0 b1 L1 [i5] h =
  (OP (iBin .geq i5 (.int .i64 (0))) fun x20 =>
  IfP x20
    (OP (iAdrSl 1 a0 i5) fun x25 =>
    OP (iLoad false 1 h x25) fun x26 =>
    (True) ∧
    OP (iAdrSl 1 b1 i5) fun x29 =>
    OP (iLoad false 1 h x29) fun x30 =>
    (True) ∧
    OP (iBin .neq x26 x30) fun x31 =>
    IfP x31
      (OP (iAdrSl 1 a0 i5) fun x34 =>
      OP (iLoad false 1 h x34) fun x35 =>
      (True) ∧
      OP (iAdrSl 1 b1 i5) fun x38 =>
      OP (iLoad false 1 h x38) fun x39 =>
      (True) ∧
      OP (iBin .lss x35 x39) fun x40 =>
      IfP x40
        (K (.int .i64 (-1)) h)
        (K (.int .i64 (1)) h))
      (OP (iBin .sub i5 (.int .i64 (1))) fun x22 =>
      ([a0, b1] : List Value) = [a0, b1] ∧ L1 [x22] h))
    (K (.int .i64 (0)) h)) := (CutP_def _ _ _ _).trans (by kernel_rfl)
def T89 (P : Program) (K : Value → Heap → Prop) (a0 b1 : Value) (h : Heap) : Prop :=
  OP (iLenSl a0) fun x7 =>
  OP (iLenSl b1) fun x9 =>
  OP (iBin .neq x7 x9) fun x10 =>
  IfP x10
    (OP (iLenSl a0) fun x12 =>
    OP (iLenSl b1) fun x14 =>
    OP (iBin .lss x12 x14) fun x15 =>
    IfP x15
      (K (.int .i64 (-1)) h)
      (K (.int .i64 (1)) h))
    (OP (iLenSl a0) fun x17 =>
    OP (iBin .sub x17 (.int .i64 (1))) fun x18 =>
    LoopP [x18] h fun L1 xs hx =>
    p89z11 P K a0 b1 L1 xs hx)
theorem e89 (P : Program) (K : Value → Heap → Prop) (a0 b1 : Value) (h : Heap) : iwpP P c89 (bodyP [.tmp 4] K) (frame0 [a0, b1]) h = T89 P K a0 b1 h := by kernel_rfl
theorem f89 {K : Value → Heap → Prop} {a0 b1 : Value} {h : Heap} (H : T89 Try.prog K a0 b1 h) : CallP Try.prog 89 [a0, b1] h K :=
  callP_intro k89 (Nat.le_of_ble_eq_true rfl) ((e89 Try.prog K a0 b1 h).mpr H)
/-! F90: pommel/num.minus -/
noncomputable def c90z16 : ICode := .ops none [⟨(some 26), .p (.mv (.tmp 5))⟩,
   ⟨(some 27), .p (.mv (.tmp 7))⟩,
   ⟨(some 28), .p (.mv (.tmp 0))⟩,
   ⟨(some 29), .p (.mv (.tmp 7))⟩,
   ⟨(some 30), .p (.adrSl 1 (.tmp 28) (.tmp 29))⟩,
   ⟨(some 31), .l (.load false 1 (.tmp 30))⟩,
   ⟨(some 32), .p (.mv (.tmp 8))⟩,
   ⟨(some 33), .p (.mv (.tmp 6))⟩,
   ⟨(some 34), .call 110 [(.tmp 31), (.tmp 32), (.tmp 33)]⟩,
   ⟨(some 25), .p (.mv (.tmp 34))⟩,
   ⟨(some 35), .p (.ext (.tmp 25) 0)⟩,
   ⟨(some 36), .p (.ext (.tmp 25) 1)⟩,
   ⟨(some 37), .p (.adrSl 1 (.tmp 26) (.tmp 27))⟩,
   ⟨none, .e (.store 1 (.tmp 37) (.tmp 35))⟩,
   ⟨(some 6), .p (.mv (.tmp 36))⟩]
noncomputable def c90z17 : ICode := .ops none [⟨(some 38), .p (.bin .add (.tmp 14) (.const (.int .i64 (1))))⟩,
   ⟨(some 14), .p (.mv (.tmp 38))⟩]
noncomputable def c90z10 : ICode := .cut [0, 1, 5, 6, 13, 14] c90z17
noncomputable def c90z7 : ICode := .seq (.ops none [⟨(some 15), .p (.bin .lss (.tmp 14) (.tmp 13))⟩])
 (.seq (.cond (.tmp 15) (.skip)
  (.exit 0))
 (.seq (.block 1 (.seq (.ops none [⟨(some 16), .p (.mv (.tmp 14))⟩,
      ⟨(some 7), .p (.mv (.tmp 16))⟩])
   (.seq (.ops none [⟨(some 8), .p (.mv (.const (.int .u32 (0))))⟩])
   (.seq (.seq (.ops none [⟨(some 17), .p (.mv (.tmp 7))⟩,
       ⟨(some 18), .p (.mv (.tmp 1))⟩,
       ⟨(some 19), .p (.lenSl (.tmp 18))⟩,
       ⟨(some 20), .p (.bin .lss (.tmp 17) (.tmp 19))⟩])
    (.cond (.tmp 20) (.ops none [⟨(some 21), .p (.mv (.tmp 1))⟩,
       ⟨(some 22), .p (.mv (.tmp 7))⟩,
       ⟨(some 23), .p (.adrSl 1 (.tmp 21) (.tmp 22))⟩,
       ⟨(some 24), .l (.load false 1 (.tmp 23))⟩,
       ⟨(some 8), .p (.mv (.tmp 24))⟩])
    (.skip)))
   (.cut [0, 1, 5, 6, 7, 8, 13, 14] c90z16))))) c90z10))
noncomputable def c90z18 : ICode := .seq (.ops none [⟨(some 39), .p (.mv (.tmp 5))⟩,
    ⟨(some 40), .call 87 [(.tmp 39)]⟩,
    ⟨(some 4), .p (.mv (.tmp 40))⟩])
 (.ret)
noncomputable def c90z4 : ICode := .cut [5] c90z18
noncomputable def c90 : ICode := .seq (.ops none [⟨(some 4), .p (.mv (.const (.slice none 0 0)))⟩])
 (.seq (.ops none [⟨(some 9), .p (.mv (.tmp 0))⟩,
    ⟨(some 10), .p (.lenSl (.tmp 9))⟩,
    ⟨(some 11), .e (.make 143 4 [(.int .u32 (0))] (.tmp 10) (.tmp 10))⟩,
    ⟨(some 5), .p (.mv (.tmp 11))⟩])
 (.seq (.ops none [⟨(some 6), .p (.mv (.const (.int .u32 (0))))⟩])
 (.seq (.seq (.ops none [⟨(some 12), .p (.mv (.tmp 0))⟩,
     ⟨(some 13), .p (.lenSl (.tmp 12))⟩,
     ⟨(some 14), .p (.mv (.const (.int .i64 (0))))⟩])
  (.block 0 (.loop [0, 1, 5, 13] [6, 14] c90z7))) c90z4)))
theorem k90 : compFn Try.prog 90 [[], [], [], [], [0, 1, 5, 13], [6, 14], [], [], [], [], [], [0, 1, 5, 6, 7, 8, 13, 14], [0, 1, 5, 6, 13, 14], [5], []] = some (41, c90, [.tmp 4]) := by kernel_rfl
def K90z0 (_P : Program) (K : Value → Heap → Prop) : Exit → (Nat → Value) → Heap → Prop := bodyP [.tmp 4] K
def K90z4 (P : Program) (K : Value → Heap → Prop) : Exit → (Nat → Value) → Heap → Prop := thenK (iwpP P c90z4 (K90z0 P K)) (K90z0 P K)
def K90z6 (P : Program) (K : Value → Heap → Prop) : Exit → (Nat → Value) → Heap → Prop := inBlockK 0 (K90z4 P K)
def K90z7 (P : Program) (K : Value → Heap → Prop) (a0 b1 out5 x13 : Value) (L1 : List Value → Heap → Prop) : Exit → (Nat → Value) → Heap → Prop := thenK (fun f' h'' => (([0, 1, 5, 13] : List Nat).map f' : List Value) = [a0, b1, out5, x13] ∧ L1 (([6, 14] : List Nat).map f') h'') (K90z6 P K)
def K90z10 (P : Program) (K : Value → Heap → Prop) (a0 b1 out5 x13 : Value) (L1 : List Value → Heap → Prop) : Exit → (Nat → Value) → Heap → Prop := thenK (iwpP P c90z10 (K90z7 P K a0 b1 out5 x13 L1)) (K90z7 P K a0 b1 out5 x13 L1)
def K90z11 (P : Program) (K : Value → Heap → Prop) (a0 b1 out5 x13 : Value) (L1 : List Value → Heap → Prop) : Exit → (Nat → Value) → Heap → Prop := inBlockK 1 (K90z10 P K a0 b1 out5 x13 L1)
def p90z7 (P : Program) (K : Value → Heap → Prop) (a0 b1 out5 x13 : Value) (L1 : List Value → Heap → Prop) (xs : List Value) (h : Heap) : Prop := CutP (iwpP P c90z7 (K90z7 P K a0 b1 out5 x13 L1)) ([0, 1, 5, 13] ++ [6, 14]) ([a0, b1, out5, x13] ++ xs) h
def p90z16 (P : Program) (K : Value → Heap → Prop) (a0 b1 out5 borrow6 i7 y8 x13 x14 : Value) (L1 : List Value → Heap → Prop) (h : Heap) : Prop := CutP (iwpP P c90z16 (K90z11 P K a0 b1 out5 x13 L1)) [0, 1, 5, 6, 7, 8, 13, 14] [a0, b1, out5, borrow6, i7, y8, x13, x14] h
def p90z17 (P : Program) (K : Value → Heap → Prop) (a0 b1 out5 borrow6 x13 x14 : Value) (L1 : List Value → Heap → Prop) (h : Heap) : Prop := CutP (iwpP P c90z17 (K90z7 P K a0 b1 out5 x13 L1)) [0, 1, 5, 6, 13, 14] [a0, b1, out5, borrow6, x13, x14] h
def p90z18 (P : Program) (K : Value → Heap → Prop) (out5 : Value) (h : Heap) : Prop := CutP (iwpP P c90z18 (K90z0 P K)) [5] [out5] h
theorem q90z16 (P : Program) (K : Value → Heap → Prop) (a0 b1 out5 borrow6 i7 y8 x13 x14 : Value) (L1 : List Value → Heap → Prop) (h : Heap) : p90z16 P K a0 b1 out5 borrow6 i7 y8 x13 x14 L1 h =
  (OP (iAdrSl 1 a0 i7) fun x30 =>
  OP (iLoad false 1 h x30) fun x31 =>
  CallP P 110 [x31, y8, borrow6] h fun x34 h_1 =>
  OP (iExt 0 x34) fun x35 =>
  OP (iExt 1 x34) fun x36 =>
  OP (iAdrSl 1 out5 i7) fun x37 =>
  OH (oStore 1 h_1 x37 x35) fun _ h_2 =>
  p90z17 P K a0 b1 out5 x36 x13 x14 L1 h_2) := (CutP_def _ _ _ _).trans (by kernel_rfl)
theorem q90z17 (P : Program) (K : Value → Heap → Prop) (a0 b1 out5 borrow6 x13 x14 : Value) (L1 : List Value → Heap → Prop) (h : Heap) : p90z17 P K a0 b1 out5 borrow6 x13 x14 L1 h =
  (OP (iBin .add x14 (.int .i64 (1))) fun x38 =>
  ([a0, b1, out5, x13] : List Value) = [a0, b1, out5, x13] ∧ L1 [borrow6, x38] h) := (CutP_def _ _ _ _).trans (by kernel_rfl)
theorem q90z7 (P : Program) (K : Value → Heap → Prop) (a0 b1 out5 x13 : Value) (L1 : List Value → Heap → Prop) (borrow6 x14 : Value) (h : Heap) : p90z7 P K a0 b1 out5 x13 L1 [borrow6, x14] h =
  (OP (iBin .lss x14 x13) fun x15 =>
  IfP x15
    (OP (iLenSl b1) fun x19 =>
    OP (iBin .lss x14 x19) fun x20 =>
    IfP x20
      (OP (iAdrSl 1 b1 x14) fun x23 =>
      OP (iLoad false 1 h x23) fun x24 =>
      p90z16 P K a0 b1 out5 borrow6 x14 x24 x13 x14 L1 h)
      (p90z16 P K a0 b1 out5 borrow6 x14 (.int .u32 (0)) x13 x14 L1 h))
    (p90z18 P K out5 h)) := (CutP_def _ _ _ _).trans (by kernel_rfl)
theorem q90z18 (P : Program) (K : Value → Heap → Prop) (out5 : Value) (h : Heap) : p90z18 P K out5 h =
  (CallP P 87 [out5] h fun x40 h_1 =>
  K x40 h_1) := (CutP_def _ _ _ _).trans (by kernel_rfl)
def T90 (P : Program) (K : Value → Heap → Prop) (a0 b1 : Value) (h : Heap) : Prop :=
  OP (iLenSl a0) fun x10 =>
  OH (iMake 143 4 [(.int .u32 (0))] h x10 x10) fun x11 h_1 =>
  OP (iLenSl a0) fun x13 =>
  LoopP [(.int .u32 (0)), (.int .i64 (0))] h_1 fun L1 xs hx =>
  p90z7 P K a0 b1 x11 x13 L1 xs hx
theorem e90 (P : Program) (K : Value → Heap → Prop) (a0 b1 : Value) (h : Heap) : iwpP P c90 (bodyP [.tmp 4] K) (frame0 [a0, b1]) h = T90 P K a0 b1 h := by kernel_rfl
theorem f90 {K : Value → Heap → Prop} {a0 b1 : Value} {h : Heap} (H : T90 Try.prog K a0 b1 h) : CallP Try.prog 90 [a0, b1] h K :=
  callP_intro k90 (Nat.le_of_ble_eq_true rfl) ((e90 Try.prog K a0 b1 h).mpr H)
/-! F91: pommel/num.times -/
noncomputable def c91z16 : ICode := .seq (.ops none [⟨(some 28), .p (.bin .lss (.tmp 27) (.tmp 26))⟩])
 (.seq (.cond (.tmp 28) (.skip)
  (.exit 2))
 (.seq (.block 3 (.seq (.ops none [⟨(some 29), .p (.mv (.tmp 27))⟩,
      ⟨(some 30), .p (.adrSl 1 (.tmp 25) (.tmp 27))⟩,
      ⟨(some 31), .l (.load false 1 (.tmp 30))⟩,
      ⟨(some 9), .p (.mv (.tmp 29))⟩,
      ⟨(some 10), .p (.mv (.tmp 31))⟩])
   (.seq (.ops none [⟨(some 32), .p (.mv (.tmp 7))⟩,
      ⟨(some 33), .p (.conv .u64 (.tmp 32))⟩,
      ⟨(some 34), .p (.mv (.tmp 10))⟩,
      ⟨(some 35), .p (.conv .u64 (.tmp 34))⟩,
      ⟨(some 36), .p (.bin .mul (.tmp 33) (.tmp 35))⟩,
      ⟨(some 37), .p (.mv (.tmp 5))⟩,
      ⟨(some 38), .p (.mv (.tmp 6))⟩,
      ⟨(some 39), .p (.mv (.tmp 9))⟩,
      ⟨(some 40), .p (.bin .add (.tmp 38) (.tmp 39))⟩,
      ⟨(some 41), .p (.adrSl 1 (.tmp 37) (.tmp 40))⟩,
      ⟨(some 42), .l (.load false 1 (.tmp 41))⟩,
      ⟨(some 43), .p (.conv .u64 (.tmp 42))⟩,
      ⟨(some 44), .p (.bin .add (.tmp 36) (.tmp 43))⟩,
      ⟨(some 45), .p (.mv (.tmp 8))⟩,
      ⟨(some 46), .p (.bin .add (.tmp 44) (.tmp 45))⟩,
      ⟨(some 11), .p (.mv (.tmp 46))⟩])
   (.ops none [⟨(some 47), .p (.mv (.tmp 5))⟩,
     ⟨(some 48), .p (.mv (.tmp 6))⟩,
     ⟨(some 49), .p (.mv (.tmp 9))⟩,
     ⟨(some 50), .p (.bin .add (.tmp 48) (.tmp 49))⟩,
     ⟨(some 51), .p (.mv (.tmp 11))⟩,
     ⟨(some 52), .p (.conv .u32 (.tmp 51))⟩,
     ⟨(some 53), .p (.mv (.tmp 11))⟩,
     ⟨(some 54), .p (.bin .shr (.tmp 53) (.const (.int .u64 (32))))⟩,
     ⟨(some 55), .p (.adrSl 1 (.tmp 47) (.tmp 50))⟩,
     ⟨none, .e (.store 1 (.tmp 55) (.tmp 52))⟩,
     ⟨(some 8), .p (.mv (.tmp 54))⟩]))))
 (.ops none [⟨(some 56), .p (.bin .add (.tmp 27) (.const (.int .i64 (1))))⟩,
   ⟨(some 27), .p (.mv (.tmp 56))⟩])))
noncomputable def c91z23 : ICode := .ops none [⟨(some 57), .p (.mv (.tmp 5))⟩,
   ⟨(some 58), .p (.mv (.tmp 6))⟩,
   ⟨(some 59), .p (.mv (.tmp 1))⟩,
   ⟨(some 60), .p (.lenSl (.tmp 59))⟩,
   ⟨(some 61), .p (.bin .add (.tmp 58) (.tmp 60))⟩,
   ⟨(some 62), .p (.mv (.tmp 8))⟩,
   ⟨(some 63), .p (.conv .u32 (.tmp 62))⟩,
   ⟨(some 64), .p (.adrSl 1 (.tmp 57) (.tmp 61))⟩,
   ⟨none, .e (.store 1 (.tmp 64) (.tmp 63))⟩]
noncomputable def c91z13 : ICode := .cut [1, 5, 6, 8, 18, 19, 20] c91z23
noncomputable def c91z24 : ICode := .ops none [⟨(some 65), .p (.bin .add (.tmp 20) (.const (.int .i64 (1))))⟩,
   ⟨(some 20), .p (.mv (.tmp 65))⟩]
noncomputable def c91z9 : ICode := .cut [1, 5, 18, 19, 20] c91z24
noncomputable def c91z6 : ICode := .seq (.ops none [⟨(some 21), .p (.bin .lss (.tmp 20) (.tmp 19))⟩])
 (.seq (.cond (.tmp 21) (.skip)
  (.exit 0))
 (.seq (.block 1 (.seq (.ops none [⟨(some 22), .p (.mv (.tmp 20))⟩,
      ⟨(some 23), .p (.adrSl 1 (.tmp 18) (.tmp 20))⟩,
      ⟨(some 24), .l (.load false 1 (.tmp 23))⟩,
      ⟨(some 6), .p (.mv (.tmp 22))⟩,
      ⟨(some 7), .p (.mv (.tmp 24))⟩])
   (.seq (.ops none [⟨(some 8), .p (.mv (.const (.int .u64 (0))))⟩])
   (.seq (.seq (.ops none [⟨(some 25), .p (.mv (.tmp 1))⟩,
       ⟨(some 26), .p (.lenSl (.tmp 25))⟩,
       ⟨(some 27), .p (.mv (.const (.int .i64 (0))))⟩])
    (.block 2 (.loop [1, 5, 6, 7, 18, 19, 20, 25, 26] [8, 27] c91z16))) c91z13)))) c91z9))
noncomputable def c91z25 : ICode := .seq (.ops none [⟨(some 66), .p (.mv (.tmp 5))⟩,
    ⟨(some 67), .call 87 [(.tmp 66)]⟩,
    ⟨(some 4), .p (.mv (.tmp 67))⟩])
 (.ret)
noncomputable def c91z3 : ICode := .cut [5] c91z25
noncomputable def c91 : ICode := .seq (.ops none [⟨(some 4), .p (.mv (.const (.slice none 0 0)))⟩])
 (.seq (.ops none [⟨(some 12), .p (.mv (.tmp 0))⟩,
    ⟨(some 13), .p (.lenSl (.tmp 12))⟩,
    ⟨(some 14), .p (.mv (.tmp 1))⟩,
    ⟨(some 15), .p (.lenSl (.tmp 14))⟩,
    ⟨(some 16), .p (.bin .add (.tmp 13) (.tmp 15))⟩,
    ⟨(some 17), .e (.make 143 4 [(.int .u32 (0))] (.tmp 16) (.tmp 16))⟩,
    ⟨(some 5), .p (.mv (.tmp 17))⟩])
 (.seq (.seq (.ops none [⟨(some 18), .p (.mv (.tmp 0))⟩,
     ⟨(some 19), .p (.lenSl (.tmp 18))⟩,
     ⟨(some 20), .p (.mv (.const (.int .i64 (0))))⟩])
  (.block 0 (.loop [1, 5, 18, 19] [20] c91z6))) c91z3))
theorem k91 : compFn Try.prog 91 [[], [], [], [1, 5, 18, 19], [20], [], [], [], [], [], [1, 5, 6, 7, 18, 19, 20, 25, 26], [8, 27], [], [], [], [], [], [1, 5, 6, 8, 18, 19, 20], [1, 5, 18, 19, 20], [5], []] = some (68, c91, [.tmp 4]) := by kernel_rfl
def K91z0 (_P : Program) (K : Value → Heap → Prop) : Exit → (Nat → Value) → Heap → Prop := bodyP [.tmp 4] K
def K91z3 (P : Program) (K : Value → Heap → Prop) : Exit → (Nat → Value) → Heap → Prop := thenK (iwpP P c91z3 (K91z0 P K)) (K91z0 P K)
def K91z5 (P : Program) (K : Value → Heap → Prop) : Exit → (Nat → Value) → Heap → Prop := inBlockK 0 (K91z3 P K)
def K91z6 (P : Program) (K : Value → Heap → Prop) (b1 out5 x18 x19 : Value) (L1 : List Value → Heap → Prop) : Exit → (Nat → Value) → Heap → Prop := thenK (fun f' h'' => (([1, 5, 18, 19] : List Nat).map f' : List Value) = [b1, out5, x18, x19] ∧ L1 (([20] : List Nat).map f') h'') (K91z5 P K)
def K91z9 (P : Program) (K : Value → Heap → Prop) (b1 out5 x18 x19 : Value) (L1 : List Value → Heap → Prop) : Exit → (Nat → Value) → Heap → Prop := thenK (iwpP P c91z9 (K91z6 P K b1 out5 x18 x19 L1)) (K91z6 P K b1 out5 x18 x19 L1)
def K91z10 (P : Program) (K : Value → Heap → Prop) (b1 out5 x18 x19 : Value) (L1 : List Value → Heap → Prop) : Exit → (Nat → Value) → Heap → Prop := inBlockK 1 (K91z9 P K b1 out5 x18 x19 L1)
def K91z13 (P : Program) (K : Value → Heap → Prop) (b1 out5 x18 x19 : Value) (L1 : List Value → Heap → Prop) : Exit → (Nat → Value) → Heap → Prop := thenK (iwpP P c91z13 (K91z10 P K b1 out5 x18 x19 L1)) (K91z10 P K b1 out5 x18 x19 L1)
def K91z15 (P : Program) (K : Value → Heap → Prop) (b1 out5 x18 x19 : Value) (L1 : List Value → Heap → Prop) : Exit → (Nat → Value) → Heap → Prop := inBlockK 2 (K91z13 P K b1 out5 x18 x19 L1)
def K91z16 (P : Program) (K : Value → Heap → Prop) (b1 out5 i6 x7 x18 x19 x20 x25 x26 : Value) (L1 L2 : List Value → Heap → Prop) : Exit → (Nat → Value) → Heap → Prop := thenK (fun f' h'' => (([1, 5, 6, 7, 18, 19, 20, 25, 26] : List Nat).map f' : List Value) = [b1, out5, i6, x7, x18, x19, x20, x25, x26] ∧ L2 (([8, 27] : List Nat).map f') h'') (K91z15 P K b1 out5 x18 x19 L1)
def p91z6 (P : Program) (K : Value → Heap → Prop) (b1 out5 x18 x19 : Value) (L1 : List Value → Heap → Prop) (xs : List Value) (h : Heap) : Prop := CutP (iwpP P c91z6 (K91z6 P K b1 out5 x18 x19 L1)) ([1, 5, 18, 19] ++ [20]) ([b1, out5, x18, x19] ++ xs) h
def p91z16 (P : Program) (K : Value → Heap → Prop) (b1 out5 i6 x7 x18 x19 x20 x25 x26 : Value) (L1 L2 : List Value → Heap → Prop) (xs : List Value) (h : Heap) : Prop := CutP (iwpP P c91z16 (K91z16 P K b1 out5 i6 x7 x18 x19 x20 x25 x26 L1 L2)) ([1, 5, 6, 7, 18, 19, 20, 25, 26] ++ [8, 27]) ([b1, out5, i6, x7, x18, x19, x20, x25, x26] ++ xs) h
def p91z23 (P : Program) (K : Value → Heap → Prop) (b1 out5 i6 carry8 x18 x19 x20 : Value) (L1 : List Value → Heap → Prop) (h : Heap) : Prop := CutP (iwpP P c91z23 (K91z10 P K b1 out5 x18 x19 L1)) [1, 5, 6, 8, 18, 19, 20] [b1, out5, i6, carry8, x18, x19, x20] h
def p91z24 (P : Program) (K : Value → Heap → Prop) (b1 out5 x18 x19 x20 : Value) (L1 : List Value → Heap → Prop) (h : Heap) : Prop := CutP (iwpP P c91z24 (K91z6 P K b1 out5 x18 x19 L1)) [1, 5, 18, 19, 20] [b1, out5, x18, x19, x20] h
def p91z25 (P : Program) (K : Value → Heap → Prop) (out5 : Value) (h : Heap) : Prop := CutP (iwpP P c91z25 (K91z0 P K)) [5] [out5] h
theorem q91z16 (P : Program) (K : Value → Heap → Prop) (b1 out5 i6 x7 x18 x19 x20 x25 x26 : Value) (L1 L2 : List Value → Heap → Prop) (carry8 x27 : Value) (h : Heap) : p91z16 P K b1 out5 i6 x7 x18 x19 x20 x25 x26 L1 L2 [carry8, x27] h =
  (OP (iBin .lss x27 x26) fun x28 =>
  IfP x28
    (OP (iAdrSl 1 x25 x27) fun x30 =>
    OP (iLoad false 1 h x30) fun x31 =>
    OP (iConv .u64 x7) fun x33 =>
    OP (iConv .u64 x31) fun x35 =>
    OP (iBin .mul x33 x35) fun x36 =>
    OP (iBin .add i6 x27) fun x40 =>
    OP (iAdrSl 1 out5 x40) fun x41 =>
    OP (iLoad false 1 h x41) fun x42 =>
    OP (iConv .u64 x42) fun x43 =>
    OP (iBin .add x36 x43) fun x44 =>
    OP (iBin .add x44 carry8) fun x46 =>
    OP (iBin .add i6 x27) fun x50 =>
    OP (iConv .u32 x46) fun x52 =>
    OP (iBin .shr x46 (.int .u64 (32))) fun x54 =>
    OP (iAdrSl 1 out5 x50) fun x55 =>
    OH (oStore 1 h x55 x52) fun _ h_1 =>
    OP (iBin .add x27 (.int .i64 (1))) fun x56 =>
    ([b1, out5, i6, x7, x18, x19, x20, x25, x26] : List Value) = [b1, out5, i6, x7, x18, x19, x20, x25, x26] ∧ L2 [x54, x56] h_1)
    (p91z23 P K b1 out5 i6 carry8 x18 x19 x20 L1 h)) := (CutP_def _ _ _ _).trans (by kernel_rfl)
theorem q91z23 (P : Program) (K : Value → Heap → Prop) (b1 out5 i6 carry8 x18 x19 x20 : Value) (L1 : List Value → Heap → Prop) (h : Heap) : p91z23 P K b1 out5 i6 carry8 x18 x19 x20 L1 h =
  (OP (iLenSl b1) fun x60 =>
  OP (iBin .add i6 x60) fun x61 =>
  OP (iConv .u32 carry8) fun x63 =>
  OP (iAdrSl 1 out5 x61) fun x64 =>
  OH (oStore 1 h x64 x63) fun _ h_1 =>
  p91z24 P K b1 out5 x18 x19 x20 L1 h_1) := (CutP_def _ _ _ _).trans (by kernel_rfl)
theorem q91z24 (P : Program) (K : Value → Heap → Prop) (b1 out5 x18 x19 x20 : Value) (L1 : List Value → Heap → Prop) (h : Heap) : p91z24 P K b1 out5 x18 x19 x20 L1 h =
  (OP (iBin .add x20 (.int .i64 (1))) fun x65 =>
  ([b1, out5, x18, x19] : List Value) = [b1, out5, x18, x19] ∧ L1 [x65] h) := (CutP_def _ _ _ _).trans (by kernel_rfl)
theorem q91z6 (P : Program) (K : Value → Heap → Prop) (b1 out5 x18 x19 : Value) (L1 : List Value → Heap → Prop) (x20 : Value) (h : Heap) : p91z6 P K b1 out5 x18 x19 L1 [x20] h =
  (OP (iBin .lss x20 x19) fun x21 =>
  IfP x21
    (OP (iAdrSl 1 x18 x20) fun x23 =>
    OP (iLoad false 1 h x23) fun x24 =>
    OP (iLenSl b1) fun x26 =>
    LoopP [(.int .u64 (0)), (.int .i64 (0))] h fun L2 xs hx =>
    p91z16 P K b1 out5 x20 x24 x18 x19 x20 b1 x26 L1 L2 xs hx)
    (p91z25 P K out5 h)) := (CutP_def _ _ _ _).trans (by kernel_rfl)
theorem q91z25 (P : Program) (K : Value → Heap → Prop) (out5 : Value) (h : Heap) : p91z25 P K out5 h =
  (CallP P 87 [out5] h fun x67 h_1 =>
  K x67 h_1) := (CutP_def _ _ _ _).trans (by kernel_rfl)
def T91 (P : Program) (K : Value → Heap → Prop) (a0 b1 : Value) (h : Heap) : Prop :=
  OP (iLenSl a0) fun x13 =>
  OP (iLenSl b1) fun x15 =>
  OP (iBin .add x13 x15) fun x16 =>
  OH (iMake 143 4 [(.int .u32 (0))] h x16 x16) fun x17 h_1 =>
  OP (iLenSl a0) fun x19 =>
  LoopP [(.int .i64 (0))] h_1 fun L1 xs hx =>
  p91z6 P K b1 x17 a0 x19 L1 xs hx
theorem e91 (P : Program) (K : Value → Heap → Prop) (a0 b1 : Value) (h : Heap) : iwpP P c91 (bodyP [.tmp 4] K) (frame0 [a0, b1]) h = T91 P K a0 b1 h := by kernel_rfl
theorem f91 {K : Value → Heap → Prop} {a0 b1 : Value} {h : Heap} (H : T91 Try.prog K a0 b1 h) : CallP Try.prog 91 [a0, b1] h K :=
  callP_intro k91 (Nat.le_of_ble_eq_true rfl) ((e91 Try.prog K a0 b1 h).mpr H)
/-! F92: (pommel/num.Int).Neg -/
noncomputable def c92 : ICode := .seq (.ops none [⟨(some 1), .e (.box 104 (.tmp 0))⟩,
    ⟨(some 2), .e (.alloc 104 [(.bool false), (.slice none 0 0)])⟩])
 (.seq (.ops none [⟨(some 3), .p (.fadr 0 (.tmp 1))⟩,
    ⟨(some 4), .l (.load false 1 (.tmp 3))⟩,
    ⟨(some 5), .p (.un .not (.tmp 4))⟩,
    ⟨(some 6), .p (.fadr 1 (.tmp 1))⟩,
    ⟨(some 7), .l (.load false 1 (.tmp 6))⟩,
    ⟨(some 8), .call 86 [(.tmp 5), (.tmp 7)]⟩,
    ⟨none, .e (.store 2 (.tmp 2) (.tmp 8))⟩])
 (.ret))
theorem k92 : compFn Try.prog 92 [[], []] = some (9, c92, [.cell true 2 2]) := by kernel_rfl
def K92z0 (_P : Program) (K : Value → Heap → Prop) : Exit → (Nat → Value) → Heap → Prop := bodyP [.cell true 2 2] K
def T92 (P : Program) (K : Value → Heap → Prop) (a0 : Value) (h : Heap) : Prop :=
  OH (iBox 104 h a0) fun a1 h_1 =>
  OH (iAlloc 104 [(.bool false), (.slice none 0 0)] h_1) fun x2 h_2 =>
  OP (iFadr 0 a1) fun x3 =>
  OP (iLoad false 1 h_2 x3) fun x4 =>
  OP (iUn .not x4) fun x5 =>
  OP (iFadr 1 a1) fun x6 =>
  OP (iLoad false 1 h_2 x6) fun x7 =>
  CallP P 86 [x5, x7] h_2 fun x8 h_3 =>
  OH (oStore 2 h_3 x2 x8) fun _ h_4 =>
  OP (iLoad true 2 h_4 x2) fun r0 =>
  K r0 h_4
theorem e92 (P : Program) (K : Value → Heap → Prop) (a0 : Value) (h : Heap) : iwpP P c92 (bodyP [.cell true 2 2] K) (frame0 [a0]) h = T92 P K a0 h := by kernel_rfl
theorem f92 {K : Value → Heap → Prop} {a0 : Value} {h : Heap} (H : T92 Try.prog K a0 h) : CallP Try.prog 92 [a0] h K :=
  callP_intro k92 (Nat.le_of_ble_eq_true rfl) ((e92 Try.prog K a0 h).mpr H)
/-! F93: pommel/num.text -/
noncomputable def c93z26 : ICode := .ops none [⟨(some 28), .p (.pick (.tmp 20) (.tmp 27) (.const (.bool false)))⟩]
noncomputable def c93z24 : ICode := .seq (.ops (some (20, true)) [⟨(some 27), .p (.pick (.tmp 24) (.const (.bool true)) (.tmp 26))⟩])
 (.cut [3, 4, 5, 6, 20, 27] c93z26)
noncomputable def c93z22 : ICode := .seq (.ops (some (24, false)) [⟨(some 25), .p (.mv (.tmp 5))⟩,
    ⟨(some 26), .p (.bin .gtr (.tmp 25) (.const (.int .u32 (0))))⟩])
 (.cut [3, 4, 5, 6, 20, 24, 26] c93z24)
noncomputable def c93z20 : ICode := .seq (.ops (some (20, true)) [⟨(some 21), .p (.mv (.tmp 4))⟩,
    ⟨(some 22), .p (.lenSl (.tmp 21))⟩,
    ⟨(some 23), .p (.bin .gtr (.tmp 22) (.const (.int .i64 (0))))⟩,
    ⟨(some 24), .p (.mv (.tmp 23))⟩])
 (.cut [3, 4, 5, 6, 20, 24] c93z22)
noncomputable def c93z18 : ICode := .cond (.tmp 28) (.skip)
 (.exit 2)
noncomputable def c93z17 : ICode := .seq (.block 3 (.seq (.ops none [⟨(some 31), .p (.mv (.tmp 3))⟩,
      ⟨(some 32), .p (.mv (.tmp 5))⟩,
      ⟨(some 33), .p (.bin .rem (.tmp 32) (.const (.int .u32 (10))))⟩,
      ⟨(some 34), .p (.bin .add (.const (.int .u32 (48))) (.tmp 33))⟩,
      ⟨(some 35), .p (.conv .u8 (.tmp 34))⟩,
      ⟨(some 36), .e (.mkSl 5 1 [(.int .u8 (0))] [(0, 1, (.tmp 35))])⟩,
      ⟨(some 37), .e (.app 5 1 1 (.tmp 31) (.tmp 36))⟩,
      ⟨(some 3), .p (.mv (.tmp 37))⟩])
   (.ops none [⟨(some 38), .p (.mv (.tmp 5))⟩,
     ⟨(some 39), .p (.bin .quo (.tmp 38) (.const (.int .u32 (10))))⟩,
     ⟨(some 5), .p (.mv (.tmp 39))⟩])))
 (.ops none [⟨(some 29), .p (.mv (.tmp 6))⟩,
   ⟨(some 30), .p (.bin .add (.tmp 29) (.const (.int .i64 (1))))⟩,
   ⟨(some 6), .p (.mv (.tmp 30))⟩])
noncomputable def c93z16 : ICode := .seq (.seq (.seq (.ops none [⟨(some 18), .p (.mv (.tmp 6))⟩,
      ⟨(some 19), .p (.bin .lss (.tmp 18) (.const (.int .i64 (9))))⟩,
      ⟨(some 20), .p (.mv (.tmp 19))⟩])
   (.cut [3, 4, 5, 6, 20] c93z20)) c93z18) c93z17
noncomputable def c93z30 : ICode := .ops none [⟨(some 40), .p (.mv (.tmp 4))⟩,
   ⟨(some 0), .p (.mv (.tmp 40))⟩]
noncomputable def c93z13 : ICode := .cut [3, 4] c93z30
noncomputable def c93z8 : ICode := .seq (.seq (.ops none [⟨(some 10), .p (.mv (.tmp 0))⟩,
     ⟨(some 11), .p (.lenSl (.tmp 10))⟩,
     ⟨(some 12), .p (.bin .gtr (.tmp 11) (.const (.int .i64 (0))))⟩])
  (.cond (.tmp 12) (.skip)
  (.exit 0)))
 (.block 1 (.seq (.ops none [⟨(some 14), .p (.mv (.tmp 0))⟩,
     ⟨(some 15), .call 111 [(.tmp 14), (.const (.int .u32 (1000000000)))]⟩,
     ⟨(some 13), .p (.mv (.tmp 15))⟩,
     ⟨(some 16), .p (.ext (.tmp 13) 0)⟩,
     ⟨(some 17), .p (.ext (.tmp 13) 1)⟩,
     ⟨(some 4), .p (.mv (.tmp 16))⟩,
     ⟨(some 5), .p (.mv (.tmp 17))⟩])
  (.seq (.seq (.ops none [⟨(some 6), .p (.mv (.const (.int .i64 (0))))⟩])
   (.block 2 (.loop [4] [3, 5, 6] c93z16))) c93z13)))
noncomputable def c93z31 : ICode := .seq (.ops none [⟨(some 41), .p (.mv (.tmp 3))⟩,
    ⟨(some 42), .call 112 [(.tmp 41)]⟩])
 (.seq (.ops none [⟨(some 43), .p (.mv (.tmp 3))⟩,
    ⟨(some 44), .l (.b2s (.tmp 43))⟩,
    ⟨(some 2), .p (.mv (.tmp 44))⟩])
 (.ret))
noncomputable def c93z6 : ICode := .cut [3] c93z31
noncomputable def c93 : ICode := .seq (.ops none [⟨(some 2), .p (.mv (.const (.string ⟨#[]⟩)))⟩])
 (.seq (.seq (.ops none [⟨(some 7), .p (.mv (.tmp 0))⟩,
     ⟨(some 8), .p (.lenSl (.tmp 7))⟩,
     ⟨(some 9), .p (.bin .eql (.tmp 8) (.const (.int .i64 (0))))⟩])
  (.cond (.tmp 9) (.seq (.ops none [⟨(some 2), .p (.mv (.const (.string ⟨#[48]⟩)))⟩])
   (.ret))
  (.skip)))
 (.seq (.ops none [⟨(some 3), .p (.mv (.const (.slice none 0 0)))⟩])
 (.seq (.block 0 (.loop [] [0, 3] c93z8)) c93z6)))
theorem k93 : compFn Try.prog 93 [[], [], [], [], [], [], [0, 3], [], [], [], [], [4], [3, 5, 6], [3, 4, 5, 6, 20], [3, 4, 5, 6, 20, 24], [3, 4, 5, 6, 20, 24, 26], [3, 4, 5, 6, 20, 27], [], [], [], [], [3, 4], [3], [], []] = some (45, c93, [.tmp 2]) := by kernel_rfl
def K93z0 (_P : Program) (K : Value → Heap → Prop) : Exit → (Nat → Value) → Heap → Prop := bodyP [.tmp 2] K
def K93z6 (P : Program) (K : Value → Heap → Prop) : Exit → (Nat → Value) → Heap → Prop := thenK (iwpP P c93z6 (K93z0 P K)) (K93z0 P K)
def K93z7 (P : Program) (K : Value → Heap → Prop) : Exit → (Nat → Value) → Heap → Prop := inBlockK 0 (K93z6 P K)
def K93z8 (P : Program) (K : Value → Heap → Prop) (L1 : List Value → Heap → Prop) : Exit → (Nat → Value) → Heap → Prop := thenK (fun f' h'' => (([] : List Nat).map f' : List Value) = [] ∧ L1 (([0, 3] : List Nat).map f') h'') (K93z7 P K)
def K93z11 (P : Program) (K : Value → Heap → Prop) (L1 : List Value → Heap → Prop) : Exit → (Nat → Value) → Heap → Prop := inBlockK 1 (K93z8 P K L1)
def K93z13 (P : Program) (K : Value → Heap → Prop) (L1 : List Value → Heap → Prop) : Exit → (Nat → Value) → Heap → Prop := thenK (iwpP P c93z13 (K93z11 P K L1)) (K93z11 P K L1)
def K93z15 (P : Program) (K : Value → Heap → Prop) (L1 : List Value → Heap → Prop) : Exit → (Nat → Value) → Heap → Prop := inBlockK 2 (K93z13 P K L1)
def K93z16 (P : Program) (K : Value → Heap → Prop) (q4 : Value) (L1 L2 : List Value → Heap → Prop) : Exit → (Nat → Value) → Heap → Prop := thenK (fun f' h'' => (([4] : List Nat).map f' : List Value) = [q4] ∧ L2 (([3, 5, 6] : List Nat).map f') h'') (K93z15 P K L1)
def K93z17 (P : Program) (K : Value → Heap → Prop) (q4 : Value) (L1 L2 : List Value → Heap → Prop) : Exit → (Nat → Value) → Heap → Prop := thenK (iwpP P c93z17 (K93z16 P K q4 L1 L2)) (K93z16 P K q4 L1 L2)
def K93z18 (P : Program) (K : Value → Heap → Prop) (q4 : Value) (L1 L2 : List Value → Heap → Prop) : Exit → (Nat → Value) → Heap → Prop := thenK (iwpP P c93z18 (K93z17 P K q4 L1 L2)) (K93z17 P K q4 L1 L2)
def p93z8 (P : Program) (K : Value → Heap → Prop) (L1 : List Value → Heap → Prop) (xs : List Value) (h : Heap) : Prop := CutP (iwpP P c93z8 (K93z8 P K L1)) ([] ++ [0, 3]) ([] ++ xs) h
def p93z16 (P : Program) (K : Value → Heap → Prop) (q4 : Value) (L1 L2 : List Value → Heap → Prop) (xs : List Value) (h : Heap) : Prop := CutP (iwpP P c93z16 (K93z16 P K q4 L1 L2)) ([4] ++ [3, 5, 6]) ([q4] ++ xs) h
def p93z20 (P : Program) (K : Value → Heap → Prop) (b3 q4 r5 i6 x20 : Value) (L1 L2 : List Value → Heap → Prop) (h : Heap) : Prop := CutP (iwpP P c93z20 (K93z18 P K q4 L1 L2)) [3, 4, 5, 6, 20] [b3, q4, r5, i6, x20] h
def p93z22 (P : Program) (K : Value → Heap → Prop) (b3 q4 r5 i6 x20 x24 : Value) (L1 L2 : List Value → Heap → Prop) (h : Heap) : Prop := CutP (iwpP P c93z22 (K93z18 P K q4 L1 L2)) [3, 4, 5, 6, 20, 24] [b3, q4, r5, i6, x20, x24] h
def p93z24 (P : Program) (K : Value → Heap → Prop) (b3 q4 r5 i6 x20 x24 x26 : Value) (L1 L2 : List Value → Heap → Prop) (h : Heap) : Prop := CutP (iwpP P c93z24 (K93z18 P K q4 L1 L2)) [3, 4, 5, 6, 20, 24, 26] [b3, q4, r5, i6, x20, x24, x26] h
def p93z26 (P : Program) (K : Value → Heap → Prop) (b3 q4 r5 i6 x20 x27 : Value) (L1 L2 : List Value → Heap → Prop) (h : Heap) : Prop := CutP (iwpP P c93z26 (K93z18 P K q4 L1 L2)) [3, 4, 5, 6, 20, 27] [b3, q4, r5, i6, x20, x27] h
def p93z30 (P : Program) (K : Value → Heap → Prop) (b3 q4 : Value) (L1 : List Value → Heap → Prop) (h : Heap) : Prop := CutP (iwpP P c93z30 (K93z11 P K L1)) [3, 4] [b3, q4] h
def p93z31 (P : Program) (K : Value → Heap → Prop) (b3 : Value) (h : Heap) : Prop := CutP (iwpP P c93z31 (K93z0 P K)) [3] [b3] h
theorem q93z26 (P : Program) (K : Value → Heap → Prop) (b3 q4 r5 i6 x20 x27 : Value) (L1 L2 : List Value → Heap → Prop) (h : Heap) : p93z26 P K b3 q4 r5 i6 x20 x27 L1 L2 h =
  (OP (iPick x20 x27 (.bool false)) fun x28 =>
  IfP x28
    (OP (iBin .rem r5 (.int .u32 (10))) fun x33 =>
    OP (iBin .add (.int .u32 (48)) x33) fun x34 =>
    OP (iConv .u8 x34) fun x35 =>
    OH (iMkSl 5 1 [(.int .u8 (0))] h [(0, 1, x35)]) fun x36 h_1 =>
    OH (iApp 5 1 1 h_1 b3 x36) fun x37 h_2 =>
    OP (iBin .quo r5 (.int .u32 (10))) fun x39 =>
    OP (iBin .add i6 (.int .i64 (1))) fun x30 =>
    ([q4] : List Value) = [q4] ∧ L2 [x37, x39, x30] h_2)
    (p93z30 P K b3 q4 L1 h)) := (CutP_def _ _ _ _).trans (by kernel_rfl)
theorem q93z24 (P : Program) (K : Value → Heap → Prop) (b3 q4 r5 i6 x20 x24 x26 : Value) (L1 L2 : List Value → Heap → Prop) (h : Heap) : p93z24 P K b3 q4 r5 i6 x20 x24 x26 L1 L2 h =
  (GdP x20 true
    (OP (iPick x24 (.bool true) x26) fun x27 =>
    p93z26 P K b3 q4 r5 i6 x20 x27 L1 L2 h)
    (p93z26 P K b3 q4 r5 i6 x20 undef L1 L2 h)) := (CutP_def _ _ _ _).trans (by kernel_rfl)
theorem q93z22 (P : Program) (K : Value → Heap → Prop) (b3 q4 r5 i6 x20 x24 : Value) (L1 L2 : List Value → Heap → Prop) (h : Heap) : p93z22 P K b3 q4 r5 i6 x20 x24 L1 L2 h =
  (GdP x24 false
    (OP (iBin .gtr r5 (.int .u32 (0))) fun x26 =>
    p93z24 P K b3 q4 r5 i6 x20 x24 x26 L1 L2 h)
    (p93z24 P K b3 q4 r5 i6 x20 x24 undef L1 L2 h)) := (CutP_def _ _ _ _).trans (by kernel_rfl)
theorem q93z20 (P : Program) (K : Value → Heap → Prop) (b3 q4 r5 i6 x20 : Value) (L1 L2 : List Value → Heap → Prop) (h : Heap) : p93z20 P K b3 q4 r5 i6 x20 L1 L2 h =
  (GdP x20 true
    (OP (iLenSl q4) fun x22 =>
    OP (iBin .gtr x22 (.int .i64 (0))) fun x23 =>
    p93z22 P K b3 q4 r5 i6 x20 x23 L1 L2 h)
    (p93z22 P K b3 q4 r5 i6 x20 undef L1 L2 h)) := (CutP_def _ _ _ _).trans (by kernel_rfl)
theorem q93z16 (P : Program) (K : Value → Heap → Prop) (q4 : Value) (L1 L2 : List Value → Heap → Prop) (b3 r5 i6 : Value) (h : Heap) : p93z16 P K q4 L1 L2 [b3, r5, i6] h =
  (OP (iBin .lss i6 (.int .i64 (9))) fun x19 =>
  p93z20 P K b3 q4 r5 i6 x19 L1 L2 h) := (CutP_def _ _ _ _).trans (by kernel_rfl)
theorem q93z30 (P : Program) (K : Value → Heap → Prop) (b3 q4 : Value) (L1 : List Value → Heap → Prop) (h : Heap) : p93z30 P K b3 q4 L1 h =
  (([] : List Value) = [] ∧ L1 [q4, b3] h) := (CutP_def _ _ _ _).trans (by kernel_rfl)
theorem q93z8 (P : Program) (K : Value → Heap → Prop) (L1 : List Value → Heap → Prop) (x0 b3 : Value) (h : Heap) : p93z8 P K L1 [x0, b3] h =
  (OP (iLenSl x0) fun x11 =>
  OP (iBin .gtr x11 (.int .i64 (0))) fun x12 =>
  IfP x12
    (CallP P 111 [x0, (.int .u32 (1000000000))] h fun x15 h_1 =>
    OP (iExt 0 x15) fun x16 =>
    OP (iExt 1 x15) fun x17 =>
    LoopP [b3, x17, (.int .i64 (0))] h_1 fun L2 xs hx =>
    p93z16 P K x16 L1 L2 xs hx)
    (p93z31 P K b3 h)) := (CutP_def _ _ _ _).trans (by kernel_rfl)
theorem q93z31 (P : Program) (K : Value → Heap → Prop) (b3 : Value) (h : Heap) : p93z31 P K b3 h =
  (CallP P 112 [b3] h fun x42 h_1 =>
  OP (iB2s h_1 b3) fun x44 =>
  K x44 h_1) := (CutP_def _ _ _ _).trans (by kernel_rfl)
def T93 (P : Program) (K : Value → Heap → Prop) (x0 : Value) (h : Heap) : Prop :=
  OP (iLenSl x0) fun x8 =>
  OP (iBin .eql x8 (.int .i64 (0))) fun x9 =>
  IfP x9
    (K (.string ⟨#[48]⟩) h)
    (LoopP [x0, (.slice none 0 0)] h fun L1 xs hx =>
    p93z8 P K L1 xs hx)
theorem e93 (P : Program) (K : Value → Heap → Prop) (x0 : Value) (h : Heap) : iwpP P c93 (bodyP [.tmp 2] K) (frame0 [x0]) h = T93 P K x0 h := by kernel_rfl
theorem f93 {K : Value → Heap → Prop} {x0 : Value} {h : Heap} (H : T93 Try.prog K x0 h) : CallP Try.prog 93 [x0] h K :=
  callP_intro k93 (Nat.le_of_ble_eq_true rfl) ((e93 Try.prog K x0 h).mpr H)
/-! F94: (pommel/num.Rat).Integer -/
noncomputable def c94z6 : ICode := .ops none [⟨(some 15), .p (.pick (.tmp 8) (.tmp 14) (.const (.bool false)))⟩,
   ⟨(some 2), .p (.mv (.tmp 15))⟩]
noncomputable def c94z4 : ICode := .seq (.ops (some (8, true)) [⟨(some 9), .p (.fadr 2 (.tmp 1))⟩,
    ⟨(some 10), .p (.fadr 1 (.tmp 9))⟩,
    ⟨(some 11), .l (.load false 1 (.tmp 10))⟩,
    ⟨(some 12), .p (.adrSl 1 (.tmp 11) (.const (.int .i64 (0))))⟩,
    ⟨(some 13), .l (.load false 1 (.tmp 12))⟩,
    ⟨(some 14), .p (.bin .eql (.tmp 13) (.const (.int .u32 (1))))⟩])
 (.cut [8, 14] c94z6)
noncomputable def c94z2 : ICode := .ret
noncomputable def c94 : ICode := .seq (.ops none [⟨(some 1), .e (.box 110 (.tmp 0))⟩,
    ⟨(some 2), .p (.mv (.const (.bool false)))⟩])
 (.seq (.seq (.ops none [⟨(some 3), .p (.fadr 2 (.tmp 1))⟩,
     ⟨(some 4), .p (.fadr 1 (.tmp 3))⟩,
     ⟨(some 5), .l (.load false 1 (.tmp 4))⟩,
     ⟨(some 6), .p (.lenSl (.tmp 5))⟩,
     ⟨(some 7), .p (.bin .eql (.tmp 6) (.const (.int .i64 (1))))⟩,
     ⟨(some 8), .p (.mv (.tmp 7))⟩])
  (.cut [1, 8] c94z4)) c94z2)
theorem k94 : compFn Try.prog 94 [[], [1, 8], [8, 14], []] = some (16, c94, [.tmp 2]) := by kernel_rfl
def K94z0 (_P : Program) (K : Value → Heap → Prop) : Exit → (Nat → Value) → Heap → Prop := bodyP [.tmp 2] K
def K94z2 (P : Program) (K : Value → Heap → Prop) : Exit → (Nat → Value) → Heap → Prop := thenK (iwpP P c94z2 (K94z0 P K)) (K94z0 P K)
def p94z4 (P : Program) (K : Value → Heap → Prop) (a1 x8 : Value) (h : Heap) : Prop := CutP (iwpP P c94z4 (K94z2 P K)) [1, 8] [a1, x8] h
def p94z6 (P : Program) (K : Value → Heap → Prop) (x8 x14 : Value) (h : Heap) : Prop := CutP (iwpP P c94z6 (K94z2 P K)) [8, 14] [x8, x14] h
theorem q94z6 (P : Program) (K : Value → Heap → Prop) (x8 x14 : Value) (h : Heap) : p94z6 P K x8 x14 h =
  (OP (iPick x8 x14 (.bool false)) fun x15 =>
  K x15 h) := (CutP_def _ _ _ _).trans (by kernel_rfl)
theorem q94z4 (P : Program) (K : Value → Heap → Prop) (a1 x8 : Value) (h : Heap) : p94z4 P K a1 x8 h =
  (GdP x8 true
    (OP (iFadr 2 a1) fun x9 =>
    OP (iFadr 1 x9) fun x10 =>
    OP (iLoad false 1 h x10) fun x11 =>
    OP (iAdrSl 1 x11 (.int .i64 (0))) fun x12 =>
    OP (iLoad false 1 h x12) fun x13 =>
    OP (iBin .eql x13 (.int .u32 (1))) fun x14 =>
    p94z6 P K x8 x14 h)
    (p94z6 P K x8 undef h)) := (CutP_def _ _ _ _).trans (by kernel_rfl)
def T94 (P : Program) (K : Value → Heap → Prop) (a0 : Value) (h : Heap) : Prop :=
  OH (iBox 110 h a0) fun a1 h_1 =>
  OP (iFadr 2 a1) fun x3 =>
  OP (iFadr 1 x3) fun x4 =>
  OP (iLoad false 1 h_1 x4) fun x5 =>
  OP (iLenSl x5) fun x6 =>
  OP (iBin .eql x6 (.int .i64 (1))) fun x7 =>
  p94z4 P K a1 x7 h_1
theorem e94 (P : Program) (K : Value → Heap → Prop) (a0 : Value) (h : Heap) : iwpP P c94 (bodyP [.tmp 2] K) (frame0 [a0]) h = T94 P K a0 h := by kernel_rfl
theorem f94 {K : Value → Heap → Prop} {a0 : Value} {h : Heap} (H : T94 Try.prog K a0 h) : CallP Try.prog 94 [a0] h K :=
  callP_intro k94 (Nat.le_of_ble_eq_true rfl) ((e94 Try.prog K a0 h).mpr H)
/-! F109: math/bits.Add32 -/
noncomputable def c109 : ICode := .seq (.ops none [⟨(some 6), .p (.mv (.const (.int .u32 (0))))⟩,
    ⟨(some 7), .p (.mv (.const (.int .u32 (0))))⟩])
 (.seq (.ops none [⟨(some 9), .p (.mv (.tmp 0))⟩,
    ⟨(some 10), .p (.conv .u64 (.tmp 9))⟩,
    ⟨(some 11), .p (.mv (.tmp 1))⟩,
    ⟨(some 12), .p (.conv .u64 (.tmp 11))⟩,
    ⟨(some 13), .p (.bin .add (.tmp 10) (.tmp 12))⟩,
    ⟨(some 14), .p (.mv (.tmp 2))⟩,
    ⟨(some 15), .p (.conv .u64 (.tmp 14))⟩,
    ⟨(some 16), .p (.bin .add (.tmp 13) (.tmp 15))⟩,
    ⟨(some 8), .p (.mv (.tmp 16))⟩])
 (.seq (.ops none [⟨(some 17), .p (.mv (.tmp 8))⟩,
    ⟨(some 18), .p (.conv .u32 (.tmp 17))⟩,
    ⟨(some 6), .p (.mv (.tmp 18))⟩])
 (.seq (.ops none [⟨(some 19), .p (.mv (.tmp 8))⟩,
    ⟨(some 20), .p (.bin .shr (.tmp 19) (.const (.int .u64 (32))))⟩,
    ⟨(some 21), .p (.conv .u32 (.tmp 20))⟩,
    ⟨(some 7), .p (.mv (.tmp 21))⟩])
 (.ret))))
theorem k109 : compFn Try.prog 109 [[], [], [], []] = some (22, c109, [.tmp 6, .tmp 7]) := by kernel_rfl
def K109z0 (_P : Program) (K : Value → Heap → Prop) : Exit → (Nat → Value) → Heap → Prop := bodyP [.tmp 6, .tmp 7] K
def T109 (P : Program) (K : Value → Heap → Prop) (x0 y1 carry2 : Value) (h : Heap) : Prop :=
  OP (iConv .u64 x0) fun x10 =>
  OP (iConv .u64 y1) fun x12 =>
  OP (iBin .add x10 x12) fun x13 =>
  OP (iConv .u64 carry2) fun x15 =>
  OP (iBin .add x13 x15) fun x16 =>
  OP (iConv .u32 x16) fun x18 =>
  OP (iBin .shr x16 (.int .u64 (32))) fun x20 =>
  OP (iConv .u32 x20) fun x21 =>
  K (.tuple #[x18, x21]) h
theorem e109 (P : Program) (K : Value → Heap → Prop) (x0 y1 carry2 : Value) (h : Heap) : iwpP P c109 (bodyP [.tmp 6, .tmp 7] K) (frame0 [x0, y1, carry2]) h = T109 P K x0 y1 carry2 h := by kernel_rfl
theorem f109 {K : Value → Heap → Prop} {x0 y1 carry2 : Value} {h : Heap} (H : T109 Try.prog K x0 y1 carry2 h) : CallP Try.prog 109 [x0, y1, carry2] h K :=
  callP_intro k109 (Nat.le_of_ble_eq_true rfl) ((e109 Try.prog K x0 y1 carry2 h).mpr H)
/-! F110: math/bits.Sub32 -/
noncomputable def c110 : ICode := .seq (.ops none [⟨(some 6), .p (.mv (.const (.int .u32 (0))))⟩,
    ⟨(some 7), .p (.mv (.const (.int .u32 (0))))⟩])
 (.seq (.ops none [⟨(some 8), .p (.mv (.tmp 0))⟩,
    ⟨(some 9), .p (.mv (.tmp 1))⟩,
    ⟨(some 10), .p (.bin .sub (.tmp 8) (.tmp 9))⟩,
    ⟨(some 11), .p (.mv (.tmp 2))⟩,
    ⟨(some 12), .p (.bin .sub (.tmp 10) (.tmp 11))⟩,
    ⟨(some 6), .p (.mv (.tmp 12))⟩])
 (.seq (.ops none [⟨(some 13), .p (.mv (.tmp 0))⟩,
    ⟨(some 14), .p (.un .xor (.tmp 13))⟩,
    ⟨(some 15), .p (.mv (.tmp 1))⟩,
    ⟨(some 16), .p (.bin .and (.tmp 14) (.tmp 15))⟩,
    ⟨(some 17), .p (.mv (.tmp 0))⟩,
    ⟨(some 18), .p (.mv (.tmp 1))⟩,
    ⟨(some 19), .p (.bin .xor (.tmp 17) (.tmp 18))⟩,
    ⟨(some 20), .p (.un .xor (.tmp 19))⟩,
    ⟨(some 21), .p (.mv (.tmp 6))⟩,
    ⟨(some 22), .p (.bin .and (.tmp 20) (.tmp 21))⟩,
    ⟨(some 23), .p (.bin .or (.tmp 16) (.tmp 22))⟩,
    ⟨(some 24), .p (.bin .shr (.tmp 23) (.const (.int .u64 (31))))⟩,
    ⟨(some 7), .p (.mv (.tmp 24))⟩])
 (.ret)))
theorem k110 : compFn Try.prog 110 [[], [], []] = some (25, c110, [.tmp 6, .tmp 7]) := by kernel_rfl
def K110z0 (_P : Program) (K : Value → Heap → Prop) : Exit → (Nat → Value) → Heap → Prop := bodyP [.tmp 6, .tmp 7] K
def T110 (P : Program) (K : Value → Heap → Prop) (x0 y1 borrow2 : Value) (h : Heap) : Prop :=
  OP (iBin .sub x0 y1) fun x10 =>
  OP (iBin .sub x10 borrow2) fun x12 =>
  OP (iUn .xor x0) fun x14 =>
  OP (iBin .and x14 y1) fun x16 =>
  OP (iBin .xor x0 y1) fun x19 =>
  OP (iUn .xor x19) fun x20 =>
  OP (iBin .and x20 x12) fun x22 =>
  OP (iBin .or x16 x22) fun x23 =>
  OP (iBin .shr x23 (.int .u64 (31))) fun x24 =>
  K (.tuple #[x12, x24]) h
theorem e110 (P : Program) (K : Value → Heap → Prop) (x0 y1 borrow2 : Value) (h : Heap) : iwpP P c110 (bodyP [.tmp 6, .tmp 7] K) (frame0 [x0, y1, borrow2]) h = T110 P K x0 y1 borrow2 h := by kernel_rfl
theorem f110 {K : Value → Heap → Prop} {x0 y1 borrow2 : Value} {h : Heap} (H : T110 Try.prog K x0 y1 borrow2 h) : CallP Try.prog 110 [x0, y1, borrow2] h K :=
  callP_intro k110 (Nat.le_of_ble_eq_true rfl) ((e110 Try.prog K x0 y1 borrow2 h).mpr H)
/-! F111: pommel/num.byWord -/
noncomputable def c111z7 : ICode := .seq (.seq (.ops none [⟨(some 16), .p (.mv (.tmp 8))⟩,
     ⟨(some 17), .p (.bin .geq (.tmp 16) (.const (.int .i64 (0))))⟩])
  (.cond (.tmp 17) (.skip)
  (.exit 0)))
 (.seq (.block 1 (.seq (.ops none [⟨(some 20), .p (.mv (.tmp 7))⟩,
      ⟨(some 21), .p (.bin .shl (.tmp 20) (.const (.int .u64 (32))))⟩,
      ⟨(some 22), .p (.mv (.tmp 0))⟩,
      ⟨(some 23), .p (.mv (.tmp 8))⟩,
      ⟨(some 24), .p (.adrSl 1 (.tmp 22) (.tmp 23))⟩,
      ⟨(some 25), .l (.load false 1 (.tmp 24))⟩,
      ⟨(some 26), .p (.conv .u64 (.tmp 25))⟩,
      ⟨(some 27), .p (.bin .or (.tmp 21) (.tmp 26))⟩,
      ⟨(some 9), .p (.mv (.tmp 27))⟩])
   (.dops [(none, [⟨(some 28), .p (.mv (.tmp 6)), 0⟩,
     ⟨(some 29), .p (.mv (.tmp 8)), 0⟩,
     ⟨(some 30), .p (.mv (.tmp 9)), 0⟩,
     ⟨(some 31), .p (.mv (.tmp 1)), 0⟩,
     ⟨(some 32), .p (.conv .u64 (.tmp 31)), 8⟩,
     ⟨(some 33), .p (.bin .quo (.tmp 30) (.tmp 32)), 28⟩,
     ⟨(some 34), .p (.conv .u32 (.tmp 33)), 60⟩,
     ⟨(some 35), .p (.mv (.tmp 9)), 0⟩,
     ⟨(some 36), .p (.mv (.tmp 1)), 0⟩,
     ⟨(some 37), .p (.conv .u64 (.tmp 36)), 256⟩,
     ⟨(some 38), .p (.bin .rem (.tmp 35) (.tmp 37)), 896⟩,
     ⟨(some 39), .p (.adrSl 1 (.tmp 28) (.tmp 29)), 127⟩,
     ⟨none, .e (.store 1 (.tmp 39) (.tmp 34)), 2175⟩,
     ⟨(some 7), .p (.mv (.tmp 38)), 8191⟩])])))
 (.ops none [⟨(some 18), .p (.mv (.tmp 8))⟩,
   ⟨(some 19), .p (.bin .sub (.tmp 18) (.const (.int .i64 (1))))⟩,
   ⟨(some 8), .p (.mv (.tmp 19))⟩]))
noncomputable def c111z13 : ICode := .seq (.ops none [⟨(some 40), .p (.mv (.tmp 6))⟩,
    ⟨(some 41), .call 87 [(.tmp 40)]⟩,
    ⟨(some 42), .p (.mv (.tmp 7))⟩,
    ⟨(some 43), .p (.conv .u32 (.tmp 42))⟩,
    ⟨(some 4), .p (.mv (.tmp 41))⟩,
    ⟨(some 5), .p (.mv (.tmp 43))⟩])
 (.ret)
noncomputable def c111z4 : ICode := .cut [6, 7] c111z13
noncomputable def c111 : ICode := .seq (.ops none [⟨(some 4), .p (.mv (.const (.slice none 0 0)))⟩,
    ⟨(some 5), .p (.mv (.const (.int .u32 (0))))⟩])
 (.seq (.ops none [⟨(some 10), .p (.mv (.tmp 0))⟩,
    ⟨(some 11), .p (.lenSl (.tmp 10))⟩,
    ⟨(some 12), .e (.make 143 4 [(.int .u32 (0))] (.tmp 11) (.tmp 11))⟩,
    ⟨(some 6), .p (.mv (.tmp 12))⟩])
 (.seq (.ops none [⟨(some 7), .p (.mv (.const (.int .u64 (0))))⟩])
 (.seq (.seq (.ops none [⟨(some 13), .p (.mv (.tmp 0))⟩,
     ⟨(some 14), .p (.lenSl (.tmp 13))⟩,
     ⟨(some 15), .p (.bin .sub (.tmp 14) (.const (.int .i64 (1))))⟩,
     ⟨(some 8), .p (.mv (.tmp 15))⟩])
  (.block 0 (.loop [0, 1, 6] [7, 8] c111z7))) c111z4)))
theorem k111 : compFn Try.prog 111 [[], [], [], [], [0, 1, 6], [7, 8], [], [], [], [], [6, 7], []] = some (44, c111, [.tmp 4, .tmp 5]) := by kernel_rfl
def K111z0 (_P : Program) (K : Value → Heap → Prop) : Exit → (Nat → Value) → Heap → Prop := bodyP [.tmp 4, .tmp 5] K
def K111z4 (P : Program) (K : Value → Heap → Prop) : Exit → (Nat → Value) → Heap → Prop := thenK (iwpP P c111z4 (K111z0 P K)) (K111z0 P K)
def K111z6 (P : Program) (K : Value → Heap → Prop) : Exit → (Nat → Value) → Heap → Prop := inBlockK 0 (K111z4 P K)
def K111z7 (P : Program) (K : Value → Heap → Prop) (a0 w1 out6 : Value) (L1 : List Value → Heap → Prop) : Exit → (Nat → Value) → Heap → Prop := thenK (fun f' h'' => (([0, 1, 6] : List Nat).map f' : List Value) = [a0, w1, out6] ∧ L1 (([7, 8] : List Nat).map f') h'') (K111z6 P K)
def p111z7 (P : Program) (K : Value → Heap → Prop) (a0 w1 out6 : Value) (L1 : List Value → Heap → Prop) (xs : List Value) (h : Heap) : Prop := CutP (iwpP P c111z7 (K111z7 P K a0 w1 out6 L1)) ([0, 1, 6] ++ [7, 8]) ([a0, w1, out6] ++ xs) h
def p111z13 (P : Program) (K : Value → Heap → Prop) (out6 rest7 : Value) (h : Heap) : Prop := CutP (iwpP P c111z13 (K111z0 P K)) [6, 7] [out6, rest7] h
theorem q111z7 (P : Program) (K : Value → Heap → Prop) (a0 w1 out6 : Value) (L1 : List Value → Heap → Prop) (rest7 i8 : Value) (h : Heap) : p111z7 P K a0 w1 out6 L1 [rest7, i8] h =
  (OP (iBin .geq i8 (.int .i64 (0))) fun x17 =>
  IfP x17
    (OP (iBin .shl rest7 (.int .u64 (32))) fun x21 =>
    OP (iAdrSl 1 a0 i8) fun x24 =>
    OP (iLoad false 1 h x24) fun x25 =>
    OP (iConv .u64 x25) fun x26 =>
    OP (iBin .or x21 x26) fun x27 =>
    OP (iConv .u64 w1) fun x32 =>
    OP (iBin .quo x27 x32) fun x33 =>
    OP (iConv .u32 x33) fun x34 =>
    OP (iConv .u64 w1) fun x37 =>
    OP (iBin .rem x27 x37) fun x38 =>
    OP (iAdrSl 1 out6 i8) fun x39 =>
    OH (oStore 1 h x39 x34) fun _ h_1 =>
    (True) ∧
    OP (iBin .sub i8 (.int .i64 (1))) fun x19 =>
    ([a0, w1, out6] : List Value) = [a0, w1, out6] ∧ L1 [x38, x19] h_1)
    (p111z13 P K out6 rest7 h)) := (CutP_def _ _ _ _).trans (by kernel_rfl)
theorem q111z13 (P : Program) (K : Value → Heap → Prop) (out6 rest7 : Value) (h : Heap) : p111z13 P K out6 rest7 h =
  (CallP P 87 [out6] h fun x41 h_1 =>
  OP (iConv .u32 rest7) fun x43 =>
  K (.tuple #[x41, x43]) h_1) := (CutP_def _ _ _ _).trans (by kernel_rfl)
def T111 (P : Program) (K : Value → Heap → Prop) (a0 w1 : Value) (h : Heap) : Prop :=
  OP (iLenSl a0) fun x11 =>
  OH (iMake 143 4 [(.int .u32 (0))] h x11 x11) fun x12 h_1 =>
  OP (iLenSl a0) fun x14 =>
  OP (iBin .sub x14 (.int .i64 (1))) fun x15 =>
  LoopP [(.int .u64 (0)), x15] h_1 fun L1 xs hx =>
  p111z7 P K a0 w1 x12 L1 xs hx
theorem e111 (P : Program) (K : Value → Heap → Prop) (a0 w1 : Value) (h : Heap) : iwpP P c111 (bodyP [.tmp 4, .tmp 5] K) (frame0 [a0, w1]) h = T111 P K a0 w1 h := by kernel_rfl
theorem f111 {K : Value → Heap → Prop} {a0 w1 : Value} {h : Heap} (H : T111 Try.prog K a0 w1 h) : CallP Try.prog 111 [a0, w1] h K :=
  callP_intro k111 (Nat.le_of_ble_eq_true rfl) ((e111 Try.prog K a0 w1 h).mpr H)
/-! F112: slices.Reverse[[]byte,byte] -/
noncomputable def c112z3 : ICode := .seq (.seq (.ops none [⟨(some 7), .p (.mv (.tmp 2))⟩,
     ⟨(some 8), .p (.mv (.tmp 3))⟩,
     ⟨(some 9), .p (.bin .lss (.tmp 7) (.tmp 8))⟩])
  (.cond (.tmp 9) (.skip)
  (.exit 0)))
 (.seq (.block 1 (.dops [(none, [⟨(some 14), .p (.mv (.tmp 0)), 0⟩,
     ⟨(some 15), .p (.mv (.tmp 2)), 0⟩,
     ⟨(some 16), .p (.mv (.tmp 0)), 0⟩,
     ⟨(some 17), .p (.mv (.tmp 3)), 0⟩,
     ⟨(some 18), .p (.mv (.tmp 0)), 0⟩,
     ⟨(some 19), .p (.mv (.tmp 3)), 0⟩,
     ⟨(some 20), .p (.adrSl 1 (.tmp 18) (.tmp 19)), 48⟩,
     ⟨(some 21), .l (.load false 1 (.tmp 20)), 112⟩,
     ⟨(some 22), .p (.mv (.tmp 0)), 0⟩,
     ⟨(some 23), .p (.mv (.tmp 2)), 0⟩,
     ⟨(some 24), .p (.adrSl 1 (.tmp 22) (.tmp 23)), 768⟩,
     ⟨(some 25), .l (.load false 1 (.tmp 24)), 1792⟩,
     ⟨(some 26), .p (.adrSl 1 (.tmp 14) (.tmp 15)), 4083⟩,
     ⟨none, .e (.store 1 (.tmp 26) (.tmp 21)), 8179⟩,
     ⟨(some 27), .p (.adrSl 1 (.tmp 16) (.tmp 17)), 16383⟩,
     ⟨none, .e (.store 1 (.tmp 27) (.tmp 25)), 32767⟩])]))
 (.ops none [⟨(some 10), .p (.mv (.tmp 2))⟩,
   ⟨(some 11), .p (.bin .add (.tmp 10) (.const (.int .i64 (1))))⟩,
   ⟨(some 12), .p (.mv (.tmp 3))⟩,
   ⟨(some 13), .p (.bin .sub (.tmp 12) (.const (.int .i64 (1))))⟩,
   ⟨(some 2), .p (.mv (.tmp 11))⟩,
   ⟨(some 3), .p (.mv (.tmp 13))⟩]))
noncomputable def c112 : ICode := .seq (.ops none [⟨(some 4), .p (.mv (.tmp 0))⟩,
    ⟨(some 5), .p (.lenSl (.tmp 4))⟩,
    ⟨(some 6), .p (.bin .sub (.tmp 5) (.const (.int .i64 (1))))⟩,
    ⟨(some 2), .p (.mv (.const (.int .i64 (0))))⟩,
    ⟨(some 3), .p (.mv (.tmp 6))⟩])
 (.block 0 (.loop [0] [2, 3] c112z3))
theorem k112 : compFn Try.prog 112 [[], [0], [2, 3], [], [], []] = some (28, c112, []) := by kernel_rfl
def K112z0 (_P : Program) (K : Value → Heap → Prop) : Exit → (Nat → Value) → Heap → Prop := bodyP [] K
def K112z2 (P : Program) (K : Value → Heap → Prop) : Exit → (Nat → Value) → Heap → Prop := inBlockK 0 (K112z0 P K)
def K112z3 (P : Program) (K : Value → Heap → Prop) (s0 : Value) (L1 : List Value → Heap → Prop) : Exit → (Nat → Value) → Heap → Prop := thenK (fun f' h'' => (([0] : List Nat).map f' : List Value) = [s0] ∧ L1 (([2, 3] : List Nat).map f') h'') (K112z2 P K)
def p112z3 (P : Program) (K : Value → Heap → Prop) (s0 : Value) (L1 : List Value → Heap → Prop) (xs : List Value) (h : Heap) : Prop := CutP (iwpP P c112z3 (K112z3 P K s0 L1)) ([0] ++ [2, 3]) ([s0] ++ xs) h
theorem q112z3 (P : Program) (K : Value → Heap → Prop) (s0 : Value) (L1 : List Value → Heap → Prop) (i2 j3 : Value) (h : Heap) : p112z3 P K s0 L1 [i2, j3] h =
  (OP (iBin .lss i2 j3) fun x9 =>
  IfP x9
    (OP (iAdrSl 1 s0 j3) fun x20 =>
    OP (iLoad false 1 h x20) fun x21 =>
    (True) ∧
    OP (iAdrSl 1 s0 i2) fun x24 =>
    OP (iLoad false 1 h x24) fun x25 =>
    (True) ∧
    OP (iAdrSl 1 s0 i2) fun x26 =>
    OH (oStore 1 h x26 x21) fun _ h_1 =>
    (True) ∧
    OP (iAdrSl 1 s0 j3) fun x27 =>
    OH (oStore 1 h_1 x27 x25) fun _ h_2 =>
    (True) ∧
    OP (iBin .add i2 (.int .i64 (1))) fun x11 =>
    OP (iBin .sub j3 (.int .i64 (1))) fun x13 =>
    ([s0] : List Value) = [s0] ∧ L1 [x11, x13] h_2)
    (K (.tuple #[]) h)) := (CutP_def _ _ _ _).trans (by kernel_rfl)
def T112 (P : Program) (K : Value → Heap → Prop) (s0 : Value) (h : Heap) : Prop :=
  OP (iLenSl s0) fun x5 =>
  OP (iBin .sub x5 (.int .i64 (1))) fun x6 =>
  LoopP [(.int .i64 (0)), x6] h fun L1 xs hx =>
  p112z3 P K s0 L1 xs hx
theorem e112 (P : Program) (K : Value → Heap → Prop) (s0 : Value) (h : Heap) : iwpP P c112 (bodyP [] K) (frame0 [s0]) h = T112 P K s0 h := by kernel_rfl
theorem f112 {K : Value → Heap → Prop} {s0 : Value} {h : Heap} (H : T112 Try.prog K s0 h) : CallP Try.prog 112 [s0] h K :=
  callP_intro k112 (Nat.le_of_ble_eq_true rfl) ((e112 Try.prog K s0 h).mpr H)
end Go.Proofs.Ytjdlcokhlphmhaa
