/-
  Ideal code of the functions that the proof reaches, written by program; the kernel holds it against the code.
-/
import Derived.Test.YtelmdbpaoifmoaaProg
import Derived.Test.YtelmdbpaoifmoaaMgd
import Derived.KernelRfl
namespace Go.Proofs.Ytelmdbpaoifmoaa
open Go.Sim
/-! F8: pommel/pommellaw06.MendTurned -/
noncomputable def c8z7 : ICode := .seq (.seq (.ops none [⟨(some 29), .p (.mv (.tmp 9))⟩,
     ⟨(some 30), .p (.mv (.tmp 5))⟩,
     ⟨(some 31), .p (.lenSl (.tmp 30))⟩,
     ⟨(some 32), .p (.bin .lss (.tmp 29) (.tmp 31))⟩])
  (.cond (.tmp 32) (.skip)
  (.exit 0)))
 (.seq (.block 1 (.dops [(none, [⟨(some 35), .p (.mv (.tmp 7)), 0⟩,
     ⟨(some 36), .p (.mv (.tmp 5)), 0⟩,
     ⟨(some 37), .p (.mv (.tmp 9)), 0⟩,
     ⟨(some 38), .p (.adrSl 2 (.tmp 36) (.tmp 37)), 6⟩,
     ⟨(some 39), .p (.fadr 1 (.tmp 38)), 14⟩,
     ⟨(some 40), .l (.load false 1 (.tmp 39)), 30⟩,
     ⟨(some 41), .p (.mv (.tmp 5)), 0⟩,
     ⟨(some 42), .p (.mv (.tmp 9)), 0⟩,
     ⟨(some 43), .p (.adrSl 2 (.tmp 41) (.tmp 42)), 192⟩,
     ⟨(some 44), .p (.fadr 0 (.tmp 43)), 448⟩,
     ⟨(some 45), .l (.load false 1 (.tmp 44)), 960⟩,
     ⟨(some 46), .p (.build [(.int .i64 (0)), (.int .i64 (0))] [(0, 1, (.tmp 40)), (1, 1, (.tmp 45))]), 2046⟩,
     ⟨(some 47), .e (.mkSl 35 1 [(.int .i64 (0)), (.int .i64 (0))] [(0, 2, (.tmp 46))]), 4094⟩,
     ⟨(some 48), .e (.app 35 2 16 (.tmp 35) (.tmp 47)), 8191⟩,
     ⟨(some 7), .p (.mv (.tmp 48)), 16383⟩])]))
 (.ops none [⟨(some 33), .p (.mv (.tmp 9))⟩,
   ⟨(some 34), .p (.bin .add (.tmp 33) (.const (.int .i64 (1))))⟩,
   ⟨(some 9), .p (.mv (.tmp 34))⟩]))
noncomputable def c8z16 : ICode := .seq (.seq (.ops none [⟨(some 49), .p (.mv (.tmp 10))⟩,
     ⟨(some 50), .p (.mv (.tmp 6))⟩,
     ⟨(some 51), .p (.lenSl (.tmp 50))⟩,
     ⟨(some 52), .p (.bin .lss (.tmp 49) (.tmp 51))⟩])
  (.cond (.tmp 52) (.skip)
  (.exit 2)))
 (.seq (.block 3 (.dops [(none, [⟨(some 55), .p (.mv (.tmp 8)), 0⟩,
     ⟨(some 56), .p (.mv (.tmp 6)), 0⟩,
     ⟨(some 57), .p (.mv (.tmp 10)), 0⟩,
     ⟨(some 58), .p (.adrSl 2 (.tmp 56) (.tmp 57)), 6⟩,
     ⟨(some 59), .p (.fadr 1 (.tmp 58)), 14⟩,
     ⟨(some 60), .l (.load false 1 (.tmp 59)), 30⟩,
     ⟨(some 61), .p (.mv (.tmp 6)), 0⟩,
     ⟨(some 62), .p (.mv (.tmp 10)), 0⟩,
     ⟨(some 63), .p (.adrSl 2 (.tmp 61) (.tmp 62)), 192⟩,
     ⟨(some 64), .p (.fadr 0 (.tmp 63)), 448⟩,
     ⟨(some 65), .l (.load false 1 (.tmp 64)), 960⟩,
     ⟨(some 66), .p (.build [(.int .i64 (0)), (.int .i64 (0))] [(0, 1, (.tmp 60)), (1, 1, (.tmp 65))]), 2046⟩,
     ⟨(some 67), .e (.mkSl 54 1 [(.int .i64 (0)), (.int .i64 (0))] [(0, 2, (.tmp 66))]), 4094⟩,
     ⟨(some 68), .e (.app 54 2 16 (.tmp 55) (.tmp 67)), 8191⟩,
     ⟨(some 8), .p (.mv (.tmp 68)), 16383⟩])]))
 (.ops none [⟨(some 53), .p (.mv (.tmp 10))⟩,
   ⟨(some 54), .p (.bin .add (.tmp 53) (.const (.int .i64 (1))))⟩,
   ⟨(some 10), .p (.mv (.tmp 54))⟩]))
noncomputable def c8z50 : ICode := .ops none [⟨(some 121), .p (.pick (.tmp 119) (.tmp 120) (.const (.bool false)))⟩,
   ⟨(some 4), .p (.mv (.tmp 121))⟩]
noncomputable def c8z48 : ICode := .seq (.ops (some (119, true)) [⟨(some 120), .call 14 []⟩])
 (.cut [119, 120] c8z50)
noncomputable def c8z46 : ICode := .seq (.ops none [⟨(some 118), .p (.pick (.tmp 114) (.tmp 117) (.const (.bool false)))⟩,
    ⟨(some 119), .p (.mv (.tmp 118))⟩])
 (.cut [119] c8z48)
noncomputable def c8z44 : ICode := .seq (.ops (some (114, true)) [⟨(some 115), .p (.mv (.tmp 17))⟩,
    ⟨(some 116), .p (.mv (.tmp 19))⟩,
    ⟨(some 117), .p (.bin .eql (.tmp 115) (.tmp 116))⟩])
 (.cut [114, 117] c8z46)
noncomputable def c8z42 : ICode := .seq (.ops none [⟨(some 113), .p (.pick (.tmp 109) (.tmp 112) (.const (.bool false)))⟩,
    ⟨(some 114), .p (.mv (.tmp 113))⟩])
 (.cut [17, 19, 114] c8z44)
noncomputable def c8z40 : ICode := .seq (.ops (some (109, true)) [⟨(some 110), .p (.mv (.tmp 12))⟩,
    ⟨(some 111), .p (.mv (.tmp 15))⟩,
    ⟨(some 112), .p (.bin .eql (.tmp 110) (.tmp 111))⟩])
 (.cut [17, 19, 109, 112] c8z42)
noncomputable def c8z38 : ICode := .seq (.ops none [⟨(some 108), .p (.pick (.tmp 105) (.tmp 107) (.const (.bool false)))⟩,
    ⟨(some 109), .p (.mv (.tmp 108))⟩])
 (.cut [12, 15, 17, 19, 109] c8z40)
noncomputable def c8z36 : ICode := .seq (.ops (some (105, true)) [⟨(some 106), .p (.mv (.tmp 20))⟩,
    ⟨(some 107), .p (.bin .eql (.tmp 106) (.const (.int .i64 (0))))⟩])
 (.cut [12, 15, 17, 19, 105, 107] c8z38)
noncomputable def c8z34 : ICode := .seq (.ops none [⟨(some 104), .p (.pick (.tmp 101) (.tmp 103) (.const (.bool false)))⟩,
    ⟨(some 105), .p (.mv (.tmp 104))⟩])
 (.cut [12, 15, 17, 19, 20, 105] c8z36)
noncomputable def c8z32 : ICode := .seq (.ops (some (101, true)) [⟨(some 102), .p (.mv (.tmp 18))⟩,
    ⟨(some 103), .p (.bin .eql (.tmp 102) (.const (.int .i64 (0))))⟩])
 (.cut [12, 15, 17, 19, 20, 101, 103] c8z34)
noncomputable def c8z30 : ICode := .seq (.ops none [⟨(some 100), .p (.pick (.tmp 97) (.tmp 99) (.const (.bool false)))⟩,
    ⟨(some 101), .p (.mv (.tmp 100))⟩])
 (.cut [12, 15, 17, 18, 19, 20, 101] c8z32)
noncomputable def c8z28 : ICode := .seq (.ops (some (97, true)) [⟨(some 98), .p (.mv (.tmp 16))⟩,
    ⟨(some 99), .p (.bin .eql (.tmp 98) (.const (.int .i64 (0))))⟩])
 (.cut [12, 15, 17, 18, 19, 20, 97, 99] c8z30)
noncomputable def c8z26 : ICode := .ret
noncomputable def c8z21 : ICode := .seq (.ops none [⟨(some 70), .p (.mv (.tmp 5))⟩,
    ⟨(some 71), .p (.mv (.tmp 6))⟩,
    ⟨(some 72), .call 11 [(.tmp 70), (.tmp 71)]⟩,
    ⟨(some 69), .p (.mv (.tmp 72))⟩,
    ⟨(some 73), .p (.ext (.tmp 69) 0)⟩,
    ⟨(some 74), .p (.ext (.tmp 69) 1)⟩,
    ⟨(some 75), .p (.ext (.tmp 69) 2)⟩,
    ⟨(some 11), .p (.mv (.tmp 73))⟩,
    ⟨(some 12), .p (.mv (.tmp 74))⟩,
    ⟨(some 13), .p (.mv (.tmp 75))⟩])
 (.seq (.ops none [⟨(some 77), .p (.mv (.tmp 7))⟩,
    ⟨(some 78), .p (.mv (.tmp 8))⟩,
    ⟨(some 79), .call 11 [(.tmp 77), (.tmp 78)]⟩,
    ⟨(some 76), .p (.mv (.tmp 79))⟩,
    ⟨(some 80), .p (.ext (.tmp 76) 0)⟩,
    ⟨(some 81), .p (.ext (.tmp 76) 1)⟩,
    ⟨(some 82), .p (.ext (.tmp 76) 2)⟩,
    ⟨(some 14), .p (.mv (.tmp 80))⟩,
    ⟨(some 15), .p (.mv (.tmp 81))⟩,
    ⟨(some 16), .p (.mv (.tmp 82))⟩])
 (.seq (.ops none [⟨(some 84), .p (.mv (.tmp 5))⟩,
    ⟨(some 85), .p (.mv (.tmp 6))⟩,
    ⟨(some 86), .call 18 [(.tmp 84), (.tmp 85)]⟩,
    ⟨(some 83), .p (.mv (.tmp 86))⟩,
    ⟨(some 87), .p (.ext (.tmp 83) 0)⟩,
    ⟨(some 88), .p (.ext (.tmp 83) 1)⟩,
    ⟨(some 17), .p (.mv (.tmp 87))⟩,
    ⟨(some 18), .p (.mv (.tmp 88))⟩])
 (.seq (.ops none [⟨(some 90), .p (.mv (.tmp 7))⟩,
    ⟨(some 91), .p (.mv (.tmp 8))⟩,
    ⟨(some 92), .call 18 [(.tmp 90), (.tmp 91)]⟩,
    ⟨(some 89), .p (.mv (.tmp 92))⟩,
    ⟨(some 93), .p (.ext (.tmp 89) 0)⟩,
    ⟨(some 94), .p (.ext (.tmp 89) 1)⟩,
    ⟨(some 19), .p (.mv (.tmp 93))⟩,
    ⟨(some 20), .p (.mv (.tmp 94))⟩])
 (.seq (.seq (.ops none [⟨(some 95), .p (.mv (.tmp 13))⟩,
     ⟨(some 96), .p (.bin .eql (.tmp 95) (.const (.int .i64 (0))))⟩,
     ⟨(some 97), .p (.mv (.tmp 96))⟩])
  (.cut [12, 15, 16, 17, 18, 19, 20, 97] c8z28)) c8z26))))
noncomputable def c8z13 : ICode := .cut [5, 6, 7, 8] c8z21
noncomputable def c8z12 : ICode := .seq (.seq (.ops none [⟨(some 10), .p (.mv (.const (.int .i64 (0))))⟩])
  (.block 2 (.loop [5, 6, 7] [8, 10] c8z16))) c8z13
noncomputable def c8z4 : ICode := .cut [5, 6, 7, 8] c8z12
noncomputable def c8 : ICode := .seq (.ops none [⟨(some 4), .p (.mv (.const (.bool false)))⟩])
 (.seq (.ops none [⟨(some 22), .p (.mv (.tmp 0))⟩,
    ⟨(some 23), .p (.mv (.tmp 1))⟩,
    ⟨(some 24), .call 10 [(.tmp 22), (.tmp 23), (.const (.int .i64 (10))), (.const (.int .i64 (1)))]⟩,
    ⟨(some 21), .p (.mv (.tmp 24))⟩,
    ⟨(some 25), .p (.ext (.tmp 21) 0)⟩,
    ⟨(some 26), .p (.ext (.tmp 21) 1)⟩,
    ⟨(some 5), .p (.mv (.tmp 25))⟩,
    ⟨(some 6), .p (.mv (.tmp 26))⟩])
 (.seq (.ops none [⟨(some 27), .e (.mkSl 35 0 [(.int .i64 (0)), (.int .i64 (0))] [])⟩,
    ⟨(some 28), .e (.mkSl 54 0 [(.int .i64 (0)), (.int .i64 (0))] [])⟩,
    ⟨(some 7), .p (.mv (.tmp 27))⟩,
    ⟨(some 8), .p (.mv (.tmp 28))⟩])
 (.seq (.seq (.ops none [⟨(some 9), .p (.mv (.const (.int .i64 (0))))⟩])
  (.block 0 (.loop [5, 6, 8] [7, 9] c8z7))) c8z4)))
theorem k8 : compFn Try.prog 8 [[], [], [], [], [5, 6, 8], [7, 9], [], [], [], [5, 6, 7, 8], [], [5, 6, 7], [8, 10], [], [], [], [5, 6, 7, 8], [], [], [], [], [12, 15, 16, 17, 18, 19, 20, 97], [12, 15, 17, 18, 19, 20, 97, 99], [12, 15, 17, 18, 19, 20, 101], [12, 15, 17, 19, 20, 101, 103], [12, 15, 17, 19, 20, 105], [12, 15, 17, 19, 105, 107], [12, 15, 17, 19, 109], [17, 19, 109, 112], [17, 19, 114], [114, 117], [119], [119, 120], []] = some (122, c8, [.tmp 4]) := by kernel_rfl
def K8z0 (_P : Program) (K : Value → Heap → Prop) : Exit → (Nat → Value) → Heap → Prop := bodyP [.tmp 4] K
def K8z4 (P : Program) (K : Value → Heap → Prop) : Exit → (Nat → Value) → Heap → Prop := thenK (iwpP P c8z4 (K8z0 P K)) (K8z0 P K)
def K8z6 (P : Program) (K : Value → Heap → Prop) : Exit → (Nat → Value) → Heap → Prop := inBlockK 0 (K8z4 P K)
def K8z7 (P : Program) (K : Value → Heap → Prop) (j5 p6 q8 : Value) (L1 : List Value → Heap → Prop) : Exit → (Nat → Value) → Heap → Prop := thenK (fun f' h'' => (([5, 6, 8] : List Nat).map f' : List Value) = [j5, p6, q8] ∧ L1 (([7, 9] : List Nat).map f') h'') (K8z6 P K)
def K8z13 (P : Program) (K : Value → Heap → Prop) : Exit → (Nat → Value) → Heap → Prop := thenK (iwpP P c8z13 (K8z0 P K)) (K8z0 P K)
def K8z15 (P : Program) (K : Value → Heap → Prop) : Exit → (Nat → Value) → Heap → Prop := inBlockK 2 (K8z13 P K)
def K8z16 (P : Program) (K : Value → Heap → Prop) (j5 p6 k7 : Value) (L1 : List Value → Heap → Prop) : Exit → (Nat → Value) → Heap → Prop := thenK (fun f' h'' => (([5, 6, 7] : List Nat).map f' : List Value) = [j5, p6, k7] ∧ L1 (([8, 10] : List Nat).map f') h'') (K8z15 P K)
def K8z26 (P : Program) (K : Value → Heap → Prop) : Exit → (Nat → Value) → Heap → Prop := thenK (iwpP P c8z26 (K8z0 P K)) (K8z0 P K)
def p8z7 (P : Program) (K : Value → Heap → Prop) (j5 p6 q8 : Value) (L1 : List Value → Heap → Prop) (xs : List Value) (h : Heap) : Prop := CutP (iwpP P c8z7 (K8z7 P K j5 p6 q8 L1)) ([5, 6, 8] ++ [7, 9]) ([j5, p6, q8] ++ xs) h
def p8z12 (P : Program) (K : Value → Heap → Prop) (j5 p6 k7 q8 : Value) (h : Heap) : Prop := CutP (iwpP P c8z12 (K8z0 P K)) [5, 6, 7, 8] [j5, p6, k7, q8] h
def p8z16 (P : Program) (K : Value → Heap → Prop) (j5 p6 k7 : Value) (L1 : List Value → Heap → Prop) (xs : List Value) (h : Heap) : Prop := CutP (iwpP P c8z16 (K8z16 P K j5 p6 k7 L1)) ([5, 6, 7] ++ [8, 10]) ([j5, p6, k7] ++ xs) h
def p8z21 (P : Program) (K : Value → Heap → Prop) (j5 p6 k7 q8 : Value) (h : Heap) : Prop := CutP (iwpP P c8z21 (K8z0 P K)) [5, 6, 7, 8] [j5, p6, k7, q8] h
def p8z28 (P : Program) (K : Value → Heap → Prop) (c12 d15 f16 n17 g18 m19 h20 x97 : Value) (h : Heap) : Prop := CutP (iwpP P c8z28 (K8z26 P K)) [12, 15, 16, 17, 18, 19, 20, 97] [c12, d15, f16, n17, g18, m19, h20, x97] h
def p8z30 (P : Program) (K : Value → Heap → Prop) (c12 d15 n17 g18 m19 h20 x97 x99 : Value) (h : Heap) : Prop := CutP (iwpP P c8z30 (K8z26 P K)) [12, 15, 17, 18, 19, 20, 97, 99] [c12, d15, n17, g18, m19, h20, x97, x99] h
def p8z32 (P : Program) (K : Value → Heap → Prop) (c12 d15 n17 g18 m19 h20 x101 : Value) (h : Heap) : Prop := CutP (iwpP P c8z32 (K8z26 P K)) [12, 15, 17, 18, 19, 20, 101] [c12, d15, n17, g18, m19, h20, x101] h
def p8z34 (P : Program) (K : Value → Heap → Prop) (c12 d15 n17 m19 h20 x101 x103 : Value) (h : Heap) : Prop := CutP (iwpP P c8z34 (K8z26 P K)) [12, 15, 17, 19, 20, 101, 103] [c12, d15, n17, m19, h20, x101, x103] h
def p8z36 (P : Program) (K : Value → Heap → Prop) (c12 d15 n17 m19 h20 x105 : Value) (h : Heap) : Prop := CutP (iwpP P c8z36 (K8z26 P K)) [12, 15, 17, 19, 20, 105] [c12, d15, n17, m19, h20, x105] h
def p8z38 (P : Program) (K : Value → Heap → Prop) (c12 d15 n17 m19 x105 x107 : Value) (h : Heap) : Prop := CutP (iwpP P c8z38 (K8z26 P K)) [12, 15, 17, 19, 105, 107] [c12, d15, n17, m19, x105, x107] h
def p8z40 (P : Program) (K : Value → Heap → Prop) (c12 d15 n17 m19 x109 : Value) (h : Heap) : Prop := CutP (iwpP P c8z40 (K8z26 P K)) [12, 15, 17, 19, 109] [c12, d15, n17, m19, x109] h
def p8z42 (P : Program) (K : Value → Heap → Prop) (n17 m19 x109 x112 : Value) (h : Heap) : Prop := CutP (iwpP P c8z42 (K8z26 P K)) [17, 19, 109, 112] [n17, m19, x109, x112] h
def p8z44 (P : Program) (K : Value → Heap → Prop) (n17 m19 x114 : Value) (h : Heap) : Prop := CutP (iwpP P c8z44 (K8z26 P K)) [17, 19, 114] [n17, m19, x114] h
def p8z46 (P : Program) (K : Value → Heap → Prop) (x114 x117 : Value) (h : Heap) : Prop := CutP (iwpP P c8z46 (K8z26 P K)) [114, 117] [x114, x117] h
def p8z48 (P : Program) (K : Value → Heap → Prop) (x119 : Value) (h : Heap) : Prop := CutP (iwpP P c8z48 (K8z26 P K)) [119] [x119] h
def p8z50 (P : Program) (K : Value → Heap → Prop) (x119 x120 : Value) (h : Heap) : Prop := CutP (iwpP P c8z50 (K8z26 P K)) [119, 120] [x119, x120] h
theorem q8z7 (P : Program) (K : Value → Heap → Prop) (j5 p6 q8 : Value) (L1 : List Value → Heap → Prop) (k7 i9 : Value) (h : Heap) : p8z7 P K j5 p6 q8 L1 [k7, i9] h =
  (OP (iLenSl j5) fun x31 =>
  OP (iBin .lss i9 x31) fun x32 =>
  IfP x32
    (OP (iAdrSl 2 j5 i9) fun x38 =>
    OP (iFadr 1 x38) fun x39 =>
    OP (iLoad false 1 h x39) fun x40 =>
    (True) ∧
    OP (iAdrSl 2 j5 i9) fun x43 =>
    OP (iFadr 0 x43) fun x44 =>
    OP (iLoad false 1 h x44) fun x45 =>
    (True) ∧
    OP (iBuild [(.int .i64 (0)), (.int .i64 (0))] [(0, 1, x40), (1, 1, x45)]) fun x46 =>
    OH (iMkSl 35 1 [(.int .i64 (0)), (.int .i64 (0))] h [(0, 2, x46)]) fun x47 h_1 =>
    (True) ∧
    OH (iApp 35 2 16 h_1 k7 x47) fun x48 h_2 =>
    (True) ∧
    OP (iBin .add i9 (.int .i64 (1))) fun x34 =>
    ([j5, p6, q8] : List Value) = [j5, p6, q8] ∧ L1 [x48, x34] h_2)
    (p8z12 P K j5 p6 k7 q8 h)) := (CutP_def _ _ _ _).trans (by kernel_rfl)
theorem q8z16 (P : Program) (K : Value → Heap → Prop) (j5 p6 k7 : Value) (L1 : List Value → Heap → Prop) (q8 i10 : Value) (h : Heap) : p8z16 P K j5 p6 k7 L1 [q8, i10] h =
  (OP (iLenSl p6) fun x51 =>
  OP (iBin .lss i10 x51) fun x52 =>
  IfP x52
    (OP (iAdrSl 2 p6 i10) fun x58 =>
    OP (iFadr 1 x58) fun x59 =>
    OP (iLoad false 1 h x59) fun x60 =>
    (True) ∧
    OP (iAdrSl 2 p6 i10) fun x63 =>
    OP (iFadr 0 x63) fun x64 =>
    OP (iLoad false 1 h x64) fun x65 =>
    (True) ∧
    OP (iBuild [(.int .i64 (0)), (.int .i64 (0))] [(0, 1, x60), (1, 1, x65)]) fun x66 =>
    OH (iMkSl 54 1 [(.int .i64 (0)), (.int .i64 (0))] h [(0, 2, x66)]) fun x67 h_1 =>
    (True) ∧
    OH (iApp 54 2 16 h_1 q8 x67) fun x68 h_2 =>
    (True) ∧
    OP (iBin .add i10 (.int .i64 (1))) fun x54 =>
    ([j5, p6, k7] : List Value) = [j5, p6, k7] ∧ L1 [x68, x54] h_2)
    (p8z21 P K j5 p6 k7 q8 h)) := (CutP_def _ _ _ _).trans (by kernel_rfl)
theorem q8z50 (P : Program) (K : Value → Heap → Prop) (x119 x120 : Value) (h : Heap) : p8z50 P K x119 x120 h =
  (OP (iPick x119 x120 (.bool false)) fun x121 =>
  K x121 h) := (CutP_def _ _ _ _).trans (by kernel_rfl)
theorem q8z48 (P : Program) (K : Value → Heap → Prop) (x119 : Value) (h : Heap) : p8z48 P K x119 h =
  (GdP x119 true
    (CallP P 14 [] h fun x120 h_1 =>
    p8z50 P K x119 x120 h_1)
    (p8z50 P K x119 undef h)) := (CutP_def _ _ _ _).trans (by kernel_rfl)
theorem q8z46 (P : Program) (K : Value → Heap → Prop) (x114 x117 : Value) (h : Heap) : p8z46 P K x114 x117 h =
  (OP (iPick x114 x117 (.bool false)) fun x118 =>
  p8z48 P K x118 h) := (CutP_def _ _ _ _).trans (by kernel_rfl)
theorem q8z44 (P : Program) (K : Value → Heap → Prop) (n17 m19 x114 : Value) (h : Heap) : p8z44 P K n17 m19 x114 h =
  (GdP x114 true
    (OP (iBin .eql n17 m19) fun x117 =>
    p8z46 P K x114 x117 h)
    (p8z46 P K x114 undef h)) := (CutP_def _ _ _ _).trans (by kernel_rfl)
theorem q8z42 (P : Program) (K : Value → Heap → Prop) (n17 m19 x109 x112 : Value) (h : Heap) : p8z42 P K n17 m19 x109 x112 h =
  (OP (iPick x109 x112 (.bool false)) fun x113 =>
  p8z44 P K n17 m19 x113 h) := (CutP_def _ _ _ _).trans (by kernel_rfl)
theorem q8z40 (P : Program) (K : Value → Heap → Prop) (c12 d15 n17 m19 x109 : Value) (h : Heap) : p8z40 P K c12 d15 n17 m19 x109 h =
  (GdP x109 true
    (OP (iBin .eql c12 d15) fun x112 =>
    p8z42 P K n17 m19 x109 x112 h)
    (p8z42 P K n17 m19 x109 undef h)) := (CutP_def _ _ _ _).trans (by kernel_rfl)
theorem q8z38 (P : Program) (K : Value → Heap → Prop) (c12 d15 n17 m19 x105 x107 : Value) (h : Heap) : p8z38 P K c12 d15 n17 m19 x105 x107 h =
  (OP (iPick x105 x107 (.bool false)) fun x108 =>
  p8z40 P K c12 d15 n17 m19 x108 h) := (CutP_def _ _ _ _).trans (by kernel_rfl)
theorem q8z36 (P : Program) (K : Value → Heap → Prop) (c12 d15 n17 m19 h20 x105 : Value) (h : Heap) : p8z36 P K c12 d15 n17 m19 h20 x105 h =
  (GdP x105 true
    (OP (iBin .eql h20 (.int .i64 (0))) fun x107 =>
    p8z38 P K c12 d15 n17 m19 x105 x107 h)
    (p8z38 P K c12 d15 n17 m19 x105 undef h)) := (CutP_def _ _ _ _).trans (by kernel_rfl)
theorem q8z34 (P : Program) (K : Value → Heap → Prop) (c12 d15 n17 m19 h20 x101 x103 : Value) (h : Heap) : p8z34 P K c12 d15 n17 m19 h20 x101 x103 h =
  (OP (iPick x101 x103 (.bool false)) fun x104 =>
  p8z36 P K c12 d15 n17 m19 h20 x104 h) := (CutP_def _ _ _ _).trans (by kernel_rfl)
theorem q8z32 (P : Program) (K : Value → Heap → Prop) (c12 d15 n17 g18 m19 h20 x101 : Value) (h : Heap) : p8z32 P K c12 d15 n17 g18 m19 h20 x101 h =
  (GdP x101 true
    (OP (iBin .eql g18 (.int .i64 (0))) fun x103 =>
    p8z34 P K c12 d15 n17 m19 h20 x101 x103 h)
    (p8z34 P K c12 d15 n17 m19 h20 x101 undef h)) := (CutP_def _ _ _ _).trans (by kernel_rfl)
theorem q8z30 (P : Program) (K : Value → Heap → Prop) (c12 d15 n17 g18 m19 h20 x97 x99 : Value) (h : Heap) : p8z30 P K c12 d15 n17 g18 m19 h20 x97 x99 h =
  (OP (iPick x97 x99 (.bool false)) fun x100 =>
  p8z32 P K c12 d15 n17 g18 m19 h20 x100 h) := (CutP_def _ _ _ _).trans (by kernel_rfl)
theorem q8z28 (P : Program) (K : Value → Heap → Prop) (c12 d15 f16 n17 g18 m19 h20 x97 : Value) (h : Heap) : p8z28 P K c12 d15 f16 n17 g18 m19 h20 x97 h =
  (GdP x97 true
    (OP (iBin .eql f16 (.int .i64 (0))) fun x99 =>
    p8z30 P K c12 d15 n17 g18 m19 h20 x97 x99 h)
    (p8z30 P K c12 d15 n17 g18 m19 h20 x97 undef h)) := (CutP_def _ _ _ _).trans (by kernel_rfl)
theorem q8z21 (P : Program) (K : Value → Heap → Prop) (j5 p6 k7 q8 : Value) (h : Heap) : p8z21 P K j5 p6 k7 q8 h =
  (CallP P 11 [j5, p6] h fun x72 h_1 =>
  OP (iExt 0 x72) fun x73 =>
  OP (iExt 1 x72) fun x74 =>
  OP (iExt 2 x72) fun x75 =>
  CallP P 11 [k7, q8] h_1 fun x79 h_2 =>
  OP (iExt 0 x79) fun x80 =>
  OP (iExt 1 x79) fun x81 =>
  OP (iExt 2 x79) fun x82 =>
  CallP P 18 [j5, p6] h_2 fun x86 h_3 =>
  OP (iExt 0 x86) fun x87 =>
  OP (iExt 1 x86) fun x88 =>
  CallP P 18 [k7, q8] h_3 fun x92 h_4 =>
  OP (iExt 0 x92) fun x93 =>
  OP (iExt 1 x92) fun x94 =>
  OP (iBin .eql x75 (.int .i64 (0))) fun x96 =>
  p8z28 P K x74 x81 x82 x87 x88 x93 x94 x96 h_4) := (CutP_def _ _ _ _).trans (by kernel_rfl)
theorem q8z12 (P : Program) (K : Value → Heap → Prop) (j5 p6 k7 q8 : Value) (h : Heap) : p8z12 P K j5 p6 k7 q8 h =
  (LoopP [q8, (.int .i64 (0))] h fun L1 xs hx =>
  p8z16 P K j5 p6 k7 L1 xs hx) := (CutP_def _ _ _ _).trans (by kernel_rfl)
def T8 (P : Program) (K : Value → Heap → Prop) (x0 y1 : Value) (h : Heap) : Prop :=
  CallP P 10 [x0, y1, (.int .i64 (10)), (.int .i64 (1))] h fun x24 h_1 =>
  OP (iExt 0 x24) fun x25 =>
  OP (iExt 1 x24) fun x26 =>
  OH (iMkSl 35 0 [(.int .i64 (0)), (.int .i64 (0))] h_1 []) fun x27 h_2 =>
  OH (iMkSl 54 0 [(.int .i64 (0)), (.int .i64 (0))] h_2 []) fun x28 h_3 =>
  LoopP [x27, (.int .i64 (0))] h_3 fun L1 xs hx =>
  p8z7 P K x25 x26 x28 L1 xs hx
theorem e8 (P : Program) (K : Value → Heap → Prop) (x0 y1 : Value) (h : Heap) : iwpP P c8 (bodyP [.tmp 4] K) (frame0 [x0, y1]) h = T8 P K x0 y1 h := by kernel_rfl
theorem f8 {K : Value → Heap → Prop} {x0 y1 : Value} {h : Heap} (H : T8 Try.prog K x0 y1 h) : CallP Try.prog 8 [x0, y1] h K :=
  callP_intro k8 (Nat.le_of_ble_eq_true rfl) ((e8 Try.prog K x0 y1 h).mpr H)
end Go.Proofs.Ytelmdbpaoifmoaa
