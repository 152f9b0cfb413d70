/-
  Ideal code of the functions that the proof reaches, written by program; the kernel holds it against the code.
-/
import Derived.Test.YtelmdbpaoifmoaaProg
import Derived.Test.YtelmdbpaoifmoaaMgd
import Derived.KernelRfl
namespace Go.Proofs.Ytelmdbpaoifmoaa
open Go.Sim
/-! F7: pommel/pommellaw06.MendPairs -/
noncomputable def c7z39 : ICode := .ops none [⟨(some 102), .p (.pick (.tmp 100) (.tmp 101) (.const (.bool false)))⟩,
   ⟨(some 6), .p (.mv (.tmp 102))⟩]
noncomputable def c7z37 : ICode := .seq (.ops (some (100, true)) [⟨(some 101), .call 14 []⟩])
 (.cut [100, 101] c7z39)
noncomputable def c7z35 : ICode := .seq (.ops none [⟨(some 99), .p (.pick (.tmp 96) (.tmp 98) (.const (.bool false)))⟩,
    ⟨(some 100), .p (.mv (.tmp 99))⟩])
 (.cut [100] c7z37)
noncomputable def c7z33 : ICode := .seq (.ops (some (96, true)) [⟨(some 97), .p (.mv (.tmp 19))⟩,
    ⟨(some 98), .p (.bin .geq (.tmp 97) (.const (.int .i64 (1))))⟩])
 (.cut [96, 98] c7z35)
noncomputable def c7z31 : ICode := .seq (.ops none [⟨(some 95), .p (.pick (.tmp 91) (.tmp 94) (.const (.bool false)))⟩,
    ⟨(some 96), .p (.mv (.tmp 95))⟩])
 (.cut [19, 96] c7z33)
noncomputable def c7z29 : ICode := .seq (.ops (some (91, true)) [⟨(some 92), .p (.mv (.tmp 17))⟩,
    ⟨(some 93), .p (.mv (.tmp 19))⟩,
    ⟨(some 94), .p (.bin .geq (.tmp 92) (.tmp 93))⟩])
 (.cut [19, 91, 94] c7z31)
noncomputable def c7z27 : ICode := .seq (.ops none [⟨(some 90), .p (.pick (.tmp 86) (.tmp 89) (.const (.bool false)))⟩,
    ⟨(some 91), .p (.mv (.tmp 90))⟩])
 (.cut [17, 19, 91] c7z29)
noncomputable def c7z25 : ICode := .seq (.ops (some (86, true)) [⟨(some 87), .p (.mv (.tmp 12))⟩,
    ⟨(some 88), .p (.mv (.tmp 15))⟩,
    ⟨(some 89), .p (.bin .leq (.tmp 87) (.tmp 88))⟩])
 (.cut [17, 19, 86, 89] c7z27)
noncomputable def c7z23 : ICode := .seq (.ops none [⟨(some 85), .p (.pick (.tmp 82) (.tmp 84) (.const (.bool false)))⟩,
    ⟨(some 86), .p (.mv (.tmp 85))⟩])
 (.cut [12, 15, 17, 19, 86] c7z25)
noncomputable def c7z21 : ICode := .seq (.ops (some (82, true)) [⟨(some 83), .p (.mv (.tmp 20))⟩,
    ⟨(some 84), .p (.bin .eql (.tmp 83) (.const (.int .i64 (0))))⟩])
 (.cut [12, 15, 17, 19, 82, 84] c7z23)
noncomputable def c7z19 : ICode := .seq (.ops none [⟨(some 81), .p (.pick (.tmp 78) (.tmp 80) (.const (.bool false)))⟩,
    ⟨(some 82), .p (.mv (.tmp 81))⟩])
 (.cut [12, 15, 17, 19, 20, 82] c7z21)
noncomputable def c7z17 : ICode := .seq (.ops (some (78, true)) [⟨(some 79), .p (.mv (.tmp 18))⟩,
    ⟨(some 80), .p (.bin .eql (.tmp 79) (.const (.int .i64 (0))))⟩])
 (.cut [12, 15, 17, 19, 20, 78, 80] c7z19)
noncomputable def c7z15 : ICode := .seq (.ops none [⟨(some 77), .p (.pick (.tmp 74) (.tmp 76) (.const (.bool false)))⟩,
    ⟨(some 78), .p (.mv (.tmp 77))⟩])
 (.cut [12, 15, 17, 18, 19, 20, 78] c7z17)
noncomputable def c7z13 : ICode := .seq (.ops (some (74, true)) [⟨(some 75), .p (.mv (.tmp 16))⟩,
    ⟨(some 76), .p (.bin .eql (.tmp 75) (.const (.int .i64 (0))))⟩])
 (.cut [12, 15, 17, 18, 19, 20, 74, 76] c7z15)
noncomputable def c7z11 : ICode := .ret
noncomputable def c7z6 : ICode := .seq (.ops none [⟨(some 47), .p (.mv (.tmp 7))⟩,
    ⟨(some 48), .p (.mv (.tmp 8))⟩,
    ⟨(some 49), .call 11 [(.tmp 47), (.tmp 48)]⟩,
    ⟨(some 46), .p (.mv (.tmp 49))⟩,
    ⟨(some 50), .p (.ext (.tmp 46) 0)⟩,
    ⟨(some 51), .p (.ext (.tmp 46) 1)⟩,
    ⟨(some 52), .p (.ext (.tmp 46) 2)⟩,
    ⟨(some 11), .p (.mv (.tmp 50))⟩,
    ⟨(some 12), .p (.mv (.tmp 51))⟩,
    ⟨(some 13), .p (.mv (.tmp 52))⟩])
 (.seq (.ops none [⟨(some 54), .p (.mv (.tmp 7))⟩,
    ⟨(some 55), .p (.mv (.tmp 10))⟩,
    ⟨(some 56), .call 11 [(.tmp 54), (.tmp 55)]⟩,
    ⟨(some 53), .p (.mv (.tmp 56))⟩,
    ⟨(some 57), .p (.ext (.tmp 53) 0)⟩,
    ⟨(some 58), .p (.ext (.tmp 53) 1)⟩,
    ⟨(some 59), .p (.ext (.tmp 53) 2)⟩,
    ⟨(some 14), .p (.mv (.tmp 57))⟩,
    ⟨(some 15), .p (.mv (.tmp 58))⟩,
    ⟨(some 16), .p (.mv (.tmp 59))⟩])
 (.seq (.ops none [⟨(some 61), .p (.mv (.tmp 7))⟩,
    ⟨(some 62), .p (.mv (.tmp 8))⟩,
    ⟨(some 63), .call 18 [(.tmp 61), (.tmp 62)]⟩,
    ⟨(some 60), .p (.mv (.tmp 63))⟩,
    ⟨(some 64), .p (.ext (.tmp 60) 0)⟩,
    ⟨(some 65), .p (.ext (.tmp 60) 1)⟩,
    ⟨(some 17), .p (.mv (.tmp 64))⟩,
    ⟨(some 18), .p (.mv (.tmp 65))⟩])
 (.seq (.ops none [⟨(some 67), .p (.mv (.tmp 7))⟩,
    ⟨(some 68), .p (.mv (.tmp 10))⟩,
    ⟨(some 69), .call 18 [(.tmp 67), (.tmp 68)]⟩,
    ⟨(some 66), .p (.mv (.tmp 69))⟩,
    ⟨(some 70), .p (.ext (.tmp 66) 0)⟩,
    ⟨(some 71), .p (.ext (.tmp 66) 1)⟩,
    ⟨(some 19), .p (.mv (.tmp 70))⟩,
    ⟨(some 20), .p (.mv (.tmp 71))⟩])
 (.seq (.seq (.ops none [⟨(some 72), .p (.mv (.tmp 13))⟩,
     ⟨(some 73), .p (.bin .eql (.tmp 72) (.const (.int .i64 (0))))⟩,
     ⟨(some 74), .p (.mv (.tmp 73))⟩])
  (.cut [12, 15, 16, 17, 18, 19, 20, 74] c7z13)) c7z11))))
noncomputable def c7 : ICode := .seq (.ops none [⟨(some 5), .e (.box 51 (.tmp 2))⟩,
    ⟨(some 6), .p (.mv (.const (.bool false)))⟩])
 (.seq (.ops none [⟨(some 22), .p (.mv (.tmp 0))⟩,
    ⟨(some 23), .p (.mv (.tmp 1))⟩,
    ⟨(some 24), .call 10 [(.tmp 22), (.tmp 23), (.const (.int .i64 (10))), (.const (.int .i64 (0)))]⟩,
    ⟨(some 21), .p (.mv (.tmp 24))⟩,
    ⟨(some 25), .p (.ext (.tmp 21) 0)⟩,
    ⟨(some 26), .p (.ext (.tmp 21) 1)⟩,
    ⟨(some 7), .p (.mv (.tmp 25))⟩,
    ⟨(some 8), .p (.mv (.tmp 26))⟩])
 (.seq (.dops [(none, [⟨(some 29), .e (.fl (.mkSl 51 0 [(.int .u8 (0)), (.int .u8 (0))] [])), 0⟩,
    ⟨(some 36), .l (.load true 2 (.tmp 5)), 0⟩,
    ⟨(some 37), .e (.fl (.mkSl 51 1 [(.int .u8 (0)), (.int .u8 (0))] [(0, 2, (.tmp 36))])), 2⟩,
    ⟨(some 28), .p (.mv (.tmp 0)), 0⟩,
    ⟨(some 30), .p (.mv (.tmp 1)), 0⟩,
    ⟨(some 31), .p (.mv (.tmp 1)), 0⟩,
    ⟨(some 32), .p (.lenSl (.tmp 31)), 32⟩,
    ⟨(some 33), .p (.minmax false [(.tmp 32), (.const (.int .i64 (19)))]), 96⟩,
    ⟨(some 34), .p (.slSl 51 2 (.tmp 30) none (some (.tmp 33))), 240⟩,
    ⟨(some 35), .e (.app 51 2 2 (.tmp 29) (.tmp 34)), 497⟩,
    ⟨(some 38), .e (.app 51 2 2 (.tmp 35) (.tmp 37)), 1015⟩,
    ⟨(some 39), .call 10 [(.tmp 28), (.tmp 38), (.const (.int .i64 (10))), (.const (.int .i64 (0)))], 2047⟩,
    ⟨(some 27), .p (.mv (.tmp 39)), 4095⟩,
    ⟨(some 40), .p (.ext (.tmp 27) 0), 8191⟩,
    ⟨(some 41), .p (.ext (.tmp 27) 1), 8191⟩,
    ⟨(some 9), .p (.mv (.tmp 40)), 16383⟩,
    ⟨(some 10), .p (.mv (.tmp 41)), 65535⟩])])
 (.seq (.seq (.ops none [⟨(some 42), .p (.mv (.tmp 1))⟩,
     ⟨(some 43), .p (.lenSl (.tmp 42))⟩,
     ⟨(some 44), .p (.bin .geq (.tmp 43) (.const (.int .i64 (20))))⟩])
  (.cond (.tmp 44) (.ops none [⟨(some 45), .p (.mv (.tmp 8))⟩,
     ⟨(some 10), .p (.mv (.tmp 45))⟩])
  (.skip)))
 (.cut [7, 8, 10] c7z6))))
theorem k7 : compFn Try.prog 7 [[], [], [], [], [7, 8, 10], [], [], [], [], [12, 15, 16, 17, 18, 19, 20, 74], [12, 15, 17, 18, 19, 20, 74, 76], [12, 15, 17, 18, 19, 20, 78], [12, 15, 17, 19, 20, 78, 80], [12, 15, 17, 19, 20, 82], [12, 15, 17, 19, 82, 84], [12, 15, 17, 19, 86], [17, 19, 86, 89], [17, 19, 91], [19, 91, 94], [19, 96], [96, 98], [100], [100, 101], []] = some (103, c7, [.tmp 6]) := by kernel_rfl
def K7z0 (_P : Program) (K : Value → Heap → Prop) : Exit → (Nat → Value) → Heap → Prop := bodyP [.tmp 6] K
def K7z11 (P : Program) (K : Value → Heap → Prop) : Exit → (Nat → Value) → Heap → Prop := thenK (iwpP P c7z11 (K7z0 P K)) (K7z0 P K)
def p7z6 (P : Program) (K : Value → Heap → Prop) (j7 p8 q10 : Value) (h : Heap) : Prop := CutP (iwpP P c7z6 (K7z0 P K)) [7, 8, 10] [j7, p8, q10] h
def p7z13 (P : Program) (K : Value → Heap → Prop) (c12 d15 f16 n17 g18 m19 h20 x74 : Value) (h : Heap) : Prop := CutP (iwpP P c7z13 (K7z11 P K)) [12, 15, 16, 17, 18, 19, 20, 74] [c12, d15, f16, n17, g18, m19, h20, x74] h
def p7z15 (P : Program) (K : Value → Heap → Prop) (c12 d15 n17 g18 m19 h20 x74 x76 : Value) (h : Heap) : Prop := CutP (iwpP P c7z15 (K7z11 P K)) [12, 15, 17, 18, 19, 20, 74, 76] [c12, d15, n17, g18, m19, h20, x74, x76] h
def p7z17 (P : Program) (K : Value → Heap → Prop) (c12 d15 n17 g18 m19 h20 x78 : Value) (h : Heap) : Prop := CutP (iwpP P c7z17 (K7z11 P K)) [12, 15, 17, 18, 19, 20, 78] [c12, d15, n17, g18, m19, h20, x78] h
def p7z19 (P : Program) (K : Value → Heap → Prop) (c12 d15 n17 m19 h20 x78 x80 : Value) (h : Heap) : Prop := CutP (iwpP P c7z19 (K7z11 P K)) [12, 15, 17, 19, 20, 78, 80] [c12, d15, n17, m19, h20, x78, x80] h
def p7z21 (P : Program) (K : Value → Heap → Prop) (c12 d15 n17 m19 h20 x82 : Value) (h : Heap) : Prop := CutP (iwpP P c7z21 (K7z11 P K)) [12, 15, 17, 19, 20, 82] [c12, d15, n17, m19, h20, x82] h
def p7z23 (P : Program) (K : Value → Heap → Prop) (c12 d15 n17 m19 x82 x84 : Value) (h : Heap) : Prop := CutP (iwpP P c7z23 (K7z11 P K)) [12, 15, 17, 19, 82, 84] [c12, d15, n17, m19, x82, x84] h
def p7z25 (P : Program) (K : Value → Heap → Prop) (c12 d15 n17 m19 x86 : Value) (h : Heap) : Prop := CutP (iwpP P c7z25 (K7z11 P K)) [12, 15, 17, 19, 86] [c12, d15, n17, m19, x86] h
def p7z27 (P : Program) (K : Value → Heap → Prop) (n17 m19 x86 x89 : Value) (h : Heap) : Prop := CutP (iwpP P c7z27 (K7z11 P K)) [17, 19, 86, 89] [n17, m19, x86, x89] h
def p7z29 (P : Program) (K : Value → Heap → Prop) (n17 m19 x91 : Value) (h : Heap) : Prop := CutP (iwpP P c7z29 (K7z11 P K)) [17, 19, 91] [n17, m19, x91] h
def p7z31 (P : Program) (K : Value → Heap → Prop) (m19 x91 x94 : Value) (h : Heap) : Prop := CutP (iwpP P c7z31 (K7z11 P K)) [19, 91, 94] [m19, x91, x94] h
def p7z33 (P : Program) (K : Value → Heap → Prop) (m19 x96 : Value) (h : Heap) : Prop := CutP (iwpP P c7z33 (K7z11 P K)) [19, 96] [m19, x96] h
def p7z35 (P : Program) (K : Value → Heap → Prop) (x96 x98 : Value) (h : Heap) : Prop := CutP (iwpP P c7z35 (K7z11 P K)) [96, 98] [x96, x98] h
def p7z37 (P : Program) (K : Value → Heap → Prop) (x100 : Value) (h : Heap) : Prop := CutP (iwpP P c7z37 (K7z11 P K)) [100] [x100] h
def p7z39 (P : Program) (K : Value → Heap → Prop) (x100 x101 : Value) (h : Heap) : Prop := CutP (iwpP P c7z39 (K7z11 P K)) [100, 101] [x100, x101] h
theorem q7z39 (P : Program) (K : Value → Heap → Prop) (x100 x101 : Value) (h : Heap) : p7z39 P K x100 x101 h =
  (OP (iPick x100 x101 (.bool false)) fun x102 =>
  K x102 h) := (CutP_def _ _ _ _).trans (by kernel_rfl)
theorem q7z37 (P : Program) (K : Value → Heap → Prop) (x100 : Value) (h : Heap) : p7z37 P K x100 h =
  (GdP x100 true
    (CallP P 14 [] h fun x101 h_1 =>
    p7z39 P K x100 x101 h_1)
    (p7z39 P K x100 undef h)) := (CutP_def _ _ _ _).trans (by kernel_rfl)
theorem q7z35 (P : Program) (K : Value → Heap → Prop) (x96 x98 : Value) (h : Heap) : p7z35 P K x96 x98 h =
  (OP (iPick x96 x98 (.bool false)) fun x99 =>
  p7z37 P K x99 h) := (CutP_def _ _ _ _).trans (by kernel_rfl)
theorem q7z33 (P : Program) (K : Value → Heap → Prop) (m19 x96 : Value) (h : Heap) : p7z33 P K m19 x96 h =
  (GdP x96 true
    (OP (iBin .geq m19 (.int .i64 (1))) fun x98 =>
    p7z35 P K x96 x98 h)
    (p7z35 P K x96 undef h)) := (CutP_def _ _ _ _).trans (by kernel_rfl)
theorem q7z31 (P : Program) (K : Value → Heap → Prop) (m19 x91 x94 : Value) (h : Heap) : p7z31 P K m19 x91 x94 h =
  (OP (iPick x91 x94 (.bool false)) fun x95 =>
  p7z33 P K m19 x95 h) := (CutP_def _ _ _ _).trans (by kernel_rfl)
theorem q7z29 (P : Program) (K : Value → Heap → Prop) (n17 m19 x91 : Value) (h : Heap) : p7z29 P K n17 m19 x91 h =
  (GdP x91 true
    (OP (iBin .geq n17 m19) fun x94 =>
    p7z31 P K m19 x91 x94 h)
    (p7z31 P K m19 x91 undef h)) := (CutP_def _ _ _ _).trans (by kernel_rfl)
theorem q7z27 (P : Program) (K : Value → Heap → Prop) (n17 m19 x86 x89 : Value) (h : Heap) : p7z27 P K n17 m19 x86 x89 h =
  (OP (iPick x86 x89 (.bool false)) fun x90 =>
  p7z29 P K n17 m19 x90 h) := (CutP_def _ _ _ _).trans (by kernel_rfl)
theorem q7z25 (P : Program) (K : Value → Heap → Prop) (c12 d15 n17 m19 x86 : Value) (h : Heap) : p7z25 P K c12 d15 n17 m19 x86 h =
  (GdP x86 true
    (OP (iBin .leq c12 d15) fun x89 =>
    p7z27 P K n17 m19 x86 x89 h)
    (p7z27 P K n17 m19 x86 undef h)) := (CutP_def _ _ _ _).trans (by kernel_rfl)
theorem q7z23 (P : Program) (K : Value → Heap → Prop) (c12 d15 n17 m19 x82 x84 : Value) (h : Heap) : p7z23 P K c12 d15 n17 m19 x82 x84 h =
  (OP (iPick x82 x84 (.bool false)) fun x85 =>
  p7z25 P K c12 d15 n17 m19 x85 h) := (CutP_def _ _ _ _).trans (by kernel_rfl)
theorem q7z21 (P : Program) (K : Value → Heap → Prop) (c12 d15 n17 m19 h20 x82 : Value) (h : Heap) : p7z21 P K c12 d15 n17 m19 h20 x82 h =
  (GdP x82 true
    (OP (iBin .eql h20 (.int .i64 (0))) fun x84 =>
    p7z23 P K c12 d15 n17 m19 x82 x84 h)
    (p7z23 P K c12 d15 n17 m19 x82 undef h)) := (CutP_def _ _ _ _).trans (by kernel_rfl)
theorem q7z19 (P : Program) (K : Value → Heap → Prop) (c12 d15 n17 m19 h20 x78 x80 : Value) (h : Heap) : p7z19 P K c12 d15 n17 m19 h20 x78 x80 h =
  (OP (iPick x78 x80 (.bool false)) fun x81 =>
  p7z21 P K c12 d15 n17 m19 h20 x81 h) := (CutP_def _ _ _ _).trans (by kernel_rfl)
theorem q7z17 (P : Program) (K : Value → Heap → Prop) (c12 d15 n17 g18 m19 h20 x78 : Value) (h : Heap) : p7z17 P K c12 d15 n17 g18 m19 h20 x78 h =
  (GdP x78 true
    (OP (iBin .eql g18 (.int .i64 (0))) fun x80 =>
    p7z19 P K c12 d15 n17 m19 h20 x78 x80 h)
    (p7z19 P K c12 d15 n17 m19 h20 x78 undef h)) := (CutP_def _ _ _ _).trans (by kernel_rfl)
theorem q7z15 (P : Program) (K : Value → Heap → Prop) (c12 d15 n17 g18 m19 h20 x74 x76 : Value) (h : Heap) : p7z15 P K c12 d15 n17 g18 m19 h20 x74 x76 h =
  (OP (iPick x74 x76 (.bool false)) fun x77 =>
  p7z17 P K c12 d15 n17 g18 m19 h20 x77 h) := (CutP_def _ _ _ _).trans (by kernel_rfl)
theorem q7z13 (P : Program) (K : Value → Heap → Prop) (c12 d15 f16 n17 g18 m19 h20 x74 : Value) (h : Heap) : p7z13 P K c12 d15 f16 n17 g18 m19 h20 x74 h =
  (GdP x74 true
    (OP (iBin .eql f16 (.int .i64 (0))) fun x76 =>
    p7z15 P K c12 d15 n17 g18 m19 h20 x74 x76 h)
    (p7z15 P K c12 d15 n17 g18 m19 h20 x74 undef h)) := (CutP_def _ _ _ _).trans (by kernel_rfl)
theorem q7z6 (P : Program) (K : Value → Heap → Prop) (j7 p8 q10 : Value) (h : Heap) : p7z6 P K j7 p8 q10 h =
  (CallP P 11 [j7, p8] h fun x49 h_1 =>
  OP (iExt 0 x49) fun x50 =>
  OP (iExt 1 x49) fun x51 =>
  OP (iExt 2 x49) fun x52 =>
  CallP P 11 [j7, q10] h_1 fun x56 h_2 =>
  OP (iExt 0 x56) fun x57 =>
  OP (iExt 1 x56) fun x58 =>
  OP (iExt 2 x56) fun x59 =>
  CallP P 18 [j7, p8] h_2 fun x63 h_3 =>
  OP (iExt 0 x63) fun x64 =>
  OP (iExt 1 x63) fun x65 =>
  CallP P 18 [j7, q10] h_3 fun x69 h_4 =>
  OP (iExt 0 x69) fun x70 =>
  OP (iExt 1 x69) fun x71 =>
  OP (iBin .eql x52 (.int .i64 (0))) fun x73 =>
  p7z13 P K x51 x58 x59 x64 x65 x70 x71 x73 h_4) := (CutP_def _ _ _ _).trans (by kernel_rfl)
def T7 (P : Program) (K : Value → Heap → Prop) (x0 y1 more2 : Value) (h : Heap) : Prop :=
  OH (iBox 51 h more2) fun more5 h_1 =>
  CallP P 10 [x0, y1, (.int .i64 (10)), (.int .i64 (0))] h_1 fun x24 h_2 =>
  OP (iExt 0 x24) fun x25 =>
  OP (iExt 1 x24) fun x26 =>
  OH (iMkSl 51 0 [(.int .u8 (0)), (.int .u8 (0))] h_2 []) fun x29 h_3 =>
  OP (iObj h_3 x29) fun u =>
  (True) ∧
  OP (iLoad true 2 h_3 more5) fun x36 =>
  (iLoad true 2 h_2 more5 = some x36 ∧ True) ∧
  OH (iMkSl 51 1 [(.int .u8 (0)), (.int .u8 (0))] h_3 [(0, 2, x36)]) fun x37 h_4 =>
  OP (iObj h_4 x37) fun u_1 =>
  (iObj h_4 x29 = some u ∧ True) ∧
  OP (iLenSl y1) fun x32 =>
  OP (iMinmax false [x32, (.int .i64 (19))]) fun x33 =>
  OP (iSlSl 51 2 y1 none (some x33)) fun x34 =>
  OH (iApp 51 2 2 h_4 x29 x34) fun x35 h_5 =>
  (iLoad true 2 h_5 more5 = some x36 ∧ iObj h_5 x37 = some u_1 ∧ True) ∧
  OH (iApp 51 2 2 h_5 x35 x37) fun x38 h_6 =>
  (True) ∧
  CallP P 10 [x0, x38, (.int .i64 (10)), (.int .i64 (0))] h_6 fun x39 h_7 =>
  (True) ∧
  OP (iExt 0 x39) fun x40 =>
  OP (iExt 1 x39) fun x41 =>
  OP (iLenSl y1) fun x43 =>
  OP (iBin .geq x43 (.int .i64 (20))) fun x44 =>
  IfP x44
    (p7z6 P K x25 x26 x26 h_7)
    (p7z6 P K x25 x26 x41 h_7)
theorem e7 (P : Program) (K : Value → Heap → Prop) (x0 y1 more2 : Value) (h : Heap) : iwpP P c7 (bodyP [.tmp 6] K) (frame0 [x0, y1, more2]) h = T7 P K x0 y1 more2 h := by kernel_rfl
theorem f7 {K : Value → Heap → Prop} {x0 y1 more2 : Value} {h : Heap} (H : T7 Try.prog K x0 y1 more2 h) : CallP Try.prog 7 [x0, y1, more2] h K :=
  callP_intro k7 (Nat.le_of_ble_eq_true rfl) ((e7 Try.prog K x0 y1 more2 h).mpr H)
end Go.Proofs.Ytelmdbpaoifmoaa
