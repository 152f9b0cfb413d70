/-
  Ideal code of the functions that the proof reaches, written by program; the kernel holds it against the code.
-/
import Derived.Test.YtjdlcokhlphmhaaProg
import Derived.Test.YtjdlcokhlphmhaaSim20
import Derived.KernelRfl
namespace Go.Proofs.Ytjdlcokhlphmhaa
open Go.Sim
/-! F8: pommel/pommellaw03.StitchSteps -/
noncomputable def c8z30 : ICode := .ops none [⟨(some 77), .p (.pick (.tmp 75) (.tmp 76) (.const (.bool false)))⟩,
   ⟨(some 4), .p (.mv (.tmp 77))⟩]
noncomputable def c8z28 : ICode := .seq (.ops (some (75, true)) [⟨(some 76), .call 20 []⟩])
 (.cut [75, 76] c8z30)
noncomputable def c8z26 : ICode := .seq (.ops none [⟨(some 74), .p (.pick (.tmp 70) (.tmp 73) (.const (.bool false)))⟩,
    ⟨(some 75), .p (.mv (.tmp 74))⟩])
 (.cut [75] c8z28)
noncomputable def c8z24 : ICode := .seq (.ops (some (70, true)) [⟨(some 71), .p (.mv (.tmp 13))⟩,
    ⟨(some 72), .p (.mv (.tmp 14))⟩,
    ⟨(some 73), .p (.bin .eql (.tmp 71) (.tmp 72))⟩])
 (.cut [70, 73] c8z26)
noncomputable def c8z22 : ICode := .seq (.ops none [⟨(some 69), .p (.pick (.tmp 65) (.tmp 68) (.const (.bool false)))⟩,
    ⟨(some 70), .p (.mv (.tmp 69))⟩])
 (.cut [13, 14, 70] c8z24)
noncomputable def c8z20 : ICode := .seq (.ops (some (65, true)) [⟨(some 66), .p (.mv (.tmp 11))⟩,
    ⟨(some 67), .p (.mv (.tmp 14))⟩,
    ⟨(some 68), .p (.bin .eql (.tmp 66) (.tmp 67))⟩])
 (.cut [13, 14, 65, 68] c8z22)
noncomputable def c8z18 : ICode := .seq (.ops none [⟨(some 64), .p (.pick (.tmp 60) (.tmp 63) (.const (.bool false)))⟩,
    ⟨(some 65), .p (.mv (.tmp 64))⟩])
 (.cut [11, 13, 14, 65] c8z20)
noncomputable def c8z16 : ICode := .seq (.ops (some (60, true)) [⟨(some 61), .p (.mv (.tmp 9))⟩,
    ⟨(some 62), .p (.mv (.tmp 14))⟩,
    ⟨(some 63), .p (.bin .eql (.tmp 61) (.tmp 62))⟩])
 (.cut [11, 13, 14, 60, 63] c8z18)
noncomputable def c8z14 : ICode := .seq (.ops none [⟨(some 59), .p (.pick (.tmp 56) (.tmp 58) (.const (.bool false)))⟩,
    ⟨(some 60), .p (.mv (.tmp 59))⟩])
 (.cut [9, 11, 13, 14, 60] c8z16)
noncomputable def c8z12 : ICode := .seq (.ops (some (56, true)) [⟨(some 57), .p (.mv (.tmp 10))⟩,
    ⟨(some 58), .p (.bin .eql (.tmp 57) (.const (.string ⟨#[]⟩)))⟩])
 (.cut [9, 11, 13, 14, 56, 58] c8z14)
noncomputable def c8z10 : ICode := .ret
noncomputable def c8z55 : ICode := .ops none [⟨(some 111), .p (.pick (.tmp 109) (.tmp 110) (.const (.bool false)))⟩,
   ⟨(some 4), .p (.mv (.tmp 111))⟩]
noncomputable def c8z53 : ICode := .seq (.ops (some (109, true)) [⟨(some 110), .call 20 []⟩])
 (.cut [109, 110] c8z55)
noncomputable def c8z51 : ICode := .seq (.ops none [⟨(some 108), .p (.pick (.tmp 105) (.tmp 107) (.const (.bool false)))⟩,
    ⟨(some 109), .p (.mv (.tmp 108))⟩])
 (.cut [109] c8z53)
noncomputable def c8z49 : ICode := .seq (.ops (some (105, true)) [⟨(some 106), .p (.mv (.tmp 13))⟩,
    ⟨(some 107), .p (.bin .eql (.tmp 106) (.const (.int .i64 (0))))⟩])
 (.cut [105, 107] c8z51)
noncomputable def c8z47 : ICode := .seq (.ops none [⟨(some 104), .p (.pick (.tmp 98) (.tmp 103) (.const (.bool false)))⟩,
    ⟨(some 105), .p (.mv (.tmp 104))⟩])
 (.cut [13, 105] c8z49)
noncomputable def c8z45 : ICode := .seq (.ops (some (98, true)) [⟨(some 99), .p (.mv (.tmp 12))⟩,
    ⟨(some 100), .p (.mv (.tmp 6))⟩,
    ⟨(some 101), .p (.mv (.tmp 7))⟩,
    ⟨(some 102), .call 46 [(.tmp 100), (.tmp 101)]⟩,
    ⟨(some 103), .call 25 [(.tmp 99), (.tmp 102)]⟩])
 (.cut [13, 98, 103] c8z47)
noncomputable def c8z43 : ICode := .seq (.ops none [⟨(some 97), .p (.pick (.tmp 94) (.tmp 96) (.const (.bool false)))⟩,
    ⟨(some 98), .p (.mv (.tmp 97))⟩])
 (.cut [6, 7, 12, 13, 98] c8z45)
noncomputable def c8z41 : ICode := .seq (.ops (some (94, true)) [⟨(some 95), .p (.mv (.tmp 11))⟩,
    ⟨(some 96), .p (.bin .eql (.tmp 95) (.const (.int .i64 (0))))⟩])
 (.cut [6, 7, 12, 13, 94, 96] c8z43)
noncomputable def c8z39 : ICode := .seq (.ops none [⟨(some 93), .p (.pick (.tmp 87) (.tmp 92) (.const (.bool false)))⟩,
    ⟨(some 94), .p (.mv (.tmp 93))⟩])
 (.cut [6, 7, 11, 12, 13, 94] c8z41)
noncomputable def c8z37 : ICode := .seq (.ops (some (87, true)) [⟨(some 88), .p (.mv (.tmp 10))⟩,
    ⟨(some 89), .p (.mv (.tmp 6))⟩,
    ⟨(some 90), .p (.mv (.tmp 7))⟩,
    ⟨(some 91), .call 21 [(.tmp 89), (.tmp 90)]⟩,
    ⟨(some 92), .p (.bin .eql (.tmp 88) (.tmp 91))⟩])
 (.cut [6, 7, 11, 12, 13, 87, 92] c8z39)
noncomputable def c8z35 : ICode := .seq (.ops none [⟨(some 86), .p (.pick (.tmp 83) (.tmp 85) (.const (.bool false)))⟩,
    ⟨(some 87), .p (.mv (.tmp 86))⟩])
 (.cut [6, 7, 10, 11, 12, 13, 87] c8z37)
noncomputable def c8z33 : ICode := .seq (.ops (some (83, true)) [⟨(some 84), .p (.mv (.tmp 9))⟩,
    ⟨(some 85), .p (.bin .eql (.tmp 84) (.const (.int .i64 (0))))⟩])
 (.cut [6, 7, 10, 11, 12, 13, 83, 85] c8z35)
noncomputable def c8z31 : ICode := .ret
noncomputable def c8z7 : ICode := .seq (.seq (.ops none [⟨(some 78), .p (.mv (.tmp 8))⟩,
     ⟨(some 79), .p (.mv (.tmp 6))⟩,
     ⟨(some 80), .p (.mv (.tmp 7))⟩,
     ⟨(some 81), .call 45 [(.tmp 79), (.tmp 80)]⟩,
     ⟨(some 82), .call 44 [(.tmp 78), (.tmp 81)]⟩,
     ⟨(some 83), .p (.mv (.tmp 82))⟩])
  (.cut [6, 7, 9, 10, 11, 12, 13, 83] c8z33)) c8z31
noncomputable def c8 : ICode := .seq (.ops none [⟨(some 2), .e (.box 24 (.tmp 0))⟩,
    ⟨(some 4), .p (.mv (.const (.bool false)))⟩])
 (.seq (.ops none [⟨(some 16), .l (.load true 2 (.tmp 2))⟩,
    ⟨(some 17), .call 16 [(.tmp 16)]⟩,
    ⟨(some 15), .p (.mv (.tmp 17))⟩,
    ⟨(some 18), .p (.ext (.tmp 15) 0)⟩,
    ⟨(some 19), .p (.ext (.tmp 15) 1)⟩,
    ⟨(some 5), .p (.mv (.tmp 18))⟩,
    ⟨(some 6), .p (.mv (.tmp 19))⟩])
 (.seq (.ops none [⟨(some 20), .p (.mv (.tmp 1))⟩,
    ⟨(some 21), .call 17 [(.tmp 20), (.const (.int .i64 (41)))]⟩,
    ⟨(some 7), .p (.mv (.tmp 21))⟩])
 (.seq (.ops none [⟨(some 23), .p (.mv (.tmp 5))⟩,
    ⟨(some 24), .p (.mv (.tmp 6))⟩,
    ⟨(some 25), .p (.mv (.tmp 7))⟩,
    ⟨(some 26), .call 42 [(.tmp 23), (.tmp 24), (.tmp 25)]⟩,
    ⟨(some 22), .p (.mv (.tmp 26))⟩,
    ⟨(some 27), .p (.ext (.tmp 22) 0)⟩,
    ⟨(some 28), .p (.ext (.tmp 22) 1)⟩,
    ⟨(some 8), .p (.mv (.tmp 27))⟩,
    ⟨(some 9), .p (.mv (.tmp 28))⟩])
 (.seq (.ops none [⟨(some 30), .p (.mv (.tmp 5))⟩,
    ⟨(some 31), .p (.mv (.tmp 6))⟩,
    ⟨(some 32), .p (.mv (.tmp 7))⟩,
    ⟨(some 33), .call 41 [(.tmp 30), (.tmp 31), (.tmp 32)]⟩,
    ⟨(some 29), .p (.mv (.tmp 33))⟩,
    ⟨(some 34), .p (.ext (.tmp 29) 0)⟩,
    ⟨(some 35), .p (.ext (.tmp 29) 1)⟩,
    ⟨(some 10), .p (.mv (.tmp 34))⟩,
    ⟨(some 11), .p (.mv (.tmp 35))⟩])
 (.seq (.ops none [⟨(some 37), .p (.mv (.tmp 5))⟩,
    ⟨(some 38), .p (.mv (.tmp 6))⟩,
    ⟨(some 39), .p (.mv (.tmp 7))⟩,
    ⟨(some 40), .call 43 [(.tmp 37), (.tmp 38), (.tmp 39)]⟩,
    ⟨(some 36), .p (.mv (.tmp 40))⟩,
    ⟨(some 41), .p (.ext (.tmp 36) 0)⟩,
    ⟨(some 42), .p (.ext (.tmp 36) 1)⟩,
    ⟨(some 12), .p (.mv (.tmp 41))⟩,
    ⟨(some 13), .p (.mv (.tmp 42))⟩])
 (.seq (.seq (.ops none [⟨(some 43), .p (.mv (.tmp 5))⟩,
     ⟨(some 44), .p (.mv (.tmp 6))⟩,
     ⟨(some 45), .p (.mv (.tmp 7))⟩,
     ⟨(some 46), .e (.mkSl 9 1 [(.string ⟨#[]⟩)] [(0, 1, (.tmp 45))])⟩,
     ⟨(some 47), .call 19 [(.tmp 43), (.tmp 44), (.const (.int .i64 (40))), (.tmp 46)]⟩,
     ⟨(some 14), .p (.mv (.tmp 47))⟩])
  (.seq (.ops none [⟨(some 48), .p (.mv (.tmp 14))⟩,
     ⟨(some 49), .p (.bin .neq (.tmp 48) (.const (.int .i64 (0))))⟩])
  (.cond (.tmp 49) (.seq (.seq (.ops none [⟨(some 50), .p (.mv (.tmp 8))⟩,
       ⟨(some 51), .p (.lenSl (.tmp 50))⟩,
       ⟨(some 52), .p (.mv (.tmp 12))⟩,
       ⟨(some 53), .p (.lenSl (.tmp 52))⟩,
       ⟨(some 54), .p (.bin .add (.tmp 51) (.tmp 53))⟩,
       ⟨(some 55), .p (.bin .eql (.tmp 54) (.const (.int .i64 (0))))⟩,
       ⟨(some 56), .p (.mv (.tmp 55))⟩])
    (.cut [9, 10, 11, 13, 14, 56] c8z12)) c8z10)
  (.skip)))) c8z7))))))
theorem k8 : compFn Try.prog 8 [[], [], [], [], [], [], [], [], [9, 10, 11, 13, 14, 56], [9, 11, 13, 14, 56, 58], [9, 11, 13, 14, 60], [11, 13, 14, 60, 63], [11, 13, 14, 65], [13, 14, 65, 68], [13, 14, 70], [70, 73], [75], [75, 76], [], [], [6, 7, 9, 10, 11, 12, 13, 83], [6, 7, 10, 11, 12, 13, 83, 85], [6, 7, 10, 11, 12, 13, 87], [6, 7, 11, 12, 13, 87, 92], [6, 7, 11, 12, 13, 94], [6, 7, 12, 13, 94, 96], [6, 7, 12, 13, 98], [13, 98, 103], [13, 105], [105, 107], [109], [109, 110], []] = some (112, c8, [.tmp 4]) := by kernel_rfl
def K8z0 (_P : Program) (K : Value → Heap → Prop) : Exit → (Nat → Value) → Heap → Prop := bodyP [.tmp 4] K
def K8z7 (P : Program) (K : Value → Heap → Prop) : Exit → (Nat → Value) → Heap → Prop := thenK (iwpP P c8z7 (K8z0 P K)) (K8z0 P K)
def K8z10 (P : Program) (K : Value → Heap → Prop) : Exit → (Nat → Value) → Heap → Prop := thenK (iwpP P c8z10 (K8z7 P K)) (K8z7 P K)
def K8z31 (P : Program) (K : Value → Heap → Prop) : Exit → (Nat → Value) → Heap → Prop := thenK (iwpP P c8z31 (K8z0 P K)) (K8z0 P K)
def p8z12 (P : Program) (K : Value → Heap → Prop) (e9 m10 f11 g13 bad14 x56 : Value) (h : Heap) : Prop := CutP (iwpP P c8z12 (K8z10 P K)) [9, 10, 11, 13, 14, 56] [e9, m10, f11, g13, bad14, x56] h
def p8z14 (P : Program) (K : Value → Heap → Prop) (e9 f11 g13 bad14 x56 x58 : Value) (h : Heap) : Prop := CutP (iwpP P c8z14 (K8z10 P K)) [9, 11, 13, 14, 56, 58] [e9, f11, g13, bad14, x56, x58] h
def p8z16 (P : Program) (K : Value → Heap → Prop) (e9 f11 g13 bad14 x60 : Value) (h : Heap) : Prop := CutP (iwpP P c8z16 (K8z10 P K)) [9, 11, 13, 14, 60] [e9, f11, g13, bad14, x60] h
def p8z18 (P : Program) (K : Value → Heap → Prop) (f11 g13 bad14 x60 x63 : Value) (h : Heap) : Prop := CutP (iwpP P c8z18 (K8z10 P K)) [11, 13, 14, 60, 63] [f11, g13, bad14, x60, x63] h
def p8z20 (P : Program) (K : Value → Heap → Prop) (f11 g13 bad14 x65 : Value) (h : Heap) : Prop := CutP (iwpP P c8z20 (K8z10 P K)) [11, 13, 14, 65] [f11, g13, bad14, x65] h
def p8z22 (P : Program) (K : Value → Heap → Prop) (g13 bad14 x65 x68 : Value) (h : Heap) : Prop := CutP (iwpP P c8z22 (K8z10 P K)) [13, 14, 65, 68] [g13, bad14, x65, x68] h
def p8z24 (P : Program) (K : Value → Heap → Prop) (g13 bad14 x70 : Value) (h : Heap) : Prop := CutP (iwpP P c8z24 (K8z10 P K)) [13, 14, 70] [g13, bad14, x70] h
def p8z26 (P : Program) (K : Value → Heap → Prop) (x70 x73 : Value) (h : Heap) : Prop := CutP (iwpP P c8z26 (K8z10 P K)) [70, 73] [x70, x73] h
def p8z28 (P : Program) (K : Value → Heap → Prop) (x75 : Value) (h : Heap) : Prop := CutP (iwpP P c8z28 (K8z10 P K)) [75] [x75] h
def p8z30 (P : Program) (K : Value → Heap → Prop) (x75 x76 : Value) (h : Heap) : Prop := CutP (iwpP P c8z30 (K8z10 P K)) [75, 76] [x75, x76] h
def p8z33 (P : Program) (K : Value → Heap → Prop) (p6 s7 e9 m10 f11 h12 g13 x83 : Value) (h : Heap) : Prop := CutP (iwpP P c8z33 (K8z31 P K)) [6, 7, 9, 10, 11, 12, 13, 83] [p6, s7, e9, m10, f11, h12, g13, x83] h
def p8z35 (P : Program) (K : Value → Heap → Prop) (p6 s7 m10 f11 h12 g13 x83 x85 : Value) (h : Heap) : Prop := CutP (iwpP P c8z35 (K8z31 P K)) [6, 7, 10, 11, 12, 13, 83, 85] [p6, s7, m10, f11, h12, g13, x83, x85] h
def p8z37 (P : Program) (K : Value → Heap → Prop) (p6 s7 m10 f11 h12 g13 x87 : Value) (h : Heap) : Prop := CutP (iwpP P c8z37 (K8z31 P K)) [6, 7, 10, 11, 12, 13, 87] [p6, s7, m10, f11, h12, g13, x87] h
def p8z39 (P : Program) (K : Value → Heap → Prop) (p6 s7 f11 h12 g13 x87 x92 : Value) (h : Heap) : Prop := CutP (iwpP P c8z39 (K8z31 P K)) [6, 7, 11, 12, 13, 87, 92] [p6, s7, f11, h12, g13, x87, x92] h
def p8z41 (P : Program) (K : Value → Heap → Prop) (p6 s7 f11 h12 g13 x94 : Value) (h : Heap) : Prop := CutP (iwpP P c8z41 (K8z31 P K)) [6, 7, 11, 12, 13, 94] [p6, s7, f11, h12, g13, x94] h
def p8z43 (P : Program) (K : Value → Heap → Prop) (p6 s7 h12 g13 x94 x96 : Value) (h : Heap) : Prop := CutP (iwpP P c8z43 (K8z31 P K)) [6, 7, 12, 13, 94, 96] [p6, s7, h12, g13, x94, x96] h
def p8z45 (P : Program) (K : Value → Heap → Prop) (p6 s7 h12 g13 x98 : Value) (h : Heap) : Prop := CutP (iwpP P c8z45 (K8z31 P K)) [6, 7, 12, 13, 98] [p6, s7, h12, g13, x98] h
def p8z47 (P : Program) (K : Value → Heap → Prop) (g13 x98 x103 : Value) (h : Heap) : Prop := CutP (iwpP P c8z47 (K8z31 P K)) [13, 98, 103] [g13, x98, x103] h
def p8z49 (P : Program) (K : Value → Heap → Prop) (g13 x105 : Value) (h : Heap) : Prop := CutP (iwpP P c8z49 (K8z31 P K)) [13, 105] [g13, x105] h
def p8z51 (P : Program) (K : Value → Heap → Prop) (x105 x107 : Value) (h : Heap) : Prop := CutP (iwpP P c8z51 (K8z31 P K)) [105, 107] [x105, x107] h
def p8z53 (P : Program) (K : Value → Heap → Prop) (x109 : Value) (h : Heap) : Prop := CutP (iwpP P c8z53 (K8z31 P K)) [109] [x109] h
def p8z55 (P : Program) (K : Value → Heap → Prop) (x109 x110 : Value) (h : Heap) : Prop := CutP (iwpP P c8z55 (K8z31 P K)) [109, 110] [x109, x110] h
theorem q8z30 (P : Program) (K : Value → Heap → Prop) (x75 x76 : Value) (h : Heap) : p8z30 P K x75 x76 h =
  (OP (iPick x75 x76 (.bool false)) fun x77 =>
  K x77 h) := (CutP_def _ _ _ _).trans (by kernel_rfl)
theorem q8z28 (P : Program) (K : Value → Heap → Prop) (x75 : Value) (h : Heap) : p8z28 P K x75 h =
  (GdP x75 true
    (CallP P 20 [] h fun x76 h_1 =>
    p8z30 P K x75 x76 h_1)
    (p8z30 P K x75 undef h)) := (CutP_def _ _ _ _).trans (by kernel_rfl)
theorem q8z26 (P : Program) (K : Value → Heap → Prop) (x70 x73 : Value) (h : Heap) : p8z26 P K x70 x73 h =
  (OP (iPick x70 x73 (.bool false)) fun x74 =>
  p8z28 P K x74 h) := (CutP_def _ _ _ _).trans (by kernel_rfl)
theorem q8z24 (P : Program) (K : Value → Heap → Prop) (g13 bad14 x70 : Value) (h : Heap) : p8z24 P K g13 bad14 x70 h =
  (GdP x70 true
    (OP (iBin .eql g13 bad14) fun x73 =>
    p8z26 P K x70 x73 h)
    (p8z26 P K x70 undef h)) := (CutP_def _ _ _ _).trans (by kernel_rfl)
theorem q8z22 (P : Program) (K : Value → Heap → Prop) (g13 bad14 x65 x68 : Value) (h : Heap) : p8z22 P K g13 bad14 x65 x68 h =
  (OP (iPick x65 x68 (.bool false)) fun x69 =>
  p8z24 P K g13 bad14 x69 h) := (CutP_def _ _ _ _).trans (by kernel_rfl)
theorem q8z20 (P : Program) (K : Value → Heap → Prop) (f11 g13 bad14 x65 : Value) (h : Heap) : p8z20 P K f11 g13 bad14 x65 h =
  (GdP x65 true
    (OP (iBin .eql f11 bad14) fun x68 =>
    p8z22 P K g13 bad14 x65 x68 h)
    (p8z22 P K g13 bad14 x65 undef h)) := (CutP_def _ _ _ _).trans (by kernel_rfl)
theorem q8z18 (P : Program) (K : Value → Heap → Prop) (f11 g13 bad14 x60 x63 : Value) (h : Heap) : p8z18 P K f11 g13 bad14 x60 x63 h =
  (OP (iPick x60 x63 (.bool false)) fun x64 =>
  p8z20 P K f11 g13 bad14 x64 h) := (CutP_def _ _ _ _).trans (by kernel_rfl)
theorem q8z16 (P : Program) (K : Value → Heap → Prop) (e9 f11 g13 bad14 x60 : Value) (h : Heap) : p8z16 P K e9 f11 g13 bad14 x60 h =
  (GdP x60 true
    (OP (iBin .eql e9 bad14) fun x63 =>
    p8z18 P K f11 g13 bad14 x60 x63 h)
    (p8z18 P K f11 g13 bad14 x60 undef h)) := (CutP_def _ _ _ _).trans (by kernel_rfl)
theorem q8z14 (P : Program) (K : Value → Heap → Prop) (e9 f11 g13 bad14 x56 x58 : Value) (h : Heap) : p8z14 P K e9 f11 g13 bad14 x56 x58 h =
  (OP (iPick x56 x58 (.bool false)) fun x59 =>
  p8z16 P K e9 f11 g13 bad14 x59 h) := (CutP_def _ _ _ _).trans (by kernel_rfl)
theorem q8z12 (P : Program) (K : Value → Heap → Prop) (e9 m10 f11 g13 bad14 x56 : Value) (h : Heap) : p8z12 P K e9 m10 f11 g13 bad14 x56 h =
  (GdP x56 true
    (OP (iBin .eql m10 (.string ⟨#[]⟩)) fun x58 =>
    p8z14 P K e9 f11 g13 bad14 x56 x58 h)
    (p8z14 P K e9 f11 g13 bad14 x56 undef h)) := (CutP_def _ _ _ _).trans (by kernel_rfl)
theorem q8z55 (P : Program) (K : Value → Heap → Prop) (x109 x110 : Value) (h : Heap) : p8z55 P K x109 x110 h =
  (OP (iPick x109 x110 (.bool false)) fun x111 =>
  K x111 h) := (CutP_def _ _ _ _).trans (by kernel_rfl)
theorem q8z53 (P : Program) (K : Value → Heap → Prop) (x109 : Value) (h : Heap) : p8z53 P K x109 h =
  (GdP x109 true
    (CallP P 20 [] h fun x110 h_1 =>
    p8z55 P K x109 x110 h_1)
    (p8z55 P K x109 undef h)) := (CutP_def _ _ _ _).trans (by kernel_rfl)
theorem q8z51 (P : Program) (K : Value → Heap → Prop) (x105 x107 : Value) (h : Heap) : p8z51 P K x105 x107 h =
  (OP (iPick x105 x107 (.bool false)) fun x108 =>
  p8z53 P K x108 h) := (CutP_def _ _ _ _).trans (by kernel_rfl)
theorem q8z49 (P : Program) (K : Value → Heap → Prop) (g13 x105 : Value) (h : Heap) : p8z49 P K g13 x105 h =
  (GdP x105 true
    (OP (iBin .eql g13 (.int .i64 (0))) fun x107 =>
    p8z51 P K x105 x107 h)
    (p8z51 P K x105 undef h)) := (CutP_def _ _ _ _).trans (by kernel_rfl)
theorem q8z47 (P : Program) (K : Value → Heap → Prop) (g13 x98 x103 : Value) (h : Heap) : p8z47 P K g13 x98 x103 h =
  (OP (iPick x98 x103 (.bool false)) fun x104 =>
  p8z49 P K g13 x104 h) := (CutP_def _ _ _ _).trans (by kernel_rfl)
theorem q8z45 (P : Program) (K : Value → Heap → Prop) (p6 s7 h12 g13 x98 : Value) (h : Heap) : p8z45 P K p6 s7 h12 g13 x98 h =
  (GdP x98 true
    (CallP P 46 [p6, s7] h fun x102 h_1 =>
    CallP P 25 [h12, x102] h_1 fun x103 h_2 =>
    p8z47 P K g13 x98 x103 h_2)
    (p8z47 P K g13 x98 undef h)) := (CutP_def _ _ _ _).trans (by kernel_rfl)
theorem q8z43 (P : Program) (K : Value → Heap → Prop) (p6 s7 h12 g13 x94 x96 : Value) (h : Heap) : p8z43 P K p6 s7 h12 g13 x94 x96 h =
  (OP (iPick x94 x96 (.bool false)) fun x97 =>
  p8z45 P K p6 s7 h12 g13 x97 h) := (CutP_def _ _ _ _).trans (by kernel_rfl)
theorem q8z41 (P : Program) (K : Value → Heap → Prop) (p6 s7 f11 h12 g13 x94 : Value) (h : Heap) : p8z41 P K p6 s7 f11 h12 g13 x94 h =
  (GdP x94 true
    (OP (iBin .eql f11 (.int .i64 (0))) fun x96 =>
    p8z43 P K p6 s7 h12 g13 x94 x96 h)
    (p8z43 P K p6 s7 h12 g13 x94 undef h)) := (CutP_def _ _ _ _).trans (by kernel_rfl)
theorem q8z39 (P : Program) (K : Value → Heap → Prop) (p6 s7 f11 h12 g13 x87 x92 : Value) (h : Heap) : p8z39 P K p6 s7 f11 h12 g13 x87 x92 h =
  (OP (iPick x87 x92 (.bool false)) fun x93 =>
  p8z41 P K p6 s7 f11 h12 g13 x93 h) := (CutP_def _ _ _ _).trans (by kernel_rfl)
theorem q8z37 (P : Program) (K : Value → Heap → Prop) (p6 s7 m10 f11 h12 g13 x87 : Value) (h : Heap) : p8z37 P K p6 s7 m10 f11 h12 g13 x87 h =
  (GdP x87 true
    (CallP P 21 [p6, s7] h fun x91 h_1 =>
    OP (iBin .eql m10 x91) fun x92 =>
    p8z39 P K p6 s7 f11 h12 g13 x87 x92 h_1)
    (p8z39 P K p6 s7 f11 h12 g13 x87 undef h)) := (CutP_def _ _ _ _).trans (by kernel_rfl)
theorem q8z35 (P : Program) (K : Value → Heap → Prop) (p6 s7 m10 f11 h12 g13 x83 x85 : Value) (h : Heap) : p8z35 P K p6 s7 m10 f11 h12 g13 x83 x85 h =
  (OP (iPick x83 x85 (.bool false)) fun x86 =>
  p8z37 P K p6 s7 m10 f11 h12 g13 x86 h) := (CutP_def _ _ _ _).trans (by kernel_rfl)
theorem q8z33 (P : Program) (K : Value → Heap → Prop) (p6 s7 e9 m10 f11 h12 g13 x83 : Value) (h : Heap) : p8z33 P K p6 s7 e9 m10 f11 h12 g13 x83 h =
  (GdP x83 true
    (OP (iBin .eql e9 (.int .i64 (0))) fun x85 =>
    p8z35 P K p6 s7 m10 f11 h12 g13 x83 x85 h)
    (p8z35 P K p6 s7 m10 f11 h12 g13 x83 undef h)) := (CutP_def _ _ _ _).trans (by kernel_rfl)
def T8 (P : Program) (K : Value → Heap → Prop) (t0 x1 : Value) (h : Heap) : Prop :=
  OH (iBox 24 h t0) fun t2 h_1 =>
  OP (iLoad true 2 h_1 t2) fun x16 =>
  CallP P 16 [x16] h_1 fun x17 h_2 =>
  OP (iExt 0 x17) fun x18 =>
  OP (iExt 1 x17) fun x19 =>
  CallP P 17 [x1, (.int .i64 (41))] h_2 fun x21 h_3 =>
  CallP P 42 [x18, x19, x21] h_3 fun x26 h_4 =>
  OP (iExt 0 x26) fun x27 =>
  OP (iExt 1 x26) fun x28 =>
  CallP P 41 [x18, x19, x21] h_4 fun x33 h_5 =>
  OP (iExt 0 x33) fun x34 =>
  OP (iExt 1 x33) fun x35 =>
  CallP P 43 [x18, x19, x21] h_5 fun x40 h_6 =>
  OP (iExt 0 x40) fun x41 =>
  OP (iExt 1 x40) fun x42 =>
  OH (iMkSl 9 1 [(.string ⟨#[]⟩)] h_6 [(0, 1, x21)]) fun x46 h_7 =>
  CallP P 19 [x18, x19, (.int .i64 (40)), x46] h_7 fun x47 h_8 =>
  OP (iBin .neq x47 (.int .i64 (0))) fun x49 =>
  IfP x49
    (OP (iLenSl x27) fun x51 =>
    OP (iLenSl x41) fun x53 =>
    OP (iBin .add x51 x53) fun x54 =>
    OP (iBin .eql x54 (.int .i64 (0))) fun x55 =>
    p8z12 P K x28 x34 x35 x42 x47 x55 h_8)
    (CallP P 45 [x19, x21] h_8 fun x81 h_9 =>
    CallP P 44 [x27, x81] h_9 fun x82 h_10 =>
    p8z33 P K x19 x21 x28 x34 x35 x41 x42 x82 h_10)
theorem e8 (P : Program) (K : Value → Heap → Prop) (t0 x1 : Value) (h : Heap) : iwpP P c8 (bodyP [.tmp 4] K) (frame0 [t0, x1]) h = T8 P K t0 x1 h := by kernel_rfl
theorem f8 {K : Value → Heap → Prop} {t0 x1 : Value} {h : Heap} (H : T8 Try.prog K t0 x1 h) : CallP Try.prog 8 [t0, x1] h K :=
  callP_intro k8 (Nat.le_of_ble_eq_true rfl) ((e8 Try.prog K t0 x1 h).mpr H)
/-! F42: pommel/stitch.Steps -/
noncomputable def c42z14 : ICode := .seq (.ops none [⟨(some 54), .p (.bin .lss (.tmp 53) (.tmp 52))⟩])
 (.seq (.cond (.tmp 54) (.skip)
  (.exit 2))
 (.seq (.block 3 (.seq (.ops none [⟨(some 55), .p (.adrSl 1 (.tmp 51) (.tmp 53))⟩,
      ⟨(some 56), .l (.load false 1 (.tmp 55))⟩,
      ⟨(some 15), .p (.mv (.tmp 56))⟩])
   (.seq (.ops none [⟨(some 57), .p (.mv (.tmp 15))⟩,
      ⟨(some 58), .call 79 [(.tmp 57)]⟩])
   (.ops none [⟨(some 59), .p (.mv (.tmp 13))⟩,
     ⟨(some 60), .p (.mv (.tmp 15))⟩,
     ⟨(some 61), .l (.b2s (.tmp 60))⟩,
     ⟨(some 62), .e (.mkSl 9 1 [(.string ⟨#[]⟩)] [(0, 1, (.tmp 61))])⟩,
     ⟨(some 63), .e (.app 9 1 16 (.tmp 59) (.tmp 62))⟩,
     ⟨(some 13), .p (.mv (.tmp 63))⟩]))))
 (.ops none [⟨(some 64), .p (.bin .add (.tmp 53) (.const (.int .i64 (1))))⟩,
   ⟨(some 53), .p (.mv (.tmp 64))⟩])))
noncomputable def c42z21 : ICode := .seq (.ops none [⟨(some 65), .p (.mv (.tmp 13))⟩,
    ⟨(some 6), .p (.mv (.tmp 65))⟩,
    ⟨(some 7), .p (.mv (.const (.int .i64 (0))))⟩])
 (.ret)
noncomputable def c42z11 : ICode := .cut [13] c42z21
noncomputable def c42 : ICode := .seq (.ops none [⟨(some 6), .p (.mv (.const (.slice none 0 0)))⟩,
    ⟨(some 7), .p (.mv (.const (.int .i64 (0))))⟩])
 (.seq (.ops none [⟨(some 17), .p (.mv (.tmp 0))⟩,
    ⟨(some 18), .p (.mv (.tmp 1))⟩,
    ⟨(some 19), .p (.mv (.tmp 2))⟩,
    ⟨(some 20), .e (.mkSl 9 1 [(.string ⟨#[]⟩)] [(0, 1, (.tmp 19))])⟩,
    ⟨(some 21), .call 56 [(.tmp 17), (.tmp 18), (.const (.int .i64 (40))), (.tmp 20)]⟩,
    ⟨(some 16), .p (.mv (.tmp 21))⟩,
    ⟨(some 22), .p (.ext (.tmp 16) 0)⟩,
    ⟨(some 23), .p (.ext (.tmp 16) 1)⟩,
    ⟨(some 8), .p (.mv (.tmp 22))⟩,
    ⟨(some 9), .p (.mv (.tmp 23))⟩])
 (.seq (.seq (.ops none [⟨(some 24), .p (.mv (.tmp 9))⟩,
     ⟨(some 25), .p (.bin .neq (.tmp 24) (.const (.int .i64 (0))))⟩])
  (.cond (.tmp 25) (.seq (.ops none [⟨(some 26), .p (.mv (.tmp 9))⟩,
      ⟨(some 6), .p (.mv (.const (.slice none 0 0)))⟩,
      ⟨(some 7), .p (.mv (.tmp 26))⟩])
   (.ret))
  (.skip)))
 (.seq (.ops none [⟨(some 10), .e (.alloc 124 [(.slice none 0 0)])⟩])
 (.seq (.seq (.ops none [⟨(some 27), .p (.mv (.tmp 8))⟩,
     ⟨(some 28), .p (.mv (.tmp 2))⟩,
     ⟨(some 29), .call 78 [(.tmp 27), (.tmp 28)]⟩])
  (.block 0 (.range (.tmp 29) [10] (loopOf Try.prog 42))))
 (.seq (.ops none [⟨(some 13), .p (.mv (.const (.slice none 0 0)))⟩])
 (.seq (.seq (.ops none [⟨(some 51), .l (.load false 1 (.tmp 10))⟩,
     ⟨(some 52), .p (.lenSl (.tmp 51))⟩,
     ⟨(some 53), .p (.mv (.const (.int .i64 (0))))⟩])
  (.block 2 (.loop [51, 52] [13, 53] c42z14))) c42z11))))))
theorem k42 : compFn Try.prog 42 [[], [], [], [], [], [], [], [10], [], [], [], [51, 52], [13, 53], [], [], [], [], [], [13], []] = some (66, c42, [.tmp 6, .tmp 7]) := by kernel_rfl
def K42z0 (_P : Program) (K : Value → Heap → Prop) : Exit → (Nat → Value) → Heap → Prop := bodyP [.tmp 6, .tmp 7] K
def K42z11 (P : Program) (K : Value → Heap → Prop) : Exit → (Nat → Value) → Heap → Prop := thenK (iwpP P c42z11 (K42z0 P K)) (K42z0 P K)
def K42z13 (P : Program) (K : Value → Heap → Prop) : Exit → (Nat → Value) → Heap → Prop := inBlockK 2 (K42z11 P K)
def K42z14 (P : Program) (K : Value → Heap → Prop) (x51 x52 : Value) (L1 : List Value → Heap → Prop) : Exit → (Nat → Value) → Heap → Prop := thenK (fun f' h'' => (([51, 52] : List Nat).map f' : List Value) = [x51, x52] ∧ L1 (([13, 53] : List Nat).map f') h'') (K42z13 P K)
def p42z14 (P : Program) (K : Value → Heap → Prop) (x51 x52 : Value) (L1 : List Value → Heap → Prop) (xs : List Value) (h : Heap) : Prop := CutP (iwpP P c42z14 (K42z14 P K x51 x52 L1)) ([51, 52] ++ [13, 53]) ([x51, x52] ++ xs) h
def p42z21 (P : Program) (K : Value → Heap → Prop) (out13 : Value) (h : Heap) : Prop := CutP (iwpP P c42z21 (K42z0 P K)) [13] [out13] h
theorem q42z14 (P : Program) (K : Value → Heap → Prop) (x51 x52 : Value) (L1 : List Value → Heap → Prop) (out13 x53 : Value) (h : Heap) : p42z14 P K x51 x52 L1 [out13, x53] h =
  (OP (iBin .lss x53 x52) fun x54 =>
  IfP x54
    (OP (iAdrSl 1 x51 x53) fun x55 =>
    OP (iLoad false 1 h x55) fun x56 =>
    CallP P 79 [x56] h fun x58 h_1 =>
    OP (iB2s h_1 x56) fun x61 =>
    OH (iMkSl 9 1 [(.string ⟨#[]⟩)] h_1 [(0, 1, x61)]) fun x62 h_2 =>
    OH (iApp 9 1 16 h_2 out13 x62) fun x63 h_3 =>
    OP (iBin .add x53 (.int .i64 (1))) fun x64 =>
    ([x51, x52] : List Value) = [x51, x52] ∧ L1 [x63, x64] h_3)
    (p42z21 P K out13 h)) := (CutP_def _ _ _ _).trans (by kernel_rfl)
theorem q42z21 (P : Program) (K : Value → Heap → Prop) (out13 : Value) (h : Heap) : p42z21 P K out13 h =
  (K (.tuple #[out13, (.int .i64 (0))]) h) := (CutP_def _ _ _ _).trans (by kernel_rfl)
def T42 (P : Program) (K : Value → Heap → Prop) (k0 pairs1 s2 : Value) (h : Heap) : Prop :=
  OH (iMkSl 9 1 [(.string ⟨#[]⟩)] h [(0, 1, s2)]) fun x20 h_1 =>
  CallP P 56 [k0, pairs1, (.int .i64 (40)), x20] h_1 fun x21 h_2 =>
  OP (iExt 0 x21) fun x22 =>
  OP (iExt 1 x21) fun x23 =>
  OP (iBin .neq x23 (.int .i64 (0))) fun x25 =>
  IfP x25
    (K (.tuple #[(.slice none 0 0), x23]) h_2)
    (OH (iAlloc 124 [(.slice none 0 0)] h_2) fun steps10 h_3 =>
    CallP P 78 [x22, s2] h_3 fun x29 h_4 =>
    RangeP P x29 [10] [steps10] (loopOf Try.prog 42) h_4 fun h_5 =>
    OP (iLoad false 1 h_5 steps10) fun x51 =>
    OP (iLenSl x51) fun x52 =>
    LoopP [(.slice none 0 0), (.int .i64 (0))] h_5 fun L1 xs hx =>
    p42z14 P K x51 x52 L1 xs hx)
theorem e42 (P : Program) (K : Value → Heap → Prop) (k0 pairs1 s2 : Value) (h : Heap) : iwpP P c42 (bodyP [.tmp 6, .tmp 7] K) (frame0 [k0, pairs1, s2]) h = T42 P K k0 pairs1 s2 h := by kernel_rfl
theorem f42 {K : Value → Heap → Prop} {k0 pairs1 s2 : Value} {h : Heap} (H : T42 Try.prog K k0 pairs1 s2 h) : CallP Try.prog 42 [k0, pairs1, s2] h K :=
  callP_intro k42 (Nat.le_of_ble_eq_true rfl) ((e42 Try.prog K k0 pairs1 s2 h).mpr H)
/-! F43: pommel/stitch.Heights -/
noncomputable def c43 : ICode := .seq (.ops none [⟨(some 6), .p (.mv (.const (.slice none 0 0)))⟩,
    ⟨(some 7), .p (.mv (.const (.int .i64 (0))))⟩])
 (.seq (.ops none [⟨(some 14), .p (.mv (.tmp 0))⟩,
    ⟨(some 15), .p (.mv (.tmp 1))⟩,
    ⟨(some 16), .p (.mv (.tmp 2))⟩,
    ⟨(some 17), .e (.mkSl 9 1 [(.string ⟨#[]⟩)] [(0, 1, (.tmp 16))])⟩,
    ⟨(some 18), .call 56 [(.tmp 14), (.tmp 15), (.const (.int .i64 (40))), (.tmp 17)]⟩,
    ⟨(some 13), .p (.mv (.tmp 18))⟩,
    ⟨(some 19), .p (.ext (.tmp 13) 0)⟩,
    ⟨(some 20), .p (.ext (.tmp 13) 1)⟩,
    ⟨(some 8), .p (.mv (.tmp 19))⟩,
    ⟨(some 9), .p (.mv (.tmp 20))⟩])
 (.seq (.seq (.ops none [⟨(some 21), .p (.mv (.tmp 9))⟩,
     ⟨(some 22), .p (.bin .neq (.tmp 21) (.const (.int .i64 (0))))⟩])
  (.cond (.tmp 22) (.seq (.ops none [⟨(some 23), .p (.mv (.tmp 9))⟩,
      ⟨(some 6), .p (.mv (.const (.slice none 0 0)))⟩,
      ⟨(some 7), .p (.mv (.tmp 23))⟩])
   (.ret))
  (.skip)))
 (.seq (.ops none [⟨(some 10), .e (.alloc 38 [(.slice none 0 0)])⟩])
 (.seq (.seq (.ops none [⟨(some 24), .p (.mv (.tmp 8))⟩,
     ⟨(some 25), .p (.mv (.tmp 2))⟩,
     ⟨(some 26), .call 78 [(.tmp 24), (.tmp 25)]⟩])
  (.block 0 (.range (.tmp 26) [10] (loopOf Try.prog 43))))
 (.seq (.ops none [⟨(some 33), .l (.load false 1 (.tmp 10))⟩,
    ⟨(some 6), .p (.mv (.tmp 33))⟩,
    ⟨(some 7), .p (.mv (.const (.int .i64 (0))))⟩])
 (.ret))))))
theorem k43 : compFn Try.prog 43 [[], [], [], [], [], [], [], [10], [], []] = some (34, c43, [.tmp 6, .tmp 7]) := by kernel_rfl
def K43z0 (_P : Program) (K : Value → Heap → Prop) : Exit → (Nat → Value) → Heap → Prop := bodyP [.tmp 6, .tmp 7] K
def T43 (P : Program) (K : Value → Heap → Prop) (k0 pairs1 s2 : Value) (h : Heap) : Prop :=
  OH (iMkSl 9 1 [(.string ⟨#[]⟩)] h [(0, 1, s2)]) fun x17 h_1 =>
  CallP P 56 [k0, pairs1, (.int .i64 (40)), x17] h_1 fun x18 h_2 =>
  OP (iExt 0 x18) fun x19 =>
  OP (iExt 1 x18) fun x20 =>
  OP (iBin .neq x20 (.int .i64 (0))) fun x22 =>
  IfP x22
    (K (.tuple #[(.slice none 0 0), x20]) h_2)
    (OH (iAlloc 38 [(.slice none 0 0)] h_2) fun out10 h_3 =>
    CallP P 78 [x19, s2] h_3 fun x26 h_4 =>
    RangeP P x26 [10] [out10] (loopOf Try.prog 43) h_4 fun h_5 =>
    OP (iLoad false 1 h_5 out10) fun x33 =>
    K (.tuple #[x33, (.int .i64 (0))]) h_5)
theorem e43 (P : Program) (K : Value → Heap → Prop) (k0 pairs1 s2 : Value) (h : Heap) : iwpP P c43 (bodyP [.tmp 6, .tmp 7] K) (frame0 [k0, pairs1, s2]) h = T43 P K k0 pairs1 s2 h := by kernel_rfl
theorem f43 {K : Value → Heap → Prop} {k0 pairs1 s2 : Value} {h : Heap} (H : T43 Try.prog K k0 pairs1 s2 h) : CallP Try.prog 43 [k0, pairs1, s2] h K :=
  callP_intro k43 (Nat.le_of_ble_eq_true rfl) ((e43 Try.prog K k0 pairs1 s2 h).mpr H)
/-! F44: pommel/pommelref03.Same -/
noncomputable def c44z8 : ICode := .seq (.seq (.ops none [⟨(some 11), .p (.mv (.tmp 5))⟩,
     ⟨(some 12), .p (.mv (.tmp 0))⟩,
     ⟨(some 13), .p (.lenSl (.tmp 12))⟩,
     ⟨(some 14), .p (.bin .lss (.tmp 11) (.tmp 13))⟩])
  (.cond (.tmp 14) (.skip)
  (.exit 0)))
 (.seq (.block 1 (.seq (.dops [(none, [⟨(some 17), .p (.mv (.tmp 0)), 0⟩,
      ⟨(some 18), .p (.mv (.tmp 5)), 0⟩,
      ⟨(some 19), .p (.adrSl 1 (.tmp 17) (.tmp 18)), 3⟩,
      ⟨(some 20), .l (.load false 1 (.tmp 19)), 7⟩,
      ⟨(some 21), .p (.mv (.tmp 1)), 0⟩,
      ⟨(some 22), .p (.mv (.tmp 5)), 0⟩,
      ⟨(some 23), .p (.adrSl 1 (.tmp 21) (.tmp 22)), 48⟩,
      ⟨(some 24), .l (.load false 1 (.tmp 23)), 112⟩,
      ⟨(some 25), .p (.bin .neq (.tmp 20) (.tmp 24)), 255⟩])])
   (.cond (.tmp 25) (.seq (.ops none [⟨(some 4), .p (.mv (.const (.bool false)))⟩])
    (.ret))
   (.skip))))
 (.ops none [⟨(some 15), .p (.mv (.tmp 5))⟩,
   ⟨(some 16), .p (.bin .add (.tmp 15) (.const (.int .i64 (1))))⟩,
   ⟨(some 5), .p (.mv (.tmp 16))⟩]))
noncomputable def c44z5 : ICode := .seq (.ops none [⟨(some 4), .p (.mv (.const (.bool true)))⟩])
 (.ret)
noncomputable def c44 : ICode := .seq (.ops none [⟨(some 4), .p (.mv (.const (.bool false)))⟩])
 (.seq (.seq (.ops none [⟨(some 6), .p (.mv (.tmp 0))⟩,
     ⟨(some 7), .p (.lenSl (.tmp 6))⟩,
     ⟨(some 8), .p (.mv (.tmp 1))⟩,
     ⟨(some 9), .p (.lenSl (.tmp 8))⟩,
     ⟨(some 10), .p (.bin .neq (.tmp 7) (.tmp 9))⟩])
  (.cond (.tmp 10) (.seq (.ops none [⟨(some 4), .p (.mv (.const (.bool false)))⟩])
   (.ret))
  (.skip)))
 (.seq (.seq (.ops none [⟨(some 5), .p (.mv (.const (.int .i64 (0))))⟩])
  (.block 0 (.loop [0, 1] [5] c44z8))) c44z5))
theorem k44 : compFn Try.prog 44 [[], [], [], [], [], [0, 1], [5], [], [], [], [], [], [], []] = some (26, c44, [.tmp 4]) := by kernel_rfl
def K44z0 (_P : Program) (K : Value → Heap → Prop) : Exit → (Nat → Value) → Heap → Prop := bodyP [.tmp 4] K
def K44z5 (P : Program) (K : Value → Heap → Prop) : Exit → (Nat → Value) → Heap → Prop := thenK (iwpP P c44z5 (K44z0 P K)) (K44z0 P K)
def K44z7 (P : Program) (K : Value → Heap → Prop) : Exit → (Nat → Value) → Heap → Prop := inBlockK 0 (K44z5 P K)
def K44z8 (P : Program) (K : Value → Heap → Prop) (a0 c1 : Value) (L1 : List Value → Heap → Prop) : Exit → (Nat → Value) → Heap → Prop := thenK (fun f' h'' => (([0, 1] : List Nat).map f' : List Value) = [a0, c1] ∧ L1 (([5] : List Nat).map f') h'') (K44z7 P K)
def p44z8 (P : Program) (K : Value → Heap → Prop) (a0 c1 : Value) (L1 : List Value → Heap → Prop) (xs : List Value) (h : Heap) : Prop := CutP (iwpP P c44z8 (K44z8 P K a0 c1 L1)) ([0, 1] ++ [5]) ([a0, c1] ++ xs) h
theorem q44z8 (P : Program) (K : Value → Heap → Prop) (a0 c1 : Value) (L1 : List Value → Heap → Prop) (i5 : Value) (h : Heap) : p44z8 P K a0 c1 L1 [i5] h =
  (OP (iLenSl a0) fun x13 =>
  OP (iBin .lss i5 x13) fun x14 =>
  IfP x14
    (OP (iAdrSl 1 a0 i5) fun x19 =>
    OP (iLoad false 1 h x19) fun x20 =>
    (True) ∧
    OP (iAdrSl 1 c1 i5) fun x23 =>
    OP (iLoad false 1 h x23) fun x24 =>
    (True) ∧
    OP (iBin .neq x20 x24) fun x25 =>
    IfP x25
      (K (.bool false) h)
      (OP (iBin .add i5 (.int .i64 (1))) fun x16 =>
      ([a0, c1] : List Value) = [a0, c1] ∧ L1 [x16] h))
    (K (.bool true) h)) := (CutP_def _ _ _ _).trans (by kernel_rfl)
def T44 (P : Program) (K : Value → Heap → Prop) (a0 c1 : Value) (h : Heap) : Prop :=
  OP (iLenSl a0) fun x7 =>
  OP (iLenSl c1) fun x9 =>
  OP (iBin .neq x7 x9) fun x10 =>
  IfP x10
    (K (.bool false) h)
    (LoopP [(.int .i64 (0))] h fun L1 xs hx =>
    p44z8 P K a0 c1 L1 xs hx)
theorem e44 (P : Program) (K : Value → Heap → Prop) (a0 c1 : Value) (h : Heap) : iwpP P c44 (bodyP [.tmp 4] K) (frame0 [a0, c1]) h = T44 P K a0 c1 h := by kernel_rfl
theorem f44 {K : Value → Heap → Prop} {a0 c1 : Value} {h : Heap} (H : T44 Try.prog K a0 c1 h) : CallP Try.prog 44 [a0, c1] h K :=
  callP_intro k44 (Nat.le_of_ble_eq_true rfl) ((e44 Try.prog K a0 c1 h).mpr H)
/-! F45: pommel/pommelref03.Steps -/
noncomputable def c45z28 : ICode := .ops none [⟨(some 39), .p (.pick (.tmp 33) (.tmp 38) (.const (.bool false)))⟩]
noncomputable def c45z26 : ICode := .seq (.ops (some (33, true)) [⟨(some 34), .p (.mv (.tmp 1))⟩,
    ⟨(some 35), .p (.mv (.tmp 10))⟩,
    ⟨(some 36), .p (.idxS (.tmp 34) (.tmp 35))⟩,
    ⟨(some 37), .p (.mv (.tmp 9))⟩,
    ⟨(some 38), .p (.bin .eql (.tmp 36) (.tmp 37))⟩])
 (.cut [1, 5, 6, 7, 8, 9, 10, 33, 38] c45z28)
noncomputable def c45z24 : ICode := .cond (.tmp 39) (.ops none [⟨(some 40), .p (.mv (.tmp 8))⟩,
    ⟨(some 41), .p (.mv (.tmp 1))⟩,
    ⟨(some 42), .p (.mv (.tmp 10))⟩,
    ⟨(some 43), .p (.mv (.tmp 10))⟩,
    ⟨(some 44), .p (.bin .add (.tmp 43) (.const (.int .i64 (1))))⟩,
    ⟨(some 45), .p (.slS (.tmp 41) (some (.tmp 42)) (some (.tmp 44)))⟩,
    ⟨(some 46), .p (.bin .add (.tmp 40) (.tmp 45))⟩,
    ⟨(some 8), .p (.mv (.tmp 46))⟩])
 (.skip)
noncomputable def c45z29 : ICode := .ops none [⟨(some 25), .p (.mv (.tmp 10))⟩,
   ⟨(some 26), .p (.bin .add (.tmp 25) (.const (.int .i64 (1))))⟩,
   ⟨(some 10), .p (.mv (.tmp 26))⟩]
noncomputable def c45z22 : ICode := .cut [1, 5, 6, 7, 8, 9, 10] c45z29
noncomputable def c45z19 : ICode := .seq (.seq (.ops none [⟨(some 21), .p (.mv (.tmp 10))⟩,
     ⟨(some 22), .p (.mv (.tmp 1))⟩,
     ⟨(some 23), .p (.lenS (.tmp 22))⟩,
     ⟨(some 24), .p (.bin .lss (.tmp 21) (.tmp 23))⟩])
  (.cond (.tmp 24) (.skip)
  (.exit 4)))
 (.seq (.block 5 (.seq (.seq (.ops none [⟨(some 27), .p (.mv (.tmp 5))⟩,
       ⟨(some 28), .p (.mv (.tmp 10))⟩,
       ⟨(some 29), .p (.adrSl 1 (.tmp 27) (.tmp 28))⟩,
       ⟨(some 30), .l (.load false 1 (.tmp 29))⟩,
       ⟨(some 31), .p (.mv (.tmp 7))⟩,
       ⟨(some 32), .p (.bin .eql (.tmp 30) (.tmp 31))⟩,
       ⟨(some 33), .p (.mv (.tmp 32))⟩])
    (.cut [1, 5, 6, 7, 8, 9, 10, 33] c45z26)) c45z24)) c45z22)
noncomputable def c45z30 : ICode := .ops none [⟨(some 19), .p (.mv (.tmp 9))⟩,
   ⟨(some 20), .p (.bin .add (.tmp 19) (.const (.int .u8 (1))))⟩,
   ⟨(some 9), .p (.mv (.tmp 20))⟩]
noncomputable def c45z15 : ICode := .cut [1, 5, 6, 7, 8, 9] c45z30
noncomputable def c45z12 : ICode := .seq (.seq (.ops none [⟨(some 17), .p (.mv (.tmp 9))⟩,
     ⟨(some 18), .p (.bin .leq (.tmp 17) (.const (.int .u8 (102))))⟩])
  (.cond (.tmp 18) (.skip)
  (.exit 2)))
 (.seq (.block 3 (.seq (.ops none [⟨(some 10), .p (.mv (.const (.int .i64 (0))))⟩])
   (.block 4 (.loop [1, 5, 6, 7, 9] [8, 10] c45z19)))) c45z15)
noncomputable def c45z31 : ICode := .seq (.seq (.ops none [⟨(some 47), .p (.mv (.tmp 8))⟩,
     ⟨(some 48), .p (.bin .eql (.tmp 47) (.const (.string ⟨#[]⟩)))⟩])
  (.cond (.tmp 48) (.seq (.ops none [⟨(some 49), .p (.mv (.tmp 6))⟩,
      ⟨(some 4), .p (.mv (.tmp 49))⟩])
   (.ret))
  (.skip)))
 (.ops none [⟨(some 50), .p (.mv (.tmp 6))⟩,
   ⟨(some 51), .p (.mv (.tmp 8))⟩,
   ⟨(some 52), .e (.mkSl 9 1 [(.string ⟨#[]⟩)] [(0, 1, (.tmp 51))])⟩,
   ⟨(some 53), .e (.app 9 1 16 (.tmp 50) (.tmp 52))⟩,
   ⟨(some 6), .p (.mv (.tmp 53))⟩])
noncomputable def c45z9 : ICode := .cut [1, 5, 6, 7, 8] c45z31
noncomputable def c45z35 : ICode := .ops none [⟨(some 15), .p (.mv (.tmp 7))⟩,
   ⟨(some 16), .p (.bin .add (.tmp 15) (.const (.int .i64 (1))))⟩,
   ⟨(some 7), .p (.mv (.tmp 16))⟩]
noncomputable def c45z6 : ICode := .cut [1, 5, 6, 7] c45z35
noncomputable def c45z5 : ICode := .seq (.block 1 (.seq (.ops none [⟨(some 8), .p (.mv (.const (.string ⟨#[]⟩)))⟩])
   (.seq (.seq (.ops none [⟨(some 9), .p (.mv (.const (.int .u8 (97))))⟩])
    (.block 2 (.loop [1, 5, 6, 7] [8, 9] c45z12))) c45z9))) c45z6
noncomputable def c45 : ICode := .seq (.ops none [⟨(some 4), .p (.mv (.const (.slice none 0 0)))⟩])
 (.seq (.ops none [⟨(some 11), .p (.mv (.tmp 0))⟩,
    ⟨(some 12), .p (.mv (.tmp 1))⟩,
    ⟨(some 13), .call 46 [(.tmp 11), (.tmp 12)]⟩,
    ⟨(some 14), .e (.mkSl 9 0 [(.string ⟨#[]⟩)] [])⟩,
    ⟨(some 5), .p (.mv (.tmp 13))⟩,
    ⟨(some 6), .p (.mv (.tmp 14))⟩])
 (.seq (.ops none [⟨(some 7), .p (.mv (.const (.int .i64 (1))))⟩])
 (.block 0 (.loop [1, 5] [6, 7] c45z5))))
theorem k45 : compFn Try.prog 45 [[], [], [], [1, 5], [6, 7], [], [], [1, 5, 6, 7], [8, 9], [], [], [], [1, 5, 6, 7, 9], [8, 10], [], [], [1, 5, 6, 7, 8, 9, 10, 33], [1, 5, 6, 7, 8, 9, 10, 33, 38], [], [1, 5, 6, 7, 8, 9, 10], [1, 5, 6, 7, 8, 9], [1, 5, 6, 7, 8], [], [], [], [1, 5, 6, 7]] = some (54, c45, [.tmp 4]) := by kernel_rfl
def K45z0 (_P : Program) (K : Value → Heap → Prop) : Exit → (Nat → Value) → Heap → Prop := bodyP [.tmp 4] K
def K45z4 (P : Program) (K : Value → Heap → Prop) : Exit → (Nat → Value) → Heap → Prop := inBlockK 0 (K45z0 P K)
def K45z5 (P : Program) (K : Value → Heap → Prop) (s1 h5 : Value) (L1 : List Value → Heap → Prop) : Exit → (Nat → Value) → Heap → Prop := thenK (fun f' h'' => (([1, 5] : List Nat).map f' : List Value) = [s1, h5] ∧ L1 (([6, 7] : List Nat).map f') h'') (K45z4 P K)
def K45z6 (P : Program) (K : Value → Heap → Prop) (s1 h5 : Value) (L1 : List Value → Heap → Prop) : Exit → (Nat → Value) → Heap → Prop := thenK (iwpP P c45z6 (K45z5 P K s1 h5 L1)) (K45z5 P K s1 h5 L1)
def K45z7 (P : Program) (K : Value → Heap → Prop) (s1 h5 : Value) (L1 : List Value → Heap → Prop) : Exit → (Nat → Value) → Heap → Prop := inBlockK 1 (K45z6 P K s1 h5 L1)
def K45z9 (P : Program) (K : Value → Heap → Prop) (s1 h5 : Value) (L1 : List Value → Heap → Prop) : Exit → (Nat → Value) → Heap → Prop := thenK (iwpP P c45z9 (K45z7 P K s1 h5 L1)) (K45z7 P K s1 h5 L1)
def K45z11 (P : Program) (K : Value → Heap → Prop) (s1 h5 : Value) (L1 : List Value → Heap → Prop) : Exit → (Nat → Value) → Heap → Prop := inBlockK 2 (K45z9 P K s1 h5 L1)
def K45z12 (P : Program) (K : Value → Heap → Prop) (s1 h5 out6 n7 : Value) (L1 L2 : List Value → Heap → Prop) : Exit → (Nat → Value) → Heap → Prop := thenK (fun f' h'' => (([1, 5, 6, 7] : List Nat).map f' : List Value) = [s1, h5, out6, n7] ∧ L2 (([8, 9] : List Nat).map f') h'') (K45z11 P K s1 h5 L1)
def K45z15 (P : Program) (K : Value → Heap → Prop) (s1 h5 out6 n7 : Value) (L1 L2 : List Value → Heap → Prop) : Exit → (Nat → Value) → Heap → Prop := thenK (iwpP P c45z15 (K45z12 P K s1 h5 out6 n7 L1 L2)) (K45z12 P K s1 h5 out6 n7 L1 L2)
def K45z16 (P : Program) (K : Value → Heap → Prop) (s1 h5 out6 n7 : Value) (L1 L2 : List Value → Heap → Prop) : Exit → (Nat → Value) → Heap → Prop := inBlockK 3 (K45z15 P K s1 h5 out6 n7 L1 L2)
def K45z18 (P : Program) (K : Value → Heap → Prop) (s1 h5 out6 n7 : Value) (L1 L2 : List Value → Heap → Prop) : Exit → (Nat → Value) → Heap → Prop := inBlockK 4 (K45z16 P K s1 h5 out6 n7 L1 L2)
def K45z19 (P : Program) (K : Value → Heap → Prop) (s1 h5 out6 n7 x9 : Value) (L1 L2 L3 : List Value → Heap → Prop) : Exit → (Nat → Value) → Heap → Prop := thenK (fun f' h'' => (([1, 5, 6, 7, 9] : List Nat).map f' : List Value) = [s1, h5, out6, n7, x9] ∧ L3 (([8, 10] : List Nat).map f') h'') (K45z18 P K s1 h5 out6 n7 L1 L2)
def K45z22 (P : Program) (K : Value → Heap → Prop) (s1 h5 out6 n7 x9 : Value) (L1 L2 L3 : List Value → Heap → Prop) : Exit → (Nat → Value) → Heap → Prop := thenK (iwpP P c45z22 (K45z19 P K s1 h5 out6 n7 x9 L1 L2 L3)) (K45z19 P K s1 h5 out6 n7 x9 L1 L2 L3)
def K45z23 (P : Program) (K : Value → Heap → Prop) (s1 h5 out6 n7 x9 : Value) (L1 L2 L3 : List Value → Heap → Prop) : Exit → (Nat → Value) → Heap → Prop := inBlockK 5 (K45z22 P K s1 h5 out6 n7 x9 L1 L2 L3)
def K45z24 (P : Program) (K : Value → Heap → Prop) (s1 h5 out6 n7 x9 : Value) (L1 L2 L3 : List Value → Heap → Prop) : Exit → (Nat → Value) → Heap → Prop := thenK (iwpP P c45z24 (K45z23 P K s1 h5 out6 n7 x9 L1 L2 L3)) (K45z23 P K s1 h5 out6 n7 x9 L1 L2 L3)
def p45z5 (P : Program) (K : Value → Heap → Prop) (s1 h5 : Value) (L1 : List Value → Heap → Prop) (xs : List Value) (h : Heap) : Prop := CutP (iwpP P c45z5 (K45z5 P K s1 h5 L1)) ([1, 5] ++ [6, 7]) ([s1, h5] ++ xs) h
def p45z12 (P : Program) (K : Value → Heap → Prop) (s1 h5 out6 n7 : Value) (L1 L2 : List Value → Heap → Prop) (xs : List Value) (h : Heap) : Prop := CutP (iwpP P c45z12 (K45z12 P K s1 h5 out6 n7 L1 L2)) ([1, 5, 6, 7] ++ [8, 9]) ([s1, h5, out6, n7] ++ xs) h
def p45z19 (P : Program) (K : Value → Heap → Prop) (s1 h5 out6 n7 x9 : Value) (L1 L2 L3 : List Value → Heap → Prop) (xs : List Value) (h : Heap) : Prop := CutP (iwpP P c45z19 (K45z19 P K s1 h5 out6 n7 x9 L1 L2 L3)) ([1, 5, 6, 7, 9] ++ [8, 10]) ([s1, h5, out6, n7, x9] ++ xs) h
def p45z26 (P : Program) (K : Value → Heap → Prop) (s1 h5 out6 n7 step8 x9 i10 x33 : Value) (L1 L2 L3 : List Value → Heap → Prop) (h : Heap) : Prop := CutP (iwpP P c45z26 (K45z24 P K s1 h5 out6 n7 x9 L1 L2 L3)) [1, 5, 6, 7, 8, 9, 10, 33] [s1, h5, out6, n7, step8, x9, i10, x33] h
def p45z28 (P : Program) (K : Value → Heap → Prop) (s1 h5 out6 n7 step8 x9 i10 x33 x38 : Value) (L1 L2 L3 : List Value → Heap → Prop) (h : Heap) : Prop := CutP (iwpP P c45z28 (K45z24 P K s1 h5 out6 n7 x9 L1 L2 L3)) [1, 5, 6, 7, 8, 9, 10, 33, 38] [s1, h5, out6, n7, step8, x9, i10, x33, x38] h
def p45z29 (P : Program) (K : Value → Heap → Prop) (s1 h5 out6 n7 step8 x9 i10 : Value) (L1 L2 L3 : List Value → Heap → Prop) (h : Heap) : Prop := CutP (iwpP P c45z29 (K45z19 P K s1 h5 out6 n7 x9 L1 L2 L3)) [1, 5, 6, 7, 8, 9, 10] [s1, h5, out6, n7, step8, x9, i10] h
def p45z30 (P : Program) (K : Value → Heap → Prop) (s1 h5 out6 n7 step8 x9 : Value) (L1 L2 : List Value → Heap → Prop) (h : Heap) : Prop := CutP (iwpP P c45z30 (K45z12 P K s1 h5 out6 n7 L1 L2)) [1, 5, 6, 7, 8, 9] [s1, h5, out6, n7, step8, x9] h
def p45z31 (P : Program) (K : Value → Heap → Prop) (s1 h5 out6 n7 step8 : Value) (L1 : List Value → Heap → Prop) (h : Heap) : Prop := CutP (iwpP P c45z31 (K45z7 P K s1 h5 L1)) [1, 5, 6, 7, 8] [s1, h5, out6, n7, step8] h
def p45z35 (P : Program) (K : Value → Heap → Prop) (s1 h5 out6 n7 : Value) (L1 : List Value → Heap → Prop) (h : Heap) : Prop := CutP (iwpP P c45z35 (K45z5 P K s1 h5 L1)) [1, 5, 6, 7] [s1, h5, out6, n7] h
theorem q45z28 (P : Program) (K : Value → Heap → Prop) (s1 h5 out6 n7 step8 x9 i10 x33 x38 : Value) (L1 L2 L3 : List Value → Heap → Prop) (h : Heap) : p45z28 P K s1 h5 out6 n7 step8 x9 i10 x33 x38 L1 L2 L3 h =
  (OP (iPick x33 x38 (.bool false)) fun x39 =>
  IfP x39
    (OP (iBin .add i10 (.int .i64 (1))) fun x44 =>
    OP (iSlS s1 (some i10) (some x44)) fun x45 =>
    OP (iBin .add step8 x45) fun x46 =>
    p45z29 P K s1 h5 out6 n7 x46 x9 i10 L1 L2 L3 h)
    (p45z29 P K s1 h5 out6 n7 step8 x9 i10 L1 L2 L3 h)) := (CutP_def _ _ _ _).trans (by kernel_rfl)
theorem q45z26 (P : Program) (K : Value → Heap → Prop) (s1 h5 out6 n7 step8 x9 i10 x33 : Value) (L1 L2 L3 : List Value → Heap → Prop) (h : Heap) : p45z26 P K s1 h5 out6 n7 step8 x9 i10 x33 L1 L2 L3 h =
  (GdP x33 true
    (OP (iIdxS s1 i10) fun x36 =>
    OP (iBin .eql x36 x9) fun x38 =>
    p45z28 P K s1 h5 out6 n7 step8 x9 i10 x33 x38 L1 L2 L3 h)
    (p45z28 P K s1 h5 out6 n7 step8 x9 i10 x33 undef L1 L2 L3 h)) := (CutP_def _ _ _ _).trans (by kernel_rfl)
theorem q45z29 (P : Program) (K : Value → Heap → Prop) (s1 h5 out6 n7 step8 x9 i10 : Value) (L1 L2 L3 : List Value → Heap → Prop) (h : Heap) : p45z29 P K s1 h5 out6 n7 step8 x9 i10 L1 L2 L3 h =
  (OP (iBin .add i10 (.int .i64 (1))) fun x26 =>
  ([s1, h5, out6, n7, x9] : List Value) = [s1, h5, out6, n7, x9] ∧ L3 [step8, x26] h) := (CutP_def _ _ _ _).trans (by kernel_rfl)
theorem q45z19 (P : Program) (K : Value → Heap → Prop) (s1 h5 out6 n7 x9 : Value) (L1 L2 L3 : List Value → Heap → Prop) (step8 i10 : Value) (h : Heap) : p45z19 P K s1 h5 out6 n7 x9 L1 L2 L3 [step8, i10] h =
  (OP (iLenS s1) fun x23 =>
  OP (iBin .lss i10 x23) fun x24 =>
  IfP x24
    (OP (iAdrSl 1 h5 i10) fun x29 =>
    OP (iLoad false 1 h x29) fun x30 =>
    OP (iBin .eql x30 n7) fun x32 =>
    p45z26 P K s1 h5 out6 n7 step8 x9 i10 x32 L1 L2 L3 h)
    (p45z30 P K s1 h5 out6 n7 step8 x9 L1 L2 h)) := (CutP_def _ _ _ _).trans (by kernel_rfl)
theorem q45z30 (P : Program) (K : Value → Heap → Prop) (s1 h5 out6 n7 step8 x9 : Value) (L1 L2 : List Value → Heap → Prop) (h : Heap) : p45z30 P K s1 h5 out6 n7 step8 x9 L1 L2 h =
  (OP (iBin .add x9 (.int .u8 (1))) fun x20 =>
  ([s1, h5, out6, n7] : List Value) = [s1, h5, out6, n7] ∧ L2 [step8, x20] h) := (CutP_def _ _ _ _).trans (by kernel_rfl)
theorem q45z12 (P : Program) (K : Value → Heap → Prop) (s1 h5 out6 n7 : Value) (L1 L2 : List Value → Heap → Prop) (step8 x9 : Value) (h : Heap) : p45z12 P K s1 h5 out6 n7 L1 L2 [step8, x9] h =
  (OP (iBin .leq x9 (.int .u8 (102))) fun x18 =>
  IfP x18
    (LoopP [step8, (.int .i64 (0))] h fun L3 xs hx =>
    p45z19 P K s1 h5 out6 n7 x9 L1 L2 L3 xs hx)
    (p45z31 P K s1 h5 out6 n7 step8 L1 h)) := (CutP_def _ _ _ _).trans (by kernel_rfl)
theorem q45z31 (P : Program) (K : Value → Heap → Prop) (s1 h5 out6 n7 step8 : Value) (L1 : List Value → Heap → Prop) (h : Heap) : p45z31 P K s1 h5 out6 n7 step8 L1 h =
  (OP (iBin .eql step8 (.string ⟨#[]⟩)) fun x48 =>
  IfP x48
    (K out6 h)
    (OH (iMkSl 9 1 [(.string ⟨#[]⟩)] h [(0, 1, step8)]) fun x52 h_1 =>
    OH (iApp 9 1 16 h_1 out6 x52) fun x53 h_2 =>
    p45z35 P K s1 h5 x53 n7 L1 h_2)) := (CutP_def _ _ _ _).trans (by kernel_rfl)
theorem q45z35 (P : Program) (K : Value → Heap → Prop) (s1 h5 out6 n7 : Value) (L1 : List Value → Heap → Prop) (h : Heap) : p45z35 P K s1 h5 out6 n7 L1 h =
  (OP (iBin .add n7 (.int .i64 (1))) fun x16 =>
  ([s1, h5] : List Value) = [s1, h5] ∧ L1 [out6, x16] h) := (CutP_def _ _ _ _).trans (by kernel_rfl)
theorem q45z5 (P : Program) (K : Value → Heap → Prop) (s1 h5 : Value) (L1 : List Value → Heap → Prop) (out6 n7 : Value) (h : Heap) : p45z5 P K s1 h5 L1 [out6, n7] h =
  (LoopP [(.string ⟨#[]⟩), (.int .u8 (97))] h fun L2 xs hx =>
  p45z12 P K s1 h5 out6 n7 L1 L2 xs hx) := (CutP_def _ _ _ _).trans (by kernel_rfl)
def T45 (P : Program) (K : Value → Heap → Prop) (pairs0 s1 : Value) (h : Heap) : Prop :=
  CallP P 46 [pairs0, s1] h fun x13 h_1 =>
  OH (iMkSl 9 0 [(.string ⟨#[]⟩)] h_1 []) fun x14 h_2 =>
  LoopP [x14, (.int .i64 (1))] h_2 fun L1 xs hx =>
  p45z5 P K s1 x13 L1 xs hx
theorem e45 (P : Program) (K : Value → Heap → Prop) (pairs0 s1 : Value) (h : Heap) : iwpP P c45 (bodyP [.tmp 4] K) (frame0 [pairs0, s1]) h = T45 P K pairs0 s1 h := by kernel_rfl
theorem f45 {K : Value → Heap → Prop} {pairs0 s1 : Value} {h : Heap} (H : T45 Try.prog K pairs0 s1 h) : CallP Try.prog 45 [pairs0, s1] h K :=
  callP_intro k45 (Nat.le_of_ble_eq_true rfl) ((e45 Try.prog K pairs0 s1 h).mpr H)
/-! F46: pommel/pommelref03.Heights -/
noncomputable def c46z21 : ICode := .ops none [⟨(some 19), .p (.mv (.tmp 8))⟩,
   ⟨(some 20), .p (.bin .add (.tmp 19) (.const (.int .i64 (1))))⟩,
   ⟨(some 8), .p (.mv (.tmp 20))⟩]
noncomputable def c46z15 : ICode := .seq (.seq (.ops none [⟨(some 16), .p (.mv (.tmp 8))⟩,
     ⟨(some 17), .p (.mv (.tmp 6))⟩,
     ⟨(some 18), .p (.bin .lss (.tmp 16) (.tmp 17))⟩])
  (.cond (.tmp 18) (.skip)
  (.exit 2)))
 (.seq (.block 3 (.seq (.dops [(none, [⟨(some 21), .p (.mv (.tmp 0)), 0⟩,
      ⟨(some 22), .p (.mv (.tmp 1)), 0⟩,
      ⟨(some 23), .p (.mv (.tmp 8)), 0⟩,
      ⟨(some 24), .p (.idxS (.tmp 22) (.tmp 23)), 6⟩,
      ⟨(some 25), .p (.mv (.tmp 1)), 0⟩,
      ⟨(some 26), .p (.mv (.tmp 6)), 0⟩,
      ⟨(some 27), .p (.idxS (.tmp 25) (.tmp 26)), 48⟩,
      ⟨(some 28), .call 33 [(.tmp 21), (.tmp 24), (.tmp 27)], 127⟩,
      ⟨(some 29), .p (.un .not (.tmp 28)), 255⟩])])
   (.cond (.tmp 29) (.ops none [⟨(some 30), .p (.mv (.tmp 7))⟩,
      ⟨(some 31), .p (.mv (.tmp 5))⟩,
      ⟨(some 32), .p (.mv (.tmp 8))⟩,
      ⟨(some 33), .p (.adrSl 1 (.tmp 31) (.tmp 32))⟩,
      ⟨(some 34), .l (.load false 1 (.tmp 33))⟩,
      ⟨(some 35), .p (.bin .add (.tmp 34) (.const (.int .i64 (1))))⟩,
      ⟨(some 36), .p (.minmax true [(.tmp 30), (.tmp 35)])⟩,
      ⟨(some 7), .p (.mv (.tmp 36))⟩])
   (.skip))))
 (.cut [0, 1, 5, 6, 7, 8] c46z21))
noncomputable def c46z22 : ICode := .ops none [⟨(some 37), .p (.mv (.tmp 5))⟩,
   ⟨(some 38), .p (.mv (.tmp 7))⟩,
   ⟨(some 39), .e (.mkSl 3 1 [(.int .i64 (0))] [(0, 1, (.tmp 38))])⟩,
   ⟨(some 40), .e (.app 3 1 8 (.tmp 37) (.tmp 39))⟩,
   ⟨(some 5), .p (.mv (.tmp 40))⟩]
noncomputable def c46z12 : ICode := .cut [0, 1, 5, 6, 7] c46z22
noncomputable def c46z23 : ICode := .ops none [⟨(some 14), .p (.mv (.tmp 6))⟩,
   ⟨(some 15), .p (.bin .add (.tmp 14) (.const (.int .i64 (1))))⟩,
   ⟨(some 6), .p (.mv (.tmp 15))⟩]
noncomputable def c46z9 : ICode := .cut [0, 1, 5, 6] c46z23
noncomputable def c46z6 : ICode := .seq (.seq (.ops none [⟨(some 10), .p (.mv (.tmp 6))⟩,
     ⟨(some 11), .p (.mv (.tmp 1))⟩,
     ⟨(some 12), .p (.lenS (.tmp 11))⟩,
     ⟨(some 13), .p (.bin .lss (.tmp 10) (.tmp 12))⟩])
  (.cond (.tmp 13) (.skip)
  (.exit 0)))
 (.seq (.block 1 (.seq (.ops none [⟨(some 7), .p (.mv (.const (.int .i64 (1))))⟩])
   (.seq (.seq (.ops none [⟨(some 8), .p (.mv (.const (.int .i64 (0))))⟩])
    (.block 2 (.loop [0, 1, 5, 6] [7, 8] c46z15))) c46z12))) c46z9)
noncomputable def c46z24 : ICode := .seq (.ops none [⟨(some 41), .p (.mv (.tmp 5))⟩,
    ⟨(some 4), .p (.mv (.tmp 41))⟩])
 (.ret)
noncomputable def c46z3 : ICode := .cut [5] c46z24
noncomputable def c46 : ICode := .seq (.ops none [⟨(some 4), .p (.mv (.const (.slice none 0 0)))⟩])
 (.seq (.ops none [⟨(some 9), .e (.mkSl 3 0 [(.int .i64 (0))] [])⟩,
    ⟨(some 5), .p (.mv (.tmp 9))⟩])
 (.seq (.seq (.ops none [⟨(some 6), .p (.mv (.const (.int .i64 (0))))⟩])
  (.block 0 (.loop [0, 1] [5, 6] c46z6))) c46z3))
theorem k46 : compFn Try.prog 46 [[], [], [], [0, 1], [5, 6], [], [], [], [], [0, 1, 5, 6], [7, 8], [], [], [], [0, 1, 5, 6, 7, 8], [0, 1, 5, 6, 7], [0, 1, 5, 6], [5], []] = some (42, c46, [.tmp 4]) := by kernel_rfl
def K46z0 (_P : Program) (K : Value → Heap → Prop) : Exit → (Nat → Value) → Heap → Prop := bodyP [.tmp 4] K
def K46z3 (P : Program) (K : Value → Heap → Prop) : Exit → (Nat → Value) → Heap → Prop := thenK (iwpP P c46z3 (K46z0 P K)) (K46z0 P K)
def K46z5 (P : Program) (K : Value → Heap → Prop) : Exit → (Nat → Value) → Heap → Prop := inBlockK 0 (K46z3 P K)
def K46z6 (P : Program) (K : Value → Heap → Prop) (pairs0 s1 : Value) (L1 : List Value → Heap → Prop) : Exit → (Nat → Value) → Heap → Prop := thenK (fun f' h'' => (([0, 1] : List Nat).map f' : List Value) = [pairs0, s1] ∧ L1 (([5, 6] : List Nat).map f') h'') (K46z5 P K)
def K46z9 (P : Program) (K : Value → Heap → Prop) (pairs0 s1 : Value) (L1 : List Value → Heap → Prop) : Exit → (Nat → Value) → Heap → Prop := thenK (iwpP P c46z9 (K46z6 P K pairs0 s1 L1)) (K46z6 P K pairs0 s1 L1)
def K46z10 (P : Program) (K : Value → Heap → Prop) (pairs0 s1 : Value) (L1 : List Value → Heap → Prop) : Exit → (Nat → Value) → Heap → Prop := inBlockK 1 (K46z9 P K pairs0 s1 L1)
def K46z12 (P : Program) (K : Value → Heap → Prop) (pairs0 s1 : Value) (L1 : List Value → Heap → Prop) : Exit → (Nat → Value) → Heap → Prop := thenK (iwpP P c46z12 (K46z10 P K pairs0 s1 L1)) (K46z10 P K pairs0 s1 L1)
def K46z14 (P : Program) (K : Value → Heap → Prop) (pairs0 s1 : Value) (L1 : List Value → Heap → Prop) : Exit → (Nat → Value) → Heap → Prop := inBlockK 2 (K46z12 P K pairs0 s1 L1)
def K46z15 (P : Program) (K : Value → Heap → Prop) (pairs0 s1 out5 i6 : Value) (L1 L2 : List Value → Heap → Prop) : Exit → (Nat → Value) → Heap → Prop := thenK (fun f' h'' => (([0, 1, 5, 6] : List Nat).map f' : List Value) = [pairs0, s1, out5, i6] ∧ L2 (([7, 8] : List Nat).map f') h'') (K46z14 P K pairs0 s1 L1)
def p46z6 (P : Program) (K : Value → Heap → Prop) (pairs0 s1 : Value) (L1 : List Value → Heap → Prop) (xs : List Value) (h : Heap) : Prop := CutP (iwpP P c46z6 (K46z6 P K pairs0 s1 L1)) ([0, 1] ++ [5, 6]) ([pairs0, s1] ++ xs) h
def p46z15 (P : Program) (K : Value → Heap → Prop) (pairs0 s1 out5 i6 : Value) (L1 L2 : List Value → Heap → Prop) (xs : List Value) (h : Heap) : Prop := CutP (iwpP P c46z15 (K46z15 P K pairs0 s1 out5 i6 L1 L2)) ([0, 1, 5, 6] ++ [7, 8]) ([pairs0, s1, out5, i6] ++ xs) h
def p46z21 (P : Program) (K : Value → Heap → Prop) (pairs0 s1 out5 i6 h7 k8 : Value) (L1 L2 : List Value → Heap → Prop) (h : Heap) : Prop := CutP (iwpP P c46z21 (K46z15 P K pairs0 s1 out5 i6 L1 L2)) [0, 1, 5, 6, 7, 8] [pairs0, s1, out5, i6, h7, k8] h
def p46z22 (P : Program) (K : Value → Heap → Prop) (pairs0 s1 out5 i6 h7 : Value) (L1 : List Value → Heap → Prop) (h : Heap) : Prop := CutP (iwpP P c46z22 (K46z10 P K pairs0 s1 L1)) [0, 1, 5, 6, 7] [pairs0, s1, out5, i6, h7] h
def p46z23 (P : Program) (K : Value → Heap → Prop) (pairs0 s1 out5 i6 : Value) (L1 : List Value → Heap → Prop) (h : Heap) : Prop := CutP (iwpP P c46z23 (K46z6 P K pairs0 s1 L1)) [0, 1, 5, 6] [pairs0, s1, out5, i6] h
def p46z24 (P : Program) (K : Value → Heap → Prop) (out5 : Value) (h : Heap) : Prop := CutP (iwpP P c46z24 (K46z0 P K)) [5] [out5] h
theorem q46z21 (P : Program) (K : Value → Heap → Prop) (pairs0 s1 out5 i6 h7 k8 : Value) (L1 L2 : List Value → Heap → Prop) (h : Heap) : p46z21 P K pairs0 s1 out5 i6 h7 k8 L1 L2 h =
  (OP (iBin .add k8 (.int .i64 (1))) fun x20 =>
  ([pairs0, s1, out5, i6] : List Value) = [pairs0, s1, out5, i6] ∧ L2 [h7, x20] h) := (CutP_def _ _ _ _).trans (by kernel_rfl)
theorem q46z15 (P : Program) (K : Value → Heap → Prop) (pairs0 s1 out5 i6 : Value) (L1 L2 : List Value → Heap → Prop) (h7 k8 : Value) (h : Heap) : p46z15 P K pairs0 s1 out5 i6 L1 L2 [h7, k8] h =
  (OP (iBin .lss k8 i6) fun x18 =>
  IfP x18
    (OP (iIdxS s1 k8) fun x24 =>
    OP (iIdxS s1 i6) fun x27 =>
    CallP P 33 [pairs0, x24, x27] h fun x28 h_1 =>
    (True) ∧
    OP (iUn .not x28) fun x29 =>
    IfP x29
      (OP (iAdrSl 1 out5 k8) fun x33 =>
      OP (iLoad false 1 h_1 x33) fun x34 =>
      OP (iBin .add x34 (.int .i64 (1))) fun x35 =>
      OP (iMinmax true [h7, x35]) fun x36 =>
      p46z21 P K pairs0 s1 out5 i6 x36 k8 L1 L2 h_1)
      (p46z21 P K pairs0 s1 out5 i6 h7 k8 L1 L2 h_1))
    (p46z22 P K pairs0 s1 out5 i6 h7 L1 h)) := (CutP_def _ _ _ _).trans (by kernel_rfl)
theorem q46z22 (P : Program) (K : Value → Heap → Prop) (pairs0 s1 out5 i6 h7 : Value) (L1 : List Value → Heap → Prop) (h : Heap) : p46z22 P K pairs0 s1 out5 i6 h7 L1 h =
  (OH (iMkSl 3 1 [(.int .i64 (0))] h [(0, 1, h7)]) fun x39 h_1 =>
  OH (iApp 3 1 8 h_1 out5 x39) fun x40 h_2 =>
  p46z23 P K pairs0 s1 x40 i6 L1 h_2) := (CutP_def _ _ _ _).trans (by kernel_rfl)
theorem q46z23 (P : Program) (K : Value → Heap → Prop) (pairs0 s1 out5 i6 : Value) (L1 : List Value → Heap → Prop) (h : Heap) : p46z23 P K pairs0 s1 out5 i6 L1 h =
  (OP (iBin .add i6 (.int .i64 (1))) fun x15 =>
  ([pairs0, s1] : List Value) = [pairs0, s1] ∧ L1 [out5, x15] h) := (CutP_def _ _ _ _).trans (by kernel_rfl)
theorem q46z6 (P : Program) (K : Value → Heap → Prop) (pairs0 s1 : Value) (L1 : List Value → Heap → Prop) (out5 i6 : Value) (h : Heap) : p46z6 P K pairs0 s1 L1 [out5, i6] h =
  (OP (iLenS s1) fun x12 =>
  OP (iBin .lss i6 x12) fun x13 =>
  IfP x13
    (LoopP [(.int .i64 (1)), (.int .i64 (0))] h fun L2 xs hx =>
    p46z15 P K pairs0 s1 out5 i6 L1 L2 xs hx)
    (p46z24 P K out5 h)) := (CutP_def _ _ _ _).trans (by kernel_rfl)
theorem q46z24 (P : Program) (K : Value → Heap → Prop) (out5 : Value) (h : Heap) : p46z24 P K out5 h =
  (K out5 h) := (CutP_def _ _ _ _).trans (by kernel_rfl)
def T46 (P : Program) (K : Value → Heap → Prop) (pairs0 s1 : Value) (h : Heap) : Prop :=
  OH (iMkSl 3 0 [(.int .i64 (0))] h []) fun x9 h_1 =>
  LoopP [x9, (.int .i64 (0))] h_1 fun L1 xs hx =>
  p46z6 P K pairs0 s1 L1 xs hx
theorem e46 (P : Program) (K : Value → Heap → Prop) (pairs0 s1 : Value) (h : Heap) : iwpP P c46 (bodyP [.tmp 4] K) (frame0 [pairs0, s1]) h = T46 P K pairs0 s1 h := by kernel_rfl
theorem f46 {K : Value → Heap → Prop} {pairs0 s1 : Value} {h : Heap} (H : T46 Try.prog K pairs0 s1 h) : CallP Try.prog 46 [pairs0, s1] h K :=
  callP_intro k46 (Nat.le_of_ble_eq_true rfl) ((e46 Try.prog K pairs0 s1 h).mpr H)
/-! F78: (*pommel/stitch.threads).letters -/
noncomputable def c78 : ICode := .seq (.ops none [⟨(some 2), .e (.box 91 (.tmp 0))⟩,
    ⟨(some 3), .e (.box 9 (.tmp 1))⟩,
    ⟨(some 4), .p (.mv (.const .nilFunc))⟩])
 (.seq (.ops none [⟨(some 5), .p (.fn 106 [] [(.tmp 3), (.tmp 2)])⟩,
    ⟨(some 4), .p (.mv (.tmp 5))⟩])
 (.ret))
theorem k78 : compFn Try.prog 78 [[], []] = some (6, c78, [.tmp 4]) := by kernel_rfl
def K78z0 (_P : Program) (K : Value → Heap → Prop) : Exit → (Nat → Value) → Heap → Prop := bodyP [.tmp 4] K
def T78 (P : Program) (K : Value → Heap → Prop) (t0 s1 : Value) (h : Heap) : Prop :=
  OH (iBox 91 h t0) fun t2 h_1 =>
  OH (iBox 9 h_1 s1) fun s3 h_2 =>
  K (.func (.func 106) #[] #[s3, t2]) h_2
theorem e78 (P : Program) (K : Value → Heap → Prop) (t0 s1 : Value) (h : Heap) : iwpP P c78 (bodyP [.tmp 4] K) (frame0 [t0, s1]) h = T78 P K t0 s1 h := by kernel_rfl
theorem f78 {K : Value → Heap → Prop} {t0 s1 : Value} {h : Heap} (H : T78 Try.prog K t0 s1 h) : CallP Try.prog 78 [t0, s1] h K :=
  callP_intro k78 (Nat.le_of_ble_eq_true rfl) ((e78 Try.prog K t0 s1 h).mpr H)
/-! F79: slices.Sort[[]byte,byte] -/
noncomputable def c79 : ICode := .seq (.ops none [⟨(some 3), .p (.mv (.tmp 0))⟩,
    ⟨(some 4), .p (.lenSl (.tmp 3))⟩,
    ⟨(some 2), .p (.mv (.tmp 4))⟩])
 (.ops none [⟨(some 5), .p (.mv (.tmp 0))⟩,
   ⟨(some 6), .p (.mv (.tmp 2))⟩,
   ⟨(some 7), .p (.mv (.tmp 2))⟩,
   ⟨(some 8), .p (.conv .u64 (.tmp 7))⟩,
   ⟨(some 9), .call 108 [(.tmp 8)]⟩,
   ⟨(some 10), .call 107 [(.tmp 5), (.const (.int .i64 (0))), (.tmp 6), (.tmp 9)]⟩])
theorem k79 : compFn Try.prog 79 [[]] = some (11, c79, []) := by kernel_rfl
def K79z0 (_P : Program) (K : Value → Heap → Prop) : Exit → (Nat → Value) → Heap → Prop := bodyP [] K
def T79 (P : Program) (K : Value → Heap → Prop) (x0 : Value) (h : Heap) : Prop :=
  OP (iLenSl x0) fun x4 =>
  OP (iConv .u64 x4) fun x8 =>
  CallP P 108 [x8] h fun x9 h_1 =>
  CallP P 107 [x0, (.int .i64 (0)), x4, x9] h_1 fun x10 h_2 =>
  K (.tuple #[]) h_2
theorem e79 (P : Program) (K : Value → Heap → Prop) (x0 : Value) (h : Heap) : iwpP P c79 (bodyP [] K) (frame0 [x0]) h = T79 P K x0 h := by kernel_rfl
theorem f79 {K : Value → Heap → Prop} {x0 : Value} {h : Heap} (H : T79 Try.prog K x0 h) : CallP Try.prog 79 [x0] h K :=
  callP_intro k79 (Nat.le_of_ble_eq_true rfl) ((e79 Try.prog K x0 h).mpr H)
/-! F106: (*pommel/stitch.threads).letters$1 -/
noncomputable def c106z21 : ICode := .ops none [⟨(some 34), .p (.bin .add (.tmp 17) (.const (.int .i64 (1))))⟩,
   ⟨(some 17), .p (.mv (.tmp 34))⟩]
noncomputable def c106z14 : ICode := .seq (.ops none [⟨(some 18), .p (.bin .lss (.tmp 17) (.tmp 16))⟩])
 (.seq (.cond (.tmp 18) (.skip)
  (.exit 2))
 (.seq (.block 3 (.seq (.ops none [⟨(some 19), .p (.mv (.tmp 17))⟩,
      ⟨(some 7), .p (.mv (.tmp 19))⟩])
   (.seq (.dops [(none, [⟨(some 20), .l (.load false 1 (.tmp 2)), 0⟩,
      ⟨(some 21), .l (.load false 1 (.tmp 1)), 0⟩,
      ⟨(some 22), .p (.mv (.tmp 5)), 0⟩,
      ⟨(some 23), .p (.idxS (.tmp 21) (.tmp 22)), 6⟩,
      ⟨(some 24), .p (.mv (.tmp 7)), 0⟩,
      ⟨(some 25), .p (.conv .u8 (.tmp 24)), 16⟩,
      ⟨(some 26), .p (.bin .add (.const (.int .u8 (97))) (.tmp 25)), 48⟩,
      ⟨(some 27), .call 81 [(.tmp 20), (.tmp 23), (.tmp 26)], 127⟩])])
   (.cond (.tmp 27) (.ops none [⟨(some 28), .p (.mv (.tmp 6))⟩,
      ⟨(some 29), .p (.mv (.tmp 7))⟩,
      ⟨(some 30), .p (.adrArr 6 1 (.tmp 4) (.tmp 29))⟩,
      ⟨(some 31), .l (.load false 1 (.tmp 30))⟩,
      ⟨(some 32), .p (.bin .add (.tmp 31) (.const (.int .i64 (1))))⟩,
      ⟨(some 33), .p (.minmax true [(.tmp 28), (.tmp 32)])⟩,
      ⟨(some 6), .p (.mv (.tmp 33))⟩])
   (.skip)))))
 (.cut [0, 1, 2, 4, 5, 6, 9, 10, 16, 17] c106z21)))
noncomputable def c106z22 : ICode := .seq (.ops none [⟨(some 35), .l (.load false 1 (.tmp 1))⟩,
    ⟨(some 36), .p (.mv (.tmp 5))⟩,
    ⟨(some 37), .p (.idxS (.tmp 35) (.tmp 36))⟩,
    ⟨(some 38), .p (.bin .sub (.tmp 37) (.const (.int .u8 (97))))⟩,
    ⟨(some 39), .p (.mv (.tmp 6))⟩,
    ⟨(some 40), .p (.adrArr 6 1 (.tmp 4) (.tmp 38))⟩,
    ⟨none, .e (.store 1 (.tmp 40) (.tmp 39))⟩])
 (.seq (.ops none [⟨(some 41), .p (.mv (.tmp 0))⟩,
    ⟨(some 42), .l (.load false 1 (.tmp 1))⟩,
    ⟨(some 43), .p (.mv (.tmp 5))⟩,
    ⟨(some 44), .p (.idxS (.tmp 42) (.tmp 43))⟩,
    ⟨(some 45), .p (.mv (.tmp 6))⟩,
    ⟨(some 46), .callv (.tmp 41) [(.tmp 44), (.tmp 45)]⟩,
    ⟨(some 47), .p (.un .not (.tmp 46))⟩])
 (.cond (.tmp 47) (.ret)
 (.skip)))
noncomputable def c106z11 : ICode := .cut [0, 1, 2, 4, 5, 6, 9, 10] c106z22
noncomputable def c106z25 : ICode := .ops none [⟨(some 48), .p (.bin .add (.tmp 10) (.const (.int .i64 (1))))⟩,
   ⟨(some 10), .p (.mv (.tmp 48))⟩]
noncomputable def c106z7 : ICode := .cut [0, 1, 2, 4, 9, 10] c106z25
noncomputable def c106z4 : ICode := .seq (.ops none [⟨(some 11), .p (.bin .lss (.tmp 10) (.tmp 9))⟩])
 (.seq (.cond (.tmp 11) (.skip)
  (.exit 0))
 (.seq (.block 1 (.seq (.ops none [⟨(some 12), .p (.mv (.tmp 10))⟩,
      ⟨(some 5), .p (.mv (.tmp 12))⟩])
   (.seq (.ops none [⟨(some 6), .p (.mv (.const (.int .i64 (1))))⟩])
   (.seq (.seq (.ops none [⟨(some 13), .l (.load false 1 (.tmp 2))⟩,
       ⟨(some 14), .p (.nilck (.tmp 13))⟩,
       ⟨(some 15), .p (.fadr 0 (.tmp 14))⟩,
       ⟨(some 16), .l (.load false 1 (.tmp 15))⟩,
       ⟨(some 17), .p (.mv (.const (.int .i64 (0))))⟩])
    (.block 2 (.loop [0, 1, 2, 4, 5, 9, 10, 16] [6, 17] c106z14))) c106z11)))) c106z7))
noncomputable def c106 : ICode := .seq (.ops none [⟨(some 4), .e (.alloc 157 [(.int .i64 (0)), (.int .i64 (0)), (.int .i64 (0)), (.int .i64 (0)), (.int .i64 (0)), (.int .i64 (0))])⟩])
 (.seq (.ops none [⟨(some 8), .l (.load false 1 (.tmp 1))⟩,
    ⟨(some 9), .p (.lenS (.tmp 8))⟩,
    ⟨(some 10), .p (.mv (.const (.int .i64 (0))))⟩])
 (.block 0 (.loop [0, 1, 2, 4, 9] [10] c106z4)))
theorem k106 : compFn Try.prog 106 [[], [], [0, 1, 2, 4, 9], [10], [], [], [], [], [], [0, 1, 2, 4, 5, 9, 10, 16], [6, 17], [], [], [], [], [0, 1, 2, 4, 5, 6, 9, 10, 16, 17], [0, 1, 2, 4, 5, 6, 9, 10], [], [], [0, 1, 2, 4, 9, 10]] = some (49, c106, []) := by kernel_rfl
def K106z0 (_P : Program) (K : Value → Heap → Prop) : Exit → (Nat → Value) → Heap → Prop := bodyP [] K
def K106z3 (P : Program) (K : Value → Heap → Prop) : Exit → (Nat → Value) → Heap → Prop := inBlockK 0 (K106z0 P K)
def K106z4 (P : Program) (K : Value → Heap → Prop) (yield0 x1 x2 steps4 x9 : Value) (L1 : List Value → Heap → Prop) : Exit → (Nat → Value) → Heap → Prop := thenK (fun f' h'' => (([0, 1, 2, 4, 9] : List Nat).map f' : List Value) = [yield0, x1, x2, steps4, x9] ∧ L1 (([10] : List Nat).map f') h'') (K106z3 P K)
def K106z7 (P : Program) (K : Value → Heap → Prop) (yield0 x1 x2 steps4 x9 : Value) (L1 : List Value → Heap → Prop) : Exit → (Nat → Value) → Heap → Prop := thenK (iwpP P c106z7 (K106z4 P K yield0 x1 x2 steps4 x9 L1)) (K106z4 P K yield0 x1 x2 steps4 x9 L1)
def K106z8 (P : Program) (K : Value → Heap → Prop) (yield0 x1 x2 steps4 x9 : Value) (L1 : List Value → Heap → Prop) : Exit → (Nat → Value) → Heap → Prop := inBlockK 1 (K106z7 P K yield0 x1 x2 steps4 x9 L1)
def K106z11 (P : Program) (K : Value → Heap → Prop) (yield0 x1 x2 steps4 x9 : Value) (L1 : List Value → Heap → Prop) : Exit → (Nat → Value) → Heap → Prop := thenK (iwpP P c106z11 (K106z8 P K yield0 x1 x2 steps4 x9 L1)) (K106z8 P K yield0 x1 x2 steps4 x9 L1)
def K106z13 (P : Program) (K : Value → Heap → Prop) (yield0 x1 x2 steps4 x9 : Value) (L1 : List Value → Heap → Prop) : Exit → (Nat → Value) → Heap → Prop := inBlockK 2 (K106z11 P K yield0 x1 x2 steps4 x9 L1)
def K106z14 (P : Program) (K : Value → Heap → Prop) (yield0 x1 x2 steps4 i5 x9 x10 x16 : Value) (L1 L2 : List Value → Heap → Prop) : Exit → (Nat → Value) → Heap → Prop := thenK (fun f' h'' => (([0, 1, 2, 4, 5, 9, 10, 16] : List Nat).map f' : List Value) = [yield0, x1, x2, steps4, i5, x9, x10, x16] ∧ L2 (([6, 17] : List Nat).map f') h'') (K106z13 P K yield0 x1 x2 steps4 x9 L1)
def p106z4 (P : Program) (K : Value → Heap → Prop) (yield0 x1 x2 steps4 x9 : Value) (L1 : List Value → Heap → Prop) (xs : List Value) (h : Heap) : Prop := CutP (iwpP P c106z4 (K106z4 P K yield0 x1 x2 steps4 x9 L1)) ([0, 1, 2, 4, 9] ++ [10]) ([yield0, x1, x2, steps4, x9] ++ xs) h
def p106z14 (P : Program) (K : Value → Heap → Prop) (yield0 x1 x2 steps4 i5 x9 x10 x16 : Value) (L1 L2 : List Value → Heap → Prop) (xs : List Value) (h : Heap) : Prop := CutP (iwpP P c106z14 (K106z14 P K yield0 x1 x2 steps4 i5 x9 x10 x16 L1 L2)) ([0, 1, 2, 4, 5, 9, 10, 16] ++ [6, 17]) ([yield0, x1, x2, steps4, i5, x9, x10, x16] ++ xs) h
def p106z21 (P : Program) (K : Value → Heap → Prop) (yield0 x1 x2 steps4 i5 step6 x9 x10 x16 x17 : Value) (L1 L2 : List Value → Heap → Prop) (h : Heap) : Prop := CutP (iwpP P c106z21 (K106z14 P K yield0 x1 x2 steps4 i5 x9 x10 x16 L1 L2)) [0, 1, 2, 4, 5, 6, 9, 10, 16, 17] [yield0, x1, x2, steps4, i5, step6, x9, x10, x16, x17] h
def p106z22 (P : Program) (K : Value → Heap → Prop) (yield0 x1 x2 steps4 i5 step6 x9 x10 : Value) (L1 : List Value → Heap → Prop) (h : Heap) : Prop := CutP (iwpP P c106z22 (K106z8 P K yield0 x1 x2 steps4 x9 L1)) [0, 1, 2, 4, 5, 6, 9, 10] [yield0, x1, x2, steps4, i5, step6, x9, x10] h
def p106z25 (P : Program) (K : Value → Heap → Prop) (yield0 x1 x2 steps4 x9 x10 : Value) (L1 : List Value → Heap → Prop) (h : Heap) : Prop := CutP (iwpP P c106z25 (K106z4 P K yield0 x1 x2 steps4 x9 L1)) [0, 1, 2, 4, 9, 10] [yield0, x1, x2, steps4, x9, x10] h
theorem q106z21 (P : Program) (K : Value → Heap → Prop) (yield0 x1 x2 steps4 i5 step6 x9 x10 x16 x17 : Value) (L1 L2 : List Value → Heap → Prop) (h : Heap) : p106z21 P K yield0 x1 x2 steps4 i5 step6 x9 x10 x16 x17 L1 L2 h =
  (OP (iBin .add x17 (.int .i64 (1))) fun x34 =>
  ([yield0, x1, x2, steps4, i5, x9, x10, x16] : List Value) = [yield0, x1, x2, steps4, i5, x9, x10, x16] ∧ L2 [step6, x34] h) := (CutP_def _ _ _ _).trans (by kernel_rfl)
theorem q106z14 (P : Program) (K : Value → Heap → Prop) (yield0 x1 x2 steps4 i5 x9 x10 x16 : Value) (L1 L2 : List Value → Heap → Prop) (step6 x17 : Value) (h : Heap) : p106z14 P K yield0 x1 x2 steps4 i5 x9 x10 x16 L1 L2 [step6, x17] h =
  (OP (iBin .lss x17 x16) fun x18 =>
  IfP x18
    (OP (iLoad false 1 h x2) fun x20 =>
    (True) ∧
    OP (iLoad false 1 h x1) fun x21 =>
    (True) ∧
    OP (iIdxS x21 i5) fun x23 =>
    OP (iConv .u8 x17) fun x25 =>
    OP (iBin .add (.int .u8 (97)) x25) fun x26 =>
    CallP P 81 [x20, x23, x26] h fun x27 h_1 =>
    (True) ∧
    IfP x27
      (OP (iAdrArr 6 1 steps4 x17) fun x30 =>
      OP (iLoad false 1 h_1 x30) fun x31 =>
      OP (iBin .add x31 (.int .i64 (1))) fun x32 =>
      OP (iMinmax true [step6, x32]) fun x33 =>
      p106z21 P K yield0 x1 x2 steps4 i5 x33 x9 x10 x16 x17 L1 L2 h_1)
      (p106z21 P K yield0 x1 x2 steps4 i5 step6 x9 x10 x16 x17 L1 L2 h_1))
    (p106z22 P K yield0 x1 x2 steps4 i5 step6 x9 x10 L1 h)) := (CutP_def _ _ _ _).trans (by kernel_rfl)
theorem q106z22 (P : Program) (K : Value → Heap → Prop) (yield0 x1 x2 steps4 i5 step6 x9 x10 : Value) (L1 : List Value → Heap → Prop) (h : Heap) : p106z22 P K yield0 x1 x2 steps4 i5 step6 x9 x10 L1 h =
  (OP (iLoad false 1 h x1) fun x35 =>
  OP (iIdxS x35 i5) fun x37 =>
  OP (iBin .sub x37 (.int .u8 (97))) fun x38 =>
  OP (iAdrArr 6 1 steps4 x38) fun x40 =>
  OH (oStore 1 h x40 step6) fun _ h_1 =>
  OP (iLoad false 1 h_1 x1) fun x42 =>
  OP (iIdxS x42 i5) fun x44 =>
  CallVP P yield0 [x44, step6] h_1 fun x46 h_2 =>
  OP (iUn .not x46) fun x47 =>
  IfP x47
    (K (.tuple #[]) h_2)
    (p106z25 P K yield0 x1 x2 steps4 x9 x10 L1 h_2)) := (CutP_def _ _ _ _).trans (by kernel_rfl)
theorem q106z25 (P : Program) (K : Value → Heap → Prop) (yield0 x1 x2 steps4 x9 x10 : Value) (L1 : List Value → Heap → Prop) (h : Heap) : p106z25 P K yield0 x1 x2 steps4 x9 x10 L1 h =
  (OP (iBin .add x10 (.int .i64 (1))) fun x48 =>
  ([yield0, x1, x2, steps4, x9] : List Value) = [yield0, x1, x2, steps4, x9] ∧ L1 [x48] h) := (CutP_def _ _ _ _).trans (by kernel_rfl)
theorem q106z4 (P : Program) (K : Value → Heap → Prop) (yield0 x1 x2 steps4 x9 : Value) (L1 : List Value → Heap → Prop) (x10 : Value) (h : Heap) : p106z4 P K yield0 x1 x2 steps4 x9 L1 [x10] h =
  (OP (iBin .lss x10 x9) fun x11 =>
  IfP x11
    (OP (iLoad false 1 h x2) fun x13 =>
    OP (iNilck x13) fun x14 =>
    OP (iFadr 0 x14) fun x15 =>
    OP (iLoad false 1 h x15) fun x16 =>
    LoopP [(.int .i64 (1)), (.int .i64 (0))] h fun L2 xs hx =>
    p106z14 P K yield0 x1 x2 steps4 x10 x9 x10 x16 L1 L2 xs hx)
    (K (.tuple #[]) h)) := (CutP_def _ _ _ _).trans (by kernel_rfl)
def T106 (P : Program) (K : Value → Heap → Prop) (yield0 x1 x2 : Value) (h : Heap) : Prop :=
  OH (iAlloc 157 [(.int .i64 (0)), (.int .i64 (0)), (.int .i64 (0)), (.int .i64 (0)), (.int .i64 (0)), (.int .i64 (0))] h) fun steps4 h_1 =>
  OP (iLoad false 1 h_1 x1) fun x8 =>
  OP (iLenS x8) fun x9 =>
  LoopP [(.int .i64 (0))] h_1 fun L1 xs hx =>
  p106z4 P K yield0 x1 x2 steps4 x9 L1 xs hx
theorem e106 (P : Program) (K : Value → Heap → Prop) (yield0 x1 x2 : Value) (h : Heap) : iwpP P c106 (bodyP [] K) (frame0 [yield0, x1, x2]) h = T106 P K yield0 x1 x2 h := by kernel_rfl
theorem f106 {K : Value → Heap → Prop} {yield0 x1 x2 : Value} {h : Heap} (H : T106 Try.prog K yield0 x1 x2 h) : CallP Try.prog 106 [yield0, x1, x2] h K :=
  callP_intro k106 (Nat.le_of_ble_eq_true rfl) ((e106 Try.prog K yield0 x1 x2 h).mpr H)
/-! F107: slices.pdqsortOrdered[byte] -/
noncomputable def c107z32 : ICode := .ops none [⟨(some 68), .p (.pick (.tmp 65) (.tmp 67) (.const (.bool false)))⟩]
noncomputable def c107z30 : ICode := .seq (.ops (some (65, true)) [⟨(some 66), .p (.mv (.tmp 12))⟩,
    ⟨(some 67), .p (.bin .eql (.tmp 66) (.const (.int .i64 (1))))⟩])
 (.cut [0, 1, 2, 3, 8, 9, 10, 11, 65, 67] c107z32)
noncomputable def c107z28 : ICode := .seq (.ops none [⟨(some 64), .p (.pick (.tmp 62) (.tmp 63) (.const (.bool false)))⟩,
    ⟨(some 65), .p (.mv (.tmp 64))⟩])
 (.cut [0, 1, 2, 3, 8, 9, 10, 11, 12, 65] c107z30)
noncomputable def c107z26 : ICode := .seq (.ops (some (62, true)) [⟨(some 63), .p (.mv (.tmp 9))⟩])
 (.cut [0, 1, 2, 3, 8, 9, 10, 11, 12, 62, 63] c107z28)
noncomputable def c107z24 : ICode := .cond (.tmp 68) (.seq (.ops none [⟨(some 69), .p (.mv (.tmp 0))⟩,
     ⟨(some 70), .p (.mv (.tmp 1))⟩,
     ⟨(some 71), .p (.mv (.tmp 2))⟩,
     ⟨(some 72), .call 119 [(.tmp 69), (.tmp 70), (.tmp 71)]⟩])
  (.cond (.tmp 72) (.ret)
  (.skip)))
 (.skip)
noncomputable def c107z34 : ICode := .seq (.seq (.dops [(none, [⟨(some 73), .p (.mv (.tmp 1)), 0⟩,
     ⟨(some 74), .p (.bin .gtr (.tmp 73) (.const (.int .i64 (0)))), 1⟩,
     ⟨(some 75), .p (.mv (.tmp 74)), 3⟩]),
    ((some (75, true)), [⟨(some 76), .p (.mv (.tmp 0)), 7⟩,
     ⟨(some 77), .p (.mv (.tmp 1)), 7⟩,
     ⟨(some 78), .p (.bin .sub (.tmp 77) (.const (.int .i64 (1)))), 23⟩,
     ⟨(some 79), .p (.adrSl 1 (.tmp 76) (.tmp 78)), 63⟩,
     ⟨(some 80), .l (.load false 1 (.tmp 79)), 127⟩,
     ⟨(some 81), .p (.mv (.tmp 0)), 7⟩,
     ⟨(some 82), .p (.mv (.tmp 11)), 7⟩,
     ⟨(some 83), .p (.adrSl 1 (.tmp 81) (.tmp 82)), 775⟩,
     ⟨(some 84), .l (.load false 1 (.tmp 83)), 1799⟩,
     ⟨(some 85), .call 120 [(.tmp 80), (.tmp 84)], 4095⟩,
     ⟨(some 86), .p (.un .not (.tmp 85)), 8191⟩]),
    (none, [⟨(some 87), .p (.pick (.tmp 75) (.tmp 86) (.const (.bool false))), 16383⟩])])
  (.cond (.tmp 87) (.seq (.ops none [⟨(some 88), .p (.mv (.tmp 0))⟩,
      ⟨(some 89), .p (.mv (.tmp 1))⟩,
      ⟨(some 90), .p (.mv (.tmp 2))⟩,
      ⟨(some 91), .p (.mv (.tmp 11))⟩,
      ⟨(some 92), .call 121 [(.tmp 88), (.tmp 89), (.tmp 90), (.tmp 91)]⟩,
      ⟨(some 13), .p (.mv (.tmp 92))⟩])
   (.seq (.ops none [⟨(some 93), .p (.mv (.tmp 13))⟩,
      ⟨(some 1), .p (.mv (.tmp 93))⟩])
   (.exit 1)))
  (.skip)))
 (.seq (.ops none [⟨(some 95), .p (.mv (.tmp 0))⟩,
    ⟨(some 96), .p (.mv (.tmp 1))⟩,
    ⟨(some 97), .p (.mv (.tmp 2))⟩,
    ⟨(some 98), .p (.mv (.tmp 11))⟩,
    ⟨(some 99), .call 122 [(.tmp 95), (.tmp 96), (.tmp 97), (.tmp 98)]⟩,
    ⟨(some 94), .p (.mv (.tmp 99))⟩,
    ⟨(some 100), .p (.ext (.tmp 94) 0)⟩,
    ⟨(some 101), .p (.ext (.tmp 94) 1)⟩,
    ⟨(some 14), .p (.mv (.tmp 100))⟩,
    ⟨(some 15), .p (.mv (.tmp 101))⟩])
 (.seq (.ops none [⟨(some 102), .p (.mv (.tmp 15))⟩,
    ⟨(some 9), .p (.mv (.tmp 102))⟩])
 (.seq (.ops none [⟨(some 103), .p (.mv (.tmp 14))⟩,
    ⟨(some 104), .p (.mv (.tmp 1))⟩,
    ⟨(some 105), .p (.bin .sub (.tmp 103) (.tmp 104))⟩,
    ⟨(some 106), .p (.mv (.tmp 2))⟩,
    ⟨(some 107), .p (.mv (.tmp 14))⟩,
    ⟨(some 108), .p (.bin .sub (.tmp 106) (.tmp 107))⟩,
    ⟨(some 16), .p (.mv (.tmp 105))⟩,
    ⟨(some 17), .p (.mv (.tmp 108))⟩])
 (.seq (.ops none [⟨(some 109), .p (.mv (.tmp 10))⟩,
    ⟨(some 110), .p (.bin .quo (.tmp 109) (.const (.int .i64 (8))))⟩,
    ⟨(some 18), .p (.mv (.tmp 110))⟩])
 (.seq (.ops none [⟨(some 111), .p (.mv (.tmp 16))⟩,
    ⟨(some 112), .p (.mv (.tmp 17))⟩,
    ⟨(some 113), .p (.bin .lss (.tmp 111) (.tmp 112))⟩])
 (.cond (.tmp 113) (.seq (.ops none [⟨(some 114), .p (.mv (.tmp 16))⟩,
     ⟨(some 115), .p (.mv (.tmp 18))⟩,
     ⟨(some 116), .p (.bin .geq (.tmp 114) (.tmp 115))⟩,
     ⟨(some 8), .p (.mv (.tmp 116))⟩])
  (.seq (.ops none [⟨(some 117), .p (.mv (.tmp 0))⟩,
     ⟨(some 118), .p (.mv (.tmp 1))⟩,
     ⟨(some 119), .p (.mv (.tmp 14))⟩,
     ⟨(some 120), .p (.mv (.tmp 3))⟩,
     ⟨(some 121), .call 107 [(.tmp 117), (.tmp 118), (.tmp 119), (.tmp 120)]⟩])
  (.ops none [⟨(some 122), .p (.mv (.tmp 14))⟩,
    ⟨(some 123), .p (.bin .add (.tmp 122) (.const (.int .i64 (1))))⟩,
    ⟨(some 1), .p (.mv (.tmp 123))⟩])))
 (.seq (.ops none [⟨(some 124), .p (.mv (.tmp 17))⟩,
     ⟨(some 125), .p (.mv (.tmp 18))⟩,
     ⟨(some 126), .p (.bin .geq (.tmp 124) (.tmp 125))⟩,
     ⟨(some 8), .p (.mv (.tmp 126))⟩])
  (.seq (.ops none [⟨(some 127), .p (.mv (.tmp 0))⟩,
     ⟨(some 128), .p (.mv (.tmp 14))⟩,
     ⟨(some 129), .p (.bin .add (.tmp 128) (.const (.int .i64 (1))))⟩,
     ⟨(some 130), .p (.mv (.tmp 2))⟩,
     ⟨(some 131), .p (.mv (.tmp 3))⟩,
     ⟨(some 132), .call 107 [(.tmp 127), (.tmp 129), (.tmp 130), (.tmp 131)]⟩])
  (.ops none [⟨(some 133), .p (.mv (.tmp 14))⟩,
    ⟨(some 2), .p (.mv (.tmp 133))⟩])))))))))
noncomputable def c107z23 : ICode := .cut [0, 1, 2, 3, 8, 9, 10, 11] c107z34
noncomputable def c107z22 : ICode := .seq (.seq (.seq (.ops none [⟨(some 61), .p (.mv (.tmp 8))⟩,
      ⟨(some 62), .p (.mv (.tmp 61))⟩])
   (.cut [0, 1, 2, 3, 8, 9, 10, 11, 12, 62] c107z26)) c107z24) c107z23
noncomputable def c107z16 : ICode := .seq (.ops none [⟨(some 43), .p (.mv (.tmp 0))⟩,
    ⟨(some 44), .p (.mv (.tmp 1))⟩,
    ⟨(some 45), .p (.mv (.tmp 2))⟩,
    ⟨(some 46), .call 117 [(.tmp 43), (.tmp 44), (.tmp 45)]⟩,
    ⟨(some 42), .p (.mv (.tmp 46))⟩,
    ⟨(some 47), .p (.ext (.tmp 42) 0)⟩,
    ⟨(some 48), .p (.ext (.tmp 42) 1)⟩,
    ⟨(some 11), .p (.mv (.tmp 47))⟩,
    ⟨(some 12), .p (.mv (.tmp 48))⟩])
 (.seq (.seq (.ops none [⟨(some 49), .p (.mv (.tmp 12))⟩,
     ⟨(some 50), .p (.bin .eql (.tmp 49) (.const (.int .i64 (2))))⟩])
  (.cond (.tmp 50) (.seq (.ops none [⟨(some 51), .p (.mv (.tmp 0))⟩,
      ⟨(some 52), .p (.mv (.tmp 1))⟩,
      ⟨(some 53), .p (.mv (.tmp 2))⟩,
      ⟨(some 54), .call 118 [(.tmp 51), (.tmp 52), (.tmp 53)]⟩])
   (.seq (.ops none [⟨(some 55), .p (.mv (.tmp 2))⟩,
      ⟨(some 56), .p (.bin .sub (.tmp 55) (.const (.int .i64 (1))))⟩,
      ⟨(some 57), .p (.mv (.tmp 11))⟩,
      ⟨(some 58), .p (.mv (.tmp 1))⟩,
      ⟨(some 59), .p (.bin .sub (.tmp 57) (.tmp 58))⟩,
      ⟨(some 60), .p (.bin .sub (.tmp 56) (.tmp 59))⟩,
      ⟨(some 11), .p (.mv (.tmp 60))⟩])
   (.ops none [⟨(some 12), .p (.mv (.const (.int .i64 (1))))⟩])))
  (.skip)))
 (.cut [0, 1, 2, 3, 8, 9, 10, 11, 12] c107z22))
noncomputable def c107z4 : ICode := .block 1 (.seq (.ops none [⟨(some 19), .p (.mv (.tmp 2))⟩,
     ⟨(some 20), .p (.mv (.tmp 1))⟩,
     ⟨(some 21), .p (.bin .sub (.tmp 19) (.tmp 20))⟩,
     ⟨(some 10), .p (.mv (.tmp 21))⟩])
  (.seq (.seq (.ops none [⟨(some 22), .p (.mv (.tmp 10))⟩,
      ⟨(some 23), .p (.bin .leq (.tmp 22) (.const (.int .i64 (12))))⟩])
   (.cond (.tmp 23) (.seq (.ops none [⟨(some 24), .p (.mv (.tmp 0))⟩,
       ⟨(some 25), .p (.mv (.tmp 1))⟩,
       ⟨(some 26), .p (.mv (.tmp 2))⟩,
       ⟨(some 27), .call 114 [(.tmp 24), (.tmp 25), (.tmp 26)]⟩])
    (.ret))
   (.skip)))
  (.seq (.seq (.ops none [⟨(some 28), .p (.mv (.tmp 3))⟩,
      ⟨(some 29), .p (.bin .eql (.tmp 28) (.const (.int .i64 (0))))⟩])
   (.cond (.tmp 29) (.seq (.ops none [⟨(some 30), .p (.mv (.tmp 0))⟩,
       ⟨(some 31), .p (.mv (.tmp 1))⟩,
       ⟨(some 32), .p (.mv (.tmp 2))⟩,
       ⟨(some 33), .call 115 [(.tmp 30), (.tmp 31), (.tmp 32)]⟩])
    (.ret))
   (.skip)))
  (.seq (.seq (.ops none [⟨(some 34), .p (.mv (.tmp 8))⟩,
      ⟨(some 35), .p (.un .not (.tmp 34))⟩])
   (.cond (.tmp 35) (.seq (.ops none [⟨(some 36), .p (.mv (.tmp 0))⟩,
       ⟨(some 37), .p (.mv (.tmp 1))⟩,
       ⟨(some 38), .p (.mv (.tmp 2))⟩,
       ⟨(some 39), .call 116 [(.tmp 36), (.tmp 37), (.tmp 38)]⟩])
    (.ops none [⟨(some 40), .p (.mv (.tmp 3))⟩,
      ⟨(some 41), .p (.bin .sub (.tmp 40) (.const (.int .i64 (1))))⟩,
      ⟨(some 3), .p (.mv (.tmp 41))⟩]))
   (.skip)))
  (.cut [0, 1, 2, 3, 8, 9, 10] c107z16)))))
noncomputable def c107 : ICode := .seq (.ops none [⟨(some 8), .p (.mv (.const (.bool true)))⟩])
 (.seq (.ops none [⟨(some 9), .p (.mv (.const (.bool true)))⟩])
 (.block 0 (.loop [0] [1, 2, 3, 8, 9] c107z4)))
theorem k107 : compFn Try.prog 107 [[], [], [0], [1, 2, 3, 8, 9], [], [], [], [], [], [], [], [], [], [0, 1, 2, 3, 8, 9, 10], [], [], [], [], [0, 1, 2, 3, 8, 9, 10, 11, 12], [0, 1, 2, 3, 8, 9, 10, 11, 12, 62], [0, 1, 2, 3, 8, 9, 10, 11, 12, 62, 63], [0, 1, 2, 3, 8, 9, 10, 11, 12, 65], [0, 1, 2, 3, 8, 9, 10, 11, 65, 67], [], [], [0, 1, 2, 3, 8, 9, 10, 11], [], [], [], [], [], [], [], [], [], [], [], [], []] = some (134, c107, []) := by kernel_rfl
def K107z0 (_P : Program) (K : Value → Heap → Prop) : Exit → (Nat → Value) → Heap → Prop := bodyP [] K
def K107z3 (P : Program) (K : Value → Heap → Prop) : Exit → (Nat → Value) → Heap → Prop := inBlockK 0 (K107z0 P K)
def K107z4 (P : Program) (K : Value → Heap → Prop) (data0 : Value) (L1 : List Value → Heap → Prop) : Exit → (Nat → Value) → Heap → Prop := thenK (fun f' h'' => (([0] : List Nat).map f' : List Value) = [data0] ∧ L1 (([1, 2, 3, 8, 9] : List Nat).map f') h'') (K107z3 P K)
def K107z5 (P : Program) (K : Value → Heap → Prop) (data0 : Value) (L1 : List Value → Heap → Prop) : Exit → (Nat → Value) → Heap → Prop := inBlockK 1 (K107z4 P K data0 L1)
def K107z23 (P : Program) (K : Value → Heap → Prop) (data0 : Value) (L1 : List Value → Heap → Prop) : Exit → (Nat → Value) → Heap → Prop := thenK (iwpP P c107z23 (K107z5 P K data0 L1)) (K107z5 P K data0 L1)
def K107z24 (P : Program) (K : Value → Heap → Prop) (data0 : Value) (L1 : List Value → Heap → Prop) : Exit → (Nat → Value) → Heap → Prop := thenK (iwpP P c107z24 (K107z23 P K data0 L1)) (K107z23 P K data0 L1)
def p107z4 (P : Program) (K : Value → Heap → Prop) (data0 : Value) (L1 : List Value → Heap → Prop) (xs : List Value) (h : Heap) : Prop := CutP (iwpP P c107z4 (K107z4 P K data0 L1)) ([0] ++ [1, 2, 3, 8, 9]) ([data0] ++ xs) h
def p107z16 (P : Program) (K : Value → Heap → Prop) (data0 a1 b2 limit3 wasBalanced8 wasPartitioned9 length10 : Value) (L1 : List Value → Heap → Prop) (h : Heap) : Prop := CutP (iwpP P c107z16 (K107z5 P K data0 L1)) [0, 1, 2, 3, 8, 9, 10] [data0, a1, b2, limit3, wasBalanced8, wasPartitioned9, length10] h
def p107z22 (P : Program) (K : Value → Heap → Prop) (data0 a1 b2 limit3 wasBalanced8 wasPartitioned9 length10 pivot11 hint12 : Value) (L1 : List Value → Heap → Prop) (h : Heap) : Prop := CutP (iwpP P c107z22 (K107z5 P K data0 L1)) [0, 1, 2, 3, 8, 9, 10, 11, 12] [data0, a1, b2, limit3, wasBalanced8, wasPartitioned9, length10, pivot11, hint12] h
def p107z26 (P : Program) (K : Value → Heap → Prop) (data0 a1 b2 limit3 wasBalanced8 wasPartitioned9 length10 pivot11 hint12 x62 : Value) (L1 : List Value → Heap → Prop) (h : Heap) : Prop := CutP (iwpP P c107z26 (K107z24 P K data0 L1)) [0, 1, 2, 3, 8, 9, 10, 11, 12, 62] [data0, a1, b2, limit3, wasBalanced8, wasPartitioned9, length10, pivot11, hint12, x62] h
def p107z28 (P : Program) (K : Value → Heap → Prop) (data0 a1 b2 limit3 wasBalanced8 wasPartitioned9 length10 pivot11 hint12 x62 x63 : Value) (L1 : List Value → Heap → Prop) (h : Heap) : Prop := CutP (iwpP P c107z28 (K107z24 P K data0 L1)) [0, 1, 2, 3, 8, 9, 10, 11, 12, 62, 63] [data0, a1, b2, limit3, wasBalanced8, wasPartitioned9, length10, pivot11, hint12, x62, x63] h
def p107z30 (P : Program) (K : Value → Heap → Prop) (data0 a1 b2 limit3 wasBalanced8 wasPartitioned9 length10 pivot11 hint12 x65 : Value) (L1 : List Value → Heap → Prop) (h : Heap) : Prop := CutP (iwpP P c107z30 (K107z24 P K data0 L1)) [0, 1, 2, 3, 8, 9, 10, 11, 12, 65] [data0, a1, b2, limit3, wasBalanced8, wasPartitioned9, length10, pivot11, hint12, x65] h
def p107z32 (P : Program) (K : Value → Heap → Prop) (data0 a1 b2 limit3 wasBalanced8 wasPartitioned9 length10 pivot11 x65 x67 : Value) (L1 : List Value → Heap → Prop) (h : Heap) : Prop := CutP (iwpP P c107z32 (K107z24 P K data0 L1)) [0, 1, 2, 3, 8, 9, 10, 11, 65, 67] [data0, a1, b2, limit3, wasBalanced8, wasPartitioned9, length10, pivot11, x65, x67] h
def p107z34 (P : Program) (K : Value → Heap → Prop) (data0 a1 b2 limit3 wasBalanced8 wasPartitioned9 length10 pivot11 : Value) (L1 : List Value → Heap → Prop) (h : Heap) : Prop := CutP (iwpP P c107z34 (K107z5 P K data0 L1)) [0, 1, 2, 3, 8, 9, 10, 11] [data0, a1, b2, limit3, wasBalanced8, wasPartitioned9, length10, pivot11] h
theorem q107z32 (P : Program) (K : Value → Heap → Prop) (data0 a1 b2 limit3 wasBalanced8 wasPartitioned9 length10 pivot11 x65 x67 : Value) (L1 : List Value → Heap → Prop) (h : Heap) : p107z32 P K data0 a1 b2 limit3 wasBalanced8 wasPartitioned9 length10 pivot11 x65 x67 L1 h =
  (OP (iPick x65 x67 (.bool false)) fun x68 =>
  IfP x68
    (CallP P 119 [data0, a1, b2] h fun x72 h_1 =>
    IfP x72
      (K (.tuple #[]) h_1)
      (p107z34 P K data0 a1 b2 limit3 wasBalanced8 wasPartitioned9 length10 pivot11 L1 h_1))
    (p107z34 P K data0 a1 b2 limit3 wasBalanced8 wasPartitioned9 length10 pivot11 L1 h)) := (CutP_def _ _ _ _).trans (by kernel_rfl)
theorem q107z30 (P : Program) (K : Value → Heap → Prop) (data0 a1 b2 limit3 wasBalanced8 wasPartitioned9 length10 pivot11 hint12 x65 : Value) (L1 : List Value → Heap → Prop) (h : Heap) : p107z30 P K data0 a1 b2 limit3 wasBalanced8 wasPartitioned9 length10 pivot11 hint12 x65 L1 h =
  (GdP x65 true
    (OP (iBin .eql hint12 (.int .i64 (1))) fun x67 =>
    p107z32 P K data0 a1 b2 limit3 wasBalanced8 wasPartitioned9 length10 pivot11 x65 x67 L1 h)
    (p107z32 P K data0 a1 b2 limit3 wasBalanced8 wasPartitioned9 length10 pivot11 x65 undef L1 h)) := (CutP_def _ _ _ _).trans (by kernel_rfl)
theorem q107z28 (P : Program) (K : Value → Heap → Prop) (data0 a1 b2 limit3 wasBalanced8 wasPartitioned9 length10 pivot11 hint12 x62 x63 : Value) (L1 : List Value → Heap → Prop) (h : Heap) : p107z28 P K data0 a1 b2 limit3 wasBalanced8 wasPartitioned9 length10 pivot11 hint12 x62 x63 L1 h =
  (OP (iPick x62 x63 (.bool false)) fun x64 =>
  p107z30 P K data0 a1 b2 limit3 wasBalanced8 wasPartitioned9 length10 pivot11 hint12 x64 L1 h) := (CutP_def _ _ _ _).trans (by kernel_rfl)
theorem q107z26 (P : Program) (K : Value → Heap → Prop) (data0 a1 b2 limit3 wasBalanced8 wasPartitioned9 length10 pivot11 hint12 x62 : Value) (L1 : List Value → Heap → Prop) (h : Heap) : p107z26 P K data0 a1 b2 limit3 wasBalanced8 wasPartitioned9 length10 pivot11 hint12 x62 L1 h =
  (GdP x62 true
    (p107z28 P K data0 a1 b2 limit3 wasBalanced8 wasPartitioned9 length10 pivot11 hint12 x62 wasPartitioned9 L1 h)
    (p107z28 P K data0 a1 b2 limit3 wasBalanced8 wasPartitioned9 length10 pivot11 hint12 x62 undef L1 h)) := (CutP_def _ _ _ _).trans (by kernel_rfl)
theorem q107z34 (P : Program) (K : Value → Heap → Prop) (data0 a1 b2 limit3 wasBalanced8 wasPartitioned9 length10 pivot11 : Value) (L1 : List Value → Heap → Prop) (h : Heap) : p107z34 P K data0 a1 b2 limit3 wasBalanced8 wasPartitioned9 length10 pivot11 L1 h =
  (OP (iBin .gtr a1 (.int .i64 (0))) fun x74 =>
  GdP x74 true
    (OP (iBin .sub a1 (.int .i64 (1))) fun x78 =>
    OP (iAdrSl 1 data0 x78) fun x79 =>
    OP (iLoad false 1 h x79) fun x80 =>
    (True) ∧
    OP (iAdrSl 1 data0 pivot11) fun x83 =>
    OP (iLoad false 1 h x83) fun x84 =>
    (True) ∧
    CallP P 120 [x80, x84] h fun x85 h_1 =>
    (True) ∧
    OP (iUn .not x85) fun x86 =>
    OP (iPick x74 x86 (.bool false)) fun x87 =>
    IfP x87
      (CallP P 121 [data0, a1, b2, pivot11] h_1 fun x92 h_2 =>
      ([data0] : List Value) = [data0] ∧ L1 [x92, b2, limit3, wasBalanced8, wasPartitioned9] h_2)
      (CallP P 122 [data0, a1, b2, pivot11] h_1 fun x99 h_2 =>
      OP (iExt 0 x99) fun x100 =>
      OP (iExt 1 x99) fun x101 =>
      OP (iBin .sub x100 a1) fun x105 =>
      OP (iBin .sub b2 x100) fun x108 =>
      OP (iBin .quo length10 (.int .i64 (8))) fun x110 =>
      OP (iBin .lss x105 x108) fun x113 =>
      IfP x113
        (OP (iBin .geq x105 x110) fun x116 =>
        CallP P 107 [data0, a1, x100, limit3] h_2 fun x121 h_3 =>
        OP (iBin .add x100 (.int .i64 (1))) fun x123 =>
        ([data0] : List Value) = [data0] ∧ L1 [x123, b2, limit3, x116, x101] h_3)
        (OP (iBin .geq x108 x110) fun x126 =>
        OP (iBin .add x100 (.int .i64 (1))) fun x129 =>
        CallP P 107 [data0, x129, b2, limit3] h_2 fun x132 h_3 =>
        ([data0] : List Value) = [data0] ∧ L1 [a1, x100, limit3, x126, x101] h_3)))
    ((True) ∧
    OP (iPick x74 undef (.bool false)) fun x87 =>
    IfP x87
      (CallP P 121 [data0, a1, b2, pivot11] h fun x92 h_1 =>
      ([data0] : List Value) = [data0] ∧ L1 [x92, b2, limit3, wasBalanced8, wasPartitioned9] h_1)
      (CallP P 122 [data0, a1, b2, pivot11] h fun x99 h_1 =>
      OP (iExt 0 x99) fun x100 =>
      OP (iExt 1 x99) fun x101 =>
      OP (iBin .sub x100 a1) fun x105 =>
      OP (iBin .sub b2 x100) fun x108 =>
      OP (iBin .quo length10 (.int .i64 (8))) fun x110 =>
      OP (iBin .lss x105 x108) fun x113 =>
      IfP x113
        (OP (iBin .geq x105 x110) fun x116 =>
        CallP P 107 [data0, a1, x100, limit3] h_1 fun x121 h_2 =>
        OP (iBin .add x100 (.int .i64 (1))) fun x123 =>
        ([data0] : List Value) = [data0] ∧ L1 [x123, b2, limit3, x116, x101] h_2)
        (OP (iBin .geq x108 x110) fun x126 =>
        OP (iBin .add x100 (.int .i64 (1))) fun x129 =>
        CallP P 107 [data0, x129, b2, limit3] h_1 fun x132 h_2 =>
        ([data0] : List Value) = [data0] ∧ L1 [a1, x100, limit3, x126, x101] h_2)))) := (CutP_def _ _ _ _).trans (by kernel_rfl)
theorem q107z22 (P : Program) (K : Value → Heap → Prop) (data0 a1 b2 limit3 wasBalanced8 wasPartitioned9 length10 pivot11 hint12 : Value) (L1 : List Value → Heap → Prop) (h : Heap) : p107z22 P K data0 a1 b2 limit3 wasBalanced8 wasPartitioned9 length10 pivot11 hint12 L1 h =
  (p107z26 P K data0 a1 b2 limit3 wasBalanced8 wasPartitioned9 length10 pivot11 hint12 wasBalanced8 L1 h) := (CutP_def _ _ _ _).trans (by kernel_rfl)
theorem q107z16 (P : Program) (K : Value → Heap → Prop) (data0 a1 b2 limit3 wasBalanced8 wasPartitioned9 length10 : Value) (L1 : List Value → Heap → Prop) (h : Heap) : p107z16 P K data0 a1 b2 limit3 wasBalanced8 wasPartitioned9 length10 L1 h =
  (CallP P 117 [data0, a1, b2] h fun x46 h_1 =>
  OP (iExt 0 x46) fun x47 =>
  OP (iExt 1 x46) fun x48 =>
  OP (iBin .eql x48 (.int .i64 (2))) fun x50 =>
  IfP x50
    (CallP P 118 [data0, a1, b2] h_1 fun x54 h_2 =>
    OP (iBin .sub b2 (.int .i64 (1))) fun x56 =>
    OP (iBin .sub x47 a1) fun x59 =>
    OP (iBin .sub x56 x59) fun x60 =>
    p107z22 P K data0 a1 b2 limit3 wasBalanced8 wasPartitioned9 length10 x60 (.int .i64 (1)) L1 h_2)
    (p107z22 P K data0 a1 b2 limit3 wasBalanced8 wasPartitioned9 length10 x47 x48 L1 h_1)) := (CutP_def _ _ _ _).trans (by kernel_rfl)
theorem q107z4 (P : Program) (K : Value → Heap → Prop) (data0 : Value) (L1 : List Value → Heap → Prop) (a1 b2 limit3 wasBalanced8 wasPartitioned9 : Value) (h : Heap) : p107z4 P K data0 L1 [a1, b2, limit3, wasBalanced8, wasPartitioned9] h =
  (OP (iBin .sub b2 a1) fun x21 =>
  OP (iBin .leq x21 (.int .i64 (12))) fun x23 =>
  IfP x23
    (CallP P 114 [data0, a1, b2] h fun x27 h_1 =>
    K (.tuple #[]) h_1)
    (OP (iBin .eql limit3 (.int .i64 (0))) fun x29 =>
    IfP x29
      (CallP P 115 [data0, a1, b2] h fun x33 h_1 =>
      K (.tuple #[]) h_1)
      (OP (iUn .not wasBalanced8) fun x35 =>
      IfP x35
        (CallP P 116 [data0, a1, b2] h fun x39 h_1 =>
        OP (iBin .sub limit3 (.int .i64 (1))) fun x41 =>
        p107z16 P K data0 a1 b2 x41 wasBalanced8 wasPartitioned9 x21 L1 h_1)
        (p107z16 P K data0 a1 b2 limit3 wasBalanced8 wasPartitioned9 x21 L1 h)))) := (CutP_def _ _ _ _).trans (by kernel_rfl)
def T107 (P : Program) (K : Value → Heap → Prop) (data0 a1 b2 limit3 : Value) (h : Heap) : Prop :=
  LoopP [a1, b2, limit3, (.bool true), (.bool true)] h fun L1 xs hx =>
  p107z4 P K data0 L1 xs hx
theorem e107 (P : Program) (K : Value → Heap → Prop) (data0 a1 b2 limit3 : Value) (h : Heap) : iwpP P c107 (bodyP [] K) (frame0 [data0, a1, b2, limit3]) h = T107 P K data0 a1 b2 limit3 h := by kernel_rfl
theorem f107 {K : Value → Heap → Prop} {data0 a1 b2 limit3 : Value} {h : Heap} (H : T107 Try.prog K data0 a1 b2 limit3 h) : CallP Try.prog 107 [data0, a1, b2, limit3] h K :=
  callP_intro k107 (Nat.le_of_ble_eq_true rfl) ((e107 Try.prog K data0 a1 b2 limit3 h).mpr H)
/-! F114: slices.insertionSortOrdered[byte] -/
noncomputable def c114z10 : ICode := .seq (.seq (.dops [(none, [⟨(some 16), .p (.mv (.tmp 7)), 0⟩,
     ⟨(some 17), .p (.mv (.tmp 1)), 0⟩,
     ⟨(some 18), .p (.bin .gtr (.tmp 16) (.tmp 17)), 3⟩,
     ⟨(some 19), .p (.mv (.tmp 18)), 7⟩]),
    ((some (19, true)), [⟨(some 20), .p (.mv (.tmp 0)), 15⟩,
     ⟨(some 21), .p (.mv (.tmp 7)), 15⟩,
     ⟨(some 22), .p (.adrSl 1 (.tmp 20) (.tmp 21)), 63⟩,
     ⟨(some 23), .l (.load false 1 (.tmp 22)), 127⟩,
     ⟨(some 24), .p (.mv (.tmp 0)), 15⟩,
     ⟨(some 25), .p (.mv (.tmp 7)), 15⟩,
     ⟨(some 26), .p (.bin .sub (.tmp 25) (.const (.int .i64 (1)))), 527⟩,
     ⟨(some 27), .p (.adrSl 1 (.tmp 24) (.tmp 26)), 1807⟩,
     ⟨(some 28), .l (.load false 1 (.tmp 27)), 3855⟩,
     ⟨(some 29), .call 120 [(.tmp 23), (.tmp 28)], 8191⟩]),
    (none, [⟨(some 30), .p (.pick (.tmp 19) (.tmp 29) (.const (.bool false))), 16383⟩])])
  (.cond (.tmp 30) (.skip)
  (.exit 2)))
 (.seq (.block 3 (.dops [(none, [⟨(some 33), .p (.mv (.tmp 0)), 0⟩,
     ⟨(some 34), .p (.mv (.tmp 7)), 0⟩,
     ⟨(some 35), .p (.mv (.tmp 0)), 0⟩,
     ⟨(some 36), .p (.mv (.tmp 7)), 0⟩,
     ⟨(some 37), .p (.bin .sub (.tmp 36) (.const (.int .i64 (1)))), 8⟩,
     ⟨(some 38), .p (.mv (.tmp 0)), 0⟩,
     ⟨(some 39), .p (.mv (.tmp 7)), 0⟩,
     ⟨(some 40), .p (.bin .sub (.tmp 39) (.const (.int .i64 (1)))), 64⟩,
     ⟨(some 41), .p (.adrSl 1 (.tmp 38) (.tmp 40)), 224⟩,
     ⟨(some 42), .l (.load false 1 (.tmp 41)), 480⟩,
     ⟨(some 43), .p (.mv (.tmp 0)), 0⟩,
     ⟨(some 44), .p (.mv (.tmp 7)), 0⟩,
     ⟨(some 45), .p (.adrSl 1 (.tmp 43) (.tmp 44)), 3072⟩,
     ⟨(some 46), .l (.load false 1 (.tmp 45)), 7168⟩,
     ⟨(some 47), .p (.adrSl 1 (.tmp 33) (.tmp 34)), 16355⟩,
     ⟨none, .e (.store 1 (.tmp 47) (.tmp 42)), 32739⟩,
     ⟨(some 48), .p (.adrSl 1 (.tmp 35) (.tmp 37)), 65535⟩,
     ⟨none, .e (.store 1 (.tmp 48) (.tmp 46)), 131071⟩])]))
 (.ops none [⟨(some 31), .p (.mv (.tmp 7))⟩,
   ⟨(some 32), .p (.bin .sub (.tmp 31) (.const (.int .i64 (1))))⟩,
   ⟨(some 7), .p (.mv (.tmp 32))⟩]))
noncomputable def c114z15 : ICode := .ops none [⟨(some 13), .p (.mv (.tmp 6))⟩,
   ⟨(some 14), .p (.bin .add (.tmp 13) (.const (.int .i64 (1))))⟩,
   ⟨(some 6), .p (.mv (.tmp 14))⟩]
noncomputable def c114z6 : ICode := .cut [0, 1, 2, 6] c114z15
noncomputable def c114z3 : ICode := .seq (.seq (.ops none [⟨(some 10), .p (.mv (.tmp 6))⟩,
     ⟨(some 11), .p (.mv (.tmp 2))⟩,
     ⟨(some 12), .p (.bin .lss (.tmp 10) (.tmp 11))⟩])
  (.cond (.tmp 12) (.skip)
  (.exit 0)))
 (.seq (.block 1 (.seq (.ops none [⟨(some 15), .p (.mv (.tmp 6))⟩,
      ⟨(some 7), .p (.mv (.tmp 15))⟩])
   (.block 2 (.loop [0, 1, 2, 6] [7] c114z10)))) c114z6)
noncomputable def c114 : ICode := .seq (.ops none [⟨(some 8), .p (.mv (.tmp 1))⟩,
    ⟨(some 9), .p (.bin .add (.tmp 8) (.const (.int .i64 (1))))⟩,
    ⟨(some 6), .p (.mv (.tmp 9))⟩])
 (.block 0 (.loop [0, 1, 2] [6] c114z3))
theorem k114 : compFn Try.prog 114 [[], [0, 1, 2], [6], [], [], [], [0, 1, 2, 6], [7], [], [], [], [0, 1, 2, 6]] = some (49, c114, []) := by kernel_rfl
def K114z0 (_P : Program) (K : Value → Heap → Prop) : Exit → (Nat → Value) → Heap → Prop := bodyP [] K
def K114z2 (P : Program) (K : Value → Heap → Prop) : Exit → (Nat → Value) → Heap → Prop := inBlockK 0 (K114z0 P K)
def K114z3 (P : Program) (K : Value → Heap → Prop) (data0 a1 b2 : Value) (L1 : List Value → Heap → Prop) : Exit → (Nat → Value) → Heap → Prop := thenK (fun f' h'' => (([0, 1, 2] : List Nat).map f' : List Value) = [data0, a1, b2] ∧ L1 (([6] : List Nat).map f') h'') (K114z2 P K)
def K114z6 (P : Program) (K : Value → Heap → Prop) (data0 a1 b2 : Value) (L1 : List Value → Heap → Prop) : Exit → (Nat → Value) → Heap → Prop := thenK (iwpP P c114z6 (K114z3 P K data0 a1 b2 L1)) (K114z3 P K data0 a1 b2 L1)
def K114z7 (P : Program) (K : Value → Heap → Prop) (data0 a1 b2 : Value) (L1 : List Value → Heap → Prop) : Exit → (Nat → Value) → Heap → Prop := inBlockK 1 (K114z6 P K data0 a1 b2 L1)
def K114z9 (P : Program) (K : Value → Heap → Prop) (data0 a1 b2 : Value) (L1 : List Value → Heap → Prop) : Exit → (Nat → Value) → Heap → Prop := inBlockK 2 (K114z7 P K data0 a1 b2 L1)
def K114z10 (P : Program) (K : Value → Heap → Prop) (data0 a1 b2 i6 : Value) (L1 L2 : List Value → Heap → Prop) : Exit → (Nat → Value) → Heap → Prop := thenK (fun f' h'' => (([0, 1, 2, 6] : List Nat).map f' : List Value) = [data0, a1, b2, i6] ∧ L2 (([7] : List Nat).map f') h'') (K114z9 P K data0 a1 b2 L1)
def p114z3 (P : Program) (K : Value → Heap → Prop) (data0 a1 b2 : Value) (L1 : List Value → Heap → Prop) (xs : List Value) (h : Heap) : Prop := CutP (iwpP P c114z3 (K114z3 P K data0 a1 b2 L1)) ([0, 1, 2] ++ [6]) ([data0, a1, b2] ++ xs) h
def p114z10 (P : Program) (K : Value → Heap → Prop) (data0 a1 b2 i6 : Value) (L1 L2 : List Value → Heap → Prop) (xs : List Value) (h : Heap) : Prop := CutP (iwpP P c114z10 (K114z10 P K data0 a1 b2 i6 L1 L2)) ([0, 1, 2, 6] ++ [7]) ([data0, a1, b2, i6] ++ xs) h
def p114z15 (P : Program) (K : Value → Heap → Prop) (data0 a1 b2 i6 : Value) (L1 : List Value → Heap → Prop) (h : Heap) : Prop := CutP (iwpP P c114z15 (K114z3 P K data0 a1 b2 L1)) [0, 1, 2, 6] [data0, a1, b2, i6] h
theorem q114z10 (P : Program) (K : Value → Heap → Prop) (data0 a1 b2 i6 : Value) (L1 L2 : List Value → Heap → Prop) (j7 : Value) (h : Heap) : p114z10 P K data0 a1 b2 i6 L1 L2 [j7] h =
  (OP (iBin .gtr j7 a1) fun x18 =>
  GdP x18 true
    (OP (iAdrSl 1 data0 j7) fun x22 =>
    OP (iLoad false 1 h x22) fun x23 =>
    (True) ∧
    OP (iBin .sub j7 (.int .i64 (1))) fun x26 =>
    OP (iAdrSl 1 data0 x26) fun x27 =>
    OP (iLoad false 1 h x27) fun x28 =>
    (True) ∧
    CallP P 120 [x23, x28] h fun x29 h_1 =>
    (True) ∧
    OP (iPick x18 x29 (.bool false)) fun x30 =>
    IfP x30
      (OP (iBin .sub j7 (.int .i64 (1))) fun x37 =>
      OP (iBin .sub j7 (.int .i64 (1))) fun x40 =>
      OP (iAdrSl 1 data0 x40) fun x41 =>
      OP (iLoad false 1 h_1 x41) fun x42 =>
      (True) ∧
      OP (iAdrSl 1 data0 j7) fun x45 =>
      OP (iLoad false 1 h_1 x45) fun x46 =>
      (True) ∧
      OP (iAdrSl 1 data0 j7) fun x47 =>
      OH (oStore 1 h_1 x47 x42) fun _ h_2 =>
      (True) ∧
      OP (iAdrSl 1 data0 x37) fun x48 =>
      OH (oStore 1 h_2 x48 x46) fun _ h_3 =>
      (True) ∧
      OP (iBin .sub j7 (.int .i64 (1))) fun x32 =>
      ([data0, a1, b2, i6] : List Value) = [data0, a1, b2, i6] ∧ L2 [x32] h_3)
      (p114z15 P K data0 a1 b2 i6 L1 h_1))
    ((True) ∧
    OP (iPick x18 undef (.bool false)) fun x30 =>
    IfP x30
      (OP (iBin .sub j7 (.int .i64 (1))) fun x37 =>
      OP (iBin .sub j7 (.int .i64 (1))) fun x40 =>
      OP (iAdrSl 1 data0 x40) fun x41 =>
      OP (iLoad false 1 h x41) fun x42 =>
      (True) ∧
      OP (iAdrSl 1 data0 j7) fun x45 =>
      OP (iLoad false 1 h x45) fun x46 =>
      (True) ∧
      OP (iAdrSl 1 data0 j7) fun x47 =>
      OH (oStore 1 h x47 x42) fun _ h_1 =>
      (True) ∧
      OP (iAdrSl 1 data0 x37) fun x48 =>
      OH (oStore 1 h_1 x48 x46) fun _ h_2 =>
      (True) ∧
      OP (iBin .sub j7 (.int .i64 (1))) fun x32 =>
      ([data0, a1, b2, i6] : List Value) = [data0, a1, b2, i6] ∧ L2 [x32] h_2)
      (p114z15 P K data0 a1 b2 i6 L1 h))) := (CutP_def _ _ _ _).trans (by kernel_rfl)
theorem q114z15 (P : Program) (K : Value → Heap → Prop) (data0 a1 b2 i6 : Value) (L1 : List Value → Heap → Prop) (h : Heap) : p114z15 P K data0 a1 b2 i6 L1 h =
  (OP (iBin .add i6 (.int .i64 (1))) fun x14 =>
  ([data0, a1, b2] : List Value) = [data0, a1, b2] ∧ L1 [x14] h) := (CutP_def _ _ _ _).trans (by kernel_rfl)
theorem q114z3 (P : Program) (K : Value → Heap → Prop) (data0 a1 b2 : Value) (L1 : List Value → Heap → Prop) (i6 : Value) (h : Heap) : p114z3 P K data0 a1 b2 L1 [i6] h =
  (OP (iBin .lss i6 b2) fun x12 =>
  IfP x12
    (LoopP [i6] h fun L2 xs hx =>
    p114z10 P K data0 a1 b2 i6 L1 L2 xs hx)
    (K (.tuple #[]) h)) := (CutP_def _ _ _ _).trans (by kernel_rfl)
def T114 (P : Program) (K : Value → Heap → Prop) (data0 a1 b2 : Value) (h : Heap) : Prop :=
  OP (iBin .add a1 (.int .i64 (1))) fun x9 =>
  LoopP [x9] h fun L1 xs hx =>
  p114z3 P K data0 a1 b2 L1 xs hx
theorem e114 (P : Program) (K : Value → Heap → Prop) (data0 a1 b2 : Value) (h : Heap) : iwpP P c114 (bodyP [] K) (frame0 [data0, a1, b2]) h = T114 P K data0 a1 b2 h := by kernel_rfl
theorem f114 {K : Value → Heap → Prop} {data0 a1 b2 : Value} {h : Heap} (H : T114 Try.prog K data0 a1 b2 h) : CallP Try.prog 114 [data0, a1, b2] h K :=
  callP_intro k114 (Nat.le_of_ble_eq_true rfl) ((e114 Try.prog K data0 a1 b2 h).mpr H)
end Go.Proofs.Ytjdlcokhlphmhaa
