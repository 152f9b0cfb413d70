/-
  Ideal code of the functions that the proof reaches, written by program; the kernel holds it against the code.
-/
import Derived.Test.YtjdlcokhlphmhaaProg
import Derived.Test.YtjdlcokhlphmhaaSim20
import Derived.KernelRfl
namespace Go.Proofs.Ytjdlcokhlphmhaa
open Go.Sim
/-! F4: pommel/pommellaw03.StitchCounts -/
noncomputable def c4z23 : ICode := .ops none [⟨(some 50), .p (.pick (.tmp 48) (.tmp 49) (.const (.bool false)))⟩,
   ⟨(some 4), .p (.mv (.tmp 50))⟩]
noncomputable def c4z21 : ICode := .seq (.ops (some (48, true)) [⟨(some 49), .call 20 []⟩])
 (.cut [48, 49] c4z23)
noncomputable def c4z19 : ICode := .seq (.ops none [⟨(some 47), .p (.pick (.tmp 44) (.tmp 46) (.const (.bool false)))⟩,
    ⟨(some 48), .p (.mv (.tmp 47))⟩])
 (.cut [48] c4z21)
noncomputable def c4z17 : ICode := .seq (.ops (some (44, true)) [⟨(some 45), .p (.mv (.tmp 10))⟩,
    ⟨(some 46), .p (.bin .eql (.tmp 45) (.const (.int .i64 (1))))⟩])
 (.cut [44, 46] c4z19)
noncomputable def c4z15 : ICode := .seq (.ops none [⟨(some 43), .p (.pick (.tmp 39) (.tmp 42) (.const (.bool false)))⟩,
    ⟨(some 44), .p (.mv (.tmp 43))⟩])
 (.cut [10, 44] c4z17)
noncomputable def c4z13 : ICode := .seq (.ops (some (39, true)) [⟨(some 40), .p (.mv (.tmp 9))⟩,
    ⟨(some 41), .p (.lenSl (.tmp 40))⟩,
    ⟨(some 42), .p (.bin .eql (.tmp 41) (.const (.int .i64 (0))))⟩])
 (.cut [10, 39, 42] c4z15)
noncomputable def c4z11 : ICode := .seq (.ops none [⟨(some 38), .p (.pick (.tmp 35) (.tmp 37) (.const (.bool false)))⟩,
    ⟨(some 39), .p (.mv (.tmp 38))⟩])
 (.cut [9, 10, 39] c4z13)
noncomputable def c4z9 : ICode := .seq (.ops (some (35, true)) [⟨(some 36), .p (.mv (.tmp 8))⟩,
    ⟨(some 37), .p (.bin .eql (.tmp 36) (.const (.int .i64 (1))))⟩])
 (.cut [9, 10, 35, 37] c4z11)
noncomputable def c4z7 : ICode := .ret
noncomputable def c4z33 : ICode := .ops none [⟨(some 64), .p (.pick (.tmp 61) (.const (.bool true)) (.tmp 63))⟩]
noncomputable def c4z31 : ICode := .seq (.ops (some (61, false)) [⟨(some 62), .call 20 []⟩,
    ⟨(some 63), .p (.un .not (.tmp 62))⟩])
 (.cut [1, 5, 6, 7, 8, 61, 63] c4z33)
noncomputable def c4z29 : ICode := .seq (.ops none [⟨(some 60), .p (.pick (.tmp 57) (.const (.bool true)) (.tmp 59))⟩,
    ⟨(some 61), .p (.mv (.tmp 60))⟩])
 (.cut [1, 5, 6, 7, 8, 61] c4z31)
noncomputable def c4z27 : ICode := .seq (.ops (some (57, false)) [⟨(some 58), .p (.mv (.tmp 10))⟩,
    ⟨(some 59), .p (.bin .neq (.tmp 58) (.const (.int .i64 (0))))⟩])
 (.cut [1, 5, 6, 7, 8, 57, 59] c4z29)
noncomputable def c4z25 : ICode := .cond (.tmp 64) (.seq (.ops none [⟨(some 4), .p (.mv (.const (.bool false)))⟩])
  (.ret))
 (.skip)
noncomputable def c4z40 : ICode := .ops none [⟨(some 70), .p (.pick (.tmp 67) (.const (.bool true)) (.tmp 69))⟩]
noncomputable def c4z38 : ICode := .seq (.ops (some (67, false)) [⟨(some 68), .p (.mv (.tmp 1))⟩,
    ⟨(some 69), .p (.bin .gtr (.tmp 68) (.const (.int .i64 (60))))⟩])
 (.cut [1, 5, 6, 7, 8, 67, 69] c4z40)
noncomputable def c4z45 : ICode := .ops none [⟨(some 76), .p (.pick (.tmp 73) (.tmp 75) (.const (.bool false)))⟩,
   ⟨(some 4), .p (.mv (.tmp 76))⟩]
noncomputable def c4z43 : ICode := .seq (.ops (some (73, true)) [⟨(some 74), .p (.mv (.tmp 8))⟩,
    ⟨(some 75), .p (.bin .eql (.tmp 74) (.const (.int .i64 (1))))⟩])
 (.cut [73, 75] c4z45)
noncomputable def c4z41 : ICode := .ret
noncomputable def c4z36 : ICode := .cond (.tmp 70) (.seq (.seq (.ops none [⟨(some 71), .p (.mv (.tmp 7))⟩,
      ⟨(some 72), .p (.bin .eql (.tmp 71) (.const (.string ⟨#[]⟩)))⟩,
      ⟨(some 73), .p (.mv (.tmp 72))⟩])
   (.cut [8, 73] c4z43)) c4z41)
 (.skip)
noncomputable def c4z50 : ICode := .ops none [⟨(some 88), .p (.pick (.tmp 85) (.tmp 87) (.const (.bool false)))⟩,
   ⟨(some 4), .p (.mv (.tmp 88))⟩]
noncomputable def c4z48 : ICode := .seq (.ops (some (85, true)) [⟨(some 86), .p (.mv (.tmp 8))⟩,
    ⟨(some 87), .p (.bin .eql (.tmp 86) (.const (.int .i64 (0))))⟩])
 (.cut [85, 87] c4z50)
noncomputable def c4z46 : ICode := .ret
noncomputable def c4z35 : ICode := .seq (.seq (.ops none [⟨(some 77), .p (.mv (.tmp 7))⟩,
     ⟨(some 78), .p (.mv (.tmp 5))⟩,
     ⟨(some 79), .p (.mv (.tmp 6))⟩,
     ⟨(some 80), .p (.mv (.tmp 1))⟩,
     ⟨(some 81), .call 28 [(.tmp 78), (.tmp 79), (.tmp 80)]⟩,
     ⟨(some 82), .call 29 [(.const (.int .i64 (1)))]⟩,
     ⟨(some 83), .p (.build [(.bool false), (.slice none 0 0), (.bool false), (.slice none 0 0)] [(0, 2, (.tmp 81)), (2, 2, (.tmp 82))])⟩,
     ⟨(some 84), .call 27 [(.tmp 77), (.tmp 83)]⟩,
     ⟨(some 85), .p (.mv (.tmp 84))⟩])
  (.cut [8, 85] c4z48)) c4z46
noncomputable def c4z24 : ICode := .seq (.seq (.seq (.ops none [⟨(some 65), .p (.mv (.tmp 1))⟩,
      ⟨(some 66), .p (.bin .lss (.tmp 65) (.const (.int .i64 (0))))⟩,
      ⟨(some 67), .p (.mv (.tmp 66))⟩])
   (.cut [1, 5, 6, 7, 8, 67] c4z38)) c4z36) c4z35
noncomputable def c4z5 : ICode := .seq (.seq (.seq (.ops none [⟨(some 51), .p (.mv (.tmp 9))⟩,
      ⟨(some 52), .p (.mv (.tmp 5))⟩,
      ⟨(some 53), .p (.mv (.tmp 6))⟩,
      ⟨(some 54), .call 26 [(.tmp 52), (.tmp 53)]⟩,
      ⟨(some 55), .call 25 [(.tmp 51), (.tmp 54)]⟩,
      ⟨(some 56), .p (.un .not (.tmp 55))⟩,
      ⟨(some 57), .p (.mv (.tmp 56))⟩])
   (.cut [1, 5, 6, 7, 8, 10, 57] c4z27)) c4z25) c4z24
noncomputable def c4 : ICode := .seq (.ops none [⟨(some 2), .e (.box 24 (.tmp 0))⟩,
    ⟨(some 4), .p (.mv (.const (.bool false)))⟩])
 (.seq (.ops none [⟨(some 12), .l (.load true 2 (.tmp 2))⟩,
    ⟨(some 13), .call 16 [(.tmp 12)]⟩,
    ⟨(some 11), .p (.mv (.tmp 13))⟩,
    ⟨(some 14), .p (.ext (.tmp 11) 0)⟩,
    ⟨(some 15), .p (.ext (.tmp 11) 1)⟩,
    ⟨(some 5), .p (.mv (.tmp 14))⟩,
    ⟨(some 6), .p (.mv (.tmp 15))⟩])
 (.seq (.ops none [⟨(some 17), .p (.mv (.tmp 5))⟩,
    ⟨(some 18), .p (.mv (.tmp 6))⟩,
    ⟨(some 19), .p (.mv (.tmp 1))⟩,
    ⟨(some 20), .call 22 [(.tmp 17), (.tmp 18), (.tmp 19)]⟩,
    ⟨(some 16), .p (.mv (.tmp 20))⟩,
    ⟨(some 21), .p (.ext (.tmp 16) 0)⟩,
    ⟨(some 22), .p (.ext (.tmp 16) 1)⟩,
    ⟨(some 7), .p (.mv (.tmp 21))⟩,
    ⟨(some 8), .p (.mv (.tmp 22))⟩])
 (.seq (.ops none [⟨(some 24), .p (.mv (.tmp 5))⟩,
    ⟨(some 25), .p (.mv (.tmp 6))⟩,
    ⟨(some 26), .call 23 [(.tmp 24), (.tmp 25)]⟩,
    ⟨(some 23), .p (.mv (.tmp 26))⟩,
    ⟨(some 27), .p (.ext (.tmp 23) 0)⟩,
    ⟨(some 28), .p (.ext (.tmp 23) 1)⟩,
    ⟨(some 9), .p (.mv (.tmp 27))⟩,
    ⟨(some 10), .p (.mv (.tmp 28))⟩])
 (.seq (.seq (.ops none [⟨(some 29), .p (.mv (.tmp 5))⟩,
     ⟨(some 30), .p (.mv (.tmp 6))⟩,
     ⟨(some 31), .call 24 [(.tmp 29), (.tmp 30)]⟩,
     ⟨(some 32), .p (.un .not (.tmp 31))⟩])
  (.cond (.tmp 32) (.seq (.seq (.ops none [⟨(some 33), .p (.mv (.tmp 7))⟩,
       ⟨(some 34), .p (.bin .eql (.tmp 33) (.const (.string ⟨#[]⟩)))⟩,
       ⟨(some 35), .p (.mv (.tmp 34))⟩])
    (.cut [8, 9, 10, 35] c4z9)) c4z7)
  (.skip))) c4z5))))
theorem k4 : compFn Try.prog 4 [[], [], [], [], [], [8, 9, 10, 35], [9, 10, 35, 37], [9, 10, 39], [10, 39, 42], [10, 44], [44, 46], [48], [48, 49], [], [], [1, 5, 6, 7, 8, 10, 57], [1, 5, 6, 7, 8, 57, 59], [1, 5, 6, 7, 8, 61], [1, 5, 6, 7, 8, 61, 63], [], [], [], [1, 5, 6, 7, 8, 67], [1, 5, 6, 7, 8, 67, 69], [], [8, 73], [73, 75], [], [], [8, 85], [85, 87], []] = some (89, c4, [.tmp 4]) := by kernel_rfl
def K4z0 (_P : Program) (K : Value → Heap → Prop) : Exit → (Nat → Value) → Heap → Prop := bodyP [.tmp 4] K
def K4z5 (P : Program) (K : Value → Heap → Prop) : Exit → (Nat → Value) → Heap → Prop := thenK (iwpP P c4z5 (K4z0 P K)) (K4z0 P K)
def K4z7 (P : Program) (K : Value → Heap → Prop) : Exit → (Nat → Value) → Heap → Prop := thenK (iwpP P c4z7 (K4z5 P K)) (K4z5 P K)
def K4z24 (P : Program) (K : Value → Heap → Prop) : Exit → (Nat → Value) → Heap → Prop := thenK (iwpP P c4z24 (K4z0 P K)) (K4z0 P K)
def K4z25 (P : Program) (K : Value → Heap → Prop) : Exit → (Nat → Value) → Heap → Prop := thenK (iwpP P c4z25 (K4z24 P K)) (K4z24 P K)
def K4z35 (P : Program) (K : Value → Heap → Prop) : Exit → (Nat → Value) → Heap → Prop := thenK (iwpP P c4z35 (K4z0 P K)) (K4z0 P K)
def K4z36 (P : Program) (K : Value → Heap → Prop) : Exit → (Nat → Value) → Heap → Prop := thenK (iwpP P c4z36 (K4z35 P K)) (K4z35 P K)
def K4z41 (P : Program) (K : Value → Heap → Prop) : Exit → (Nat → Value) → Heap → Prop := thenK (iwpP P c4z41 (K4z35 P K)) (K4z35 P K)
def K4z46 (P : Program) (K : Value → Heap → Prop) : Exit → (Nat → Value) → Heap → Prop := thenK (iwpP P c4z46 (K4z0 P K)) (K4z0 P K)
def p4z9 (P : Program) (K : Value → Heap → Prop) (e8 l9 f10 x35 : Value) (h : Heap) : Prop := CutP (iwpP P c4z9 (K4z7 P K)) [8, 9, 10, 35] [e8, l9, f10, x35] h
def p4z11 (P : Program) (K : Value → Heap → Prop) (l9 f10 x35 x37 : Value) (h : Heap) : Prop := CutP (iwpP P c4z11 (K4z7 P K)) [9, 10, 35, 37] [l9, f10, x35, x37] h
def p4z13 (P : Program) (K : Value → Heap → Prop) (l9 f10 x39 : Value) (h : Heap) : Prop := CutP (iwpP P c4z13 (K4z7 P K)) [9, 10, 39] [l9, f10, x39] h
def p4z15 (P : Program) (K : Value → Heap → Prop) (f10 x39 x42 : Value) (h : Heap) : Prop := CutP (iwpP P c4z15 (K4z7 P K)) [10, 39, 42] [f10, x39, x42] h
def p4z17 (P : Program) (K : Value → Heap → Prop) (f10 x44 : Value) (h : Heap) : Prop := CutP (iwpP P c4z17 (K4z7 P K)) [10, 44] [f10, x44] h
def p4z19 (P : Program) (K : Value → Heap → Prop) (x44 x46 : Value) (h : Heap) : Prop := CutP (iwpP P c4z19 (K4z7 P K)) [44, 46] [x44, x46] h
def p4z21 (P : Program) (K : Value → Heap → Prop) (x48 : Value) (h : Heap) : Prop := CutP (iwpP P c4z21 (K4z7 P K)) [48] [x48] h
def p4z23 (P : Program) (K : Value → Heap → Prop) (x48 x49 : Value) (h : Heap) : Prop := CutP (iwpP P c4z23 (K4z7 P K)) [48, 49] [x48, x49] h
def p4z27 (P : Program) (K : Value → Heap → Prop) (n1 k5 p6 c7 e8 f10 x57 : Value) (h : Heap) : Prop := CutP (iwpP P c4z27 (K4z25 P K)) [1, 5, 6, 7, 8, 10, 57] [n1, k5, p6, c7, e8, f10, x57] h
def p4z29 (P : Program) (K : Value → Heap → Prop) (n1 k5 p6 c7 e8 x57 x59 : Value) (h : Heap) : Prop := CutP (iwpP P c4z29 (K4z25 P K)) [1, 5, 6, 7, 8, 57, 59] [n1, k5, p6, c7, e8, x57, x59] h
def p4z31 (P : Program) (K : Value → Heap → Prop) (n1 k5 p6 c7 e8 x61 : Value) (h : Heap) : Prop := CutP (iwpP P c4z31 (K4z25 P K)) [1, 5, 6, 7, 8, 61] [n1, k5, p6, c7, e8, x61] h
def p4z33 (P : Program) (K : Value → Heap → Prop) (n1 k5 p6 c7 e8 x61 x63 : Value) (h : Heap) : Prop := CutP (iwpP P c4z33 (K4z25 P K)) [1, 5, 6, 7, 8, 61, 63] [n1, k5, p6, c7, e8, x61, x63] h
def p4z38 (P : Program) (K : Value → Heap → Prop) (n1 k5 p6 c7 e8 x67 : Value) (h : Heap) : Prop := CutP (iwpP P c4z38 (K4z36 P K)) [1, 5, 6, 7, 8, 67] [n1, k5, p6, c7, e8, x67] h
def p4z40 (P : Program) (K : Value → Heap → Prop) (n1 k5 p6 c7 e8 x67 x69 : Value) (h : Heap) : Prop := CutP (iwpP P c4z40 (K4z36 P K)) [1, 5, 6, 7, 8, 67, 69] [n1, k5, p6, c7, e8, x67, x69] h
def p4z43 (P : Program) (K : Value → Heap → Prop) (e8 x73 : Value) (h : Heap) : Prop := CutP (iwpP P c4z43 (K4z41 P K)) [8, 73] [e8, x73] h
def p4z45 (P : Program) (K : Value → Heap → Prop) (x73 x75 : Value) (h : Heap) : Prop := CutP (iwpP P c4z45 (K4z41 P K)) [73, 75] [x73, x75] h
def p4z48 (P : Program) (K : Value → Heap → Prop) (e8 x85 : Value) (h : Heap) : Prop := CutP (iwpP P c4z48 (K4z46 P K)) [8, 85] [e8, x85] h
def p4z50 (P : Program) (K : Value → Heap → Prop) (x85 x87 : Value) (h : Heap) : Prop := CutP (iwpP P c4z50 (K4z46 P K)) [85, 87] [x85, x87] h
theorem q4z23 (P : Program) (K : Value → Heap → Prop) (x48 x49 : Value) (h : Heap) : p4z23 P K x48 x49 h =
  (OP (iPick x48 x49 (.bool false)) fun x50 =>
  K x50 h) := (CutP_def _ _ _ _).trans (by kernel_rfl)
theorem q4z21 (P : Program) (K : Value → Heap → Prop) (x48 : Value) (h : Heap) : p4z21 P K x48 h =
  (GdP x48 true
    (CallP P 20 [] h fun x49 h_1 =>
    p4z23 P K x48 x49 h_1)
    (p4z23 P K x48 undef h)) := (CutP_def _ _ _ _).trans (by kernel_rfl)
theorem q4z19 (P : Program) (K : Value → Heap → Prop) (x44 x46 : Value) (h : Heap) : p4z19 P K x44 x46 h =
  (OP (iPick x44 x46 (.bool false)) fun x47 =>
  p4z21 P K x47 h) := (CutP_def _ _ _ _).trans (by kernel_rfl)
theorem q4z17 (P : Program) (K : Value → Heap → Prop) (f10 x44 : Value) (h : Heap) : p4z17 P K f10 x44 h =
  (GdP x44 true
    (OP (iBin .eql f10 (.int .i64 (1))) fun x46 =>
    p4z19 P K x44 x46 h)
    (p4z19 P K x44 undef h)) := (CutP_def _ _ _ _).trans (by kernel_rfl)
theorem q4z15 (P : Program) (K : Value → Heap → Prop) (f10 x39 x42 : Value) (h : Heap) : p4z15 P K f10 x39 x42 h =
  (OP (iPick x39 x42 (.bool false)) fun x43 =>
  p4z17 P K f10 x43 h) := (CutP_def _ _ _ _).trans (by kernel_rfl)
theorem q4z13 (P : Program) (K : Value → Heap → Prop) (l9 f10 x39 : Value) (h : Heap) : p4z13 P K l9 f10 x39 h =
  (GdP x39 true
    (OP (iLenSl l9) fun x41 =>
    OP (iBin .eql x41 (.int .i64 (0))) fun x42 =>
    p4z15 P K f10 x39 x42 h)
    (p4z15 P K f10 x39 undef h)) := (CutP_def _ _ _ _).trans (by kernel_rfl)
theorem q4z11 (P : Program) (K : Value → Heap → Prop) (l9 f10 x35 x37 : Value) (h : Heap) : p4z11 P K l9 f10 x35 x37 h =
  (OP (iPick x35 x37 (.bool false)) fun x38 =>
  p4z13 P K l9 f10 x38 h) := (CutP_def _ _ _ _).trans (by kernel_rfl)
theorem q4z9 (P : Program) (K : Value → Heap → Prop) (e8 l9 f10 x35 : Value) (h : Heap) : p4z9 P K e8 l9 f10 x35 h =
  (GdP x35 true
    (OP (iBin .eql e8 (.int .i64 (1))) fun x37 =>
    p4z11 P K l9 f10 x35 x37 h)
    (p4z11 P K l9 f10 x35 undef h)) := (CutP_def _ _ _ _).trans (by kernel_rfl)
theorem q4z33 (P : Program) (K : Value → Heap → Prop) (n1 k5 p6 c7 e8 x61 x63 : Value) (h : Heap) : p4z33 P K n1 k5 p6 c7 e8 x61 x63 h =
  (OP (iPick x61 (.bool true) x63) fun x64 =>
  IfP x64
    (K (.bool false) h)
    (OP (iBin .lss n1 (.int .i64 (0))) fun x66 =>
    p4z38 P K n1 k5 p6 c7 e8 x66 h)) := (CutP_def _ _ _ _).trans (by kernel_rfl)
theorem q4z31 (P : Program) (K : Value → Heap → Prop) (n1 k5 p6 c7 e8 x61 : Value) (h : Heap) : p4z31 P K n1 k5 p6 c7 e8 x61 h =
  (GdP x61 false
    (CallP P 20 [] h fun x62 h_1 =>
    OP (iUn .not x62) fun x63 =>
    p4z33 P K n1 k5 p6 c7 e8 x61 x63 h_1)
    (p4z33 P K n1 k5 p6 c7 e8 x61 undef h)) := (CutP_def _ _ _ _).trans (by kernel_rfl)
theorem q4z29 (P : Program) (K : Value → Heap → Prop) (n1 k5 p6 c7 e8 x57 x59 : Value) (h : Heap) : p4z29 P K n1 k5 p6 c7 e8 x57 x59 h =
  (OP (iPick x57 (.bool true) x59) fun x60 =>
  p4z31 P K n1 k5 p6 c7 e8 x60 h) := (CutP_def _ _ _ _).trans (by kernel_rfl)
theorem q4z27 (P : Program) (K : Value → Heap → Prop) (n1 k5 p6 c7 e8 f10 x57 : Value) (h : Heap) : p4z27 P K n1 k5 p6 c7 e8 f10 x57 h =
  (GdP x57 false
    (OP (iBin .neq f10 (.int .i64 (0))) fun x59 =>
    p4z29 P K n1 k5 p6 c7 e8 x57 x59 h)
    (p4z29 P K n1 k5 p6 c7 e8 x57 undef h)) := (CutP_def _ _ _ _).trans (by kernel_rfl)
theorem q4z40 (P : Program) (K : Value → Heap → Prop) (n1 k5 p6 c7 e8 x67 x69 : Value) (h : Heap) : p4z40 P K n1 k5 p6 c7 e8 x67 x69 h =
  (OP (iPick x67 (.bool true) x69) fun x70 =>
  IfP x70
    (OP (iBin .eql c7 (.string ⟨#[]⟩)) fun x72 =>
    p4z43 P K e8 x72 h)
    (CallP P 28 [k5, p6, n1] h fun x81 h_1 =>
    CallP P 29 [(.int .i64 (1))] h_1 fun x82 h_2 =>
    OP (iBuild [(.bool false), (.slice none 0 0), (.bool false), (.slice none 0 0)] [(0, 2, x81), (2, 2, x82)]) fun x83 =>
    CallP P 27 [c7, x83] h_2 fun x84 h_3 =>
    p4z48 P K e8 x84 h_3)) := (CutP_def _ _ _ _).trans (by kernel_rfl)
theorem q4z38 (P : Program) (K : Value → Heap → Prop) (n1 k5 p6 c7 e8 x67 : Value) (h : Heap) : p4z38 P K n1 k5 p6 c7 e8 x67 h =
  (GdP x67 false
    (OP (iBin .gtr n1 (.int .i64 (60))) fun x69 =>
    p4z40 P K n1 k5 p6 c7 e8 x67 x69 h)
    (p4z40 P K n1 k5 p6 c7 e8 x67 undef h)) := (CutP_def _ _ _ _).trans (by kernel_rfl)
theorem q4z45 (P : Program) (K : Value → Heap → Prop) (x73 x75 : Value) (h : Heap) : p4z45 P K x73 x75 h =
  (OP (iPick x73 x75 (.bool false)) fun x76 =>
  K x76 h) := (CutP_def _ _ _ _).trans (by kernel_rfl)
theorem q4z43 (P : Program) (K : Value → Heap → Prop) (e8 x73 : Value) (h : Heap) : p4z43 P K e8 x73 h =
  (GdP x73 true
    (OP (iBin .eql e8 (.int .i64 (1))) fun x75 =>
    p4z45 P K x73 x75 h)
    (p4z45 P K x73 undef h)) := (CutP_def _ _ _ _).trans (by kernel_rfl)
theorem q4z50 (P : Program) (K : Value → Heap → Prop) (x85 x87 : Value) (h : Heap) : p4z50 P K x85 x87 h =
  (OP (iPick x85 x87 (.bool false)) fun x88 =>
  K x88 h) := (CutP_def _ _ _ _).trans (by kernel_rfl)
theorem q4z48 (P : Program) (K : Value → Heap → Prop) (e8 x85 : Value) (h : Heap) : p4z48 P K e8 x85 h =
  (GdP x85 true
    (OP (iBin .eql e8 (.int .i64 (0))) fun x87 =>
    p4z50 P K x85 x87 h)
    (p4z50 P K x85 undef h)) := (CutP_def _ _ _ _).trans (by kernel_rfl)
def T4 (P : Program) (K : Value → Heap → Prop) (t0 n1 : Value) (h : Heap) : Prop :=
  OH (iBox 24 h t0) fun t2 h_1 =>
  OP (iLoad true 2 h_1 t2) fun x12 =>
  CallP P 16 [x12] h_1 fun x13 h_2 =>
  OP (iExt 0 x13) fun x14 =>
  OP (iExt 1 x13) fun x15 =>
  CallP P 22 [x14, x15, n1] h_2 fun x20 h_3 =>
  OP (iExt 0 x20) fun x21 =>
  OP (iExt 1 x20) fun x22 =>
  CallP P 23 [x14, x15] h_3 fun x26 h_4 =>
  OP (iExt 0 x26) fun x27 =>
  OP (iExt 1 x26) fun x28 =>
  CallP P 24 [x14, x15] h_4 fun x31 h_5 =>
  OP (iUn .not x31) fun x32 =>
  IfP x32
    (OP (iBin .eql x21 (.string ⟨#[]⟩)) fun x34 =>
    p4z9 P K x22 x27 x28 x34 h_5)
    (CallP P 26 [x14, x15] h_5 fun x54 h_6 =>
    CallP P 25 [x27, x54] h_6 fun x55 h_7 =>
    OP (iUn .not x55) fun x56 =>
    p4z27 P K n1 x14 x15 x21 x22 x28 x56 h_7)
theorem e4 (P : Program) (K : Value → Heap → Prop) (t0 n1 : Value) (h : Heap) : iwpP P c4 (bodyP [.tmp 4] K) (frame0 [t0, n1]) h = T4 P K t0 n1 h := by kernel_rfl
theorem f4 {K : Value → Heap → Prop} {t0 n1 : Value} {h : Heap} (H : T4 Try.prog K t0 n1 h) : CallP Try.prog 4 [t0, n1] h K :=
  callP_intro k4 (Nat.le_of_ble_eq_true rfl) ((e4 Try.prog K t0 n1 h).mpr H)
/-! F26: pommel/pommelref03.Cliques -/
noncomputable def c26z13 : ICode := .seq (.seq (.ops none [⟨(some 18), .p (.mv (.tmp 6))⟩,
     ⟨(some 19), .p (.lenSl (.tmp 18))⟩,
     ⟨(some 20), .p (.mv (.tmp 5))⟩,
     ⟨(some 21), .p (.mv (.tmp 7))⟩,
     ⟨(some 22), .p (.adrSl 1 (.tmp 20) (.tmp 21))⟩,
     ⟨(some 23), .l (.load false 1 (.tmp 22))⟩,
     ⟨(some 24), .p (.lenS (.tmp 23))⟩,
     ⟨(some 25), .p (.bin .leq (.tmp 19) (.tmp 24))⟩])
  (.cond (.tmp 25) (.skip)
  (.exit 2)))
 (.block 3 (.ops none [⟨(some 26), .p (.mv (.tmp 6))⟩,
    ⟨(some 27), .e (.mkSl 3 1 [(.int .i64 (0))] [(0, 1, (.const (.int .i64 (0))))])⟩,
    ⟨(some 28), .e (.app 3 1 8 (.tmp 26) (.tmp 27))⟩,
    ⟨(some 6), .p (.mv (.tmp 28))⟩]))
noncomputable def c26z17 : ICode := .ops none [⟨(some 29), .p (.mv (.tmp 6))⟩,
   ⟨(some 30), .p (.mv (.tmp 5))⟩,
   ⟨(some 31), .p (.mv (.tmp 7))⟩,
   ⟨(some 32), .p (.adrSl 1 (.tmp 30) (.tmp 31))⟩,
   ⟨(some 33), .l (.load false 1 (.tmp 32))⟩,
   ⟨(some 34), .p (.lenS (.tmp 33))⟩,
   ⟨(some 35), .p (.adrSl 1 (.tmp 29) (.tmp 34))⟩,
   ⟨(some 36), .l (.load false 1 (.tmp 35))⟩,
   ⟨(some 37), .p (.bin .add (.tmp 36) (.const (.int .i64 (1))))⟩,
   ⟨(some 38), .p (.adrSl 1 (.tmp 29) (.tmp 34))⟩,
   ⟨none, .e (.store 1 (.tmp 38) (.tmp 37))⟩]
noncomputable def c26z11 : ICode := .cut [5, 6, 7] c26z17
noncomputable def c26z18 : ICode := .ops none [⟨(some 16), .p (.mv (.tmp 7))⟩,
   ⟨(some 17), .p (.bin .add (.tmp 16) (.const (.int .i64 (1))))⟩,
   ⟨(some 7), .p (.mv (.tmp 17))⟩]
noncomputable def c26z9 : ICode := .cut [5, 6, 7] c26z18
noncomputable def c26z6 : ICode := .seq (.seq (.ops none [⟨(some 12), .p (.mv (.tmp 7))⟩,
     ⟨(some 13), .p (.mv (.tmp 5))⟩,
     ⟨(some 14), .p (.lenSl (.tmp 13))⟩,
     ⟨(some 15), .p (.bin .lss (.tmp 12) (.tmp 14))⟩])
  (.cond (.tmp 15) (.skip)
  (.exit 0)))
 (.seq (.block 1 (.seq (.block 2 (.loop [5, 7] [6] c26z13)) c26z11)) c26z9)
noncomputable def c26z19 : ICode := .seq (.ops none [⟨(some 39), .p (.mv (.tmp 6))⟩,
    ⟨(some 4), .p (.mv (.tmp 39))⟩])
 (.ret)
noncomputable def c26z3 : ICode := .cut [6] c26z19
noncomputable def c26 : ICode := .seq (.ops none [⟨(some 4), .p (.mv (.const (.slice none 0 0)))⟩])
 (.seq (.ops none [⟨(some 8), .p (.mv (.tmp 0))⟩,
    ⟨(some 9), .p (.mv (.tmp 1))⟩,
    ⟨(some 10), .call 71 [(.tmp 8), (.tmp 9)]⟩,
    ⟨(some 11), .e (.mkSl 3 0 [(.int .i64 (0))] [])⟩,
    ⟨(some 5), .p (.mv (.tmp 10))⟩,
    ⟨(some 6), .p (.mv (.tmp 11))⟩])
 (.seq (.seq (.ops none [⟨(some 7), .p (.mv (.const (.int .i64 (0))))⟩])
  (.block 0 (.loop [5] [6, 7] c26z6))) c26z3))
theorem k26 : compFn Try.prog 26 [[], [], [], [5], [6, 7], [], [], [5, 7], [6], [], [], [5, 6, 7], [5, 6, 7], [6], []] = some (40, c26, [.tmp 4]) := by kernel_rfl
def K26z0 (_P : Program) (K : Value → Heap → Prop) : Exit → (Nat → Value) → Heap → Prop := bodyP [.tmp 4] K
def K26z3 (P : Program) (K : Value → Heap → Prop) : Exit → (Nat → Value) → Heap → Prop := thenK (iwpP P c26z3 (K26z0 P K)) (K26z0 P K)
def K26z5 (P : Program) (K : Value → Heap → Prop) : Exit → (Nat → Value) → Heap → Prop := inBlockK 0 (K26z3 P K)
def K26z6 (P : Program) (K : Value → Heap → Prop) (l5 : Value) (L1 : List Value → Heap → Prop) : Exit → (Nat → Value) → Heap → Prop := thenK (fun f' h'' => (([5] : List Nat).map f' : List Value) = [l5] ∧ L1 (([6, 7] : List Nat).map f') h'') (K26z5 P K)
def K26z9 (P : Program) (K : Value → Heap → Prop) (l5 : Value) (L1 : List Value → Heap → Prop) : Exit → (Nat → Value) → Heap → Prop := thenK (iwpP P c26z9 (K26z6 P K l5 L1)) (K26z6 P K l5 L1)
def K26z10 (P : Program) (K : Value → Heap → Prop) (l5 : Value) (L1 : List Value → Heap → Prop) : Exit → (Nat → Value) → Heap → Prop := inBlockK 1 (K26z9 P K l5 L1)
def K26z11 (P : Program) (K : Value → Heap → Prop) (l5 : Value) (L1 : List Value → Heap → Prop) : Exit → (Nat → Value) → Heap → Prop := thenK (iwpP P c26z11 (K26z10 P K l5 L1)) (K26z10 P K l5 L1)
def K26z12 (P : Program) (K : Value → Heap → Prop) (l5 : Value) (L1 : List Value → Heap → Prop) : Exit → (Nat → Value) → Heap → Prop := inBlockK 2 (K26z11 P K l5 L1)
def K26z13 (P : Program) (K : Value → Heap → Prop) (l5 i7 : Value) (L1 L2 : List Value → Heap → Prop) : Exit → (Nat → Value) → Heap → Prop := thenK (fun f' h'' => (([5, 7] : List Nat).map f' : List Value) = [l5, i7] ∧ L2 (([6] : List Nat).map f') h'') (K26z12 P K l5 L1)
def p26z6 (P : Program) (K : Value → Heap → Prop) (l5 : Value) (L1 : List Value → Heap → Prop) (xs : List Value) (h : Heap) : Prop := CutP (iwpP P c26z6 (K26z6 P K l5 L1)) ([5] ++ [6, 7]) ([l5] ++ xs) h
def p26z13 (P : Program) (K : Value → Heap → Prop) (l5 i7 : Value) (L1 L2 : List Value → Heap → Prop) (xs : List Value) (h : Heap) : Prop := CutP (iwpP P c26z13 (K26z13 P K l5 i7 L1 L2)) ([5, 7] ++ [6]) ([l5, i7] ++ xs) h
def p26z17 (P : Program) (K : Value → Heap → Prop) (l5 out6 i7 : Value) (L1 : List Value → Heap → Prop) (h : Heap) : Prop := CutP (iwpP P c26z17 (K26z10 P K l5 L1)) [5, 6, 7] [l5, out6, i7] h
def p26z18 (P : Program) (K : Value → Heap → Prop) (l5 out6 i7 : Value) (L1 : List Value → Heap → Prop) (h : Heap) : Prop := CutP (iwpP P c26z18 (K26z6 P K l5 L1)) [5, 6, 7] [l5, out6, i7] h
def p26z19 (P : Program) (K : Value → Heap → Prop) (out6 : Value) (h : Heap) : Prop := CutP (iwpP P c26z19 (K26z0 P K)) [6] [out6] h
theorem q26z13 (P : Program) (K : Value → Heap → Prop) (l5 i7 : Value) (L1 L2 : List Value → Heap → Prop) (out6 : Value) (h : Heap) : p26z13 P K l5 i7 L1 L2 [out6] h =
  (OP (iLenSl out6) fun x19 =>
  OP (iAdrSl 1 l5 i7) fun x22 =>
  OP (iLoad false 1 h x22) fun x23 =>
  OP (iLenS x23) fun x24 =>
  OP (iBin .leq x19 x24) fun x25 =>
  IfP x25
    (OH (iMkSl 3 1 [(.int .i64 (0))] h [(0, 1, (.int .i64 (0)))]) fun x27 h_1 =>
    OH (iApp 3 1 8 h_1 out6 x27) fun x28 h_2 =>
    ([l5, i7] : List Value) = [l5, i7] ∧ L2 [x28] h_2)
    (p26z17 P K l5 out6 i7 L1 h)) := (CutP_def _ _ _ _).trans (by kernel_rfl)
theorem q26z17 (P : Program) (K : Value → Heap → Prop) (l5 out6 i7 : Value) (L1 : List Value → Heap → Prop) (h : Heap) : p26z17 P K l5 out6 i7 L1 h =
  (OP (iAdrSl 1 l5 i7) fun x32 =>
  OP (iLoad false 1 h x32) fun x33 =>
  OP (iLenS x33) fun x34 =>
  OP (iAdrSl 1 out6 x34) fun x35 =>
  OP (iLoad false 1 h x35) fun x36 =>
  OP (iBin .add x36 (.int .i64 (1))) fun x37 =>
  OP (iAdrSl 1 out6 x34) fun x38 =>
  OH (oStore 1 h x38 x37) fun _ h_1 =>
  p26z18 P K l5 out6 i7 L1 h_1) := (CutP_def _ _ _ _).trans (by kernel_rfl)
theorem q26z18 (P : Program) (K : Value → Heap → Prop) (l5 out6 i7 : Value) (L1 : List Value → Heap → Prop) (h : Heap) : p26z18 P K l5 out6 i7 L1 h =
  (OP (iBin .add i7 (.int .i64 (1))) fun x17 =>
  ([l5] : List Value) = [l5] ∧ L1 [out6, x17] h) := (CutP_def _ _ _ _).trans (by kernel_rfl)
theorem q26z6 (P : Program) (K : Value → Heap → Prop) (l5 : Value) (L1 : List Value → Heap → Prop) (out6 i7 : Value) (h : Heap) : p26z6 P K l5 L1 [out6, i7] h =
  (OP (iLenSl l5) fun x14 =>
  OP (iBin .lss i7 x14) fun x15 =>
  IfP x15
    (LoopP [out6] h fun L2 xs hx =>
    p26z13 P K l5 i7 L1 L2 xs hx)
    (p26z19 P K out6 h)) := (CutP_def _ _ _ _).trans (by kernel_rfl)
theorem q26z19 (P : Program) (K : Value → Heap → Prop) (out6 : Value) (h : Heap) : p26z19 P K out6 h =
  (K out6 h) := (CutP_def _ _ _ _).trans (by kernel_rfl)
def T26 (P : Program) (K : Value → Heap → Prop) (k0 pairs1 : Value) (h : Heap) : Prop :=
  CallP P 71 [k0, pairs1] h fun x10 h_1 =>
  OH (iMkSl 3 0 [(.int .i64 (0))] h_1 []) fun x11 h_2 =>
  LoopP [x11, (.int .i64 (0))] h_2 fun L1 xs hx =>
  p26z6 P K x10 L1 xs hx
theorem e26 (P : Program) (K : Value → Heap → Prop) (k0 pairs1 : Value) (h : Heap) : iwpP P c26 (bodyP [.tmp 4] K) (frame0 [k0, pairs1]) h = T26 P K k0 pairs1 h := by kernel_rfl
theorem f26 {K : Value → Heap → Prop} {k0 pairs1 : Value} {h : Heap} (H : T26 Try.prog K k0 pairs1 h) : CallP Try.prog 26 [k0, pairs1] h K :=
  callP_intro k26 (Nat.le_of_ble_eq_true rfl) ((e26 Try.prog K k0 pairs1 h).mpr H)
/-! F28: pommel/pommelref03.Count -/
noncomputable def c28z28 : ICode := .ops none [⟨(some 85), .p (.pick (.tmp 77) (.const (.bool true)) (.tmp 84))⟩,
   ⟨(some 71), .p (.mv (.tmp 85))⟩]
noncomputable def c28z26 : ICode := .seq (.ops (some (77, false)) [⟨(some 78), .p (.mv (.tmp 7))⟩,
    ⟨(some 79), .p (.mv (.tmp 11))⟩,
    ⟨(some 80), .p (.adrSl 1 (.tmp 78) (.tmp 79))⟩,
    ⟨(some 81), .l (.load false 1 (.tmp 80))⟩,
    ⟨(some 82), .p (.lenS (.tmp 81))⟩,
    ⟨(some 83), .p (.mv (.tmp 9))⟩,
    ⟨(some 84), .p (.bin .gtr (.tmp 82) (.tmp 83))⟩])
 (.cut [1, 2, 6, 7, 8, 9, 10, 11, 12, 77, 84] c28z28)
noncomputable def c28z38 : ICode := .ops none [⟨(some 37), .p (.mv (.tmp 13))⟩,
   ⟨(some 38), .p (.bin .add (.tmp 37) (.const (.int .i64 (1))))⟩,
   ⟨(some 13), .p (.mv (.tmp 38))⟩]
noncomputable def c28z32 : ICode := .seq (.seq (.ops none [⟨(some 33), .p (.mv (.tmp 13))⟩,
     ⟨(some 34), .p (.mv (.tmp 7))⟩,
     ⟨(some 35), .p (.lenSl (.tmp 34))⟩,
     ⟨(some 36), .p (.bin .lss (.tmp 33) (.tmp 35))⟩])
  (.cond (.tmp 36) (.skip)
  (.exit 5)))
 (.seq (.block 6 (.seq (.dops [(none, [⟨(some 39), .p (.mv (.tmp 7)), 0⟩,
      ⟨(some 40), .p (.mv (.tmp 13)), 0⟩,
      ⟨(some 41), .p (.adrSl 1 (.tmp 39) (.tmp 40)), 3⟩,
      ⟨(some 42), .l (.load false 1 (.tmp 41)), 7⟩,
      ⟨(some 43), .p (.bin .neq (.tmp 42) (.const (.string ⟨#[]⟩))), 15⟩,
      ⟨(some 44), .p (.mv (.tmp 43)), 31⟩]),
     ((some (44, true)), [⟨(some 45), .p (.mv (.tmp 1)), 63⟩,
      ⟨(some 46), .p (.mv (.tmp 7)), 63⟩,
      ⟨(some 47), .p (.mv (.tmp 13)), 63⟩,
      ⟨(some 48), .p (.adrSl 1 (.tmp 46) (.tmp 47)), 447⟩,
      ⟨(some 49), .l (.load false 1 (.tmp 48)), 959⟩,
      ⟨(some 50), .p (.mv (.tmp 7)), 63⟩,
      ⟨(some 51), .p (.mv (.tmp 11)), 63⟩,
      ⟨(some 52), .p (.adrSl 1 (.tmp 50) (.tmp 51)), 6207⟩,
      ⟨(some 53), .l (.load false 1 (.tmp 52)), 14399⟩,
      ⟨(some 54), .call 73 [(.tmp 45), (.tmp 49), (.tmp 53)], 32767⟩]),
     (none, [⟨(some 55), .p (.pick (.tmp 44) (.tmp 54) (.const (.bool false))), 65535⟩])])
   (.cond (.tmp 55) (.dops [(none, [⟨(some 56), .l (.load true 2 (.tmp 12)), 0⟩,
      ⟨(some 57), .p (.mv (.tmp 8)), 0⟩,
      ⟨(some 58), .p (.mv (.tmp 9)), 0⟩,
      ⟨(some 59), .p (.mv (.tmp 7)), 0⟩,
      ⟨(some 60), .p (.mv (.tmp 11)), 0⟩,
      ⟨(some 61), .p (.adrSl 1 (.tmp 59) (.tmp 60)), 24⟩,
      ⟨(some 62), .l (.load false 1 (.tmp 61)), 56⟩,
      ⟨(some 63), .p (.lenS (.tmp 62)), 120⟩,
      ⟨(some 64), .p (.bin .sub (.tmp 58) (.tmp 63)), 252⟩,
      ⟨(some 65), .p (.adrSl 1 (.tmp 57) (.tmp 64)), 510⟩,
      ⟨(some 66), .l (.load false 1 (.tmp 65)), 1022⟩,
      ⟨(some 67), .p (.mv (.tmp 13)), 0⟩,
      ⟨(some 68), .p (.adrSl 2 (.tmp 66) (.tmp 67)), 4094⟩,
      ⟨(some 69), .l (.load true 2 (.tmp 68)), 8190⟩,
      ⟨(some 70), .call 74 [(.tmp 56), (.tmp 69)], 16383⟩,
      ⟨none, .e (.store 2 (.tmp 12) (.tmp 70)), 32767⟩])])
   (.skip))))
 (.cut [1, 2, 6, 7, 8, 9, 10, 11, 12, 13] c28z38))
noncomputable def c28z24 : ICode := .cond (.tmp 71) (.skip)
 (.seq (.ops none [⟨(some 87), .p (.mv (.tmp 7))⟩,
     ⟨(some 88), .p (.mv (.tmp 11))⟩,
     ⟨(some 89), .p (.adrSl 1 (.tmp 87) (.tmp 88))⟩,
     ⟨(some 90), .l (.load false 1 (.tmp 89))⟩,
     ⟨(some 91), .p (.lenS (.tmp 90))⟩,
     ⟨(some 92), .p (.mv (.tmp 9))⟩,
     ⟨(some 93), .p (.bin .eql (.tmp 91) (.tmp 92))⟩,
     ⟨(some 86), .p (.mv (.tmp 93))⟩])
  (.cond (.tmp 86) (.ops none [⟨(some 94), .call 29 [(.const (.int .i64 (1)))]⟩,
     ⟨none, .e (.store 2 (.tmp 12) (.tmp 94))⟩])
  (.seq (.ops none [⟨(some 13), .p (.mv (.const (.int .i64 (0))))⟩])
   (.block 5 (.loop [1, 2, 6, 7, 8, 9, 10, 11, 12] [13] c28z32)))))
noncomputable def c28z39 : ICode := .ops none [⟨(some 95), .p (.mv (.tmp 10))⟩,
   ⟨(some 96), .l (.load true 2 (.tmp 12))⟩,
   ⟨(some 97), .e (.mkSl 46 1 [(.bool false), (.slice none 0 0)] [(0, 2, (.tmp 96))])⟩,
   ⟨(some 98), .e (.app 46 2 32 (.tmp 95) (.tmp 97))⟩,
   ⟨(some 10), .p (.mv (.tmp 98))⟩]
noncomputable def c28z22 : ICode := .cut [1, 2, 6, 7, 8, 9, 10, 11, 12] c28z39
noncomputable def c28z40 : ICode := .ops none [⟨(some 30), .p (.mv (.tmp 11))⟩,
   ⟨(some 31), .p (.bin .add (.tmp 30) (.const (.int .i64 (1))))⟩,
   ⟨(some 11), .p (.mv (.tmp 31))⟩]
noncomputable def c28z19 : ICode := .cut [1, 2, 6, 7, 8, 9, 10, 11] c28z40
noncomputable def c28z16 : ICode := .seq (.seq (.ops none [⟨(some 26), .p (.mv (.tmp 11))⟩,
     ⟨(some 27), .p (.mv (.tmp 7))⟩,
     ⟨(some 28), .p (.lenSl (.tmp 27))⟩,
     ⟨(some 29), .p (.bin .lss (.tmp 26) (.tmp 28))⟩])
  (.cond (.tmp 29) (.skip)
  (.exit 2)))
 (.seq (.block 3 (.seq (.ops none [⟨(some 32), .call 29 [(.const (.int .i64 (0)))]⟩,
      ⟨(some 12), .e (.alloc 46 [(.bool false), (.slice none 0 0)])⟩,
      ⟨none, .e (.store 2 (.tmp 12) (.tmp 32))⟩])
   (.seq (.block 4 (.seq (.seq (.ops none [⟨(some 72), .p (.mv (.tmp 7))⟩,
         ⟨(some 73), .p (.mv (.tmp 11))⟩,
         ⟨(some 74), .p (.adrSl 1 (.tmp 72) (.tmp 73))⟩,
         ⟨(some 75), .l (.load false 1 (.tmp 74))⟩,
         ⟨(some 76), .p (.bin .eql (.tmp 75) (.const (.string ⟨#[]⟩)))⟩,
         ⟨(some 77), .p (.mv (.tmp 76))⟩])
      (.cut [1, 2, 6, 7, 8, 9, 10, 11, 12, 77] c28z26)) c28z24)) c28z22))) c28z19)
noncomputable def c28z41 : ICode := .ops none [⟨(some 99), .p (.mv (.tmp 8))⟩,
   ⟨(some 100), .p (.mv (.tmp 10))⟩,
   ⟨(some 101), .e (.mkSl 118 1 [(.slice none 0 0)] [(0, 1, (.tmp 100))])⟩,
   ⟨(some 102), .e (.app 118 1 24 (.tmp 99) (.tmp 101))⟩,
   ⟨(some 8), .p (.mv (.tmp 102))⟩]
noncomputable def c28z13 : ICode := .cut [1, 2, 6, 7, 8, 9, 10] c28z41
noncomputable def c28z42 : ICode := .ops none [⟨(some 23), .p (.mv (.tmp 9))⟩,
   ⟨(some 24), .p (.bin .add (.tmp 23) (.const (.int .i64 (1))))⟩,
   ⟨(some 9), .p (.mv (.tmp 24))⟩]
noncomputable def c28z10 : ICode := .cut [1, 2, 6, 7, 8, 9] c28z42
noncomputable def c28z7 : ICode := .seq (.seq (.ops none [⟨(some 20), .p (.mv (.tmp 9))⟩,
     ⟨(some 21), .p (.mv (.tmp 2))⟩,
     ⟨(some 22), .p (.bin .leq (.tmp 20) (.tmp 21))⟩])
  (.cond (.tmp 22) (.skip)
  (.exit 0)))
 (.seq (.block 1 (.seq (.ops none [⟨(some 25), .e (.mkSl 46 0 [(.bool false), (.slice none 0 0)] [])⟩,
      ⟨(some 10), .p (.mv (.tmp 25))⟩])
   (.seq (.seq (.ops none [⟨(some 11), .p (.mv (.const (.int .i64 (0))))⟩])
    (.block 2 (.loop [1, 2, 6, 7, 8, 9] [10, 11] c28z16))) c28z13))) c28z10)
noncomputable def c28z51 : ICode := .seq (.seq (.ops none [⟨(some 107), .p (.mv (.tmp 15))⟩,
     ⟨(some 108), .p (.mv (.tmp 7))⟩,
     ⟨(some 109), .p (.lenSl (.tmp 108))⟩,
     ⟨(some 110), .p (.bin .lss (.tmp 107) (.tmp 109))⟩])
  (.cond (.tmp 110) (.skip)
  (.exit 7)))
 (.seq (.block 8 (.dops [(none, [⟨(some 113), .l (.load true 2 (.tmp 14)), 0⟩,
     ⟨(some 114), .p (.mv (.tmp 8)), 0⟩,
     ⟨(some 115), .p (.mv (.tmp 2)), 0⟩,
     ⟨(some 116), .p (.adrSl 1 (.tmp 114) (.tmp 115)), 6⟩,
     ⟨(some 117), .l (.load false 1 (.tmp 116)), 14⟩,
     ⟨(some 118), .p (.mv (.tmp 15)), 0⟩,
     ⟨(some 119), .p (.adrSl 2 (.tmp 117) (.tmp 118)), 62⟩,
     ⟨(some 120), .l (.load true 2 (.tmp 119)), 126⟩,
     ⟨(some 121), .call 74 [(.tmp 113), (.tmp 120)], 255⟩,
     ⟨none, .e (.store 2 (.tmp 14) (.tmp 121)), 511⟩])]))
 (.ops none [⟨(some 111), .p (.mv (.tmp 15))⟩,
   ⟨(some 112), .p (.bin .add (.tmp 111) (.const (.int .i64 (1))))⟩,
   ⟨(some 15), .p (.mv (.tmp 112))⟩]))
noncomputable def c28z56 : ICode := .seq (.ops none [⟨(some 122), .l (.load true 2 (.tmp 14))⟩,
    ⟨none, .e (.store 2 (.tmp 6) (.tmp 122))⟩])
 (.ret)
noncomputable def c28z48 : ICode := .cut [6, 14] c28z56
noncomputable def c28z43 : ICode := .seq (.seq (.ops none [⟨(some 103), .p (.mv (.tmp 2))⟩,
     ⟨(some 104), .p (.bin .eql (.tmp 103) (.const (.int .i64 (0))))⟩])
  (.cond (.tmp 104) (.seq (.ops none [⟨(some 105), .call 29 [(.const (.int .i64 (1)))]⟩,
      ⟨none, .e (.store 2 (.tmp 6) (.tmp 105))⟩])
   (.ret))
  (.skip)))
 (.seq (.ops none [⟨(some 106), .call 29 [(.const (.int .i64 (0)))]⟩,
    ⟨(some 14), .e (.alloc 46 [(.bool false), (.slice none 0 0)])⟩,
    ⟨none, .e (.store 2 (.tmp 14) (.tmp 106))⟩])
 (.seq (.seq (.ops none [⟨(some 15), .p (.mv (.const (.int .i64 (0))))⟩])
  (.block 7 (.loop [2, 6, 7, 8, 14] [15] c28z51))) c28z48))
noncomputable def c28z4 : ICode := .cut [2, 6, 7, 8] c28z43
noncomputable def c28 : ICode := .seq (.ops none [⟨(some 6), .e (.alloc 46 [(.bool false), (.slice none 0 0)])⟩])
 (.seq (.ops none [⟨(some 16), .p (.mv (.tmp 0))⟩,
    ⟨(some 17), .p (.mv (.tmp 1))⟩,
    ⟨(some 18), .call 71 [(.tmp 16), (.tmp 17)]⟩,
    ⟨(some 7), .p (.mv (.tmp 18))⟩])
 (.seq (.ops none [⟨(some 19), .e (.mkSl 118 0 [(.slice none 0 0)] [])⟩,
    ⟨(some 8), .p (.mv (.tmp 19))⟩])
 (.seq (.seq (.ops none [⟨(some 9), .p (.mv (.const (.int .i64 (0))))⟩])
  (.block 0 (.loop [1, 2, 6, 7] [8, 9] c28z7))) c28z4)))
theorem k28 : compFn Try.prog 28 [[], [], [], [], [1, 2, 6, 7], [8, 9], [], [], [], [], [1, 2, 6, 7, 8, 9], [10, 11], [], [], [], [1, 2, 6, 7, 8, 9, 10, 11, 12, 77], [1, 2, 6, 7, 8, 9, 10, 11, 12, 77, 84], [], [], [], [1, 2, 6, 7, 8, 9, 10, 11, 12], [13], [], [], [], [1, 2, 6, 7, 8, 9, 10, 11, 12, 13], [1, 2, 6, 7, 8, 9, 10, 11, 12], [1, 2, 6, 7, 8, 9, 10, 11], [1, 2, 6, 7, 8, 9, 10], [1, 2, 6, 7, 8, 9], [2, 6, 7, 8], [], [], [], [], [], [2, 6, 7, 8, 14], [15], [], [], [], [6, 14], []] = some (123, c28, [.cell true 2 6]) := by kernel_rfl
def K28z0 (_P : Program) (K : Value → Heap → Prop) : Exit → (Nat → Value) → Heap → Prop := bodyP [.cell true 2 6] K
def K28z4 (P : Program) (K : Value → Heap → Prop) : Exit → (Nat → Value) → Heap → Prop := thenK (iwpP P c28z4 (K28z0 P K)) (K28z0 P K)
def K28z6 (P : Program) (K : Value → Heap → Prop) : Exit → (Nat → Value) → Heap → Prop := inBlockK 0 (K28z4 P K)
def K28z7 (P : Program) (K : Value → Heap → Prop) (pairs1 n2 x6 l7 : Value) (L1 : List Value → Heap → Prop) : Exit → (Nat → Value) → Heap → Prop := thenK (fun f' h'' => (([1, 2, 6, 7] : List Nat).map f' : List Value) = [pairs1, n2, x6, l7] ∧ L1 (([8, 9] : List Nat).map f') h'') (K28z6 P K)
def K28z10 (P : Program) (K : Value → Heap → Prop) (pairs1 n2 x6 l7 : Value) (L1 : List Value → Heap → Prop) : Exit → (Nat → Value) → Heap → Prop := thenK (iwpP P c28z10 (K28z7 P K pairs1 n2 x6 l7 L1)) (K28z7 P K pairs1 n2 x6 l7 L1)
def K28z11 (P : Program) (K : Value → Heap → Prop) (pairs1 n2 x6 l7 : Value) (L1 : List Value → Heap → Prop) : Exit → (Nat → Value) → Heap → Prop := inBlockK 1 (K28z10 P K pairs1 n2 x6 l7 L1)
def K28z13 (P : Program) (K : Value → Heap → Prop) (pairs1 n2 x6 l7 : Value) (L1 : List Value → Heap → Prop) : Exit → (Nat → Value) → Heap → Prop := thenK (iwpP P c28z13 (K28z11 P K pairs1 n2 x6 l7 L1)) (K28z11 P K pairs1 n2 x6 l7 L1)
def K28z15 (P : Program) (K : Value → Heap → Prop) (pairs1 n2 x6 l7 : Value) (L1 : List Value → Heap → Prop) : Exit → (Nat → Value) → Heap → Prop := inBlockK 2 (K28z13 P K pairs1 n2 x6 l7 L1)
def K28z16 (P : Program) (K : Value → Heap → Prop) (pairs1 n2 x6 l7 ends8 m9 : Value) (L1 L2 : List Value → Heap → Prop) : Exit → (Nat → Value) → Heap → Prop := thenK (fun f' h'' => (([1, 2, 6, 7, 8, 9] : List Nat).map f' : List Value) = [pairs1, n2, x6, l7, ends8, m9] ∧ L2 (([10, 11] : List Nat).map f') h'') (K28z15 P K pairs1 n2 x6 l7 L1)
def K28z19 (P : Program) (K : Value → Heap → Prop) (pairs1 n2 x6 l7 ends8 m9 : Value) (L1 L2 : List Value → Heap → Prop) : Exit → (Nat → Value) → Heap → Prop := thenK (iwpP P c28z19 (K28z16 P K pairs1 n2 x6 l7 ends8 m9 L1 L2)) (K28z16 P K pairs1 n2 x6 l7 ends8 m9 L1 L2)
def K28z20 (P : Program) (K : Value → Heap → Prop) (pairs1 n2 x6 l7 ends8 m9 : Value) (L1 L2 : List Value → Heap → Prop) : Exit → (Nat → Value) → Heap → Prop := inBlockK 3 (K28z19 P K pairs1 n2 x6 l7 ends8 m9 L1 L2)
def K28z22 (P : Program) (K : Value → Heap → Prop) (pairs1 n2 x6 l7 ends8 m9 : Value) (L1 L2 : List Value → Heap → Prop) : Exit → (Nat → Value) → Heap → Prop := thenK (iwpP P c28z22 (K28z20 P K pairs1 n2 x6 l7 ends8 m9 L1 L2)) (K28z20 P K pairs1 n2 x6 l7 ends8 m9 L1 L2)
def K28z23 (P : Program) (K : Value → Heap → Prop) (pairs1 n2 x6 l7 ends8 m9 : Value) (L1 L2 : List Value → Heap → Prop) : Exit → (Nat → Value) → Heap → Prop := inBlockK 4 (K28z22 P K pairs1 n2 x6 l7 ends8 m9 L1 L2)
def K28z24 (P : Program) (K : Value → Heap → Prop) (pairs1 n2 x6 l7 ends8 m9 : Value) (L1 L2 : List Value → Heap → Prop) : Exit → (Nat → Value) → Heap → Prop := thenK (iwpP P c28z24 (K28z23 P K pairs1 n2 x6 l7 ends8 m9 L1 L2)) (K28z23 P K pairs1 n2 x6 l7 ends8 m9 L1 L2)
def K28z31 (P : Program) (K : Value → Heap → Prop) (pairs1 n2 x6 l7 ends8 m9 : Value) (L1 L2 : List Value → Heap → Prop) : Exit → (Nat → Value) → Heap → Prop := inBlockK 5 (K28z23 P K pairs1 n2 x6 l7 ends8 m9 L1 L2)
def K28z32 (P : Program) (K : Value → Heap → Prop) (pairs1 n2 x6 l7 ends8 m9 row10 i11 v12 : Value) (L1 L2 L3 : List Value → Heap → Prop) : Exit → (Nat → Value) → Heap → Prop := thenK (fun f' h'' => (([1, 2, 6, 7, 8, 9, 10, 11, 12] : List Nat).map f' : List Value) = [pairs1, n2, x6, l7, ends8, m9, row10, i11, v12] ∧ L3 (([13] : List Nat).map f') h'') (K28z31 P K pairs1 n2 x6 l7 ends8 m9 L1 L2)
def K28z48 (P : Program) (K : Value → Heap → Prop) : Exit → (Nat → Value) → Heap → Prop := thenK (iwpP P c28z48 (K28z0 P K)) (K28z0 P K)
def K28z50 (P : Program) (K : Value → Heap → Prop) : Exit → (Nat → Value) → Heap → Prop := inBlockK 7 (K28z48 P K)
def K28z51 (P : Program) (K : Value → Heap → Prop) (n2 x6 l7 ends8 sum14 : Value) (L1 : List Value → Heap → Prop) : Exit → (Nat → Value) → Heap → Prop := thenK (fun f' h'' => (([2, 6, 7, 8, 14] : List Nat).map f' : List Value) = [n2, x6, l7, ends8, sum14] ∧ L1 (([15] : List Nat).map f') h'') (K28z50 P K)
def p28z7 (P : Program) (K : Value → Heap → Prop) (pairs1 n2 x6 l7 : Value) (L1 : List Value → Heap → Prop) (xs : List Value) (h : Heap) : Prop := CutP (iwpP P c28z7 (K28z7 P K pairs1 n2 x6 l7 L1)) ([1, 2, 6, 7] ++ [8, 9]) ([pairs1, n2, x6, l7] ++ xs) h
def p28z16 (P : Program) (K : Value → Heap → Prop) (pairs1 n2 x6 l7 ends8 m9 : Value) (L1 L2 : List Value → Heap → Prop) (xs : List Value) (h : Heap) : Prop := CutP (iwpP P c28z16 (K28z16 P K pairs1 n2 x6 l7 ends8 m9 L1 L2)) ([1, 2, 6, 7, 8, 9] ++ [10, 11]) ([pairs1, n2, x6, l7, ends8, m9] ++ xs) h
def p28z26 (P : Program) (K : Value → Heap → Prop) (pairs1 n2 x6 l7 ends8 m9 row10 i11 v12 x77 : Value) (L1 L2 : List Value → Heap → Prop) (h : Heap) : Prop := CutP (iwpP P c28z26 (K28z24 P K pairs1 n2 x6 l7 ends8 m9 L1 L2)) [1, 2, 6, 7, 8, 9, 10, 11, 12, 77] [pairs1, n2, x6, l7, ends8, m9, row10, i11, v12, x77] h
def p28z28 (P : Program) (K : Value → Heap → Prop) (pairs1 n2 x6 l7 ends8 m9 row10 i11 v12 x77 x84 : Value) (L1 L2 : List Value → Heap → Prop) (h : Heap) : Prop := CutP (iwpP P c28z28 (K28z24 P K pairs1 n2 x6 l7 ends8 m9 L1 L2)) [1, 2, 6, 7, 8, 9, 10, 11, 12, 77, 84] [pairs1, n2, x6, l7, ends8, m9, row10, i11, v12, x77, x84] h
def p28z32 (P : Program) (K : Value → Heap → Prop) (pairs1 n2 x6 l7 ends8 m9 row10 i11 v12 : Value) (L1 L2 L3 : List Value → Heap → Prop) (xs : List Value) (h : Heap) : Prop := CutP (iwpP P c28z32 (K28z32 P K pairs1 n2 x6 l7 ends8 m9 row10 i11 v12 L1 L2 L3)) ([1, 2, 6, 7, 8, 9, 10, 11, 12] ++ [13]) ([pairs1, n2, x6, l7, ends8, m9, row10, i11, v12] ++ xs) h
def p28z38 (P : Program) (K : Value → Heap → Prop) (pairs1 n2 x6 l7 ends8 m9 row10 i11 v12 j13 : Value) (L1 L2 L3 : List Value → Heap → Prop) (h : Heap) : Prop := CutP (iwpP P c28z38 (K28z32 P K pairs1 n2 x6 l7 ends8 m9 row10 i11 v12 L1 L2 L3)) [1, 2, 6, 7, 8, 9, 10, 11, 12, 13] [pairs1, n2, x6, l7, ends8, m9, row10, i11, v12, j13] h
def p28z39 (P : Program) (K : Value → Heap → Prop) (pairs1 n2 x6 l7 ends8 m9 row10 i11 v12 : Value) (L1 L2 : List Value → Heap → Prop) (h : Heap) : Prop := CutP (iwpP P c28z39 (K28z20 P K pairs1 n2 x6 l7 ends8 m9 L1 L2)) [1, 2, 6, 7, 8, 9, 10, 11, 12] [pairs1, n2, x6, l7, ends8, m9, row10, i11, v12] h
def p28z40 (P : Program) (K : Value → Heap → Prop) (pairs1 n2 x6 l7 ends8 m9 row10 i11 : Value) (L1 L2 : List Value → Heap → Prop) (h : Heap) : Prop := CutP (iwpP P c28z40 (K28z16 P K pairs1 n2 x6 l7 ends8 m9 L1 L2)) [1, 2, 6, 7, 8, 9, 10, 11] [pairs1, n2, x6, l7, ends8, m9, row10, i11] h
def p28z41 (P : Program) (K : Value → Heap → Prop) (pairs1 n2 x6 l7 ends8 m9 row10 : Value) (L1 : List Value → Heap → Prop) (h : Heap) : Prop := CutP (iwpP P c28z41 (K28z11 P K pairs1 n2 x6 l7 L1)) [1, 2, 6, 7, 8, 9, 10] [pairs1, n2, x6, l7, ends8, m9, row10] h
def p28z42 (P : Program) (K : Value → Heap → Prop) (pairs1 n2 x6 l7 ends8 m9 : Value) (L1 : List Value → Heap → Prop) (h : Heap) : Prop := CutP (iwpP P c28z42 (K28z7 P K pairs1 n2 x6 l7 L1)) [1, 2, 6, 7, 8, 9] [pairs1, n2, x6, l7, ends8, m9] h
def p28z43 (P : Program) (K : Value → Heap → Prop) (n2 x6 l7 ends8 : Value) (h : Heap) : Prop := CutP (iwpP P c28z43 (K28z0 P K)) [2, 6, 7, 8] [n2, x6, l7, ends8] h
def p28z51 (P : Program) (K : Value → Heap → Prop) (n2 x6 l7 ends8 sum14 : Value) (L1 : List Value → Heap → Prop) (xs : List Value) (h : Heap) : Prop := CutP (iwpP P c28z51 (K28z51 P K n2 x6 l7 ends8 sum14 L1)) ([2, 6, 7, 8, 14] ++ [15]) ([n2, x6, l7, ends8, sum14] ++ xs) h
def p28z56 (P : Program) (K : Value → Heap → Prop) (x6 sum14 : Value) (h : Heap) : Prop := CutP (iwpP P c28z56 (K28z0 P K)) [6, 14] [x6, sum14] h
theorem q28z28 (P : Program) (K : Value → Heap → Prop) (pairs1 n2 x6 l7 ends8 m9 row10 i11 v12 x77 x84 : Value) (L1 L2 : List Value → Heap → Prop) (h : Heap) : p28z28 P K pairs1 n2 x6 l7 ends8 m9 row10 i11 v12 x77 x84 L1 L2 h =
  (OP (iPick x77 (.bool true) x84) fun x85 =>
  IfP x85
    (p28z39 P K pairs1 n2 x6 l7 ends8 m9 row10 i11 v12 L1 L2 h)
    (OP (iAdrSl 1 l7 i11) fun x89 =>
    OP (iLoad false 1 h x89) fun x90 =>
    OP (iLenS x90) fun x91 =>
    OP (iBin .eql x91 m9) fun x93 =>
    IfP x93
      (CallP P 29 [(.int .i64 (1))] h fun x94 h_1 =>
      OH (oStore 2 h_1 v12 x94) fun _ h_2 =>
      p28z39 P K pairs1 n2 x6 l7 ends8 m9 row10 i11 v12 L1 L2 h_2)
      (LoopP [(.int .i64 (0))] h fun L3 xs hx =>
      p28z32 P K pairs1 n2 x6 l7 ends8 m9 row10 i11 v12 L1 L2 L3 xs hx))) := (CutP_def _ _ _ _).trans (by kernel_rfl)
theorem q28z26 (P : Program) (K : Value → Heap → Prop) (pairs1 n2 x6 l7 ends8 m9 row10 i11 v12 x77 : Value) (L1 L2 : List Value → Heap → Prop) (h : Heap) : p28z26 P K pairs1 n2 x6 l7 ends8 m9 row10 i11 v12 x77 L1 L2 h =
  (GdP x77 false
    (OP (iAdrSl 1 l7 i11) fun x80 =>
    OP (iLoad false 1 h x80) fun x81 =>
    OP (iLenS x81) fun x82 =>
    OP (iBin .gtr x82 m9) fun x84 =>
    p28z28 P K pairs1 n2 x6 l7 ends8 m9 row10 i11 v12 x77 x84 L1 L2 h)
    (p28z28 P K pairs1 n2 x6 l7 ends8 m9 row10 i11 v12 x77 undef L1 L2 h)) := (CutP_def _ _ _ _).trans (by kernel_rfl)
theorem q28z38 (P : Program) (K : Value → Heap → Prop) (pairs1 n2 x6 l7 ends8 m9 row10 i11 v12 j13 : Value) (L1 L2 L3 : List Value → Heap → Prop) (h : Heap) : p28z38 P K pairs1 n2 x6 l7 ends8 m9 row10 i11 v12 j13 L1 L2 L3 h =
  (OP (iBin .add j13 (.int .i64 (1))) fun x38 =>
  ([pairs1, n2, x6, l7, ends8, m9, row10, i11, v12] : List Value) = [pairs1, n2, x6, l7, ends8, m9, row10, i11, v12] ∧ L3 [x38] h) := (CutP_def _ _ _ _).trans (by kernel_rfl)
theorem q28z32 (P : Program) (K : Value → Heap → Prop) (pairs1 n2 x6 l7 ends8 m9 row10 i11 v12 : Value) (L1 L2 L3 : List Value → Heap → Prop) (j13 : Value) (h : Heap) : p28z32 P K pairs1 n2 x6 l7 ends8 m9 row10 i11 v12 L1 L2 L3 [j13] h =
  (OP (iLenSl l7) fun x35 =>
  OP (iBin .lss j13 x35) fun x36 =>
  IfP x36
    (OP (iAdrSl 1 l7 j13) fun x41 =>
    OP (iLoad false 1 h x41) fun x42 =>
    (True) ∧
    OP (iBin .neq x42 (.string ⟨#[]⟩)) fun x43 =>
    GdP x43 true
      (OP (iAdrSl 1 l7 j13) fun x48 =>
      OP (iLoad false 1 h x48) fun x49 =>
      (True) ∧
      OP (iAdrSl 1 l7 i11) fun x52 =>
      OP (iLoad false 1 h x52) fun x53 =>
      (True) ∧
      CallP P 73 [pairs1, x49, x53] h fun x54 h_1 =>
      (True) ∧
      OP (iPick x43 x54 (.bool false)) fun x55 =>
      IfP x55
        (OP (iLoad true 2 h_1 v12) fun x56 =>
        (True) ∧
        OP (iAdrSl 1 l7 i11) fun x61 =>
        OP (iLoad false 1 h_1 x61) fun x62 =>
        (True) ∧
        OP (iLenS x62) fun x63 =>
        OP (iBin .sub m9 x63) fun x64 =>
        OP (iAdrSl 1 ends8 x64) fun x65 =>
        OP (iLoad false 1 h_1 x65) fun x66 =>
        (True) ∧
        OP (iAdrSl 2 x66 j13) fun x68 =>
        OP (iLoad true 2 h_1 x68) fun x69 =>
        (True) ∧
        CallP P 74 [x56, x69] h_1 fun x70 h_2 =>
        (True) ∧
        OH (oStore 2 h_2 v12 x70) fun _ h_3 =>
        (True) ∧
        p28z38 P K pairs1 n2 x6 l7 ends8 m9 row10 i11 v12 j13 L1 L2 L3 h_3)
        (p28z38 P K pairs1 n2 x6 l7 ends8 m9 row10 i11 v12 j13 L1 L2 L3 h_1))
      ((True) ∧
      OP (iPick x43 undef (.bool false)) fun x55 =>
      IfP x55
        (OP (iLoad true 2 h v12) fun x56 =>
        (True) ∧
        OP (iAdrSl 1 l7 i11) fun x61 =>
        OP (iLoad false 1 h x61) fun x62 =>
        (True) ∧
        OP (iLenS x62) fun x63 =>
        OP (iBin .sub m9 x63) fun x64 =>
        OP (iAdrSl 1 ends8 x64) fun x65 =>
        OP (iLoad false 1 h x65) fun x66 =>
        (True) ∧
        OP (iAdrSl 2 x66 j13) fun x68 =>
        OP (iLoad true 2 h x68) fun x69 =>
        (True) ∧
        CallP P 74 [x56, x69] h fun x70 h_1 =>
        (True) ∧
        OH (oStore 2 h_1 v12 x70) fun _ h_2 =>
        (True) ∧
        p28z38 P K pairs1 n2 x6 l7 ends8 m9 row10 i11 v12 j13 L1 L2 L3 h_2)
        (p28z38 P K pairs1 n2 x6 l7 ends8 m9 row10 i11 v12 j13 L1 L2 L3 h)))
    (p28z39 P K pairs1 n2 x6 l7 ends8 m9 row10 i11 v12 L1 L2 h)) := (CutP_def _ _ _ _).trans (by kernel_rfl)
theorem q28z39 (P : Program) (K : Value → Heap → Prop) (pairs1 n2 x6 l7 ends8 m9 row10 i11 v12 : Value) (L1 L2 : List Value → Heap → Prop) (h : Heap) : p28z39 P K pairs1 n2 x6 l7 ends8 m9 row10 i11 v12 L1 L2 h =
  (OP (iLoad true 2 h v12) fun x96 =>
  OH (iMkSl 46 1 [(.bool false), (.slice none 0 0)] h [(0, 2, x96)]) fun x97 h_1 =>
  OH (iApp 46 2 32 h_1 row10 x97) fun x98 h_2 =>
  p28z40 P K pairs1 n2 x6 l7 ends8 m9 x98 i11 L1 L2 h_2) := (CutP_def _ _ _ _).trans (by kernel_rfl)
theorem q28z40 (P : Program) (K : Value → Heap → Prop) (pairs1 n2 x6 l7 ends8 m9 row10 i11 : Value) (L1 L2 : List Value → Heap → Prop) (h : Heap) : p28z40 P K pairs1 n2 x6 l7 ends8 m9 row10 i11 L1 L2 h =
  (OP (iBin .add i11 (.int .i64 (1))) fun x31 =>
  ([pairs1, n2, x6, l7, ends8, m9] : List Value) = [pairs1, n2, x6, l7, ends8, m9] ∧ L2 [row10, x31] h) := (CutP_def _ _ _ _).trans (by kernel_rfl)
theorem q28z16 (P : Program) (K : Value → Heap → Prop) (pairs1 n2 x6 l7 ends8 m9 : Value) (L1 L2 : List Value → Heap → Prop) (row10 i11 : Value) (h : Heap) : p28z16 P K pairs1 n2 x6 l7 ends8 m9 L1 L2 [row10, i11] h =
  (OP (iLenSl l7) fun x28 =>
  OP (iBin .lss i11 x28) fun x29 =>
  IfP x29
    (CallP P 29 [(.int .i64 (0))] h fun x32 h_1 =>
    OH (iAlloc 46 [(.bool false), (.slice none 0 0)] h_1) fun v12 h_2 =>
    OH (oStore 2 h_2 v12 x32) fun _ h_3 =>
    OP (iAdrSl 1 l7 i11) fun x74 =>
    OP (iLoad false 1 h_3 x74) fun x75 =>
    OP (iBin .eql x75 (.string ⟨#[]⟩)) fun x76 =>
    p28z26 P K pairs1 n2 x6 l7 ends8 m9 row10 i11 v12 x76 L1 L2 h_3)
    (p28z41 P K pairs1 n2 x6 l7 ends8 m9 row10 L1 h)) := (CutP_def _ _ _ _).trans (by kernel_rfl)
theorem q28z41 (P : Program) (K : Value → Heap → Prop) (pairs1 n2 x6 l7 ends8 m9 row10 : Value) (L1 : List Value → Heap → Prop) (h : Heap) : p28z41 P K pairs1 n2 x6 l7 ends8 m9 row10 L1 h =
  (OH (iMkSl 118 1 [(.slice none 0 0)] h [(0, 1, row10)]) fun x101 h_1 =>
  OH (iApp 118 1 24 h_1 ends8 x101) fun x102 h_2 =>
  p28z42 P K pairs1 n2 x6 l7 x102 m9 L1 h_2) := (CutP_def _ _ _ _).trans (by kernel_rfl)
theorem q28z42 (P : Program) (K : Value → Heap → Prop) (pairs1 n2 x6 l7 ends8 m9 : Value) (L1 : List Value → Heap → Prop) (h : Heap) : p28z42 P K pairs1 n2 x6 l7 ends8 m9 L1 h =
  (OP (iBin .add m9 (.int .i64 (1))) fun x24 =>
  ([pairs1, n2, x6, l7] : List Value) = [pairs1, n2, x6, l7] ∧ L1 [ends8, x24] h) := (CutP_def _ _ _ _).trans (by kernel_rfl)
theorem q28z7 (P : Program) (K : Value → Heap → Prop) (pairs1 n2 x6 l7 : Value) (L1 : List Value → Heap → Prop) (ends8 m9 : Value) (h : Heap) : p28z7 P K pairs1 n2 x6 l7 L1 [ends8, m9] h =
  (OP (iBin .leq m9 n2) fun x22 =>
  IfP x22
    (OH (iMkSl 46 0 [(.bool false), (.slice none 0 0)] h []) fun x25 h_1 =>
    LoopP [x25, (.int .i64 (0))] h_1 fun L2 xs hx =>
    p28z16 P K pairs1 n2 x6 l7 ends8 m9 L1 L2 xs hx)
    (p28z43 P K n2 x6 l7 ends8 h)) := (CutP_def _ _ _ _).trans (by kernel_rfl)
theorem q28z51 (P : Program) (K : Value → Heap → Prop) (n2 x6 l7 ends8 sum14 : Value) (L1 : List Value → Heap → Prop) (i15 : Value) (h : Heap) : p28z51 P K n2 x6 l7 ends8 sum14 L1 [i15] h =
  (OP (iLenSl l7) fun x109 =>
  OP (iBin .lss i15 x109) fun x110 =>
  IfP x110
    (OP (iLoad true 2 h sum14) fun x113 =>
    (True) ∧
    OP (iAdrSl 1 ends8 n2) fun x116 =>
    OP (iLoad false 1 h x116) fun x117 =>
    (True) ∧
    OP (iAdrSl 2 x117 i15) fun x119 =>
    OP (iLoad true 2 h x119) fun x120 =>
    (True) ∧
    CallP P 74 [x113, x120] h fun x121 h_1 =>
    (True) ∧
    OH (oStore 2 h_1 sum14 x121) fun _ h_2 =>
    (True) ∧
    OP (iBin .add i15 (.int .i64 (1))) fun x112 =>
    ([n2, x6, l7, ends8, sum14] : List Value) = [n2, x6, l7, ends8, sum14] ∧ L1 [x112] h_2)
    (p28z56 P K x6 sum14 h)) := (CutP_def _ _ _ _).trans (by kernel_rfl)
theorem q28z56 (P : Program) (K : Value → Heap → Prop) (x6 sum14 : Value) (h : Heap) : p28z56 P K x6 sum14 h =
  (OP (iLoad true 2 h sum14) fun x122 =>
  OH (oStore 2 h x6 x122) fun _ h_1 =>
  OP (iLoad true 2 h_1 x6) fun r0 =>
  K r0 h_1) := (CutP_def _ _ _ _).trans (by kernel_rfl)
theorem q28z43 (P : Program) (K : Value → Heap → Prop) (n2 x6 l7 ends8 : Value) (h : Heap) : p28z43 P K n2 x6 l7 ends8 h =
  (OP (iBin .eql n2 (.int .i64 (0))) fun x104 =>
  IfP x104
    (CallP P 29 [(.int .i64 (1))] h fun x105 h_1 =>
    OH (oStore 2 h_1 x6 x105) fun _ h_2 =>
    OP (iLoad true 2 h_2 x6) fun r0 =>
    K r0 h_2)
    (CallP P 29 [(.int .i64 (0))] h fun x106 h_1 =>
    OH (iAlloc 46 [(.bool false), (.slice none 0 0)] h_1) fun sum14 h_2 =>
    OH (oStore 2 h_2 sum14 x106) fun _ h_3 =>
    LoopP [(.int .i64 (0))] h_3 fun L1 xs hx =>
    p28z51 P K n2 x6 l7 ends8 sum14 L1 xs hx)) := (CutP_def _ _ _ _).trans (by kernel_rfl)
def T28 (P : Program) (K : Value → Heap → Prop) (k0 pairs1 n2 : Value) (h : Heap) : Prop :=
  OH (iAlloc 46 [(.bool false), (.slice none 0 0)] h) fun x6 h_1 =>
  CallP P 71 [k0, pairs1] h_1 fun x18 h_2 =>
  OH (iMkSl 118 0 [(.slice none 0 0)] h_2 []) fun x19 h_3 =>
  LoopP [x19, (.int .i64 (0))] h_3 fun L1 xs hx =>
  p28z7 P K pairs1 n2 x6 x18 L1 xs hx
theorem e28 (P : Program) (K : Value → Heap → Prop) (k0 pairs1 n2 : Value) (h : Heap) : iwpP P c28 (bodyP [.cell true 2 6] K) (frame0 [k0, pairs1, n2]) h = T28 P K k0 pairs1 n2 h := by kernel_rfl
theorem f28 {K : Value → Heap → Prop} {k0 pairs1 n2 : Value} {h : Heap} (H : T28 Try.prog K k0 pairs1 n2 h) : CallP Try.prog 28 [k0, pairs1, n2] h K :=
  callP_intro k28 (Nat.le_of_ble_eq_true rfl) ((e28 Try.prog K k0 pairs1 n2 h).mpr H)
/-! F71: pommel/pommelref03.sets -/
noncomputable def c71z30 : ICode := .ops none [⟨(some 46), .p (.pick (.tmp 36) (.tmp 45) (.const (.bool false)))⟩,
   ⟨(some 9), .p (.mv (.tmp 46))⟩]
noncomputable def c71z28 : ICode := .seq (.ops (some (36, true)) [⟨(some 37), .p (.mv (.tmp 1))⟩,
    ⟨(some 38), .p (.mv (.tmp 5))⟩,
    ⟨(some 39), .p (.mv (.tmp 7))⟩,
    ⟨(some 40), .p (.adrSl 1 (.tmp 38) (.tmp 39))⟩,
    ⟨(some 41), .l (.load false 1 (.tmp 40))⟩,
    ⟨(some 42), .p (.mv (.tmp 10))⟩,
    ⟨(some 43), .p (.idxS (.tmp 41) (.tmp 42))⟩,
    ⟨(some 44), .p (.mv (.tmp 6))⟩,
    ⟨(some 45), .call 33 [(.tmp 37), (.tmp 43), (.tmp 44)]⟩])
 (.cut [0, 1, 5, 6, 7, 8, 10, 36, 45] c71z30)
noncomputable def c71z25 : ICode := .ops none [⟨(some 33), .p (.mv (.tmp 10))⟩,
   ⟨(some 34), .p (.bin .add (.tmp 33) (.const (.int .i64 (1))))⟩,
   ⟨(some 10), .p (.mv (.tmp 34))⟩]
noncomputable def c71z22 : ICode := .seq (.seq (.ops none [⟨(some 26), .p (.mv (.tmp 10))⟩,
     ⟨(some 27), .p (.mv (.tmp 5))⟩,
     ⟨(some 28), .p (.mv (.tmp 7))⟩,
     ⟨(some 29), .p (.adrSl 1 (.tmp 27) (.tmp 28))⟩,
     ⟨(some 30), .l (.load false 1 (.tmp 29))⟩,
     ⟨(some 31), .p (.lenS (.tmp 30))⟩,
     ⟨(some 32), .p (.bin .lss (.tmp 26) (.tmp 31))⟩])
  (.cond (.tmp 32) (.skip)
  (.exit 4)))
 (.seq (.block 5 (.seq (.ops none [⟨(some 35), .p (.mv (.tmp 9))⟩,
      ⟨(some 36), .p (.mv (.tmp 35))⟩])
   (.cut [0, 1, 5, 6, 7, 8, 10, 36] c71z28))) c71z25)
noncomputable def c71z31 : ICode := .seq (.ops none [⟨(some 47), .p (.mv (.tmp 9))⟩])
 (.cond (.tmp 47) (.dops [(none, [⟨(some 48), .p (.mv (.tmp 5)), 0⟩,
    ⟨(some 49), .p (.mv (.tmp 5)), 0⟩,
    ⟨(some 50), .p (.mv (.tmp 7)), 0⟩,
    ⟨(some 51), .p (.adrSl 1 (.tmp 49) (.tmp 50)), 6⟩,
    ⟨(some 52), .l (.load false 1 (.tmp 51)), 14⟩,
    ⟨(some 53), .p (.mv (.tmp 6)), 0⟩,
    ⟨(some 54), .e (.mkSl 5 1 [(.int .u8 (0))] [(0, 1, (.tmp 53))]), 32⟩,
    ⟨(some 55), .l (.b2s (.tmp 54)), 96⟩,
    ⟨(some 56), .p (.bin .add (.tmp 52) (.tmp 55)), 254⟩,
    ⟨(some 57), .e (.mkSl 9 1 [(.string ⟨#[]⟩)] [(0, 1, (.tmp 56))]), 510⟩,
    ⟨(some 58), .e (.app 9 1 16 (.tmp 48) (.tmp 57)), 1023⟩,
    ⟨(some 5), .p (.mv (.tmp 58)), 2047⟩])])
 (.skip))
noncomputable def c71z19 : ICode := .cut [0, 1, 5, 6, 7, 8, 9] c71z31
noncomputable def c71z33 : ICode := .ops none [⟨(some 24), .p (.mv (.tmp 7))⟩,
   ⟨(some 25), .p (.bin .add (.tmp 24) (.const (.int .i64 (1))))⟩,
   ⟨(some 7), .p (.mv (.tmp 25))⟩]
noncomputable def c71z16 : ICode := .cut [0, 1, 5, 6, 7, 8] c71z33
noncomputable def c71z13 : ICode := .seq (.seq (.ops none [⟨(some 21), .p (.mv (.tmp 7))⟩,
     ⟨(some 22), .p (.mv (.tmp 8))⟩,
     ⟨(some 23), .p (.bin .lss (.tmp 21) (.tmp 22))⟩])
  (.cond (.tmp 23) (.skip)
  (.exit 2)))
 (.seq (.block 3 (.seq (.ops none [⟨(some 9), .p (.mv (.const (.bool true)))⟩])
   (.seq (.seq (.ops none [⟨(some 10), .p (.mv (.const (.int .i64 (0))))⟩])
    (.block 4 (.loop [0, 1, 5, 6, 7, 8] [9, 10] c71z22))) c71z19))) c71z16)
noncomputable def c71z34 : ICode := .ops none [⟨(some 17), .p (.mv (.tmp 6))⟩,
   ⟨(some 18), .p (.bin .add (.tmp 17) (.const (.int .u8 (1))))⟩,
   ⟨(some 6), .p (.mv (.tmp 18))⟩]
noncomputable def c71z9 : ICode := .cut [0, 1, 5, 6] c71z34
noncomputable def c71z6 : ICode := .seq (.seq (.ops none [⟨(some 12), .p (.mv (.tmp 6))⟩,
     ⟨(some 13), .p (.bin .sub (.tmp 12) (.const (.int .u8 (97))))⟩,
     ⟨(some 14), .p (.conv .i64 (.tmp 13))⟩,
     ⟨(some 15), .p (.mv (.tmp 0))⟩,
     ⟨(some 16), .p (.bin .lss (.tmp 14) (.tmp 15))⟩])
  (.cond (.tmp 16) (.skip)
  (.exit 0)))
 (.seq (.block 1 (.seq (.ops none [⟨(some 19), .p (.mv (.tmp 5))⟩,
      ⟨(some 20), .p (.lenSl (.tmp 19))⟩,
      ⟨(some 7), .p (.mv (.const (.int .i64 (0))))⟩,
      ⟨(some 8), .p (.mv (.tmp 20))⟩])
   (.block 2 (.loop [0, 1, 6, 8] [5, 7] c71z13)))) c71z9)
noncomputable def c71z35 : ICode := .seq (.ops none [⟨(some 59), .p (.mv (.tmp 5))⟩,
    ⟨(some 4), .p (.mv (.tmp 59))⟩])
 (.ret)
noncomputable def c71z3 : ICode := .cut [5] c71z35
noncomputable def c71 : ICode := .seq (.ops none [⟨(some 4), .p (.mv (.const (.slice none 0 0)))⟩])
 (.seq (.ops none [⟨(some 11), .e (.mkSl 9 1 [(.string ⟨#[]⟩)] [(0, 1, (.const (.string ⟨#[]⟩)))])⟩,
    ⟨(some 5), .p (.mv (.tmp 11))⟩])
 (.seq (.seq (.ops none [⟨(some 6), .p (.mv (.const (.int .u8 (97))))⟩])
  (.block 0 (.loop [0, 1] [5, 6] c71z6))) c71z3))
theorem k71 : compFn Try.prog 71 [[], [], [], [0, 1], [5, 6], [], [], [], [0, 1, 6, 8], [5, 7], [], [], [], [], [0, 1, 5, 6, 7, 8], [9, 10], [], [], [0, 1, 5, 6, 7, 8, 10, 36], [0, 1, 5, 6, 7, 8, 10, 36, 45], [], [0, 1, 5, 6, 7, 8, 9], [], [0, 1, 5, 6, 7, 8], [0, 1, 5, 6], [5], []] = some (60, c71, [.tmp 4]) := by kernel_rfl
def K71z0 (_P : Program) (K : Value → Heap → Prop) : Exit → (Nat → Value) → Heap → Prop := bodyP [.tmp 4] K
def K71z3 (P : Program) (K : Value → Heap → Prop) : Exit → (Nat → Value) → Heap → Prop := thenK (iwpP P c71z3 (K71z0 P K)) (K71z0 P K)
def K71z5 (P : Program) (K : Value → Heap → Prop) : Exit → (Nat → Value) → Heap → Prop := inBlockK 0 (K71z3 P K)
def K71z6 (P : Program) (K : Value → Heap → Prop) (k0 pairs1 : Value) (L1 : List Value → Heap → Prop) : Exit → (Nat → Value) → Heap → Prop := thenK (fun f' h'' => (([0, 1] : List Nat).map f' : List Value) = [k0, pairs1] ∧ L1 (([5, 6] : List Nat).map f') h'') (K71z5 P K)
def K71z9 (P : Program) (K : Value → Heap → Prop) (k0 pairs1 : Value) (L1 : List Value → Heap → Prop) : Exit → (Nat → Value) → Heap → Prop := thenK (iwpP P c71z9 (K71z6 P K k0 pairs1 L1)) (K71z6 P K k0 pairs1 L1)
def K71z10 (P : Program) (K : Value → Heap → Prop) (k0 pairs1 : Value) (L1 : List Value → Heap → Prop) : Exit → (Nat → Value) → Heap → Prop := inBlockK 1 (K71z9 P K k0 pairs1 L1)
def K71z12 (P : Program) (K : Value → Heap → Prop) (k0 pairs1 : Value) (L1 : List Value → Heap → Prop) : Exit → (Nat → Value) → Heap → Prop := inBlockK 2 (K71z10 P K k0 pairs1 L1)
def K71z13 (P : Program) (K : Value → Heap → Prop) (k0 pairs1 x6 n8 : Value) (L1 L2 : List Value → Heap → Prop) : Exit → (Nat → Value) → Heap → Prop := thenK (fun f' h'' => (([0, 1, 6, 8] : List Nat).map f' : List Value) = [k0, pairs1, x6, n8] ∧ L2 (([5, 7] : List Nat).map f') h'') (K71z12 P K k0 pairs1 L1)
def K71z16 (P : Program) (K : Value → Heap → Prop) (k0 pairs1 x6 n8 : Value) (L1 L2 : List Value → Heap → Prop) : Exit → (Nat → Value) → Heap → Prop := thenK (iwpP P c71z16 (K71z13 P K k0 pairs1 x6 n8 L1 L2)) (K71z13 P K k0 pairs1 x6 n8 L1 L2)
def K71z17 (P : Program) (K : Value → Heap → Prop) (k0 pairs1 x6 n8 : Value) (L1 L2 : List Value → Heap → Prop) : Exit → (Nat → Value) → Heap → Prop := inBlockK 3 (K71z16 P K k0 pairs1 x6 n8 L1 L2)
def K71z19 (P : Program) (K : Value → Heap → Prop) (k0 pairs1 x6 n8 : Value) (L1 L2 : List Value → Heap → Prop) : Exit → (Nat → Value) → Heap → Prop := thenK (iwpP P c71z19 (K71z17 P K k0 pairs1 x6 n8 L1 L2)) (K71z17 P K k0 pairs1 x6 n8 L1 L2)
def K71z21 (P : Program) (K : Value → Heap → Prop) (k0 pairs1 x6 n8 : Value) (L1 L2 : List Value → Heap → Prop) : Exit → (Nat → Value) → Heap → Prop := inBlockK 4 (K71z19 P K k0 pairs1 x6 n8 L1 L2)
def K71z22 (P : Program) (K : Value → Heap → Prop) (k0 pairs1 out5 x6 i7 n8 : Value) (L1 L2 L3 : List Value → Heap → Prop) : Exit → (Nat → Value) → Heap → Prop := thenK (fun f' h'' => (([0, 1, 5, 6, 7, 8] : List Nat).map f' : List Value) = [k0, pairs1, out5, x6, i7, n8] ∧ L3 (([9, 10] : List Nat).map f') h'') (K71z21 P K k0 pairs1 x6 n8 L1 L2)
def K71z25 (P : Program) (K : Value → Heap → Prop) (k0 pairs1 out5 x6 i7 n8 : Value) (L1 L2 L3 : List Value → Heap → Prop) : Exit → (Nat → Value) → Heap → Prop := thenK (iwpP P c71z25 (K71z22 P K k0 pairs1 out5 x6 i7 n8 L1 L2 L3)) (K71z22 P K k0 pairs1 out5 x6 i7 n8 L1 L2 L3)
def K71z26 (P : Program) (K : Value → Heap → Prop) (k0 pairs1 out5 x6 i7 n8 : Value) (L1 L2 L3 : List Value → Heap → Prop) : Exit → (Nat → Value) → Heap → Prop := inBlockK 5 (K71z25 P K k0 pairs1 out5 x6 i7 n8 L1 L2 L3)
def p71z6 (P : Program) (K : Value → Heap → Prop) (k0 pairs1 : Value) (L1 : List Value → Heap → Prop) (xs : List Value) (h : Heap) : Prop := CutP (iwpP P c71z6 (K71z6 P K k0 pairs1 L1)) ([0, 1] ++ [5, 6]) ([k0, pairs1] ++ xs) h
def p71z13 (P : Program) (K : Value → Heap → Prop) (k0 pairs1 x6 n8 : Value) (L1 L2 : List Value → Heap → Prop) (xs : List Value) (h : Heap) : Prop := CutP (iwpP P c71z13 (K71z13 P K k0 pairs1 x6 n8 L1 L2)) ([0, 1, 6, 8] ++ [5, 7]) ([k0, pairs1, x6, n8] ++ xs) h
def p71z22 (P : Program) (K : Value → Heap → Prop) (k0 pairs1 out5 x6 i7 n8 : Value) (L1 L2 L3 : List Value → Heap → Prop) (xs : List Value) (h : Heap) : Prop := CutP (iwpP P c71z22 (K71z22 P K k0 pairs1 out5 x6 i7 n8 L1 L2 L3)) ([0, 1, 5, 6, 7, 8] ++ [9, 10]) ([k0, pairs1, out5, x6, i7, n8] ++ xs) h
def p71z28 (P : Program) (K : Value → Heap → Prop) (k0 pairs1 out5 x6 i7 n8 j10 x36 : Value) (L1 L2 L3 : List Value → Heap → Prop) (h : Heap) : Prop := CutP (iwpP P c71z28 (K71z26 P K k0 pairs1 out5 x6 i7 n8 L1 L2 L3)) [0, 1, 5, 6, 7, 8, 10, 36] [k0, pairs1, out5, x6, i7, n8, j10, x36] h
def p71z30 (P : Program) (K : Value → Heap → Prop) (k0 pairs1 out5 x6 i7 n8 j10 x36 x45 : Value) (L1 L2 L3 : List Value → Heap → Prop) (h : Heap) : Prop := CutP (iwpP P c71z30 (K71z26 P K k0 pairs1 out5 x6 i7 n8 L1 L2 L3)) [0, 1, 5, 6, 7, 8, 10, 36, 45] [k0, pairs1, out5, x6, i7, n8, j10, x36, x45] h
def p71z31 (P : Program) (K : Value → Heap → Prop) (k0 pairs1 out5 x6 i7 n8 ok9 : Value) (L1 L2 : List Value → Heap → Prop) (h : Heap) : Prop := CutP (iwpP P c71z31 (K71z17 P K k0 pairs1 x6 n8 L1 L2)) [0, 1, 5, 6, 7, 8, 9] [k0, pairs1, out5, x6, i7, n8, ok9] h
def p71z33 (P : Program) (K : Value → Heap → Prop) (k0 pairs1 out5 x6 i7 n8 : Value) (L1 L2 : List Value → Heap → Prop) (h : Heap) : Prop := CutP (iwpP P c71z33 (K71z13 P K k0 pairs1 x6 n8 L1 L2)) [0, 1, 5, 6, 7, 8] [k0, pairs1, out5, x6, i7, n8] h
def p71z34 (P : Program) (K : Value → Heap → Prop) (k0 pairs1 out5 x6 : Value) (L1 : List Value → Heap → Prop) (h : Heap) : Prop := CutP (iwpP P c71z34 (K71z6 P K k0 pairs1 L1)) [0, 1, 5, 6] [k0, pairs1, out5, x6] h
def p71z35 (P : Program) (K : Value → Heap → Prop) (out5 : Value) (h : Heap) : Prop := CutP (iwpP P c71z35 (K71z0 P K)) [5] [out5] h
theorem q71z30 (P : Program) (K : Value → Heap → Prop) (k0 pairs1 out5 x6 i7 n8 j10 x36 x45 : Value) (L1 L2 L3 : List Value → Heap → Prop) (h : Heap) : p71z30 P K k0 pairs1 out5 x6 i7 n8 j10 x36 x45 L1 L2 L3 h =
  (OP (iPick x36 x45 (.bool false)) fun x46 =>
  OP (iBin .add j10 (.int .i64 (1))) fun x34 =>
  ([k0, pairs1, out5, x6, i7, n8] : List Value) = [k0, pairs1, out5, x6, i7, n8] ∧ L3 [x46, x34] h) := (CutP_def _ _ _ _).trans (by kernel_rfl)
theorem q71z28 (P : Program) (K : Value → Heap → Prop) (k0 pairs1 out5 x6 i7 n8 j10 x36 : Value) (L1 L2 L3 : List Value → Heap → Prop) (h : Heap) : p71z28 P K k0 pairs1 out5 x6 i7 n8 j10 x36 L1 L2 L3 h =
  (GdP x36 true
    (OP (iAdrSl 1 out5 i7) fun x40 =>
    OP (iLoad false 1 h x40) fun x41 =>
    OP (iIdxS x41 j10) fun x43 =>
    CallP P 33 [pairs1, x43, x6] h fun x45 h_1 =>
    p71z30 P K k0 pairs1 out5 x6 i7 n8 j10 x36 x45 L1 L2 L3 h_1)
    (p71z30 P K k0 pairs1 out5 x6 i7 n8 j10 x36 undef L1 L2 L3 h)) := (CutP_def _ _ _ _).trans (by kernel_rfl)
theorem q71z22 (P : Program) (K : Value → Heap → Prop) (k0 pairs1 out5 x6 i7 n8 : Value) (L1 L2 L3 : List Value → Heap → Prop) (ok9 j10 : Value) (h : Heap) : p71z22 P K k0 pairs1 out5 x6 i7 n8 L1 L2 L3 [ok9, j10] h =
  (OP (iAdrSl 1 out5 i7) fun x29 =>
  OP (iLoad false 1 h x29) fun x30 =>
  OP (iLenS x30) fun x31 =>
  OP (iBin .lss j10 x31) fun x32 =>
  IfP x32
    (p71z28 P K k0 pairs1 out5 x6 i7 n8 j10 ok9 L1 L2 L3 h)
    (p71z31 P K k0 pairs1 out5 x6 i7 n8 ok9 L1 L2 h)) := (CutP_def _ _ _ _).trans (by kernel_rfl)
theorem q71z31 (P : Program) (K : Value → Heap → Prop) (k0 pairs1 out5 x6 i7 n8 ok9 : Value) (L1 L2 : List Value → Heap → Prop) (h : Heap) : p71z31 P K k0 pairs1 out5 x6 i7 n8 ok9 L1 L2 h =
  (IfP ok9
    (OP (iAdrSl 1 out5 i7) fun x51 =>
    OP (iLoad false 1 h x51) fun x52 =>
    (True) ∧
    OH (iMkSl 5 1 [(.int .u8 (0))] h [(0, 1, x6)]) fun x54 h_1 =>
    (iLoad false 1 h_1 x51 = some x52 ∧ True) ∧
    OP (iB2s h_1 x54) fun x55 =>
    (True) ∧
    OP (iBin .add x52 x55) fun x56 =>
    OH (iMkSl 9 1 [(.string ⟨#[]⟩)] h_1 [(0, 1, x56)]) fun x57 h_2 =>
    (True) ∧
    OH (iApp 9 1 16 h_2 out5 x57) fun x58 h_3 =>
    (True) ∧
    p71z33 P K k0 pairs1 x58 x6 i7 n8 L1 L2 h_3)
    (p71z33 P K k0 pairs1 out5 x6 i7 n8 L1 L2 h)) := (CutP_def _ _ _ _).trans (by kernel_rfl)
theorem q71z33 (P : Program) (K : Value → Heap → Prop) (k0 pairs1 out5 x6 i7 n8 : Value) (L1 L2 : List Value → Heap → Prop) (h : Heap) : p71z33 P K k0 pairs1 out5 x6 i7 n8 L1 L2 h =
  (OP (iBin .add i7 (.int .i64 (1))) fun x25 =>
  ([k0, pairs1, x6, n8] : List Value) = [k0, pairs1, x6, n8] ∧ L2 [out5, x25] h) := (CutP_def _ _ _ _).trans (by kernel_rfl)
theorem q71z13 (P : Program) (K : Value → Heap → Prop) (k0 pairs1 x6 n8 : Value) (L1 L2 : List Value → Heap → Prop) (out5 i7 : Value) (h : Heap) : p71z13 P K k0 pairs1 x6 n8 L1 L2 [out5, i7] h =
  (OP (iBin .lss i7 n8) fun x23 =>
  IfP x23
    (LoopP [(.bool true), (.int .i64 (0))] h fun L3 xs hx =>
    p71z22 P K k0 pairs1 out5 x6 i7 n8 L1 L2 L3 xs hx)
    (p71z34 P K k0 pairs1 out5 x6 L1 h)) := (CutP_def _ _ _ _).trans (by kernel_rfl)
theorem q71z34 (P : Program) (K : Value → Heap → Prop) (k0 pairs1 out5 x6 : Value) (L1 : List Value → Heap → Prop) (h : Heap) : p71z34 P K k0 pairs1 out5 x6 L1 h =
  (OP (iBin .add x6 (.int .u8 (1))) fun x18 =>
  ([k0, pairs1] : List Value) = [k0, pairs1] ∧ L1 [out5, x18] h) := (CutP_def _ _ _ _).trans (by kernel_rfl)
theorem q71z6 (P : Program) (K : Value → Heap → Prop) (k0 pairs1 : Value) (L1 : List Value → Heap → Prop) (out5 x6 : Value) (h : Heap) : p71z6 P K k0 pairs1 L1 [out5, x6] h =
  (OP (iBin .sub x6 (.int .u8 (97))) fun x13 =>
  OP (iConv .i64 x13) fun x14 =>
  OP (iBin .lss x14 k0) fun x16 =>
  IfP x16
    (OP (iLenSl out5) fun x20 =>
    LoopP [out5, (.int .i64 (0))] h fun L2 xs hx =>
    p71z13 P K k0 pairs1 x6 x20 L1 L2 xs hx)
    (p71z35 P K out5 h)) := (CutP_def _ _ _ _).trans (by kernel_rfl)
theorem q71z35 (P : Program) (K : Value → Heap → Prop) (out5 : Value) (h : Heap) : p71z35 P K out5 h =
  (K out5 h) := (CutP_def _ _ _ _).trans (by kernel_rfl)
def T71 (P : Program) (K : Value → Heap → Prop) (k0 pairs1 : Value) (h : Heap) : Prop :=
  OH (iMkSl 9 1 [(.string ⟨#[]⟩)] h [(0, 1, (.string ⟨#[]⟩))]) fun x11 h_1 =>
  LoopP [x11, (.int .u8 (97))] h_1 fun L1 xs hx =>
  p71z6 P K k0 pairs1 L1 xs hx
theorem e71 (P : Program) (K : Value → Heap → Prop) (k0 pairs1 : Value) (h : Heap) : iwpP P c71 (bodyP [.tmp 4] K) (frame0 [k0, pairs1]) h = T71 P K k0 pairs1 h := by kernel_rfl
theorem f71 {K : Value → Heap → Prop} {k0 pairs1 : Value} {h : Heap} (H : T71 Try.prog K k0 pairs1 h) : CallP Try.prog 71 [k0, pairs1] h K :=
  callP_intro k71 (Nat.le_of_ble_eq_true rfl) ((e71 Try.prog K k0 pairs1 h).mpr H)
/-! F73: pommel/pommelref03.follows -/
noncomputable def c73z14 : ICode := .seq (.seq (.ops none [⟨(some 16), .p (.mv (.tmp 9))⟩,
     ⟨(some 17), .p (.mv (.tmp 1))⟩,
     ⟨(some 18), .p (.lenS (.tmp 17))⟩,
     ⟨(some 19), .p (.bin .lss (.tmp 16) (.tmp 18))⟩])
  (.cond (.tmp 19) (.skip)
  (.exit 2)))
 (.seq (.block 3 (.dops [(none, [⟨(some 22), .p (.mv (.tmp 8)), 0⟩,
     ⟨(some 23), .p (.mv (.tmp 22)), 1⟩]),
    ((some (23, false)), [⟨(some 24), .p (.mv (.tmp 0)), 3⟩,
     ⟨(some 25), .p (.mv (.tmp 1)), 3⟩,
     ⟨(some 26), .p (.mv (.tmp 9)), 3⟩,
     ⟨(some 27), .p (.idxS (.tmp 25) (.tmp 26)), 27⟩,
     ⟨(some 28), .p (.mv (.tmp 2)), 3⟩,
     ⟨(some 29), .p (.mv (.tmp 7)), 3⟩,
     ⟨(some 30), .p (.idxS (.tmp 28) (.tmp 29)), 195⟩,
     ⟨(some 31), .call 33 [(.tmp 24), (.tmp 27), (.tmp 30)], 511⟩,
     ⟨(some 32), .p (.un .not (.tmp 31)), 1023⟩]),
    (none, [⟨(some 33), .p (.pick (.tmp 23) (.const (.bool true)) (.tmp 32)), 2047⟩,
     ⟨(some 8), .p (.mv (.tmp 33)), 4095⟩])]))
 (.ops none [⟨(some 20), .p (.mv (.tmp 9))⟩,
   ⟨(some 21), .p (.bin .add (.tmp 20) (.const (.int .i64 (1))))⟩,
   ⟨(some 9), .p (.mv (.tmp 21))⟩]))
noncomputable def c73z19 : ICode := .seq (.ops none [⟨(some 34), .p (.mv (.tmp 8))⟩,
    ⟨(some 35), .p (.un .not (.tmp 34))⟩])
 (.cond (.tmp 35) (.seq (.ops none [⟨(some 6), .p (.mv (.const (.bool false)))⟩])
  (.ret))
 (.skip))
noncomputable def c73z11 : ICode := .cut [0, 1, 2, 7, 8] c73z19
noncomputable def c73z22 : ICode := .ops none [⟨(some 14), .p (.mv (.tmp 7))⟩,
   ⟨(some 15), .p (.bin .add (.tmp 14) (.const (.int .i64 (1))))⟩,
   ⟨(some 7), .p (.mv (.tmp 15))⟩]
noncomputable def c73z8 : ICode := .cut [0, 1, 2, 7] c73z22
noncomputable def c73z5 : ICode := .seq (.seq (.ops none [⟨(some 10), .p (.mv (.tmp 7))⟩,
     ⟨(some 11), .p (.mv (.tmp 2))⟩,
     ⟨(some 12), .p (.lenS (.tmp 11))⟩,
     ⟨(some 13), .p (.bin .lss (.tmp 10) (.tmp 12))⟩])
  (.cond (.tmp 13) (.skip)
  (.exit 0)))
 (.seq (.block 1 (.seq (.ops none [⟨(some 8), .p (.mv (.const (.bool false)))⟩])
   (.seq (.seq (.ops none [⟨(some 9), .p (.mv (.const (.int .i64 (0))))⟩])
    (.block 2 (.loop [0, 1, 2, 7] [8, 9] c73z14))) c73z11))) c73z8)
noncomputable def c73z2 : ICode := .seq (.ops none [⟨(some 6), .p (.mv (.const (.bool true)))⟩])
 (.ret)
noncomputable def c73 : ICode := .seq (.ops none [⟨(some 6), .p (.mv (.const (.bool false)))⟩])
 (.seq (.seq (.ops none [⟨(some 7), .p (.mv (.const (.int .i64 (0))))⟩])
  (.block 0 (.loop [0, 1, 2] [7] c73z5))) c73z2)
theorem k73 : compFn Try.prog 73 [[], [], [0, 1, 2], [7], [], [], [], [], [0, 1, 2, 7], [8, 9], [], [], [], [0, 1, 2, 7, 8], [], [], [0, 1, 2, 7], [], []] = some (36, c73, [.tmp 6]) := by kernel_rfl
def K73z0 (_P : Program) (K : Value → Heap → Prop) : Exit → (Nat → Value) → Heap → Prop := bodyP [.tmp 6] K
def K73z2 (P : Program) (K : Value → Heap → Prop) : Exit → (Nat → Value) → Heap → Prop := thenK (iwpP P c73z2 (K73z0 P K)) (K73z0 P K)
def K73z4 (P : Program) (K : Value → Heap → Prop) : Exit → (Nat → Value) → Heap → Prop := inBlockK 0 (K73z2 P K)
def K73z5 (P : Program) (K : Value → Heap → Prop) (pairs0 step1 next2 : Value) (L1 : List Value → Heap → Prop) : Exit → (Nat → Value) → Heap → Prop := thenK (fun f' h'' => (([0, 1, 2] : List Nat).map f' : List Value) = [pairs0, step1, next2] ∧ L1 (([7] : List Nat).map f') h'') (K73z4 P K)
def K73z8 (P : Program) (K : Value → Heap → Prop) (pairs0 step1 next2 : Value) (L1 : List Value → Heap → Prop) : Exit → (Nat → Value) → Heap → Prop := thenK (iwpP P c73z8 (K73z5 P K pairs0 step1 next2 L1)) (K73z5 P K pairs0 step1 next2 L1)
def K73z9 (P : Program) (K : Value → Heap → Prop) (pairs0 step1 next2 : Value) (L1 : List Value → Heap → Prop) : Exit → (Nat → Value) → Heap → Prop := inBlockK 1 (K73z8 P K pairs0 step1 next2 L1)
def K73z11 (P : Program) (K : Value → Heap → Prop) (pairs0 step1 next2 : Value) (L1 : List Value → Heap → Prop) : Exit → (Nat → Value) → Heap → Prop := thenK (iwpP P c73z11 (K73z9 P K pairs0 step1 next2 L1)) (K73z9 P K pairs0 step1 next2 L1)
def K73z13 (P : Program) (K : Value → Heap → Prop) (pairs0 step1 next2 : Value) (L1 : List Value → Heap → Prop) : Exit → (Nat → Value) → Heap → Prop := inBlockK 2 (K73z11 P K pairs0 step1 next2 L1)
def K73z14 (P : Program) (K : Value → Heap → Prop) (pairs0 step1 next2 j7 : Value) (L1 L2 : List Value → Heap → Prop) : Exit → (Nat → Value) → Heap → Prop := thenK (fun f' h'' => (([0, 1, 2, 7] : List Nat).map f' : List Value) = [pairs0, step1, next2, j7] ∧ L2 (([8, 9] : List Nat).map f') h'') (K73z13 P K pairs0 step1 next2 L1)
def p73z5 (P : Program) (K : Value → Heap → Prop) (pairs0 step1 next2 : Value) (L1 : List Value → Heap → Prop) (xs : List Value) (h : Heap) : Prop := CutP (iwpP P c73z5 (K73z5 P K pairs0 step1 next2 L1)) ([0, 1, 2] ++ [7]) ([pairs0, step1, next2] ++ xs) h
def p73z14 (P : Program) (K : Value → Heap → Prop) (pairs0 step1 next2 j7 : Value) (L1 L2 : List Value → Heap → Prop) (xs : List Value) (h : Heap) : Prop := CutP (iwpP P c73z14 (K73z14 P K pairs0 step1 next2 j7 L1 L2)) ([0, 1, 2, 7] ++ [8, 9]) ([pairs0, step1, next2, j7] ++ xs) h
def p73z19 (P : Program) (K : Value → Heap → Prop) (pairs0 step1 next2 j7 ok8 : Value) (L1 : List Value → Heap → Prop) (h : Heap) : Prop := CutP (iwpP P c73z19 (K73z9 P K pairs0 step1 next2 L1)) [0, 1, 2, 7, 8] [pairs0, step1, next2, j7, ok8] h
def p73z22 (P : Program) (K : Value → Heap → Prop) (pairs0 step1 next2 j7 : Value) (L1 : List Value → Heap → Prop) (h : Heap) : Prop := CutP (iwpP P c73z22 (K73z5 P K pairs0 step1 next2 L1)) [0, 1, 2, 7] [pairs0, step1, next2, j7] h
theorem q73z14 (P : Program) (K : Value → Heap → Prop) (pairs0 step1 next2 j7 : Value) (L1 L2 : List Value → Heap → Prop) (ok8 i9 : Value) (h : Heap) : p73z14 P K pairs0 step1 next2 j7 L1 L2 [ok8, i9] h =
  (OP (iLenS step1) fun x18 =>
  OP (iBin .lss i9 x18) fun x19 =>
  IfP x19
    (GdP ok8 false
      (OP (iIdxS step1 i9) fun x27 =>
      OP (iIdxS next2 j7) fun x30 =>
      CallP P 33 [pairs0, x27, x30] h fun x31 h_1 =>
      (True) ∧
      OP (iUn .not x31) fun x32 =>
      OP (iPick ok8 (.bool true) x32) fun x33 =>
      OP (iBin .add i9 (.int .i64 (1))) fun x21 =>
      ([pairs0, step1, next2, j7] : List Value) = [pairs0, step1, next2, j7] ∧ L2 [x33, x21] h_1)
      ((True) ∧
      OP (iPick ok8 (.bool true) undef) fun x33 =>
      OP (iBin .add i9 (.int .i64 (1))) fun x21 =>
      ([pairs0, step1, next2, j7] : List Value) = [pairs0, step1, next2, j7] ∧ L2 [x33, x21] h))
    (p73z19 P K pairs0 step1 next2 j7 ok8 L1 h)) := (CutP_def _ _ _ _).trans (by kernel_rfl)
theorem q73z19 (P : Program) (K : Value → Heap → Prop) (pairs0 step1 next2 j7 ok8 : Value) (L1 : List Value → Heap → Prop) (h : Heap) : p73z19 P K pairs0 step1 next2 j7 ok8 L1 h =
  (OP (iUn .not ok8) fun x35 =>
  IfP x35
    (K (.bool false) h)
    (p73z22 P K pairs0 step1 next2 j7 L1 h)) := (CutP_def _ _ _ _).trans (by kernel_rfl)
theorem q73z22 (P : Program) (K : Value → Heap → Prop) (pairs0 step1 next2 j7 : Value) (L1 : List Value → Heap → Prop) (h : Heap) : p73z22 P K pairs0 step1 next2 j7 L1 h =
  (OP (iBin .add j7 (.int .i64 (1))) fun x15 =>
  ([pairs0, step1, next2] : List Value) = [pairs0, step1, next2] ∧ L1 [x15] h) := (CutP_def _ _ _ _).trans (by kernel_rfl)
theorem q73z5 (P : Program) (K : Value → Heap → Prop) (pairs0 step1 next2 : Value) (L1 : List Value → Heap → Prop) (j7 : Value) (h : Heap) : p73z5 P K pairs0 step1 next2 L1 [j7] h =
  (OP (iLenS next2) fun x12 =>
  OP (iBin .lss j7 x12) fun x13 =>
  IfP x13
    (LoopP [(.bool false), (.int .i64 (0))] h fun L2 xs hx =>
    p73z14 P K pairs0 step1 next2 j7 L1 L2 xs hx)
    (K (.bool true) h)) := (CutP_def _ _ _ _).trans (by kernel_rfl)
def T73 (P : Program) (K : Value → Heap → Prop) (pairs0 step1 next2 : Value) (h : Heap) : Prop :=
  LoopP [(.int .i64 (0))] h fun L1 xs hx =>
  p73z5 P K pairs0 step1 next2 L1 xs hx
theorem e73 (P : Program) (K : Value → Heap → Prop) (pairs0 step1 next2 : Value) (h : Heap) : iwpP P c73 (bodyP [.tmp 6] K) (frame0 [pairs0, step1, next2]) h = T73 P K pairs0 step1 next2 h := by kernel_rfl
theorem f73 {K : Value → Heap → Prop} {pairs0 step1 next2 : Value} {h : Heap} (H : T73 Try.prog K pairs0 step1 next2 h) : CallP Try.prog 73 [pairs0, step1, next2] h K :=
  callP_intro k73 (Nat.le_of_ble_eq_true rfl) ((e73 Try.prog K pairs0 step1 next2 h).mpr H)
end Go.Proofs.Ytjdlcokhlphmhaa
