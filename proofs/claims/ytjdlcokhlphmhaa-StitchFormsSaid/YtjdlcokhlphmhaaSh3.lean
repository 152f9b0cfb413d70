/-
  Ideal code of the functions that the proof reaches, written by program; the kernel holds it against the code.
-/
import Derived.Test.YtjdlcokhlphmhaaProg
import Derived.Test.YtjdlcokhlphmhaaSim20
import Derived.KernelRfl
namespace Go.Proofs.Ytjdlcokhlphmhaa
open Go.Sim
/-! F9: pommel/pommellaw03.StitchMeets -/
def c9z25 : ICode := .ops none [⟨(some 69), .p (.pick (.tmp 67) (.tmp 68) (.const (.bool false)))⟩,
   ⟨(some 6), .p (.mv (.tmp 69))⟩]
def c9z23 : ICode := .seq (.ops (some (67, true)) [⟨(some 68), .call 20 []⟩])
 (.cut [67, 68] c9z25)
def c9z21 : ICode := .seq (.ops none [⟨(some 66), .p (.pick (.tmp 62) (.tmp 65) (.const (.bool false)))⟩,
    ⟨(some 67), .p (.mv (.tmp 66))⟩])
 (.cut [67] c9z23)
def c9z19 : ICode := .seq (.ops (some (62, true)) [⟨(some 63), .p (.mv (.tmp 14))⟩,
    ⟨(some 64), .p (.mv (.tmp 15))⟩,
    ⟨(some 65), .p (.bin .eql (.tmp 63) (.tmp 64))⟩])
 (.cut [62, 65] c9z21)
def c9z17 : ICode := .seq (.ops none [⟨(some 61), .p (.pick (.tmp 58) (.tmp 60) (.const (.bool false)))⟩,
    ⟨(some 62), .p (.mv (.tmp 61))⟩])
 (.cut [14, 15, 62] c9z19)
def c9z15 : ICode := .seq (.ops (some (58, true)) [⟨(some 59), .p (.mv (.tmp 13))⟩,
    ⟨(some 60), .p (.bin .eql (.tmp 59) (.const (.string ⟨#[]⟩)))⟩])
 (.cut [14, 15, 58, 60] c9z17)
def c9z13 : ICode := .seq (.ops none [⟨(some 57), .p (.pick (.tmp 53) (.tmp 56) (.const (.bool false)))⟩,
    ⟨(some 58), .p (.mv (.tmp 57))⟩])
 (.cut [13, 14, 15, 58] c9z15)
def c9z11 : ICode := .seq (.ops (some (53, true)) [⟨(some 54), .p (.mv (.tmp 12))⟩,
    ⟨(some 55), .p (.mv (.tmp 15))⟩,
    ⟨(some 56), .p (.bin .eql (.tmp 54) (.tmp 55))⟩])
 (.cut [13, 14, 15, 53, 56] c9z13)
def c9z9 : ICode := .ret
def c9z35 : ICode := .ops none [⟨(some 83), .p (.pick (.tmp 80) (.const (.bool true)) (.tmp 82))⟩]
def c9z33 : ICode := .seq (.ops (some (80, false)) [⟨(some 81), .call 20 []⟩,
    ⟨(some 82), .p (.un .not (.tmp 81))⟩])
 (.cut [8, 9, 10, 13, 14, 80, 82] c9z35)
def c9z31 : ICode := .seq (.ops none [⟨(some 79), .p (.pick (.tmp 76) (.const (.bool true)) (.tmp 78))⟩,
    ⟨(some 80), .p (.mv (.tmp 79))⟩])
 (.cut [8, 9, 10, 13, 14, 80] c9z33)
def c9z29 : ICode := .seq (.ops (some (76, false)) [⟨(some 77), .p (.mv (.tmp 12))⟩,
    ⟨(some 78), .p (.bin .neq (.tmp 77) (.const (.int .i64 (0))))⟩])
 (.cut [8, 9, 10, 13, 14, 76, 78] c9z31)
def c9z27 : ICode := .cond (.tmp 83) (.seq (.ops none [⟨(some 6), .p (.mv (.const (.bool false)))⟩])
  (.ret))
 (.skip)
def c9z50 : ICode := .ops none [⟨(some 106), .p (.pick (.tmp 100) (.tmp 105) (.const (.bool false)))⟩,
   ⟨(some 6), .p (.mv (.tmp 106))⟩]
def c9z48 : ICode := .seq (.ops (some (100, true)) [⟨(some 105), .p (.pick (.tmp 102) (.const (.bool true)) (.tmp 104))⟩])
 (.cut [100, 105] c9z50)
def c9z46 : ICode := .seq (.ops (some (102, false)) [⟨(some 103), .p (.mv (.tmp 14))⟩,
    ⟨(some 104), .p (.bin .eql (.tmp 103) (.const (.int .i64 (5))))⟩])
 (.cut [100, 102, 104] c9z48)
def c9z44 : ICode := .seq (.ops (some (100, true)) [⟨(some 101), .p (.mv (.tmp 17))⟩,
    ⟨(some 102), .p (.mv (.tmp 101))⟩])
 (.cut [14, 100, 102] c9z46)
def c9z42 : ICode := .seq (.ops none [⟨(some 99), .p (.pick (.tmp 94) (.tmp 98) (.const (.bool false)))⟩,
    ⟨(some 100), .p (.mv (.tmp 99))⟩])
 (.cut [14, 17, 100] c9z44)
def c9z40 : ICode := .seq (.ops (some (94, true)) [⟨(some 95), .p (.mv (.tmp 14))⟩,
    ⟨(some 96), .p (.bin .eql (.tmp 95) (.const (.int .i64 (0))))⟩,
    ⟨(some 97), .p (.mv (.tmp 17))⟩,
    ⟨(some 98), .p (.eqb false (.tmp 96) (.tmp 97))⟩])
 (.cut [14, 17, 94, 98] c9z42)
def c9z38 : ICode := .ret
def c9z26 : ICode := .seq (.ops none [⟨(some 85), .p (.mv (.tmp 8))⟩,
    ⟨(some 86), .p (.mv (.tmp 9))⟩,
    ⟨(some 87), .p (.mv (.tmp 10))⟩,
    ⟨(some 88), .call 50 [(.tmp 85), (.tmp 86), (.tmp 87)]⟩,
    ⟨(some 84), .p (.mv (.tmp 88))⟩,
    ⟨(some 89), .p (.ext (.tmp 84) 0)⟩,
    ⟨(some 90), .p (.ext (.tmp 84) 1)⟩,
    ⟨(some 16), .p (.mv (.tmp 89))⟩,
    ⟨(some 17), .p (.mv (.tmp 90))⟩])
 (.seq (.seq (.ops none [⟨(some 91), .p (.mv (.tmp 13))⟩,
     ⟨(some 92), .p (.mv (.tmp 16))⟩,
     ⟨(some 93), .p (.bin .eql (.tmp 91) (.tmp 92))⟩,
     ⟨(some 94), .p (.mv (.tmp 93))⟩])
  (.cut [14, 17, 94] c9z40)) c9z38)
def c9z6 : ICode := .seq (.seq (.seq (.ops none [⟨(some 70), .p (.mv (.tmp 11))⟩,
      ⟨(some 71), .p (.mv (.tmp 8))⟩,
      ⟨(some 72), .p (.mv (.tmp 9))⟩,
      ⟨(some 73), .p (.mv (.tmp 10))⟩,
      ⟨(some 74), .call 49 [(.tmp 71), (.tmp 72), (.tmp 73)]⟩,
      ⟨(some 75), .p (.bin .neq (.tmp 70) (.tmp 74))⟩,
      ⟨(some 76), .p (.mv (.tmp 75))⟩])
   (.cut [8, 9, 10, 12, 13, 14, 76] c9z29)) c9z27) c9z26
def c9 : ICode := .seq (.ops none [⟨(some 3), .e (.box 24 (.tmp 0))⟩,
    ⟨(some 6), .p (.mv (.const (.bool false)))⟩])
 (.seq (.ops none [⟨(some 19), .l (.load true 2 (.tmp 3))⟩,
    ⟨(some 20), .call 16 [(.tmp 19)]⟩,
    ⟨(some 18), .p (.mv (.tmp 20))⟩,
    ⟨(some 21), .p (.ext (.tmp 18) 0)⟩,
    ⟨(some 22), .p (.ext (.tmp 18) 1)⟩,
    ⟨(some 7), .p (.mv (.tmp 21))⟩,
    ⟨(some 8), .p (.mv (.tmp 22))⟩])
 (.seq (.ops none [⟨(some 23), .p (.mv (.tmp 1))⟩,
    ⟨(some 24), .call 17 [(.tmp 23), (.const (.int .i64 (41)))]⟩,
    ⟨(some 25), .p (.mv (.tmp 2))⟩,
    ⟨(some 26), .call 17 [(.tmp 25), (.const (.int .i64 (41)))]⟩,
    ⟨(some 9), .p (.mv (.tmp 24))⟩,
    ⟨(some 10), .p (.mv (.tmp 26))⟩])
 (.seq (.ops none [⟨(some 28), .p (.mv (.tmp 7))⟩,
    ⟨(some 29), .p (.mv (.tmp 8))⟩,
    ⟨(some 30), .p (.mv (.tmp 9))⟩,
    ⟨(some 31), .p (.mv (.tmp 10))⟩,
    ⟨(some 32), .call 47 [(.tmp 28), (.tmp 29), (.tmp 30), (.tmp 31)]⟩,
    ⟨(some 27), .p (.mv (.tmp 32))⟩,
    ⟨(some 33), .p (.ext (.tmp 27) 0)⟩,
    ⟨(some 34), .p (.ext (.tmp 27) 1)⟩,
    ⟨(some 11), .p (.mv (.tmp 33))⟩,
    ⟨(some 12), .p (.mv (.tmp 34))⟩])
 (.seq (.ops none [⟨(some 36), .p (.mv (.tmp 7))⟩,
    ⟨(some 37), .p (.mv (.tmp 8))⟩,
    ⟨(some 38), .p (.mv (.tmp 9))⟩,
    ⟨(some 39), .p (.mv (.tmp 10))⟩,
    ⟨(some 40), .call 48 [(.tmp 36), (.tmp 37), (.tmp 38), (.tmp 39)]⟩,
    ⟨(some 35), .p (.mv (.tmp 40))⟩,
    ⟨(some 41), .p (.ext (.tmp 35) 0)⟩,
    ⟨(some 42), .p (.ext (.tmp 35) 1)⟩,
    ⟨(some 13), .p (.mv (.tmp 41))⟩,
    ⟨(some 14), .p (.mv (.tmp 42))⟩])
 (.seq (.seq (.ops none [⟨(some 43), .p (.mv (.tmp 7))⟩,
     ⟨(some 44), .p (.mv (.tmp 8))⟩,
     ⟨(some 45), .p (.mv (.tmp 9))⟩,
     ⟨(some 46), .p (.mv (.tmp 10))⟩,
     ⟨(some 47), .e (.mkSl 9 2 [(.string ⟨#[]⟩)] [(0, 1, (.tmp 45)), (1, 1, (.tmp 46))])⟩,
     ⟨(some 48), .call 19 [(.tmp 43), (.tmp 44), (.const (.int .i64 (40))), (.tmp 47)]⟩,
     ⟨(some 15), .p (.mv (.tmp 48))⟩])
  (.seq (.ops none [⟨(some 49), .p (.mv (.tmp 15))⟩,
     ⟨(some 50), .p (.bin .neq (.tmp 49) (.const (.int .i64 (0))))⟩])
  (.cond (.tmp 50) (.seq (.seq (.ops none [⟨(some 51), .p (.mv (.tmp 11))⟩,
       ⟨(some 52), .p (.bin .eql (.tmp 51) (.const (.string ⟨#[]⟩)))⟩,
       ⟨(some 53), .p (.mv (.tmp 52))⟩])
    (.cut [12, 13, 14, 15, 53] c9z11)) c9z9)
  (.skip)))) c9z6)))))
theorem k9 : compFn Try.prog 9 [[], [], [], [], [], [], [], [12, 13, 14, 15, 53], [13, 14, 15, 53, 56], [13, 14, 15, 58], [14, 15, 58, 60], [14, 15, 62], [62, 65], [67], [67, 68], [], [], [8, 9, 10, 12, 13, 14, 76], [8, 9, 10, 13, 14, 76, 78], [8, 9, 10, 13, 14, 80], [8, 9, 10, 13, 14, 80, 82], [], [], [], [], [14, 17, 94], [14, 17, 94, 98], [14, 17, 100], [14, 100, 102], [100, 102, 104], [100, 105], []] = some (107, c9, [.tmp 6]) := by kernel_rfl
def K9z0 (_P : Program) (K : Value → Heap → Prop) : Exit → (Nat → Value) → Heap → Prop := bodyP [.tmp 6] K
def K9z6 (P : Program) (K : Value → Heap → Prop) : Exit → (Nat → Value) → Heap → Prop := thenK (iwpP P c9z6 (K9z0 P K)) (K9z0 P K)
def K9z9 (P : Program) (K : Value → Heap → Prop) : Exit → (Nat → Value) → Heap → Prop := thenK (iwpP P c9z9 (K9z6 P K)) (K9z6 P K)
def K9z26 (P : Program) (K : Value → Heap → Prop) : Exit → (Nat → Value) → Heap → Prop := thenK (iwpP P c9z26 (K9z0 P K)) (K9z0 P K)
def K9z27 (P : Program) (K : Value → Heap → Prop) : Exit → (Nat → Value) → Heap → Prop := thenK (iwpP P c9z27 (K9z26 P K)) (K9z26 P K)
def K9z38 (P : Program) (K : Value → Heap → Prop) : Exit → (Nat → Value) → Heap → Prop := thenK (iwpP P c9z38 (K9z0 P K)) (K9z0 P K)
def p9z11 (P : Program) (K : Value → Heap → Prop) (e12 j13 f14 bad15 x53 : Value) (h : Heap) : Prop := CutP (iwpP P c9z11 (K9z9 P K)) [12, 13, 14, 15, 53] [e12, j13, f14, bad15, x53] h
def p9z13 (P : Program) (K : Value → Heap → Prop) (j13 f14 bad15 x53 x56 : Value) (h : Heap) : Prop := CutP (iwpP P c9z13 (K9z9 P K)) [13, 14, 15, 53, 56] [j13, f14, bad15, x53, x56] h
def p9z15 (P : Program) (K : Value → Heap → Prop) (j13 f14 bad15 x58 : Value) (h : Heap) : Prop := CutP (iwpP P c9z15 (K9z9 P K)) [13, 14, 15, 58] [j13, f14, bad15, x58] h
def p9z17 (P : Program) (K : Value → Heap → Prop) (f14 bad15 x58 x60 : Value) (h : Heap) : Prop := CutP (iwpP P c9z17 (K9z9 P K)) [14, 15, 58, 60] [f14, bad15, x58, x60] h
def p9z19 (P : Program) (K : Value → Heap → Prop) (f14 bad15 x62 : Value) (h : Heap) : Prop := CutP (iwpP P c9z19 (K9z9 P K)) [14, 15, 62] [f14, bad15, x62] h
def p9z21 (P : Program) (K : Value → Heap → Prop) (x62 x65 : Value) (h : Heap) : Prop := CutP (iwpP P c9z21 (K9z9 P K)) [62, 65] [x62, x65] h
def p9z23 (P : Program) (K : Value → Heap → Prop) (x67 : Value) (h : Heap) : Prop := CutP (iwpP P c9z23 (K9z9 P K)) [67] [x67] h
def p9z25 (P : Program) (K : Value → Heap → Prop) (x67 x68 : Value) (h : Heap) : Prop := CutP (iwpP P c9z25 (K9z9 P K)) [67, 68] [x67, x68] h
def p9z29 (P : Program) (K : Value → Heap → Prop) (p8 s9 u10 e12 j13 f14 x76 : Value) (h : Heap) : Prop := CutP (iwpP P c9z29 (K9z27 P K)) [8, 9, 10, 12, 13, 14, 76] [p8, s9, u10, e12, j13, f14, x76] h
def p9z31 (P : Program) (K : Value → Heap → Prop) (p8 s9 u10 j13 f14 x76 x78 : Value) (h : Heap) : Prop := CutP (iwpP P c9z31 (K9z27 P K)) [8, 9, 10, 13, 14, 76, 78] [p8, s9, u10, j13, f14, x76, x78] h
def p9z33 (P : Program) (K : Value → Heap → Prop) (p8 s9 u10 j13 f14 x80 : Value) (h : Heap) : Prop := CutP (iwpP P c9z33 (K9z27 P K)) [8, 9, 10, 13, 14, 80] [p8, s9, u10, j13, f14, x80] h
def p9z35 (P : Program) (K : Value → Heap → Prop) (p8 s9 u10 j13 f14 x80 x82 : Value) (h : Heap) : Prop := CutP (iwpP P c9z35 (K9z27 P K)) [8, 9, 10, 13, 14, 80, 82] [p8, s9, u10, j13, f14, x80, x82] h
def p9z40 (P : Program) (K : Value → Heap → Prop) (f14 ok17 x94 : Value) (h : Heap) : Prop := CutP (iwpP P c9z40 (K9z38 P K)) [14, 17, 94] [f14, ok17, x94] h
def p9z42 (P : Program) (K : Value → Heap → Prop) (f14 ok17 x94 x98 : Value) (h : Heap) : Prop := CutP (iwpP P c9z42 (K9z38 P K)) [14, 17, 94, 98] [f14, ok17, x94, x98] h
def p9z44 (P : Program) (K : Value → Heap → Prop) (f14 ok17 x100 : Value) (h : Heap) : Prop := CutP (iwpP P c9z44 (K9z38 P K)) [14, 17, 100] [f14, ok17, x100] h
def p9z46 (P : Program) (K : Value → Heap → Prop) (f14 x100 x102 : Value) (h : Heap) : Prop := CutP (iwpP P c9z46 (K9z38 P K)) [14, 100, 102] [f14, x100, x102] h
def p9z48 (P : Program) (K : Value → Heap → Prop) (x100 x102 x104 : Value) (h : Heap) : Prop := CutP (iwpP P c9z48 (K9z38 P K)) [100, 102, 104] [x100, x102, x104] h
def p9z50 (P : Program) (K : Value → Heap → Prop) (x100 x105 : Value) (h : Heap) : Prop := CutP (iwpP P c9z50 (K9z38 P K)) [100, 105] [x100, x105] h
theorem q9z25 (P : Program) (K : Value → Heap → Prop) (x67 x68 : Value) (h : Heap) : p9z25 P K x67 x68 h =
  (OP (iPick x67 x68 (.bool false)) fun x69 =>
  K x69 h) := (CutP_def _ _ _ _).trans (by kernel_rfl)
theorem q9z23 (P : Program) (K : Value → Heap → Prop) (x67 : Value) (h : Heap) : p9z23 P K x67 h =
  (GdP x67 true
    (CallP P 20 [] h fun x68 h_1 =>
    p9z25 P K x67 x68 h_1)
    (p9z25 P K x67 undef h)) := (CutP_def _ _ _ _).trans (by kernel_rfl)
theorem q9z21 (P : Program) (K : Value → Heap → Prop) (x62 x65 : Value) (h : Heap) : p9z21 P K x62 x65 h =
  (OP (iPick x62 x65 (.bool false)) fun x66 =>
  p9z23 P K x66 h) := (CutP_def _ _ _ _).trans (by kernel_rfl)
theorem q9z19 (P : Program) (K : Value → Heap → Prop) (f14 bad15 x62 : Value) (h : Heap) : p9z19 P K f14 bad15 x62 h =
  (GdP x62 true
    (OP (iBin .eql f14 bad15) fun x65 =>
    p9z21 P K x62 x65 h)
    (p9z21 P K x62 undef h)) := (CutP_def _ _ _ _).trans (by kernel_rfl)
theorem q9z17 (P : Program) (K : Value → Heap → Prop) (f14 bad15 x58 x60 : Value) (h : Heap) : p9z17 P K f14 bad15 x58 x60 h =
  (OP (iPick x58 x60 (.bool false)) fun x61 =>
  p9z19 P K f14 bad15 x61 h) := (CutP_def _ _ _ _).trans (by kernel_rfl)
theorem q9z15 (P : Program) (K : Value → Heap → Prop) (j13 f14 bad15 x58 : Value) (h : Heap) : p9z15 P K j13 f14 bad15 x58 h =
  (GdP x58 true
    (OP (iBin .eql j13 (.string ⟨#[]⟩)) fun x60 =>
    p9z17 P K f14 bad15 x58 x60 h)
    (p9z17 P K f14 bad15 x58 undef h)) := (CutP_def _ _ _ _).trans (by kernel_rfl)
theorem q9z13 (P : Program) (K : Value → Heap → Prop) (j13 f14 bad15 x53 x56 : Value) (h : Heap) : p9z13 P K j13 f14 bad15 x53 x56 h =
  (OP (iPick x53 x56 (.bool false)) fun x57 =>
  p9z15 P K j13 f14 bad15 x57 h) := (CutP_def _ _ _ _).trans (by kernel_rfl)
theorem q9z11 (P : Program) (K : Value → Heap → Prop) (e12 j13 f14 bad15 x53 : Value) (h : Heap) : p9z11 P K e12 j13 f14 bad15 x53 h =
  (GdP x53 true
    (OP (iBin .eql e12 bad15) fun x56 =>
    p9z13 P K j13 f14 bad15 x53 x56 h)
    (p9z13 P K j13 f14 bad15 x53 undef h)) := (CutP_def _ _ _ _).trans (by kernel_rfl)
theorem q9z35 (P : Program) (K : Value → Heap → Prop) (p8 s9 u10 j13 f14 x80 x82 : Value) (h : Heap) : p9z35 P K p8 s9 u10 j13 f14 x80 x82 h =
  (OP (iPick x80 (.bool true) x82) fun x83 =>
  IfP x83
    (K (.bool false) h)
    (CallP P 50 [p8, s9, u10] h fun x88 h_1 =>
    OP (iExt 0 x88) fun x89 =>
    OP (iExt 1 x88) fun x90 =>
    OP (iBin .eql j13 x89) fun x93 =>
    p9z40 P K f14 x90 x93 h_1)) := (CutP_def _ _ _ _).trans (by kernel_rfl)
theorem q9z33 (P : Program) (K : Value → Heap → Prop) (p8 s9 u10 j13 f14 x80 : Value) (h : Heap) : p9z33 P K p8 s9 u10 j13 f14 x80 h =
  (GdP x80 false
    (CallP P 20 [] h fun x81 h_1 =>
    OP (iUn .not x81) fun x82 =>
    p9z35 P K p8 s9 u10 j13 f14 x80 x82 h_1)
    (p9z35 P K p8 s9 u10 j13 f14 x80 undef h)) := (CutP_def _ _ _ _).trans (by kernel_rfl)
theorem q9z31 (P : Program) (K : Value → Heap → Prop) (p8 s9 u10 j13 f14 x76 x78 : Value) (h : Heap) : p9z31 P K p8 s9 u10 j13 f14 x76 x78 h =
  (OP (iPick x76 (.bool true) x78) fun x79 =>
  p9z33 P K p8 s9 u10 j13 f14 x79 h) := (CutP_def _ _ _ _).trans (by kernel_rfl)
theorem q9z29 (P : Program) (K : Value → Heap → Prop) (p8 s9 u10 e12 j13 f14 x76 : Value) (h : Heap) : p9z29 P K p8 s9 u10 e12 j13 f14 x76 h =
  (GdP x76 false
    (OP (iBin .neq e12 (.int .i64 (0))) fun x78 =>
    p9z31 P K p8 s9 u10 j13 f14 x76 x78 h)
    (p9z31 P K p8 s9 u10 j13 f14 x76 undef h)) := (CutP_def _ _ _ _).trans (by kernel_rfl)
theorem q9z50 (P : Program) (K : Value → Heap → Prop) (x100 x105 : Value) (h : Heap) : p9z50 P K x100 x105 h =
  (OP (iPick x100 x105 (.bool false)) fun x106 =>
  K x106 h) := (CutP_def _ _ _ _).trans (by kernel_rfl)
theorem q9z48 (P : Program) (K : Value → Heap → Prop) (x100 x102 x104 : Value) (h : Heap) : p9z48 P K x100 x102 x104 h =
  (GdP x100 true
    (OP (iPick x102 (.bool true) x104) fun x105 =>
    p9z50 P K x100 x105 h)
    (p9z50 P K x100 undef h)) := (CutP_def _ _ _ _).trans (by kernel_rfl)
theorem q9z46 (P : Program) (K : Value → Heap → Prop) (f14 x100 x102 : Value) (h : Heap) : p9z46 P K f14 x100 x102 h =
  (GdP x102 false
    (OP (iBin .eql f14 (.int .i64 (5))) fun x104 =>
    p9z48 P K x100 x102 x104 h)
    (p9z48 P K x100 x102 undef h)) := (CutP_def _ _ _ _).trans (by kernel_rfl)
theorem q9z44 (P : Program) (K : Value → Heap → Prop) (f14 ok17 x100 : Value) (h : Heap) : p9z44 P K f14 ok17 x100 h =
  (GdP x100 true
    (p9z46 P K f14 x100 ok17 h)
    (p9z46 P K f14 x100 undef h)) := (CutP_def _ _ _ _).trans (by kernel_rfl)
theorem q9z42 (P : Program) (K : Value → Heap → Prop) (f14 ok17 x94 x98 : Value) (h : Heap) : p9z42 P K f14 ok17 x94 x98 h =
  (OP (iPick x94 x98 (.bool false)) fun x99 =>
  p9z44 P K f14 ok17 x99 h) := (CutP_def _ _ _ _).trans (by kernel_rfl)
theorem q9z40 (P : Program) (K : Value → Heap → Prop) (f14 ok17 x94 : Value) (h : Heap) : p9z40 P K f14 ok17 x94 h =
  (GdP x94 true
    (OP (iBin .eql f14 (.int .i64 (0))) fun x96 =>
    OP (iEqb false x96 ok17) fun x98 =>
    p9z42 P K f14 ok17 x94 x98 h)
    (p9z42 P K f14 ok17 x94 undef h)) := (CutP_def _ _ _ _).trans (by kernel_rfl)
def T9 (P : Program) (K : Value → Heap → Prop) (t0 x1 y2 : Value) (h : Heap) : Prop :=
  OH (iBox 24 h t0) fun t3 h_1 =>
  OP (iLoad true 2 h_1 t3) fun x19 =>
  CallP P 16 [x19] h_1 fun x20 h_2 =>
  OP (iExt 0 x20) fun x21 =>
  OP (iExt 1 x20) fun x22 =>
  CallP P 17 [x1, (.int .i64 (41))] h_2 fun x24 h_3 =>
  CallP P 17 [y2, (.int .i64 (41))] h_3 fun x26 h_4 =>
  CallP P 47 [x21, x22, x24, x26] h_4 fun x32 h_5 =>
  OP (iExt 0 x32) fun x33 =>
  OP (iExt 1 x32) fun x34 =>
  CallP P 48 [x21, x22, x24, x26] h_5 fun x40 h_6 =>
  OP (iExt 0 x40) fun x41 =>
  OP (iExt 1 x40) fun x42 =>
  OH (iMkSl 9 2 [(.string ⟨#[]⟩)] h_6 [(0, 1, x24), (1, 1, x26)]) fun x47 h_7 =>
  CallP P 19 [x21, x22, (.int .i64 (40)), x47] h_7 fun x48 h_8 =>
  OP (iBin .neq x48 (.int .i64 (0))) fun x50 =>
  IfP x50
    (OP (iBin .eql x33 (.string ⟨#[]⟩)) fun x52 =>
    p9z11 P K x34 x41 x42 x48 x52 h_8)
    (CallP P 49 [x22, x24, x26] h_8 fun x74 h_9 =>
    OP (iBin .neq x33 x74) fun x75 =>
    p9z29 P K x22 x24 x26 x34 x41 x42 x75 h_9)
theorem e9 (P : Program) (K : Value → Heap → Prop) (t0 x1 y2 : Value) (h : Heap) : iwpP P c9 (bodyP [.tmp 6] K) (frame0 [t0, x1, y2]) h = T9 P K t0 x1 y2 h := by kernel_rfl
theorem f9 {K : Value → Heap → Prop} {t0 x1 y2 : Value} {h : Heap} (H : T9 Try.prog K t0 x1 y2 h) : CallP Try.prog 9 [t0, x1, y2] h K :=
  callP_intro k9 (Nat.le_of_ble_eq_true rfl) ((e9 Try.prog K t0 x1 y2 h).mpr H)
/-! F11: pommel/pommellaw03.StitchLevi -/
def c11z23 : ICode := .ops none [⟨(some 106), .p (.pick (.tmp 103) (.const (.bool true)) (.tmp 105))⟩]
def c11z21 : ICode := .seq (.ops (some (103, false)) [⟨(some 104), .call 20 []⟩,
    ⟨(some 105), .p (.un .not (.tmp 104))⟩])
 (.cut [7, 8, 14, 16, 19, 21, 103, 105] c11z23)
def c11z19 : ICode := .seq (.ops none [⟨(some 102), .p (.pick (.tmp 99) (.const (.bool true)) (.tmp 101))⟩,
    ⟨(some 103), .p (.mv (.tmp 102))⟩])
 (.cut [7, 8, 14, 16, 19, 21, 103] c11z21)
def c11z17 : ICode := .seq (.ops (some (99, false)) [⟨(some 100), .p (.mv (.tmp 22))⟩,
    ⟨(some 101), .p (.bin .neq (.tmp 100) (.const (.int .i64 (0))))⟩])
 (.cut [7, 8, 14, 16, 19, 21, 99, 101] c11z19)
def c11z15 : ICode := .seq (.ops none [⟨(some 98), .p (.pick (.tmp 95) (.const (.bool true)) (.tmp 97))⟩,
    ⟨(some 99), .p (.mv (.tmp 98))⟩])
 (.cut [7, 8, 14, 16, 19, 21, 22, 99] c11z17)
def c11z13 : ICode := .seq (.ops (some (95, false)) [⟨(some 96), .p (.mv (.tmp 20))⟩,
    ⟨(some 97), .p (.bin .neq (.tmp 96) (.const (.int .i64 (0))))⟩])
 (.cut [7, 8, 14, 16, 19, 21, 22, 95, 97] c11z15)
def c11z11 : ICode := .cond (.tmp 106) (.seq (.ops none [⟨(some 6), .p (.mv (.const (.bool false)))⟩])
  (.ret))
 (.skip)
def c11z36 : ICode := .ops none [⟨(some 133), .p (.pick (.tmp 129) (.const (.bool true)) (.tmp 132))⟩]
def c11z34 : ICode := .seq (.ops (some (129, false)) [⟨(some 130), .p (.mv (.tmp 23))⟩,
    ⟨(some 131), .p (.mv (.tmp 25))⟩,
    ⟨(some 132), .p (.bin .neq (.tmp 130) (.tmp 131))⟩])
 (.cut [8, 19, 21, 129, 132] c11z36)
def c11z32 : ICode := .seq (.ops none [⟨(some 128), .p (.pick (.tmp 125) (.const (.bool true)) (.tmp 127))⟩,
    ⟨(some 129), .p (.mv (.tmp 128))⟩])
 (.cut [8, 19, 21, 23, 25, 129] c11z34)
def c11z30 : ICode := .seq (.ops (some (125, false)) [⟨(some 126), .p (.mv (.tmp 26))⟩,
    ⟨(some 127), .p (.bin .neq (.tmp 126) (.const (.int .i64 (0))))⟩])
 (.cut [8, 19, 21, 23, 25, 125, 127] c11z32)
def c11z28 : ICode := .cond (.tmp 133) (.seq (.ops none [⟨(some 6), .p (.mv (.const (.bool false)))⟩])
  (.ret))
 (.skip)
def c11z48 : ICode := .seq (.seq (.ops none [⟨(some 140), .p (.mv (.tmp 28))⟩,
     ⟨(some 141), .p (.mv (.tmp 21))⟩,
     ⟨(some 142), .p (.lenS (.tmp 141))⟩,
     ⟨(some 143), .p (.bin .lss (.tmp 140) (.tmp 142))⟩])
  (.cond (.tmp 143) (.skip)
  (.exit 2)))
 (.seq (.block 3 (.seq (.dops [(none, [⟨(some 146), .p (.mv (.tmp 8)), 0⟩,
      ⟨(some 147), .p (.mv (.tmp 19)), 0⟩,
      ⟨(some 148), .p (.mv (.tmp 27)), 0⟩,
      ⟨(some 149), .p (.idxS (.tmp 147) (.tmp 148)), 6⟩,
      ⟨(some 150), .p (.mv (.tmp 21)), 0⟩,
      ⟨(some 151), .p (.mv (.tmp 28)), 0⟩,
      ⟨(some 152), .p (.idxS (.tmp 150) (.tmp 151)), 48⟩,
      ⟨(some 153), .call 33 [(.tmp 146), (.tmp 149), (.tmp 152)], 127⟩,
      ⟨(some 154), .p (.un .not (.tmp 153)), 255⟩])])
   (.cond (.tmp 154) (.seq (.ops none [⟨(some 6), .p (.mv (.const (.bool false)))⟩])
    (.ret))
   (.skip))))
 (.ops none [⟨(some 144), .p (.mv (.tmp 28))⟩,
   ⟨(some 145), .p (.bin .add (.tmp 144) (.const (.int .i64 (1))))⟩,
   ⟨(some 28), .p (.mv (.tmp 145))⟩]))
def c11z55 : ICode := .ops none [⟨(some 138), .p (.mv (.tmp 27))⟩,
   ⟨(some 139), .p (.bin .add (.tmp 138) (.const (.int .i64 (1))))⟩,
   ⟨(some 27), .p (.mv (.tmp 139))⟩]
def c11z44 : ICode := .cut [8, 19, 21, 27] c11z55
def c11z41 : ICode := .seq (.seq (.ops none [⟨(some 134), .p (.mv (.tmp 27))⟩,
     ⟨(some 135), .p (.mv (.tmp 19))⟩,
     ⟨(some 136), .p (.lenS (.tmp 135))⟩,
     ⟨(some 137), .p (.bin .lss (.tmp 134) (.tmp 136))⟩])
  (.cond (.tmp 137) (.skip)
  (.exit 0)))
 (.seq (.block 1 (.seq (.ops none [⟨(some 28), .p (.mv (.const (.int .i64 (0))))⟩])
   (.block 2 (.loop [8, 19, 21, 27] [28] c11z48)))) c11z44)
def c11z38 : ICode := .seq (.ops none [⟨(some 6), .p (.mv (.const (.bool true)))⟩])
 (.ret)
def c11z27 : ICode := .seq (.seq (.ops none [⟨(some 27), .p (.mv (.const (.int .i64 (0))))⟩])
  (.block 0 (.loop [8, 19, 21] [27] c11z41))) c11z38
def c11z10 : ICode := .seq (.ops none [⟨(some 108), .p (.mv (.tmp 7))⟩,
    ⟨(some 109), .p (.mv (.tmp 8))⟩,
    ⟨(some 110), .p (.mv (.tmp 21))⟩,
    ⟨(some 111), .p (.mv (.tmp 14))⟩,
    ⟨(some 112), .call 51 [(.tmp 108), (.tmp 109), (.tmp 110), (.tmp 111)]⟩,
    ⟨(some 107), .p (.mv (.tmp 112))⟩,
    ⟨(some 113), .p (.ext (.tmp 107) 0)⟩,
    ⟨(some 114), .p (.ext (.tmp 107) 1)⟩,
    ⟨(some 23), .p (.mv (.tmp 113))⟩,
    ⟨(some 24), .p (.mv (.tmp 114))⟩])
 (.seq (.ops none [⟨(some 116), .p (.mv (.tmp 7))⟩,
    ⟨(some 117), .p (.mv (.tmp 8))⟩,
    ⟨(some 118), .p (.mv (.tmp 19))⟩,
    ⟨(some 119), .p (.mv (.tmp 16))⟩,
    ⟨(some 120), .call 51 [(.tmp 116), (.tmp 117), (.tmp 118), (.tmp 119)]⟩,
    ⟨(some 115), .p (.mv (.tmp 120))⟩,
    ⟨(some 121), .p (.ext (.tmp 115) 0)⟩,
    ⟨(some 122), .p (.ext (.tmp 115) 1)⟩,
    ⟨(some 25), .p (.mv (.tmp 121))⟩,
    ⟨(some 26), .p (.mv (.tmp 122))⟩])
 (.seq (.seq (.seq (.ops none [⟨(some 123), .p (.mv (.tmp 24))⟩,
      ⟨(some 124), .p (.bin .neq (.tmp 123) (.const (.int .i64 (0))))⟩,
      ⟨(some 125), .p (.mv (.tmp 124))⟩])
   (.cut [8, 19, 21, 23, 25, 26, 125] c11z30)) c11z28) c11z27))
def c11 : ICode := .seq (.ops none [⟨(some 3), .e (.box 54 (.tmp 0))⟩,
    ⟨(some 4), .e (.box 83 (.tmp 1))⟩,
    ⟨(some 5), .e (.box 67 (.tmp 2))⟩,
    ⟨(some 6), .p (.mv (.const (.bool false)))⟩])
 (.seq (.ops none [⟨(some 30), .l (.load true 2 (.tmp 3))⟩,
    ⟨(some 31), .call 30 [(.tmp 30)]⟩,
    ⟨(some 29), .p (.mv (.tmp 31))⟩,
    ⟨(some 32), .p (.ext (.tmp 29) 0)⟩,
    ⟨(some 33), .p (.ext (.tmp 29) 1)⟩,
    ⟨(some 7), .p (.mv (.tmp 32))⟩,
    ⟨(some 8), .p (.mv (.tmp 33))⟩])
 (.seq (.ops none [⟨(some 34), .p (.mv (.tmp 7))⟩,
    ⟨(some 35), .p (.adrArr 2 1 (.tmp 4) (.const (.int .i64 (0))))⟩,
    ⟨(some 36), .l (.load false 1 (.tmp 35))⟩,
    ⟨(some 37), .call 31 [(.tmp 34), (.tmp 36), (.const (.int .i64 (24)))]⟩,
    ⟨(some 9), .p (.mv (.tmp 37))⟩])
 (.seq (.ops none [⟨(some 38), .p (.mv (.tmp 8))⟩,
    ⟨(some 39), .p (.mv (.tmp 9))⟩,
    ⟨(some 40), .p (.adrArr 2 1 (.tmp 4) (.const (.int .i64 (1))))⟩,
    ⟨(some 41), .l (.load false 1 (.tmp 40))⟩,
    ⟨(some 42), .call 32 [(.tmp 38), (.tmp 39), (.tmp 41)]⟩,
    ⟨(some 10), .p (.mv (.tmp 42))⟩])
 (.seq (.dops [(none, [⟨(some 43), .p (.adrArr 2 1 (.tmp 5) (.const (.int .i64 (0)))), 0⟩,
    ⟨(some 44), .l (.load false 1 (.tmp 43)), 1⟩,
    ⟨(some 45), .p (.conv .i64 (.tmp 44)), 3⟩,
    ⟨(some 46), .p (.mv (.tmp 9)), 0⟩,
    ⟨(some 47), .p (.lenS (.tmp 46)), 8⟩,
    ⟨(some 48), .p (.bin .add (.tmp 47) (.const (.int .i64 (1)))), 24⟩,
    ⟨(some 49), .p (.bin .rem (.tmp 45) (.tmp 48)), 63⟩,
    ⟨(some 50), .p (.adrArr 2 1 (.tmp 5) (.const (.int .i64 (1)))), 0⟩,
    ⟨(some 51), .l (.load false 1 (.tmp 50)), 128⟩,
    ⟨(some 52), .p (.conv .i64 (.tmp 51)), 384⟩,
    ⟨(some 53), .p (.mv (.tmp 9)), 0⟩,
    ⟨(some 54), .p (.lenS (.tmp 53)), 1024⟩,
    ⟨(some 55), .p (.bin .add (.tmp 54) (.const (.int .i64 (1)))), 3072⟩,
    ⟨(some 56), .p (.bin .rem (.tmp 52) (.tmp 55)), 8064⟩,
    ⟨(some 11), .p (.mv (.tmp 49)), 127⟩,
    ⟨(some 12), .p (.mv (.tmp 56)), 32767⟩])])
 (.seq (.dops [(none, [⟨(some 57), .p (.mv (.tmp 9)), 0⟩,
    ⟨(some 58), .p (.mv (.tmp 11)), 0⟩,
    ⟨(some 59), .p (.slS (.tmp 57) none (some (.tmp 58))), 3⟩,
    ⟨(some 60), .p (.mv (.tmp 9)), 0⟩,
    ⟨(some 61), .p (.mv (.tmp 11)), 0⟩,
    ⟨(some 62), .p (.slS (.tmp 60) (some (.tmp 61)) none), 24⟩,
    ⟨(some 63), .p (.mv (.tmp 10)), 0⟩,
    ⟨(some 64), .p (.mv (.tmp 12)), 0⟩,
    ⟨(some 65), .p (.slS (.tmp 63) none (some (.tmp 64))), 192⟩,
    ⟨(some 66), .p (.mv (.tmp 10)), 0⟩,
    ⟨(some 67), .p (.mv (.tmp 12)), 0⟩,
    ⟨(some 68), .p (.slS (.tmp 66) (some (.tmp 67)) none), 1536⟩,
    ⟨(some 13), .p (.mv (.tmp 59)), 7⟩,
    ⟨(some 14), .p (.mv (.tmp 62)), 4159⟩,
    ⟨(some 15), .p (.mv (.tmp 65)), 12799⟩,
    ⟨(some 16), .p (.mv (.tmp 68)), 32767⟩])])
 (.seq (.ops none [⟨(some 70), .p (.mv (.tmp 7))⟩,
    ⟨(some 71), .p (.mv (.tmp 8))⟩,
    ⟨(some 72), .p (.mv (.tmp 13))⟩,
    ⟨(some 73), .p (.mv (.tmp 15))⟩,
    ⟨(some 74), .call 47 [(.tmp 70), (.tmp 71), (.tmp 72), (.tmp 73)]⟩,
    ⟨(some 69), .p (.mv (.tmp 74))⟩,
    ⟨(some 75), .p (.ext (.tmp 69) 0)⟩,
    ⟨(some 76), .p (.ext (.tmp 69) 1)⟩,
    ⟨(some 17), .p (.mv (.tmp 75))⟩,
    ⟨(some 18), .p (.mv (.tmp 76))⟩])
 (.seq (.ops none [⟨(some 78), .p (.mv (.tmp 7))⟩,
    ⟨(some 79), .p (.mv (.tmp 8))⟩,
    ⟨(some 80), .p (.mv (.tmp 17))⟩,
    ⟨(some 81), .p (.mv (.tmp 13))⟩,
    ⟨(some 82), .call 51 [(.tmp 78), (.tmp 79), (.tmp 80), (.tmp 81)]⟩,
    ⟨(some 77), .p (.mv (.tmp 82))⟩,
    ⟨(some 83), .p (.ext (.tmp 77) 0)⟩,
    ⟨(some 84), .p (.ext (.tmp 77) 1)⟩,
    ⟨(some 19), .p (.mv (.tmp 83))⟩,
    ⟨(some 20), .p (.mv (.tmp 84))⟩])
 (.seq (.ops none [⟨(some 86), .p (.mv (.tmp 7))⟩,
    ⟨(some 87), .p (.mv (.tmp 8))⟩,
    ⟨(some 88), .p (.mv (.tmp 17))⟩,
    ⟨(some 89), .p (.mv (.tmp 15))⟩,
    ⟨(some 90), .call 51 [(.tmp 86), (.tmp 87), (.tmp 88), (.tmp 89)]⟩,
    ⟨(some 85), .p (.mv (.tmp 90))⟩,
    ⟨(some 91), .p (.ext (.tmp 85) 0)⟩,
    ⟨(some 92), .p (.ext (.tmp 85) 1)⟩,
    ⟨(some 21), .p (.mv (.tmp 91))⟩,
    ⟨(some 22), .p (.mv (.tmp 92))⟩])
 (.seq (.seq (.seq (.ops none [⟨(some 93), .p (.mv (.tmp 18))⟩,
      ⟨(some 94), .p (.bin .neq (.tmp 93) (.const (.int .i64 (0))))⟩,
      ⟨(some 95), .p (.mv (.tmp 94))⟩])
   (.cut [7, 8, 14, 16, 19, 20, 21, 22, 95] c11z13)) c11z11) c11z10)))))))))
theorem k11 : compFn Try.prog 11 [[], [], [], [], [], [], [], [], [], [7, 8, 14, 16, 19, 20, 21, 22, 95], [7, 8, 14, 16, 19, 21, 22, 95, 97], [7, 8, 14, 16, 19, 21, 22, 99], [7, 8, 14, 16, 19, 21, 99, 101], [7, 8, 14, 16, 19, 21, 103], [7, 8, 14, 16, 19, 21, 103, 105], [], [], [], [], [], [8, 19, 21, 23, 25, 26, 125], [8, 19, 21, 23, 25, 125, 127], [8, 19, 21, 23, 25, 129], [8, 19, 21, 129, 132], [], [], [], [], [8, 19, 21], [27], [], [], [], [8, 19, 21, 27], [28], [], [], [], [], [], [8, 19, 21, 27], [], []] = some (155, c11, [.tmp 6]) := by kernel_rfl
def K11z0 (_P : Program) (K : Value → Heap → Prop) : Exit → (Nat → Value) → Heap → Prop := bodyP [.tmp 6] K
def K11z10 (P : Program) (K : Value → Heap → Prop) : Exit → (Nat → Value) → Heap → Prop := thenK (iwpP P c11z10 (K11z0 P K)) (K11z0 P K)
def K11z11 (P : Program) (K : Value → Heap → Prop) : Exit → (Nat → Value) → Heap → Prop := thenK (iwpP P c11z11 (K11z10 P K)) (K11z10 P K)
def K11z27 (P : Program) (K : Value → Heap → Prop) : Exit → (Nat → Value) → Heap → Prop := thenK (iwpP P c11z27 (K11z0 P K)) (K11z0 P K)
def K11z28 (P : Program) (K : Value → Heap → Prop) : Exit → (Nat → Value) → Heap → Prop := thenK (iwpP P c11z28 (K11z27 P K)) (K11z27 P K)
def K11z38 (P : Program) (K : Value → Heap → Prop) : Exit → (Nat → Value) → Heap → Prop := thenK (iwpP P c11z38 (K11z0 P K)) (K11z0 P K)
def K11z40 (P : Program) (K : Value → Heap → Prop) : Exit → (Nat → Value) → Heap → Prop := inBlockK 0 (K11z38 P K)
def K11z41 (P : Program) (K : Value → Heap → Prop) (p8 y19 z21 : Value) (L1 : List Value → Heap → Prop) : Exit → (Nat → Value) → Heap → Prop := thenK (fun f' h'' => (([8, 19, 21] : List Nat).map f' : List Value) = [p8, y19, z21] ∧ L1 (([27] : List Nat).map f') h'') (K11z40 P K)
def K11z44 (P : Program) (K : Value → Heap → Prop) (p8 y19 z21 : Value) (L1 : List Value → Heap → Prop) : Exit → (Nat → Value) → Heap → Prop := thenK (iwpP P c11z44 (K11z41 P K p8 y19 z21 L1)) (K11z41 P K p8 y19 z21 L1)
def K11z45 (P : Program) (K : Value → Heap → Prop) (p8 y19 z21 : Value) (L1 : List Value → Heap → Prop) : Exit → (Nat → Value) → Heap → Prop := inBlockK 1 (K11z44 P K p8 y19 z21 L1)
def K11z47 (P : Program) (K : Value → Heap → Prop) (p8 y19 z21 : Value) (L1 : List Value → Heap → Prop) : Exit → (Nat → Value) → Heap → Prop := inBlockK 2 (K11z45 P K p8 y19 z21 L1)
def K11z48 (P : Program) (K : Value → Heap → Prop) (p8 y19 z21 n27 : Value) (L1 L2 : List Value → Heap → Prop) : Exit → (Nat → Value) → Heap → Prop := thenK (fun f' h'' => (([8, 19, 21, 27] : List Nat).map f' : List Value) = [p8, y19, z21, n27] ∧ L2 (([28] : List Nat).map f') h'') (K11z47 P K p8 y19 z21 L1)
def p11z13 (P : Program) (K : Value → Heap → Prop) (k7 p8 t14 v16 y19 f20 z21 g22 x95 : Value) (h : Heap) : Prop := CutP (iwpP P c11z13 (K11z11 P K)) [7, 8, 14, 16, 19, 20, 21, 22, 95] [k7, p8, t14, v16, y19, f20, z21, g22, x95] h
def p11z15 (P : Program) (K : Value → Heap → Prop) (k7 p8 t14 v16 y19 z21 g22 x95 x97 : Value) (h : Heap) : Prop := CutP (iwpP P c11z15 (K11z11 P K)) [7, 8, 14, 16, 19, 21, 22, 95, 97] [k7, p8, t14, v16, y19, z21, g22, x95, x97] h
def p11z17 (P : Program) (K : Value → Heap → Prop) (k7 p8 t14 v16 y19 z21 g22 x99 : Value) (h : Heap) : Prop := CutP (iwpP P c11z17 (K11z11 P K)) [7, 8, 14, 16, 19, 21, 22, 99] [k7, p8, t14, v16, y19, z21, g22, x99] h
def p11z19 (P : Program) (K : Value → Heap → Prop) (k7 p8 t14 v16 y19 z21 x99 x101 : Value) (h : Heap) : Prop := CutP (iwpP P c11z19 (K11z11 P K)) [7, 8, 14, 16, 19, 21, 99, 101] [k7, p8, t14, v16, y19, z21, x99, x101] h
def p11z21 (P : Program) (K : Value → Heap → Prop) (k7 p8 t14 v16 y19 z21 x103 : Value) (h : Heap) : Prop := CutP (iwpP P c11z21 (K11z11 P K)) [7, 8, 14, 16, 19, 21, 103] [k7, p8, t14, v16, y19, z21, x103] h
def p11z23 (P : Program) (K : Value → Heap → Prop) (k7 p8 t14 v16 y19 z21 x103 x105 : Value) (h : Heap) : Prop := CutP (iwpP P c11z23 (K11z11 P K)) [7, 8, 14, 16, 19, 21, 103, 105] [k7, p8, t14, v16, y19, z21, x103, x105] h
def p11z30 (P : Program) (K : Value → Heap → Prop) (p8 y19 z21 a23 d25 q26 x125 : Value) (h : Heap) : Prop := CutP (iwpP P c11z30 (K11z28 P K)) [8, 19, 21, 23, 25, 26, 125] [p8, y19, z21, a23, d25, q26, x125] h
def p11z32 (P : Program) (K : Value → Heap → Prop) (p8 y19 z21 a23 d25 x125 x127 : Value) (h : Heap) : Prop := CutP (iwpP P c11z32 (K11z28 P K)) [8, 19, 21, 23, 25, 125, 127] [p8, y19, z21, a23, d25, x125, x127] h
def p11z34 (P : Program) (K : Value → Heap → Prop) (p8 y19 z21 a23 d25 x129 : Value) (h : Heap) : Prop := CutP (iwpP P c11z34 (K11z28 P K)) [8, 19, 21, 23, 25, 129] [p8, y19, z21, a23, d25, x129] h
def p11z36 (P : Program) (K : Value → Heap → Prop) (p8 y19 z21 x129 x132 : Value) (h : Heap) : Prop := CutP (iwpP P c11z36 (K11z28 P K)) [8, 19, 21, 129, 132] [p8, y19, z21, x129, x132] h
def p11z41 (P : Program) (K : Value → Heap → Prop) (p8 y19 z21 : Value) (L1 : List Value → Heap → Prop) (xs : List Value) (h : Heap) : Prop := CutP (iwpP P c11z41 (K11z41 P K p8 y19 z21 L1)) ([8, 19, 21] ++ [27]) ([p8, y19, z21] ++ xs) h
def p11z48 (P : Program) (K : Value → Heap → Prop) (p8 y19 z21 n27 : Value) (L1 L2 : List Value → Heap → Prop) (xs : List Value) (h : Heap) : Prop := CutP (iwpP P c11z48 (K11z48 P K p8 y19 z21 n27 L1 L2)) ([8, 19, 21, 27] ++ [28]) ([p8, y19, z21, n27] ++ xs) h
def p11z55 (P : Program) (K : Value → Heap → Prop) (p8 y19 z21 n27 : Value) (L1 : List Value → Heap → Prop) (h : Heap) : Prop := CutP (iwpP P c11z55 (K11z41 P K p8 y19 z21 L1)) [8, 19, 21, 27] [p8, y19, z21, n27] h
theorem q11z23 (P : Program) (K : Value → Heap → Prop) (k7 p8 t14 v16 y19 z21 x103 x105 : Value) (h : Heap) : p11z23 P K k7 p8 t14 v16 y19 z21 x103 x105 h =
  (OP (iPick x103 (.bool true) x105) fun x106 =>
  IfP x106
    (K (.bool false) h)
    (CallP P 51 [k7, p8, z21, t14] h fun x112 h_1 =>
    OP (iExt 0 x112) fun x113 =>
    OP (iExt 1 x112) fun x114 =>
    CallP P 51 [k7, p8, y19, v16] h_1 fun x120 h_2 =>
    OP (iExt 0 x120) fun x121 =>
    OP (iExt 1 x120) fun x122 =>
    OP (iBin .neq x114 (.int .i64 (0))) fun x124 =>
    p11z30 P K p8 y19 z21 x113 x121 x122 x124 h_2)) := (CutP_def _ _ _ _).trans (by kernel_rfl)
theorem q11z21 (P : Program) (K : Value → Heap → Prop) (k7 p8 t14 v16 y19 z21 x103 : Value) (h : Heap) : p11z21 P K k7 p8 t14 v16 y19 z21 x103 h =
  (GdP x103 false
    (CallP P 20 [] h fun x104 h_1 =>
    OP (iUn .not x104) fun x105 =>
    p11z23 P K k7 p8 t14 v16 y19 z21 x103 x105 h_1)
    (p11z23 P K k7 p8 t14 v16 y19 z21 x103 undef h)) := (CutP_def _ _ _ _).trans (by kernel_rfl)
theorem q11z19 (P : Program) (K : Value → Heap → Prop) (k7 p8 t14 v16 y19 z21 x99 x101 : Value) (h : Heap) : p11z19 P K k7 p8 t14 v16 y19 z21 x99 x101 h =
  (OP (iPick x99 (.bool true) x101) fun x102 =>
  p11z21 P K k7 p8 t14 v16 y19 z21 x102 h) := (CutP_def _ _ _ _).trans (by kernel_rfl)
theorem q11z17 (P : Program) (K : Value → Heap → Prop) (k7 p8 t14 v16 y19 z21 g22 x99 : Value) (h : Heap) : p11z17 P K k7 p8 t14 v16 y19 z21 g22 x99 h =
  (GdP x99 false
    (OP (iBin .neq g22 (.int .i64 (0))) fun x101 =>
    p11z19 P K k7 p8 t14 v16 y19 z21 x99 x101 h)
    (p11z19 P K k7 p8 t14 v16 y19 z21 x99 undef h)) := (CutP_def _ _ _ _).trans (by kernel_rfl)
theorem q11z15 (P : Program) (K : Value → Heap → Prop) (k7 p8 t14 v16 y19 z21 g22 x95 x97 : Value) (h : Heap) : p11z15 P K k7 p8 t14 v16 y19 z21 g22 x95 x97 h =
  (OP (iPick x95 (.bool true) x97) fun x98 =>
  p11z17 P K k7 p8 t14 v16 y19 z21 g22 x98 h) := (CutP_def _ _ _ _).trans (by kernel_rfl)
theorem q11z13 (P : Program) (K : Value → Heap → Prop) (k7 p8 t14 v16 y19 f20 z21 g22 x95 : Value) (h : Heap) : p11z13 P K k7 p8 t14 v16 y19 f20 z21 g22 x95 h =
  (GdP x95 false
    (OP (iBin .neq f20 (.int .i64 (0))) fun x97 =>
    p11z15 P K k7 p8 t14 v16 y19 z21 g22 x95 x97 h)
    (p11z15 P K k7 p8 t14 v16 y19 z21 g22 x95 undef h)) := (CutP_def _ _ _ _).trans (by kernel_rfl)
theorem q11z36 (P : Program) (K : Value → Heap → Prop) (p8 y19 z21 x129 x132 : Value) (h : Heap) : p11z36 P K p8 y19 z21 x129 x132 h =
  (OP (iPick x129 (.bool true) x132) fun x133 =>
  IfP x133
    (K (.bool false) h)
    (LoopP [(.int .i64 (0))] h fun L1 xs hx =>
    p11z41 P K p8 y19 z21 L1 xs hx)) := (CutP_def _ _ _ _).trans (by kernel_rfl)
theorem q11z34 (P : Program) (K : Value → Heap → Prop) (p8 y19 z21 a23 d25 x129 : Value) (h : Heap) : p11z34 P K p8 y19 z21 a23 d25 x129 h =
  (GdP x129 false
    (OP (iBin .neq a23 d25) fun x132 =>
    p11z36 P K p8 y19 z21 x129 x132 h)
    (p11z36 P K p8 y19 z21 x129 undef h)) := (CutP_def _ _ _ _).trans (by kernel_rfl)
theorem q11z32 (P : Program) (K : Value → Heap → Prop) (p8 y19 z21 a23 d25 x125 x127 : Value) (h : Heap) : p11z32 P K p8 y19 z21 a23 d25 x125 x127 h =
  (OP (iPick x125 (.bool true) x127) fun x128 =>
  p11z34 P K p8 y19 z21 a23 d25 x128 h) := (CutP_def _ _ _ _).trans (by kernel_rfl)
theorem q11z30 (P : Program) (K : Value → Heap → Prop) (p8 y19 z21 a23 d25 q26 x125 : Value) (h : Heap) : p11z30 P K p8 y19 z21 a23 d25 q26 x125 h =
  (GdP x125 false
    (OP (iBin .neq q26 (.int .i64 (0))) fun x127 =>
    p11z32 P K p8 y19 z21 a23 d25 x125 x127 h)
    (p11z32 P K p8 y19 z21 a23 d25 x125 undef h)) := (CutP_def _ _ _ _).trans (by kernel_rfl)
theorem q11z48 (P : Program) (K : Value → Heap → Prop) (p8 y19 z21 n27 : Value) (L1 L2 : List Value → Heap → Prop) (l28 : Value) (h : Heap) : p11z48 P K p8 y19 z21 n27 L1 L2 [l28] h =
  (OP (iLenS z21) fun x142 =>
  OP (iBin .lss l28 x142) fun x143 =>
  IfP x143
    (OP (iIdxS y19 n27) fun x149 =>
    OP (iIdxS z21 l28) fun x152 =>
    CallP P 33 [p8, x149, x152] h fun x153 h_1 =>
    (True) ∧
    OP (iUn .not x153) fun x154 =>
    IfP x154
      (K (.bool false) h_1)
      (OP (iBin .add l28 (.int .i64 (1))) fun x145 =>
      ([p8, y19, z21, n27] : List Value) = [p8, y19, z21, n27] ∧ L2 [x145] h_1))
    (p11z55 P K p8 y19 z21 n27 L1 h)) := (CutP_def _ _ _ _).trans (by kernel_rfl)
theorem q11z55 (P : Program) (K : Value → Heap → Prop) (p8 y19 z21 n27 : Value) (L1 : List Value → Heap → Prop) (h : Heap) : p11z55 P K p8 y19 z21 n27 L1 h =
  (OP (iBin .add n27 (.int .i64 (1))) fun x139 =>
  ([p8, y19, z21] : List Value) = [p8, y19, z21] ∧ L1 [x139] h) := (CutP_def _ _ _ _).trans (by kernel_rfl)
theorem q11z41 (P : Program) (K : Value → Heap → Prop) (p8 y19 z21 : Value) (L1 : List Value → Heap → Prop) (n27 : Value) (h : Heap) : p11z41 P K p8 y19 z21 L1 [n27] h =
  (OP (iLenS y19) fun x136 =>
  OP (iBin .lss n27 x136) fun x137 =>
  IfP x137
    (LoopP [(.int .i64 (0))] h fun L2 xs hx =>
    p11z48 P K p8 y19 z21 n27 L1 L2 xs hx)
    (K (.bool true) h)) := (CutP_def _ _ _ _).trans (by kernel_rfl)
def T11 (P : Program) (K : Value → Heap → Prop) (c0 x1 at2 : Value) (h : Heap) : Prop :=
  OH (iBox 54 h c0) fun c3 h_1 =>
  OH (iBox 83 h_1 x1) fun x4 h_2 =>
  OH (iBox 67 h_2 at2) fun at5 h_3 =>
  OP (iLoad true 2 h_3 c3) fun x30 =>
  CallP P 30 [x30] h_3 fun x31 h_4 =>
  OP (iExt 0 x31) fun x32 =>
  OP (iExt 1 x31) fun x33 =>
  OP (iAdrArr 2 1 x4 (.int .i64 (0))) fun x35 =>
  OP (iLoad false 1 h_4 x35) fun x36 =>
  CallP P 31 [x32, x36, (.int .i64 (24))] h_4 fun x37 h_5 =>
  OP (iAdrArr 2 1 x4 (.int .i64 (1))) fun x40 =>
  OP (iLoad false 1 h_5 x40) fun x41 =>
  CallP P 32 [x33, x37, x41] h_5 fun x42 h_6 =>
  OP (iAdrArr 2 1 at5 (.int .i64 (0))) fun x43 =>
  OP (iLoad false 1 h_6 x43) fun x44 =>
  (True) ∧
  OP (iConv .i64 x44) fun x45 =>
  OP (iLenS x37) fun x47 =>
  OP (iBin .add x47 (.int .i64 (1))) fun x48 =>
  OP (iBin .rem x45 x48) fun x49 =>
  OP (iAdrArr 2 1 at5 (.int .i64 (1))) fun x50 =>
  OP (iLoad false 1 h_6 x50) fun x51 =>
  (True) ∧
  OP (iConv .i64 x51) fun x52 =>
  OP (iLenS x37) fun x54 =>
  OP (iBin .add x54 (.int .i64 (1))) fun x55 =>
  OP (iBin .rem x52 x55) fun x56 =>
  OP (iSlS x37 none (some x49)) fun x59 =>
  OP (iSlS x37 (some x49) none) fun x62 =>
  OP (iSlS x42 none (some x56)) fun x65 =>
  OP (iSlS x42 (some x56) none) fun x68 =>
  CallP P 47 [x32, x33, x59, x65] h_6 fun x74 h_7 =>
  OP (iExt 0 x74) fun x75 =>
  OP (iExt 1 x74) fun x76 =>
  CallP P 51 [x32, x33, x75, x59] h_7 fun x82 h_8 =>
  OP (iExt 0 x82) fun x83 =>
  OP (iExt 1 x82) fun x84 =>
  CallP P 51 [x32, x33, x75, x65] h_8 fun x90 h_9 =>
  OP (iExt 0 x90) fun x91 =>
  OP (iExt 1 x90) fun x92 =>
  OP (iBin .neq x76 (.int .i64 (0))) fun x94 =>
  p11z13 P K x32 x33 x62 x68 x83 x84 x91 x92 x94 h_9
theorem e11 (P : Program) (K : Value → Heap → Prop) (c0 x1 at2 : Value) (h : Heap) : iwpP P c11 (bodyP [.tmp 6] K) (frame0 [c0, x1, at2]) h = T11 P K c0 x1 at2 h := by kernel_rfl
theorem f11 {K : Value → Heap → Prop} {c0 x1 at2 : Value} {h : Heap} (H : T11 Try.prog K c0 x1 at2 h) : CallP Try.prog 11 [c0, x1, at2] h K :=
  callP_intro k11 (Nat.le_of_ble_eq_true rfl) ((e11 Try.prog K c0 x1 at2 h).mpr H)
/-! F13: pommel/pommellaw03.StitchRest -/
def c13z20 : ICode := .ops none [⟨(some 70), .p (.pick (.tmp 67) (.const (.bool true)) (.tmp 69))⟩]
def c13z18 : ICode := .seq (.ops (some (67, false)) [⟨(some 68), .call 20 []⟩,
    ⟨(some 69), .p (.un .not (.tmp 68))⟩])
 (.cut [7, 8, 9, 10, 11, 12, 67, 69] c13z20)
def c13z16 : ICode := .seq (.ops none [⟨(some 66), .p (.pick (.tmp 62) (.const (.bool true)) (.tmp 65))⟩,
    ⟨(some 67), .p (.mv (.tmp 66))⟩])
 (.cut [7, 8, 9, 10, 11, 12, 67] c13z18)
def c13z14 : ICode := .seq (.ops (some (62, false)) [⟨(some 63), .p (.mv (.tmp 12))⟩,
    ⟨(some 64), .p (.mv (.tmp 14))⟩,
    ⟨(some 65), .p (.bin .neq (.tmp 63) (.tmp 64))⟩])
 (.cut [7, 8, 9, 10, 11, 12, 62, 65] c13z16)
def c13z12 : ICode := .seq (.ops none [⟨(some 61), .p (.pick (.tmp 58) (.const (.bool true)) (.tmp 60))⟩,
    ⟨(some 62), .p (.mv (.tmp 61))⟩])
 (.cut [7, 8, 9, 10, 11, 12, 14, 62] c13z14)
def c13z10 : ICode := .seq (.ops (some (58, false)) [⟨(some 59), .p (.mv (.tmp 15))⟩,
    ⟨(some 60), .p (.bin .neq (.tmp 59) (.const (.int .i64 (0))))⟩])
 (.cut [7, 8, 9, 10, 11, 12, 14, 58, 60] c13z12)
def c13z8 : ICode := .cond (.tmp 70) (.seq (.ops none [⟨(some 6), .p (.mv (.const (.bool false)))⟩])
  (.ret))
 (.skip)
def c13z40 : ICode := .ops none [⟨(some 108), .p (.pick (.tmp 101) (.tmp 107) (.const (.bool false)))⟩,
   ⟨(some 6), .p (.mv (.tmp 108))⟩]
def c13z38 : ICode := .seq (.ops (some (101, true)) [⟨(some 107), .p (.pick (.tmp 104) (.const (.bool true)) (.tmp 106))⟩])
 (.cut [101, 107] c13z40)
def c13z36 : ICode := .seq (.ops (some (104, false)) [⟨(some 105), .p (.mv (.tmp 19))⟩,
    ⟨(some 106), .p (.bin .eql (.tmp 105) (.const (.int .i64 (5))))⟩])
 (.cut [101, 104, 106] c13z38)
def c13z34 : ICode := .seq (.ops (some (101, true)) [⟨(some 102), .p (.mv (.tmp 10))⟩,
    ⟨(some 103), .p (.bin .eql (.tmp 102) (.const (.string ⟨#[]⟩)))⟩,
    ⟨(some 104), .p (.mv (.tmp 103))⟩])
 (.cut [19, 101, 104] c13z36)
def c13z32 : ICode := .seq (.ops none [⟨(some 100), .p (.pick (.tmp 94) (.tmp 99) (.const (.bool false)))⟩,
    ⟨(some 101), .p (.mv (.tmp 100))⟩])
 (.cut [10, 19, 101] c13z34)
def c13z30 : ICode := .seq (.ops (some (94, true)) [⟨(some 95), .p (.mv (.tmp 19))⟩,
    ⟨(some 96), .p (.bin .eql (.tmp 95) (.const (.int .i64 (0))))⟩,
    ⟨(some 97), .p (.mv (.tmp 10))⟩,
    ⟨(some 98), .p (.bin .eql (.tmp 97) (.const (.string ⟨#[]⟩)))⟩,
    ⟨(some 99), .p (.eqb false (.tmp 96) (.tmp 98))⟩])
 (.cut [10, 19, 94, 99] c13z32)
def c13z28 : ICode := .seq (.ops none [⟨(some 93), .p (.pick (.tmp 90) (.tmp 92) (.const (.bool false)))⟩,
    ⟨(some 94), .p (.mv (.tmp 93))⟩])
 (.cut [10, 19, 94] c13z30)
def c13z26 : ICode := .seq (.ops (some (90, true)) [⟨(some 91), .p (.mv (.tmp 17))⟩,
    ⟨(some 92), .p (.bin .eql (.tmp 91) (.const (.int .i64 (0))))⟩])
 (.cut [10, 19, 90, 92] c13z28)
def c13z24 : ICode := .ret
def c13z7 : ICode := .seq (.ops none [⟨(some 72), .p (.mv (.tmp 7))⟩,
    ⟨(some 73), .p (.mv (.tmp 8))⟩,
    ⟨(some 74), .p (.mv (.tmp 9))⟩,
    ⟨(some 75), .p (.mv (.tmp 12))⟩,
    ⟨(some 76), .p (.bin .add (.tmp 74) (.tmp 75))⟩,
    ⟨(some 77), .p (.mv (.tmp 11))⟩,
    ⟨(some 78), .call 18 [(.tmp 72), (.tmp 73), (.tmp 76), (.tmp 77)]⟩,
    ⟨(some 71), .p (.mv (.tmp 78))⟩,
    ⟨(some 79), .p (.ext (.tmp 71) 0)⟩,
    ⟨(some 80), .p (.ext (.tmp 71) 1)⟩,
    ⟨(some 16), .p (.mv (.tmp 79))⟩,
    ⟨(some 17), .p (.mv (.tmp 80))⟩])
 (.seq (.ops none [⟨(some 82), .p (.mv (.tmp 7))⟩,
    ⟨(some 83), .p (.mv (.tmp 8))⟩,
    ⟨(some 84), .p (.mv (.tmp 11))⟩,
    ⟨(some 85), .p (.mv (.tmp 9))⟩,
    ⟨(some 86), .call 51 [(.tmp 82), (.tmp 83), (.tmp 84), (.tmp 85)]⟩,
    ⟨(some 81), .p (.mv (.tmp 86))⟩,
    ⟨(some 87), .p (.ext (.tmp 81) 0)⟩,
    ⟨(some 88), .p (.ext (.tmp 81) 1)⟩,
    ⟨(some 18), .p (.mv (.tmp 87))⟩,
    ⟨(some 19), .p (.mv (.tmp 88))⟩])
 (.seq (.seq (.ops none [⟨(some 89), .p (.mv (.tmp 16))⟩,
     ⟨(some 90), .p (.mv (.tmp 89))⟩])
  (.cut [10, 17, 19, 90] c13z26)) c13z24))
def c13 : ICode := .seq (.ops none [⟨(some 3), .e (.box 54 (.tmp 0))⟩,
    ⟨(some 6), .p (.mv (.const (.bool false)))⟩])
 (.seq (.ops none [⟨(some 21), .l (.load true 2 (.tmp 3))⟩,
    ⟨(some 22), .call 30 [(.tmp 21)]⟩,
    ⟨(some 20), .p (.mv (.tmp 22))⟩,
    ⟨(some 23), .p (.ext (.tmp 20) 0)⟩,
    ⟨(some 24), .p (.ext (.tmp 20) 1)⟩,
    ⟨(some 7), .p (.mv (.tmp 23))⟩,
    ⟨(some 8), .p (.mv (.tmp 24))⟩])
 (.seq (.ops none [⟨(some 25), .p (.mv (.tmp 7))⟩,
    ⟨(some 26), .p (.mv (.tmp 1))⟩,
    ⟨(some 27), .call 31 [(.tmp 25), (.tmp 26), (.const (.int .i64 (20)))]⟩,
    ⟨(some 28), .p (.mv (.tmp 7))⟩,
    ⟨(some 29), .p (.mv (.tmp 2))⟩,
    ⟨(some 30), .call 31 [(.tmp 28), (.tmp 29), (.const (.int .i64 (20)))]⟩,
    ⟨(some 9), .p (.mv (.tmp 27))⟩,
    ⟨(some 10), .p (.mv (.tmp 30))⟩])
 (.seq (.ops none [⟨(some 31), .p (.mv (.tmp 8))⟩,
    ⟨(some 32), .p (.mv (.tmp 9))⟩,
    ⟨(some 33), .p (.mv (.tmp 10))⟩,
    ⟨(some 34), .p (.bin .add (.tmp 32) (.tmp 33))⟩,
    ⟨(some 35), .e (.mkSl 5 0 [(.int .u8 (0))] [])⟩,
    ⟨(some 36), .p (.mv (.tmp 1))⟩,
    ⟨(some 37), .e (.app 5 1 1 (.tmp 35) (.tmp 36))⟩,
    ⟨(some 38), .p (.mv (.tmp 2))⟩,
    ⟨(some 39), .e (.app 5 1 1 (.tmp 37) (.tmp 38))⟩,
    ⟨(some 40), .call 32 [(.tmp 31), (.tmp 34), (.tmp 39)]⟩,
    ⟨(some 11), .p (.mv (.tmp 40))⟩])
 (.seq (.ops none [⟨(some 42), .p (.mv (.tmp 7))⟩,
    ⟨(some 43), .p (.mv (.tmp 8))⟩,
    ⟨(some 44), .p (.mv (.tmp 9))⟩,
    ⟨(some 45), .p (.mv (.tmp 11))⟩,
    ⟨(some 46), .call 51 [(.tmp 42), (.tmp 43), (.tmp 44), (.tmp 45)]⟩,
    ⟨(some 41), .p (.mv (.tmp 46))⟩,
    ⟨(some 47), .p (.ext (.tmp 41) 0)⟩,
    ⟨(some 48), .p (.ext (.tmp 41) 1)⟩,
    ⟨(some 12), .p (.mv (.tmp 47))⟩,
    ⟨(some 13), .p (.mv (.tmp 48))⟩])
 (.seq (.ops none [⟨(some 50), .p (.mv (.tmp 7))⟩,
    ⟨(some 51), .p (.mv (.tmp 8))⟩,
    ⟨(some 52), .p (.mv (.tmp 10))⟩,
    ⟨(some 53), .call 41 [(.tmp 50), (.tmp 51), (.tmp 52)]⟩,
    ⟨(some 49), .p (.mv (.tmp 53))⟩,
    ⟨(some 54), .p (.ext (.tmp 49) 0)⟩,
    ⟨(some 55), .p (.ext (.tmp 49) 1)⟩,
    ⟨(some 14), .p (.mv (.tmp 54))⟩,
    ⟨(some 15), .p (.mv (.tmp 55))⟩])
 (.seq (.seq (.seq (.ops none [⟨(some 56), .p (.mv (.tmp 13))⟩,
      ⟨(some 57), .p (.bin .neq (.tmp 56) (.const (.int .i64 (0))))⟩,
      ⟨(some 58), .p (.mv (.tmp 57))⟩])
   (.cut [7, 8, 9, 10, 11, 12, 14, 15, 58] c13z10)) c13z8) c13z7))))))
theorem k13 : compFn Try.prog 13 [[], [], [], [], [], [], [7, 8, 9, 10, 11, 12, 14, 15, 58], [7, 8, 9, 10, 11, 12, 14, 58, 60], [7, 8, 9, 10, 11, 12, 14, 62], [7, 8, 9, 10, 11, 12, 62, 65], [7, 8, 9, 10, 11, 12, 67], [7, 8, 9, 10, 11, 12, 67, 69], [], [], [], [], [], [10, 17, 19, 90], [10, 19, 90, 92], [10, 19, 94], [10, 19, 94, 99], [10, 19, 101], [19, 101, 104], [101, 104, 106], [101, 107], []] = some (109, c13, [.tmp 6]) := by kernel_rfl
def K13z0 (_P : Program) (K : Value → Heap → Prop) : Exit → (Nat → Value) → Heap → Prop := bodyP [.tmp 6] K
def K13z7 (P : Program) (K : Value → Heap → Prop) : Exit → (Nat → Value) → Heap → Prop := thenK (iwpP P c13z7 (K13z0 P K)) (K13z0 P K)
def K13z8 (P : Program) (K : Value → Heap → Prop) : Exit → (Nat → Value) → Heap → Prop := thenK (iwpP P c13z8 (K13z7 P K)) (K13z7 P K)
def K13z24 (P : Program) (K : Value → Heap → Prop) : Exit → (Nat → Value) → Heap → Prop := thenK (iwpP P c13z24 (K13z0 P K)) (K13z0 P K)
def p13z10 (P : Program) (K : Value → Heap → Prop) (k7 p8 s9 r10 t11 u12 v14 f15 x58 : Value) (h : Heap) : Prop := CutP (iwpP P c13z10 (K13z8 P K)) [7, 8, 9, 10, 11, 12, 14, 15, 58] [k7, p8, s9, r10, t11, u12, v14, f15, x58] h
def p13z12 (P : Program) (K : Value → Heap → Prop) (k7 p8 s9 r10 t11 u12 v14 x58 x60 : Value) (h : Heap) : Prop := CutP (iwpP P c13z12 (K13z8 P K)) [7, 8, 9, 10, 11, 12, 14, 58, 60] [k7, p8, s9, r10, t11, u12, v14, x58, x60] h
def p13z14 (P : Program) (K : Value → Heap → Prop) (k7 p8 s9 r10 t11 u12 v14 x62 : Value) (h : Heap) : Prop := CutP (iwpP P c13z14 (K13z8 P K)) [7, 8, 9, 10, 11, 12, 14, 62] [k7, p8, s9, r10, t11, u12, v14, x62] h
def p13z16 (P : Program) (K : Value → Heap → Prop) (k7 p8 s9 r10 t11 u12 x62 x65 : Value) (h : Heap) : Prop := CutP (iwpP P c13z16 (K13z8 P K)) [7, 8, 9, 10, 11, 12, 62, 65] [k7, p8, s9, r10, t11, u12, x62, x65] h
def p13z18 (P : Program) (K : Value → Heap → Prop) (k7 p8 s9 r10 t11 u12 x67 : Value) (h : Heap) : Prop := CutP (iwpP P c13z18 (K13z8 P K)) [7, 8, 9, 10, 11, 12, 67] [k7, p8, s9, r10, t11, u12, x67] h
def p13z20 (P : Program) (K : Value → Heap → Prop) (k7 p8 s9 r10 t11 u12 x67 x69 : Value) (h : Heap) : Prop := CutP (iwpP P c13z20 (K13z8 P K)) [7, 8, 9, 10, 11, 12, 67, 69] [k7, p8, s9, r10, t11, u12, x67, x69] h
def p13z26 (P : Program) (K : Value → Heap → Prop) (r10 g17 h19 x90 : Value) (h : Heap) : Prop := CutP (iwpP P c13z26 (K13z24 P K)) [10, 17, 19, 90] [r10, g17, h19, x90] h
def p13z28 (P : Program) (K : Value → Heap → Prop) (r10 h19 x90 x92 : Value) (h : Heap) : Prop := CutP (iwpP P c13z28 (K13z24 P K)) [10, 19, 90, 92] [r10, h19, x90, x92] h
def p13z30 (P : Program) (K : Value → Heap → Prop) (r10 h19 x94 : Value) (h : Heap) : Prop := CutP (iwpP P c13z30 (K13z24 P K)) [10, 19, 94] [r10, h19, x94] h
def p13z32 (P : Program) (K : Value → Heap → Prop) (r10 h19 x94 x99 : Value) (h : Heap) : Prop := CutP (iwpP P c13z32 (K13z24 P K)) [10, 19, 94, 99] [r10, h19, x94, x99] h
def p13z34 (P : Program) (K : Value → Heap → Prop) (r10 h19 x101 : Value) (h : Heap) : Prop := CutP (iwpP P c13z34 (K13z24 P K)) [10, 19, 101] [r10, h19, x101] h
def p13z36 (P : Program) (K : Value → Heap → Prop) (h19 x101 x104 : Value) (h : Heap) : Prop := CutP (iwpP P c13z36 (K13z24 P K)) [19, 101, 104] [h19, x101, x104] h
def p13z38 (P : Program) (K : Value → Heap → Prop) (x101 x104 x106 : Value) (h : Heap) : Prop := CutP (iwpP P c13z38 (K13z24 P K)) [101, 104, 106] [x101, x104, x106] h
def p13z40 (P : Program) (K : Value → Heap → Prop) (x101 x107 : Value) (h : Heap) : Prop := CutP (iwpP P c13z40 (K13z24 P K)) [101, 107] [x101, x107] h
theorem q13z20 (P : Program) (K : Value → Heap → Prop) (k7 p8 s9 r10 t11 u12 x67 x69 : Value) (h : Heap) : p13z20 P K k7 p8 s9 r10 t11 u12 x67 x69 h =
  (OP (iPick x67 (.bool true) x69) fun x70 =>
  IfP x70
    (K (.bool false) h)
    (OP (iBin .add s9 u12) fun x76 =>
    CallP P 18 [k7, p8, x76, t11] h fun x78 h_1 =>
    OP (iExt 0 x78) fun x79 =>
    OP (iExt 1 x78) fun x80 =>
    CallP P 51 [k7, p8, t11, s9] h_1 fun x86 h_2 =>
    OP (iExt 0 x86) fun x87 =>
    OP (iExt 1 x86) fun x88 =>
    p13z26 P K r10 x80 x88 x79 h_2)) := (CutP_def _ _ _ _).trans (by kernel_rfl)
theorem q13z18 (P : Program) (K : Value → Heap → Prop) (k7 p8 s9 r10 t11 u12 x67 : Value) (h : Heap) : p13z18 P K k7 p8 s9 r10 t11 u12 x67 h =
  (GdP x67 false
    (CallP P 20 [] h fun x68 h_1 =>
    OP (iUn .not x68) fun x69 =>
    p13z20 P K k7 p8 s9 r10 t11 u12 x67 x69 h_1)
    (p13z20 P K k7 p8 s9 r10 t11 u12 x67 undef h)) := (CutP_def _ _ _ _).trans (by kernel_rfl)
theorem q13z16 (P : Program) (K : Value → Heap → Prop) (k7 p8 s9 r10 t11 u12 x62 x65 : Value) (h : Heap) : p13z16 P K k7 p8 s9 r10 t11 u12 x62 x65 h =
  (OP (iPick x62 (.bool true) x65) fun x66 =>
  p13z18 P K k7 p8 s9 r10 t11 u12 x66 h) := (CutP_def _ _ _ _).trans (by kernel_rfl)
theorem q13z14 (P : Program) (K : Value → Heap → Prop) (k7 p8 s9 r10 t11 u12 v14 x62 : Value) (h : Heap) : p13z14 P K k7 p8 s9 r10 t11 u12 v14 x62 h =
  (GdP x62 false
    (OP (iBin .neq u12 v14) fun x65 =>
    p13z16 P K k7 p8 s9 r10 t11 u12 x62 x65 h)
    (p13z16 P K k7 p8 s9 r10 t11 u12 x62 undef h)) := (CutP_def _ _ _ _).trans (by kernel_rfl)
theorem q13z12 (P : Program) (K : Value → Heap → Prop) (k7 p8 s9 r10 t11 u12 v14 x58 x60 : Value) (h : Heap) : p13z12 P K k7 p8 s9 r10 t11 u12 v14 x58 x60 h =
  (OP (iPick x58 (.bool true) x60) fun x61 =>
  p13z14 P K k7 p8 s9 r10 t11 u12 v14 x61 h) := (CutP_def _ _ _ _).trans (by kernel_rfl)
theorem q13z10 (P : Program) (K : Value → Heap → Prop) (k7 p8 s9 r10 t11 u12 v14 f15 x58 : Value) (h : Heap) : p13z10 P K k7 p8 s9 r10 t11 u12 v14 f15 x58 h =
  (GdP x58 false
    (OP (iBin .neq f15 (.int .i64 (0))) fun x60 =>
    p13z12 P K k7 p8 s9 r10 t11 u12 v14 x58 x60 h)
    (p13z12 P K k7 p8 s9 r10 t11 u12 v14 x58 undef h)) := (CutP_def _ _ _ _).trans (by kernel_rfl)
theorem q13z40 (P : Program) (K : Value → Heap → Prop) (x101 x107 : Value) (h : Heap) : p13z40 P K x101 x107 h =
  (OP (iPick x101 x107 (.bool false)) fun x108 =>
  K x108 h) := (CutP_def _ _ _ _).trans (by kernel_rfl)
theorem q13z38 (P : Program) (K : Value → Heap → Prop) (x101 x104 x106 : Value) (h : Heap) : p13z38 P K x101 x104 x106 h =
  (GdP x101 true
    (OP (iPick x104 (.bool true) x106) fun x107 =>
    p13z40 P K x101 x107 h)
    (p13z40 P K x101 undef h)) := (CutP_def _ _ _ _).trans (by kernel_rfl)
theorem q13z36 (P : Program) (K : Value → Heap → Prop) (h19 x101 x104 : Value) (h : Heap) : p13z36 P K h19 x101 x104 h =
  (GdP x104 false
    (OP (iBin .eql h19 (.int .i64 (5))) fun x106 =>
    p13z38 P K x101 x104 x106 h)
    (p13z38 P K x101 x104 undef h)) := (CutP_def _ _ _ _).trans (by kernel_rfl)
theorem q13z34 (P : Program) (K : Value → Heap → Prop) (r10 h19 x101 : Value) (h : Heap) : p13z34 P K r10 h19 x101 h =
  (GdP x101 true
    (OP (iBin .eql r10 (.string ⟨#[]⟩)) fun x103 =>
    p13z36 P K h19 x101 x103 h)
    (p13z36 P K h19 x101 undef h)) := (CutP_def _ _ _ _).trans (by kernel_rfl)
theorem q13z32 (P : Program) (K : Value → Heap → Prop) (r10 h19 x94 x99 : Value) (h : Heap) : p13z32 P K r10 h19 x94 x99 h =
  (OP (iPick x94 x99 (.bool false)) fun x100 =>
  p13z34 P K r10 h19 x100 h) := (CutP_def _ _ _ _).trans (by kernel_rfl)
theorem q13z30 (P : Program) (K : Value → Heap → Prop) (r10 h19 x94 : Value) (h : Heap) : p13z30 P K r10 h19 x94 h =
  (GdP x94 true
    (OP (iBin .eql h19 (.int .i64 (0))) fun x96 =>
    OP (iBin .eql r10 (.string ⟨#[]⟩)) fun x98 =>
    OP (iEqb false x96 x98) fun x99 =>
    p13z32 P K r10 h19 x94 x99 h)
    (p13z32 P K r10 h19 x94 undef h)) := (CutP_def _ _ _ _).trans (by kernel_rfl)
theorem q13z28 (P : Program) (K : Value → Heap → Prop) (r10 h19 x90 x92 : Value) (h : Heap) : p13z28 P K r10 h19 x90 x92 h =
  (OP (iPick x90 x92 (.bool false)) fun x93 =>
  p13z30 P K r10 h19 x93 h) := (CutP_def _ _ _ _).trans (by kernel_rfl)
theorem q13z26 (P : Program) (K : Value → Heap → Prop) (r10 g17 h19 x90 : Value) (h : Heap) : p13z26 P K r10 g17 h19 x90 h =
  (GdP x90 true
    (OP (iBin .eql g17 (.int .i64 (0))) fun x92 =>
    p13z28 P K r10 h19 x90 x92 h)
    (p13z28 P K r10 h19 x90 undef h)) := (CutP_def _ _ _ _).trans (by kernel_rfl)
def T13 (P : Program) (K : Value → Heap → Prop) (c0 x1 y2 : Value) (h : Heap) : Prop :=
  OH (iBox 54 h c0) fun c3 h_1 =>
  OP (iLoad true 2 h_1 c3) fun x21 =>
  CallP P 30 [x21] h_1 fun x22 h_2 =>
  OP (iExt 0 x22) fun x23 =>
  OP (iExt 1 x22) fun x24 =>
  CallP P 31 [x23, x1, (.int .i64 (20))] h_2 fun x27 h_3 =>
  CallP P 31 [x23, y2, (.int .i64 (20))] h_3 fun x30 h_4 =>
  OP (iBin .add x27 x30) fun x34 =>
  OH (iMkSl 5 0 [(.int .u8 (0))] h_4 []) fun x35 h_5 =>
  OH (iApp 5 1 1 h_5 x35 x1) fun x37 h_6 =>
  OH (iApp 5 1 1 h_6 x37 y2) fun x39 h_7 =>
  CallP P 32 [x24, x34, x39] h_7 fun x40 h_8 =>
  CallP P 51 [x23, x24, x27, x40] h_8 fun x46 h_9 =>
  OP (iExt 0 x46) fun x47 =>
  OP (iExt 1 x46) fun x48 =>
  CallP P 41 [x23, x24, x30] h_9 fun x53 h_10 =>
  OP (iExt 0 x53) fun x54 =>
  OP (iExt 1 x53) fun x55 =>
  OP (iBin .neq x48 (.int .i64 (0))) fun x57 =>
  p13z10 P K x23 x24 x27 x30 x40 x47 x54 x55 x57 h_10
theorem e13 (P : Program) (K : Value → Heap → Prop) (c0 x1 y2 : Value) (h : Heap) : iwpP P c13 (bodyP [.tmp 6] K) (frame0 [c0, x1, y2]) h = T13 P K c0 x1 y2 h := by kernel_rfl
theorem f13 {K : Value → Heap → Prop} {c0 x1 y2 : Value} {h : Heap} (H : T13 Try.prog K c0 x1 y2 h) : CallP Try.prog 13 [c0, x1, y2] h K :=
  callP_intro k13 (Nat.le_of_ble_eq_true rfl) ((e13 Try.prog K c0 x1 y2 h).mpr H)
/-! F15: pommel/pommellaw03.StitchLattice -/
def c15z24 : ICode := .ops none [⟨(some 97), .p (.pick (.tmp 94) (.const (.bool true)) (.tmp 96))⟩]
def c15z22 : ICode := .seq (.ops (some (94, false)) [⟨(some 95), .call 20 []⟩,
    ⟨(some 96), .p (.un .not (.tmp 95))⟩])
 (.cut [7, 8, 9, 10, 11, 12, 94, 96] c15z24)
def c15z20 : ICode := .seq (.ops none [⟨(some 93), .p (.pick (.tmp 87) (.const (.bool true)) (.tmp 92))⟩,
    ⟨(some 94), .p (.mv (.tmp 93))⟩])
 (.cut [7, 8, 9, 10, 11, 12, 94] c15z22)
def c15z18 : ICode := .seq (.ops (some (87, false)) [⟨(some 88), .p (.mv (.tmp 12))⟩,
    ⟨(some 89), .p (.lenS (.tmp 88))⟩,
    ⟨(some 90), .p (.mv (.tmp 9))⟩,
    ⟨(some 91), .p (.lenS (.tmp 90))⟩,
    ⟨(some 92), .p (.bin .lss (.tmp 89) (.tmp 91))⟩])
 (.cut [7, 8, 9, 10, 11, 12, 87, 92] c15z20)
def c15z16 : ICode := .seq (.ops none [⟨(some 86), .p (.pick (.tmp 82) (.const (.bool true)) (.tmp 85))⟩,
    ⟨(some 87), .p (.mv (.tmp 86))⟩])
 (.cut [7, 8, 9, 10, 11, 12, 87] c15z18)
def c15z14 : ICode := .seq (.ops (some (82, false)) [⟨(some 83), .p (.mv (.tmp 12))⟩,
    ⟨(some 84), .p (.mv (.tmp 14))⟩,
    ⟨(some 85), .p (.bin .neq (.tmp 83) (.tmp 84))⟩])
 (.cut [7, 8, 9, 10, 11, 12, 82, 85] c15z16)
def c15z12 : ICode := .seq (.ops none [⟨(some 81), .p (.pick (.tmp 78) (.const (.bool true)) (.tmp 80))⟩,
    ⟨(some 82), .p (.mv (.tmp 81))⟩])
 (.cut [7, 8, 9, 10, 11, 12, 14, 82] c15z14)
def c15z10 : ICode := .seq (.ops (some (78, false)) [⟨(some 79), .p (.mv (.tmp 15))⟩,
    ⟨(some 80), .p (.bin .neq (.tmp 79) (.const (.int .i64 (0))))⟩])
 (.cut [7, 8, 9, 10, 11, 12, 14, 78, 80] c15z12)
def c15z8 : ICode := .cond (.tmp 97) (.seq (.ops none [⟨(some 6), .p (.mv (.const (.bool false)))⟩])
  (.ret))
 (.skip)
def c15z38 : ICode := .ops none [⟨(some 131), .p (.pick (.tmp 128) (.const (.bool true)) (.tmp 130))⟩]
def c15z36 : ICode := .seq (.ops (some (128, false)) [⟨(some 129), .p (.mv (.tmp 21))⟩,
    ⟨(some 130), .p (.bin .neq (.tmp 129) (.const (.int .i64 (0))))⟩])
 (.cut [7, 8, 10, 11, 12, 16, 18, 128, 130] c15z38)
def c15z34 : ICode := .seq (.ops none [⟨(some 127), .p (.pick (.tmp 124) (.const (.bool true)) (.tmp 126))⟩,
    ⟨(some 128), .p (.mv (.tmp 127))⟩])
 (.cut [7, 8, 10, 11, 12, 16, 18, 21, 128] c15z36)
def c15z32 : ICode := .seq (.ops (some (124, false)) [⟨(some 125), .p (.mv (.tmp 19))⟩,
    ⟨(some 126), .p (.bin .neq (.tmp 125) (.const (.int .i64 (0))))⟩])
 (.cut [7, 8, 10, 11, 12, 16, 18, 21, 124, 126] c15z34)
def c15z30 : ICode := .cond (.tmp 131) (.seq (.ops none [⟨(some 6), .p (.mv (.const (.bool false)))⟩])
  (.ret))
 (.skip)
def c15z64 : ICode := .ops none [⟨(some 179), .p (.pick (.tmp 172) (.const (.bool true)) (.tmp 178))⟩]
def c15z62 : ICode := .seq (.ops (some (172, false)) [⟨(some 178), .p (.pick (.tmp 175) (.tmp 177) (.const (.bool false)))⟩])
 (.cut [7, 8, 10, 11, 12, 24, 25, 172, 178] c15z64)
def c15z60 : ICode := .seq (.ops (some (175, true)) [⟨(some 176), .p (.mv (.tmp 25))⟩,
    ⟨(some 177), .p (.bin .neq (.tmp 176) (.const (.int .i64 (5))))⟩])
 (.cut [7, 8, 10, 11, 12, 24, 25, 172, 175, 177] c15z62)
def c15z58 : ICode := .seq (.ops (some (172, false)) [⟨(some 173), .p (.mv (.tmp 25))⟩,
    ⟨(some 174), .p (.bin .neq (.tmp 173) (.const (.int .i64 (0))))⟩,
    ⟨(some 175), .p (.mv (.tmp 174))⟩])
 (.cut [7, 8, 10, 11, 12, 24, 25, 172, 175] c15z60)
def c15z56 : ICode := .seq (.ops none [⟨(some 171), .p (.pick (.tmp 167) (.const (.bool true)) (.tmp 170))⟩,
    ⟨(some 172), .p (.mv (.tmp 171))⟩])
 (.cut [7, 8, 10, 11, 12, 24, 25, 172] c15z58)
def c15z54 : ICode := .seq (.ops (some (167, false)) [⟨(some 168), .p (.mv (.tmp 24))⟩,
    ⟨(some 169), .p (.mv (.tmp 26))⟩,
    ⟨(some 170), .p (.bin .neq (.tmp 168) (.tmp 169))⟩])
 (.cut [7, 8, 10, 11, 12, 24, 25, 167, 170] c15z56)
def c15z52 : ICode := .seq (.ops none [⟨(some 166), .p (.pick (.tmp 162) (.const (.bool true)) (.tmp 165))⟩,
    ⟨(some 167), .p (.mv (.tmp 166))⟩])
 (.cut [7, 8, 10, 11, 12, 24, 25, 26, 167] c15z54)
def c15z50 : ICode := .seq (.ops (some (162, false)) [⟨(some 163), .p (.mv (.tmp 25))⟩,
    ⟨(some 164), .p (.mv (.tmp 27))⟩,
    ⟨(some 165), .p (.bin .neq (.tmp 163) (.tmp 164))⟩])
 (.cut [7, 8, 10, 11, 12, 24, 25, 26, 162, 165] c15z52)
def c15z48 : ICode := .seq (.ops none [⟨(some 161), .p (.pick (.tmp 158) (.const (.bool true)) (.tmp 160))⟩,
    ⟨(some 162), .p (.mv (.tmp 161))⟩])
 (.cut [7, 8, 10, 11, 12, 24, 25, 26, 27, 162] c15z50)
def c15z46 : ICode := .seq (.ops (some (158, false)) [⟨(some 159), .p (.mv (.tmp 23))⟩,
    ⟨(some 160), .p (.bin .neq (.tmp 159) (.const (.int .i64 (0))))⟩])
 (.cut [7, 8, 10, 11, 12, 24, 25, 26, 27, 158, 160] c15z48)
def c15z44 : ICode := .cond (.tmp 179) (.seq (.ops none [⟨(some 6), .p (.mv (.const (.bool false)))⟩])
  (.ret))
 (.skip)
def c15z93 : ICode := .ops none [⟨(some 244), .p (.pick (.tmp 232) (.tmp 243) (.const (.bool false)))⟩,
   ⟨(some 6), .p (.mv (.tmp 244))⟩]
def c15z91 : ICode := .seq (.ops (some (232, true)) [⟨(some 233), .p (.mv (.tmp 24))⟩,
    ⟨(some 234), .p (.lenS (.tmp 233))⟩,
    ⟨(some 235), .p (.mv (.tmp 10))⟩,
    ⟨(some 236), .p (.lenS (.tmp 235))⟩,
    ⟨(some 237), .p (.mv (.tmp 11))⟩,
    ⟨(some 238), .p (.lenS (.tmp 237))⟩,
    ⟨(some 239), .p (.bin .add (.tmp 236) (.tmp 238))⟩,
    ⟨(some 240), .p (.mv (.tmp 12))⟩,
    ⟨(some 241), .p (.lenS (.tmp 240))⟩,
    ⟨(some 242), .p (.bin .sub (.tmp 239) (.tmp 241))⟩,
    ⟨(some 243), .p (.bin .eql (.tmp 234) (.tmp 242))⟩])
 (.cut [232, 243] c15z93)
def c15z89 : ICode := .seq (.ops none [⟨(some 231), .p (.pick (.tmp 227) (.tmp 230) (.const (.bool false)))⟩,
    ⟨(some 232), .p (.mv (.tmp 231))⟩])
 (.cut [10, 11, 12, 24, 232] c15z91)
def c15z87 : ICode := .seq (.ops (some (227, true)) [⟨(some 228), .p (.mv (.tmp 32))⟩,
    ⟨(some 229), .p (.mv (.tmp 34))⟩,
    ⟨(some 230), .p (.bin .eql (.tmp 228) (.tmp 229))⟩])
 (.cut [10, 11, 12, 24, 227, 230] c15z89)
def c15z85 : ICode := .seq (.ops none [⟨(some 226), .p (.pick (.tmp 223) (.tmp 225) (.const (.bool false)))⟩,
    ⟨(some 227), .p (.mv (.tmp 226))⟩])
 (.cut [10, 11, 12, 24, 32, 34, 227] c15z87)
def c15z83 : ICode := .seq (.ops (some (223, true)) [⟨(some 224), .p (.mv (.tmp 35))⟩,
    ⟨(some 225), .p (.bin .eql (.tmp 224) (.const (.int .i64 (0))))⟩])
 (.cut [10, 11, 12, 24, 32, 34, 223, 225] c15z85)
def c15z81 : ICode := .seq (.ops none [⟨(some 222), .p (.pick (.tmp 219) (.tmp 221) (.const (.bool false)))⟩,
    ⟨(some 223), .p (.mv (.tmp 222))⟩])
 (.cut [10, 11, 12, 24, 32, 34, 35, 223] c15z83)
def c15z79 : ICode := .seq (.ops (some (219, true)) [⟨(some 220), .p (.mv (.tmp 33))⟩,
    ⟨(some 221), .p (.bin .eql (.tmp 220) (.const (.int .i64 (0))))⟩])
 (.cut [10, 11, 12, 24, 32, 34, 35, 219, 221] c15z81)
def c15z77 : ICode := .seq (.ops none [⟨(some 218), .p (.pick (.tmp 215) (.tmp 217) (.const (.bool false)))⟩,
    ⟨(some 219), .p (.mv (.tmp 218))⟩])
 (.cut [10, 11, 12, 24, 32, 33, 34, 35, 219] c15z79)
def c15z75 : ICode := .seq (.ops (some (215, true)) [⟨(some 216), .p (.mv (.tmp 31))⟩,
    ⟨(some 217), .p (.bin .eql (.tmp 216) (.const (.int .i64 (0))))⟩])
 (.cut [10, 11, 12, 24, 32, 33, 34, 35, 215, 217] c15z77)
def c15z73 : ICode := .ret
def c15z43 : ICode := .seq (.seq (.ops none [⟨(some 180), .p (.mv (.tmp 25))⟩,
     ⟨(some 181), .p (.bin .neq (.tmp 180) (.const (.int .i64 (0))))⟩])
  (.cond (.tmp 181) (.seq (.ops none [⟨(some 6), .p (.mv (.const (.bool true)))⟩])
   (.ret))
  (.skip)))
 (.seq (.ops none [⟨(some 183), .p (.mv (.tmp 7))⟩,
    ⟨(some 184), .p (.mv (.tmp 8))⟩,
    ⟨(some 185), .p (.mv (.tmp 10))⟩,
    ⟨(some 186), .p (.mv (.tmp 24))⟩,
    ⟨(some 187), .call 51 [(.tmp 183), (.tmp 184), (.tmp 185), (.tmp 186)]⟩,
    ⟨(some 182), .p (.mv (.tmp 187))⟩,
    ⟨(some 188), .p (.ext (.tmp 182) 0)⟩,
    ⟨(some 189), .p (.ext (.tmp 182) 1)⟩,
    ⟨(some 28), .p (.mv (.tmp 188))⟩,
    ⟨(some 29), .p (.mv (.tmp 189))⟩])
 (.seq (.ops none [⟨(some 191), .p (.mv (.tmp 7))⟩,
    ⟨(some 192), .p (.mv (.tmp 8))⟩,
    ⟨(some 193), .p (.mv (.tmp 11))⟩,
    ⟨(some 194), .p (.mv (.tmp 24))⟩,
    ⟨(some 195), .call 51 [(.tmp 191), (.tmp 192), (.tmp 193), (.tmp 194)]⟩,
    ⟨(some 190), .p (.mv (.tmp 195))⟩,
    ⟨(some 196), .p (.ext (.tmp 190) 0)⟩,
    ⟨(some 197), .p (.ext (.tmp 190) 1)⟩,
    ⟨(some 30), .p (.mv (.tmp 196))⟩,
    ⟨(some 31), .p (.mv (.tmp 197))⟩])
 (.seq (.ops none [⟨(some 199), .p (.mv (.tmp 7))⟩,
    ⟨(some 200), .p (.mv (.tmp 8))⟩,
    ⟨(some 201), .p (.mv (.tmp 10))⟩,
    ⟨(some 202), .p (.mv (.tmp 24))⟩,
    ⟨(some 203), .call 47 [(.tmp 199), (.tmp 200), (.tmp 201), (.tmp 202)]⟩,
    ⟨(some 198), .p (.mv (.tmp 203))⟩,
    ⟨(some 204), .p (.ext (.tmp 198) 0)⟩,
    ⟨(some 205), .p (.ext (.tmp 198) 1)⟩,
    ⟨(some 32), .p (.mv (.tmp 204))⟩,
    ⟨(some 33), .p (.mv (.tmp 205))⟩])
 (.seq (.ops none [⟨(some 207), .p (.mv (.tmp 7))⟩,
    ⟨(some 208), .p (.mv (.tmp 8))⟩,
    ⟨(some 209), .p (.mv (.tmp 10))⟩,
    ⟨(some 210), .call 41 [(.tmp 207), (.tmp 208), (.tmp 209)]⟩,
    ⟨(some 206), .p (.mv (.tmp 210))⟩,
    ⟨(some 211), .p (.ext (.tmp 206) 0)⟩,
    ⟨(some 212), .p (.ext (.tmp 206) 1)⟩,
    ⟨(some 34), .p (.mv (.tmp 211))⟩,
    ⟨(some 35), .p (.mv (.tmp 212))⟩])
 (.seq (.seq (.ops none [⟨(some 213), .p (.mv (.tmp 29))⟩,
     ⟨(some 214), .p (.bin .eql (.tmp 213) (.const (.int .i64 (0))))⟩,
     ⟨(some 215), .p (.mv (.tmp 214))⟩])
  (.cut [10, 11, 12, 24, 31, 32, 33, 34, 35, 215] c15z75)) c15z73)))))
def c15z29 : ICode := .seq (.ops none [⟨(some 133), .p (.mv (.tmp 7))⟩,
    ⟨(some 134), .p (.mv (.tmp 8))⟩,
    ⟨(some 135), .p (.mv (.tmp 16))⟩,
    ⟨(some 136), .p (.mv (.tmp 18))⟩,
    ⟨(some 137), .call 47 [(.tmp 133), (.tmp 134), (.tmp 135), (.tmp 136)]⟩,
    ⟨(some 132), .p (.mv (.tmp 137))⟩,
    ⟨(some 138), .p (.ext (.tmp 132) 0)⟩,
    ⟨(some 139), .p (.ext (.tmp 132) 1)⟩,
    ⟨(some 22), .p (.mv (.tmp 138))⟩,
    ⟨(some 23), .p (.mv (.tmp 139))⟩])
 (.seq (.ops none [⟨(some 141), .p (.mv (.tmp 7))⟩,
    ⟨(some 142), .p (.mv (.tmp 8))⟩,
    ⟨(some 143), .p (.mv (.tmp 10))⟩,
    ⟨(some 144), .p (.mv (.tmp 11))⟩,
    ⟨(some 145), .call 48 [(.tmp 141), (.tmp 142), (.tmp 143), (.tmp 144)]⟩,
    ⟨(some 140), .p (.mv (.tmp 145))⟩,
    ⟨(some 146), .p (.ext (.tmp 140) 0)⟩,
    ⟨(some 147), .p (.ext (.tmp 140) 1)⟩,
    ⟨(some 24), .p (.mv (.tmp 146))⟩,
    ⟨(some 25), .p (.mv (.tmp 147))⟩])
 (.seq (.ops none [⟨(some 149), .p (.mv (.tmp 7))⟩,
    ⟨(some 150), .p (.mv (.tmp 8))⟩,
    ⟨(some 151), .p (.mv (.tmp 11))⟩,
    ⟨(some 152), .p (.mv (.tmp 10))⟩,
    ⟨(some 153), .call 48 [(.tmp 149), (.tmp 150), (.tmp 151), (.tmp 152)]⟩,
    ⟨(some 148), .p (.mv (.tmp 153))⟩,
    ⟨(some 154), .p (.ext (.tmp 148) 0)⟩,
    ⟨(some 155), .p (.ext (.tmp 148) 1)⟩,
    ⟨(some 26), .p (.mv (.tmp 154))⟩,
    ⟨(some 27), .p (.mv (.tmp 155))⟩])
 (.seq (.seq (.seq (.ops none [⟨(some 156), .p (.mv (.tmp 22))⟩,
      ⟨(some 157), .p (.bin .neq (.tmp 156) (.const (.string ⟨#[]⟩)))⟩,
      ⟨(some 158), .p (.mv (.tmp 157))⟩])
   (.cut [7, 8, 10, 11, 12, 23, 24, 25, 26, 27, 158] c15z46)) c15z44) c15z43)))
def c15z7 : ICode := .seq (.ops none [⟨(some 99), .p (.mv (.tmp 7))⟩,
    ⟨(some 100), .p (.mv (.tmp 8))⟩,
    ⟨(some 101), .p (.mv (.tmp 12))⟩,
    ⟨(some 102), .p (.mv (.tmp 10))⟩,
    ⟨(some 103), .call 51 [(.tmp 99), (.tmp 100), (.tmp 101), (.tmp 102)]⟩,
    ⟨(some 98), .p (.mv (.tmp 103))⟩,
    ⟨(some 104), .p (.ext (.tmp 98) 0)⟩,
    ⟨(some 105), .p (.ext (.tmp 98) 1)⟩,
    ⟨(some 16), .p (.mv (.tmp 104))⟩,
    ⟨(some 17), .p (.mv (.tmp 105))⟩])
 (.seq (.ops none [⟨(some 107), .p (.mv (.tmp 7))⟩,
    ⟨(some 108), .p (.mv (.tmp 8))⟩,
    ⟨(some 109), .p (.mv (.tmp 12))⟩,
    ⟨(some 110), .p (.mv (.tmp 11))⟩,
    ⟨(some 111), .call 51 [(.tmp 107), (.tmp 108), (.tmp 109), (.tmp 110)]⟩,
    ⟨(some 106), .p (.mv (.tmp 111))⟩,
    ⟨(some 112), .p (.ext (.tmp 106) 0)⟩,
    ⟨(some 113), .p (.ext (.tmp 106) 1)⟩,
    ⟨(some 18), .p (.mv (.tmp 112))⟩,
    ⟨(some 19), .p (.mv (.tmp 113))⟩])
 (.seq (.ops none [⟨(some 115), .p (.mv (.tmp 7))⟩,
    ⟨(some 116), .p (.mv (.tmp 8))⟩,
    ⟨(some 117), .p (.mv (.tmp 9))⟩,
    ⟨(some 118), .p (.mv (.tmp 12))⟩,
    ⟨(some 119), .call 51 [(.tmp 115), (.tmp 116), (.tmp 117), (.tmp 118)]⟩,
    ⟨(some 114), .p (.mv (.tmp 119))⟩,
    ⟨(some 120), .p (.ext (.tmp 114) 0)⟩,
    ⟨(some 121), .p (.ext (.tmp 114) 1)⟩,
    ⟨(some 20), .p (.mv (.tmp 120))⟩,
    ⟨(some 21), .p (.mv (.tmp 121))⟩])
 (.seq (.seq (.seq (.ops none [⟨(some 122), .p (.mv (.tmp 17))⟩,
      ⟨(some 123), .p (.bin .neq (.tmp 122) (.const (.int .i64 (0))))⟩,
      ⟨(some 124), .p (.mv (.tmp 123))⟩])
   (.cut [7, 8, 10, 11, 12, 16, 18, 19, 21, 124] c15z32)) c15z30) c15z29)))
def c15 : ICode := .seq (.ops none [⟨(some 3), .e (.box 54 (.tmp 0))⟩,
    ⟨(some 4), .e (.box 83 (.tmp 1))⟩,
    ⟨(some 6), .p (.mv (.const (.bool false)))⟩])
 (.seq (.ops none [⟨(some 37), .l (.load true 2 (.tmp 3))⟩,
    ⟨(some 38), .call 30 [(.tmp 37)]⟩,
    ⟨(some 36), .p (.mv (.tmp 38))⟩,
    ⟨(some 39), .p (.ext (.tmp 36) 0)⟩,
    ⟨(some 40), .p (.ext (.tmp 36) 1)⟩,
    ⟨(some 7), .p (.mv (.tmp 39))⟩,
    ⟨(some 8), .p (.mv (.tmp 40))⟩])
 (.seq (.ops none [⟨(some 41), .p (.mv (.tmp 7))⟩,
    ⟨(some 42), .p (.mv (.tmp 2))⟩,
    ⟨(some 43), .call 31 [(.tmp 41), (.tmp 42), (.const (.int .i64 (8)))]⟩,
    ⟨(some 9), .p (.mv (.tmp 43))⟩])
 (.seq (.dops [(none, [⟨(some 44), .p (.mv (.tmp 9)), 0⟩,
    ⟨(some 45), .p (.mv (.tmp 7)), 0⟩,
    ⟨(some 46), .p (.adrArr 2 1 (.tmp 4) (.const (.int .i64 (0)))), 0⟩,
    ⟨(some 47), .l (.load false 1 (.tmp 46)), 4⟩,
    ⟨(some 48), .call 31 [(.tmp 45), (.tmp 47), (.const (.int .i64 (12)))], 14⟩,
    ⟨(some 49), .p (.bin .add (.tmp 44) (.tmp 48)), 31⟩,
    ⟨(some 50), .p (.mv (.tmp 8)), 0⟩,
    ⟨(some 51), .p (.mv (.tmp 9)), 0⟩,
    ⟨(some 52), .p (.mv (.tmp 7)), 0⟩,
    ⟨(some 53), .p (.adrArr 2 1 (.tmp 4) (.const (.int .i64 (1)))), 0⟩,
    ⟨(some 54), .l (.load false 1 (.tmp 53)), 512⟩,
    ⟨(some 55), .call 31 [(.tmp 52), (.tmp 54), (.const (.int .i64 (12)))], 1822⟩,
    ⟨(some 56), .p (.bin .add (.tmp 51) (.tmp 55)), 3998⟩,
    ⟨(some 57), .p (.adrArr 2 1 (.tmp 4) (.const (.int .i64 (0)))), 0⟩,
    ⟨(some 58), .l (.load false 1 (.tmp 57)), 8192⟩,
    ⟨(some 59), .call 32 [(.tmp 50), (.tmp 56), (.tmp 58)], 32734⟩,
    ⟨(some 10), .p (.mv (.tmp 49)), 65535⟩,
    ⟨(some 11), .p (.mv (.tmp 59)), 131071⟩])])
 (.seq (.ops none [⟨(some 61), .p (.mv (.tmp 7))⟩,
    ⟨(some 62), .p (.mv (.tmp 8))⟩,
    ⟨(some 63), .p (.mv (.tmp 10))⟩,
    ⟨(some 64), .p (.mv (.tmp 11))⟩,
    ⟨(some 65), .call 47 [(.tmp 61), (.tmp 62), (.tmp 63), (.tmp 64)]⟩,
    ⟨(some 60), .p (.mv (.tmp 65))⟩,
    ⟨(some 66), .p (.ext (.tmp 60) 0)⟩,
    ⟨(some 67), .p (.ext (.tmp 60) 1)⟩,
    ⟨(some 12), .p (.mv (.tmp 66))⟩,
    ⟨(some 13), .p (.mv (.tmp 67))⟩])
 (.seq (.ops none [⟨(some 69), .p (.mv (.tmp 7))⟩,
    ⟨(some 70), .p (.mv (.tmp 8))⟩,
    ⟨(some 71), .p (.mv (.tmp 11))⟩,
    ⟨(some 72), .p (.mv (.tmp 10))⟩,
    ⟨(some 73), .call 47 [(.tmp 69), (.tmp 70), (.tmp 71), (.tmp 72)]⟩,
    ⟨(some 68), .p (.mv (.tmp 73))⟩,
    ⟨(some 74), .p (.ext (.tmp 68) 0)⟩,
    ⟨(some 75), .p (.ext (.tmp 68) 1)⟩,
    ⟨(some 14), .p (.mv (.tmp 74))⟩,
    ⟨(some 15), .p (.mv (.tmp 75))⟩])
 (.seq (.seq (.seq (.ops none [⟨(some 76), .p (.mv (.tmp 13))⟩,
      ⟨(some 77), .p (.bin .neq (.tmp 76) (.const (.int .i64 (0))))⟩,
      ⟨(some 78), .p (.mv (.tmp 77))⟩])
   (.cut [7, 8, 9, 10, 11, 12, 14, 15, 78] c15z10)) c15z8) c15z7))))))
theorem k15 : compFn Try.prog 15 [[], [], [], [], [], [], [7, 8, 9, 10, 11, 12, 14, 15, 78], [7, 8, 9, 10, 11, 12, 14, 78, 80], [7, 8, 9, 10, 11, 12, 14, 82], [7, 8, 9, 10, 11, 12, 82, 85], [7, 8, 9, 10, 11, 12, 87], [7, 8, 9, 10, 11, 12, 87, 92], [7, 8, 9, 10, 11, 12, 94], [7, 8, 9, 10, 11, 12, 94, 96], [], [], [], [], [], [], [7, 8, 10, 11, 12, 16, 18, 19, 21, 124], [7, 8, 10, 11, 12, 16, 18, 21, 124, 126], [7, 8, 10, 11, 12, 16, 18, 21, 128], [7, 8, 10, 11, 12, 16, 18, 128, 130], [], [], [], [], [], [], [7, 8, 10, 11, 12, 23, 24, 25, 26, 27, 158], [7, 8, 10, 11, 12, 24, 25, 26, 27, 158, 160], [7, 8, 10, 11, 12, 24, 25, 26, 27, 162], [7, 8, 10, 11, 12, 24, 25, 26, 162, 165], [7, 8, 10, 11, 12, 24, 25, 26, 167], [7, 8, 10, 11, 12, 24, 25, 167, 170], [7, 8, 10, 11, 12, 24, 25, 172], [7, 8, 10, 11, 12, 24, 25, 172, 175], [7, 8, 10, 11, 12, 24, 25, 172, 175, 177], [7, 8, 10, 11, 12, 24, 25, 172, 178], [], [], [], [], [], [], [], [], [], [], [10, 11, 12, 24, 31, 32, 33, 34, 35, 215], [10, 11, 12, 24, 32, 33, 34, 35, 215, 217], [10, 11, 12, 24, 32, 33, 34, 35, 219], [10, 11, 12, 24, 32, 34, 35, 219, 221], [10, 11, 12, 24, 32, 34, 35, 223], [10, 11, 12, 24, 32, 34, 223, 225], [10, 11, 12, 24, 32, 34, 227], [10, 11, 12, 24, 227, 230], [10, 11, 12, 24, 232], [232, 243], []] = some (245, c15, [.tmp 6]) := by kernel_rfl
def K15z0 (_P : Program) (K : Value → Heap → Prop) : Exit → (Nat → Value) → Heap → Prop := bodyP [.tmp 6] K
def K15z7 (P : Program) (K : Value → Heap → Prop) : Exit → (Nat → Value) → Heap → Prop := thenK (iwpP P c15z7 (K15z0 P K)) (K15z0 P K)
def K15z8 (P : Program) (K : Value → Heap → Prop) : Exit → (Nat → Value) → Heap → Prop := thenK (iwpP P c15z8 (K15z7 P K)) (K15z7 P K)
def K15z29 (P : Program) (K : Value → Heap → Prop) : Exit → (Nat → Value) → Heap → Prop := thenK (iwpP P c15z29 (K15z0 P K)) (K15z0 P K)
def K15z30 (P : Program) (K : Value → Heap → Prop) : Exit → (Nat → Value) → Heap → Prop := thenK (iwpP P c15z30 (K15z29 P K)) (K15z29 P K)
def K15z43 (P : Program) (K : Value → Heap → Prop) : Exit → (Nat → Value) → Heap → Prop := thenK (iwpP P c15z43 (K15z0 P K)) (K15z0 P K)
def K15z44 (P : Program) (K : Value → Heap → Prop) : Exit → (Nat → Value) → Heap → Prop := thenK (iwpP P c15z44 (K15z43 P K)) (K15z43 P K)
def K15z73 (P : Program) (K : Value → Heap → Prop) : Exit → (Nat → Value) → Heap → Prop := thenK (iwpP P c15z73 (K15z0 P K)) (K15z0 P K)
def p15z10 (P : Program) (K : Value → Heap → Prop) (k7 p8 a9 s10 t11 m12 n14 f15 x78 : Value) (h : Heap) : Prop := CutP (iwpP P c15z10 (K15z8 P K)) [7, 8, 9, 10, 11, 12, 14, 15, 78] [k7, p8, a9, s10, t11, m12, n14, f15, x78] h
def p15z12 (P : Program) (K : Value → Heap → Prop) (k7 p8 a9 s10 t11 m12 n14 x78 x80 : Value) (h : Heap) : Prop := CutP (iwpP P c15z12 (K15z8 P K)) [7, 8, 9, 10, 11, 12, 14, 78, 80] [k7, p8, a9, s10, t11, m12, n14, x78, x80] h
def p15z14 (P : Program) (K : Value → Heap → Prop) (k7 p8 a9 s10 t11 m12 n14 x82 : Value) (h : Heap) : Prop := CutP (iwpP P c15z14 (K15z8 P K)) [7, 8, 9, 10, 11, 12, 14, 82] [k7, p8, a9, s10, t11, m12, n14, x82] h
def p15z16 (P : Program) (K : Value → Heap → Prop) (k7 p8 a9 s10 t11 m12 x82 x85 : Value) (h : Heap) : Prop := CutP (iwpP P c15z16 (K15z8 P K)) [7, 8, 9, 10, 11, 12, 82, 85] [k7, p8, a9, s10, t11, m12, x82, x85] h
def p15z18 (P : Program) (K : Value → Heap → Prop) (k7 p8 a9 s10 t11 m12 x87 : Value) (h : Heap) : Prop := CutP (iwpP P c15z18 (K15z8 P K)) [7, 8, 9, 10, 11, 12, 87] [k7, p8, a9, s10, t11, m12, x87] h
def p15z20 (P : Program) (K : Value → Heap → Prop) (k7 p8 a9 s10 t11 m12 x87 x92 : Value) (h : Heap) : Prop := CutP (iwpP P c15z20 (K15z8 P K)) [7, 8, 9, 10, 11, 12, 87, 92] [k7, p8, a9, s10, t11, m12, x87, x92] h
def p15z22 (P : Program) (K : Value → Heap → Prop) (k7 p8 a9 s10 t11 m12 x94 : Value) (h : Heap) : Prop := CutP (iwpP P c15z22 (K15z8 P K)) [7, 8, 9, 10, 11, 12, 94] [k7, p8, a9, s10, t11, m12, x94] h
def p15z24 (P : Program) (K : Value → Heap → Prop) (k7 p8 a9 s10 t11 m12 x94 x96 : Value) (h : Heap) : Prop := CutP (iwpP P c15z24 (K15z8 P K)) [7, 8, 9, 10, 11, 12, 94, 96] [k7, p8, a9, s10, t11, m12, x94, x96] h
def p15z32 (P : Program) (K : Value → Heap → Prop) (k7 p8 s10 t11 m12 u16 v18 h19 i21 x124 : Value) (h : Heap) : Prop := CutP (iwpP P c15z32 (K15z30 P K)) [7, 8, 10, 11, 12, 16, 18, 19, 21, 124] [k7, p8, s10, t11, m12, u16, v18, h19, i21, x124] h
def p15z34 (P : Program) (K : Value → Heap → Prop) (k7 p8 s10 t11 m12 u16 v18 i21 x124 x126 : Value) (h : Heap) : Prop := CutP (iwpP P c15z34 (K15z30 P K)) [7, 8, 10, 11, 12, 16, 18, 21, 124, 126] [k7, p8, s10, t11, m12, u16, v18, i21, x124, x126] h
def p15z36 (P : Program) (K : Value → Heap → Prop) (k7 p8 s10 t11 m12 u16 v18 i21 x128 : Value) (h : Heap) : Prop := CutP (iwpP P c15z36 (K15z30 P K)) [7, 8, 10, 11, 12, 16, 18, 21, 128] [k7, p8, s10, t11, m12, u16, v18, i21, x128] h
def p15z38 (P : Program) (K : Value → Heap → Prop) (k7 p8 s10 t11 m12 u16 v18 x128 x130 : Value) (h : Heap) : Prop := CutP (iwpP P c15z38 (K15z30 P K)) [7, 8, 10, 11, 12, 16, 18, 128, 130] [k7, p8, s10, t11, m12, u16, v18, x128, x130] h
def p15z46 (P : Program) (K : Value → Heap → Prop) (k7 p8 s10 t11 m12 o23 j24 q25 l26 r27 x158 : Value) (h : Heap) : Prop := CutP (iwpP P c15z46 (K15z44 P K)) [7, 8, 10, 11, 12, 23, 24, 25, 26, 27, 158] [k7, p8, s10, t11, m12, o23, j24, q25, l26, r27, x158] h
def p15z48 (P : Program) (K : Value → Heap → Prop) (k7 p8 s10 t11 m12 j24 q25 l26 r27 x158 x160 : Value) (h : Heap) : Prop := CutP (iwpP P c15z48 (K15z44 P K)) [7, 8, 10, 11, 12, 24, 25, 26, 27, 158, 160] [k7, p8, s10, t11, m12, j24, q25, l26, r27, x158, x160] h
def p15z50 (P : Program) (K : Value → Heap → Prop) (k7 p8 s10 t11 m12 j24 q25 l26 r27 x162 : Value) (h : Heap) : Prop := CutP (iwpP P c15z50 (K15z44 P K)) [7, 8, 10, 11, 12, 24, 25, 26, 27, 162] [k7, p8, s10, t11, m12, j24, q25, l26, r27, x162] h
def p15z52 (P : Program) (K : Value → Heap → Prop) (k7 p8 s10 t11 m12 j24 q25 l26 x162 x165 : Value) (h : Heap) : Prop := CutP (iwpP P c15z52 (K15z44 P K)) [7, 8, 10, 11, 12, 24, 25, 26, 162, 165] [k7, p8, s10, t11, m12, j24, q25, l26, x162, x165] h
def p15z54 (P : Program) (K : Value → Heap → Prop) (k7 p8 s10 t11 m12 j24 q25 l26 x167 : Value) (h : Heap) : Prop := CutP (iwpP P c15z54 (K15z44 P K)) [7, 8, 10, 11, 12, 24, 25, 26, 167] [k7, p8, s10, t11, m12, j24, q25, l26, x167] h
def p15z56 (P : Program) (K : Value → Heap → Prop) (k7 p8 s10 t11 m12 j24 q25 x167 x170 : Value) (h : Heap) : Prop := CutP (iwpP P c15z56 (K15z44 P K)) [7, 8, 10, 11, 12, 24, 25, 167, 170] [k7, p8, s10, t11, m12, j24, q25, x167, x170] h
def p15z58 (P : Program) (K : Value → Heap → Prop) (k7 p8 s10 t11 m12 j24 q25 x172 : Value) (h : Heap) : Prop := CutP (iwpP P c15z58 (K15z44 P K)) [7, 8, 10, 11, 12, 24, 25, 172] [k7, p8, s10, t11, m12, j24, q25, x172] h
def p15z60 (P : Program) (K : Value → Heap → Prop) (k7 p8 s10 t11 m12 j24 q25 x172 x175 : Value) (h : Heap) : Prop := CutP (iwpP P c15z60 (K15z44 P K)) [7, 8, 10, 11, 12, 24, 25, 172, 175] [k7, p8, s10, t11, m12, j24, q25, x172, x175] h
def p15z62 (P : Program) (K : Value → Heap → Prop) (k7 p8 s10 t11 m12 j24 q25 x172 x175 x177 : Value) (h : Heap) : Prop := CutP (iwpP P c15z62 (K15z44 P K)) [7, 8, 10, 11, 12, 24, 25, 172, 175, 177] [k7, p8, s10, t11, m12, j24, q25, x172, x175, x177] h
def p15z64 (P : Program) (K : Value → Heap → Prop) (k7 p8 s10 t11 m12 j24 q25 x172 x178 : Value) (h : Heap) : Prop := CutP (iwpP P c15z64 (K15z44 P K)) [7, 8, 10, 11, 12, 24, 25, 172, 178] [k7, p8, s10, t11, m12, j24, q25, x172, x178] h
def p15z75 (P : Program) (K : Value → Heap → Prop) (s10 t11 m12 j24 w31 back32 y133 own34 y235 x215 : Value) (h : Heap) : Prop := CutP (iwpP P c15z75 (K15z73 P K)) [10, 11, 12, 24, 31, 32, 33, 34, 35, 215] [s10, t11, m12, j24, w31, back32, y133, own34, y235, x215] h
def p15z77 (P : Program) (K : Value → Heap → Prop) (s10 t11 m12 j24 back32 y133 own34 y235 x215 x217 : Value) (h : Heap) : Prop := CutP (iwpP P c15z77 (K15z73 P K)) [10, 11, 12, 24, 32, 33, 34, 35, 215, 217] [s10, t11, m12, j24, back32, y133, own34, y235, x215, x217] h
def p15z79 (P : Program) (K : Value → Heap → Prop) (s10 t11 m12 j24 back32 y133 own34 y235 x219 : Value) (h : Heap) : Prop := CutP (iwpP P c15z79 (K15z73 P K)) [10, 11, 12, 24, 32, 33, 34, 35, 219] [s10, t11, m12, j24, back32, y133, own34, y235, x219] h
def p15z81 (P : Program) (K : Value → Heap → Prop) (s10 t11 m12 j24 back32 own34 y235 x219 x221 : Value) (h : Heap) : Prop := CutP (iwpP P c15z81 (K15z73 P K)) [10, 11, 12, 24, 32, 34, 35, 219, 221] [s10, t11, m12, j24, back32, own34, y235, x219, x221] h
def p15z83 (P : Program) (K : Value → Heap → Prop) (s10 t11 m12 j24 back32 own34 y235 x223 : Value) (h : Heap) : Prop := CutP (iwpP P c15z83 (K15z73 P K)) [10, 11, 12, 24, 32, 34, 35, 223] [s10, t11, m12, j24, back32, own34, y235, x223] h
def p15z85 (P : Program) (K : Value → Heap → Prop) (s10 t11 m12 j24 back32 own34 x223 x225 : Value) (h : Heap) : Prop := CutP (iwpP P c15z85 (K15z73 P K)) [10, 11, 12, 24, 32, 34, 223, 225] [s10, t11, m12, j24, back32, own34, x223, x225] h
def p15z87 (P : Program) (K : Value → Heap → Prop) (s10 t11 m12 j24 back32 own34 x227 : Value) (h : Heap) : Prop := CutP (iwpP P c15z87 (K15z73 P K)) [10, 11, 12, 24, 32, 34, 227] [s10, t11, m12, j24, back32, own34, x227] h
def p15z89 (P : Program) (K : Value → Heap → Prop) (s10 t11 m12 j24 x227 x230 : Value) (h : Heap) : Prop := CutP (iwpP P c15z89 (K15z73 P K)) [10, 11, 12, 24, 227, 230] [s10, t11, m12, j24, x227, x230] h
def p15z91 (P : Program) (K : Value → Heap → Prop) (s10 t11 m12 j24 x232 : Value) (h : Heap) : Prop := CutP (iwpP P c15z91 (K15z73 P K)) [10, 11, 12, 24, 232] [s10, t11, m12, j24, x232] h
def p15z93 (P : Program) (K : Value → Heap → Prop) (x232 x243 : Value) (h : Heap) : Prop := CutP (iwpP P c15z93 (K15z73 P K)) [232, 243] [x232, x243] h
theorem q15z24 (P : Program) (K : Value → Heap → Prop) (k7 p8 a9 s10 t11 m12 x94 x96 : Value) (h : Heap) : p15z24 P K k7 p8 a9 s10 t11 m12 x94 x96 h =
  (OP (iPick x94 (.bool true) x96) fun x97 =>
  IfP x97
    (K (.bool false) h)
    (CallP P 51 [k7, p8, m12, s10] h fun x103 h_1 =>
    OP (iExt 0 x103) fun x104 =>
    OP (iExt 1 x103) fun x105 =>
    CallP P 51 [k7, p8, m12, t11] h_1 fun x111 h_2 =>
    OP (iExt 0 x111) fun x112 =>
    OP (iExt 1 x111) fun x113 =>
    CallP P 51 [k7, p8, a9, m12] h_2 fun x119 h_3 =>
    OP (iExt 0 x119) fun x120 =>
    OP (iExt 1 x119) fun x121 =>
    OP (iBin .neq x105 (.int .i64 (0))) fun x123 =>
    p15z32 P K k7 p8 s10 t11 m12 x104 x112 x113 x121 x123 h_3)) := (CutP_def _ _ _ _).trans (by kernel_rfl)
theorem q15z22 (P : Program) (K : Value → Heap → Prop) (k7 p8 a9 s10 t11 m12 x94 : Value) (h : Heap) : p15z22 P K k7 p8 a9 s10 t11 m12 x94 h =
  (GdP x94 false
    (CallP P 20 [] h fun x95 h_1 =>
    OP (iUn .not x95) fun x96 =>
    p15z24 P K k7 p8 a9 s10 t11 m12 x94 x96 h_1)
    (p15z24 P K k7 p8 a9 s10 t11 m12 x94 undef h)) := (CutP_def _ _ _ _).trans (by kernel_rfl)
theorem q15z20 (P : Program) (K : Value → Heap → Prop) (k7 p8 a9 s10 t11 m12 x87 x92 : Value) (h : Heap) : p15z20 P K k7 p8 a9 s10 t11 m12 x87 x92 h =
  (OP (iPick x87 (.bool true) x92) fun x93 =>
  p15z22 P K k7 p8 a9 s10 t11 m12 x93 h) := (CutP_def _ _ _ _).trans (by kernel_rfl)
theorem q15z18 (P : Program) (K : Value → Heap → Prop) (k7 p8 a9 s10 t11 m12 x87 : Value) (h : Heap) : p15z18 P K k7 p8 a9 s10 t11 m12 x87 h =
  (GdP x87 false
    (OP (iLenS m12) fun x89 =>
    OP (iLenS a9) fun x91 =>
    OP (iBin .lss x89 x91) fun x92 =>
    p15z20 P K k7 p8 a9 s10 t11 m12 x87 x92 h)
    (p15z20 P K k7 p8 a9 s10 t11 m12 x87 undef h)) := (CutP_def _ _ _ _).trans (by kernel_rfl)
theorem q15z16 (P : Program) (K : Value → Heap → Prop) (k7 p8 a9 s10 t11 m12 x82 x85 : Value) (h : Heap) : p15z16 P K k7 p8 a9 s10 t11 m12 x82 x85 h =
  (OP (iPick x82 (.bool true) x85) fun x86 =>
  p15z18 P K k7 p8 a9 s10 t11 m12 x86 h) := (CutP_def _ _ _ _).trans (by kernel_rfl)
theorem q15z14 (P : Program) (K : Value → Heap → Prop) (k7 p8 a9 s10 t11 m12 n14 x82 : Value) (h : Heap) : p15z14 P K k7 p8 a9 s10 t11 m12 n14 x82 h =
  (GdP x82 false
    (OP (iBin .neq m12 n14) fun x85 =>
    p15z16 P K k7 p8 a9 s10 t11 m12 x82 x85 h)
    (p15z16 P K k7 p8 a9 s10 t11 m12 x82 undef h)) := (CutP_def _ _ _ _).trans (by kernel_rfl)
theorem q15z12 (P : Program) (K : Value → Heap → Prop) (k7 p8 a9 s10 t11 m12 n14 x78 x80 : Value) (h : Heap) : p15z12 P K k7 p8 a9 s10 t11 m12 n14 x78 x80 h =
  (OP (iPick x78 (.bool true) x80) fun x81 =>
  p15z14 P K k7 p8 a9 s10 t11 m12 n14 x81 h) := (CutP_def _ _ _ _).trans (by kernel_rfl)
theorem q15z10 (P : Program) (K : Value → Heap → Prop) (k7 p8 a9 s10 t11 m12 n14 f15 x78 : Value) (h : Heap) : p15z10 P K k7 p8 a9 s10 t11 m12 n14 f15 x78 h =
  (GdP x78 false
    (OP (iBin .neq f15 (.int .i64 (0))) fun x80 =>
    p15z12 P K k7 p8 a9 s10 t11 m12 n14 x78 x80 h)
    (p15z12 P K k7 p8 a9 s10 t11 m12 n14 x78 undef h)) := (CutP_def _ _ _ _).trans (by kernel_rfl)
theorem q15z38 (P : Program) (K : Value → Heap → Prop) (k7 p8 s10 t11 m12 u16 v18 x128 x130 : Value) (h : Heap) : p15z38 P K k7 p8 s10 t11 m12 u16 v18 x128 x130 h =
  (OP (iPick x128 (.bool true) x130) fun x131 =>
  IfP x131
    (K (.bool false) h)
    (CallP P 47 [k7, p8, u16, v18] h fun x137 h_1 =>
    OP (iExt 0 x137) fun x138 =>
    OP (iExt 1 x137) fun x139 =>
    CallP P 48 [k7, p8, s10, t11] h_1 fun x145 h_2 =>
    OP (iExt 0 x145) fun x146 =>
    OP (iExt 1 x145) fun x147 =>
    CallP P 48 [k7, p8, t11, s10] h_2 fun x153 h_3 =>
    OP (iExt 0 x153) fun x154 =>
    OP (iExt 1 x153) fun x155 =>
    OP (iBin .neq x138 (.string ⟨#[]⟩)) fun x157 =>
    p15z46 P K k7 p8 s10 t11 m12 x139 x146 x147 x154 x155 x157 h_3)) := (CutP_def _ _ _ _).trans (by kernel_rfl)
theorem q15z36 (P : Program) (K : Value → Heap → Prop) (k7 p8 s10 t11 m12 u16 v18 i21 x128 : Value) (h : Heap) : p15z36 P K k7 p8 s10 t11 m12 u16 v18 i21 x128 h =
  (GdP x128 false
    (OP (iBin .neq i21 (.int .i64 (0))) fun x130 =>
    p15z38 P K k7 p8 s10 t11 m12 u16 v18 x128 x130 h)
    (p15z38 P K k7 p8 s10 t11 m12 u16 v18 x128 undef h)) := (CutP_def _ _ _ _).trans (by kernel_rfl)
theorem q15z34 (P : Program) (K : Value → Heap → Prop) (k7 p8 s10 t11 m12 u16 v18 i21 x124 x126 : Value) (h : Heap) : p15z34 P K k7 p8 s10 t11 m12 u16 v18 i21 x124 x126 h =
  (OP (iPick x124 (.bool true) x126) fun x127 =>
  p15z36 P K k7 p8 s10 t11 m12 u16 v18 i21 x127 h) := (CutP_def _ _ _ _).trans (by kernel_rfl)
theorem q15z32 (P : Program) (K : Value → Heap → Prop) (k7 p8 s10 t11 m12 u16 v18 h19 i21 x124 : Value) (h : Heap) : p15z32 P K k7 p8 s10 t11 m12 u16 v18 h19 i21 x124 h =
  (GdP x124 false
    (OP (iBin .neq h19 (.int .i64 (0))) fun x126 =>
    p15z34 P K k7 p8 s10 t11 m12 u16 v18 i21 x124 x126 h)
    (p15z34 P K k7 p8 s10 t11 m12 u16 v18 i21 x124 undef h)) := (CutP_def _ _ _ _).trans (by kernel_rfl)
theorem q15z64 (P : Program) (K : Value → Heap → Prop) (k7 p8 s10 t11 m12 j24 q25 x172 x178 : Value) (h : Heap) : p15z64 P K k7 p8 s10 t11 m12 j24 q25 x172 x178 h =
  (OP (iPick x172 (.bool true) x178) fun x179 =>
  IfP x179
    (K (.bool false) h)
    (OP (iBin .neq q25 (.int .i64 (0))) fun x181 =>
    IfP x181
      (K (.bool true) h)
      (CallP P 51 [k7, p8, s10, j24] h fun x187 h_1 =>
      OP (iExt 0 x187) fun x188 =>
      OP (iExt 1 x187) fun x189 =>
      CallP P 51 [k7, p8, t11, j24] h_1 fun x195 h_2 =>
      OP (iExt 0 x195) fun x196 =>
      OP (iExt 1 x195) fun x197 =>
      CallP P 47 [k7, p8, s10, j24] h_2 fun x203 h_3 =>
      OP (iExt 0 x203) fun x204 =>
      OP (iExt 1 x203) fun x205 =>
      CallP P 41 [k7, p8, s10] h_3 fun x210 h_4 =>
      OP (iExt 0 x210) fun x211 =>
      OP (iExt 1 x210) fun x212 =>
      OP (iBin .eql x189 (.int .i64 (0))) fun x214 =>
      p15z75 P K s10 t11 m12 j24 x197 x204 x205 x211 x212 x214 h_4))) := (CutP_def _ _ _ _).trans (by kernel_rfl)
theorem q15z62 (P : Program) (K : Value → Heap → Prop) (k7 p8 s10 t11 m12 j24 q25 x172 x175 x177 : Value) (h : Heap) : p15z62 P K k7 p8 s10 t11 m12 j24 q25 x172 x175 x177 h =
  (GdP x172 false
    (OP (iPick x175 x177 (.bool false)) fun x178 =>
    p15z64 P K k7 p8 s10 t11 m12 j24 q25 x172 x178 h)
    (p15z64 P K k7 p8 s10 t11 m12 j24 q25 x172 undef h)) := (CutP_def _ _ _ _).trans (by kernel_rfl)
theorem q15z60 (P : Program) (K : Value → Heap → Prop) (k7 p8 s10 t11 m12 j24 q25 x172 x175 : Value) (h : Heap) : p15z60 P K k7 p8 s10 t11 m12 j24 q25 x172 x175 h =
  (GdP x175 true
    (OP (iBin .neq q25 (.int .i64 (5))) fun x177 =>
    p15z62 P K k7 p8 s10 t11 m12 j24 q25 x172 x175 x177 h)
    (p15z62 P K k7 p8 s10 t11 m12 j24 q25 x172 x175 undef h)) := (CutP_def _ _ _ _).trans (by kernel_rfl)
theorem q15z58 (P : Program) (K : Value → Heap → Prop) (k7 p8 s10 t11 m12 j24 q25 x172 : Value) (h : Heap) : p15z58 P K k7 p8 s10 t11 m12 j24 q25 x172 h =
  (GdP x172 false
    (OP (iBin .neq q25 (.int .i64 (0))) fun x174 =>
    p15z60 P K k7 p8 s10 t11 m12 j24 q25 x172 x174 h)
    (p15z60 P K k7 p8 s10 t11 m12 j24 q25 x172 undef h)) := (CutP_def _ _ _ _).trans (by kernel_rfl)
theorem q15z56 (P : Program) (K : Value → Heap → Prop) (k7 p8 s10 t11 m12 j24 q25 x167 x170 : Value) (h : Heap) : p15z56 P K k7 p8 s10 t11 m12 j24 q25 x167 x170 h =
  (OP (iPick x167 (.bool true) x170) fun x171 =>
  p15z58 P K k7 p8 s10 t11 m12 j24 q25 x171 h) := (CutP_def _ _ _ _).trans (by kernel_rfl)
theorem q15z54 (P : Program) (K : Value → Heap → Prop) (k7 p8 s10 t11 m12 j24 q25 l26 x167 : Value) (h : Heap) : p15z54 P K k7 p8 s10 t11 m12 j24 q25 l26 x167 h =
  (GdP x167 false
    (OP (iBin .neq j24 l26) fun x170 =>
    p15z56 P K k7 p8 s10 t11 m12 j24 q25 x167 x170 h)
    (p15z56 P K k7 p8 s10 t11 m12 j24 q25 x167 undef h)) := (CutP_def _ _ _ _).trans (by kernel_rfl)
theorem q15z52 (P : Program) (K : Value → Heap → Prop) (k7 p8 s10 t11 m12 j24 q25 l26 x162 x165 : Value) (h : Heap) : p15z52 P K k7 p8 s10 t11 m12 j24 q25 l26 x162 x165 h =
  (OP (iPick x162 (.bool true) x165) fun x166 =>
  p15z54 P K k7 p8 s10 t11 m12 j24 q25 l26 x166 h) := (CutP_def _ _ _ _).trans (by kernel_rfl)
theorem q15z50 (P : Program) (K : Value → Heap → Prop) (k7 p8 s10 t11 m12 j24 q25 l26 r27 x162 : Value) (h : Heap) : p15z50 P K k7 p8 s10 t11 m12 j24 q25 l26 r27 x162 h =
  (GdP x162 false
    (OP (iBin .neq q25 r27) fun x165 =>
    p15z52 P K k7 p8 s10 t11 m12 j24 q25 l26 x162 x165 h)
    (p15z52 P K k7 p8 s10 t11 m12 j24 q25 l26 x162 undef h)) := (CutP_def _ _ _ _).trans (by kernel_rfl)
theorem q15z48 (P : Program) (K : Value → Heap → Prop) (k7 p8 s10 t11 m12 j24 q25 l26 r27 x158 x160 : Value) (h : Heap) : p15z48 P K k7 p8 s10 t11 m12 j24 q25 l26 r27 x158 x160 h =
  (OP (iPick x158 (.bool true) x160) fun x161 =>
  p15z50 P K k7 p8 s10 t11 m12 j24 q25 l26 r27 x161 h) := (CutP_def _ _ _ _).trans (by kernel_rfl)
theorem q15z46 (P : Program) (K : Value → Heap → Prop) (k7 p8 s10 t11 m12 o23 j24 q25 l26 r27 x158 : Value) (h : Heap) : p15z46 P K k7 p8 s10 t11 m12 o23 j24 q25 l26 r27 x158 h =
  (GdP x158 false
    (OP (iBin .neq o23 (.int .i64 (0))) fun x160 =>
    p15z48 P K k7 p8 s10 t11 m12 j24 q25 l26 r27 x158 x160 h)
    (p15z48 P K k7 p8 s10 t11 m12 j24 q25 l26 r27 x158 undef h)) := (CutP_def _ _ _ _).trans (by kernel_rfl)
theorem q15z93 (P : Program) (K : Value → Heap → Prop) (x232 x243 : Value) (h : Heap) : p15z93 P K x232 x243 h =
  (OP (iPick x232 x243 (.bool false)) fun x244 =>
  K x244 h) := (CutP_def _ _ _ _).trans (by kernel_rfl)
theorem q15z91 (P : Program) (K : Value → Heap → Prop) (s10 t11 m12 j24 x232 : Value) (h : Heap) : p15z91 P K s10 t11 m12 j24 x232 h =
  (GdP x232 true
    (OP (iLenS j24) fun x234 =>
    OP (iLenS s10) fun x236 =>
    OP (iLenS t11) fun x238 =>
    OP (iBin .add x236 x238) fun x239 =>
    OP (iLenS m12) fun x241 =>
    OP (iBin .sub x239 x241) fun x242 =>
    OP (iBin .eql x234 x242) fun x243 =>
    p15z93 P K x232 x243 h)
    (p15z93 P K x232 undef h)) := (CutP_def _ _ _ _).trans (by kernel_rfl)
theorem q15z89 (P : Program) (K : Value → Heap → Prop) (s10 t11 m12 j24 x227 x230 : Value) (h : Heap) : p15z89 P K s10 t11 m12 j24 x227 x230 h =
  (OP (iPick x227 x230 (.bool false)) fun x231 =>
  p15z91 P K s10 t11 m12 j24 x231 h) := (CutP_def _ _ _ _).trans (by kernel_rfl)
theorem q15z87 (P : Program) (K : Value → Heap → Prop) (s10 t11 m12 j24 back32 own34 x227 : Value) (h : Heap) : p15z87 P K s10 t11 m12 j24 back32 own34 x227 h =
  (GdP x227 true
    (OP (iBin .eql back32 own34) fun x230 =>
    p15z89 P K s10 t11 m12 j24 x227 x230 h)
    (p15z89 P K s10 t11 m12 j24 x227 undef h)) := (CutP_def _ _ _ _).trans (by kernel_rfl)
theorem q15z85 (P : Program) (K : Value → Heap → Prop) (s10 t11 m12 j24 back32 own34 x223 x225 : Value) (h : Heap) : p15z85 P K s10 t11 m12 j24 back32 own34 x223 x225 h =
  (OP (iPick x223 x225 (.bool false)) fun x226 =>
  p15z87 P K s10 t11 m12 j24 back32 own34 x226 h) := (CutP_def _ _ _ _).trans (by kernel_rfl)
theorem q15z83 (P : Program) (K : Value → Heap → Prop) (s10 t11 m12 j24 back32 own34 y235 x223 : Value) (h : Heap) : p15z83 P K s10 t11 m12 j24 back32 own34 y235 x223 h =
  (GdP x223 true
    (OP (iBin .eql y235 (.int .i64 (0))) fun x225 =>
    p15z85 P K s10 t11 m12 j24 back32 own34 x223 x225 h)
    (p15z85 P K s10 t11 m12 j24 back32 own34 x223 undef h)) := (CutP_def _ _ _ _).trans (by kernel_rfl)
theorem q15z81 (P : Program) (K : Value → Heap → Prop) (s10 t11 m12 j24 back32 own34 y235 x219 x221 : Value) (h : Heap) : p15z81 P K s10 t11 m12 j24 back32 own34 y235 x219 x221 h =
  (OP (iPick x219 x221 (.bool false)) fun x222 =>
  p15z83 P K s10 t11 m12 j24 back32 own34 y235 x222 h) := (CutP_def _ _ _ _).trans (by kernel_rfl)
theorem q15z79 (P : Program) (K : Value → Heap → Prop) (s10 t11 m12 j24 back32 y133 own34 y235 x219 : Value) (h : Heap) : p15z79 P K s10 t11 m12 j24 back32 y133 own34 y235 x219 h =
  (GdP x219 true
    (OP (iBin .eql y133 (.int .i64 (0))) fun x221 =>
    p15z81 P K s10 t11 m12 j24 back32 own34 y235 x219 x221 h)
    (p15z81 P K s10 t11 m12 j24 back32 own34 y235 x219 undef h)) := (CutP_def _ _ _ _).trans (by kernel_rfl)
theorem q15z77 (P : Program) (K : Value → Heap → Prop) (s10 t11 m12 j24 back32 y133 own34 y235 x215 x217 : Value) (h : Heap) : p15z77 P K s10 t11 m12 j24 back32 y133 own34 y235 x215 x217 h =
  (OP (iPick x215 x217 (.bool false)) fun x218 =>
  p15z79 P K s10 t11 m12 j24 back32 y133 own34 y235 x218 h) := (CutP_def _ _ _ _).trans (by kernel_rfl)
theorem q15z75 (P : Program) (K : Value → Heap → Prop) (s10 t11 m12 j24 w31 back32 y133 own34 y235 x215 : Value) (h : Heap) : p15z75 P K s10 t11 m12 j24 w31 back32 y133 own34 y235 x215 h =
  (GdP x215 true
    (OP (iBin .eql w31 (.int .i64 (0))) fun x217 =>
    p15z77 P K s10 t11 m12 j24 back32 y133 own34 y235 x215 x217 h)
    (p15z77 P K s10 t11 m12 j24 back32 y133 own34 y235 x215 undef h)) := (CutP_def _ _ _ _).trans (by kernel_rfl)
def T15 (P : Program) (K : Value → Heap → Prop) (c0 x1 z2 : Value) (h : Heap) : Prop :=
  OH (iBox 54 h c0) fun c3 h_1 =>
  OH (iBox 83 h_1 x1) fun x4 h_2 =>
  OP (iLoad true 2 h_2 c3) fun x37 =>
  CallP P 30 [x37] h_2 fun x38 h_3 =>
  OP (iExt 0 x38) fun x39 =>
  OP (iExt 1 x38) fun x40 =>
  CallP P 31 [x39, z2, (.int .i64 (8))] h_3 fun x43 h_4 =>
  OP (iAdrArr 2 1 x4 (.int .i64 (0))) fun x46 =>
  OP (iLoad false 1 h_4 x46) fun x47 =>
  (True) ∧
  CallP P 31 [x39, x47, (.int .i64 (12))] h_4 fun x48 h_5 =>
  (True) ∧
  OP (iBin .add x43 x48) fun x49 =>
  OP (iAdrArr 2 1 x4 (.int .i64 (1))) fun x53 =>
  OP (iLoad false 1 h_5 x53) fun x54 =>
  (iLoad false 1 h_4 x53 = some x54 ∧ True) ∧
  CallP P 31 [x39, x54, (.int .i64 (12))] h_5 fun x55 h_6 =>
  (True) ∧
  OP (iBin .add x43 x55) fun x56 =>
  OP (iAdrArr 2 1 x4 (.int .i64 (0))) fun x57 =>
  OP (iLoad false 1 h_6 x57) fun x58 =>
  (iLoad false 1 h_4 x57 = some x58 ∧ iLoad false 1 h_5 x57 = some x58 ∧ True) ∧
  CallP P 32 [x40, x56, x58] h_6 fun x59 h_7 =>
  (True) ∧
  CallP P 47 [x39, x40, x49, x59] h_7 fun x65 h_8 =>
  OP (iExt 0 x65) fun x66 =>
  OP (iExt 1 x65) fun x67 =>
  CallP P 47 [x39, x40, x59, x49] h_8 fun x73 h_9 =>
  OP (iExt 0 x73) fun x74 =>
  OP (iExt 1 x73) fun x75 =>
  OP (iBin .neq x67 (.int .i64 (0))) fun x77 =>
  p15z10 P K x39 x40 x43 x49 x59 x66 x74 x75 x77 h_9
theorem e15 (P : Program) (K : Value → Heap → Prop) (c0 x1 z2 : Value) (h : Heap) : iwpP P c15 (bodyP [.tmp 6] K) (frame0 [c0, x1, z2]) h = T15 P K c0 x1 z2 h := by kernel_rfl
theorem f15 {K : Value → Heap → Prop} {c0 x1 z2 : Value} {h : Heap} (H : T15 Try.prog K c0 x1 z2 h) : CallP Try.prog 15 [c0, x1, z2] h K :=
  callP_intro k15 (Nat.le_of_ble_eq_true rfl) ((e15 Try.prog K c0 x1 z2 h).mpr H)
/-! F41: pommel/stitch.Least -/
def c41 : ICode := .seq (.ops none [⟨(some 6), .p (.mv (.const (.string ⟨#[]⟩)))⟩,
    ⟨(some 7), .p (.mv (.const (.int .i64 (0))))⟩])
 (.seq (.ops none [⟨(some 11), .p (.mv (.tmp 0))⟩,
    ⟨(some 12), .p (.mv (.tmp 1))⟩,
    ⟨(some 13), .p (.mv (.tmp 2))⟩,
    ⟨(some 14), .e (.mkSl 9 1 [(.string ⟨#[]⟩)] [(0, 1, (.tmp 13))])⟩,
    ⟨(some 15), .call 56 [(.tmp 11), (.tmp 12), (.const (.int .i64 (40))), (.tmp 14)]⟩,
    ⟨(some 10), .p (.mv (.tmp 15))⟩,
    ⟨(some 16), .p (.ext (.tmp 10) 0)⟩,
    ⟨(some 17), .p (.ext (.tmp 10) 1)⟩,
    ⟨(some 8), .p (.mv (.tmp 16))⟩,
    ⟨(some 9), .p (.mv (.tmp 17))⟩])
 (.seq (.seq (.ops none [⟨(some 18), .p (.mv (.tmp 9))⟩,
     ⟨(some 19), .p (.bin .neq (.tmp 18) (.const (.int .i64 (0))))⟩])
  (.cond (.tmp 19) (.seq (.ops none [⟨(some 20), .p (.mv (.tmp 9))⟩,
      ⟨(some 6), .p (.mv (.const (.string ⟨#[]⟩)))⟩,
      ⟨(some 7), .p (.mv (.tmp 20))⟩])
   (.ret))
  (.skip)))
 (.seq (.ops none [⟨(some 21), .p (.mv (.tmp 8))⟩,
    ⟨(some 22), .p (.mv (.tmp 2))⟩,
    ⟨(some 23), .call 57 [(.tmp 21), (.tmp 22)]⟩,
    ⟨(some 6), .p (.mv (.tmp 23))⟩,
    ⟨(some 7), .p (.mv (.const (.int .i64 (0))))⟩])
 (.ret))))
theorem k41 : compFn Try.prog 41 [[], [], [], [], [], []] = some (24, c41, [.tmp 6, .tmp 7]) := by kernel_rfl
def K41z0 (_P : Program) (K : Value → Heap → Prop) : Exit → (Nat → Value) → Heap → Prop := bodyP [.tmp 6, .tmp 7] K
def T41 (P : Program) (K : Value → Heap → Prop) (k0 pairs1 s2 : Value) (h : Heap) : Prop :=
  OH (iMkSl 9 1 [(.string ⟨#[]⟩)] h [(0, 1, s2)]) fun x14 h_1 =>
  CallP P 56 [k0, pairs1, (.int .i64 (40)), x14] h_1 fun x15 h_2 =>
  OP (iExt 0 x15) fun x16 =>
  OP (iExt 1 x15) fun x17 =>
  OP (iBin .neq x17 (.int .i64 (0))) fun x19 =>
  IfP x19
    (K (.tuple #[(.string ⟨#[]⟩), x17]) h_2)
    (CallP P 57 [x16, s2] h_2 fun x23 h_3 =>
    K (.tuple #[x23, (.int .i64 (0))]) h_3)
theorem e41 (P : Program) (K : Value → Heap → Prop) (k0 pairs1 s2 : Value) (h : Heap) : iwpP P c41 (bodyP [.tmp 6, .tmp 7] K) (frame0 [k0, pairs1, s2]) h = T41 P K k0 pairs1 s2 h := by kernel_rfl
theorem f41 {K : Value → Heap → Prop} {k0 pairs1 s2 : Value} {h : Heap} (H : T41 Try.prog K k0 pairs1 s2 h) : CallP Try.prog 41 [k0, pairs1, s2] h K :=
  callP_intro k41 (Nat.le_of_ble_eq_true rfl) ((e41 Try.prog K k0 pairs1 s2 h).mpr H)
/-! F47: pommel/stitch.Meet -/
def c47 : ICode := .seq (.ops none [⟨(some 8), .p (.mv (.const (.string ⟨#[]⟩)))⟩,
    ⟨(some 9), .p (.mv (.const (.int .i64 (0))))⟩])
 (.seq (.ops none [⟨(some 16), .p (.mv (.tmp 0))⟩,
    ⟨(some 17), .p (.mv (.tmp 1))⟩,
    ⟨(some 18), .p (.mv (.tmp 2))⟩,
    ⟨(some 19), .p (.mv (.tmp 3))⟩,
    ⟨(some 20), .e (.mkSl 9 2 [(.string ⟨#[]⟩)] [(0, 1, (.tmp 18)), (1, 1, (.tmp 19))])⟩,
    ⟨(some 21), .call 56 [(.tmp 16), (.tmp 17), (.const (.int .i64 (40))), (.tmp 20)]⟩,
    ⟨(some 15), .p (.mv (.tmp 21))⟩,
    ⟨(some 22), .p (.ext (.tmp 15) 0)⟩,
    ⟨(some 23), .p (.ext (.tmp 15) 1)⟩,
    ⟨(some 10), .p (.mv (.tmp 22))⟩,
    ⟨(some 11), .p (.mv (.tmp 23))⟩])
 (.seq (.seq (.ops none [⟨(some 24), .p (.mv (.tmp 11))⟩,
     ⟨(some 25), .p (.bin .neq (.tmp 24) (.const (.int .i64 (0))))⟩])
  (.cond (.tmp 25) (.seq (.ops none [⟨(some 26), .p (.mv (.tmp 11))⟩,
      ⟨(some 8), .p (.mv (.const (.string ⟨#[]⟩)))⟩,
      ⟨(some 9), .p (.mv (.tmp 26))⟩])
   (.ret))
  (.skip)))
 (.seq (.ops none [⟨(some 28), .p (.mv (.tmp 10))⟩,
    ⟨(some 29), .p (.mv (.tmp 2))⟩,
    ⟨(some 30), .p (.mv (.tmp 3))⟩,
    ⟨(some 31), .call 80 [(.tmp 28), (.tmp 29), (.tmp 30)]⟩,
    ⟨(some 27), .p (.mv (.tmp 31))⟩,
    ⟨(some 32), .p (.ext (.tmp 27) 0)⟩,
    ⟨(some 33), .p (.ext (.tmp 27) 1)⟩,
    ⟨(some 34), .p (.ext (.tmp 27) 2)⟩,
    ⟨(some 12), .p (.mv (.tmp 32))⟩,
    ⟨(some 13), .p (.mv (.tmp 33))⟩,
    ⟨(some 14), .p (.mv (.tmp 34))⟩])
 (.seq (.ops none [⟨(some 35), .p (.mv (.tmp 10))⟩,
    ⟨(some 36), .p (.mv (.tmp 12))⟩,
    ⟨(some 37), .call 57 [(.tmp 35), (.tmp 36)]⟩,
    ⟨(some 8), .p (.mv (.tmp 37))⟩,
    ⟨(some 9), .p (.mv (.const (.int .i64 (0))))⟩])
 (.ret)))))
theorem k47 : compFn Try.prog 47 [[], [], [], [], [], [], []] = some (38, c47, [.tmp 8, .tmp 9]) := by kernel_rfl
def K47z0 (_P : Program) (K : Value → Heap → Prop) : Exit → (Nat → Value) → Heap → Prop := bodyP [.tmp 8, .tmp 9] K
def T47 (P : Program) (K : Value → Heap → Prop) (k0 pairs1 s2 u3 : Value) (h : Heap) : Prop :=
  OH (iMkSl 9 2 [(.string ⟨#[]⟩)] h [(0, 1, s2), (1, 1, u3)]) fun x20 h_1 =>
  CallP P 56 [k0, pairs1, (.int .i64 (40)), x20] h_1 fun x21 h_2 =>
  OP (iExt 0 x21) fun x22 =>
  OP (iExt 1 x21) fun x23 =>
  OP (iBin .neq x23 (.int .i64 (0))) fun x25 =>
  IfP x25
    (K (.tuple #[(.string ⟨#[]⟩), x23]) h_2)
    (CallP P 80 [x22, s2, u3] h_2 fun x31 h_3 =>
    OP (iExt 0 x31) fun x32 =>
    OP (iExt 1 x31) fun x33 =>
    OP (iExt 2 x31) fun x34 =>
    CallP P 57 [x22, x32] h_3 fun x37 h_4 =>
    K (.tuple #[x37, (.int .i64 (0))]) h_4)
theorem e47 (P : Program) (K : Value → Heap → Prop) (k0 pairs1 s2 u3 : Value) (h : Heap) : iwpP P c47 (bodyP [.tmp 8, .tmp 9] K) (frame0 [k0, pairs1, s2, u3]) h = T47 P K k0 pairs1 s2 u3 h := by kernel_rfl
theorem f47 {K : Value → Heap → Prop} {k0 pairs1 s2 u3 : Value} {h : Heap} (H : T47 Try.prog K k0 pairs1 s2 u3 h) : CallP Try.prog 47 [k0, pairs1, s2, u3] h K :=
  callP_intro k47 (Nat.le_of_ble_eq_true rfl) ((e47 Try.prog K k0 pairs1 s2 u3 h).mpr H)
/-! F48: pommel/stitch.Join -/
def c48z18 : ICode := .seq (.ops none [⟨(some 45), .p (.bin .lss (.tmp 44) (.tmp 43))⟩])
 (.seq (.cond (.tmp 45) (.skip)
  (.exit 2))
 (.seq (.block 3 (.seq (.ops none [⟨(some 46), .p (.mv (.tmp 44))⟩,
      ⟨(some 16), .p (.mv (.tmp 46))⟩])
   (.seq (.dops [(none, [⟨(some 47), .p (.mv (.tmp 10)), 0⟩,
      ⟨(some 48), .p (.mv (.tmp 13)), 0⟩,
      ⟨(some 49), .p (.mv (.tmp 15)), 0⟩,
      ⟨(some 50), .p (.idxS (.tmp 48) (.tmp 49)), 6⟩,
      ⟨(some 51), .p (.mv (.tmp 14)), 0⟩,
      ⟨(some 52), .p (.mv (.tmp 16)), 0⟩,
      ⟨(some 53), .p (.idxS (.tmp 51) (.tmp 52)), 48⟩,
      ⟨(some 54), .call 81 [(.tmp 47), (.tmp 50), (.tmp 53)], 127⟩])])
   (.cond (.tmp 54) (.seq (.ops none [⟨(some 8), .p (.mv (.const (.string ⟨#[]⟩)))⟩,
       ⟨(some 9), .p (.mv (.const (.int .i64 (5))))⟩])
    (.ret))
   (.skip)))))
 (.ops none [⟨(some 55), .p (.bin .add (.tmp 44) (.const (.int .i64 (1))))⟩,
   ⟨(some 44), .p (.mv (.tmp 55))⟩])))
def c48z26 : ICode := .ops none [⟨(some 56), .p (.bin .add (.tmp 39) (.const (.int .i64 (1))))⟩,
   ⟨(some 39), .p (.mv (.tmp 56))⟩]
def c48z13 : ICode := .cut [10, 12, 13, 14, 38, 39] c48z26
def c48z10 : ICode := .seq (.ops none [⟨(some 40), .p (.bin .lss (.tmp 39) (.tmp 38))⟩])
 (.seq (.cond (.tmp 40) (.skip)
  (.exit 0))
 (.seq (.block 1 (.seq (.ops none [⟨(some 41), .p (.mv (.tmp 39))⟩,
      ⟨(some 15), .p (.mv (.tmp 41))⟩])
   (.seq (.ops none [⟨(some 42), .p (.mv (.tmp 14))⟩,
      ⟨(some 43), .p (.lenS (.tmp 42))⟩,
      ⟨(some 44), .p (.mv (.const (.int .i64 (0))))⟩])
   (.block 2 (.loop [10, 12, 13, 14, 15, 38, 39, 43] [44] c48z18))))) c48z13))
def c48z27 : ICode := .seq (.ops none [⟨(some 57), .p (.mv (.tmp 10))⟩,
    ⟨(some 58), .p (.mv (.tmp 12))⟩,
    ⟨(some 59), .p (.mv (.tmp 13))⟩,
    ⟨(some 60), .p (.bin .add (.tmp 58) (.tmp 59))⟩,
    ⟨(some 61), .p (.mv (.tmp 14))⟩,
    ⟨(some 62), .p (.bin .add (.tmp 60) (.tmp 61))⟩,
    ⟨(some 63), .call 57 [(.tmp 57), (.tmp 62)]⟩,
    ⟨(some 8), .p (.mv (.tmp 63))⟩,
    ⟨(some 9), .p (.mv (.const (.int .i64 (0))))⟩])
 (.ret)
def c48z7 : ICode := .cut [10, 12, 13, 14] c48z27
def c48 : ICode := .seq (.ops none [⟨(some 8), .p (.mv (.const (.string ⟨#[]⟩)))⟩,
    ⟨(some 9), .p (.mv (.const (.int .i64 (0))))⟩])
 (.seq (.ops none [⟨(some 18), .p (.mv (.tmp 0))⟩,
    ⟨(some 19), .p (.mv (.tmp 1))⟩,
    ⟨(some 20), .p (.mv (.tmp 2))⟩,
    ⟨(some 21), .p (.mv (.tmp 3))⟩,
    ⟨(some 22), .e (.mkSl 9 2 [(.string ⟨#[]⟩)] [(0, 1, (.tmp 20)), (1, 1, (.tmp 21))])⟩,
    ⟨(some 23), .call 56 [(.tmp 18), (.tmp 19), (.const (.int .i64 (40))), (.tmp 22)]⟩,
    ⟨(some 17), .p (.mv (.tmp 23))⟩,
    ⟨(some 24), .p (.ext (.tmp 17) 0)⟩,
    ⟨(some 25), .p (.ext (.tmp 17) 1)⟩,
    ⟨(some 10), .p (.mv (.tmp 24))⟩,
    ⟨(some 11), .p (.mv (.tmp 25))⟩])
 (.seq (.seq (.ops none [⟨(some 26), .p (.mv (.tmp 11))⟩,
     ⟨(some 27), .p (.bin .neq (.tmp 26) (.const (.int .i64 (0))))⟩])
  (.cond (.tmp 27) (.seq (.ops none [⟨(some 28), .p (.mv (.tmp 11))⟩,
      ⟨(some 8), .p (.mv (.const (.string ⟨#[]⟩)))⟩,
      ⟨(some 9), .p (.mv (.tmp 28))⟩])
   (.ret))
  (.skip)))
 (.seq (.ops none [⟨(some 30), .p (.mv (.tmp 10))⟩,
    ⟨(some 31), .p (.mv (.tmp 2))⟩,
    ⟨(some 32), .p (.mv (.tmp 3))⟩,
    ⟨(some 33), .call 80 [(.tmp 30), (.tmp 31), (.tmp 32)]⟩,
    ⟨(some 29), .p (.mv (.tmp 33))⟩,
    ⟨(some 34), .p (.ext (.tmp 29) 0)⟩,
    ⟨(some 35), .p (.ext (.tmp 29) 1)⟩,
    ⟨(some 36), .p (.ext (.tmp 29) 2)⟩,
    ⟨(some 12), .p (.mv (.tmp 34))⟩,
    ⟨(some 13), .p (.mv (.tmp 35))⟩,
    ⟨(some 14), .p (.mv (.tmp 36))⟩])
 (.seq (.seq (.ops none [⟨(some 37), .p (.mv (.tmp 13))⟩,
     ⟨(some 38), .p (.lenS (.tmp 37))⟩,
     ⟨(some 39), .p (.mv (.const (.int .i64 (0))))⟩])
  (.block 0 (.loop [10, 12, 13, 14, 38] [39] c48z10))) c48z7))))
theorem k48 : compFn Try.prog 48 [[], [], [], [], [], [], [], [10, 12, 13, 14, 38], [39], [], [], [], [], [10, 12, 13, 14, 15, 38, 39, 43], [44], [], [], [], [], [], [], [10, 12, 13, 14, 38, 39], [10, 12, 13, 14], []] = some (64, c48, [.tmp 8, .tmp 9]) := by kernel_rfl
def K48z0 (_P : Program) (K : Value → Heap → Prop) : Exit → (Nat → Value) → Heap → Prop := bodyP [.tmp 8, .tmp 9] K
def K48z7 (P : Program) (K : Value → Heap → Prop) : Exit → (Nat → Value) → Heap → Prop := thenK (iwpP P c48z7 (K48z0 P K)) (K48z0 P K)
def K48z9 (P : Program) (K : Value → Heap → Prop) : Exit → (Nat → Value) → Heap → Prop := inBlockK 0 (K48z7 P K)
def K48z10 (P : Program) (K : Value → Heap → Prop) (t10 both12 a13 b14 x38 : Value) (L1 : List Value → Heap → Prop) : Exit → (Nat → Value) → Heap → Prop := thenK (fun f' h'' => (([10, 12, 13, 14, 38] : List Nat).map f' : List Value) = [t10, both12, a13, b14, x38] ∧ L1 (([39] : List Nat).map f') h'') (K48z9 P K)
def K48z13 (P : Program) (K : Value → Heap → Prop) (t10 both12 a13 b14 x38 : Value) (L1 : List Value → Heap → Prop) : Exit → (Nat → Value) → Heap → Prop := thenK (iwpP P c48z13 (K48z10 P K t10 both12 a13 b14 x38 L1)) (K48z10 P K t10 both12 a13 b14 x38 L1)
def K48z14 (P : Program) (K : Value → Heap → Prop) (t10 both12 a13 b14 x38 : Value) (L1 : List Value → Heap → Prop) : Exit → (Nat → Value) → Heap → Prop := inBlockK 1 (K48z13 P K t10 both12 a13 b14 x38 L1)
def K48z17 (P : Program) (K : Value → Heap → Prop) (t10 both12 a13 b14 x38 : Value) (L1 : List Value → Heap → Prop) : Exit → (Nat → Value) → Heap → Prop := inBlockK 2 (K48z14 P K t10 both12 a13 b14 x38 L1)
def K48z18 (P : Program) (K : Value → Heap → Prop) (t10 both12 a13 b14 i15 x38 x39 x43 : Value) (L1 L2 : List Value → Heap → Prop) : Exit → (Nat → Value) → Heap → Prop := thenK (fun f' h'' => (([10, 12, 13, 14, 15, 38, 39, 43] : List Nat).map f' : List Value) = [t10, both12, a13, b14, i15, x38, x39, x43] ∧ L2 (([44] : List Nat).map f') h'') (K48z17 P K t10 both12 a13 b14 x38 L1)
def p48z10 (P : Program) (K : Value → Heap → Prop) (t10 both12 a13 b14 x38 : Value) (L1 : List Value → Heap → Prop) (xs : List Value) (h : Heap) : Prop := CutP (iwpP P c48z10 (K48z10 P K t10 both12 a13 b14 x38 L1)) ([10, 12, 13, 14, 38] ++ [39]) ([t10, both12, a13, b14, x38] ++ xs) h
def p48z18 (P : Program) (K : Value → Heap → Prop) (t10 both12 a13 b14 i15 x38 x39 x43 : Value) (L1 L2 : List Value → Heap → Prop) (xs : List Value) (h : Heap) : Prop := CutP (iwpP P c48z18 (K48z18 P K t10 both12 a13 b14 i15 x38 x39 x43 L1 L2)) ([10, 12, 13, 14, 15, 38, 39, 43] ++ [44]) ([t10, both12, a13, b14, i15, x38, x39, x43] ++ xs) h
def p48z26 (P : Program) (K : Value → Heap → Prop) (t10 both12 a13 b14 x38 x39 : Value) (L1 : List Value → Heap → Prop) (h : Heap) : Prop := CutP (iwpP P c48z26 (K48z10 P K t10 both12 a13 b14 x38 L1)) [10, 12, 13, 14, 38, 39] [t10, both12, a13, b14, x38, x39] h
def p48z27 (P : Program) (K : Value → Heap → Prop) (t10 both12 a13 b14 : Value) (h : Heap) : Prop := CutP (iwpP P c48z27 (K48z0 P K)) [10, 12, 13, 14] [t10, both12, a13, b14] h
theorem q48z18 (P : Program) (K : Value → Heap → Prop) (t10 both12 a13 b14 i15 x38 x39 x43 : Value) (L1 L2 : List Value → Heap → Prop) (x44 : Value) (h : Heap) : p48z18 P K t10 both12 a13 b14 i15 x38 x39 x43 L1 L2 [x44] h =
  (OP (iBin .lss x44 x43) fun x45 =>
  IfP x45
    (OP (iIdxS a13 i15) fun x50 =>
    OP (iIdxS b14 x44) fun x53 =>
    CallP P 81 [t10, x50, x53] h fun x54 h_1 =>
    (True) ∧
    IfP x54
      (K (.tuple #[(.string ⟨#[]⟩), (.int .i64 (5))]) h_1)
      (OP (iBin .add x44 (.int .i64 (1))) fun x55 =>
      ([t10, both12, a13, b14, i15, x38, x39, x43] : List Value) = [t10, both12, a13, b14, i15, x38, x39, x43] ∧ L2 [x55] h_1))
    (p48z26 P K t10 both12 a13 b14 x38 x39 L1 h)) := (CutP_def _ _ _ _).trans (by kernel_rfl)
theorem q48z26 (P : Program) (K : Value → Heap → Prop) (t10 both12 a13 b14 x38 x39 : Value) (L1 : List Value → Heap → Prop) (h : Heap) : p48z26 P K t10 both12 a13 b14 x38 x39 L1 h =
  (OP (iBin .add x39 (.int .i64 (1))) fun x56 =>
  ([t10, both12, a13, b14, x38] : List Value) = [t10, both12, a13, b14, x38] ∧ L1 [x56] h) := (CutP_def _ _ _ _).trans (by kernel_rfl)
theorem q48z10 (P : Program) (K : Value → Heap → Prop) (t10 both12 a13 b14 x38 : Value) (L1 : List Value → Heap → Prop) (x39 : Value) (h : Heap) : p48z10 P K t10 both12 a13 b14 x38 L1 [x39] h =
  (OP (iBin .lss x39 x38) fun x40 =>
  IfP x40
    (OP (iLenS b14) fun x43 =>
    LoopP [(.int .i64 (0))] h fun L2 xs hx =>
    p48z18 P K t10 both12 a13 b14 x39 x38 x39 x43 L1 L2 xs hx)
    (p48z27 P K t10 both12 a13 b14 h)) := (CutP_def _ _ _ _).trans (by kernel_rfl)
theorem q48z27 (P : Program) (K : Value → Heap → Prop) (t10 both12 a13 b14 : Value) (h : Heap) : p48z27 P K t10 both12 a13 b14 h =
  (OP (iBin .add both12 a13) fun x60 =>
  OP (iBin .add x60 b14) fun x62 =>
  CallP P 57 [t10, x62] h fun x63 h_1 =>
  K (.tuple #[x63, (.int .i64 (0))]) h_1) := (CutP_def _ _ _ _).trans (by kernel_rfl)
def T48 (P : Program) (K : Value → Heap → Prop) (k0 pairs1 s2 u3 : Value) (h : Heap) : Prop :=
  OH (iMkSl 9 2 [(.string ⟨#[]⟩)] h [(0, 1, s2), (1, 1, u3)]) fun x22 h_1 =>
  CallP P 56 [k0, pairs1, (.int .i64 (40)), x22] h_1 fun x23 h_2 =>
  OP (iExt 0 x23) fun x24 =>
  OP (iExt 1 x23) fun x25 =>
  OP (iBin .neq x25 (.int .i64 (0))) fun x27 =>
  IfP x27
    (K (.tuple #[(.string ⟨#[]⟩), x25]) h_2)
    (CallP P 80 [x24, s2, u3] h_2 fun x33 h_3 =>
    OP (iExt 0 x33) fun x34 =>
    OP (iExt 1 x33) fun x35 =>
    OP (iExt 2 x33) fun x36 =>
    OP (iLenS x35) fun x38 =>
    LoopP [(.int .i64 (0))] h_3 fun L1 xs hx =>
    p48z10 P K x24 x34 x35 x36 x38 L1 xs hx)
theorem e48 (P : Program) (K : Value → Heap → Prop) (k0 pairs1 s2 u3 : Value) (h : Heap) : iwpP P c48 (bodyP [.tmp 8, .tmp 9] K) (frame0 [k0, pairs1, s2, u3]) h = T48 P K k0 pairs1 s2 u3 h := by kernel_rfl
theorem f48 {K : Value → Heap → Prop} {k0 pairs1 s2 u3 : Value} {h : Heap} (H : T48 Try.prog K k0 pairs1 s2 u3 h) : CallP Try.prog 48 [k0, pairs1, s2, u3] h K :=
  callP_intro k48 (Nat.le_of_ble_eq_true rfl) ((e48 Try.prog K k0 pairs1 s2 u3 h).mpr H)
/-! F49: pommel/pommelref03.Meet -/
def c49z16 : ICode := .ops none [⟨(some 17), .p (.pick (.tmp 14) (.tmp 16) (.const (.bool false)))⟩]
def c49z14 : ICode := .seq (.ops (some (14, true)) [⟨(some 15), .p (.mv (.tmp 8))⟩,
    ⟨(some 16), .p (.un .not (.tmp 15))⟩])
 (.cut [0, 1, 2, 7, 8, 9, 14, 16] c49z16)
def c49z12 : ICode := .cond (.tmp 17) (.skip)
 (.exit 2)
def c49z24 : ICode := .ops none [⟨(some 33), .p (.pick (.tmp 30) (.tmp 32) (.const (.bool false)))⟩]
def c49z22 : ICode := .seq (.ops (some (30, true)) [⟨(some 31), .p (.mv (.tmp 11))⟩,
    ⟨(some 32), .p (.bin .geq (.tmp 31) (.const (.int .i64 (0))))⟩])
 (.cut [0, 1, 2, 7, 8, 9, 10, 11, 30, 32] c49z24)
def c49z20 : ICode := .cond (.tmp 33) (.dops [(none, [⟨(some 34), .p (.mv (.tmp 7)), 0⟩,
    ⟨(some 35), .p (.mv (.tmp 1)), 0⟩,
    ⟨(some 36), .p (.mv (.tmp 10)), 0⟩,
    ⟨(some 37), .p (.mv (.tmp 10)), 0⟩,
    ⟨(some 38), .p (.bin .add (.tmp 37) (.const (.int .i64 (1)))), 8⟩,
    ⟨(some 39), .p (.slS (.tmp 35) (some (.tmp 36)) (some (.tmp 38))), 30⟩,
    ⟨(some 40), .p (.bin .add (.tmp 34) (.tmp 39)), 63⟩,
    ⟨(some 41), .p (.mv (.tmp 1)), 0⟩,
    ⟨(some 42), .p (.mv (.tmp 10)), 0⟩,
    ⟨(some 43), .call 60 [(.tmp 41), (.tmp 42)], 384⟩,
    ⟨(some 44), .p (.mv (.tmp 2)), 0⟩,
    ⟨(some 45), .p (.mv (.tmp 11)), 0⟩,
    ⟨(some 46), .call 60 [(.tmp 44), (.tmp 45)], 3968⟩,
    ⟨(some 7), .p (.mv (.tmp 40)), 8191⟩,
    ⟨(some 1), .p (.mv (.tmp 43)), 16383⟩,
    ⟨(some 2), .p (.mv (.tmp 46)), 32767⟩,
    ⟨(some 8), .p (.mv (.const (.bool true))), 65535⟩])])
 (.skip)
def c49z25 : ICode := .ops none [⟨(some 18), .p (.mv (.tmp 9))⟩,
   ⟨(some 19), .p (.bin .add (.tmp 18) (.const (.int .u8 (1))))⟩,
   ⟨(some 9), .p (.mv (.tmp 19))⟩]
def c49z17 : ICode := .cut [0, 1, 2, 7, 8, 9] c49z25
def c49z11 : ICode := .seq (.block 3 (.seq (.ops none [⟨(some 20), .p (.mv (.tmp 0))⟩,
      ⟨(some 21), .p (.mv (.tmp 1))⟩,
      ⟨(some 22), .p (.mv (.tmp 9))⟩,
      ⟨(some 23), .call 59 [(.tmp 20), (.tmp 21), (.tmp 22)]⟩,
      ⟨(some 24), .p (.mv (.tmp 0))⟩,
      ⟨(some 25), .p (.mv (.tmp 2))⟩,
      ⟨(some 26), .p (.mv (.tmp 9))⟩,
      ⟨(some 27), .call 59 [(.tmp 24), (.tmp 25), (.tmp 26)]⟩,
      ⟨(some 10), .p (.mv (.tmp 23))⟩,
      ⟨(some 11), .p (.mv (.tmp 27))⟩])
   (.seq (.seq (.ops none [⟨(some 28), .p (.mv (.tmp 10))⟩,
       ⟨(some 29), .p (.bin .geq (.tmp 28) (.const (.int .i64 (0))))⟩,
       ⟨(some 30), .p (.mv (.tmp 29))⟩])
    (.cut [0, 1, 2, 7, 8, 9, 10, 11, 30] c49z22)) c49z20))) c49z17
def c49z10 : ICode := .seq (.seq (.seq (.ops none [⟨(some 12), .p (.mv (.tmp 9))⟩,
      ⟨(some 13), .p (.bin .leq (.tmp 12) (.const (.int .u8 (102))))⟩,
      ⟨(some 14), .p (.mv (.tmp 13))⟩])
   (.cut [0, 1, 2, 7, 8, 9, 14] c49z14)) c49z12) c49z11
def c49z26 : ICode := .seq (.ops none [⟨(some 47), .p (.mv (.tmp 8))⟩,
    ⟨(some 48), .p (.un .not (.tmp 47))⟩])
 (.cond (.tmp 48) (.seq (.ops none [⟨(some 49), .p (.mv (.tmp 0))⟩,
     ⟨(some 50), .p (.mv (.tmp 7))⟩,
     ⟨(some 51), .call 21 [(.tmp 49), (.tmp 50)]⟩,
     ⟨(some 6), .p (.mv (.tmp 51))⟩])
  (.ret))
 (.skip))
def c49z7 : ICode := .cut [0, 1, 2, 7, 8] c49z26
def c49z4 : ICode := .block 1 (.seq (.ops none [⟨(some 8), .p (.mv (.const (.bool false)))⟩])
  (.seq (.seq (.ops none [⟨(some 9), .p (.mv (.const (.int .u8 (97))))⟩])
   (.block 2 (.loop [0] [1, 2, 7, 8, 9] c49z10))) c49z7))
def c49 : ICode := .seq (.ops none [⟨(some 6), .p (.mv (.const (.string ⟨#[]⟩)))⟩])
 (.seq (.ops none [⟨(some 7), .p (.mv (.const (.string ⟨#[]⟩)))⟩])
 (.block 0 (.loop [0] [1, 2, 7] c49z4)))
theorem k49 : compFn Try.prog 49 [[], [], [0], [1, 2, 7], [], [], [0], [1, 2, 7, 8, 9], [0, 1, 2, 7, 8, 9, 14], [0, 1, 2, 7, 8, 9, 14, 16], [], [], [], [0, 1, 2, 7, 8, 9, 10, 11, 30], [0, 1, 2, 7, 8, 9, 10, 11, 30, 32], [], [0, 1, 2, 7, 8, 9], [0, 1, 2, 7, 8], [], []] = some (52, c49, [.tmp 6]) := by kernel_rfl
def K49z0 (_P : Program) (K : Value → Heap → Prop) : Exit → (Nat → Value) → Heap → Prop := bodyP [.tmp 6] K
def K49z3 (P : Program) (K : Value → Heap → Prop) : Exit → (Nat → Value) → Heap → Prop := inBlockK 0 (K49z0 P K)
def K49z4 (P : Program) (K : Value → Heap → Prop) (pairs0 : Value) (L1 : List Value → Heap → Prop) : Exit → (Nat → Value) → Heap → Prop := thenK (fun f' h'' => (([0] : List Nat).map f' : List Value) = [pairs0] ∧ L1 (([1, 2, 7] : List Nat).map f') h'') (K49z3 P K)
def K49z5 (P : Program) (K : Value → Heap → Prop) (pairs0 : Value) (L1 : List Value → Heap → Prop) : Exit → (Nat → Value) → Heap → Prop := inBlockK 1 (K49z4 P K pairs0 L1)
def K49z7 (P : Program) (K : Value → Heap → Prop) (pairs0 : Value) (L1 : List Value → Heap → Prop) : Exit → (Nat → Value) → Heap → Prop := thenK (iwpP P c49z7 (K49z5 P K pairs0 L1)) (K49z5 P K pairs0 L1)
def K49z9 (P : Program) (K : Value → Heap → Prop) (pairs0 : Value) (L1 : List Value → Heap → Prop) : Exit → (Nat → Value) → Heap → Prop := inBlockK 2 (K49z7 P K pairs0 L1)
def K49z10 (P : Program) (K : Value → Heap → Prop) (pairs0 : Value) (L1 L2 : List Value → Heap → Prop) : Exit → (Nat → Value) → Heap → Prop := thenK (fun f' h'' => (([0] : List Nat).map f' : List Value) = [pairs0] ∧ L2 (([1, 2, 7, 8, 9] : List Nat).map f') h'') (K49z9 P K pairs0 L1)
def K49z11 (P : Program) (K : Value → Heap → Prop) (pairs0 : Value) (L1 L2 : List Value → Heap → Prop) : Exit → (Nat → Value) → Heap → Prop := thenK (iwpP P c49z11 (K49z10 P K pairs0 L1 L2)) (K49z10 P K pairs0 L1 L2)
def K49z12 (P : Program) (K : Value → Heap → Prop) (pairs0 : Value) (L1 L2 : List Value → Heap → Prop) : Exit → (Nat → Value) → Heap → Prop := thenK (iwpP P c49z12 (K49z11 P K pairs0 L1 L2)) (K49z11 P K pairs0 L1 L2)
def K49z17 (P : Program) (K : Value → Heap → Prop) (pairs0 : Value) (L1 L2 : List Value → Heap → Prop) : Exit → (Nat → Value) → Heap → Prop := thenK (iwpP P c49z17 (K49z10 P K pairs0 L1 L2)) (K49z10 P K pairs0 L1 L2)
def K49z18 (P : Program) (K : Value → Heap → Prop) (pairs0 : Value) (L1 L2 : List Value → Heap → Prop) : Exit → (Nat → Value) → Heap → Prop := inBlockK 3 (K49z17 P K pairs0 L1 L2)
def K49z20 (P : Program) (K : Value → Heap → Prop) (pairs0 : Value) (L1 L2 : List Value → Heap → Prop) : Exit → (Nat → Value) → Heap → Prop := thenK (iwpP P c49z20 (K49z18 P K pairs0 L1 L2)) (K49z18 P K pairs0 L1 L2)
def p49z4 (P : Program) (K : Value → Heap → Prop) (pairs0 : Value) (L1 : List Value → Heap → Prop) (xs : List Value) (h : Heap) : Prop := CutP (iwpP P c49z4 (K49z4 P K pairs0 L1)) ([0] ++ [1, 2, 7]) ([pairs0] ++ xs) h
def p49z10 (P : Program) (K : Value → Heap → Prop) (pairs0 : Value) (L1 L2 : List Value → Heap → Prop) (xs : List Value) (h : Heap) : Prop := CutP (iwpP P c49z10 (K49z10 P K pairs0 L1 L2)) ([0] ++ [1, 2, 7, 8, 9]) ([pairs0] ++ xs) h
def p49z14 (P : Program) (K : Value → Heap → Prop) (pairs0 s1 t2 out7 found8 x9 x14 : Value) (L1 L2 : List Value → Heap → Prop) (h : Heap) : Prop := CutP (iwpP P c49z14 (K49z12 P K pairs0 L1 L2)) [0, 1, 2, 7, 8, 9, 14] [pairs0, s1, t2, out7, found8, x9, x14] h
def p49z16 (P : Program) (K : Value → Heap → Prop) (pairs0 s1 t2 out7 found8 x9 x14 x16 : Value) (L1 L2 : List Value → Heap → Prop) (h : Heap) : Prop := CutP (iwpP P c49z16 (K49z12 P K pairs0 L1 L2)) [0, 1, 2, 7, 8, 9, 14, 16] [pairs0, s1, t2, out7, found8, x9, x14, x16] h
def p49z22 (P : Program) (K : Value → Heap → Prop) (pairs0 s1 t2 out7 found8 x9 i10 k11 x30 : Value) (L1 L2 : List Value → Heap → Prop) (h : Heap) : Prop := CutP (iwpP P c49z22 (K49z20 P K pairs0 L1 L2)) [0, 1, 2, 7, 8, 9, 10, 11, 30] [pairs0, s1, t2, out7, found8, x9, i10, k11, x30] h
def p49z24 (P : Program) (K : Value → Heap → Prop) (pairs0 s1 t2 out7 found8 x9 i10 k11 x30 x32 : Value) (L1 L2 : List Value → Heap → Prop) (h : Heap) : Prop := CutP (iwpP P c49z24 (K49z20 P K pairs0 L1 L2)) [0, 1, 2, 7, 8, 9, 10, 11, 30, 32] [pairs0, s1, t2, out7, found8, x9, i10, k11, x30, x32] h
def p49z25 (P : Program) (K : Value → Heap → Prop) (pairs0 s1 t2 out7 found8 x9 : Value) (L1 L2 : List Value → Heap → Prop) (h : Heap) : Prop := CutP (iwpP P c49z25 (K49z10 P K pairs0 L1 L2)) [0, 1, 2, 7, 8, 9] [pairs0, s1, t2, out7, found8, x9] h
def p49z26 (P : Program) (K : Value → Heap → Prop) (pairs0 s1 t2 out7 found8 : Value) (L1 : List Value → Heap → Prop) (h : Heap) : Prop := CutP (iwpP P c49z26 (K49z5 P K pairs0 L1)) [0, 1, 2, 7, 8] [pairs0, s1, t2, out7, found8] h
theorem q49z16 (P : Program) (K : Value → Heap → Prop) (pairs0 s1 t2 out7 found8 x9 x14 x16 : Value) (L1 L2 : List Value → Heap → Prop) (h : Heap) : p49z16 P K pairs0 s1 t2 out7 found8 x9 x14 x16 L1 L2 h =
  (OP (iPick x14 x16 (.bool false)) fun x17 =>
  IfP x17
    (CallP P 59 [pairs0, s1, x9] h fun x23 h_1 =>
    CallP P 59 [pairs0, t2, x9] h_1 fun x27 h_2 =>
    OP (iBin .geq x23 (.int .i64 (0))) fun x29 =>
    p49z22 P K pairs0 s1 t2 out7 found8 x9 x23 x27 x29 L1 L2 h_2)
    (p49z26 P K pairs0 s1 t2 out7 found8 L1 h)) := (CutP_def _ _ _ _).trans (by kernel_rfl)
theorem q49z14 (P : Program) (K : Value → Heap → Prop) (pairs0 s1 t2 out7 found8 x9 x14 : Value) (L1 L2 : List Value → Heap → Prop) (h : Heap) : p49z14 P K pairs0 s1 t2 out7 found8 x9 x14 L1 L2 h =
  (GdP x14 true
    (OP (iUn .not found8) fun x16 =>
    p49z16 P K pairs0 s1 t2 out7 found8 x9 x14 x16 L1 L2 h)
    (p49z16 P K pairs0 s1 t2 out7 found8 x9 x14 undef L1 L2 h)) := (CutP_def _ _ _ _).trans (by kernel_rfl)
theorem q49z24 (P : Program) (K : Value → Heap → Prop) (pairs0 s1 t2 out7 found8 x9 i10 k11 x30 x32 : Value) (L1 L2 : List Value → Heap → Prop) (h : Heap) : p49z24 P K pairs0 s1 t2 out7 found8 x9 i10 k11 x30 x32 L1 L2 h =
  (OP (iPick x30 x32 (.bool false)) fun x33 =>
  IfP x33
    (OP (iBin .add i10 (.int .i64 (1))) fun x38 =>
    OP (iSlS s1 (some i10) (some x38)) fun x39 =>
    OP (iBin .add out7 x39) fun x40 =>
    CallP P 60 [s1, i10] h fun x43 h_1 =>
    (True) ∧
    CallP P 60 [t2, k11] h_1 fun x46 h_2 =>
    (True) ∧
    p49z25 P K pairs0 x43 x46 x40 (.bool true) x9 L1 L2 h_2)
    (p49z25 P K pairs0 s1 t2 out7 found8 x9 L1 L2 h)) := (CutP_def _ _ _ _).trans (by kernel_rfl)
theorem q49z22 (P : Program) (K : Value → Heap → Prop) (pairs0 s1 t2 out7 found8 x9 i10 k11 x30 : Value) (L1 L2 : List Value → Heap → Prop) (h : Heap) : p49z22 P K pairs0 s1 t2 out7 found8 x9 i10 k11 x30 L1 L2 h =
  (GdP x30 true
    (OP (iBin .geq k11 (.int .i64 (0))) fun x32 =>
    p49z24 P K pairs0 s1 t2 out7 found8 x9 i10 k11 x30 x32 L1 L2 h)
    (p49z24 P K pairs0 s1 t2 out7 found8 x9 i10 k11 x30 undef L1 L2 h)) := (CutP_def _ _ _ _).trans (by kernel_rfl)
theorem q49z25 (P : Program) (K : Value → Heap → Prop) (pairs0 s1 t2 out7 found8 x9 : Value) (L1 L2 : List Value → Heap → Prop) (h : Heap) : p49z25 P K pairs0 s1 t2 out7 found8 x9 L1 L2 h =
  (OP (iBin .add x9 (.int .u8 (1))) fun x19 =>
  ([pairs0] : List Value) = [pairs0] ∧ L2 [s1, t2, out7, found8, x19] h) := (CutP_def _ _ _ _).trans (by kernel_rfl)
theorem q49z10 (P : Program) (K : Value → Heap → Prop) (pairs0 : Value) (L1 L2 : List Value → Heap → Prop) (s1 t2 out7 found8 x9 : Value) (h : Heap) : p49z10 P K pairs0 L1 L2 [s1, t2, out7, found8, x9] h =
  (OP (iBin .leq x9 (.int .u8 (102))) fun x13 =>
  p49z14 P K pairs0 s1 t2 out7 found8 x9 x13 L1 L2 h) := (CutP_def _ _ _ _).trans (by kernel_rfl)
theorem q49z26 (P : Program) (K : Value → Heap → Prop) (pairs0 s1 t2 out7 found8 : Value) (L1 : List Value → Heap → Prop) (h : Heap) : p49z26 P K pairs0 s1 t2 out7 found8 L1 h =
  (OP (iUn .not found8) fun x48 =>
  IfP x48
    (CallP P 21 [pairs0, out7] h fun x51 h_1 =>
    K x51 h_1)
    (([pairs0] : List Value) = [pairs0] ∧ L1 [s1, t2, out7] h)) := (CutP_def _ _ _ _).trans (by kernel_rfl)
theorem q49z4 (P : Program) (K : Value → Heap → Prop) (pairs0 : Value) (L1 : List Value → Heap → Prop) (s1 t2 out7 : Value) (h : Heap) : p49z4 P K pairs0 L1 [s1, t2, out7] h =
  (LoopP [s1, t2, out7, (.bool false), (.int .u8 (97))] h fun L2 xs hx =>
  p49z10 P K pairs0 L1 L2 xs hx) := (CutP_def _ _ _ _).trans (by kernel_rfl)
def T49 (P : Program) (K : Value → Heap → Prop) (pairs0 s1 t2 : Value) (h : Heap) : Prop :=
  LoopP [s1, t2, (.string ⟨#[]⟩)] h fun L1 xs hx =>
  p49z4 P K pairs0 L1 xs hx
theorem e49 (P : Program) (K : Value → Heap → Prop) (pairs0 s1 t2 : Value) (h : Heap) : iwpP P c49 (bodyP [.tmp 6] K) (frame0 [pairs0, s1, t2]) h = T49 P K pairs0 s1 t2 h := by kernel_rfl
theorem f49 {K : Value → Heap → Prop} {pairs0 s1 t2 : Value} {h : Heap} (H : T49 Try.prog K pairs0 s1 t2 h) : CallP Try.prog 49 [pairs0, s1, t2] h K :=
  callP_intro k49 (Nat.le_of_ble_eq_true rfl) ((e49 Try.prog K pairs0 s1 t2 h).mpr H)
/-! F50: pommel/pommelref03.Join -/
def c50z15 : ICode := .seq (.seq (.ops none [⟨(some 39), .p (.mv (.tmp 14))⟩,
     ⟨(some 40), .p (.mv (.tmp 11))⟩,
     ⟨(some 41), .p (.lenS (.tmp 40))⟩,
     ⟨(some 42), .p (.bin .lss (.tmp 39) (.tmp 41))⟩])
  (.cond (.tmp 42) (.skip)
  (.exit 2)))
 (.seq (.block 3 (.seq (.dops [(none, [⟨(some 45), .p (.mv (.tmp 0)), 0⟩,
      ⟨(some 46), .p (.mv (.tmp 9)), 0⟩,
      ⟨(some 47), .p (.mv (.tmp 13)), 0⟩,
      ⟨(some 48), .p (.idxS (.tmp 46) (.tmp 47)), 6⟩,
      ⟨(some 49), .p (.mv (.tmp 11)), 0⟩,
      ⟨(some 50), .p (.mv (.tmp 14)), 0⟩,
      ⟨(some 51), .p (.idxS (.tmp 49) (.tmp 50)), 48⟩,
      ⟨(some 52), .call 33 [(.tmp 45), (.tmp 48), (.tmp 51)], 127⟩,
      ⟨(some 53), .p (.un .not (.tmp 52)), 255⟩])])
   (.cond (.tmp 53) (.seq (.ops none [⟨(some 6), .p (.mv (.const (.string ⟨#[]⟩)))⟩,
       ⟨(some 7), .p (.mv (.const (.bool false)))⟩])
    (.ret))
   (.skip))))
 (.ops none [⟨(some 43), .p (.mv (.tmp 14))⟩,
   ⟨(some 44), .p (.bin .add (.tmp 43) (.const (.int .i64 (1))))⟩,
   ⟨(some 14), .p (.mv (.tmp 44))⟩]))
def c50z22 : ICode := .ops none [⟨(some 37), .p (.mv (.tmp 13))⟩,
   ⟨(some 38), .p (.bin .add (.tmp 37) (.const (.int .i64 (1))))⟩,
   ⟨(some 13), .p (.mv (.tmp 38))⟩]
def c50z11 : ICode := .cut [0, 8, 9, 11, 13] c50z22
def c50z8 : ICode := .seq (.seq (.ops none [⟨(some 33), .p (.mv (.tmp 13))⟩,
     ⟨(some 34), .p (.mv (.tmp 9))⟩,
     ⟨(some 35), .p (.lenS (.tmp 34))⟩,
     ⟨(some 36), .p (.bin .lss (.tmp 33) (.tmp 35))⟩])
  (.cond (.tmp 36) (.skip)
  (.exit 0)))
 (.seq (.block 1 (.seq (.ops none [⟨(some 14), .p (.mv (.const (.int .i64 (0))))⟩])
   (.block 2 (.loop [0, 8, 9, 11, 13] [14] c50z15)))) c50z11)
def c50z23 : ICode := .seq (.ops none [⟨(some 54), .p (.mv (.tmp 0))⟩,
    ⟨(some 55), .p (.mv (.tmp 8))⟩,
    ⟨(some 56), .p (.mv (.tmp 9))⟩,
    ⟨(some 57), .p (.bin .add (.tmp 55) (.tmp 56))⟩,
    ⟨(some 58), .p (.mv (.tmp 11))⟩,
    ⟨(some 59), .p (.bin .add (.tmp 57) (.tmp 58))⟩,
    ⟨(some 60), .call 21 [(.tmp 54), (.tmp 59)]⟩,
    ⟨(some 6), .p (.mv (.tmp 60))⟩,
    ⟨(some 7), .p (.mv (.const (.bool true)))⟩])
 (.ret)
def c50z5 : ICode := .cut [0, 8, 9, 11] c50z23
def c50 : ICode := .seq (.ops none [⟨(some 6), .p (.mv (.const (.string ⟨#[]⟩)))⟩,
    ⟨(some 7), .p (.mv (.const (.bool false)))⟩])
 (.seq (.ops none [⟨(some 15), .p (.mv (.tmp 0))⟩,
    ⟨(some 16), .p (.mv (.tmp 1))⟩,
    ⟨(some 17), .p (.mv (.tmp 2))⟩,
    ⟨(some 18), .call 49 [(.tmp 15), (.tmp 16), (.tmp 17)]⟩,
    ⟨(some 8), .p (.mv (.tmp 18))⟩])
 (.seq (.ops none [⟨(some 20), .p (.mv (.tmp 0))⟩,
    ⟨(some 21), .p (.mv (.tmp 8))⟩,
    ⟨(some 22), .p (.mv (.tmp 1))⟩,
    ⟨(some 23), .call 52 [(.tmp 20), (.tmp 21), (.tmp 22)]⟩,
    ⟨(some 19), .p (.mv (.tmp 23))⟩,
    ⟨(some 24), .p (.ext (.tmp 19) 0)⟩,
    ⟨(some 25), .p (.ext (.tmp 19) 1)⟩,
    ⟨(some 9), .p (.mv (.tmp 24))⟩,
    ⟨(some 10), .p (.mv (.tmp 25))⟩])
 (.seq (.ops none [⟨(some 27), .p (.mv (.tmp 0))⟩,
    ⟨(some 28), .p (.mv (.tmp 8))⟩,
    ⟨(some 29), .p (.mv (.tmp 2))⟩,
    ⟨(some 30), .call 52 [(.tmp 27), (.tmp 28), (.tmp 29)]⟩,
    ⟨(some 26), .p (.mv (.tmp 30))⟩,
    ⟨(some 31), .p (.ext (.tmp 26) 0)⟩,
    ⟨(some 32), .p (.ext (.tmp 26) 1)⟩,
    ⟨(some 11), .p (.mv (.tmp 31))⟩,
    ⟨(some 12), .p (.mv (.tmp 32))⟩])
 (.seq (.seq (.ops none [⟨(some 13), .p (.mv (.const (.int .i64 (0))))⟩])
  (.block 0 (.loop [0, 8, 9, 11] [13] c50z8))) c50z5))))
theorem k50 : compFn Try.prog 50 [[], [], [], [], [], [0, 8, 9, 11], [13], [], [], [], [0, 8, 9, 11, 13], [14], [], [], [], [], [], [0, 8, 9, 11, 13], [0, 8, 9, 11], []] = some (61, c50, [.tmp 6, .tmp 7]) := by kernel_rfl
def K50z0 (_P : Program) (K : Value → Heap → Prop) : Exit → (Nat → Value) → Heap → Prop := bodyP [.tmp 6, .tmp 7] K
def K50z5 (P : Program) (K : Value → Heap → Prop) : Exit → (Nat → Value) → Heap → Prop := thenK (iwpP P c50z5 (K50z0 P K)) (K50z0 P K)
def K50z7 (P : Program) (K : Value → Heap → Prop) : Exit → (Nat → Value) → Heap → Prop := inBlockK 0 (K50z5 P K)
def K50z8 (P : Program) (K : Value → Heap → Prop) (pairs0 x8 y9 z11 : Value) (L1 : List Value → Heap → Prop) : Exit → (Nat → Value) → Heap → Prop := thenK (fun f' h'' => (([0, 8, 9, 11] : List Nat).map f' : List Value) = [pairs0, x8, y9, z11] ∧ L1 (([13] : List Nat).map f') h'') (K50z7 P K)
def K50z11 (P : Program) (K : Value → Heap → Prop) (pairs0 x8 y9 z11 : Value) (L1 : List Value → Heap → Prop) : Exit → (Nat → Value) → Heap → Prop := thenK (iwpP P c50z11 (K50z8 P K pairs0 x8 y9 z11 L1)) (K50z8 P K pairs0 x8 y9 z11 L1)
def K50z12 (P : Program) (K : Value → Heap → Prop) (pairs0 x8 y9 z11 : Value) (L1 : List Value → Heap → Prop) : Exit → (Nat → Value) → Heap → Prop := inBlockK 1 (K50z11 P K pairs0 x8 y9 z11 L1)
def K50z14 (P : Program) (K : Value → Heap → Prop) (pairs0 x8 y9 z11 : Value) (L1 : List Value → Heap → Prop) : Exit → (Nat → Value) → Heap → Prop := inBlockK 2 (K50z12 P K pairs0 x8 y9 z11 L1)
def K50z15 (P : Program) (K : Value → Heap → Prop) (pairs0 x8 y9 z11 i13 : Value) (L1 L2 : List Value → Heap → Prop) : Exit → (Nat → Value) → Heap → Prop := thenK (fun f' h'' => (([0, 8, 9, 11, 13] : List Nat).map f' : List Value) = [pairs0, x8, y9, z11, i13] ∧ L2 (([14] : List Nat).map f') h'') (K50z14 P K pairs0 x8 y9 z11 L1)
def p50z8 (P : Program) (K : Value → Heap → Prop) (pairs0 x8 y9 z11 : Value) (L1 : List Value → Heap → Prop) (xs : List Value) (h : Heap) : Prop := CutP (iwpP P c50z8 (K50z8 P K pairs0 x8 y9 z11 L1)) ([0, 8, 9, 11] ++ [13]) ([pairs0, x8, y9, z11] ++ xs) h
def p50z15 (P : Program) (K : Value → Heap → Prop) (pairs0 x8 y9 z11 i13 : Value) (L1 L2 : List Value → Heap → Prop) (xs : List Value) (h : Heap) : Prop := CutP (iwpP P c50z15 (K50z15 P K pairs0 x8 y9 z11 i13 L1 L2)) ([0, 8, 9, 11, 13] ++ [14]) ([pairs0, x8, y9, z11, i13] ++ xs) h
def p50z22 (P : Program) (K : Value → Heap → Prop) (pairs0 x8 y9 z11 i13 : Value) (L1 : List Value → Heap → Prop) (h : Heap) : Prop := CutP (iwpP P c50z22 (K50z8 P K pairs0 x8 y9 z11 L1)) [0, 8, 9, 11, 13] [pairs0, x8, y9, z11, i13] h
def p50z23 (P : Program) (K : Value → Heap → Prop) (pairs0 x8 y9 z11 : Value) (h : Heap) : Prop := CutP (iwpP P c50z23 (K50z0 P K)) [0, 8, 9, 11] [pairs0, x8, y9, z11] h
theorem q50z15 (P : Program) (K : Value → Heap → Prop) (pairs0 x8 y9 z11 i13 : Value) (L1 L2 : List Value → Heap → Prop) (k14 : Value) (h : Heap) : p50z15 P K pairs0 x8 y9 z11 i13 L1 L2 [k14] h =
  (OP (iLenS z11) fun x41 =>
  OP (iBin .lss k14 x41) fun x42 =>
  IfP x42
    (OP (iIdxS y9 i13) fun x48 =>
    OP (iIdxS z11 k14) fun x51 =>
    CallP P 33 [pairs0, x48, x51] h fun x52 h_1 =>
    (True) ∧
    OP (iUn .not x52) fun x53 =>
    IfP x53
      (K (.tuple #[(.string ⟨#[]⟩), (.bool false)]) h_1)
      (OP (iBin .add k14 (.int .i64 (1))) fun x44 =>
      ([pairs0, x8, y9, z11, i13] : List Value) = [pairs0, x8, y9, z11, i13] ∧ L2 [x44] h_1))
    (p50z22 P K pairs0 x8 y9 z11 i13 L1 h)) := (CutP_def _ _ _ _).trans (by kernel_rfl)
theorem q50z22 (P : Program) (K : Value → Heap → Prop) (pairs0 x8 y9 z11 i13 : Value) (L1 : List Value → Heap → Prop) (h : Heap) : p50z22 P K pairs0 x8 y9 z11 i13 L1 h =
  (OP (iBin .add i13 (.int .i64 (1))) fun x38 =>
  ([pairs0, x8, y9, z11] : List Value) = [pairs0, x8, y9, z11] ∧ L1 [x38] h) := (CutP_def _ _ _ _).trans (by kernel_rfl)
theorem q50z8 (P : Program) (K : Value → Heap → Prop) (pairs0 x8 y9 z11 : Value) (L1 : List Value → Heap → Prop) (i13 : Value) (h : Heap) : p50z8 P K pairs0 x8 y9 z11 L1 [i13] h =
  (OP (iLenS y9) fun x35 =>
  OP (iBin .lss i13 x35) fun x36 =>
  IfP x36
    (LoopP [(.int .i64 (0))] h fun L2 xs hx =>
    p50z15 P K pairs0 x8 y9 z11 i13 L1 L2 xs hx)
    (p50z23 P K pairs0 x8 y9 z11 h)) := (CutP_def _ _ _ _).trans (by kernel_rfl)
theorem q50z23 (P : Program) (K : Value → Heap → Prop) (pairs0 x8 y9 z11 : Value) (h : Heap) : p50z23 P K pairs0 x8 y9 z11 h =
  (OP (iBin .add x8 y9) fun x57 =>
  OP (iBin .add x57 z11) fun x59 =>
  CallP P 21 [pairs0, x59] h fun x60 h_1 =>
  K (.tuple #[x60, (.bool true)]) h_1) := (CutP_def _ _ _ _).trans (by kernel_rfl)
def T50 (P : Program) (K : Value → Heap → Prop) (pairs0 s1 t2 : Value) (h : Heap) : Prop :=
  CallP P 49 [pairs0, s1, t2] h fun x18 h_1 =>
  CallP P 52 [pairs0, x18, s1] h_1 fun x23 h_2 =>
  OP (iExt 0 x23) fun x24 =>
  OP (iExt 1 x23) fun x25 =>
  CallP P 52 [pairs0, x18, t2] h_2 fun x30 h_3 =>
  OP (iExt 0 x30) fun x31 =>
  OP (iExt 1 x30) fun x32 =>
  LoopP [(.int .i64 (0))] h_3 fun L1 xs hx =>
  p50z8 P K pairs0 x18 x24 x31 L1 xs hx
theorem e50 (P : Program) (K : Value → Heap → Prop) (pairs0 s1 t2 : Value) (h : Heap) : iwpP P c50 (bodyP [.tmp 6, .tmp 7] K) (frame0 [pairs0, s1, t2]) h = T50 P K pairs0 s1 t2 h := by kernel_rfl
theorem f50 {K : Value → Heap → Prop} {pairs0 s1 t2 : Value} {h : Heap} (H : T50 Try.prog K pairs0 s1 t2 h) : CallP Try.prog 50 [pairs0, s1, t2] h K :=
  callP_intro k50 (Nat.le_of_ble_eq_true rfl) ((e50 Try.prog K pairs0 s1 t2 h).mpr H)
/-! F80: (*pommel/stitch.threads).meet -/
def c80z25 : ICode := .ops none [⟨(some 39), .p (.pick (.tmp 36) (.tmp 38) (.const (.bool false)))⟩]
def c80z23 : ICode := .seq (.ops (some (36, true)) [⟨(some 37), .p (.mv (.tmp 14))⟩,
    ⟨(some 38), .p (.bin .geq (.tmp 37) (.const (.int .i64 (0))))⟩])
 (.cut [0, 1, 2, 9, 10, 12, 13, 14, 19, 20, 36, 38] c80z25)
def c80z21 : ICode := .cond (.tmp 39) (.ops none [⟨(some 40), .p (.mv (.tmp 1))⟩,
    ⟨(some 41), .p (.mv (.tmp 13))⟩,
    ⟨(some 42), .call 85 [(.tmp 40), (.tmp 41)]⟩,
    ⟨(some 43), .p (.mv (.tmp 2))⟩,
    ⟨(some 44), .p (.mv (.tmp 14))⟩,
    ⟨(some 45), .call 85 [(.tmp 43), (.tmp 44)]⟩,
    ⟨(some 46), .p (.mv (.tmp 9))⟩,
    ⟨(some 47), .p (.mv (.tmp 12))⟩,
    ⟨(some 48), .e (.mkSl 5 1 [(.int .u8 (0))] [(0, 1, (.tmp 47))])⟩,
    ⟨(some 49), .e (.app 5 1 1 (.tmp 46) (.tmp 48))⟩,
    ⟨(some 1), .p (.mv (.tmp 42))⟩,
    ⟨(some 2), .p (.mv (.tmp 45))⟩,
    ⟨(some 9), .p (.mv (.tmp 49))⟩,
    ⟨(some 10), .p (.mv (.const (.bool true)))⟩])
 (.skip)
def c80z26 : ICode := .ops none [⟨(some 50), .p (.bin .add (.tmp 20) (.const (.int .i64 (1))))⟩,
   ⟨(some 20), .p (.mv (.tmp 50))⟩]
def c80z16 : ICode := .cut [0, 1, 2, 9, 10, 19, 20] c80z26
def c80z13 : ICode := .seq (.ops none [⟨(some 21), .p (.bin .lss (.tmp 20) (.tmp 19))⟩])
 (.seq (.cond (.tmp 21) (.skip)
  (.exit 2))
 (.seq (.block 3 (.seq (.ops none [⟨(some 22), .p (.mv (.tmp 20))⟩,
      ⟨(some 11), .p (.mv (.tmp 22))⟩])
   (.seq (.ops none [⟨(some 23), .p (.mv (.tmp 11))⟩,
      ⟨(some 24), .p (.conv .u8 (.tmp 23))⟩,
      ⟨(some 25), .p (.bin .add (.const (.int .u8 (97))) (.tmp 24))⟩,
      ⟨(some 12), .p (.mv (.tmp 25))⟩])
   (.seq (.ops none [⟨(some 26), .p (.mv (.tmp 0))⟩,
      ⟨(some 27), .p (.mv (.tmp 1))⟩,
      ⟨(some 28), .p (.mv (.tmp 12))⟩,
      ⟨(some 29), .call 84 [(.tmp 26), (.tmp 27), (.tmp 28)]⟩,
      ⟨(some 30), .p (.mv (.tmp 0))⟩,
      ⟨(some 31), .p (.mv (.tmp 2))⟩,
      ⟨(some 32), .p (.mv (.tmp 12))⟩,
      ⟨(some 33), .call 84 [(.tmp 30), (.tmp 31), (.tmp 32)]⟩,
      ⟨(some 13), .p (.mv (.tmp 29))⟩,
      ⟨(some 14), .p (.mv (.tmp 33))⟩])
   (.seq (.seq (.ops none [⟨(some 34), .p (.mv (.tmp 13))⟩,
       ⟨(some 35), .p (.bin .geq (.tmp 34) (.const (.int .i64 (0))))⟩,
       ⟨(some 36), .p (.mv (.tmp 35))⟩])
    (.cut [0, 1, 2, 9, 10, 12, 13, 14, 19, 20, 36] c80z23)) c80z21))))) c80z16))
def c80z6 : ICode := .seq (.seq (.ops none [⟨(some 15), .p (.mv (.tmp 10))⟩])
  (.cond (.tmp 15) (.skip)
  (.exit 0)))
 (.block 1 (.seq (.ops none [⟨(some 10), .p (.mv (.const (.bool false)))⟩])
  (.seq (.ops none [⟨(some 16), .p (.mv (.tmp 0))⟩,
     ⟨(some 17), .p (.nilck (.tmp 16))⟩,
     ⟨(some 18), .p (.fadr 0 (.tmp 17))⟩,
     ⟨(some 19), .l (.load false 1 (.tmp 18))⟩,
     ⟨(some 20), .p (.mv (.const (.int .i64 (0))))⟩])
  (.block 2 (.loop [0, 19] [1, 2, 9, 10, 20] c80z13)))))
def c80z27 : ICode := .seq (.ops none [⟨(some 51), .p (.mv (.tmp 9))⟩,
    ⟨(some 52), .l (.b2s (.tmp 51))⟩,
    ⟨(some 53), .p (.mv (.tmp 1))⟩,
    ⟨(some 54), .p (.mv (.tmp 2))⟩,
    ⟨(some 6), .p (.mv (.tmp 52))⟩,
    ⟨(some 7), .p (.mv (.tmp 53))⟩,
    ⟨(some 8), .p (.mv (.tmp 54))⟩])
 (.ret)
def c80z3 : ICode := .cut [1, 2, 9] c80z27
def c80 : ICode := .seq (.ops none [⟨(some 6), .p (.mv (.const (.string ⟨#[]⟩)))⟩,
    ⟨(some 7), .p (.mv (.const (.string ⟨#[]⟩)))⟩,
    ⟨(some 8), .p (.mv (.const (.string ⟨#[]⟩)))⟩])
 (.seq (.ops none [⟨(some 9), .p (.mv (.const (.slice none 0 0)))⟩])
 (.seq (.seq (.ops none [⟨(some 10), .p (.mv (.const (.bool true)))⟩])
  (.block 0 (.loop [0] [1, 2, 9, 10] c80z6))) c80z3))
theorem k80 : compFn Try.prog 80 [[], [], [], [0], [1, 2, 9, 10], [], [], [], [], [0, 19], [1, 2, 9, 10, 20], [], [], [], [], [], [0, 1, 2, 9, 10, 12, 13, 14, 19, 20, 36], [0, 1, 2, 9, 10, 12, 13, 14, 19, 20, 36, 38], [], [0, 1, 2, 9, 10, 19, 20], [1, 2, 9], []] = some (55, c80, [.tmp 6, .tmp 7, .tmp 8]) := by kernel_rfl
def K80z0 (_P : Program) (K : Value → Heap → Prop) : Exit → (Nat → Value) → Heap → Prop := bodyP [.tmp 6, .tmp 7, .tmp 8] K
def K80z3 (P : Program) (K : Value → Heap → Prop) : Exit → (Nat → Value) → Heap → Prop := thenK (iwpP P c80z3 (K80z0 P K)) (K80z0 P K)
def K80z5 (P : Program) (K : Value → Heap → Prop) : Exit → (Nat → Value) → Heap → Prop := inBlockK 0 (K80z3 P K)
def K80z6 (P : Program) (K : Value → Heap → Prop) (t0 : Value) (L1 : List Value → Heap → Prop) : Exit → (Nat → Value) → Heap → Prop := thenK (fun f' h'' => (([0] : List Nat).map f' : List Value) = [t0] ∧ L1 (([1, 2, 9, 10] : List Nat).map f') h'') (K80z5 P K)
def K80z9 (P : Program) (K : Value → Heap → Prop) (t0 : Value) (L1 : List Value → Heap → Prop) : Exit → (Nat → Value) → Heap → Prop := inBlockK 1 (K80z6 P K t0 L1)
def K80z12 (P : Program) (K : Value → Heap → Prop) (t0 : Value) (L1 : List Value → Heap → Prop) : Exit → (Nat → Value) → Heap → Prop := inBlockK 2 (K80z9 P K t0 L1)
def K80z13 (P : Program) (K : Value → Heap → Prop) (t0 x19 : Value) (L1 L2 : List Value → Heap → Prop) : Exit → (Nat → Value) → Heap → Prop := thenK (fun f' h'' => (([0, 19] : List Nat).map f' : List Value) = [t0, x19] ∧ L2 (([1, 2, 9, 10, 20] : List Nat).map f') h'') (K80z12 P K t0 L1)
def K80z16 (P : Program) (K : Value → Heap → Prop) (t0 x19 : Value) (L1 L2 : List Value → Heap → Prop) : Exit → (Nat → Value) → Heap → Prop := thenK (iwpP P c80z16 (K80z13 P K t0 x19 L1 L2)) (K80z13 P K t0 x19 L1 L2)
def K80z17 (P : Program) (K : Value → Heap → Prop) (t0 x19 : Value) (L1 L2 : List Value → Heap → Prop) : Exit → (Nat → Value) → Heap → Prop := inBlockK 3 (K80z16 P K t0 x19 L1 L2)
def K80z21 (P : Program) (K : Value → Heap → Prop) (t0 x19 : Value) (L1 L2 : List Value → Heap → Prop) : Exit → (Nat → Value) → Heap → Prop := thenK (iwpP P c80z21 (K80z17 P K t0 x19 L1 L2)) (K80z17 P K t0 x19 L1 L2)
def p80z6 (P : Program) (K : Value → Heap → Prop) (t0 : Value) (L1 : List Value → Heap → Prop) (xs : List Value) (h : Heap) : Prop := CutP (iwpP P c80z6 (K80z6 P K t0 L1)) ([0] ++ [1, 2, 9, 10]) ([t0] ++ xs) h
def p80z13 (P : Program) (K : Value → Heap → Prop) (t0 x19 : Value) (L1 L2 : List Value → Heap → Prop) (xs : List Value) (h : Heap) : Prop := CutP (iwpP P c80z13 (K80z13 P K t0 x19 L1 L2)) ([0, 19] ++ [1, 2, 9, 10, 20]) ([t0, x19] ++ xs) h
def p80z23 (P : Program) (K : Value → Heap → Prop) (t0 s1 u2 out9 more10 c12 i13 j14 x19 x20 x36 : Value) (L1 L2 : List Value → Heap → Prop) (h : Heap) : Prop := CutP (iwpP P c80z23 (K80z21 P K t0 x19 L1 L2)) [0, 1, 2, 9, 10, 12, 13, 14, 19, 20, 36] [t0, s1, u2, out9, more10, c12, i13, j14, x19, x20, x36] h
def p80z25 (P : Program) (K : Value → Heap → Prop) (t0 s1 u2 out9 more10 c12 i13 j14 x19 x20 x36 x38 : Value) (L1 L2 : List Value → Heap → Prop) (h : Heap) : Prop := CutP (iwpP P c80z25 (K80z21 P K t0 x19 L1 L2)) [0, 1, 2, 9, 10, 12, 13, 14, 19, 20, 36, 38] [t0, s1, u2, out9, more10, c12, i13, j14, x19, x20, x36, x38] h
def p80z26 (P : Program) (K : Value → Heap → Prop) (t0 s1 u2 out9 more10 x19 x20 : Value) (L1 L2 : List Value → Heap → Prop) (h : Heap) : Prop := CutP (iwpP P c80z26 (K80z13 P K t0 x19 L1 L2)) [0, 1, 2, 9, 10, 19, 20] [t0, s1, u2, out9, more10, x19, x20] h
def p80z27 (P : Program) (K : Value → Heap → Prop) (s1 u2 out9 : Value) (h : Heap) : Prop := CutP (iwpP P c80z27 (K80z0 P K)) [1, 2, 9] [s1, u2, out9] h
theorem q80z25 (P : Program) (K : Value → Heap → Prop) (t0 s1 u2 out9 more10 c12 i13 j14 x19 x20 x36 x38 : Value) (L1 L2 : List Value → Heap → Prop) (h : Heap) : p80z25 P K t0 s1 u2 out9 more10 c12 i13 j14 x19 x20 x36 x38 L1 L2 h =
  (OP (iPick x36 x38 (.bool false)) fun x39 =>
  IfP x39
    (CallP P 85 [s1, i13] h fun x42 h_1 =>
    CallP P 85 [u2, j14] h_1 fun x45 h_2 =>
    OH (iMkSl 5 1 [(.int .u8 (0))] h_2 [(0, 1, c12)]) fun x48 h_3 =>
    OH (iApp 5 1 1 h_3 out9 x48) fun x49 h_4 =>
    p80z26 P K t0 x42 x45 x49 (.bool true) x19 x20 L1 L2 h_4)
    (p80z26 P K t0 s1 u2 out9 more10 x19 x20 L1 L2 h)) := (CutP_def _ _ _ _).trans (by kernel_rfl)
theorem q80z23 (P : Program) (K : Value → Heap → Prop) (t0 s1 u2 out9 more10 c12 i13 j14 x19 x20 x36 : Value) (L1 L2 : List Value → Heap → Prop) (h : Heap) : p80z23 P K t0 s1 u2 out9 more10 c12 i13 j14 x19 x20 x36 L1 L2 h =
  (GdP x36 true
    (OP (iBin .geq j14 (.int .i64 (0))) fun x38 =>
    p80z25 P K t0 s1 u2 out9 more10 c12 i13 j14 x19 x20 x36 x38 L1 L2 h)
    (p80z25 P K t0 s1 u2 out9 more10 c12 i13 j14 x19 x20 x36 undef L1 L2 h)) := (CutP_def _ _ _ _).trans (by kernel_rfl)
theorem q80z26 (P : Program) (K : Value → Heap → Prop) (t0 s1 u2 out9 more10 x19 x20 : Value) (L1 L2 : List Value → Heap → Prop) (h : Heap) : p80z26 P K t0 s1 u2 out9 more10 x19 x20 L1 L2 h =
  (OP (iBin .add x20 (.int .i64 (1))) fun x50 =>
  ([t0, x19] : List Value) = [t0, x19] ∧ L2 [s1, u2, out9, more10, x50] h) := (CutP_def _ _ _ _).trans (by kernel_rfl)
theorem q80z13 (P : Program) (K : Value → Heap → Prop) (t0 x19 : Value) (L1 L2 : List Value → Heap → Prop) (s1 u2 out9 more10 x20 : Value) (h : Heap) : p80z13 P K t0 x19 L1 L2 [s1, u2, out9, more10, x20] h =
  (OP (iBin .lss x20 x19) fun x21 =>
  IfP x21
    (OP (iConv .u8 x20) fun x24 =>
    OP (iBin .add (.int .u8 (97)) x24) fun x25 =>
    CallP P 84 [t0, s1, x25] h fun x29 h_1 =>
    CallP P 84 [t0, u2, x25] h_1 fun x33 h_2 =>
    OP (iBin .geq x29 (.int .i64 (0))) fun x35 =>
    p80z23 P K t0 s1 u2 out9 more10 x25 x29 x33 x19 x20 x35 L1 L2 h_2)
    (([t0] : List Value) = [t0] ∧ L1 [s1, u2, out9, more10] h)) := (CutP_def _ _ _ _).trans (by kernel_rfl)
theorem q80z6 (P : Program) (K : Value → Heap → Prop) (t0 : Value) (L1 : List Value → Heap → Prop) (s1 u2 out9 more10 : Value) (h : Heap) : p80z6 P K t0 L1 [s1, u2, out9, more10] h =
  (IfP more10
    (OP (iNilck t0) fun x17 =>
    OP (iFadr 0 x17) fun x18 =>
    OP (iLoad false 1 h x18) fun x19 =>
    LoopP [s1, u2, out9, (.bool false), (.int .i64 (0))] h fun L2 xs hx =>
    p80z13 P K t0 x19 L1 L2 xs hx)
    (p80z27 P K s1 u2 out9 h)) := (CutP_def _ _ _ _).trans (by kernel_rfl)
theorem q80z27 (P : Program) (K : Value → Heap → Prop) (s1 u2 out9 : Value) (h : Heap) : p80z27 P K s1 u2 out9 h =
  (OP (iB2s h out9) fun x52 =>
  K (.tuple #[x52, s1, u2]) h) := (CutP_def _ _ _ _).trans (by kernel_rfl)
def T80 (P : Program) (K : Value → Heap → Prop) (t0 s1 u2 : Value) (h : Heap) : Prop :=
  LoopP [s1, u2, (.slice none 0 0), (.bool true)] h fun L1 xs hx =>
  p80z6 P K t0 L1 xs hx
theorem e80 (P : Program) (K : Value → Heap → Prop) (t0 s1 u2 : Value) (h : Heap) : iwpP P c80 (bodyP [.tmp 6, .tmp 7, .tmp 8] K) (frame0 [t0, s1, u2]) h = T80 P K t0 s1 u2 h := by kernel_rfl
theorem f80 {K : Value → Heap → Prop} {t0 s1 u2 : Value} {h : Heap} (H : T80 Try.prog K t0 s1 u2 h) : CallP Try.prog 80 [t0, s1, u2] h K :=
  callP_intro k80 (Nat.le_of_ble_eq_true rfl) ((e80 Try.prog K t0 s1 u2 h).mpr H)
end Go.Proofs.Ytjdlcokhlphmhaa
